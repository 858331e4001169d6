/- What is proved here: the contracts of way.Same, and of the law WayBack. -/
import Derived.Test.YtonlnlkkokigiaaC10b
import Derived.Test.YtonlnlkkokigiaaC5
set_option linter.unusedSimpArgs false
set_option maxRecDepth 100000
set_option linter.unusedVariables false
namespace Go.Vg
open Go Go.Proofs
theorem mail_eq {m m' : Mail} : m = m' ↔ m.agent = m'.agent ∧ m.try_ = m'.try_ ∧ m.rep = m'.rep ∧ m.good = m'.good ∧ m.rel = m'.rel := by
  cases m; cases m'; simp
abbrev mailArg (m : Mail) (a : Option Addr) (n c : Nat) : Value := .agg #[.int .i64 m.agent, .int .i64 m.try_, .bool m.rep, .bool m.good, .int .i64 m.rel.id, .slice a n c]
theorem cMailEqA {H : Heap} {a a' : Option Addr} {l c l' c' : Nat} {m m' : Mail} (hp : Pins H a l m.rel.lock) (hq : Pins H a' l' m'.rel.lock) : Spec Try.prog 118 [mailArg m a l c, mailArg m' a' l' c'] H fun v _ => v = .bool (decide (m = m')) := by
  refine TryvcJ Try.func118 (by kernel_rfl) (by kernel_rfl) _ rfl (fun base K => vc118 m.agent m.try_ m.rel.id m'.agent m'.try_ m'.rel.id m.rep m.good m'.rep m'.good a a' l c l' c' base H K) fun base hb => ?_
  intro b b1
  refine ⟨m = m', ⟨fun h1 => ⟨fun h2 => ⟨_, eqBool, fun h3 => ⟨_, eqBool, fun h4 => (cAlike hp hq _ _).bool1 fun H1 e1 _ => ⟨rfl, e1, ?_⟩, fun h4 => ⟨rfl, fun _ _ h => h, fun h => h4 (by simp [h])⟩⟩, fun h3 => ⟨rfl, fun _ _ h => h, fun h => h3 (by simp [h])⟩⟩, fun h2 => ⟨rfl, fun _ _ h => h, fun h => h2 (by rw [h])⟩⟩, fun h1 => ⟨rfl, fun _ _ h => h, fun h => h1 (by rw [h])⟩⟩, ?_⟩
  · rw [mail_eq]
    simp only [beq_iff_eq] at h3 h4
    simp [h1, h2, h3, h4]
    exact ⟨fun h => by rw [h]; exact ⟨rfl, rfl⟩, fun h => by cases hm : m.rel; cases hm' : m'.rel; simp_all⟩
  · congr 1
    exact decide_eq_decide.2 Iff.rfl
theorem cMailEqB {H : Heap} {a a' : Option Addr} {l c l' c' : Nat} {m m' : Mail} (hp : Pins H a l m.rel.lock) (hq : Pins H a' l' m'.rel.lock) : Spec Try.prog 119 [mailArg m a l c, mailArg m' a' l' c'] H fun v _ => v = .bool (decide (m = m')) := by
  refine TryvcJ Try.func119 (by kernel_rfl) (by kernel_rfl) _ rfl (fun base K => vc119 m.agent m.try_ m.rel.id m'.agent m'.try_ m'.rel.id m.rep m.good m'.rep m'.good a a' l c l' c' base H K) fun base hb => ?_
  intro b b1
  refine ⟨m = m', ⟨fun h1 => ⟨fun h2 => ⟨_, eqBool, fun h3 => ⟨_, eqBool, fun h4 => (cRefAlike hp hq _ _).bool1 fun H1 e1 _ => ⟨rfl, e1, ?_⟩, fun h4 => ⟨rfl, fun _ _ h => h, fun h => h4 (by simp [h])⟩⟩, fun h3 => ⟨rfl, fun _ _ h => h, fun h => h3 (by simp [h])⟩⟩, fun h2 => ⟨rfl, fun _ _ h => h, fun h => h2 (by rw [h])⟩⟩, fun h1 => ⟨rfl, fun _ _ h => h, fun h => h1 (by rw [h])⟩⟩, ?_⟩
  · rw [mail_eq]
    simp only [beq_iff_eq] at h3 h4
    simp [h1, h2, h3, h4]
    exact ⟨fun h => by rw [h]; exact ⟨rfl, rfl⟩, fun h => by cases hm : m.rel; cases hm' : m'.rel; simp_all⟩
  · congr 1
    exact decide_eq_decide.2 Iff.rfl
theorem cSame {H : Heap} {a a' : Option Addr} {l c l' c' : Nat} {xs ys : List Mail} (hx : Mails H a l xs) (hy : Mails H a' l' ys) : Spec Try.prog 47 [.slice a l c, .slice a' l' c'] H fun v _ => v = .bool (decide (xs = ys)) := by
  have h117 : Spec Try.prog 117 [.slice a l c, .slice a' l' c', .func (.func 118) #[] #[]] H fun v _ => v = .bool (decide (xs = ys)) := by
    refine TryvcJ Try.func117 (by kernel_rfl) (by kernel_rfl) _ rfl (fun base K => vc117a a a' l c l' c' base H K) fun base hb => ?_
    have hxl := hx.len
    have hyl := hy.len
    have hle := hx.le
    refine ⟨fun hne => ?_, fun he => ?_⟩
    · rw [decide_eq_false]; rintro rfl; omega
    refine ⟨fun vs _ => ∃ (b : Bool) (k : Nat), vs = [.bool b, i64 k] ∧ k ≤ l ∧ (xs.drop k = ys.drop k ↔ xs = ys), upTo l 1, ⟨false, 0, rfl, by omega, by simp⟩, fun b n H' hN hI => ?_⟩
    obtain ⟨b', k, hvs, hk, hI⟩ := hI
    obtain ⟨rfl, rfl⟩ : b = b' ∧ n = (k : Int) := by simpa using hvs
    refine ⟨fun hlt => hx.mail hN.ext (by omega) hlt fun m a1 n1 c1 hm hp => fun b4 => hy.mail hN.ext (by omega) (by omega) fun m' a2 n2 c2 hm' hq => fun b8 => (cMailEqA (hp.ext' hN.ext) (hq.ext' hN.ext)).bool1 fun H2 e2 _ => ⟨fun h => ?_, fun h => ?_⟩, fun hge => ?_⟩
    · rw [Int.toNat_natCast] at hm hm'
      rw [drop_at hm, drop_at hm'] at hI
      rw [decide_eq_false]
      intro e
      exact absurd (List.cons.inj (hI.2 e)).1 (by simpa using h)
    · rw [Int.toNat_natCast] at hm hm'
      rw [drop_at hm, drop_at hm'] at hI
      have hpq : m = m' := by simpa using h
      rintro r rfl
      rw [wrap_in (by omega) (by omega)]
      exact ⟨⟨b, k + 1, rfl, by omega, by rw [← hI]; simp [hpq]⟩, by simp [upTo]; omega⟩
    · rw [decide_eq_true]
      exact hI.1 (by rw [drop_all hxl (by omega), drop_all hyl (by omega)])
  refine TryvcJ Try.func47 (by kernel_rfl) (by kernel_rfl) _ rfl (fun base K => vc47 a a' l c l' c' base H K) fun base hb => ?_
  exact h117.bool1 fun H1 _ _ => rfl
theorem cRefSame {H : Heap} {a a' : Option Addr} {l c l' c' : Nat} {xs ys : List Mail} (hx : Mails H a l xs) (hy : Mails H a' l' ys) : Spec Try.prog 51 [.slice a l c, .slice a' l' c'] H fun v _ => v = .bool (decide (xs = ys)) := by
  have h117 : Spec Try.prog 117 [.slice a l c, .slice a' l' c', .func (.func 119) #[] #[]] H fun v _ => v = .bool (decide (xs = ys)) := by
    refine TryvcJ Try.func117 (by kernel_rfl) (by kernel_rfl) _ rfl (fun base K => vc117b a a' l c l' c' base H K) fun base hb => ?_
    have hxl := hx.len
    have hyl := hy.len
    have hle := hx.le
    refine ⟨fun hne => ?_, fun he => ?_⟩
    · rw [decide_eq_false]; rintro rfl; omega
    refine ⟨fun vs _ => ∃ (b : Bool) (k : Nat), vs = [.bool b, i64 k] ∧ k ≤ l ∧ (xs.drop k = ys.drop k ↔ xs = ys), upTo l 1, ⟨false, 0, rfl, by omega, by simp⟩, fun b n H' hN hI => ?_⟩
    obtain ⟨b', k, hvs, hk, hI⟩ := hI
    obtain ⟨rfl, rfl⟩ : b = b' ∧ n = (k : Int) := by simpa using hvs
    refine ⟨fun hlt => hx.mail hN.ext (by omega) hlt fun m a1 n1 c1 hm hp => fun b4 => hy.mail hN.ext (by omega) (by omega) fun m' a2 n2 c2 hm' hq => fun b8 => (cMailEqB (hp.ext' hN.ext) (hq.ext' hN.ext)).bool1 fun H2 e2 _ => ⟨fun h => ?_, fun h => ?_⟩, fun hge => ?_⟩
    · rw [Int.toNat_natCast] at hm hm'
      rw [drop_at hm, drop_at hm'] at hI
      rw [decide_eq_false]
      intro e
      exact absurd (List.cons.inj (hI.2 e)).1 (by simpa using h)
    · rw [Int.toNat_natCast] at hm hm'
      rw [drop_at hm, drop_at hm'] at hI
      have hpq : m = m' := by simpa using h
      rintro r rfl
      rw [wrap_in (by omega) (by omega)]
      exact ⟨⟨b, k + 1, rfl, by omega, by rw [← hI]; simp [hpq]⟩, by simp [upTo]; omega⟩
    · rw [decide_eq_true]
      exact hI.1 (by rw [drop_all hxl (by omega), drop_all hyl (by omega)])
  refine TryvcJ Try.func51 (by kernel_rfl) (by kernel_rfl) _ rfl (fun base K => vc51 a a' l c l' c' base H K) fun base hb => ?_
  exact h117.bool1 fun H1 _ _ => rfl
/-- A call that yields mail, a piece of mail, an error. -/
theorem Spec.mail3 {P : Program} {f : FuncId} {args : List Value} {H : Heap} {x : Mail} {e : Int} {Q : Option Addr → Nat → Nat → Heap → Prop} (h : Spec P f args H fun v H' => ∃ a n c la ln lc, v = .tuple #[.slice a n c, .agg (mailVal x la ln lc).toArray, i64 e] ∧ Q a n c H' ∧ Pins H' la ln x.rel.lock) {base : Nat}
    {G : Option Addr → Nat → Nat → Int → Int → Bool → Bool → Int → Option Addr → Nat → Nat → Int → Heap → Prop} (hG : ∀ a n c la ln lc H', Ext H H' → Next base H H' → Q a n c H' → Pins H' la ln x.rel.lock → G a n c x.agent x.try_ x.rep x.good x.rel.id la ln lc e H') :
    Spec P f args H fun v H' => ∃ (a : Option Addr) (n c : Nat) (n5 n6 : Int) (b2 b3 : Bool) (n7 : Int) (a8 : Option Addr) (n8 c3 : Nat) (n9 : Int), v = .tuple #[.slice a n c, .agg #[.int .i64 n5, .int .i64 n6, .bool b2, .bool b3, .int .i64 n7, .slice a8 n8 c3], .int .i64 n9] ∧ (Next base H H' → G a n c n5 n6 b2 b3 n7 a8 n8 c3 n9 H') :=
  h.mono fun v H' ex hv => by
    obtain ⟨a, n, c, la, ln, lc, h1, h2, h3⟩ := hv
    exact ⟨a, n, c, _, _, _, _, _, la, ln, lc, e, h1, fun hN => hG a n c la ln lc H' ex hN h2 h3⟩
/-! ### A closed fact -/
def m1 : Mail := ⟨1, 2, true, true, ⟨0, []⟩⟩
def m2 : Mail := ⟨2, 3, false, false, ⟨2, [⟨1, 2⟩, ⟨2, 1⟩]⟩⟩
theorem cSecond {H : Heap} : Spec Try.prog 116 [] H fun v H' => ∃ a n c, v = .agg #[i64 2, .slice a n c] ∧ Pins H' a n [⟨1, 2⟩, ⟨2, 1⟩] := by
  refine TryvcJ Try.func116 (by kernel_rfl) (by kernel_rfl) _ rfl (fun base K => vc116 base H K) fun base hb => ?_
  intro b g H1 hN1 _ hg
  exact ⟨_, _, _, rfl, sl_of_boxE pinCells_len (xs := [⟨1, 2⟩, ⟨2, 1⟩]) hg rfl (by decide)⟩
theorem cPosted {H : Heap} : Spec Try.prog 46 [] H fun v _ => v = .bool true := by
  refine TryvcJ Try.func46 (by kernel_rfl) (by kernel_rfl) _ rfl (fun base K => vc46 base H K) fun base hb => ?_
  intro b
  refine cSecond.mono fun v H1 e1 hv => ?_
  obtain ⟨a, n, c, rfl, hp⟩ := hv
  refine ⟨2, a, n, c, rfl, fun hN1 => ?_⟩
  intro b1 g H2 hN2 _ hg
  have bx : Mails H2 (some ⟨g, 0, none⟩) 1 [m1] := mail_box (m := m1) hg Sl.nil
  refine (cSend bx m2 (hp.ext' hN2.ext)).sl2 fun a3 n3 c3 H3 e3 _ hS => ?_
  obtain ⟨_, hS⟩ := hS
  rw [show sendErr [m1] m2 = 0 from by decide] at hS ⊢
  rw [if_pos rfl, show sent [m1] m2 = [m1, m2] from by decide] at hS
  have hp3 := (hp.ext' hN2.ext).ext' e3
  refine (cTake hS 0 false).mail3 fun a4 n4 c4 la ln lc H4 e4 _ hT hl => fun b4 => ?_
  rw [show takeErr [m1, m2] 0 = 0 from by decide] at hT hl ⊢
  rw [if_pos rfl, show left [m1, m2] 0 false = [m2] from by decide] at hT
  rw [if_pos rfl, show took [m1, m2] 0 = m1 from by decide] at hl ⊢
  refine (cTake hT 1 true).mail3 fun a5 n5 c5 la5 ln5 lc5 H5 e5 _ hT5 hl5 => fun b7 => ?_
  have h3 := hS.len
  refine ⟨True, ⟨fun _ => ⟨fun _ => ⟨fun _ => ⟨fun _ => ?_, fun h => absurd (by simp at h3; omega) h⟩, fun h => absurd (by decide) h⟩, fun h => absurd rfl h⟩, fun h => absurd rfl h⟩, by simp⟩
  intro g6 H6 hN6 _ hg6
  have b6 : Mails H6 (some ⟨g6, 0, none⟩) 1 [m2] := mail_box (m := m2) hg6 (((hp3.ext' e4).ext' e5).ext' hN6.ext)
  refine (cSame ((hT.ext' e5).ext' hN6.ext) b6).bool1 fun H7 e7 _ => ⟨fun _ => ?_, fun h => by simp at h⟩
  intro g8 H8 hN8 _ hg8 g9 H9 hN9 _ hg9
  have b8 : Mails H8 (some ⟨g8, 0, none⟩) 1 [m1] := mail_box (m := m1) hg8 ((((hl.ext' e5).ext' hN6.ext).ext' e7).ext' hN8.ext)
  have b9 : Mails H9 (some ⟨g9, 0, none⟩) 1 [m1] := mail_box (m := m1) hg9 Sl.nil
  exact (cSame (b8.ext' hN9.ext) b9).bool1 fun H10 e10 _ => ⟨rfl, Ext.trans (Ext.trans (Ext.trans (Ext.trans hN6.ext e7) hN8.ext) hN9.ext) e10, by simp⟩
/-! ### The law WayBack -/
theorem mailsFrom_app : ∀ {a b : List Mail}, mailsFrom a = 0 → mailsFrom (a ++ b) = mailsFrom b
  | [], b, _ => rfl
  | m :: q, b, h => by
    unfold mailsFrom at h
    rw [List.cons_append, mailsFrom]
    split at h
    · omega
    · split at h
      · omega
      · rename_i h1 h2
        rw [if_neg h1, if_neg h2]
        split at h
        · rename_i h3; rw [if_pos h3]; exact mailsFrom_app h
        · rename_i h3
          rw [if_neg h3]
          split at h
          · rename_i h4; exact absurd h h4
          · rename_i h4; rw [if_neg h4]; exact mailsFrom_app h
theorem sent_ok {ms : List Mail} {m : Mail} (h : sendErr ms m = 0) : mailsCheck ms = 0 ∧ mailsCheck [m] = 0 ∧ mailsCheck (sent ms m) = 0 := by
  unfold sendErr at h
  split at h
  · rename_i h1
    refine ⟨h1, h, ?_⟩
    unfold sent
    split
    · rename_i h2
      have h1' := h1
      have h' := h
      unfold mailsCheck at h1' h' ⊢
      rw [if_neg (by omega)] at h1'
      rw [if_neg (by simp)] at h'
      rw [if_neg (by simp; omega), mailsFrom_app h1']
      exact h'
    · exact h1
  · rename_i h1; exact absurd h h1
theorem cWayBack {H : Heap} {a a' : Option Addr} {l c l' c' : Nat} {ms : List Mail} (hx : Mails H a l ms) (m : Mail) (hp : Pins H a' l' m.rel.lock) (k : Int) :
    Spec Try.prog 9 [.slice a l c, mailArg m a' l' c', i64 k] H fun v _ => v = .bool true := by
  refine TryvcJ Try.func9 (by kernel_rfl) (by kernel_rfl) _ rfl (fun base K => vc9 a a' l c l' c' m.agent m.try_ m.rel.id k m.rep m.good base H K) fun base hb => ?_
  intro b
  have hml := hx.len
  refine (cSend hx m hp).sl2 fun a1 n1 c1 H1 e1 _ hS => ⟨¬ sendErr ms m = 0, cPosted.bool1 fun H2 e2 _ => ⟨fun h => by simp at h, fun _ => ⟨rfl, e2, Iff.rfl⟩⟩, fun h => cPosted.bool1 fun H3 _ _ => rfl, fun h => ?_⟩
  have h := Decidable.not_not.1 h
  obtain ⟨hnc, hS⟩ := hS
  rw [if_pos h] at hS
  obtain ⟨k1, k2, k3⟩ := sent_ok h
  obtain ⟨h40, _⟩ := mailsCheck_zero k1
  have hSl := hS.len
  have x1 := hx.ext' e1
  have p1 := hp.ext' e1
  refine ⟨fun hl => (cSame hS x1).bool1 fun H2 _ _ => ?_, fun hl => ?_⟩
  · have : sent ms m = ms := by rw [sent, if_neg (by omega)]
    simp [this]
  have hsent : sent ms m = ms ++ [m] := by rw [sent, if_pos (by omega)]
  rw [hsent] at hS hSl k3
  have hn1 : n1 = l + 1 := by simp at hSl; omega
  have hE : takeErr (ms ++ [m]) l = 0 := by rw [takeErr, if_pos k3, if_neg (by simp; omega)]
  have htook : took (ms ++ [m]) l = m := by
    rw [took, Int.toNat_natCast, List.getD_eq_getElem?_getD, List.getElem?_append_right (by omega), hml, Nat.sub_self]; rfl
  have hleft : left (ms ++ [m]) l false = ms := by
    rw [left, if_neg (by simp), Int.toNat_natCast, List.take_append_of_le_length (by omega), List.take_of_length_le (by omega), List.drop_eq_nil_of_le (by simp; omega), List.append_nil]
  refine (cTake hS (l : Int) false).mail3 fun a3 n3 c3 la ln lc H3 e3 _ hT hl3 => fun b3 => ?_
  rw [hE, if_pos rfl, hleft] at hT
  rw [hE, if_pos rfl, htook] at hl3
  rw [hE, if_pos rfl, htook]
  refine ⟨False, ⟨fun h => absurd rfl h, fun _ => (cSame hT (x1.ext' e3)).bool1 fun H4 e4 _ => ⟨fun h => by simp at h, fun _ => ?_⟩⟩, fun h => h.elim, fun _ => ?_⟩
  · intro g5 H5 hN5 _ hg5 g6 H6 hN6 _ hg6
    have b5 : Mails H5 (some ⟨g5, 0, none⟩) 1 [m] := mail_box (m := m) hg5 ((hl3.ext' e4).ext' hN5.ext)
    have b6 : Mails H6 (some ⟨g6, 0, none⟩) 1 [m] := mail_box (m := m) hg6 ((((p1.ext' e3).ext' e4).ext' hN5.ext).ext' hN6.ext)
    exact (cSame (b5.ext' hN6.ext) b6).bool1 fun H7 e7 _ => ⟨rfl, Ext.trans (Ext.trans (Ext.trans e4 hN5.ext) hN6.ext) e7, by simp⟩
  refine (cAt k (n1 : Int) (by omega) (by omega)).int1 fun H4 e4 _ => ?_
  have hat := atP_range k (n := (n1 : Int)) (by omega)
  have hS4 := (hS.ext' e3).ext' e4
  refine (cTake hS4 (atP k n1) true).mail3 fun a5 n5 c5 la5 ln5 lc5 H5 e5 _ hT5 hl5 => fun b5 => ?_
  have hE5 : takeErr (ms ++ [m]) (atP k n1) = 0 := by rw [takeErr, if_pos k3, if_neg (by simp; omega)]
  rw [hE5, if_pos rfl, left, if_pos rfl] at hT5
  rw [hE5, if_pos rfl] at hl5
  rw [hE5, if_pos rfl]
  refine ⟨fun _ => (cSame hT5 (hS4.ext' e5)).bool1 fun H6 e6 _ => ⟨fun _ => ?_, fun h => by simp at h⟩, fun h => absurd rfl h⟩
  rintro r rfl
  rw [wrap_in (by omega) (by omega)]
  refine ⟨hat.1, by omega, by omega, fun a7 ha7 => ?_⟩
  intro g8 H8 hN8 _ hg8
  have b8 : Mails H8 (some ⟨g8, 0, none⟩) 1 [took (ms ++ [m]) (atP k n1)] := mail_box (m := took (ms ++ [m]) (atP k n1)) hg8 ((hl5.ext' e6).ext' hN8.ext)
  have hS8 := ((hS4.ext' e5).ext' e6).ext' hN8.ext
  have hmk : (ms ++ [m])[(atP k n1).toNat]? = some (took (ms ++ [m]) (atP k n1)) := by
    rw [took, List.getD_eq_getElem?_getD, List.getElem?_eq_getElem (by simp; omega)]; rfl
  have hone : Mails H8 a7 1 [took (ms ++ [m]) (atP k n1)] := by
    have := hS8.sub (l := (atP k n1).toNat) (m := 1) (a' := a7) (by omega) (fun _ => ha7 (by omega))
    have e : ((ms ++ [m]).drop (atP k n1).toNat).take 1 = [took (ms ++ [m]) (atP k n1)] := by rw [drop_at hmk]; rfl
    rw [e] at this
    exact this
  rw [show Int.toNat (atP k n1 + 1) - Int.toNat (atP k n1) = 1 from by omega]
  exact (cSame b8 hone).bool1 fun H9 _ _ => by simp
end Go.Vg
