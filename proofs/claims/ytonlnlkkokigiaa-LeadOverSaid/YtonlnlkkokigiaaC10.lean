/- What is proved here: the contracts of the functions of releases and mail. -/
import Derived.Test.YtonlnlkkokigiaaC9
import Derived.Test.YtonlnlkkokigiaaV4
import Derived.Test.YtonlnlkkokigiaaC3
set_option linter.unusedSimpArgs false
set_option maxRecDepth 100000
set_option linter.unusedVariables false
namespace Go.Vg
open Go Go.Proofs
/-! ### Releases -/
theorem cNoteRelease {H : Heap} {a : Option Addr} {l c : Nat} {xs : List Pin} (hx : Pins H a l xs) (id : Int) : Spec Try.prog 68 [.agg #[.int .i64 id, .slice a l c]] H fun v _ => v = i64 (relErr ⟨id, xs⟩) := by
  refine TryvcJ Try.func68 (by kernel_rfl) (by kernel_rfl) _ rfl (fun base K => vc68 id a l c base H K) fun base hb => ?_
  intro b
  refine ⟨id < 1 ∨ 6 < id, ⟨fun _ => ⟨rfl, fun _ _ h => h, by omega⟩, fun _ => ⟨rfl, fun _ _ h => h, by omega⟩⟩, fun h => by rw [relErr, if_pos h], fun h => ?_⟩
  refine (cLockCheck hx).int1 fun H1 e1 _ => ?_
  rw [relErr, if_neg h]
theorem cRefRelease {H : Heap} {a : Option Addr} {l c : Nat} {xs : List Pin} (hx : Pins H a l xs) (id : Int) : Spec Try.prog 74 [.agg #[.int .i64 id, .slice a l c]] H fun v _ => v = i64 (relErr ⟨id, xs⟩) := by
  refine TryvcJ Try.func74 (by kernel_rfl) (by kernel_rfl) _ rfl (fun base K => vc74 id a l c base H K) fun base hb => ?_
  intro b
  refine (cIn id 1 6).bool1 fun H1 e1 _ => ⟨fun h => ?_, fun h => (cRefLockCheck (hx.ext' e1)).int1 fun H2 e2 _ => ?_⟩
  · have h : ¬ (1 ≤ id ∧ id ≤ 6) := by simpa [inR] using h
    rw [relErr, if_pos (show id < 1 ∨ 6 < id by omega)]
  · have h : 1 ≤ id ∧ id ≤ 6 := by simpa [inR] using h
    rw [relErr, if_neg (show ¬ (id < 1 ∨ 6 < id) by omega)]
theorem rel_eq {id id' : Int} {xs ys : List Pin} : ((⟨id, xs⟩ : Rls) = ⟨id', ys⟩) ↔ id = id' ∧ xs = ys := by simp
theorem cAlike {H : Heap} {a a' : Option Addr} {l c l' c' : Nat} {xs ys : List Pin} (hx : Pins H a l xs) (hy : Pins H a' l' ys) (id id' : Int) :
    Spec Try.prog 86 [.agg #[.int .i64 id, .slice a l c], .agg #[.int .i64 id', .slice a' l' c']] H fun v _ => v = .bool (decide ((⟨id, xs⟩ : Rls) = ⟨id', ys⟩)) := by
  refine TryvcJ Try.func86 (by kernel_rfl) (by kernel_rfl) _ rfl (fun base K => vc86 id id' a a' l c l' c' base H K) fun base hb => ?_
  have hxl := hx.len
  have hyl := hy.len
  have hle := hx.le
  intro b b1
  refine ⟨id ≠ id' ∨ l ≠ l', ⟨fun _ => ⟨rfl, fun _ _ h => h, by omega⟩, fun _ => ⟨rfl, fun _ _ h => h, by omega⟩⟩, fun h => ?_, fun h => ?_⟩
  · rw [decide_eq_false]
    rw [rel_eq]
    rintro ⟨rfl, rfl⟩
    omega
  have hid : id = id' := by omega
  have hll : l = l' := by omega
  have hW : decide ((⟨id, xs⟩ : Rls) = ⟨id', ys⟩) = decide (xs = ys) := by rw [decide_eq_decide, rel_eq]; simp [hid]
  rw [hW]
  refine ⟨fun vs _ => ∃ (b : Bool) (k : Nat), vs = [.bool b, i64 k] ∧ k ≤ l ∧ (xs.drop k = ys.drop k ↔ xs = ys), upTo l 1, ⟨false, 0, rfl, by omega, by simp⟩, fun b n H' hN hI => ?_⟩
  obtain ⟨b', k, hvs, hk, hI⟩ := hI
  obtain ⟨rfl, rfl⟩ : b = b' ∧ n = (k : Int) := by simpa using hvs
  refine ⟨fun hlt => hx.pin hN.ext (by omega) hlt fun p hp => fun b3 => hy.pin hN.ext (by omega) (by omega) fun q hq => ⟨_, neq48 _ _ _ _, fun h => ?_, fun h => ?_⟩, fun hge => ?_⟩
  · rw [Int.toNat_natCast] at hp hq
    rw [drop_at hp, drop_at hq] at hI
    rw [decide_eq_false]
    intro e
    obtain ⟨rfl, _⟩ := List.cons.inj (hI.2 e)
    simp at h
  · rw [Int.toNat_natCast] at hp hq
    rw [drop_at hp, drop_at hq] at hI
    have hpq : p = q := by cases p; cases q; simp at h; simp [h]
    rintro r rfl
    rw [wrap_in (by omega) (by omega)]
    exact ⟨rfl, ⟨b, k + 1, rfl, by omega, by rw [← hI]; simp [hpq]⟩, by simp [upTo]; omega⟩
  · rw [decide_eq_true]
    exact hI.1 (by rw [drop_all hxl (by omega), drop_all hyl (by omega)])
theorem cRefAlike {H : Heap} {a a' : Option Addr} {l c l' c' : Nat} {xs ys : List Pin} (hx : Pins H a l xs) (hy : Pins H a' l' ys) (id id' : Int) :
    Spec Try.prog 99 [.agg #[.int .i64 id, .slice a l c], .agg #[.int .i64 id', .slice a' l' c']] H fun v _ => v = .bool (decide ((⟨id, xs⟩ : Rls) = ⟨id', ys⟩)) := by
  refine TryvcJ Try.func99 (by kernel_rfl) (by kernel_rfl) _ rfl (fun base K => vc99 id id' a a' l c l' c' base H K) fun base hb => ?_
  intro b b1
  refine ⟨id = id' ∧ xs = ys, ⟨fun h => (cEqPins hx hy).bool1 fun H1 e1 _ => ⟨rfl, e1, by simp [h]⟩, fun h => ⟨rfl, fun _ _ h => h, fun h' => h h'.1⟩⟩, ?_⟩
  congr 1
  rw [decide_eq_decide, rel_eq]
/-! ### way.Check -/
theorem len_zero {xs : List Pin} {n : Nat} (h : xs.length = n) : (xs = [] ↔ n = 0) := by rw [← h]; exact List.length_eq_zero_iff.symm
theorem cWayCheck {H : Heap} {a : Option Addr} {l c : Nat} {ms : List Mail} (hx : Mails H a l ms) : Spec Try.prog 50 [.slice a l c] H fun v _ => v = i64 (mailsCheck ms) := by
  refine TryvcJ Try.func50 (by kernel_rfl) (by kernel_rfl) _ rfl (fun base K => vc50 a l c base H K) fun base hb => ?_
  have hl := hx.len
  refine ⟨fun h => by rw [mailsCheck, if_pos (by omega)], fun h => ?_⟩
  have hW : mailsCheck ms = mailsFrom ms := by rw [mailsCheck, if_neg (by omega)]
  rw [hW]
  refine ⟨fun vs _ => ∃ (d : Int) (i : Nat), vs = [i64 d, i64 i] ∧ i ≤ l ∧ mailsFrom (ms.drop i) = mailsFrom ms, upTo l 1, ⟨0, 0, rfl, by omega, rfl⟩, fun d n H' hN hI => ?_⟩
  obtain ⟨d', i, hvs, hi, hI⟩ := hI
  obtain ⟨rfl, rfl⟩ : d = d' ∧ n = (i : Int) := by simpa using hvs
  refine ⟨fun hlt => hx.mail hN.ext (by omega) hlt fun m a' n' c' hm hp => ?_, fun hge => ?_⟩
  · rw [Int.toNat_natCast] at hm
    rw [drop_at hm, mailsFrom] at hI
    have hpl := hp.len
    have next : mailsFrom (ms.drop (i + 1)) = mailsFrom ms → ∀ (Hn : Heap) (r : Int), r = IntKind.wrap .i64 ((i : Int) + 1) → (∃ (d_1 : Int) (i_1 : Nat), [Value.int .i64 d, Value.int .i64 r] = [i64 d_1, i64 i_1] ∧ i_1 ≤ l ∧ mailsFrom (ms.drop i_1) = mailsFrom ms) ∧ upTo l 1 [Value.int .i64 d, Value.int .i64 r] < upTo l 1 [Value.int .i64 d, Value.int .i64 (i : Int)] := by
      rintro hn Hn r rfl
      rw [wrap_small (by omega) (by omega)]
      exact ⟨⟨_, i + 1, rfl, by omega, hn⟩, by simp [upTo]; omega⟩
    intro b
    refine ⟨m.agent < 0 ∨ 6 ≤ m.agent ∨ m.try_ < 1 ∨ 200 < m.try_, ?_, fun h1 => ?_, fun h1 => ?_⟩
    · repeat' (first | exact ⟨rfl, fun _ _ h => h, by omega⟩ | intro _ | refine ⟨?_, ?_⟩)
    · rw [if_pos (show badWho m from h1)] at hI; rw [← hI]
    rw [if_neg (show ¬ badWho m from h1)] at hI
    refine ⟨badForm m, ?_, fun h2 => ?_, fun h2 => ?_⟩
    · have hz := len_zero hpl
      refine ⟨fun hr => ⟨fun g => ⟨rfl, fun _ _ h => h, .inl ⟨hr, fun h => g h.1⟩⟩, fun g => ⟨fun g2 => ⟨rfl, fun _ _ h => h, .inl ⟨hr, fun h => by have := hz.1 h.2; omega⟩⟩, fun g2 => ⟨fun g3 => (by rw [hr] at g3; cases g3), fun _ => ⟨rfl, fun _ _ h => h, ?_⟩⟩⟩⟩,
        fun hr => ⟨fun _ => ⟨rfl, fun _ _ h => h, ?_⟩, fun g => absurd hr g⟩⟩
      · rintro (⟨_, h⟩ | ⟨h, _⟩)
        · exact h ⟨Decidable.not_not.1 g, hz.2 (by omega)⟩
        · rw [hr] at h; cases h
      · constructor
        · rintro (⟨h, _⟩ | ⟨_, h⟩)
          · rw [hr] at h; cases h
          · exact h
        · exact fun h => .inr ⟨hr, h⟩
    · rw [if_pos h2] at hI; rw [← hI]
    rw [if_neg h2] at hI
    refine ⟨fun h3 => ?_, fun h3 => (cNoteRelease (hp.ext' hN.ext) _).int1 fun H2 e2 _ => ⟨fun h4 => ?_, fun h4 => ?_⟩⟩
    · rw [if_pos h3] at hI
      exact next hI H'
    · rw [if_neg (by simp [h3]), if_pos h4] at hI; rw [← hI]
    · rw [if_neg (by simp [h3]), if_neg h4] at hI
      exact next hI H2
  · rw [← hI, drop_all hx.len (by omega), mailsFrom]
theorem cRefMail {H : Heap} {a : Option Addr} {l c : Nat} {ms : List Mail} (hx : Mails H a l ms) : Spec Try.prog 49 [.slice a l c] H fun v _ => v = i64 (mailsCheck ms) := by
  refine TryvcJ Try.func49 (by kernel_rfl) (by kernel_rfl) _ rfl (fun base K => vc49 a l c base H K) fun base hb => ?_
  have hl := hx.len
  refine ⟨fun h => by rw [mailsCheck, if_pos (by omega)], fun h => ?_⟩
  have hW : mailsCheck ms = mailsFrom ms := by rw [mailsCheck, if_neg (by omega)]
  rw [hW]
  refine ⟨fun vs _ => ∃ (d : Int) (i : Nat), vs = [i64 d, i64 i] ∧ i ≤ l ∧ mailsFrom (ms.drop i) = mailsFrom ms, upTo l 1, ⟨0, 0, rfl, by omega, rfl⟩, fun d n H' hN hI => ?_⟩
  obtain ⟨d', i, hvs, hi, hI⟩ := hI
  obtain ⟨rfl, rfl⟩ : d = d' ∧ n = (i : Int) := by simpa using hvs
  refine ⟨fun hlt => hx.mail hN.ext (by omega) hlt fun m a' n' c' hm hp => ?_, fun hge => ?_⟩
  · rw [Int.toNat_natCast] at hm
    rw [drop_at hm, mailsFrom] at hI
    have hpl := hp.len
    have hz := len_zero hpl
    have next : mailsFrom (ms.drop (i + 1)) = mailsFrom ms → ∀ (Hn : Heap) (r : Int), r = IntKind.wrap .i64 ((i : Int) + 1) → (∃ (d_1 : Int) (i_1 : Nat), [Value.int .i64 d, Value.int .i64 r] = [i64 d_1, i64 i_1] ∧ i_1 ≤ l ∧ mailsFrom (ms.drop i_1) = mailsFrom ms) ∧ upTo l 1 [Value.int .i64 d, Value.int .i64 r] < upTo l 1 [Value.int .i64 d, Value.int .i64 (i : Int)] := by
      rintro hn Hn r rfl
      rw [wrap_small (by omega) (by omega)]
      exact ⟨⟨_, i + 1, rfl, by omega, hn⟩, by simp [upTo]; omega⟩
    intro b
    refine ⟨m.agent < 0 ∨ 6 ≤ m.agent ∨ m.try_ < 1 ∨ 200 < m.try_, ?_, fun h1 => ?_, fun h1 => ?_⟩
    · refine (cIn _ _ _).bool1 fun H2 e2 _ => ⟨fun g => ⟨rfl, e2, ?_⟩, fun g => (cIn _ _ _).bool1 fun H3 e3 _ => ⟨rfl, Ext.trans e2 e3, ?_⟩⟩
      · have : ¬ (0 ≤ m.agent ∧ m.agent ≤ 5) := by simpa [inR] using g
        omega
      · have : 0 ≤ m.agent ∧ m.agent ≤ 5 := by simpa [inR] using g
        simp only [inR, decide_eq_false_iff_not]; omega
    · rw [if_pos (show badWho m from h1)] at hI; rw [← hI]
    rw [if_neg (show ¬ badWho m from h1)] at hI
    refine ⟨noRel m.rel, ⟨fun g => ⟨rfl, fun _ _ h => h, ?_⟩, fun g => ⟨rfl, fun _ _ h => h, fun h => g h.1⟩⟩, badForm m, ?_, fun h2 => ?_, fun h2 => ?_⟩
    · constructor
      · intro h; have := hz.1 h.2; omega
      · intro h; exact ⟨g, hz.2 (by omega)⟩
    · refine ⟨fun hr => ⟨fun g => ⟨rfl, fun _ _ h => h, .inl ⟨hr, g⟩⟩, fun g => ⟨fun g2 => ⟨rfl, fun _ _ h => h, ?_⟩, fun g2 => ⟨rfl, fun _ _ h => h, ?_⟩⟩⟩, fun hr => ⟨fun g => ⟨rfl, fun _ _ h => h, ?_⟩, fun g => ⟨rfl, fun _ _ h => h, ?_⟩⟩⟩
      · unfold badForm; simp [hr, Decidable.not_not.1 g]
      · unfold badForm; simp [hr, Decidable.not_not.1 g]
      · unfold badForm; simp [hr, g]
      · unfold badForm; simp [hr, g]
    · rw [if_pos h2] at hI; rw [← hI]
    rw [if_neg h2] at hI
    refine ⟨fun h3 => (cRefRelease (hp.ext' hN.ext) _).int1 fun H2 e2 _ => ⟨fun h4 => ?_, fun h4 => ?_⟩, fun h3 => ?_⟩
    · rw [if_neg (by simp [h3]), if_pos h4] at hI; rw [← hI]
    · rw [if_neg (by simp [h3]), if_neg h4] at hI
      exact next hI H2
    · rw [if_pos (by simpa using h3)] at hI
      exact next hI H'
  · rw [← hI, drop_all hx.len (by omega), mailsFrom]
end Go.Vg
set_option linter.unusedSimpArgs false
set_option maxRecDepth 100000
set_option linter.unusedVariables false
namespace Go.Vg
open Go Go.Proofs
theorem cCloneMails {H : Heap} {a : Option Addr} {l c : Nat} {ms : List Mail} (hx : Mails H a l ms) (hl : l ≤ 100000) : Spec Try.prog 52 [.slice a l c] H fun v H' => ∃ a n c rs, v = .slice a n c ∧ Fresh H H' 61 6 a n c rs.flatten ∧ (∀ r ∈ rs, r.length = 6) ∧ AllR RMail H rs ms := by
  refine TryvcJ Try.func52 (by kernel_rfl) (by kernel_rfl) _ rfl (fun base K => vc52 a l c base H K) fun base hb => ⟨_, eqNil Try.underlying57, fun h => ?_, fun h => ?_⟩
  · obtain rfl : a = none := by cases a <;> simp at h ⊢
    obtain ⟨_, rfl⟩ := hx.addr_nil
    exact ⟨none, 0, 0, [], rfl, Fresh.zero, by simp, trivial⟩
  · intro g H1 hN1 _ hg
    obtain ⟨rs, h1, h2, h3, h4⟩ := hx.rows RMail.len
    exact ⟨[], _, Row.zero, h3, allOne_rows RMail.one h2, h4.imp id (fun ⟨b, o, hb, hc⟩ => ⟨b, o, hb, cellsAt_ext hN1.ext hc⟩), by omega, by omega, fun a3 c3 H3 hG hR => ⟨_, _, _, rs, rfl, hR.fresh hb, h1, h2⟩⟩
theorem Row.at {base : Nat} {H : Heap} {e : TypeId} {sz n c i : Nat} {a : Option Addr} {L : List (List Value)} {r : List Value} (h : Row base H e sz a n c L.flatten) (hw : ∀ r ∈ L, r.length = sz) (hn : L.length = n) (hr : L[i]? = some r) :
    ∃ b : Nat, a = some ⟨b, 0, none⟩ ∧ ∀ (j : Nat) (v : Value), r[j]? = some v → H.cell b (0 + i * sz + j) = some v := by
  have hi : i < n := by have := (List.getElem?_eq_some_iff.1 hr).1; omega
  obtain ⟨b, o, r', ha, hr', hc⟩ := (has_of_row h rfl hw hn).get hi
  rw [hr] at hr'
  obtain rfl := Option.some.inj hr'
  obtain ⟨b', _, hb', _⟩ := h.block (by omega)
  rw [ha] at hb'
  simp at hb'
  obtain ⟨rfl, rfl⟩ := hb'
  exact ⟨b, ha, hc⟩
theorem cCopy {H : Heap} {a : Option Addr} {l c : Nat} {ms : List Mail} (hx : Mails H a l ms) (hl : l ≤ 100000) (hk : ∀ m ∈ ms, m.rel.lock.length ≤ 100000) : Spec Try.prog 115 [.slice a l c] H fun v H' => ∃ a n c G rs, v = .slice a n c ∧ NewSl RMail 6 61 H G H' a n c rs ms := by
  refine TryvcJ Try.func115 (by kernel_rfl) (by kernel_rfl) _ rfl (fun base K => vc115 a l c base H K) fun base hb => ?_
  have hml := hx.len
  refine (cCloneMails hx hl).mono fun v H1 e1 hv => ?_
  obtain ⟨a1, n1, c1, rs, rfl, hF, hw, hA⟩ := hv
  refine ⟨a1, n1, c1, rfl, fun hN1 => ?_⟩
  have hR := hF.row hN1
  have hrl : rs.length = n1 := by
    have := hR.1
    rw [flat_wid hw] at this
    omega
  have hrm := hA.len
  have hclear : c1 ≠ 0 → ∀ g, a1 = some ⟨g, 0, none⟩ → H g = none := fun hc g hg => by
    rcases hF.2.2.2 with ⟨_, h0⟩ | ⟨g', k, h1, h2, _⟩
    · exact absurd h0 hc
    · rw [hg] at h1; simp at h1; subst h1; exact h2
  refine ⟨fun vs Hc => ∃ (i : Nat) (r1 : List (List Value)) (G : Heap), vs = [i64 i] ∧ i ≤ n1 ∧ r1.length = i ∧ (∀ r ∈ r1, r.length = 6) ∧ Row base Hc 61 6 a1 n1 c1 (r1 ++ rs.drop i).flatten ∧ AllR RMail G r1 (ms.take i) ∧ Away H G ∧ Ext G Hc ∧ (c1 ≠ 0 → ∀ g, a1 = some ⟨g, 0, none⟩ → G g = none),
    upTo n1 0, ⟨0, [], fun _ => none, rfl, by omega, rfl, by simp, hR, by simp [AllR], fun _ _ h => (by cases h), fun _ _ h => (by cases h), fun _ _ _ => rfl⟩, fun m H2 hN2 hI => ?_⟩
  obtain ⟨i, r1, G, hvs, hi, hr1, hw1, hR2, hA2, haw, hsub, hcl⟩ := hI
  obtain rfl : m = (i : Int) := by simpa using hvs
  refine ⟨fun hlt => ?_, fun hge => ?_⟩
  · have hri : rs[i]? = some (rs[i]'(by omega)) := List.getElem?_eq_getElem (by omega)
    have hmi : ms[i]? = some (ms[i]'(by omega)) := List.getElem?_eq_getElem (by omega)
    generalize hrr : rs[i]'(by omega) = r at hri
    generalize hmm : ms[i]'(by omega) = m at hmi
    obtain ⟨la, ln, lc, rfl, hp⟩ := hA.get hri hmi
    have hpl := hp.len
    have hkm := hk m (List.mem_of_getElem? hmi)
    have hwL : ∀ r ∈ r1 ++ rs.drop i, r.length = 6 := fun r hr => by
      rcases List.mem_append.1 hr with hr | hr
      · exact hw1 r hr
      · exact hw r (List.mem_of_mem_drop hr)
    have hat : (r1 ++ rs.drop i)[i]? = some (mailVal m la ln lc) := by
      rw [List.getElem?_append_right (by omega), hr1, Nat.sub_self, List.getElem?_drop, Nat.add_zero]; exact hri
    obtain ⟨b, hab, hcell⟩ := hR2.at hwL (by simp; omega) hat
    have hd := drop_at hri
    refine ⟨b, 0, hab, by omega, hlt, _, _, _, _, _, _, _, _, ⟨hcell 0 _ rfl, hcell 1 _ rfl, hcell 2 _ rfl, hcell 3 _ rfl, hcell 4 _ rfl, hcell 5 _ rfl, trivial⟩, fun b2 => ?_⟩
    refine (cCloneJ (hp.ext' hN2.ext) (by omega)).mono fun v H3 e3 hv => ?_
    obtain ⟨a6, n6, c6, rfl, hF6⟩ := hv
    refine ⟨a6, n6, c6, rfl, fun hN3 => ?_⟩
    obtain ⟨b3, k3, hb3, hbase, hc1, hH2, hf3, hs3, _⟩ := hR2.block (by omega)
    obtain rfl : b = b3 := by rw [hab] at hb3; simpa using hb3
    have hnc := hR2.2.1
    refine ⟨b, 0, hab, by omega, hlt, k3, e3 _ _ hH2, hf3, hbase, by rw [hs3, Int.toNat_natCast]; omega, fun H4 hu => ?_⟩
    rintro r rfl
    rw [wrap_in (by omega) (by omega)]
    rw [Int.toNat_natCast] at hu
    have hR4 := (hR2.ext e3).upd hab hc1 (e3 _ _ hH2) (o := 0 + i * 6 + 4 + 1) (vs := [.slice a6 n6 c6]) (by rw [hR2.1]; show 0 + i * 6 + 4 + 1 + 1 ≤ n1 * 6; omega) hu
    rw [hd, show 0 + i * 6 + 4 + 1 = r1.length * 6 + 5 from by omega, rows_set hw1 rfl (by simp)] at hR4
    have hnew : RMail (G.plus (newOf H2 H3)) (setRange (mailVal m la ln lc) 5 [.slice a6 n6 c6]) m := ⟨a6, n6, c6, rfl, Sl.ext REnc.mono (hF6.sl_new pinCells_len (by omega)) (new_in_grow hsub)⟩
    have hGb : (G.plus (newOf H2 H3)) b = none := by
      unfold Heap.plus newOf
      rw [hcl hc1 b hab, hH2]
    refine ⟨⟨i + 1, r1 ++ [setRange (mailVal m la ln lc) 5 [.slice a6 n6 c6]], G.plus (newOf H2 H3), rfl, by omega, by simp [hr1], fun r hr => ?_, by simpa using hR4, ?_, ?_, fun x k hx => ?_, fun _ g hg => ?_⟩, by simp [upTo]; omega⟩
    · rcases List.mem_append.1 hr with hr | hr
      · exact hw1 r hr
      · simp at hr; subst hr; rfl
    · rw [take_at hmi]
      exact AllR.append (AllR.one hnew) (hA2.mono RMail.mono plus_left)
    · exact plus_away haw (newOf_away.sub hN2.ext)
    · have hne : x ≠ b := fun e => by rw [e, hGb] at hx; cases hx
      rw [hu.there x hne]
      exact plus_sub (hsub.trans e3) newOf_ext x k hx
    · rw [hab] at hg; simp at hg; subst hg; exact hGb
  · obtain rfl : i = n1 := by omega
    rw [List.drop_eq_nil_of_le (by omega), List.append_nil] at hR2
    rw [List.take_of_length_le (by omega)] at hA2
    exact ⟨_, _, _, G, r1, rfl, OwnSl.new ⟨hR2, hw1, hA2, hsub, hcl⟩ hb haw⟩
/-! ### way.Send -/
theorem cSend {H : Heap} {a a' : Option Addr} {l c l' c' : Nat} {ms : List Mail} (hx : Mails H a l ms) (m : Mail) (hp : Pins H a' l' m.rel.lock) :
    Spec Try.prog 45 [.slice a l c, .agg #[.int .i64 m.agent, .int .i64 m.try_, .bool m.rep, .bool m.good, .int .i64 m.rel.id, .slice a' l' c']] H fun v H' => ∃ a n c, v = .tuple #[.slice a n c, i64 (sendErr ms m)] ∧ n ≤ c ∧ Mails H' a n (if sendErr ms m = 0 then sent ms m else []) := by
  refine TryvcJ Try.func45 (by kernel_rfl) (by kernel_rfl) _ rfl (fun base K => vc45 a a' l c l' c' m.agent m.try_ m.rel.id m.rep m.good base H K) fun base hb => ?_
  intro b g H1 hN1 _ hg
  have hml := hx.len
  have bx : Mails H1 (some ⟨g, 0, none⟩) 1 [m] := mail_box (m := m) hg (hp.ext' hN1.ext)
  refine ⟨fun vs Hc => ∃ (a4 : Option Addr) (n4 c4 : Nat) (d : Int) (k : Nat), vs = [.slice a4 n4 c4, i64 d, i64 k] ∧ k ≤ 2 ∧ (0 < k → mailsCheck ms = 0) ∧ (1 < k → mailsCheck [m] = 0) ∧ Ext H1 Hc, upTo 2 2, ⟨none, 0, 0, 0, 0, rfl, by omega, by omega, by omega, Ext.refl _⟩, fun a4 n4 c4 d n H' hN hI => ?_⟩
  obtain ⟨a4', n4', c4', d', k, hvs, hk, hk0, hk1, he⟩ := hI
  obtain ⟨⟨rfl, rfl, rfl⟩, rfl, rfl⟩ : (a4 = a4' ∧ n4 = n4' ∧ c4 = c4') ∧ d = d' ∧ n = (k : Int) := by simpa using hvs
  refine ⟨fun hlt => ⟨by omega, hlt, ?_⟩, fun hge => ?_⟩
  · by_cases k0 : k = 0
    · subst k0
      refine ⟨a, l, c, rfl, (cWayCheck (hx.ext' hN.ext)).int1 fun H2 e2 _ => ⟨fun h => ?_, fun h => ?_⟩⟩
      · have e : sendErr ms m = mailsCheck ms := by rw [sendErr, if_neg h]
        rw [e, if_neg h]
        exact ⟨none, 0, 0, rfl, by omega, Sl.nil⟩
      · rintro r rfl
        rw [wrap_small (by omega) (by omega)]
        exact ⟨rfl, ⟨_, _, _, _, 1, rfl, by omega, fun _ => Decidable.not_not.1 h, by omega, he.trans e2⟩, by simp [upTo]⟩
    · obtain rfl : k = 1 := by omega
      refine ⟨some ⟨g, 0, none⟩, 1, 1, rfl, (cWayCheck (bx.ext' he)).int1 fun H2 e2 _ => ⟨fun h => ?_, fun h => ?_⟩⟩
      · have e : sendErr ms m = mailsCheck [m] := by rw [sendErr, if_pos (hk0 (by omega))]
        rw [e, if_neg h]
        exact ⟨none, 0, 0, rfl, by omega, Sl.nil⟩
      · rintro r rfl
        rw [wrap_small (by omega) (by omega)]
        exact ⟨rfl, ⟨_, _, _, _, 2, rfl, by omega, fun _ => hk0 (by omega), fun _ => Decidable.not_not.1 h, he.trans e2⟩, by simp [upTo]⟩
  obtain rfl : k = 2 := by omega
  have hE : sendErr ms m = 0 := by rw [sendErr, if_pos (hk0 (by omega))]; exact hk1 (by omega)
  obtain ⟨h40, hlk⟩ := mailsCheck_zero (hk0 (by omega))
  obtain ⟨_, hlk1⟩ := mailsCheck_zero (hk1 (by omega))
  rw [hE, if_pos rfl]
  refine (cCopy (hx.ext' hN.ext) (by omega) (fun m hm => by have := hlk m hm; omega)).mono fun v H3 e3 hv => ?_
  obtain ⟨a5, n5, c5, G, rs, rfl, hNew⟩ := hv
  refine ⟨a5, n5, c5, rfl, fun hN3 => ?_⟩
  have hO := hNew.own hN3
  obtain ⟨_, hn5⟩ := hO.rlen (by omega)
  refine ⟨fun hlt => ?_, fun hge => ?_⟩
  · intro g2 H4 hN4 hg2n hg2
    have bx2 : Mails H4 (some ⟨g2, 0, none⟩) 1 [m] := mail_box (m := m) hg2 (((hp.ext' hN.ext).ext' e3).ext' hN4.ext)
    refine (cCopy bx2 (by omega) (fun x hx => by have := hlk1 x hx; omega)).mono fun v H5 e5 hv => ?_
    obtain ⟨a6, n6, c6, G', rs', rfl, hNew'⟩ := hv
    refine ⟨a6, n6, c6, rfl, fun hN5 => ?_⟩
    have hO' := hNew'.own hN5
    obtain ⟨hr6, hn6⟩ := hO'.rlen (by omega)
    have e45 : Ext H3 H5 := Ext.trans hN4.ext e5
    have hOg := hO.grow RMail.mono e45
    obtain ⟨rs6, q1, q2, q3, q4⟩ := (hO'.sl RMail.mono (by omega)).rows RMail.len
    have hcells : n6 = 0 ∨ ∃ (b : Nat) (o : Nat), a6 = some ⟨b, o, none⟩ ∧ cellsAt H5 b o 0 rs'.flatten := by
      by_cases h0 : n6 = 0
      · exact .inl h0
      · obtain ⟨b6, k6, hb6, _⟩ := hO'.row.block (by omega)
        have := hO'.row
        rw [hb6] at this
        exact .inr ⟨b6, 0, hb6, by simpa using this.cellsAt (k := 0) (by omega) (by omega)⟩
    simp at hn6
    refine ⟨rs.flatten, rs'.flatten, hOg.row, by rw [flat_wid hNew'.wid, hr6], allOne_rows RMail.one hNew'.all, hcells, by omega, by omega, fun a7 c7 H7 hG hR7 => ?_⟩
    have hall : AllR RMail (G.plus (newOf H3 H5)) rs' [m] := hNew'.all_new RMail.mono |>.mono RMail.mono ((newOf_mono hN4.ext).trans (new_in_grow hO.sub))
    have hOf := hOg.grew hG hR7 hNew'.wid hall
    refine ⟨_, _, _, rfl, hOf.row.2.1, ?_⟩
    rw [sent, if_pos (by omega)]
    exact hOf.sl RMail.mono (by omega)
  · refine ⟨_, _, _, rfl, hO.row.2.1, ?_⟩
    rw [sent, if_neg (by omega)]
    exact hO.sl RMail.mono (by omega)
/-! ### way.Take -/
theorem cTake {H : Heap} {a : Option Addr} {l c : Nat} {ms : List Mail} (hx : Mails H a l ms) (k : Int) (tw : Bool) :
    Spec Try.prog 48 [.slice a l c, .int .i64 k, .bool tw] H fun v H' => ∃ a n c la ln lc, v = .tuple #[.slice a n c, .agg (mailVal (if takeErr ms k = 0 then took ms k else noMail) la ln lc).toArray, i64 (takeErr ms k)] ∧ Mails H' a n (if takeErr ms k = 0 then left ms k tw else []) ∧ Pins H' la ln (if takeErr ms k = 0 then took ms k else noMail).rel.lock := by
  refine TryvcJ Try.func48 (by kernel_rfl) (by kernel_rfl) _ rfl (fun base K => vc48 a l c k tw base H K) fun base hb => ?_
  intro b
  have hml := hx.len
  refine (cWayCheck hx).int1 fun H1 e1 hN1 => ⟨fun h => ?_, fun h => ?_⟩
  · have e : takeErr ms k = mailsCheck ms := by rw [takeErr, if_neg h]
    rw [e, if_neg h, if_neg h]
    exact ⟨none, 0, 0, none, 0, 0, rfl, Sl.nil, Sl.nil⟩
  have h := Decidable.not_not.1 h
  obtain ⟨h40, hlk⟩ := mailsCheck_zero h
  refine ⟨k < 0 ∨ (l : Int) ≤ k, ⟨fun _ => ⟨rfl, fun _ _ h => h, by omega⟩, fun _ => ⟨rfl, fun _ _ h => h, by omega⟩⟩, fun hk => ?_, fun hk => ?_⟩
  · have e : takeErr ms k = 5 := by rw [takeErr, if_pos h, if_pos (by omega)]
    rw [e, if_neg (by omega), if_neg (by omega)]
    exact ⟨none, 0, 0, none, 0, 0, rfl, Sl.nil, Sl.nil⟩
  have hE : takeErr ms k = 0 := by rw [takeErr, if_pos h, if_neg (by omega)]
  rw [hE, if_pos rfl, if_pos rfl]
  refine (cCopy (hx.ext' e1) (by omega) (fun m hm => by have := hlk m hm; omega)).mono fun v H3 e3 hv => ?_
  obtain ⟨a5, n5, c5, G, rs, rfl, hNew⟩ := hv
  refine ⟨a5, n5, c5, rfl, fun hN3 => ?_⟩
  have hO := hNew.own hN3
  obtain ⟨hr5, hn5⟩ := hO.rlen (by omega)
  have hnc := hO.row.2.1
  have hmk : ms[k.toNat]? = some (took ms k) := by
    rw [took, List.getD_eq_getElem?_getD, List.getElem?_eq_getElem (by omega)]; rfl
  rintro r rfl
  rw [wrap_small (by omega) (by omega)]
  refine ⟨by omega, by omega, by omega, fun a6 ha6 => ?_⟩
  have hS3 := hO.sl RMail.mono (by omega)
  have hone : Mails H3 a6 1 [took ms k] := by
    have := hS3.sub (l := k.toNat) (m := 1) (a' := a6) (by omega) (fun _ => ha6 (by omega))
    have e : (ms.drop k.toNat).take 1 = [took ms k] := by rw [drop_at hmk]; rfl
    rw [e] at this
    exact this
  rw [show Int.toNat (k + 1) - Int.toNat k = 1 from by omega]
  refine (cCopy hone (by omega) (fun m hm => by simp at hm; subst hm; have := hlk _ (List.mem_of_getElem? hmk); omega)).mono fun v H4 e4 hv => ?_
  obtain ⟨a7, n7, c7, G', rs', rfl, hNew'⟩ := hv
  refine ⟨a7, n7, c7, rfl, fun hN4 => ?_⟩
  have hO' := hNew'.own hN4
  obtain ⟨hr7, hn7⟩ := hO'.rlen (by omega)
  simp at hn7
  obtain ⟨r', rfl⟩ : ∃ r', rs' = [r'] := List.length_eq_one_iff.1 (by omega)
  obtain ⟨⟨la, ln, lc, rfl, hp⟩, _⟩ := hO'.all
  obtain ⟨b7, hb7, hcell⟩ := hO'.row.at hO'.wid hr7 (i := 0) rfl
  have hpA := hp.ext' hO'.sub
  refine ⟨b7, 0, hb7, by decide, by omega, _, _, _, _, _, _, _, _, ⟨hcell 0 _ rfl, hcell 1 _ rfl, hcell 2 _ rfl, hcell 3 _ rfl, hcell 4 _ rfl, hcell 5 _ rfl, trivial⟩, fun b2 => ?_⟩
  have hOg := hO.grow RMail.mono e4
  refine ⟨fun ht => ?_, fun ht => ?_⟩
  · rintro r rfl
    refine ⟨rs.flatten, k.toNat, k.toNat + 1, by omega, by omega, by omega, by omega, by omega, hOg.row, allOne_rows RMail.one hNew.all, fun H5 hG hR5 => ?_⟩
    rw [flat_takeR k.toNat hNew.wid, flat_dropR (k.toNat + 1) hNew.wid, ← List.flatten_append] at hR5
    have hOf := hOg.regrew hG hR5 (fun r hr => by
      rcases List.mem_append.1 hr with hr | hr
      · exact hNew.wid r (List.mem_of_mem_take hr)
      · exact hNew.wid r (List.mem_of_mem_drop hr)) (AllR.append (hOg.all.drop (k.toNat + 1)) (hOg.all.take k.toNat))
    refine ⟨_, _, _, la, ln, lc, rfl, ?_, hp.ext' fun x kx hx => ?_⟩
    · rw [left, if_neg (by simp [ht])]
      exact hOf.sl RMail.mono (by omega)
    · refine hG.keep x kx (hO'.sub x kx hx) ?_
      by_cases hc : c5 = 0
      · exact .inl hc
      · refine .inr fun ha => ?_
        obtain ⟨g, kg, hg1, hg2⟩ := hO.block hc
        rw [ha] at hg1
        obtain rfl : x = g := by simpa using hg1
        have := hNew'.away x kx hx
        rw [hg2] at this; cases this
  · refine ⟨_, _, _, la, ln, lc, rfl, ?_, hpA⟩
    rw [left, if_pos (by simpa using ht)]
    exact hOg.sl RMail.mono (by omega)
end Go.Vg
set_option linter.unusedSimpArgs false
set_option maxRecDepth 100000
set_option linter.unusedVariables false
namespace Go.Vg
open Go Go.Proofs
theorem mail_eq {m m' : Mail} : m = m' ↔ m.agent = m'.agent ∧ m.try_ = m'.try_ ∧ m.rep = m'.rep ∧ m.good = m'.good ∧ m.rel = m'.rel := by
  cases m; cases m'; simp
abbrev mailArg (m : Mail) (a : Option Addr) (n c : Nat) : Value := .agg #[.int .i64 m.agent, .int .i64 m.try_, .bool m.rep, .bool m.good, .int .i64 m.rel.id, .slice a n c]
theorem cMailEqA {H : Heap} {a a' : Option Addr} {l c l' c' : Nat} {m m' : Mail} (hp : Pins H a l m.rel.lock) (hq : Pins H a' l' m'.rel.lock) : Spec Try.prog 118 [mailArg m a l c, mailArg m' a' l' c'] H fun v _ => v = .bool (decide (m = m')) := by
  refine TryvcJ Try.func118 (by kernel_rfl) (by kernel_rfl) _ rfl (fun base K => vc118 m.agent m.try_ m.rel.id m'.agent m'.try_ m'.rel.id m.rep m.good m'.rep m'.good a a' l c l' c' base H K) fun base hb => ?_
  intro b b1
  refine ⟨m = m', ⟨fun h1 => ⟨fun h2 => ⟨_, eqBool, fun h3 => ⟨_, eqBool, fun h4 => (cAlike hp hq _ _).bool1 fun H1 e1 _ => ⟨rfl, e1, ?_⟩, fun h4 => ⟨rfl, fun _ _ h => h, fun h => h4 (by simp [h])⟩⟩, fun h3 => ⟨rfl, fun _ _ h => h, fun h => h3 (by simp [h])⟩⟩, fun h2 => ⟨rfl, fun _ _ h => h, fun h => h2 (by rw [h])⟩⟩, fun h1 => ⟨rfl, fun _ _ h => h, fun h => h1 (by rw [h])⟩⟩, ?_⟩
  · rw [mail_eq]
    simp only [beq_iff_eq] at h3 h4
    simp [h1, h2, h3, h4]
    exact ⟨fun h => by rw [h]; exact ⟨rfl, rfl⟩, fun h => by cases hm : m.rel; cases hm' : m'.rel; simp_all⟩
  · congr 1
    exact decide_eq_decide.2 Iff.rfl
theorem cMailEqB {H : Heap} {a a' : Option Addr} {l c l' c' : Nat} {m m' : Mail} (hp : Pins H a l m.rel.lock) (hq : Pins H a' l' m'.rel.lock) : Spec Try.prog 119 [mailArg m a l c, mailArg m' a' l' c'] H fun v _ => v = .bool (decide (m = m')) := by
  refine TryvcJ Try.func119 (by kernel_rfl) (by kernel_rfl) _ rfl (fun base K => vc119 m.agent m.try_ m.rel.id m'.agent m'.try_ m'.rel.id m.rep m.good m'.rep m'.good a a' l c l' c' base H K) fun base hb => ?_
  intro b b1
  refine ⟨m = m', ⟨fun h1 => ⟨fun h2 => ⟨_, eqBool, fun h3 => ⟨_, eqBool, fun h4 => (cRefAlike hp hq _ _).bool1 fun H1 e1 _ => ⟨rfl, e1, ?_⟩, fun h4 => ⟨rfl, fun _ _ h => h, fun h => h4 (by simp [h])⟩⟩, fun h3 => ⟨rfl, fun _ _ h => h, fun h => h3 (by simp [h])⟩⟩, fun h2 => ⟨rfl, fun _ _ h => h, fun h => h2 (by rw [h])⟩⟩, fun h1 => ⟨rfl, fun _ _ h => h, fun h => h1 (by rw [h])⟩⟩, ?_⟩
  · rw [mail_eq]
    simp only [beq_iff_eq] at h3 h4
    simp [h1, h2, h3, h4]
    exact ⟨fun h => by rw [h]; exact ⟨rfl, rfl⟩, fun h => by cases hm : m.rel; cases hm' : m'.rel; simp_all⟩
  · congr 1
    exact decide_eq_decide.2 Iff.rfl
theorem cSame {H : Heap} {a a' : Option Addr} {l c l' c' : Nat} {xs ys : List Mail} (hx : Mails H a l xs) (hy : Mails H a' l' ys) : Spec Try.prog 47 [.slice a l c, .slice a' l' c'] H fun v _ => v = .bool (decide (xs = ys)) := by
  have h117 : Spec Try.prog 117 [.slice a l c, .slice a' l' c', .func (.func 118) #[] #[]] H fun v _ => v = .bool (decide (xs = ys)) := by
    refine TryvcJ Try.func117 (by kernel_rfl) (by kernel_rfl) _ rfl (fun base K => vc117a a a' l c l' c' base H K) fun base hb => ?_
    have hxl := hx.len
    have hyl := hy.len
    have hle := hx.le
    refine ⟨fun hne => ?_, fun he => ?_⟩
    · rw [decide_eq_false]; rintro rfl; omega
    refine ⟨fun vs _ => ∃ (b : Bool) (k : Nat), vs = [.bool b, i64 k] ∧ k ≤ l ∧ (xs.drop k = ys.drop k ↔ xs = ys), upTo l 1, ⟨false, 0, rfl, by omega, by simp⟩, fun b n H' hN hI => ?_⟩
    obtain ⟨b', k, hvs, hk, hI⟩ := hI
    obtain ⟨rfl, rfl⟩ : b = b' ∧ n = (k : Int) := by simpa using hvs
    refine ⟨fun hlt => hx.mail hN.ext (by omega) hlt fun m a1 n1 c1 hm hp => fun b4 => hy.mail hN.ext (by omega) (by omega) fun m' a2 n2 c2 hm' hq => fun b8 => (cMailEqA (hp.ext' hN.ext) (hq.ext' hN.ext)).bool1 fun H2 e2 _ => ⟨fun h => ?_, fun h => ?_⟩, fun hge => ?_⟩
    · rw [Int.toNat_natCast] at hm hm'
      rw [drop_at hm, drop_at hm'] at hI
      rw [decide_eq_false]
      intro e
      exact absurd (List.cons.inj (hI.2 e)).1 (by simpa using h)
    · rw [Int.toNat_natCast] at hm hm'
      rw [drop_at hm, drop_at hm'] at hI
      have hpq : m = m' := by simpa using h
      rintro r rfl
      rw [wrap_in (by omega) (by omega)]
      exact ⟨⟨b, k + 1, rfl, by omega, by rw [← hI]; simp [hpq]⟩, by simp [upTo]; omega⟩
    · rw [decide_eq_true]
      exact hI.1 (by rw [drop_all hxl (by omega), drop_all hyl (by omega)])
  refine TryvcJ Try.func47 (by kernel_rfl) (by kernel_rfl) _ rfl (fun base K => vc47 a a' l c l' c' base H K) fun base hb => ?_
  exact h117.bool1 fun H1 _ _ => rfl
theorem cRefSame {H : Heap} {a a' : Option Addr} {l c l' c' : Nat} {xs ys : List Mail} (hx : Mails H a l xs) (hy : Mails H a' l' ys) : Spec Try.prog 51 [.slice a l c, .slice a' l' c'] H fun v _ => v = .bool (decide (xs = ys)) := by
  have h117 : Spec Try.prog 117 [.slice a l c, .slice a' l' c', .func (.func 119) #[] #[]] H fun v _ => v = .bool (decide (xs = ys)) := by
    refine TryvcJ Try.func117 (by kernel_rfl) (by kernel_rfl) _ rfl (fun base K => vc117b a a' l c l' c' base H K) fun base hb => ?_
    have hxl := hx.len
    have hyl := hy.len
    have hle := hx.le
    refine ⟨fun hne => ?_, fun he => ?_⟩
    · rw [decide_eq_false]; rintro rfl; omega
    refine ⟨fun vs _ => ∃ (b : Bool) (k : Nat), vs = [.bool b, i64 k] ∧ k ≤ l ∧ (xs.drop k = ys.drop k ↔ xs = ys), upTo l 1, ⟨false, 0, rfl, by omega, by simp⟩, fun b n H' hN hI => ?_⟩
    obtain ⟨b', k, hvs, hk, hI⟩ := hI
    obtain ⟨rfl, rfl⟩ : b = b' ∧ n = (k : Int) := by simpa using hvs
    refine ⟨fun hlt => hx.mail hN.ext (by omega) hlt fun m a1 n1 c1 hm hp => fun b4 => hy.mail hN.ext (by omega) (by omega) fun m' a2 n2 c2 hm' hq => fun b8 => (cMailEqB (hp.ext' hN.ext) (hq.ext' hN.ext)).bool1 fun H2 e2 _ => ⟨fun h => ?_, fun h => ?_⟩, fun hge => ?_⟩
    · rw [Int.toNat_natCast] at hm hm'
      rw [drop_at hm, drop_at hm'] at hI
      rw [decide_eq_false]
      intro e
      exact absurd (List.cons.inj (hI.2 e)).1 (by simpa using h)
    · rw [Int.toNat_natCast] at hm hm'
      rw [drop_at hm, drop_at hm'] at hI
      have hpq : m = m' := by simpa using h
      rintro r rfl
      rw [wrap_in (by omega) (by omega)]
      exact ⟨⟨b, k + 1, rfl, by omega, by rw [← hI]; simp [hpq]⟩, by simp [upTo]; omega⟩
    · rw [decide_eq_true]
      exact hI.1 (by rw [drop_all hxl (by omega), drop_all hyl (by omega)])
  refine TryvcJ Try.func51 (by kernel_rfl) (by kernel_rfl) _ rfl (fun base K => vc51 a a' l c l' c' base H K) fun base hb => ?_
  exact h117.bool1 fun H1 _ _ => rfl
/-- A call that yields mail, a piece of mail, an error. -/
theorem Spec.mail3 {P : Program} {f : FuncId} {args : List Value} {H : Heap} {x : Mail} {e : Int} {Q : Option Addr → Nat → Nat → Heap → Prop} (h : Spec P f args H fun v H' => ∃ a n c la ln lc, v = .tuple #[.slice a n c, .agg (mailVal x la ln lc).toArray, i64 e] ∧ Q a n c H' ∧ Pins H' la ln x.rel.lock) {base : Nat}
    {G : Option Addr → Nat → Nat → Int → Int → Bool → Bool → Int → Option Addr → Nat → Nat → Int → Heap → Prop} (hG : ∀ a n c la ln lc H', Ext H H' → Next base H H' → Q a n c H' → Pins H' la ln x.rel.lock → G a n c x.agent x.try_ x.rep x.good x.rel.id la ln lc e H') :
    Spec P f args H fun v H' => ∃ (a : Option Addr) (n c : Nat) (n5 n6 : Int) (b2 b3 : Bool) (n7 : Int) (a8 : Option Addr) (n8 c3 : Nat) (n9 : Int), v = .tuple #[.slice a n c, .agg #[.int .i64 n5, .int .i64 n6, .bool b2, .bool b3, .int .i64 n7, .slice a8 n8 c3], .int .i64 n9] ∧ (Next base H H' → G a n c n5 n6 b2 b3 n7 a8 n8 c3 n9 H') :=
  h.mono fun v H' ex hv => by
    obtain ⟨a, n, c, la, ln, lc, h1, h2, h3⟩ := hv
    exact ⟨a, n, c, _, _, _, _, _, la, ln, lc, e, h1, fun hN => hG a n c la ln lc H' ex hN h2 h3⟩
/-! ### A closed fact -/
def m1 : Mail := ⟨1, 2, true, true, ⟨0, []⟩⟩
def m2 : Mail := ⟨2, 3, false, false, ⟨2, [⟨1, 2⟩, ⟨2, 1⟩]⟩⟩
theorem cSecond {H : Heap} : Spec Try.prog 116 [] H fun v H' => ∃ a n c, v = .agg #[i64 2, .slice a n c] ∧ Pins H' a n [⟨1, 2⟩, ⟨2, 1⟩] := by
  refine TryvcJ Try.func116 (by kernel_rfl) (by kernel_rfl) _ rfl (fun base K => vc116 base H K) fun base hb => ?_
  intro b g H1 hN1 _ hg
  exact ⟨_, _, _, rfl, sl_of_boxE pinCells_len (xs := [⟨1, 2⟩, ⟨2, 1⟩]) hg rfl (by decide)⟩
theorem cPosted {H : Heap} : Spec Try.prog 46 [] H fun v _ => v = .bool true := by
  refine TryvcJ Try.func46 (by kernel_rfl) (by kernel_rfl) _ rfl (fun base K => vc46 base H K) fun base hb => ?_
  intro b
  refine cSecond.mono fun v H1 e1 hv => ?_
  obtain ⟨a, n, c, rfl, hp⟩ := hv
  refine ⟨2, a, n, c, rfl, fun hN1 => ?_⟩
  intro b1 g H2 hN2 _ hg
  have bx : Mails H2 (some ⟨g, 0, none⟩) 1 [m1] := mail_box (m := m1) hg Sl.nil
  refine (cSend bx m2 (hp.ext' hN2.ext)).sl2 fun a3 n3 c3 H3 e3 _ hS => ?_
  obtain ⟨_, hS⟩ := hS
  rw [show sendErr [m1] m2 = 0 from by decide] at hS ⊢
  rw [if_pos rfl, show sent [m1] m2 = [m1, m2] from by decide] at hS
  have hp3 := (hp.ext' hN2.ext).ext' e3
  refine (cTake hS 0 false).mail3 fun a4 n4 c4 la ln lc H4 e4 _ hT hl => fun b4 => ?_
  rw [show takeErr [m1, m2] 0 = 0 from by decide] at hT hl ⊢
  rw [if_pos rfl, show left [m1, m2] 0 false = [m2] from by decide] at hT
  rw [if_pos rfl, show took [m1, m2] 0 = m1 from by decide] at hl ⊢
  refine (cTake hT 1 true).mail3 fun a5 n5 c5 la5 ln5 lc5 H5 e5 _ hT5 hl5 => fun b7 => ?_
  have h3 := hS.len
  refine ⟨True, ⟨fun _ => ⟨fun _ => ⟨fun _ => ⟨fun _ => ?_, fun h => absurd (by simp at h3; omega) h⟩, fun h => absurd (by decide) h⟩, fun h => absurd rfl h⟩, fun h => absurd rfl h⟩, by simp⟩
  intro g6 H6 hN6 _ hg6
  have b6 : Mails H6 (some ⟨g6, 0, none⟩) 1 [m2] := mail_box (m := m2) hg6 (((hp3.ext' e4).ext' e5).ext' hN6.ext)
  refine (cSame ((hT.ext' e5).ext' hN6.ext) b6).bool1 fun H7 e7 _ => ⟨fun _ => ?_, fun h => by simp at h⟩
  intro g8 H8 hN8 _ hg8 g9 H9 hN9 _ hg9
  have b8 : Mails H8 (some ⟨g8, 0, none⟩) 1 [m1] := mail_box (m := m1) hg8 ((((hl.ext' e5).ext' hN6.ext).ext' e7).ext' hN8.ext)
  have b9 : Mails H9 (some ⟨g9, 0, none⟩) 1 [m1] := mail_box (m := m1) hg9 Sl.nil
  exact (cSame (b8.ext' hN9.ext) b9).bool1 fun H10 e10 _ => ⟨rfl, Ext.trans (Ext.trans (Ext.trans (Ext.trans hN6.ext e7) hN8.ext) hN9.ext) e10, by simp⟩
/-! ### The law WayBack -/
theorem mailsFrom_app : ∀ {a b : List Mail}, mailsFrom a = 0 → mailsFrom (a ++ b) = mailsFrom b
  | [], b, _ => rfl
  | m :: q, b, h => by
    unfold mailsFrom at h
    rw [List.cons_append, mailsFrom]
    split at h
    · omega
    · split at h
      · omega
      · rename_i h1 h2
        rw [if_neg h1, if_neg h2]
        split at h
        · rename_i h3; rw [if_pos h3]; exact mailsFrom_app h
        · rename_i h3
          rw [if_neg h3]
          split at h
          · rename_i h4; exact absurd h h4
          · rename_i h4; rw [if_neg h4]; exact mailsFrom_app h
theorem sent_ok {ms : List Mail} {m : Mail} (h : sendErr ms m = 0) : mailsCheck ms = 0 ∧ mailsCheck [m] = 0 ∧ mailsCheck (sent ms m) = 0 := by
  unfold sendErr at h
  split at h
  · rename_i h1
    refine ⟨h1, h, ?_⟩
    unfold sent
    split
    · rename_i h2
      have h1' := h1
      have h' := h
      unfold mailsCheck at h1' h' ⊢
      rw [if_neg (by omega)] at h1'
      rw [if_neg (by simp)] at h'
      rw [if_neg (by simp; omega), mailsFrom_app h1']
      exact h'
    · exact h1
  · rename_i h1; exact absurd h h1
theorem cWayBack {H : Heap} {a a' : Option Addr} {l c l' c' : Nat} {ms : List Mail} (hx : Mails H a l ms) (m : Mail) (hp : Pins H a' l' m.rel.lock) (k : Int) :
    Spec Try.prog 9 [.slice a l c, mailArg m a' l' c', i64 k] H fun v _ => v = .bool true := by
  refine TryvcJ Try.func9 (by kernel_rfl) (by kernel_rfl) _ rfl (fun base K => vc9 a a' l c l' c' m.agent m.try_ m.rel.id k m.rep m.good base H K) fun base hb => ?_
  intro b
  have hml := hx.len
  refine (cSend hx m hp).sl2 fun a1 n1 c1 H1 e1 _ hS => ⟨¬ sendErr ms m = 0, cPosted.bool1 fun H2 e2 _ => ⟨fun h => by simp at h, fun _ => ⟨rfl, e2, Iff.rfl⟩⟩, fun h => cPosted.bool1 fun H3 _ _ => rfl, fun h => ?_⟩
  have h := Decidable.not_not.1 h
  obtain ⟨hnc, hS⟩ := hS
  rw [if_pos h] at hS
  obtain ⟨k1, k2, k3⟩ := sent_ok h
  obtain ⟨h40, _⟩ := mailsCheck_zero k1
  have hSl := hS.len
  have x1 := hx.ext' e1
  have p1 := hp.ext' e1
  refine ⟨fun hl => (cSame hS x1).bool1 fun H2 _ _ => ?_, fun hl => ?_⟩
  · have : sent ms m = ms := by rw [sent, if_neg (by omega)]
    simp [this]
  have hsent : sent ms m = ms ++ [m] := by rw [sent, if_pos (by omega)]
  rw [hsent] at hS hSl k3
  have hn1 : n1 = l + 1 := by simp at hSl; omega
  have hE : takeErr (ms ++ [m]) l = 0 := by rw [takeErr, if_pos k3, if_neg (by simp; omega)]
  have htook : took (ms ++ [m]) l = m := by
    rw [took, Int.toNat_natCast, List.getD_eq_getElem?_getD, List.getElem?_append_right (by omega), hml, Nat.sub_self]; rfl
  have hleft : left (ms ++ [m]) l false = ms := by
    rw [left, if_neg (by simp), Int.toNat_natCast, List.take_append_of_le_length (by omega), List.take_of_length_le (by omega), List.drop_eq_nil_of_le (by simp; omega), List.append_nil]
  refine (cTake hS (l : Int) false).mail3 fun a3 n3 c3 la ln lc H3 e3 _ hT hl3 => fun b3 => ?_
  rw [hE, if_pos rfl, hleft] at hT
  rw [hE, if_pos rfl, htook] at hl3
  rw [hE, if_pos rfl, htook]
  refine ⟨False, ⟨fun h => absurd rfl h, fun _ => (cSame hT (x1.ext' e3)).bool1 fun H4 e4 _ => ⟨fun h => by simp at h, fun _ => ?_⟩⟩, fun h => h.elim, fun _ => ?_⟩
  · intro g5 H5 hN5 _ hg5 g6 H6 hN6 _ hg6
    have b5 : Mails H5 (some ⟨g5, 0, none⟩) 1 [m] := mail_box (m := m) hg5 ((hl3.ext' e4).ext' hN5.ext)
    have b6 : Mails H6 (some ⟨g6, 0, none⟩) 1 [m] := mail_box (m := m) hg6 ((((p1.ext' e3).ext' e4).ext' hN5.ext).ext' hN6.ext)
    exact (cSame (b5.ext' hN6.ext) b6).bool1 fun H7 e7 _ => ⟨rfl, Ext.trans (Ext.trans (Ext.trans e4 hN5.ext) hN6.ext) e7, by simp⟩
  refine (cAt k (n1 : Int) (by omega) (by omega)).int1 fun H4 e4 _ => ?_
  have hat := atP_range k (n := (n1 : Int)) (by omega)
  have hS4 := (hS.ext' e3).ext' e4
  refine (cTake hS4 (atP k n1) true).mail3 fun a5 n5 c5 la5 ln5 lc5 H5 e5 _ hT5 hl5 => fun b5 => ?_
  have hE5 : takeErr (ms ++ [m]) (atP k n1) = 0 := by rw [takeErr, if_pos k3, if_neg (by simp; omega)]
  rw [hE5, if_pos rfl, left, if_pos rfl] at hT5
  rw [hE5, if_pos rfl] at hl5
  rw [hE5, if_pos rfl]
  refine ⟨fun _ => (cSame hT5 (hS4.ext' e5)).bool1 fun H6 e6 _ => ⟨fun _ => ?_, fun h => by simp at h⟩, fun h => absurd rfl h⟩
  rintro r rfl
  rw [wrap_in (by omega) (by omega)]
  refine ⟨hat.1, by omega, by omega, fun a7 ha7 => ?_⟩
  intro g8 H8 hN8 _ hg8
  have b8 : Mails H8 (some ⟨g8, 0, none⟩) 1 [took (ms ++ [m]) (atP k n1)] := mail_box (m := took (ms ++ [m]) (atP k n1)) hg8 ((hl5.ext' e6).ext' hN8.ext)
  have hS8 := ((hS4.ext' e5).ext' e6).ext' hN8.ext
  have hmk : (ms ++ [m])[(atP k n1).toNat]? = some (took (ms ++ [m]) (atP k n1)) := by
    rw [took, List.getD_eq_getElem?_getD, List.getElem?_eq_getElem (by simp; omega)]; rfl
  have hone : Mails H8 a7 1 [took (ms ++ [m]) (atP k n1)] := by
    have := hS8.sub (l := (atP k n1).toNat) (m := 1) (a' := a7) (by omega) (fun _ => ha7 (by omega))
    have e : ((ms ++ [m]).drop (atP k n1).toNat).take 1 = [took (ms ++ [m]) (atP k n1)] := by rw [drop_at hmk]; rfl
    rw [e] at this
    exact this
  rw [show Int.toNat (atP k n1 + 1) - Int.toNat (atP k n1) = 1 from by omega]
  exact (cSame b8 hone).bool1 fun H9 _ _ => by simp
end Go.Vg
