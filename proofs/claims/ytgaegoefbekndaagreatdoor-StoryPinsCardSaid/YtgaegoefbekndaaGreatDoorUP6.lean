/- What is proved here: a part of the proof of laws of this seat: what a contract is, how it comes of a condition, contracts of the functions that are reached, the plain laws. -/
import Derived.Test.YtgaegoefbekndaaGreatDoorUP5
import Derived.Laws.Strings
import Derived.Lib.Bytealg
set_option linter.unusedSimpArgs false
set_option linter.unusedVariables false
set_option maxRecDepth 100000
namespace Go.Vg
open Go Go.Proofs
open Go Go.Proofs
theorem cNoteRelease {H : Heap} {a : O} {l c : Nat} {xs : List Pin} (hx : Pins H a l xs) (id : Int) : Spec Tryz.prog 167 [.agg #[.int .i64 id, .slice a l c]] H fun v _ => v = i64 (relErr ⟨id, xs⟩) := by
 refine TryzvcJ Tryz.func167 (by kernel_rfl) (by kernel_rfl) _ rfl (fun base K => vc68 id a l c base H K) fun base hb => ?_
 intro b
 refine ⟨id < 1 ∨ 6 < id, ⟨fun _ => ⟨rfl, fun _ _ h => h, by omega⟩, fun _ => ⟨rfl, fun _ _ h => h, by omega⟩⟩, fun h => by rw [relErr, if_pos h], fun h => ?_⟩
 refine (cLockCheck hx).int1 fun H1 e1 _ => ?_
 rw [relErr, if_neg h]
theorem rel_eq {id id' : Int} {xs ys : List Pin} : ((⟨id, xs⟩ : Rls) = ⟨id', ys⟩) ↔ id = id'/\ xs = ys := by simp
theorem cAlike {H : Heap} {a a' : O} {l c l' c' : Nat} {xs ys : List Pin} (hx : Pins H a l xs) (hy : Pins H a' l' ys) (id id' : Int) :
  Spec Tryz.prog 56 [.agg #[.int .i64 id, .slice a l c], .agg #[.int .i64 id', .slice a' l' c']] H fun v _ => v = .bool (decide ((⟨id, xs⟩ : Rls) = ⟨id', ys⟩)) := by
 refine TryzvcJ Tryz.func56 (by kernel_rfl) (by kernel_rfl) _ rfl (fun base K => vc86 id id' a a' l c l' c' base H K) fun base hb => ?_
 have hxl := hx.len
 have hyl := hy.len
 have hle := hx.le
 intro b b1
 refine ⟨id ≠ id' ∨ l ≠ l', ⟨fun _ => ⟨rfl, fun _ _ h => h, by omega⟩, fun _ => ⟨rfl, fun _ _ h => h, by omega⟩⟩, fun h => ?_, fun h => ?_⟩
 ·rw [decide_eq_false]
  rw [rel_eq]
  rintro ⟨rfl, rfl⟩
  omega
 have hid : id = id' := by omega
 have hll : l = l' := by omega
 have hW : decide ((⟨id, xs⟩ : Rls) = ⟨id', ys⟩) = decide (xs = ys) := by rw [decide_eq_decide, rel_eq]; simp [hid]
 rw [hW]
 refine ⟨fun vs _ => ∃ (b : Bool) (k : Nat), vs = [.bool b, i64 k]/\ k <= l/\ (xs.drop k = ys.drop k ↔ xs = ys), upTo l 1, ⟨false, 0, rfl, by omega, by simp⟩, fun b n H' hN hI => ?_⟩
 obtain ⟨b', k, hvs, hk, hI⟩ := hI
 obtain ⟨rfl, rfl⟩ : b = b'/\ n = (k : Int) := by simpa using hvs
 refine ⟨fun hlt => hx.pin hN.ext (by omega) hlt fun p hp => fun b3 => hy.pin hN.ext (by omega) (by omega) fun q hq => ⟨_, neq48 _ _ _ _, fun h => ?_, fun h => ?_⟩, fun hge => ?_⟩
 ·rw [Int.toNat_natCast] at hp hq
  rw [drop_at hp, drop_at hq] at hI
  rw [decide_eq_false]
  intro e
  obtain ⟨rfl, _⟩ := List.cons.inj (hI.2 e)
  simp at h
 ·rw [Int.toNat_natCast] at hp hq
  rw [drop_at hp, drop_at hq] at hI
  have hpq : p = q := by cases p; cases q; simp at h; simp [h]
  rintro r rfl
  rw [wrap_in (by omega) (by omega)]
  exact ⟨rfl, ⟨b, k + 1, rfl, by omega, by rw [← hI]; simp [hpq]⟩, by simp [upTo]; omega⟩
 ·rw [decide_eq_true]
  exact hI.1 (by rw [drop_all hxl (by omega), drop_all hyl (by omega)])
theorem len_zero {xs : List Pin} {n : Nat} (h : xs.length = n) : (xs = [] ↔ n = 0) := by rw [← h]; exact List.length_eq_zero_iff.symm
theorem cWayCheck {H : Heap} {a : O} {l c : Nat} {ms : List Mail} (hx : Mails H a l ms) : Spec Tryz.prog 102 [.slice a l c] H fun v _ => v = i64 (mailsCheck ms) := by
 refine TryzvcJ Tryz.func102 (by kernel_rfl) (by kernel_rfl) _ rfl (fun base K => vc50 a l c base H K) fun base hb => ?_
 have hl := hx.len
 refine ⟨fun h => by rw [mailsCheck, if_pos (by omega)], fun h => ?_⟩
 have hW : mailsCheck ms = mailsFrom ms := by rw [mailsCheck, if_neg (by omega)]
 rw [hW]
 refine ⟨fun vs _ => ∃ (d : Int) (i : Nat), vs = [i64 d, i64 i]/\ i <= l/\ mailsFrom (ms.drop i) = mailsFrom ms, upTo l 1, ⟨0, 0, rfl, by omega, rfl⟩, fun d n H' hN hI => ?_⟩
 obtain ⟨d', i, hvs, hi, hI⟩ := hI
 obtain ⟨rfl, rfl⟩ : d = d'/\ n = (i : Int) := by simpa using hvs
 refine ⟨fun hlt => hx.mail hN.ext (by omega) hlt fun m a' n' c' hm hp => ?_, fun hge => ?_⟩
 ·rw [Int.toNat_natCast] at hm
  rw [drop_at hm, mailsFrom] at hI
  have hpl := hp.len
  have next : mailsFrom (ms.drop (i + 1)) = mailsFrom ms->∀ (Hn : Heap) (r : Int), r = IntKind.wrap .i64 ((i : Int) + 1)->(∃ (d_1 : Int) (i_1 : Nat), [Value.int .i64 d, Value.int .i64 r] = [i64 d_1, i64 i_1]/\ i_1 <= l/\ mailsFrom (ms.drop i_1) = mailsFrom ms)/\ upTo l 1 [Value.int .i64 d, Value.int .i64 r] < upTo l 1 [Value.int .i64 d, Value.int .i64 (i : Int)] := by
   rintro hn Hn r rfl
   rw [wrap_small (by omega) (by omega)]
   exact ⟨⟨_, i + 1, rfl, by omega, hn⟩, by simp [upTo]; omega⟩
  intro b
  refine ⟨m.agent < 0 ∨ 6 <= m.agent ∨ m.try_ < 1 ∨ 200 < m.try_, ?_, fun h1 => ?_, fun h1 => ?_⟩
  ·repeat' (first | exact ⟨rfl, fun _ _ h => h, by omega⟩ | intro _ | refine ⟨?_, ?_⟩)
  ·rw [if_pos (show badWho m from h1)] at hI; rw [← hI]
  rw [if_neg (show ¬ badWho m from h1)] at hI
  refine ⟨badForm m, ?_, fun h2 => ?_, fun h2 => ?_⟩
  ·have hz := len_zero hpl
   refine ⟨fun hr => ⟨fun g => ⟨rfl, fun _ _ h => h, .inl ⟨hr, fun h => g h.1⟩⟩, fun g => ⟨fun g2 => ⟨rfl, fun _ _ h => h, .inl ⟨hr, fun h => by have := hz.1 h.2; omega⟩⟩, fun g2 => ⟨fun g3 => (by rw [hr] at g3; cases g3), fun _ => ⟨rfl, fun _ _ h => h, ?_⟩⟩⟩⟩,
    fun hr => ⟨fun _ => ⟨rfl, fun _ _ h => h, ?_⟩, fun g => absurd hr g⟩⟩
   ·rintro (⟨_, h⟩ | ⟨h, _⟩)
    ·exact h ⟨Decidable.not_not.1 g, hz.2 (by omega)⟩
    ·rw [hr] at h; cases h
   ·constructor
    ·rintro (⟨h, _⟩ | ⟨_, h⟩)
     ·rw [hr] at h; cases h
     ·exact h
    ·exact fun h => .inr ⟨hr, h⟩
  ·rw [if_pos h2] at hI; rw [← hI]
  rw [if_neg h2] at hI
  refine ⟨fun h3 => ?_, fun h3 => (cNoteRelease (hp.ext' hN.ext) _).int1 fun H2 e2 _ => ⟨fun h4 => ?_, fun h4 => ?_⟩⟩
  ·rw [if_pos h3] at hI
   exact next hI H'
  ·rw [if_neg (by simp [h3]), if_pos h4] at hI; rw [← hI]
  ·rw [if_neg (by simp [h3]), if_neg h4] at hI
   exact next hI H2
 ·rw [← hI, drop_all hx.len (by omega), mailsFrom]
open Go Go.Proofs
theorem cCloneMails {H : Heap} {a : O} {l c : Nat} {ms : List Mail} (hx : Mails H a l ms) (hl : l <= 100000) : Spec Tryz.prog 42 [.slice a l c] H fun v H' => ∃ a n c rs, v = .slice a n c/\ Fresh H H' 74 6 a n c rs.flatten/\ (∀ r ∈ rs, r.length = 6)/\ AllR RMail H rs ms := by
 refine TryzvcJ Tryz.func42 (by kernel_rfl) (by kernel_rfl) _ rfl (fun base K => vc52 a l c base H K) fun base hb => ⟨_, eqNil Tryz.underlying39, fun h => ?_, fun h => ?_⟩
 ·obtain rfl : a = none := by cases a <;> simp at h ⊢
  obtain ⟨_, rfl⟩ := hx.addr_nil
  exact ⟨none, 0, 0, [], rfl, Fresh.zero, by simp, trivial⟩
 ·intro g H1 hN1 _ hg
  obtain ⟨rs, h1, h2, h3, h4⟩ := hx.rows RMail.len
  exact ⟨[], _, Row.zero, h3, allOne_rows RMail.one h2, h4.imp id (fun ⟨b, o, hb, hc⟩ => ⟨b, o, hb, cellsAt_ext hN1.ext hc⟩), by omega, by omega, fun a3 c3 H3 hG hR => ⟨_, _, _, rs, rfl, hR.fresh hb, h1, h2⟩⟩
theorem Row.at {base : Nat} {H : Heap} {e : TypeId} {sz n c i : Nat} {a : O} {L : List (List Value)} {r : List Value} (h : Row base H e sz a n c L.flatten) (hw : ∀ r ∈ L, r.length = sz) (hn : L.length = n) (hr : L[i]? = some r) :
  ∃ b : Nat, a = some ⟨b, 0, none⟩/\ ∀ (j : Nat) (v : Value), r[j]? = some v->H.cell b (0 + i * sz + j) = some v := by
 have hi : i < n := by have := (List.getElem?_eq_some_iff.1 hr).1; omega
 obtain ⟨b, o, r', ha, hr', hc⟩ := (has_of_row h rfl hw hn).get hi
 rw [hr] at hr'
 obtain rfl := Option.some.inj hr'
 obtain ⟨b', _, hb', _⟩ := h.block (by omega)
 rw [ha] at hb'
 simp at hb'
 obtain ⟨rfl, rfl⟩ := hb'
 exact ⟨b, ha, hc⟩
theorem cCopy {H : Heap} {a : O} {l c : Nat} {ms : List Mail} (hx : Mails H a l ms) (hl : l <= 100000) (hk : ∀ m ∈ ms, m.rel.lock.length <= 100000) : Spec Tryz.prog 172 [.slice a l c] H fun v H' => ∃ a n c G rs, v = .slice a n c/\ NewSl RMail 6 74 H G H' a n c rs ms := by
 refine TryzvcJ Tryz.func172 (by kernel_rfl) (by kernel_rfl) _ rfl (fun base K => vc115 a l c base H K) fun base hb => ?_
 have hml := hx.len
 refine (cCloneMails hx hl).mono fun v H1 e1 hv => ?_
 obtain ⟨a1, n1, c1, rs, rfl, hF, hw, hA⟩ := hv
 refine ⟨a1, n1, c1, rfl, fun hN1 => ?_⟩
 have hR := hF.row hN1
 have hrl : rs.length = n1 := by
  have := hR.1
  rw [flat_wid hw] at this
  omega
 have hrm := hA.len
 have hclear : c1 ≠ 0->∀ g, a1 = some ⟨g, 0, none⟩->H g = none := fun hc g hg => by
  rcases hF.2.2.2 with ⟨_, h0⟩ | ⟨g', k, h1, h2, _⟩
  ·exact absurd h0 hc
  ·rw [hg] at h1; simp at h1; subst h1; exact h2
 refine ⟨fun vs Hc => ∃ (i : Nat) (r1 : List (List Value)) (G : Heap), vs = [i64 i]/\ i <= n1/\ r1.length = i/\ (∀ r ∈ r1, r.length = 6)/\ Row base Hc 74 6 a1 n1 c1 (r1 ++ rs.drop i).flatten/\ AllR RMail G r1 (ms.take i)/\ Away H G/\ Ext G Hc/\ (c1 ≠ 0->∀ g, a1 = some ⟨g, 0, none⟩->G g = none),
  upTo n1 0, ⟨0, [], fun _ => none, rfl, by omega, rfl, by simp, hR, by simp [AllR], fun _ _ h => (by cases h), fun _ _ h => (by cases h), fun _ _ _ => rfl⟩, fun m H2 hN2 hI => ?_⟩
 obtain ⟨i, r1, G, hvs, hi, hr1, hw1, hR2, hA2, haw, hsub, hcl⟩ := hI
 obtain rfl : m = (i : Int) := by simpa using hvs
 refine ⟨fun hlt => ?_, fun hge => ?_⟩
 ·have hri : rs[i]? = some (rs[i]'(by omega)) := List.getElem?_eq_getElem (by omega)
  have hmi : ms[i]? = some (ms[i]'(by omega)) := List.getElem?_eq_getElem (by omega)
  generalize hrr : rs[i]'(by omega) = r at hri
  generalize hmm : ms[i]'(by omega) = m at hmi
  obtain ⟨la, ln, lc, rfl, hp⟩ := hA.get hri hmi
  have hpl := hp.len
  have hkm := hk m (List.mem_of_getElem? hmi)
  have hwL : ∀ r ∈ r1 ++ rs.drop i, r.length = 6 := fun r hr => by
   rcases List.mem_append.1 hr with hr | hr
   ·exact hw1 r hr
   ·exact hw r (List.mem_of_mem_drop hr)
  have hat : (r1 ++ rs.drop i)[i]? = some (mailVal m la ln lc) := by
   rw [List.getElem?_append_right (by omega), hr1, Nat.sub_self, List.getElem?_drop, Nat.add_zero]; exact hri
  obtain ⟨b, hab, hcell⟩ := hR2.at hwL (by simp; omega) hat
  have hd := drop_at hri
  refine ⟨b, 0, hab, by omega, hlt, _, _, _, _, _, _, _, _, ⟨hcell 0 _ rfl, hcell 1 _ rfl, hcell 2 _ rfl, hcell 3 _ rfl, hcell 4 _ rfl, hcell 5 _ rfl, trivial⟩, fun b2 => ?_⟩
  refine (cCloneJ (hp.ext' hN2.ext) (by omega)).mono fun v H3 e3 hv => ?_
  obtain ⟨a6, n6, c6, rfl, hF6⟩ := hv
  refine ⟨a6, n6, c6, rfl, fun hN3 => ?_⟩
  obtain ⟨b3, k3, hb3, hbase, hc1, hH2, hf3, hs3, _⟩ := hR2.block (by omega)
  obtain rfl : b = b3 := by rw [hab] at hb3; simpa using hb3
  have hnc := hR2.2.1
  refine ⟨b, 0, hab, by omega, hlt, k3, e3 _ _ hH2, hf3, hbase, by rw [hs3, Int.toNat_natCast]; omega, fun H4 hu => ?_⟩
  rintro r rfl
  rw [wrap_in (by omega) (by omega)]
  rw [Int.toNat_natCast] at hu
  have hR4 := (hR2.ext e3).upd hab hc1 (e3 _ _ hH2) (o := 0 + i * 6 + 4 + 1) (vs := [.slice a6 n6 c6]) (by rw [hR2.1]; show 0 + i * 6 + 4 + 1 + 1 <= n1 * 6; omega) hu
  rw [hd, show 0 + i * 6 + 4 + 1 = r1.length * 6 + 5 from by omega, rows_set hw1 rfl (by simp)] at hR4
  have hnew : RMail (G.plus (newOf H2 H3)) (setRange (mailVal m la ln lc) 5 [.slice a6 n6 c6]) m := ⟨a6, n6, c6, rfl, Sl.ext REnc.mono (hF6.sl_new pinCells_len (by omega)) (new_in_grow hsub)⟩
  have hGb : (G.plus (newOf H2 H3)) b = none := by
   unfold Heap.plus newOf
   rw [hcl hc1 b hab, hH2]
  refine ⟨⟨i + 1, r1 ++ [setRange (mailVal m la ln lc) 5 [.slice a6 n6 c6]], G.plus (newOf H2 H3), rfl, by omega, by simp [hr1], fun r hr => ?_, by simpa using hR4, ?_, ?_, fun x k hx => ?_, fun _ g hg => ?_⟩, by simp [upTo]; omega⟩
  ·rcases List.mem_append.1 hr with hr | hr
   ·exact hw1 r hr
   ·simp at hr; subst hr; rfl
  ·rw [take_at hmi]
   exact AllR.append (AllR.one hnew) (hA2.mono RMail.mono plus_left)
  ·exact plus_away haw (newOf_away.sub hN2.ext)
  ·have hne : x ≠ b := fun e => by rw [e, hGb] at hx; cases hx
   rw [hu.there x hne]
   exact plus_sub (hsub.trans e3) newOf_ext x k hx
  ·rw [hab] at hg; simp at hg; subst hg; exact hGb
 ·obtain rfl : i = n1 := by omega
  rw [List.drop_eq_nil_of_le (by omega), List.append_nil] at hR2
  rw [List.take_of_length_le (by omega)] at hA2
  exact ⟨_, _, _, G, r1, rfl, OwnSl.new ⟨hR2, hw1, hA2, hsub, hcl⟩ hb haw⟩
theorem cSend {H : Heap} {a a' : O} {l c l' c' : Nat} {ms : List Mail} (hx : Mails H a l ms) (m : Mail) (hp : Pins H a' l' m.rel.lock) :
  Spec Tryz.prog 245 [.slice a l c, .agg #[.int .i64 m.agent, .int .i64 m.try_, .bool m.rep, .bool m.good, .int .i64 m.rel.id, .slice a' l' c']] H fun v H' => ∃ a n c, v = .tuple #[.slice a n c, i64 (sendErr ms m)]/\ n <= c/\ Mails H' a n (if sendErr ms m = 0 then sent ms m else []) := by
 refine TryzvcJ Tryz.func245 (by kernel_rfl) (by kernel_rfl) _ rfl (fun base K => vc45 a a' l c l' c' m.agent m.try_ m.rel.id m.rep m.good base H K) fun base hb => ?_
 intro b g H1 hN1 _ hg
 have hml := hx.len
 have bx : Mails H1 (some ⟨g, 0, none⟩) 1 [m] := mail_box (m := m) hg (hp.ext' hN1.ext)
 refine ⟨fun vs Hc => ∃ (a4 : O) (n4 c4 : Nat) (d : Int) (k : Nat), vs = [.slice a4 n4 c4, i64 d, i64 k]/\ k <= 2/\ (0 < k->mailsCheck ms = 0)/\ (1 < k->mailsCheck [m] = 0)/\ Ext H1 Hc, upTo 2 2, ⟨none, 0, 0, 0, 0, rfl, by omega, by omega, by omega, Ext.refl _⟩, fun a4 n4 c4 d n H' hN hI => ?_⟩
 obtain ⟨a4', n4', c4', d', k, hvs, hk, hk0, hk1, he⟩ := hI
 obtain ⟨⟨rfl, rfl, rfl⟩, rfl, rfl⟩ : (a4 = a4'/\ n4 = n4'/\ c4 = c4')/\ d = d'/\ n = (k : Int) := by simpa using hvs
 refine ⟨fun hlt => ⟨by omega, hlt, ?_⟩, fun hge => ?_⟩
 ·by_cases k0 : k = 0
  ·subst k0
   refine ⟨a, l, c, rfl, (cWayCheck (hx.ext' hN.ext)).int1 fun H2 e2 _ => ⟨fun h => ?_, fun h => ?_⟩⟩
   ·have e : sendErr ms m = mailsCheck ms := by rw [sendErr, if_neg h]
    rw [e, if_neg h]
    exact ⟨none, 0, 0, rfl, by omega, Sl.nil⟩
   ·rintro r rfl
    rw [wrap_small (by omega) (by omega)]
    exact ⟨rfl, ⟨_, _, _, _, 1, rfl, by omega, fun _ => Decidable.not_not.1 h, by omega, he.trans e2⟩, by simp [upTo]⟩
  ·obtain rfl : k = 1 := by omega
   refine ⟨some ⟨g, 0, none⟩, 1, 1, rfl, (cWayCheck (bx.ext' he)).int1 fun H2 e2 _ => ⟨fun h => ?_, fun h => ?_⟩⟩
   ·have e : sendErr ms m = mailsCheck [m] := by rw [sendErr, if_pos (hk0 (by omega))]
    rw [e, if_neg h]
    exact ⟨none, 0, 0, rfl, by omega, Sl.nil⟩
   ·rintro r rfl
    rw [wrap_small (by omega) (by omega)]
    exact ⟨rfl, ⟨_, _, _, _, 2, rfl, by omega, fun _ => hk0 (by omega), fun _ => Decidable.not_not.1 h, he.trans e2⟩, by simp [upTo]⟩
 obtain rfl : k = 2 := by omega
 have hE : sendErr ms m = 0 := by rw [sendErr, if_pos (hk0 (by omega))]; exact hk1 (by omega)
 obtain ⟨h40, hlk⟩ := mailsCheck_zero (hk0 (by omega))
 obtain ⟨_, hlk1⟩ := mailsCheck_zero (hk1 (by omega))
 rw [hE, if_pos rfl]
 refine (cCopy (hx.ext' hN.ext) (by omega) (fun m hm => by have := hlk m hm; omega)).mono fun v H3 e3 hv => ?_
 obtain ⟨a5, n5, c5, G, rs, rfl, hNew⟩ := hv
 refine ⟨a5, n5, c5, rfl, fun hN3 => ?_⟩
 have hO := hNew.own hN3
 obtain ⟨_, hn5⟩ := hO.rlen (by omega)
 refine ⟨fun hlt => ?_, fun hge => ?_⟩
 ·intro g2 H4 hN4 hg2n hg2
  have bx2 : Mails H4 (some ⟨g2, 0, none⟩) 1 [m] := mail_box (m := m) hg2 (((hp.ext' hN.ext).ext' e3).ext' hN4.ext)
  refine (cCopy bx2 (by omega) (fun x hx => by have := hlk1 x hx; omega)).mono fun v H5 e5 hv => ?_
  obtain ⟨a6, n6, c6, G', rs', rfl, hNew'⟩ := hv
  refine ⟨a6, n6, c6, rfl, fun hN5 => ?_⟩
  have hO' := hNew'.own hN5
  obtain ⟨hr6, hn6⟩ := hO'.rlen (by omega)
  have e45 : Ext H3 H5 := Ext.trans hN4.ext e5
  have hOg := hO.grow RMail.mono e45
  obtain ⟨rs6, q1, q2, q3, q4⟩ := (hO'.sl RMail.mono (by omega)).rows RMail.len
  have hcells : n6 = 0 ∨ ∃ (b : Nat) (o : Nat), a6 = some ⟨b, o, none⟩/\ cellsAt H5 b o 0 rs'.flatten := by
   by_cases h0 : n6 = 0
   ·exact .inl h0
   ·obtain ⟨b6, k6, hb6, _⟩ := hO'.row.block (by omega)
    have := hO'.row
    rw [hb6] at this
    exact .inr ⟨b6, 0, hb6, by simpa using this.cellsAt (k := 0) (by omega) (by omega)⟩
  simp at hn6
  refine ⟨rs.flatten, rs'.flatten, hOg.row, by rw [flat_wid hNew'.wid, hr6], allOne_rows RMail.one hNew'.all, hcells, by omega, by omega, fun a7 c7 H7 hG hR7 => ?_⟩
  have hall : AllR RMail (G.plus (newOf H3 H5)) rs' [m] := hNew'.all_new RMail.mono |>.mono RMail.mono ((newOf_mono hN4.ext).trans (new_in_grow hO.sub))
  have hOf := hOg.grew hG hR7 hNew'.wid hall
  refine ⟨_, _, _, rfl, hOf.row.2.1, ?_⟩
  rw [sent, if_pos (by omega)]
  exact hOf.sl RMail.mono (by omega)
 ·refine ⟨_, _, _, rfl, hO.row.2.1, ?_⟩
  rw [sent, if_neg (by omega)]
  exact hO.sl RMail.mono (by omega)
theorem cTake {H : Heap} {a : O} {l c : Nat} {ms : List Mail} (hx : Mails H a l ms) (k : Int) (tw : Bool) :
  Spec Tryz.prog 175 [.slice a l c, .int .i64 k, .bool tw] H fun v H' => ∃ a n c la ln lc, v = .tuple #[.slice a n c, .agg (mailVal (if takeErr ms k = 0 then took ms k else noMail) la ln lc).toArray, i64 (takeErr ms k)]/\ Mails H' a n (if takeErr ms k = 0 then left ms k tw else [])/\ Pins H' la ln (if takeErr ms k = 0 then took ms k else noMail).rel.lock := by
 refine TryzvcJ Tryz.func175 (by kernel_rfl) (by kernel_rfl) _ rfl (fun base K => vc48 a l c k tw base H K) fun base hb => ?_
 intro b
 have hml := hx.len
 refine (cWayCheck hx).int1 fun H1 e1 hN1 => ⟨fun h => ?_, fun h => ?_⟩
 ·have e : takeErr ms k = mailsCheck ms := by rw [takeErr, if_neg h]
  rw [e, if_neg h, if_neg h]
  exact ⟨none, 0, 0, none, 0, 0, rfl, Sl.nil, Sl.nil⟩
 have h := Decidable.not_not.1 h
 obtain ⟨h40, hlk⟩ := mailsCheck_zero h
 refine ⟨k < 0 ∨ (l : Int) <= k, ⟨fun _ => ⟨rfl, fun _ _ h => h, by omega⟩, fun _ => ⟨rfl, fun _ _ h => h, by omega⟩⟩, fun hk => ?_, fun hk => ?_⟩
 ·have e : takeErr ms k = 5 := by rw [takeErr, if_pos h, if_pos (by omega)]
  rw [e, if_neg (by omega), if_neg (by omega)]
  exact ⟨none, 0, 0, none, 0, 0, rfl, Sl.nil, Sl.nil⟩
 have hE : takeErr ms k = 0 := by rw [takeErr, if_pos h, if_neg (by omega)]
 rw [hE, if_pos rfl, if_pos rfl]
 refine (cCopy (hx.ext' e1) (by omega) (fun m hm => by have := hlk m hm; omega)).mono fun v H3 e3 hv => ?_
 obtain ⟨a5, n5, c5, G, rs, rfl, hNew⟩ := hv
 refine ⟨a5, n5, c5, rfl, fun hN3 => ?_⟩
 have hO := hNew.own hN3
 obtain ⟨hr5, hn5⟩ := hO.rlen (by omega)
 have hnc := hO.row.2.1
 have hmk : ms[k.toNat]? = some (took ms k) := by
  rw [took, List.getD_eq_getElem?_getD, List.getElem?_eq_getElem (by omega)]; rfl
 rintro r rfl
 rw [wrap_small (by omega) (by omega)]
 refine ⟨by omega, by omega, by omega, fun a6 ha6 => ?_⟩
 have hS3 := hO.sl RMail.mono (by omega)
 have hone : Mails H3 a6 1 [took ms k] := by
  have := hS3.sub (l := k.toNat) (m := 1) (a' := a6) (by omega) (fun _ => ha6 (by omega))
  have e : (ms.drop k.toNat).take 1 = [took ms k] := by rw [drop_at hmk]; rfl
  rw [e] at this
  exact this
 rw [show Int.toNat (k + 1) - Int.toNat k = 1 from by omega]
 refine (cCopy hone (by omega) (fun m hm => by simp at hm; subst hm; have := hlk _ (List.mem_of_getElem? hmk); omega)).mono fun v H4 e4 hv => ?_
 obtain ⟨a7, n7, c7, G', rs', rfl, hNew'⟩ := hv
 refine ⟨a7, n7, c7, rfl, fun hN4 => ?_⟩
 have hO' := hNew'.own hN4
 obtain ⟨hr7, hn7⟩ := hO'.rlen (by omega)
 simp at hn7
 obtain ⟨r', rfl⟩ : ∃ r', rs' = [r'] := List.length_eq_one_iff.1 (by omega)
 obtain ⟨⟨la, ln, lc, rfl, hp⟩, _⟩ := hO'.all
 obtain ⟨b7, hb7, hcell⟩ := hO'.row.at hO'.wid hr7 (i := 0) rfl
 have hpA := hp.ext' hO'.sub
 refine ⟨b7, 0, hb7, by decide, by omega, _, _, _, _, _, _, _, _, ⟨hcell 0 _ rfl, hcell 1 _ rfl, hcell 2 _ rfl, hcell 3 _ rfl, hcell 4 _ rfl, hcell 5 _ rfl, trivial⟩, fun b2 => ?_⟩
 have hOg := hO.grow RMail.mono e4
 refine ⟨fun ht => ?_, fun ht => ?_⟩
 ·rintro r rfl
  refine ⟨rs.flatten, k.toNat, k.toNat + 1, by omega, by omega, by omega, by omega, by omega, hOg.row, allOne_rows RMail.one hNew.all, fun H5 hG hR5 => ?_⟩
  rw [flat_takeR k.toNat hNew.wid, flat_dropR (k.toNat + 1) hNew.wid, ← List.flatten_append] at hR5
  have hOf := hOg.regrew hG hR5 (fun r hr => by
   rcases List.mem_append.1 hr with hr | hr
   ·exact hNew.wid r (List.mem_of_mem_take hr)
   ·exact hNew.wid r (List.mem_of_mem_drop hr)) (AllR.append (hOg.all.drop (k.toNat + 1)) (hOg.all.take k.toNat))
  refine ⟨_, _, _, la, ln, lc, rfl, ?_, hp.ext' fun x kx hx => ?_⟩
  ·rw [left, if_neg (by simp [ht])]
   exact hOf.sl RMail.mono (by omega)
  ·refine hG.keep x kx (hO'.sub x kx hx) ?_
   by_cases hc : c5 = 0
   ·exact .inl hc
   ·refine .inr fun ha => ?_
    obtain ⟨g, kg, hg1, hg2⟩ := hO.block hc
    rw [ha] at hg1
    obtain rfl : x = g := by simpa using hg1
    have := hNew'.away x kx hx
    rw [hg2] at this; cases this
 ·refine ⟨_, _, _, la, ln, lc, rfl, ?_, hpA⟩
  rw [left, if_pos (by simpa using ht)]
  exact hOg.sl RMail.mono (by omega)
open Go Go.Proofs
abbrev mailArg (m : Mail) (a : O) (n c : Nat) : Value := .agg #[.int .i64 m.agent, .int .i64 m.try_, .bool m.rep, .bool m.good, .int .i64 m.rel.id, .slice a n c]
def m1 : Mail := ⟨1, 2, true, true, ⟨0, []⟩⟩
def m2 : Mail := ⟨2, 3, false, false, ⟨2, [⟨1, 2⟩, ⟨2, 1⟩]⟩⟩
theorem cSecond {H : Heap} : Spec Tryz.prog 72 [] H fun v H' => ∃ a n c, v = .agg #[i64 2, .slice a n c]/\ Pins H' a n [⟨1, 2⟩, ⟨2, 1⟩] := by
 refine TryzvcJ Tryz.func72 (by kernel_rfl) (by kernel_rfl) _ rfl (fun base K => vc116 base H K) fun base hb => ?_
 intro b g H1 hN1 _ hg
 exact ⟨_, _, _, rfl, sl_of_boxE pinCells_len (xs := [⟨1, 2⟩, ⟨2, 1⟩]) hg rfl (by decide)⟩
open Go Go.Proofs
theorem cIndexByte {H : Heap} (s : ByteArray) (c : Int) : Spec Tryz.prog 266 [.string s, .int .u8 c] H fun v _ => v = i64 (Lib.indexByte s.data.toList c.toNat.toUInt8) := by
 refine TryzvcJ Tryz.func266 (by kernel_rfl) (by kernel_rfl) _ rfl (fun base K => vc158 s c base H K) fun base hb => ⟨_, fun w _ => ?_, rfl⟩
 show (callFunc 286 #[.string s, .int .u8 c]).run Tryz.prog w = _
 rw [run_callFunc_extern Tryz.func286 (by kernel_rfl) (by kernel_rfl) (by kernel_rfl) (e := Extern.BytealgIndexByte.indexByte) (by kernel_rfl), Lib.run_indexByteString]
 rfl
theorem eqStr {xo yo : Operand} {s t : ByteArray} : RunsTo Tryz.prog (binRun .eql 9 xo yo (.string s) (.string t)) (.bool (s.toList == t.toList)) := by
 intro w
 have hg : (eqGuard .eql 9 xo yo (.string s) (.string t)).run Tryz.prog w = .ok () w := by simp [eqGuard]
 simp only [binRun, Sem.run_bind, hg, Result.andThen_ok]
 have := run_equalIn_string (P := Tryz.prog) w 9999 9 s t Tryz.underlying9
 simp [binOp, Op.equal, this, Op.stringOp]
theorem cStrIndex {H : Heap} (s : ByteArray) (c : UInt8) : Spec Tryz.prog 247 [.string s, .string ⟨#[c]⟩] H fun v _ => v = i64 (Lib.indexByte s.data.toList c) := by
 refine TryzvcJ Tryz.func247 (by kernel_rfl) (by kernel_rfl) _ rfl (fun base K => vc157 s c base H K) fun base hb => ?_
 have h1 : ((ByteArray.mk #[c]).size : Int) = 1 := rfl
 refine ⟨((ByteArray.mk #[c]).toList == s.toList) = true, ⟨fun h => absurd h (by rw [h1]; decide), fun _ => ⟨_, eqStr, fun _ _ h => h, Iff.rfl⟩⟩, fun h => ?_, fun h => ⟨fun _ => ⟨(c.toNat : Int), fun w => ?_, (cIndexByte s (c.toNat : Int)).int1 fun H1 _ _ => ?_⟩, fun h' => absurd h1 h'⟩⟩
 ·rw [ByteArray.toList_eq, ByteArray.toList_eq, beq_iff_eq] at h
  rw [← h]
  simp [Lib.indexByte]
 ·rw [run_index_string w 9 (ByteArray.mk #[c]) .i64 0 Tryz.underlying9, dif_pos ⟨by omega, by rw [h1]; omega⟩]
  rfl
 ·congr 2
  simp
theorem cContains1 {H : Heap} (s : ByteArray) (c : UInt8) : Spec Tryz.prog 213 [.string s, .string ⟨#[c]⟩] H fun v _ => v = .bool (decide (0 <= Lib.indexByte s.data.toList c)) := by
 have h154 : Spec Tryz.prog 239 [.string s, .string ⟨#[c]⟩] H fun v _ => v = i64 (Lib.indexByte s.data.toList c) := by
  refine TryzvcJ Tryz.func239 (by kernel_rfl) (by kernel_rfl) _ rfl (fun base K => vc154 s ⟨#[c]⟩ base H K) fun base hb => ?_
  exact (cStrIndex s c).int1 fun H1 _ _ => rfl
 refine TryzvcJ Tryz.func213 (by kernel_rfl) (by kernel_rfl) _ rfl (fun base K => vc144 s ⟨#[c]⟩ base H K) fun base hb => ?_
 exact h154.int1 fun H1 _ _ => rfl
def usesB (k : Int) : ByteArray := if k = 1 then ⟨#[116, 114]⟩ else if k = 2 then ⟨#[116]⟩ else if k = 3 then ⟨#[116, 103]⟩ else if k = 4 then ⟨#[114]⟩ else if k = 5 then ⟨#[110]⟩ else if k = 6 then ⟨#[97, 116]⟩ else if k = 7 then ⟨#[97, 116, 103]⟩ else ⟨#[]⟩
theorem nine {k : Int} (h1 : 1 <= k) (h9 : k <= 9) : k = 1 ∨ k = 2 ∨ k = 3 ∨ k = 4 ∨ k = 5 ∨ k = 6 ∨ k = 7 ∨ k = 8 ∨ k = 9 := by omega
theorem cUses {H : Heap} {k : Int} (h1 : 1 <= k) (h9 : k <= 9) : Spec Tryz.prog 230 [.int .i64 k] H fun v _ => v = .string (usesB k) := by
 refine TryzvcJ Tryz.func230 (by kernel_rfl) (by kernel_rfl) _ rfl (fun base K => vc145 k base H K) fun base hb => ⟨by omega, by omega, usesB k, ?_, rfl⟩
 rcases nine h1 h9 with rfl | rfl | rfl | rfl | rfl | rfl | rfl | rfl | rfl <;> rfl
theorem cHas143 {H : Heap} {k : Int} (h1 : 1 <= k) (h9 : k <= 9) (c : UInt8) {p : Nat} (hp : H.cell p 0 = some (i64 k)) : Spec Tryz.prog 229 [.string ⟨#[c]⟩, .pointer (some ⟨p, 0, none⟩)] H fun v _ => v = .bool (decide (0 <= Lib.indexByte (usesB k).data.toList c)) := by
 refine TryzvcJ Tryz.func229 (by kernel_rfl) (by kernel_rfl) _ rfl (fun base K => vc143 ⟨#[c]⟩ p base H K) fun base hb => ⟨k, hp, ?_⟩
 refine (cUses h1 h9).mono fun v H1 e1 hv => ⟨_, hv, fun hN1 => ?_⟩
 exact (cContains1 (usesB k) c).bool1 fun H2 _ _ => rfl
theorem cHas {G : Bool->Heap->Prop} {k : Int} (h1 : 1 <= k) (h9 : k <= 9) {rest : List Value} {xs : List Bx} {b base : Nat} {Hb H : Heap} (e0 : Ext Hb H) {c : UInt8} {P : Prop} [Decidable P] (hP : 0 <= Lib.indexByte (usesB k).data.toList c ↔ P) (hG : ∀ H', Ext Hb H'->G (decide P) H') :
  true = true/\ ∀ Hl, Vg.Next 0 H Hl->Hl b = some (boxKB 126 (.int .i64 k :: rest))/\ True->Spec Tryz.prog 229 [.string ⟨#[c]⟩, .pointer (some ⟨b, 0, none⟩)] Hl fun v H'' => ∃ b1 : Bool, v = .bool b1/\ ∀ H', Vg.Next base H H'->(∀ (b2 : Nat) (k : KB), H'' b2 = some k->(∀ x : Bx, x ∈ xs->b2 ≠ Bx.b x)->H' b2 = some k)->G b1 H' :=
 ⟨rfl, fun Hl hN hb => (cHas143 h1 h9 c (p := b) (by unfold Heap.cell; rw [hb.1]; rfl)).mono fun v H2 _ hv => ⟨decide P, by rw [hv]; congr 1; exact decide_eq_decide.2 hP, fun H' hN' _ => hG H' (e0.trans hN'.ext)⟩⟩
section
variable {k : Int} (h1 : 1 <= k) (h9 : k <= 9)
include h1 h9
theorem hasA : 0 <= Lib.indexByte (usesB k).data.toList 97 ↔ (k = 6 ∨ k = 7) := by rcases nine h1 h9 with rfl | rfl | rfl | rfl | rfl | rfl | rfl | rfl | rfl <;> decide
theorem hasT : 0 <= Lib.indexByte (usesB k).data.toList 116 ↔ (k = 1 ∨ k = 2 ∨ k = 3 ∨ k = 6 ∨ k = 7) := by rcases nine h1 h9 with rfl | rfl | rfl | rfl | rfl | rfl | rfl | rfl | rfl <;> decide
theorem hasN : 0 <= Lib.indexByte (usesB k).data.toList 110 ↔ k = 5 := by rcases nine h1 h9 with rfl | rfl | rfl | rfl | rfl | rfl | rfl | rfl | rfl <;> decide
theorem hasG : 0 <= Lib.indexByte (usesB k).data.toList 103 ↔ (k = 3 ∨ k = 7) := by rcases nine h1 h9 with rfl | rfl | rfl | rfl | rfl | rfl | rfl | rfl | rfl <;> decide
theorem hasR : 0 <= Lib.indexByte (usesB k).data.toList 114 ↔ (k = 1 ∨ k = 4) := by rcases nine h1 h9 with rfl | rfl | rfl | rfl | rfl | rfl | rfl | rfl | rfl <;> decide
end
theorem cRecCheck {H : Heap} {a : O} {l c : Nat} {r : Recd} (hp : Pins H a l r.rel.lock) : Spec Tryz.prog 198 [recArg r a l c] H fun v _ => v = i64 (recErr r) := by
 obtain ⟨kd, ag, tr, n, gd, ⟨id, lock⟩⟩ := r
 have hp : Pins H a l lock := hp
 refine TryzvcJ Tryz.func198 (by kernel_rfl) (by kernel_rfl) _ rfl (fun base K => vc124 kd ag tr n id gd a l c base H K) fun base hb => ?_
 have hpl := hp.len
 have hnr : noRel ⟨id, lock⟩ ↔ id = 0/\ l = 0 := by unfold noRel; rw [len_zero hpl]
 intro b
 refine ⟨kd < 1 ∨ 9 < kd, ⟨fun _ => ⟨rfl, fun _ _ h => h, by omega⟩, fun _ => ⟨rfl, fun _ _ h => h, by omega⟩⟩, fun h => by rw [recErr, if_pos h], fun h => ?_⟩
 have h1 : 1 <= kd := by omega
 have h9 : kd <= 9 := by omega
 have hA := hasA h1 h9
 have hT := hasT h1 h9
 have hN := hasN h1 h9
 have hG := hasG h1 h9
 have hR := hasR h1 h9
 refine ⟨recForm ⟨kd, ag, tr, n, gd, ⟨id, lock⟩⟩, ?_, fun h2 => by rw [recErr, if_neg h, if_pos h2], fun h2 => ?_⟩
 ·have hF : recForm ⟨kd, ag, tr, n, gd, ⟨id, lock⟩⟩ ↔ (ag ≠ 0/\ ¬ (kd = 6 ∨ kd = 7)) ∨ (tr ≠ 0/\ ¬ (kd = 1 ∨ kd = 2 ∨ kd = 3 ∨ kd = 6 ∨ kd = 7)) ∨ (n ≠ 0/\ ¬ kd = 5) ∨ (gd = true/\ ¬ (kd = 3 ∨ kd = 7)) ∨ (¬ (id = 0/\ l = 0)/\ ¬ (kd = 1 ∨ kd = 4)) := by unfold recForm; rw [hnr]
  generalize recForm ⟨kd, ag, tr, n, gd, ⟨id, lock⟩⟩ = φ at hF
  clear hnr hpl hp h
  repeat' (first
   | refine cHas h1 h9 (Hb := H) (by first | assumption | exact fun _ _ h => h) hA fun _ _ => ?_
   | refine cHas h1 h9 (Hb := H) (by first | assumption | exact fun _ _ h => h) hT fun _ _ => ?_
   | refine cHas h1 h9 (Hb := H) (by first | assumption | exact fun _ _ h => h) hN fun _ _ => ?_
   | refine cHas h1 h9 (Hb := H) (by first | assumption | exact fun _ _ h => h) hG fun _ _ => ?_
   | refine cHas h1 h9 (Hb := H) (by first | assumption | exact fun _ _ h => h) hR fun _ _ => ?_
   | exact ⟨rfl, by first | assumption | exact fun _ _ h => h, by clear hA hT hN hG hR; grind⟩
   | intro _
   | refine ⟨?_, ?_⟩)
 refine ⟨recRange ⟨kd, ag, tr, n, gd, ⟨id, lock⟩⟩, ?_, fun h3 => by rw [recErr, if_neg h, if_neg h2, if_pos h3], fun h3 => ?_⟩
 ·have hF : recRange ⟨kd, ag, tr, n, gd, ⟨id, lock⟩⟩ ↔ ag < 0 ∨ 6 <= ag ∨ ((kd = 1 ∨ kd = 2 ∨ kd = 3 ∨ kd = 6 ∨ kd = 7)/\ (tr < 1 ∨ 200 < tr)) ∨ (kd = 5/\ (n < 1 ∨ 6 < n)) := Iff.rfl
  generalize recRange ⟨kd, ag, tr, n, gd, ⟨id, lock⟩⟩ = φ at hF
  clear hnr hpl hp h h2
  repeat' (first
   | refine cHas h1 h9 (Hb := H) (by first | assumption | exact fun _ _ h => h) hT fun _ _ => ?_
   | refine cHas h1 h9 (Hb := H) (by first | assumption | exact fun _ _ h => h) hN fun _ _ => ?_
   | exact ⟨rfl, by first | assumption | exact fun _ _ h => h, by clear hA hT hN hG hR; grind⟩
   | intro _
   | refine ⟨?_, ?_⟩)
 refine cHas h1 h9 (Hb := H) (fun _ _ h => h) hR fun H2 e2 => ⟨fun hb => ?_, fun hb => ?_⟩
 ·refine (cNoteRelease (hp.ext' e2) id).int1 fun H3 _ _ => ?_
  rw [recErr, if_neg h, if_neg h2, if_neg h3, if_pos (by simpa using hb)]
 ·rw [recErr, if_neg h, if_neg h2, if_neg h3, if_neg (by simpa using hb)]
open Go Go.Proofs
open Go.Value renaming int → I, slice → S, bool → B, agg → A, tuple → T, pointer → P, string → Str
open Go.IntKind renaming i64 → Z, wrap → W
open Go.Addr renaming mk → D
open Go.Vg.Bx renaming mk → J
open Go.Vg renaming Next → X, Spec → Y, SpecO → YO
open Go.Vg.Heap renaming cell → C
open Int renaming toNat → N
theorem vc94 (fid bud : Int) (fa ra wa : O) (fl fc rl rc wl wc : Nat) (base : Nat) (H : Heap) (K : KT) :
 (fV TryzMutsJ Tryz.f88 base H [.v (A #[I Z fid, S fa fl fc, S ra rl rc, S wa wl wc, I Z bud])] [] K) = (
 (fun w1:LL=>∀ a:Nat,∃ (b:LI) (c:LM),b [I Z 0,I Z 0] H/\ ∀ (d e:Int) (g:Heap),X base H g->b [I Z d,I Z e] g->(e < (wl:Int)->∃ h i,wa = some (D h i none)/\ 0 <= e/\ e < (wl:Int)/\ ∃ j k l,C g h (i + N e * 1) = some (S j k l)/\ ∀ m:Int,m = W Z (d + if 7 < (k:Int) then 7 else (k:Int))->(6 < m->K (I Z m) [] g)/\ (¬6 < m->∀ n:Int,n = W Z (e + 1)->w1 = w1/\ b [I Z m,I Z n] g/\ c [I Z m,I Z n] < c [I Z d,I Z e]))/\ (¬e < (wl:Int)->K (I Z d) [] g)) [[I Z fid,S fa fl fc,S ra rl rc,S wa wl wc,I Z bud]]) := by kernel_rfl
theorem vc95 (fid bud : Int) (fa ra wa : O) (fl fc rl rc wl wc : Nat) (base : Nat) (H : Heap) (K : KT) :
 (fV TryzMutsJ Tryz.f101 base H [.v (A #[I Z fid, S fa fl fc, S ra rl rc, S wa wl wc, I Z bud])] [] K) = (
 ∀ a:Nat,(fun w1:LB=>Y Tryz.prog 167 [A #[I Z fid,S fa fl fc]] H fun b c =>∃ d,b = I Z d/\ (X base H c->(¬d = 0->K (I Z d) [] c)/\ (¬¬d = 0->∃ e:Prop,((¬fid = 1->w1 = w1/\ SubH c c/\ e)/\ (¬¬fid = 1->(bud < 0->w1 = w1/\ SubH c c/\ e)/\ (¬bud < 0->w1 = w1/\ SubH c c/\ (e↔3 < bud))))/\ (e->K (I Z 3) [] c)/\ (¬e->Y Tryz.prog 186 [S fa fl fc,S ra rl rc] c fun g h =>∃ i j,g = T #[I Z i,I Z j]/\ (X base c h->(¬j = 0->K (I Z j) [] h)/\ (¬¬j = 0->(0 <= i->K (I Z 8) [] h)/\ (¬0 <= i->Y Tryz.prog 88 [A #[I Z fid,S fa fl fc,S ra rl rc,S wa wl wc,I Z bud]] h fun k l =>∃ m,k = I Z m/\ (X base h l->Y Tryz.prog 187 [S wa wl wc,I Z m] l fun n o =>∃ p,n = I Z p/\ (X base l o->K (I Z p) [] o))))))))) [J a false 28 [I Z fid,S fa fl fc,S ra rl rc,S wa wl wc,I Z bud]]) := by kernel_rfl
theorem vc84 (fid bud : Int) (fa ra wa : O) (fl fc rl rc wl wc : Nat) (base : Nat) (H : Heap) (K : KT) :
 (fV TryzMutsJ Tryz.f86 base H [.v (A #[I Z fid, S fa fl fc, S ra rl rc, S wa wl wc, I Z bud])] [] K) = (
 (fun w1:LV=>∀ a b:Nat,Y Tryz.prog 101 w1 H fun c d =>∃ e,c = I Z e/\ (X base H d->(¬e = 0->K (T #[A #[S none 0 0,I Z 0,I Z 0,B false,S none 0 0,I Z 0],I Z e]) [] d)/\ (¬¬e = 0->Y Tryz.prog 163 [S fa fl fc] d fun g h =>∃ i j k,g = S i j k/\ (X base d h->∀ l:Nat,(∀ (m:Nat) (n:Heap),X base h n->h m = none->n m = some (boxKB 24 [I Z 1,S i j k])->Y Tryz.prog 88 w1 n fun o p =>∃ q,o = I Z q/\ (X base n p->0 <= q/\ q <= q/\ N q * 24 <= 140737488355328/\ q <= 9223372036854775807/\ ∀ (r:Nat) (s:Heap),X base p s->p r = none->s r = some (boxKB 95 (List.flatten (List.replicate (N q) [I Z 0,I Z 0,B false])))->K (T #[A #[S (some (D m 0 none)) 1 1,I Z 1,I Z 0,B false,S (some (D r 0 none)) (N q) (N q),I Z 1],I Z 0]) [] s))/\ Y Tryz.prog 88 w1 h fun m n =>∃ o,m = I Z o/\ (X base h n->(∀ (p:Nat) (q:Heap),X base n q->n p = none->q p = some (boxKB 24 [I Z 1,S i j k])->0 <= o/\ o <= o/\ N o * 24 <= 140737488355328/\ o <= 9223372036854775807/\ ∀ (r:Nat) (s:Heap),X base q s->q r = none->s r = some (boxKB 95 (List.flatten (List.replicate (N o) [I Z 0,I Z 0,B false])))->K (T #[A #[S (some (D p 0 none)) 1 1,I Z 1,I Z 0,B false,S (some (D r 0 none)) (N o) (N o),I Z 1],I Z 0]) [] s)/\ 0 <= o/\ o <= o/\ N o * 24 <= 140737488355328/\ o <= 9223372036854775807/\ ∀ (p:Nat) (q:Heap),X base n q->n p = none->q p = some (boxKB 95 (List.flatten (List.replicate (N o) [I Z 0,I Z 0,B false])))->∀ (r:Nat) (s:Heap),X base q s->q r = none->s r = some (boxKB 24 [I Z 1,S i j k])->K (T #[A #[S (some (D r 0 none)) 1 1,I Z 1,I Z 0,B false,S (some (D p 0 none)) (N o) (N o),I Z 1],I Z 0]) [] s))))) [A #[I Z fid,S fa fl fc,S ra rl rc,S wa wl wc,I Z bud]]) := by kernel_rfl
abbrev vt77_1 (fid bud : Int) (fa ra wa : O) (fl fc rl rc wl wc : Nat) (la ka : O) (ll lc kl kc : Nat) (now goal nx : Int) (back : Bool) (base : Nat) (H : Heap) (K : KT) (H' : Heap) (H'_1 : Heap) (n_2 : Int) (n : Int) (b : Nat) (b_1 : Nat) : Prop :=
 (fun w4:LV=>(fun w3:LV=>(fun w2:LL=>X base H' H'_1->(¬(kl:Int) = n_2->K (I Z 4) [] H'_1)/\ (¬¬(kl:Int) = n_2->∃ a c,la = some (D a c none)/\ Int.ofNat 0 <= 0/\ 0 < (ll:Int)/\ ∃ (d:Int) (e:O) (g h:Nat),(C H'_1 a (c + 0 * 2) = some (I Z d)/\ C H'_1 a (c + 0 * 2 + 1) = some (S e g h)/\ True)/\ Y Tryz.prog 56 [A #[I Z d,S e g h],A #[I Z fid,S fa fl fc]] H'_1 fun i j =>∃ k,i = B k/\ (X base H'_1 j->(k = false->K (I Z 4) [] j)/\ (¬k = false->∃ (l:LI) (m:LM),l [I Z n,I Z 0] j/\ ∀ (o p:Int) (q:Heap),X base H q->l [I Z o,I Z p] q->(p < (kl:Int)->∃ r s,ka = some (D r s none)/\ 0 <= p/\ p < (kl:Int)/\ ∃ (t u:Int) (v:Bool),(C q r (s + N p * 3) = some (I Z t)/\ C q r (s + N p * 3 + 1) = some (I Z u)/\ C q r (s + N p * 3 + 2) = some (B v)/\ True)/\ ∀ w:Nat,(fun w1:LB=>∃ x:Prop,((t < 0->w1 = w1/\ SubH q q/\ x)/\ (¬t < 0->(3 < t->w1 = w1/\ SubH q q/\ x)/\ (¬3 < t->(u < 0->w1 = w1/\ SubH q q/\ x)/\ (¬u < 0->w1 = w1/\ SubH q q/\ (x↔nx <= u)))))/\ (x->K (I Z 3) [] q)/\ (¬x->∃ y:Prop,((¬t = 0->(goal = 0->w1 = w1/\ SubH q q/\ y)/\ (¬goal = 0->(u = 0->w1 = w1/\ SubH q q/\ y)/\ (¬u = 0->(v = true->(back = false->w1 = w1/\ SubH q q/\ y)/\ (¬back = false->w1 = w1/\ SubH q q/\ (y↔t = 0)))/\ (v = false->w1 = w1/\ SubH q q/\ ¬y))))/\ (¬¬t = 0->(v = true->(back = false->w1 = w1/\ SubH q q/\ y)/\ (¬back = false->w1 = w1/\ SubH q q/\ (y↔t = 0)))/\ (v = false->w1 = w1/\ SubH q q/\ ¬y)))/\ (y->K (I Z 4) [] q)/\ (¬y->∀ z:Int,z = W Z (p + 1)->w2 = w2/\ l [I Z o,I Z z] q/\ m [I Z o,I Z z] < m [I Z o,I Z p]))) [J b false 28 w4,J b_1 false 32 w3,J w false 95 [I Z t,I Z u,B v]])/\ (¬p < (kl:Int)->K (I Z 0) [] q))))) [w4,w3]) [S la ll lc,I Z now,I Z goal,B back,S ka kl kc,I Z nx]) [I Z fid,S fa fl fc,S ra rl rc,S wa wl wc,I Z bud]
theorem vc77 (fid bud : Int) (fa ra wa : O) (fl fc rl rc wl wc : Nat) (la ka : O) (ll lc kl kc : Nat) (now goal nx : Int) (back : Bool) (base : Nat) (H : Heap) (K : KT) :
 (fV TryzMutsJ Tryz.f197 base H [.v (A #[I Z fid, S fa fl fc, S ra rl rc, S wa wl wc, I Z bud]), .v (A #[S la ll lc, I Z now, I Z goal, B back, S ka kl kc, I Z nx])] [] K) = (
 (fun w4:LV=>(fun w3:LL=>(fun w2:LV=>∀ a b:Nat,(fun w1:LB=>Y Tryz.prog 101 w2 H fun c d =>∃ e,c = I Z e/\ (X base H d->(¬e = 0->K (I Z e) [] d)/\ (¬¬e = 0->∃ g:Prop,(((ll:Int) = 0->w1 = w1/\ SubH d d/\ g)/\ (¬(ll:Int) = 0->w1 = w1/\ SubH d d/\ (g↔6 < (ll:Int))))/\ (g->K (I Z 2) [] d)/\ (¬g->∃ (h:LI) (i:LM),h [I Z 0,I Z 0] d/\ ∀ (j k:Int) (l:Heap),X base H l->h [I Z j,I Z k] l->(k < (ll:Int)->∃ m n,la = some (D m n none)/\ 0 <= k/\ k < (ll:Int)/\ ∃ (o:Int) (p:O) (q r:Nat),(C l m (n + N k * 2) = some (I Z o)/\ C l m (n + N k * 2 + 1) = some (S p q r)/\ True)/\ ∀ s:Nat,Y Tryz.prog 186 [S p q r,S ra rl rc] l fun t u =>∃ v w,t = T #[I Z v,I Z w]/\ (X base l u->(¬w = 0->K (I Z w) [] u)/\ (¬¬w = 0->(0 <= v->K (I Z 8) [] u)/\ (¬0 <= v->∀ x:Int,x = W Z (k + 1)->(¬o = x->K (I Z 4) [] u)/\ (¬¬o = x->∀ y:Int,y = W Z (k + 1)->w3 = w3/\ h [I Z j,I Z y] u/\ i [I Z j,I Z y] < i [I Z j,I Z k])))))/\ (¬k < (ll:Int)->∃ m:Prop,((now < 1->w1 = w1/\ SubH l l/\ m)/\ (¬now < 1->((ll:Int) < now->w1 = w1/\ SubH l l/\ m)/\ (¬(ll:Int) < now->(goal < 0->w1 = w1/\ SubH l l/\ m)/\ (¬goal < 0->((ll:Int) < goal->w1 = w1/\ SubH l l/\ m)/\ (¬(ll:Int) < goal->(nx < 1->w1 = w1/\ SubH l l/\ m)/\ (¬nx < 1->w1 = w1/\ SubH l l/\ (m↔201 < nx)))))))/\ (m->K (I Z 3) [] l)/\ (¬m->(goal = now->K (I Z 4) [] l)/\ (¬goal = now->(goal = 0->(back = true->K (I Z 4) [] l)/\ (back = false->Y Tryz.prog 88 w2 l fun n o =>∃ p,n = I Z p/\ (vt77_1 fid bud fa ra wa fl fc rl rc wl wc la ka ll lc kl kc now goal nx back base H K l o p j a b)))/\ (¬goal = 0->Y Tryz.prog 88 w2 l fun n o =>∃ p,n = I Z p/\ (vt77_1 fid bud fa ra wa fl fc rl rc wl wc la ka ll lc kl kc now goal nx back base H K l o p j a b))))))))) [J a false 28 [I Z fid,S fa fl fc,S ra rl rc,S wa wl wc,I Z bud],J b false 32 w4]) [A #[I Z fid,S fa fl fc,S ra rl rc,S wa wl wc,I Z bud]]) [[I Z fid,S fa fl fc,S ra rl rc,S wa wl wc,I Z bud],w4]) [S la ll lc,I Z now,I Z goal,B back,S ka kl kc,I Z nx]) := by kernel_rfl
theorem vc129 (la ka : O) (ll lc kl kc : Nat) (now goal nx : Int) (back : Bool) (base : Nat) (H : Heap) (K : KT) :
 (fV TryzMutsJ Tryz.f170 base H [.v (A #[S la ll lc, I Z now, I Z goal, B back, S ka kl kc, I Z nx])] [] K) = (
 ∀ a b:Nat,Y Tryz.prog 216 [S la ll lc] H fun c d =>∃ e g h,c = S e g h/\ (X base H d->Y Tryz.prog 217 [S ka kl kc] d fun i j =>∃ k l m,(fun w1:LL=>i = S k l m/\ (X base d j->∃ (n:LI) (o:LM),n [I Z 0] j/\ ∀ (p:Int) (q:Heap),X base H q->n [I Z p] q->(p < (g:Int)->∃ r s,e = some (D r s none)/\ 0 <= p/\ p < (g:Int)/\ ∃ (t:Int) (u:O) (v w:Nat),(C q r (s + N p * 2) = some (I Z t)/\ C q r (s + N p * 2 + 1) = some (S u v w)/\ True)/\ ∀ x:Nat,Y Tryz.prog 163 [S u v w] q fun y z =>∃ a1 b1 c1,y = S a1 b1 c1/\ (X base q z->∃ d1 e1,e = some (D d1 e1 none)/\ 0 <= p/\ p < (g:Int)/\ ∃ f1:KB,z d1 = some f1/\ KB.free f1 = true/\ base <= d1/\ e1 + N p * 2 + 1 + 1 <= KB.size f1/\ ∀ g1:Heap,Upd z d1 (e1 + N p * 2 + 1) f1 [S a1 b1 c1] g1->∀ h1:Int,h1 = W Z (p + 1)->w1 = w1/\ n [I Z h1] g1/\ o [I Z h1] < o [I Z p]))/\ (¬p < (g:Int)->K (A #[S e g h,I Z now,I Z goal,B back,S k l m,I Z nx]) [] q))) [[S e g h,I Z now,I Z goal,B back,S k l m,I Z nx],[S none 0 0,I Z 0,I Z 0,B false,S none 0 0,I Z 0]])) := by kernel_rfl
theorem vc149 (la ka : O) (ll lc kl kc : Nat) (now goal nx : Int) (back : Bool) (base : Nat) (H : Heap) (K : KT) :
 (fV TryzMutsJ Tryz.f253 base H [.v (A #[S la ll lc, I Z now, I Z goal, B back, S ka kl kc, I Z nx])] [] K) = (
 (fun w1:LL=>∀ a:Nat,∃ (b:LI) (c:LM),b [S none 0 0,I Z 0] H/\ ∀ (d:O) (e g:Nat) (h:Int) (i:Heap),X base H i->b [S d e g,I Z h] i->(h < (kl:Int)->∃ j k,ka = some (D j k none)/\ 0 <= h/\ h < (kl:Int)/\ ∃ (l m:Int) (n:Bool),(C i j (k + N h * 3) = some (I Z l)/\ C i j (k + N h * 3 + 1) = some (I Z m)/\ C i j (k + N h * 3 + 2) = some (B n)/\ True)/\ ∀ o:Nat,(l = 2->∀ p:Nat,∃ q:List Value,Row base i 4 1 d e g q/\ (e + 1) * 1 <= 140737488355328/\ e + 1 <= 9223372036854775807/\ ∀ (r:O) (s:Nat) (t:Heap),Grew base i t d g r s (e + 1)->Row base t 4 1 r (e + 1) s (q ++ [B true])->∀ u:Int,u = W Z (h + 1)->w1 = w1/\ b [S r (e + 1) s,I Z u] t/\ c [S r (e + 1) s,I Z u] < c [S d e g,I Z h])/\ (¬l = 2->∀ p:Nat,∃ q:List Value,Row base i 4 1 d e g q/\ (e + 1) * 1 <= 140737488355328/\ e + 1 <= 9223372036854775807/\ ∀ (r:O) (s:Nat) (t:Heap),Grew base i t d g r s (e + 1)->Row base t 4 1 r (e + 1) s (q ++ [B (decide (l = 3))])->∀ u:Int,u = W Z (h + 1)->w1 = w1/\ b [S r (e + 1) s,I Z u] t/\ c [S r (e + 1) s,I Z u] < c [S d e g,I Z h]))/\ (¬h < (kl:Int)->K (S d e g) [] i)) [[S la ll lc,I Z now,I Z goal,B back,S ka kl kc,I Z nx]]) := by kernel_rfl
theorem vc150 (la ka : O) (ll lc kl kc : Nat) (now goal nx : Int) (back : Bool) (base : Nat) (H : Heap) (K : KT) :
 (fV TryzMutsJ Tryz.f254 base H [.v (A #[S la ll lc, I Z now, I Z goal, B back, S ka kl kc, I Z nx])] [] K) = (
 (fun w1:LL=>∀ a:Nat,∃ (b:LI) (c:LM),b [I Z 0,I Z 0] H/\ ∀ (d e:Int) (g:Heap),X base H g->b [I Z d,I Z e] g->(e < (kl:Int)->∃ h i,ka = some (D h i none)/\ 0 <= e/\ e < (kl:Int)/\ ∃ (j k:Int) (l:Bool),(C g h (i + N e * 3) = some (I Z j)/\ C g h (i + N e * 3 + 1) = some (I Z k)/\ C g h (i + N e * 3 + 2) = some (B l)/\ True)/\ ∀ m:Nat,(j = 3->∀ n:Int,n = W Z (d + 1)->∀ o:Int,o = W Z (e + 1)->w1 = w1/\ b [I Z n,I Z o] g/\ c [I Z n,I Z o] < c [I Z d,I Z e])/\ (¬j = 3->∀ n:Int,n = W Z (e + 1)->w1 = w1/\ b [I Z d,I Z n] g/\ c [I Z d,I Z n] < c [I Z d,I Z e]))/\ (¬e < (kl:Int)->K (I Z d) [] g)) [[S la ll lc,I Z now,I Z goal,B back,S ka kl kc,I Z nx]]) := by kernel_rfl
theorem vc134 (fid bud : Int) (fa ra wa : O) (fl fc rl rc wl wc : Nat) (la ka : O) (ll lc kl kc : Nat) (now goal nx : Int) (back : Bool) (k : Int) (base : Nat) (H : Heap) (K : KT) :
 (fV TryzMutsJ Tryz.f231 base H [.v (A #[I Z fid, S fa fl fc, S ra rl rc, S wa wl wc, I Z bud]), .v (A #[S la ll lc, I Z now, I Z goal, B back, S ka kl kc, I Z nx]), .v (I Z k)] [] K) = (
 (fun w2:LV=>∀ a b:Nat,∃ c d,ka = some (D c d none)/\ 0 <= k/\ k < (kl:Int)/\ ∃ (e g:Int) (h:Bool),(C H c (d + N k * 3) = some (I Z e)/\ C H c (d + N k * 3 + 1) = some (I Z g)/\ C H c (d + N k * 3 + 2) = some (B h)/\ True)/\ ∀ i:Nat,(fun w1:LB=>(back = true->∃ j:Prop,((¬e = 0->w1 = w1/\ SubH H H/\ (j↔h = false))/\ (¬¬e = 0->w1 = w1/\ SubH H H/\ ¬j))/\ K (B (@decide j (Classical.propDecidable j))) [] H)/\ (back = false->Y Tryz.prog 253 w2 H fun j l =>∃ m n o,j = S m n o/\ (X base H l->Y Tryz.prog 252 [S wa wl wc,S m n o] l fun p q =>∃ r s,p = T #[I Z r,I Z s]/\ (X base l q->(s = 0->(e = 0->Y Tryz.prog 49 [S wa wl wc,I Z k] q fun t u =>∃ v,t = I Z v/\ (X base q u->(v = r->Y Tryz.prog 254 w2 u fun w x =>∃ y,w = I Z y/\ (X base u x->K (B (decide (y <= bud))) [] x))/\ (¬v = r->K (B false) [] u)))/\ (¬e = 0->K (B false) [] q))/\ (¬s = 0->K (B false) [] q))))) [J a false 28 [I Z fid,S fa fl fc,S ra rl rc,S wa wl wc,I Z bud],J b false 32 [S la ll lc,I Z now,I Z goal,B back,S ka kl kc,I Z nx],J i false 95 [I Z e,I Z g,B h]]) [A #[S la ll lc,I Z now,I Z goal,B back,S ka kl kc,I Z nx]]) := by kernel_rfl
theorem vc135 (fid bud : Int) (fa ra wa : O) (fl fc rl rc wl wc : Nat) (la ka : O) (ll lc kl kc : Nat) (now goal nx : Int) (back : Bool) (base : Nat) (H : Heap) (K : KT) :
 (fV TryzMutsJ Tryz.f232 base H [.v (A #[I Z fid, S fa fl fc, S ra rl rc, S wa wl wc, I Z bud]), .v (A #[S la ll lc, I Z now, I Z goal, B back, S ka kl kc, I Z nx])] [] K) = (
 (fun w1:LV=>∀ a b:Nat,(back = false->Y Tryz.prog 254 w1 H fun c d =>∃ e,c = I Z e/\ (X base H d->(e <= bud->Y Tryz.prog 253 w1 d fun g h =>∃ i j k,g = S i j k/\ (X base d h->Y Tryz.prog 255 [S i j k,B false] h fun l m =>∃ n,l = B n/\ (X base h m->K (B (decide (n = false))) [] m)))/\ (¬e <= bud->K (B false) [] d)))/\ (¬back = false->Y Tryz.prog 256 [S ka kl kc,Value.func (Fn.func 257) #[] #[]] H fun c d =>∃ e,c = B e/\ (X base H d->K (B (decide (e = false))) [] d))) [A #[S la ll lc,I Z now,I Z goal,B back,S ka kl kc,I Z nx]]) := by kernel_rfl
theorem vc82a (a : O) (l c : Nat) (base : Nat) (H : Heap) (K : KT) :
 (fV TryzMutsJ Tryz.f256 base H [.v (S a l c), .v (.func (.func 257) #[] #[])] [] K) = (
 Y Tryz.prog 275 [S a l c,Value.func (Fn.func 257) #[] #[]] H fun b d =>∃ e,b = I Z e/\ (X base H d->K (B (decide (0 <= e))) [] d)) := by kernel_rfl
theorem vc136a (a : O) (l c : Nat) (base : Nat) (H : Heap) (K : KT) :
 (fV TryzMutsJ Tryz.f275 base H [.v (S a l c), .v (.func (.func 257) #[] #[])] [] K) = (
 ∃ (b:LI) (d:LM),b [I Z 0,I Z 0] H/\ ∀ (e g:Int) (h:Heap),X base H h->b [I Z e,I Z g] h->(g < (l:Int)->∃ i j,a = some (D i j none)/\ 0 <= g/\ g < (l:Int)/\ ∃ (k m:Int) (n:Bool),(C h i (j + N g * 3) = some (I Z k)/\ C h i (j + N g * 3 + 1) = some (I Z m)/\ C h i (j + N g * 3 + 2) = some (B n)/\ True)/\ Y Tryz.prog 257 [A #[I Z k,I Z m,B n]] h fun o p =>∃ q,o = B q/\ (X base h p->(q = true->K (I Z g) [] p)/\ (q = false->∀ r:Int,r = W Z (g + 1)->b [I Z e,I Z r] p/\ d [I Z e,I Z r] < d [I Z e,I Z g])))/\ (¬g < (l:Int)->K (I Z (-1)) [] h)) := by kernel_rfl
theorem vc152 (st tr : Int) (bk : Bool) (base : Nat) (H : Heap) (K : KT) :
 (fV TryzMutsJ Tryz.f257 base H [.v (A #[I Z st, I Z tr, B bk])] [] K) = (
 ∀ a:Nat,(fun w1:LB=>∃ b:Prop,((st = 1->w1 = w1/\ SubH H H/\ b)/\ (¬st = 1->(¬st = 0->w1 = w1/\ SubH H H/\ (b↔bk = false))/\ (¬¬st = 0->w1 = w1/\ SubH H H/\ ¬b)))/\ K (B (@decide b (Classical.propDecidable b))) [] H) [J a false 95 [I Z st,I Z tr,B bk]]) := by kernel_rfl
theorem vc96 (la ka : O) (ll lc kl kc : Nat) (now goal nx : Int) (back : Bool) (la' ka' : O) (ll' lc' kl' kc' : Nat) (now' goal' nx' : Int) (back' : Bool) (base : Nat) (H : Heap) (K : KT) :
 (fV TryzMutsJ Tryz.f36 base H [.v (A #[S la ll lc, I Z now, I Z goal, B back, S ka kl kc, I Z nx]), .v (A #[S la' ll' lc', I Z now', I Z goal', B back', S ka' kl' kc', I Z nx'])] [] K) = (
 ∀ a b:Nat,(fun w1:LB=>∃ c:Prop,(Y Tryz.prog 76 [S la ll lc,S la' ll' lc',Value.func (Fn.func 56) #[] #[]] H fun d e =>∃ g,d = B g/\ (X base H e->(g = true->(now = now'->(goal = goal'->∃ h,RunsTo Tryz.prog (binRun BinOp.eql 4 (Operand.tmp 26) (Operand.tmp 28) (B back) (B back')) (B h)/\ (h = true->Y Tryz.prog 78 [S ka kl kc,S ka' kl' kc'] e fun i j =>∃ k,i = B k/\ (X base e j->(k = true->w1 = w1/\ SubH H j/\ (c↔nx = nx'))/\ (k = false->w1 = w1/\ SubH H j/\ ¬c)))/\ (¬h = true->w1 = w1/\ SubH H e/\ ¬c))/\ (¬goal = goal'->w1 = w1/\ SubH H e/\ ¬c))/\ (¬now = now'->w1 = w1/\ SubH H e/\ ¬c))/\ (g = false->w1 = w1/\ SubH H e/\ ¬c)))/\ K (B (@decide c (Classical.propDecidable c))) [] H) [J a false 32 [S la ll lc,I Z now,I Z goal,B back,S ka kl kc,I Z nx],J b false 32 [S la' ll' lc',I Z now',I Z goal',B back',S ka' kl' kc',I Z nx']]) := by kernel_rfl
theorem vc85a (a a' : O) (l c l' c' : Nat) (base : Nat) (H : Heap) (K : KT) :
 (fV TryzMutsJ Tryz.f76 base H [.v (S a l c), .v (S a' l' c'), .v (.func (.func 56) #[] #[])] [] K) = (
 (¬(l:Int) = (l':Int)->K (B false) [] H)/\ (¬¬(l:Int) = (l':Int)->∃ (b:LI) (d:LM),b [B false,I Z 0] H/\ ∀ (e:Bool) (g:Int) (h:Heap),X base H h->b [B e,I Z g] h->(g < (l:Int)->∃ i j,a = some (D i j none)/\ 0 <= g/\ g < (l:Int)/\ ∃ (k:Int) (m:O) (n o:Nat),(C h i (j + N g * 2) = some (I Z k)/\ C h i (j + N g * 2 + 1) = some (S m n o)/\ True)/\ ∀ p:Nat,∃ q r,a' = some (D q r none)/\ 0 <= g/\ g < (l':Int)/\ ∃ (s:Int) (t:O) (u v:Nat),(C h q (r + N g * 2) = some (I Z s)/\ C h q (r + N g * 2 + 1) = some (S t u v)/\ True)/\ ∀ w:Nat,Y Tryz.prog 56 [A #[I Z k,S m n o],A #[I Z s,S t u v]] h fun x y =>∃ z,x = B z/\ (X base h y->(z = false->K (B false) [] y)/\ (¬z = false->∀ a1:Int,a1 = W Z (g + 1)->b [B e,I Z a1] y/\ d [B e,I Z a1] < d [B e,I Z g])))/\ (¬g < (l:Int)->K (B true) [] h))) := by kernel_rfl
theorem vc138 (a a' : O) (l c l' c' : Nat) (base : Nat) (H : Heap) (K : KT) :
 (fV TryzMutsJ Tryz.f78 base H [.v (S a l c), .v (S a' l' c')] [] K) = (
 (¬(l:Int) = (l':Int)->K (B false) [] H)/\ (¬¬(l:Int) = (l':Int)->∃ (b:LI) (d:LM),b [B false,I Z 0] H/\ ∀ (e:Bool) (g:Int) (h:Heap),X base H h->b [B e,I Z g] h->(g < (l:Int)->∃ i j,a = some (D i j none)/\ 0 <= g/\ g < (l:Int)/\ ∃ (k m:Int) (n:Bool),(C h i (j + N g * 3) = some (I Z k)/\ C h i (j + N g * 3 + 1) = some (I Z m)/\ C h i (j + N g * 3 + 2) = some (B n)/\ True)/\ ∃ o p,a' = some (D o p none)/\ 0 <= g/\ g < (l':Int)/\ ∃ (q r:Int) (s:Bool),(C h o (p + N g * 3) = some (I Z q)/\ C h o (p + N g * 3 + 1) = some (I Z r)/\ C h o (p + N g * 3 + 2) = some (B s)/\ True)/\ ∃ t,RunsTo Tryz.prog (binRun BinOp.neq 95 (Operand.tmp 19) (Operand.tmp 23) (A #[I Z k,I Z m,B n]) (A #[I Z q,I Z r,B s])) (B t)/\ (t = true->K (B false) [] h)/\ (¬t = true->∀ u:Int,u = W Z (g + 1)->b [B e,I Z u] h/\ d [B e,I Z u] < d [B e,I Z g]))/\ (¬g < (l:Int)->K (B true) [] h))) := by kernel_rfl
theorem vc147 (a : O) (l c : Nat) (base : Nat) (H : Heap) (K : KT) :
 (fV TryzMutsJ Tryz.f216 base H [.v (S a l c)] [] K) = (
 ∃ b,RunsTo Tryz.prog (binRun BinOp.eql 29 (Operand.tmp 3) (Operand.const (S none 0 0)) (S a l c) (S none 0 0)) (B b)/\ (b = true->K (S none 0 0) [] H)/\ (¬b = true->∀ (d:Nat) (e:Heap),X base H e->H d = none->e d = some (boxKB 24 [])->∃ g h:List Value,Row base e 24 2 (some (D d 0 none)) 0 0 g/\ List.length h = l * 2/\ allOne h = true/\ (l = 0∨∃ i j,a = some (D i j none)/\ cellsAt e i j 0 h)/\ (0 + l) * 32 <= 140737488355328/\ 0 + l <= 9223372036854775807/\ ∀ (i:O) (j:Nat) (k:Heap),Grew base e k (some (D d 0 none)) 0 i j (0 + l)->Row base k 24 2 i (0 + l) j (g ++ h)->K (S i (0 + l) j) [] k)) := by kernel_rfl
theorem vc148 (a : O) (l c : Nat) (base : Nat) (H : Heap) (K : KT) :
 (fV TryzMutsJ Tryz.f217 base H [.v (S a l c)] [] K) = (
 ∃ b,RunsTo Tryz.prog (binRun BinOp.eql 30 (Operand.tmp 3) (Operand.const (S none 0 0)) (S a l c) (S none 0 0)) (B b)/\ (b = true->K (S none 0 0) [] H)/\ (¬b = true->∀ (d:Nat) (e:Heap),X base H e->H d = none->e d = some (boxKB 95 [])->∃ g h:List Value,Row base e 95 3 (some (D d 0 none)) 0 0 g/\ List.length h = l * 3/\ allOne h = true/\ (l = 0∨∃ i j,a = some (D i j none)/\ cellsAt e i j 0 h)/\ (0 + l) * 24 <= 140737488355328/\ 0 + l <= 9223372036854775807/\ ∀ (i:O) (j:Nat) (k:Heap),Grew base e k (some (D d 0 none)) 0 i j (0 + l)->Row base k 95 3 i (0 + l) j (g ++ h)->K (S i (0 + l) j) [] k)) := by kernel_rfl
theorem vc151 (a : O) (l c : Nat) (v : Bool) (base : Nat) (H : Heap) (K : KT) :
 (fV TryzMutsJ Tryz.f255 base H [.v (S a l c), .v (B v)] [] K) = (
 Y Tryz.prog 274 [S a l c,B v] H fun b d =>∃ e,b = I Z e/\ (X base H d->K (B (decide (0 <= e))) [] d)) := by kernel_rfl
theorem vc155 (a : O) (l c : Nat) (v : Bool) (base : Nat) (H : Heap) (K : KT) :
 (fV TryzMutsJ Tryz.f274 base H [.v (S a l c), .v (B v)] [] K) = (
 ∃ (b:LI) (d:LM),b [I Z 0,I Z 0] H/\ ∀ (e g:Int) (h:Heap),X base H h->b [I Z e,I Z g] h->(g < (l:Int)->∃ i j,a = some (D i j none)/\ 0 <= g/\ g < (l:Int)/\ ∃ k,C h i (j + N g * 1) = some (B k)/\ ∃ m,RunsTo Tryz.prog (binRun BinOp.eql 4 (Operand.tmp 11) (Operand.tmp 15) (B v) (B k)) (B m)/\ (m = true->K (I Z g) [] h)/\ (¬m = true->∀ n:Int,n = W Z (g + 1)->b [I Z e,I Z n] h/\ d [I Z e,I Z n] < d [I Z e,I Z g]))/\ (¬g < (l:Int)->K (I Z (-1)) [] h)) := by kernel_rfl
theorem vc80 (fid bud : Int) (fa ra wa : O) (fl fc rl rc wl wc : Nat) (la ka : O) (ll lc kl kc : Nat) (now goal nx : Int) (back : Bool) (k : Int) (base : Nat) (H : Heap) (K : KT) :
 (fV TryzMutsJ Tryz.f220 base H [.v (A #[I Z fid, S fa fl fc, S ra rl rc, S wa wl wc, I Z bud]), .v (A #[S la ll lc, I Z now, I Z goal, B back, S ka kl kc, I Z nx]), .v (I Z k)] [] K) = (
 (fun w2:LV=>∀ a b c:Nat,(fun w1:LB=>Y Tryz.prog 197 [A #[I Z fid,S fa fl fc,S ra rl rc,S wa wl wc,I Z bud],A #[S la ll lc,I Z now,I Z goal,B back,S ka kl kc,I Z nx]] H fun d e =>∃ g,d = I Z g/\ (X base H e->(¬g = 0->K (T #[B false,A #[I Z 0,S none 0 0],I Z g]) [] e)/\ (¬¬g = 0->∃ h:Prop,((k < 0->w1 = w1/\ SubH e e/\ h)/\ (¬k < 0->w1 = w1/\ SubH e e/\ (h↔(kl:Int) <= k)))/\ (h->K (T #[B false,A #[I Z 0,S none 0 0],I Z 5]) [] e)/\ (¬h->(goal = 0->K (T #[B false,A #[I Z 0,S none 0 0],I Z 7]) [] e)/\ (¬goal = 0->(back = true->∀ i:Int,i = W Z (now - 1)->∃ j l,la = some (D j l none)/\ 0 <= i/\ i < (ll:Int)/\ ∃ (m:Int) (n:O) (o p:Nat),(C e j (l + N i * 2) = some (I Z m)/\ C e j (l + N i * 2 + 1) = some (S n o p)/\ True)/\ ∀ q:Nat,Y Tryz.prog 231 w2 e fun r s =>∃ t,r = B t/\ (X base e s->Y Tryz.prog 163 [S n o p] s fun u v =>∃ w x y,u = S w x y/\ (X base s v->K (T #[B t,A #[I Z m,S w x y],I Z 0]) [] v)))/\ (back = false->∀ i:Int,i = W Z (goal - 1)->∃ j l,la = some (D j l none)/\ 0 <= i/\ i < (ll:Int)/\ ∃ (m:Int) (n:O) (o p:Nat),(C e j (l + N i * 2) = some (I Z m)/\ C e j (l + N i * 2 + 1) = some (S n o p)/\ True)/\ ∀ q:Nat,Y Tryz.prog 231 w2 e fun r s =>∃ t,r = B t/\ (X base e s->Y Tryz.prog 163 [S n o p] s fun u v =>∃ w x y,u = S w x y/\ (X base s v->K (T #[B t,A #[I Z m,S w x y],I Z 0]) [] v)))))))) [J a false 28 [I Z fid,S fa fl fc,S ra rl rc,S wa wl wc,I Z bud],J b false 32 [S la ll lc,I Z now,I Z goal,B back,S ka kl kc,I Z nx],J c false 24 [I Z 0,S none 0 0]]) [A #[I Z fid,S fa fl fc,S ra rl rc,S wa wl wc,I Z bud],A #[S la ll lc,I Z now,I Z goal,B back,S ka kl kc,I Z nx],I Z k]) := by kernel_rfl
open Go Go.Proofs
section
variable {H : Heap} {c : Conf} {fa ra wa : O} {fl fc rl rc wl wc : Nat}
theorem cAgents (hc : CfgAt H c fa fl ra rl wa wl) : Spec Tryz.prog 88 [cfgArg c fa fl fc ra rl rc wa wl wc] H fun v _ => v = i64 (agentsOf c.waves) := by
 refine TryzvcJ Tryz.func88 (by kernel_rfl) (by kernel_rfl) _ rfl (fun base K => vc94 c.first.id c.bud fa ra wa fl fc rl rc wl wc base H K) fun base hb => ?_
 intro b
 have hl := hc.waves.len
 have hle := hc.waves.le
 refine ⟨fun vs _ => ∃ (m : Int) (i : Nat), vs = [i64 m, i64 i]/\ i <= wl/\ 0 <= m/\ m <= 6/\ agentsFrom m (c.waves.drop i) = agentsOf c.waves, upTo wl 1, ⟨0, 0, rfl, by omega, by omega, by omega, rfl⟩, fun n n1 H' hN hI => ?_⟩
 obtain ⟨m, i, hvs, hi, m0, m6, hI⟩ := hI
 obtain ⟨rfl, rfl⟩ : n = m/\ n1 = (i : Int) := by simpa using hvs
 refine ⟨fun hlt => hc.waves.slice hN.ext (by omega) hlt fun w a' n' c' hw hs => ?_, fun hge => ?_⟩
 ·rw [Int.toNat_natCast] at hw
  rw [drop_at hw, agentsFrom] at hI
  have hwl := hs.len
  have hmin : (if 7 < (n' : Int) then 7 else (n' : Int)) = min 7 (w.length : Int) := by rw [hwl]; split <;> omega
  rw [hmin]
  rintro _ rfl
  rw [wrap_in (by omega) (by omega)]
  refine ⟨fun h => ?_, fun h => ?_⟩
  ·rw [if_pos h] at hI; rw [hI]
  ·rw [if_neg h] at hI
   rintro _ rfl
   rw [wrap_in (by omega) (by omega)]
   exact ⟨rfl, ⟨_, i + 1, rfl, by omega, by omega, by omega, hI⟩, by simp [upTo]; omega⟩
 ·rw [drop_all hl (by omega), agentsFrom] at hI; rw [hI]
theorem cConfig (hc : CfgAt H c fa fl ra rl wa wl) : Spec Tryz.prog 101 [cfgArg c fa fl fc ra rl rc wa wl wc] H fun v _ => v = i64 (cfgErr c) := by
 refine TryzvcJ Tryz.func101 (by kernel_rfl) (by kernel_rfl) _ rfl (fun base K => vc95 c.first.id c.bud fa ra wa fl fc rl rc wl wc base H K) fun base hb => ?_
 intro b
 refine (cNoteRelease hc.pins c.first.id).int1 fun H1 e1 _ => ⟨fun h => by rw [cfgErr, if_pos h], fun h => ?_⟩
 refine ⟨c.first.id ≠ 1 ∨ c.bud < 0 ∨ 3 < c.bud, ⟨fun h => ⟨rfl, fun _ _ h => h, .inl h⟩, fun h => ⟨fun h => ⟨rfl, fun _ _ h => h, .inr (.inl h)⟩, fun h => ⟨rfl, fun _ _ h => h, by omega⟩⟩⟩, fun hφ => by rw [cfgErr, if_neg h, if_pos hφ], fun hφ => ?_⟩
 refine (cBroken (hc.ext e1).pins (hc.ext e1).rules).int2 fun H2 e2 _ => ⟨fun h2 => by rw [cfgErr, if_neg h, if_neg hφ, if_pos h2], fun h2 => ⟨fun h3 => by rw [cfgErr, if_neg h, if_neg hφ, if_neg h2, if_pos h3], fun h3 => ?_⟩⟩
 refine (cAgents ((hc.ext e1).ext e2)).int1 fun H3 e3 _ => (cWaveCheck (((hc.ext e1).ext e2).ext e3).waves (agentsOf c.waves)).int1 fun H4 e4 _ => ?_
 rw [cfgErr, if_neg h, if_neg hφ, if_neg h2, if_neg h3]
end
section
variable {H : Heap} {l : Ldr} {la ka : O} {ll lc kl kc : Nat}
theorem thr_at {xs : List Kn} {i : Nat} {a : Kn} (h : xs[i]? = some a) : thr (xs.take (i + 1)) = thr (xs.take i) ++ [decide (a.st = 2 ∨ a.st = 3)] := by
 rw [take_at h]; simp [thr]
theorem boolRow {base : Nat} {H : Heap} {e : TypeId} {a : O} {n c : Nat} {xs : List Bool} (h : Row base H e 1 a n c (xs.map Value.bool)) : Sl RBool 1 H a n xs := by
 have hf : ∀ xs : List Bool, xs.flatMap (fun x : Bool => [Value.bool x]) = xs.map Value.bool := fun xs => by induction xs with | nil => rfl | cons x r ih => simp [ih]
 exact sl_of_rowE (sz := 1) (enc := fun x : Bool => [Value.bool x]) (fun _ => rfl) (by omega) (by rw [hf]; exact h)
theorem cThrough (h : LdrAt H l la ll ka kl) (h6 : l.ags.length <= 6) : Spec Tryz.prog 253 [ldrArg l la ll lc ka kl kc] H fun v H' => ∃ a n c, v = .slice a n c/\ Sl RBool 1 H' a n (thr l.ags) := by
 refine TryzvcJ Tryz.func253 (by kernel_rfl) (by kernel_rfl) _ rfl (fun base K => vc149 la ka ll lc kl kc l.now l.goal l.nx l.back base H K) fun base hb => ?_
 intro b
 have hl := h.ags.len
 refine ⟨fun vs Hc => ∃ (a : O) (c i : Nat), vs = [.slice a i c, i64 i]/\ i <= kl/\ Row base Hc 4 1 a i c ((thr (l.ags.take i)).map Value.bool), upTo kl 1, ⟨none, 0, 0, rfl, by omega, Row.nil⟩, fun a n c n1 H' hN hI => ?_⟩
 obtain ⟨a', c', i, hvs, hi, hR⟩ := hI
 obtain ⟨⟨rfl, rfl, rfl⟩, rfl⟩ : (a = a'/\ n = i/\ c = c')/\ n1 = (i : Int) := by simpa using hvs
 refine ⟨fun hlt => h.ags.kn hN.ext (by omega) hlt fun m hm => fun b2 => ?_, fun hge => ?_⟩
 ·rw [Int.toNat_natCast] at hm
  refine ⟨fun h2 b3 => ⟨_, hR, by omega, by omega, fun a2 c2 H2 hG hR2 => ?_⟩, fun h2 b3 => ⟨_, hR, by omega, by omega, fun a2 c2 H2 hG hR2 => ?_⟩⟩
  ·rintro _ rfl
   rw [wrap_in (by omega) (by omega)]
   refine ⟨rfl, ⟨a2, c2, n + 1, rfl, by omega, ?_⟩, by simp [upTo]; omega⟩
   rw [thr_at hm, List.map_append]; simpa [h2] using hR2
  ·rintro _ rfl
   rw [wrap_in (by omega) (by omega)]
   refine ⟨rfl, ⟨a2, c2, n + 1, rfl, by omega, ?_⟩, by simp [upTo]; omega⟩
   rw [thr_at hm, List.map_append]; simpa [h2] using hR2
 ·rw [List.take_of_length_le (by omega)] at hR
  exact ⟨a, n, c, rfl, boolRow hR⟩
theorem cnt_at {xs : List Kn} {i : Nat} {a : Kn} {k : Int} (h : xs[i]? = some a) : cnt k (xs.take (i + 1)) = cnt k (xs.take i) + if a.st = k then 1 else 0 := by
 rw [take_at h]; unfold cnt; rw [List.filter_append]; by_cases h2 : a.st = k <;> simp [h2]
theorem cnt_range (k : Int) (xs : List Kn) : 0 <= cnt k xs/\ cnt k xs <= xs.length := by
 unfold cnt; have := List.length_filter_le (fun a : Kn => decide (a.st = k)) xs; omega
theorem cIll (h : LdrAt H l la ll ka kl) : Spec Tryz.prog 254 [ldrArg l la ll lc ka kl kc] H fun v _ => v = i64 (cnt 3 l.ags) := by
 refine TryzvcJ Tryz.func254 (by kernel_rfl) (by kernel_rfl) _ rfl (fun base K => vc150 la ka ll lc kl kc l.now l.goal l.nx l.back base H K) fun base hb => ?_
 intro b
 have hl := h.ags.len
 have hle := h.ags.le
 refine ⟨fun vs Hc => ∃ (i : Nat), vs = [i64 (cnt 3 (l.ags.take i)), i64 i]/\ i <= kl, upTo kl 1, ⟨0, rfl, by omega⟩, fun n n1 H' hN hI => ?_⟩
 obtain ⟨i, hvs, hi⟩ := hI
 obtain ⟨rfl, rfl⟩ : n = cnt 3 (l.ags.take i)/\ n1 = (i : Int) := by simpa using hvs
 refine ⟨fun hlt => h.ags.kn hN.ext (by omega) hlt fun m hm => fun b2 => ?_, fun hge => ?_⟩
 ·rw [Int.toNat_natCast] at hm
  have hr := cnt_range 3 (l.ags.take i)
  have hti : (l.ags.take i).length <= i := by simp; omega
  refine ⟨fun h2 => ?_, fun h2 => ?_⟩
  ·rintro _ rfl _ rfl
   rw [wrap_in (by omega) (by omega), wrap_in (by omega) (by omega)]
   exact ⟨rfl, ⟨i + 1, by rw [cnt_at hm, if_pos h2]; simp, by omega⟩, by simp [upTo]; omega⟩
  ·rintro _ rfl
   rw [wrap_in (by omega) (by omega)]
   exact ⟨rfl, ⟨i + 1, by rw [cnt_at hm, if_neg h2]; simp, by omega⟩, by simp [upTo]; omega⟩
 ·rw [List.take_of_length_le (by omega)]
end
open Go Go.Proofs
theorem rls_eq {m m' : Rls} : m = m' ↔ m.id = m'.id/\ m.lock = m'.lock := by cases m; cases m'; simp
theorem cEqRelsA {H : Heap} {a a' : O} {l c l' c' : Nat} {xs ys : List Rls} (hx : Rels H a l xs) (hy : Rels H a' l' ys) : Spec Tryz.prog 76 [.slice a l c, .slice a' l' c', .func (.func 56) #[] #[]] H fun v _ => v = .bool (decide (xs = ys)) := by
 refine TryzvcJ Tryz.func76 (by kernel_rfl) (by kernel_rfl) _ rfl (fun base K => vc85a a a' l c l' c' base H K) fun base hb => ?_
 have hxl := hx.len
 have hyl := hy.len
 have hle := hx.le
 refine ⟨fun hne => ?_, fun he => ?_⟩
 ·rw [decide_eq_false]; rintro rfl; omega
 refine ⟨fun vs _ => ∃ (b : Bool) (k : Nat), vs = [.bool b, i64 k]/\ k <= l/\ (xs.drop k = ys.drop k ↔ xs = ys), upTo l 1, ⟨false, 0, rfl, by omega, by simp⟩, fun b n H' hN hI => ?_⟩
 obtain ⟨b', k, hvs, hk, hI⟩ := hI
 obtain ⟨rfl, rfl⟩ : b = b'/\ n = (k : Int) := by simpa using hvs
 refine ⟨fun hlt => hx.rl hN.ext (by omega) hlt fun m a1 n1 c1 hm hp => fun b4 => hy.rl hN.ext (by omega) (by omega) fun m' a2 n2 c2 hm' hq => fun b8 => (cAlike (hp.ext' hN.ext) (hq.ext' hN.ext) _ _).bool1 fun H2 e2 _ => ⟨fun h => ?_, fun h => ?_⟩, fun hge => ?_⟩
 ·rw [Int.toNat_natCast] at hm hm'
  rw [drop_at hm, drop_at hm'] at hI
  rw [decide_eq_false]
  intro e
  exact absurd (List.cons.inj (hI.2 e)).1 (by rw [rls_eq]; simpa using h)
 ·rw [Int.toNat_natCast] at hm hm'
  rw [drop_at hm, drop_at hm'] at hI
  have hpq : m = m' := by rw [rls_eq]; simpa using h
  rintro r rfl
  rw [wrap_in (by omega) (by omega)]
  exact ⟨⟨b, k + 1, rfl, by omega, by rw [← hI]; simp [hpq]⟩, by simp [upTo]; omega⟩
 ·rw [decide_eq_true]
  exact hI.1 (by rw [drop_all hxl (by omega), drop_all hyl (by omega)])
theorem neq111 {xo yo : Operand} (p q : Kn) : RunsTo Tryz.prog (binRun .neq 95 xo yo (.agg #[.int .i64 p.st, .int .i64 p.try_, .bool p.back]) (.agg #[.int .i64 q.st, .int .i64 q.try_, .bool q.back])) (.bool (!(p.st == q.st && p.try_ == q.try_ && p.back == q.back))) := by
 intro w
 have u3 := Tryz.underlying3
 have a3 := Tryz.isAgg3
 have z3 := Tryz.sizeOf3
 have u4 := Tryz.underlying4
 have a4 := Tryz.isAgg4
 have z4 := Tryz.sizeOf4
 have hS : Tryz.prog.underlying 95 = some (.struct (Tryz.prog.fieldsOf 95)) := by kernel_rfl
 have hp : Tryz.prog.stoodInHeld 95 = false := by kernel_rfl
 have hm : Tryz.prog.eqGuardType Tryz.prog.depth 95 = false := by kernel_rfl
 have he : (Op.equalIn 10000 95 (.agg #[.int .i64 p.st, .int .i64 p.try_, .bool p.back]) (.agg #[.int .i64 q.st, .int .i64 q.try_, .bool q.back])).run Tryz.prog w = .ok (p.st == q.st && p.try_ == q.try_ && p.back == q.back) w := by
  rw [show (10000 : Nat) = 9999 + 1 from rfl, run_equalIn_agg w 9999 95 _ _ hS hp]
  simp only [Program.fieldsOf, Tryz.underlying95]
  go_simp
  by_cases h1 : p.st = q.st <;> by_cases h2 : p.try_ = q.try_ <;> by_cases h3 : p.back = q.back <;> simp [h1, h2, h3]
 simp only [binRun, Sem.run_bind, run_eqGuard_agg w _ 95 _ _ _ _ hm, Result.andThen_ok, run_neq_struct, he]
theorem cEqKns {H : Heap} {a a' : O} {l c l' c' : Nat} {xs ys : List Kn} (hx : Kns H a l xs) (hy : Kns H a' l' ys) : Spec Tryz.prog 78 [.slice a l c, .slice a' l' c'] H fun v _ => v = .bool (decide (xs = ys)) := by
 refine TryzvcJ Tryz.func78 (by kernel_rfl) (by kernel_rfl) _ rfl (fun base K => vc138 a a' l c l' c' base H K) fun base hb => ?_
 have hxl := hx.len
 have hyl := hy.len
 have hle := hx.le
 refine ⟨fun hne => ?_, fun he => ?_⟩
 ·rw [decide_eq_false]; rintro rfl; omega
 refine ⟨fun vs _ => ∃ (b : Bool) (k : Nat), vs = [.bool b, i64 k]/\ k <= l/\ (xs.drop k = ys.drop k ↔ xs = ys), upTo l 1, ⟨false, 0, rfl, by omega, by simp⟩, fun b n H' hN hI => ?_⟩
 obtain ⟨b', k, hvs, hk, hI⟩ := hI
 obtain ⟨rfl, rfl⟩ : b = b'/\ n = (k : Int) := by simpa using hvs
 refine ⟨fun hlt => hx.kn hN.ext (by omega) hlt fun p hp => hy.kn hN.ext (by omega) (by omega) fun q hq => ⟨_, neq111 p q, fun h => ?_, fun h => ?_⟩, fun hge => ?_⟩
 ·rw [Int.toNat_natCast] at hp hq
  rw [drop_at hp, drop_at hq] at hI
  rw [decide_eq_false]
  intro e
  obtain ⟨rfl, _⟩ := List.cons.inj (hI.2 e)
  simp at h
 ·rw [Int.toNat_natCast] at hp hq
  rw [drop_at hp, drop_at hq] at hI
  have hpq : p = q := by
   cases p; cases q; simp at h; simp [h]
  rintro r rfl
  rw [wrap_in (by omega) (by omega)]
  exact ⟨⟨b, k + 1, rfl, by omega, by rw [← hI]; simp [hpq]⟩, by simp [upTo]; omega⟩
 ·rw [decide_eq_true]
  exact hI.1 (by rw [drop_all hxl (by omega), drop_all hyl (by omega)])
theorem ldr_eq {x y : Ldr} : x = y ↔ x.rels = y.rels/\ x.now = y.now/\ x.goal = y.goal/\ x.back = y.back/\ x.ags = y.ags/\ x.nx = y.nx := by cases x; cases y; simp
section
variable {H : Heap} {x y : Ldr} {la ka la' ka' : O} {ll lc kl kc ll' lc' kl' kc' : Nat}
theorem cLdrSame (h : LdrAt H x la ll ka kl) (h' : LdrAt H y la' ll' ka' kl') : Spec Tryz.prog 36 [ldrArg x la ll lc ka kl kc, ldrArg y la' ll' lc' ka' kl' kc'] H fun v _ => v = .bool (decide (x = y)) := by
 refine TryzvcJ Tryz.func36 (by kernel_rfl) (by kernel_rfl) _ rfl (fun base K => vc96 la ka ll lc kl kc x.now x.goal x.nx x.back la' ka' ll' lc' kl' kc' y.now y.goal y.nx y.back base H K) fun base hb => ?_
 intro b b1
 refine ⟨x = y, (cEqRelsA h.rels h'.rels).bool1 fun H1 e1 _ => ⟨fun q1 => ⟨fun q2 => ⟨fun q3 => ⟨_, eqBool, fun q4 => (cEqKns (h.ext e1).ags (h'.ext e1).ags).bool1 fun H2 e2 _ => ⟨fun q5 => ⟨rfl, e1.trans e2, ?_⟩, fun q5 => ⟨rfl, e1.trans e2, fun e => by simp [e] at q5⟩⟩, fun q4 => ⟨rfl, e1, fun e => q4 (by simp [e])⟩⟩, fun q3 => ⟨rfl, e1, fun e => q3 (by rw [e])⟩⟩, fun q2 => ⟨rfl, e1, fun e => q2 (by rw [e])⟩⟩, fun q1 => ⟨rfl, e1, fun e => by simp [e] at q1⟩⟩, ?_⟩
 ·rw [ldr_eq]; simp at q1 q4 q5; simp [q1, q2, q3, q4, q5]
 ·congr 1; exact decide_eq_decide.2 Iff.rfl
end
section
variable {H : Heap} {c : Conf} {fa ra wa : O} {fl fc rl rc wl wc : Nat} {l : Ldr} {la ka : O} {ll lc kl kc : Nat}
theorem cLdrCheck (hc : CfgAt H c fa fl ra rl wa wl) (h : LdrAt H l la ll ka kl) : Spec Tryz.prog 197 [cfgArg c fa fl fc ra rl rc wa wl wc, ldrArg l la ll lc ka kl kc] H fun v _ => v = i64 (ldrErr c l) := by
 refine TryzvcJ Tryz.func197 (by kernel_rfl) (by kernel_rfl) _ rfl (fun base K => vc77 c.first.id c.bud fa ra wa fl fc rl rc wl wc la ka ll lc kl kc l.now l.goal l.nx l.back base H K) fun base hb => ?_
 intro b b1
 have hll := h.rels.len
 have hle := h.rels.le
 have hkl := h.ags.len
 have hke := h.ags.le
 refine (cConfig hc).int1 fun H1 e1 _ => ⟨fun q1 => by rw [ldrErr, if_pos q1], fun q1 => ?_⟩
 refine ⟨l.rels.length = 0 ∨ 6 < l.rels.length, ⟨fun q => ⟨rfl, fun _ _ h => h, by omega⟩, fun q => ⟨rfl, fun _ _ h => h, by omega⟩⟩, fun q2 => by rw [ldrErr, if_neg q1, if_pos q2], fun q2 => ?_⟩
 refine ⟨fun vs _ => ∃ (d : Int) (i : Nat), vs = [i64 d, i64 i]/\ i <= ll/\ relsErr c.rules i (l.rels.drop i) = relsErr c.rules 0 l.rels, upTo ll 1, ⟨0, 0, rfl, by omega, rfl⟩, fun n n1 H2 hN hI => ?_⟩
 obtain ⟨d, i, hvs, hi, hI⟩ := hI
 obtain ⟨rfl, rfl⟩ : n = d/\ n1 = (i : Int) := by simpa using hvs
 refine ⟨fun hlt => h.rels.rl hN.ext (by omega) hlt fun m ma mn mc hm hp => fun b2 => ?_, fun hge => ?_⟩
 ·rw [Int.toNat_natCast] at hm
  rw [drop_at hm, relsErr] at hI
  have bad : ∀ {e : Int}, relsErr c.rules 0 l.rels = e->e ≠ 0->ldrErr c l = e := fun he h0 => by rw [ldrErr, if_neg q1, if_neg q2, if_pos (by omega), he]
  refine (cBroken (hp.ext' hN.ext) (hc.ext hN.ext).rules).int2 fun H3 e3 _ => ⟨fun q3 => ?_, fun q3 => ⟨fun q4 => ?_, fun q4 => ?_⟩⟩
  ·rw [if_pos q3] at hI; rw [bad hI.symm q3]
  ·rw [if_neg q3, if_pos q4] at hI; rw [bad hI.symm (by omega)]
  ·rw [if_neg q3, if_neg q4] at hI
   rintro _ rfl
   rw [wrap_in (by omega) (by omega)]
   refine ⟨fun q5 => ?_, fun q5 => ?_⟩
   ·rw [if_pos q5] at hI; rw [bad hI.symm (by omega)]
   ·rw [if_neg (by omega)] at hI
    rintro _ rfl
    exact ⟨rfl, ⟨_, i + 1, rfl, by omega, hI⟩, by simp [upTo]; omega⟩
 ·rw [drop_all hll (by omega), relsErr] at hI
  have E1 : ldrErr c l = if ldrRange l then 3 else if ldrForm c l then 4 else knErr l.goal l.nx l.back l.ags := by rw [ldrErr, if_neg q1, if_neg q2, if_neg (by omega)]
  refine ⟨ldrRange l, ?_, fun q3 => by rw [E1, if_pos q3], fun q3 => ?_⟩
  ·unfold ldrRange
   repeat' (first | exact ⟨rfl, fun _ _ h => h, by omega⟩ | intro _ | refine ⟨?_, ?_⟩)
  rw [if_neg q3] at E1
  have form : ldrForm c l->ldrErr c l = 4 := fun q => by rw [E1, if_pos q]
  refine ⟨fun q4 => by rw [form (.inl q4)], fun q4 => ⟨fun q5 => ⟨fun q6 => by rw [form (.inr (.inl ⟨q5, q6⟩))], fun q6 => ?_⟩, fun q5 => ?_⟩⟩
  all_goals
   have hgb : ¬ (l.goal = 0/\ l.back = true) := by first | exact fun q => by rw [q6] at q; cases q.2 | exact fun q => q5 q.1
   refine (cAgents (hc.ext hN.ext)).int1 fun H3 e3 _ => ⟨fun q7 => by rw [form (.inr (.inr (.inl (by omega))))], fun q7 => h.rels.rl (k := 0) (Ext.trans hN.ext e3) (by omega) (by omega) fun m ma mn mc hm hp => ?_⟩
   have E3 := Ext.trans hN.ext e3
   have hm0 : l.rels[0]? = some m := hm
   refine (cAlike (hp.ext' E3) (hc.ext E3).pins _ _).bool1 fun H4 e4 _ => ⟨fun q8 => ?_, fun q8 => ?_⟩
   ·rw [form (.inr (.inr (.inr (by rw [hm0]; intro e; simp at e; subst e; simp at q8))))]
   have hmf : m = c.first := by rw [rls_eq]; simpa using q8
   have hF : ¬ ldrForm c l := by
    rintro (q | q | q | q)
    ·exact q4 q
    ·exact hgb q
    ·omega
    ·exact q (by rw [hm0, hmf])
   have E2 : ldrErr c l = knErr l.goal l.nx l.back l.ags := by rw [E1, if_neg hF]
   refine ⟨fun vs _ => ∃ (d : Int) (i : Nat), vs = [i64 d, i64 i]/\ i <= kl/\ knErr l.goal l.nx l.back (l.ags.drop i) = knErr l.goal l.nx l.back l.ags, upTo kl 1, ⟨_, 0, rfl, by omega, rfl⟩, fun n2 n3 H5 hN5 hI5 => ?_⟩
   obtain ⟨d5, j, hvs5, hj, hI5⟩ := hI5
   obtain ⟨rfl, rfl⟩ : n2 = d5/\ n3 = (j : Int) := by simpa using hvs5
   refine ⟨fun hlt5 => h.ags.kn hN5.ext (by omega) hlt5 fun z hz => fun b6 => ?_, fun hge5 => ?_⟩
   ·rw [Int.toNat_natCast] at hz
    rw [drop_at hz, knErr] at hI5
    refine ⟨badKn l.nx z, ?_, fun q9 => by rw [E2, ← hI5, if_pos q9], fun q9 => ?_⟩
    ·unfold badKn
     repeat' (first | exact ⟨rfl, fun _ _ h => h, by omega⟩ | intro _ | refine ⟨?_, ?_⟩)
    refine ⟨oddKn l.goal l.back z, ?_, fun q10 => by rw [E2, ← hI5, if_neg q9, if_pos q10], fun q10 => ?_⟩
    ·unfold oddKn
     repeat' (first | exact ⟨rfl, fun _ _ h => h, by grind⟩ | intro _ | refine ⟨?_, ?_⟩)
    rw [if_neg q9, if_neg q10] at hI5
    rintro _ rfl
    rw [wrap_in (by omega) (by omega)]
    exact ⟨rfl, ⟨_, j + 1, rfl, by omega, hI5⟩, by simp [upTo]; omega⟩
   ·rw [drop_all hkl (by omega), knErr] at hI5
    rw [E2, ← hI5]
end
open Go Go.Proofs
def bIdx (v : Bool) : Int->List Bool->Int
 | _, [] => -1
 | i, x :: r => if v = x then i else bIdx v (i + 1) r
theorem bIdx_mem (v : Bool) : ∀ (l : List Bool) (i : Int), 0 <= i->(0 <= bIdx v i l ↔ v ∈ l)
 | [], i, _ => by simp [bIdx]
 | x :: r, i, h => by
  unfold bIdx
  split
  ·rename_i e; subst e; simp [h]
  ·rename_i e; rw [bIdx_mem v r (i + 1) (by omega)]; simp [e]
theorem cHasBool {H : Heap} {a : O} {l c : Nat} {xs : List Bool} (hx : Sl RBool 1 H a l xs) (v : Bool) : Spec Tryz.prog 255 [.slice a l c, .bool v] H fun r _ => r = .bool (decide (v ∈ xs)) := by
 have h155 : Spec Tryz.prog 274 [.slice a l c, .bool v] H fun r _ => r = i64 (bIdx v 0 xs) := by
  refine TryzvcJ Tryz.func274 (by kernel_rfl) (by kernel_rfl) _ rfl (fun base K => vc155 a l c v base H K) fun base hb => ?_
  have hle := hx.le
  refine ⟨fun vs _ => ∃ (d : Int) (k : Nat), vs = [i64 d, i64 k]/\ k <= l/\ bIdx v k (xs.drop k) = bIdx v 0 xs, upTo l 1, ⟨0, 0, rfl, by omega, rfl⟩, fun d n H' hN hI => ?_⟩
  obtain ⟨d', k, hvs, hk, hI⟩ := hI
  obtain ⟨rfl, rfl⟩ : d = d'/\ n = (k : Int) := by simpa using hvs
  refine ⟨fun hlt => hx.bool hN.ext (by omega) hlt fun y hy => ⟨_, eqBool, fun he => ?_, fun he => ?_⟩, fun hge => ?_⟩
  ·rw [Int.toNat_natCast] at hy
   rw [drop_at hy, bIdx, if_pos (by simpa using he)] at hI
   rw [hI]
  ·rw [Int.toNat_natCast] at hy
   rw [drop_at hy, bIdx, if_neg (by simpa using he)] at hI
   rintro r rfl
   rw [wrap_in (by omega) (by omega)]
   exact ⟨⟨d, k + 1, rfl, by omega, hI⟩, by simp [upTo]; omega⟩
  ·rw [drop_all hx.len (by omega), bIdx] at hI; rw [hI]
 refine TryzvcJ Tryz.func255 (by kernel_rfl) (by kernel_rfl) _ rfl (fun base K => vc151 a l c v base H K) fun base hb => ?_
 refine h155.int1 fun H' _ _ => ?_
 simp [bIdx_mem v xs 0 (by omega)]
theorem cBusy {H : Heap} (a : Kn) : Spec Tryz.prog 257 [.agg #[.int .i64 a.st, .int .i64 a.try_, .bool a.back]] H fun v _ => v = .bool (decide (busy a)) := by
 refine TryzvcJ Tryz.func257 (by kernel_rfl) (by kernel_rfl) _ rfl (fun base K => vc152 a.st a.try_ a.back base H K) fun base hb => ?_
 intro b
 refine ⟨busy a, ?_, by congr 1; exact decide_eq_decide.2 Iff.rfl⟩
 unfold busy
 repeat' (first | exact ⟨rfl, fun _ _ h => h, by grind⟩ | intro _ | refine ⟨?_, ?_⟩)
def knIdx (f : Kn->Bool) : Int->List Kn->Int
 | _, [] => -1
 | i, x :: r => if f x = true then i else knIdx f (i + 1) r
theorem knIdx_any (f : Kn->Bool) : ∀ (l : List Kn) (i : Int), 0 <= i->(0 <= knIdx f i l ↔ l.any f = true)
 | [], i, _ => by simp [knIdx]
 | x :: r, i, h => by
  unfold knIdx
  split
  ·rename_i e; simp [h, e]
  ·rename_i e; rw [knIdx_any f r (i + 1) (by omega)]; simp [e]
theorem cAnyBusy {H : Heap} {a : O} {l c : Nat} {xs : List Kn} (hx : Kns H a l xs) : Spec Tryz.prog 256 [.slice a l c, .func (.func 257) #[] #[]] H fun r _ => r = .bool (xs.any fun a => decide (busy a)) := by
 have h136 : Spec Tryz.prog 275 [.slice a l c, .func (.func 257) #[] #[]] H fun r _ => r = i64 (knIdx (fun a => decide (busy a)) 0 xs) := by
  refine TryzvcJ Tryz.func275 (by kernel_rfl) (by kernel_rfl) _ rfl (fun base K => vc136a a l c base H K) fun base hb => ?_
  have hle := hx.le
  refine ⟨fun vs _ => ∃ (d : Int) (k : Nat), vs = [i64 d, i64 k]/\ k <= l/\ knIdx (fun a => decide (busy a)) k (xs.drop k) = knIdx (fun a => decide (busy a)) 0 xs, upTo l 1, ⟨0, 0, rfl, by omega, rfl⟩, fun d n H' hN hI => ?_⟩
  obtain ⟨d', k, hvs, hk, hI⟩ := hI
  obtain ⟨rfl, rfl⟩ : d = d'/\ n = (k : Int) := by simpa using hvs
  refine ⟨fun hlt => hx.kn hN.ext (by omega) hlt fun y hy => (cBusy y).bool1 fun H2 e2 _ => ⟨fun he => ?_, fun he => ?_⟩, fun hge => ?_⟩
  ·rw [Int.toNat_natCast] at hy
   rw [drop_at hy, knIdx, if_pos he] at hI
   rw [hI]
  ·rw [Int.toNat_natCast] at hy
   rw [drop_at hy, knIdx, if_neg (by rw [he]; simp)] at hI
   rintro r rfl
   rw [wrap_in (by omega) (by omega)]
   exact ⟨⟨d, k + 1, rfl, by omega, hI⟩, by simp [upTo]; omega⟩
  ·rw [drop_all hx.len (by omega), knIdx] at hI; rw [hI]
 refine TryzvcJ Tryz.func256 (by kernel_rfl) (by kernel_rfl) _ rfl (fun base K => vc82a a l c base H K) fun base hb => ?_
 refine h136.int1 fun H' _ _ => ?_
 have := knIdx_any (fun a => decide (busy a)) xs 0 (by omega)
 congr 1
 cases hany : xs.any (fun a => decide (busy a))
 ·rw [decide_eq_false (by rw [this, hany]; simp)]
 ·rw [decide_eq_true (this.2 hany)]
section
variable {H : Heap} {c : Conf} {fa ra wa : O} {fl fc rl rc wl wc : Nat} {l : Ldr} {la ka : O} {ll lc kl kc : Nat}
theorem thr_len (l : List Kn) : (thr l).length = l.length := by simp [thr]
theorem cTurn (hc : CfgAt H c fa fl ra rl wa wl) (h : LdrAt H l la ll ka kl) (h6 : l.ags.length <= 6) {k : Int} (h0 : 0 <= k) (h1 : k < kl) : Spec Tryz.prog 231 [cfgArg c fa fl fc ra rl rc wa wl wc, ldrArg l la ll lc ka kl kc, i64 k] H fun v _ => v = .bool (turnOf c l k) := by
 refine TryzvcJ Tryz.func231 (by kernel_rfl) (by kernel_rfl) _ rfl (fun base K => vc134 c.first.id c.bud fa ra wa fl fc rl rc wl wc la ka ll lc kl kc l.now l.goal l.nx l.back k base H K) fun base hb => ?_
 intro b b1
 refine h.ags.kn (Ext.refl _) h0 h1 fun m hm => fun b4 => ⟨fun q => ?_, fun q => ?_⟩
 ·refine ⟨m.st ≠ 0/\ m.back = false, ⟨fun w => ⟨rfl, fun _ _ h => h, by simp [w]⟩, fun w => ⟨rfl, fun _ _ h => h, fun w2 => w w2.1⟩⟩, ?_⟩
  unfold turnOf
  rw [hm]
  simp only [q, if_true]
  congr 1; exact decide_eq_decide.2 Iff.rfl
 ·have hT0 : turnOf c l k = decide (waveCheck c.waves l.ags.length = 0/\ m.st = 0/\ waveOf c.waves k = waveNow c.waves (thr l.ags)/\ cnt 3 l.ags <= c.bud) := by
   unfold turnOf
   rw [hm]
   simp [q]
  rw [hT0]
  refine (cThrough h h6).sl1 fun a n c' H1 e1 _ hT => ?_
  refine (cWaveNow (hc.ext e1).waves hT).int2 fun H2 e2 _ => ?_
  rw [thr_len]
  refine ⟨fun w1 => ⟨fun w2 => ?_, fun w2 => by simp [w2]⟩, fun w1 => by simp [w1]⟩
  refine (cWaveOf (hc.ext (e1.trans e2)).waves k).int1 fun H3 e3 _ => ⟨fun w3 => ?_, fun w3 => by simp [w3]⟩
  exact (cIll (h.ext ((e1.trans e2).trans e3))).int1 fun H4 e4 _ => by simp [w1, w2, w3]
theorem cOver (hc : CfgAt H c fa fl ra rl wa wl) (h : LdrAt H l la ll ka kl) (h6 : l.ags.length <= 6) : Spec Tryz.prog 232 [cfgArg c fa fl fc ra rl rc wa wl wc, ldrArg l la ll lc ka kl kc] H fun v _ => v = .bool (overOf c l) := by
 refine TryzvcJ Tryz.func232 (by kernel_rfl) (by kernel_rfl) _ rfl (fun base K => vc135 c.first.id c.bud fa ra wa fl fc rl rc wl wc la ka ll lc kl kc l.now l.goal l.nx l.back base H K) fun base hb => ?_
 intro b b1
 refine ⟨fun q => ?_, fun q => ?_⟩
 ·have hO : overOf c l = decide (cnt 3 l.ags <= c.bud/\ false ∉ thr l.ags) := by unfold overOf; rw [if_pos q]
  rw [hO]
  refine (cIll h).int1 fun H1 e1 _ => ⟨fun w => (cThrough (h.ext e1) h6).sl1 fun a n c' H2 e2 _ hT => (cHasBool hT false).bool1 fun H3 e3 _ => ?_, fun w => by simp [w]⟩
  simp [w]
 ·have hO : overOf c l = decide (∀ a ∈ l.ags, ¬ busy a) := by unfold overOf; rw [if_neg q]
  rw [hO]
  refine (cAnyBusy h.ags).bool1 fun H1 e1 _ => ?_
  congr 1
  rw [decide_eq_decide]
  simp
theorem notThr {l : List Kn} {a : Int} (h0 : 0 <= a) {m : Kn} (hm : l[a.toNat]? = some m) : notThrough (thr l) a = true ↔ ¬ (m.st = 2 ∨ m.st = 3) := by
 unfold notThrough thr
 rw [List.getElem?_map, hm]
 simp
end
open Go Go.Proofs
theorem cCloneRels {H : Heap} {a : O} {l c : Nat} {ms : List Rls} (hx : Rels H a l ms) (hl : l <= 100000) : Spec Tryz.prog 216 [.slice a l c] H fun v H' => ∃ a n c rs, v = .slice a n c/\ Fresh H H' 24 2 a n c rs.flatten/\ (∀ r ∈ rs, r.length = 2)/\ AllR RRl H rs ms := by
 refine TryzvcJ Tryz.func216 (by kernel_rfl) (by kernel_rfl) _ rfl (fun base K => vc147 a l c base H K) fun base hb => ⟨_, eqNil Tryz.underlying29, fun h => ?_, fun h => ?_⟩
 ·obtain rfl : a = none := by cases a <;> simp at h ⊢
  obtain ⟨_, rfl⟩ := hx.addr_nil
  exact ⟨none, 0, 0, [], rfl, Fresh.zero, by simp, trivial⟩
 ·intro g H1 hN1 _ hg
  obtain ⟨rs, h1, h2, h3, h4⟩ := hx.rows RRl.len
  exact ⟨[], _, Row.zero, h3, allOne_rows RRl.one h2, h4.imp id (fun ⟨b, o, hb, hc⟩ => ⟨b, o, hb, cellsAt_ext hN1.ext hc⟩), by omega, by omega, fun a3 c3 H3 hG hR => ⟨_, _, _, rs, rfl, hR.fresh hb, h1, h2⟩⟩
theorem cCloneKns {H : Heap} {a : O} {l c : Nat} {xs : List Kn} (hx : Kns H a l xs) (hl : l <= 100000) : Spec Tryz.prog 217 [.slice a l c] H fun v H' => ∃ a n c, v = .slice a n c/\ Fresh H H' 95 3 a n c (xs.flatMap knCells) := by
 refine TryzvcJ Tryz.func217 (by kernel_rfl) (by kernel_rfl) _ rfl (fun base K => vc148 a l c base H K) fun base hb => ⟨_, eqNil Tryz.underlying30, fun h => ?_, fun h => ?_⟩
 ·obtain rfl : a = none := by cases a <;> simp at h ⊢
  obtain ⟨_, rfl⟩ := hx.addr_nil
  exact ⟨none, 0, 0, rfl, Fresh.zero⟩
 ·intro g H1 hN1 _ hg
  obtain ⟨hc1, hc2⟩ := hx.cells knCells_len hN1.ext
  exact ⟨[], xs.flatMap knCells, Row.zero, hc1, allOne_flat knCells_one xs, hc2, by omega, by omega, fun a3 c3 H3 hG hR => ⟨_, _, _, rfl, hR.fresh hb⟩⟩
theorem Row.other {base : Nat} {H H' : Heap} {e : TypeId} {sz : Nat} {a : O} {n c b o : Nat} {k : KB} {xs vs : List Value} (h : Row base H e sz a n c xs) (hu : Upd H b o k vs H') (hne : c ≠ 0->a ≠ some ⟨b, 0, none⟩) : Row base H' e sz a n c xs := by
 obtain ⟨h1, h2, h3, h4⟩ := h
 by_cases hc : c = 0
 ·exact ⟨h1, h2, h3, .inl ⟨by omega, hc⟩⟩
 ·refine ⟨h1, h2, h3, h4.imp id fun ⟨g, k', q1, q2, q3, q4⟩ => ⟨g, k', q1, q2, ?_, q4⟩⟩
  rw [hu.there g (fun e => hne hc (by rw [q1, e]))]; exact q3
theorem Row.stay {base : Nat} {H H' : Heap} {f : TypeId} {sy : Nat} {a a' b : O} {c c' nn m d : Nat} {ys : List Value} (h : Row base H f sy b m d ys) (hG : Grew base H H' a c a' c' nn) (hs : c ≠ 0->d ≠ 0->a ≠ b) : Row base H' f sy b m d ys/\ (c' ≠ 0->d ≠ 0->a' ≠ b) := by
 obtain ⟨h1, h2, h3, h4⟩ := h
 rcases h4 with ⟨h5, h6⟩ | ⟨g, k, hb, hbase, hH, hr⟩
 ·exact ⟨⟨h1, h2, h3, .inl ⟨h5, h6⟩⟩, fun _ hd => absurd h6 hd⟩
 ·by_cases hd : d = 0
  ·exact ⟨⟨h1, h2, h3, .inl ⟨by omega, hd⟩⟩, fun _ h => absurd hd h⟩
  ·refine ⟨⟨h1, h2, h3, .inr ⟨g, k, hb, hbase, hG.keep g k hH ?_, hr⟩⟩, fun hc' _ e => ?_⟩
   ·by_cases hc : c = 0
    ·exact .inl hc
    ·exact .inr fun e => hs hc hd (by rw [e, hb])
   ·rcases hG.place hc' g (by rw [e, hb]) with h | ⟨h, hc⟩
    ·rw [hH] at h; cases h
    ·exact hs hc hd (by rw [← h, e])
theorem OwnSl.other {α : Type} {R : Rep α} {sz : Nat} {e : TypeId} {base : Nat} {G H H' : Heap} {a : O} {n c b o : Nat} {k : KB} {vs : List Value} {rows : List (List Value)} {xs : List α} (h : OwnSl R sz e base G H a n c rows xs) (hu : Upd H b o k vs H') (hne : c ≠ 0->a ≠ some ⟨b, 0, none⟩) (hG : G b = none) :
  OwnSl R sz e base G H' a n c rows xs :=
 ⟨h.row.other hu hne, h.wid, h.all, fun x k hx => by
  rw [hu.there x (fun e => by rw [e, hG] at hx; cases hx)]; exact h.sub x k hx, h.clear⟩
structure OwnL (base : Nat) (G H : Heap) (l : Ldr) (la : O) (ll lc : Nat) (ka : O) (kl kc : Nat) (rows : List (List Value)) : Prop where
 rels : OwnSl RRl 2 24 base G H la ll lc rows l.rels
 ags : Row base H 95 3 ka kl kc (l.ags.flatMap knCells)
 apart : lc ≠ 0->kc ≠ 0->la ≠ ka
 clear : kc ≠ 0->∀ g, ka = some ⟨g, 0, none⟩->G g = none
structure NewL (H G H' : Heap) (l : Ldr) (la : O) (ll lc : Nat) (ka : O) (kl kc : Nat) (rows : List (List Value)) : Prop where
 rels : NewSl RRl 2 24 H G H' la ll lc rows l.rels
 ags : Fresh H H' 95 3 ka kl kc (l.ags.flatMap knCells)
 apart : lc ≠ 0->kc ≠ 0->la ≠ ka
 clear : kc ≠ 0->∀ g, ka = some ⟨g, 0, none⟩->G g = none
theorem NewL.own {base : Nat} {H G H' : Heap} {l : Ldr} {la ka : O} {ll lc kl kc : Nat} {rows : List (List Value)} (h : NewL H G H' l la ll lc ka kl kc rows) (hN : Next base H H') : OwnL base G H' l la ll lc ka kl kc rows :=
 ⟨h.rels.own hN, h.ags.row hN, h.apart, h.clear⟩
theorem kns_row {base : Nat} {H : Heap} {ka : O} {kl kc : Nat} {xs : List Kn} (h : Row base H 95 3 ka kl kc (xs.flatMap knCells)) : Kns H ka kl xs := sl_of_rowE knCells_len (by omega) h
theorem OwnL.at_ {base : Nat} {G H : Heap} {l : Ldr} {la ka : O} {ll lc kl kc : Nat} {rows : List (List Value)} (h : OwnL base G H l la ll lc ka kl kc rows) : LdrAt H l la ll ka kl := ⟨h.rels.sl RRl.mono (by omega), kns_row h.ags⟩
theorem OwnL.ext {base : Nat} {G H H' : Heap} {l : Ldr} {la ka : O} {ll lc kl kc : Nat} {rows : List (List Value)} (h : OwnL base G H l la ll lc ka kl kc rows) (x : Ext H H') : OwnL base G H' l la ll lc ka kl kc rows := ⟨h.rels.ext x, h.ags.ext x, h.apart, h.clear⟩
theorem cCopyL {H : Heap} {l : Ldr} {la ka : O} {ll lc kl kc : Nat} (h : LdrAt H l la ll ka kl) (hl1 : ll <= 100000) (hl2 : kl <= 100000) (hk : ∀ m ∈ l.rels, m.lock.length <= 100000) :
  Spec Tryz.prog 170 [ldrArg l la ll lc ka kl kc] H fun v H' => ∃ la ll lc ka kl kc G rows, v = ldrArg l la ll lc ka kl kc/\ NewL H G H' l la ll lc ka kl kc rows := by
 refine TryzvcJ Tryz.func170 (by kernel_rfl) (by kernel_rfl) _ rfl (fun base K => vc129 la ka ll lc kl kc l.now l.goal l.nx l.back base H K) fun base hb => ?_
 intro b b0
 have hml := h.rels.len
 refine (cCloneRels h.rels hl1).mono fun v H1 e1 hv => ?_
 obtain ⟨a1, n1, c1, rs, rfl, hF, hw, hA⟩ := hv
 refine ⟨a1, n1, c1, rfl, fun hN1 => ?_⟩
 refine (cCloneKns (h.ext e1).ags hl2).mono fun v H2 e2 hv => ?_
 obtain ⟨a2, n2, c2, rfl, hF2⟩ := hv
 refine ⟨a2, n2, c2, rfl, fun hN2 => ?_⟩
 have hR := (hF.row hN1).ext e2
 have hK := hF2.row hN2
 have hrl : rs.length = n1 := by
  have := hR.1
  rw [flat_wid hw] at this
  omega
 have hrm := hA.len
 have hapart : c1 ≠ 0->c2 ≠ 0->a1 ≠ a2 := fun q1 q2 e => by
  rcases hF.2.2.2 with ⟨_, h0⟩ | ⟨g, k, w1, w2, w3, _⟩
  ·exact q1 h0
  ·rcases hF2.2.2.2 with ⟨_, h0⟩ | ⟨g', k', u1, u2, _⟩
   ·exact q2 h0
   ·rw [e, u1] at w1; simp at w1; subst w1; rw [w3] at u2; cases u2
 refine ⟨fun vs Hc => ∃ (i : Nat) (r1 : List (List Value)) (G : Heap), vs = [i64 i]/\ i <= n1/\ r1.length = i/\ (∀ r ∈ r1, r.length = 2)/\ Row base Hc 24 2 a1 n1 c1 (r1 ++ rs.drop i).flatten/\ Row base Hc 95 3 a2 n2 c2 (l.ags.flatMap knCells)/\ AllR RRl G r1 (l.rels.take i)/\ Away H G/\ Ext G Hc/\ (c1 ≠ 0->∀ g, a1 = some ⟨g, 0, none⟩->G g = none)/\ (c2 ≠ 0->∀ g, a2 = some ⟨g, 0, none⟩->G g = none),
  upTo n1 0, ⟨0, [], fun _ => none, rfl, by omega, rfl, by simp, hR, hK, by simp [AllR], fun _ _ h => (by cases h), fun _ _ h => (by cases h), fun _ _ _ => rfl, fun _ _ _ => rfl⟩, fun m H3 hN3 hI => ?_⟩
 obtain ⟨i, r1, G, hvs, hi, hr1, hw1, hR2, hK2, hA2, haw, hsub, hcl, hcl2⟩ := hI
 obtain rfl : m = (i : Int) := by simpa using hvs
 refine ⟨fun hlt => ?_, fun hge => ?_⟩
 ·have hri : rs[i]? = some (rs[i]'(by omega)) := List.getElem?_eq_getElem (by omega)
  have hmi : l.rels[i]? = some (l.rels[i]'(by omega)) := List.getElem?_eq_getElem (by omega)
  generalize hrr : rs[i]'(by omega) = r at hri
  generalize hmm : l.rels[i]'(by omega) = m at hmi
  obtain ⟨pa, pn, pc, rfl, hp, hg⟩ := hA.get hri hmi
  have hpl := hp.len
  have hkm := hk m (List.mem_of_getElem? hmi)
  have hwL : ∀ r ∈ r1 ++ rs.drop i, r.length = 2 := fun r hr => by
   rcases List.mem_append.1 hr with hr | hr
   ·exact hw1 r hr
   ·exact hw r (List.mem_of_mem_drop hr)
  have hat : (r1 ++ rs.drop i)[i]? = some [i64 m.id, .slice pa pn pc] := by
   rw [List.getElem?_append_right (by omega), hr1, Nat.sub_self, List.getElem?_drop, Nat.add_zero]; exact hri
  obtain ⟨b, hab, hcell⟩ := hR2.at hwL (by simp; omega) hat
  have hd := drop_at hri
  refine ⟨b, 0, hab, by omega, hlt, _, _, _, _, ⟨hcell 0 _ rfl, hcell 1 _ rfl, trivial⟩, fun b2 => ?_⟩
  refine (cCloneJ (hp.ext' hN3.ext) (by omega)).mono fun v H4 e4 hv => ?_
  obtain ⟨a6, n6, c6, rfl, hF6⟩ := hv
  refine ⟨a6, n6, c6, rfl, fun hN4 => ?_⟩
  obtain ⟨b3, k3, hb3, hbase, hc1, hH2, hf3, hs3, _⟩ := hR2.block (by omega)
  obtain rfl : b = b3 := by rw [hab] at hb3; simpa using hb3
  have hnc := hR2.2.1
  refine ⟨b, 0, hab, by omega, hlt, k3, e4 _ _ hH2, hf3, hbase, by rw [hs3, Int.toNat_natCast]; omega, fun H5 hu => ?_⟩
  rintro r rfl
  rw [wrap_in (by omega) (by omega)]
  rw [Int.toNat_natCast] at hu
  have hR4 := (hR2.ext e4).upd hab hc1 (e4 _ _ hH2) (o := 0 + i * 2 + 1) (vs := [.slice a6 n6 c6]) (by rw [hR2.1]; show 0 + i * 2 + 1 + 1 <= n1 * 2; omega) hu
  have hK4 := (hK2.ext e4).other hu (fun q e => hapart hc1 q (by rw [hab, e]))
  rw [hd, show 0 + i * 2 + 1 = r1.length * 2 + 1 from by omega, rows_set hw1 rfl (by simp)] at hR4
  have hnew : RRl (G.plus (newOf H3 H4)) (setRange [i64 m.id, .slice pa pn pc] 1 [.slice a6 n6 c6]) m := ⟨a6, n6, c6, rfl, Sl.ext REnc.mono (hF6.sl_new pinCells_len (by omega)) (new_in_grow hsub), hg⟩
  have hGb : (G.plus (newOf H3 H4)) b = none := by
   unfold Heap.plus newOf
   rw [hcl hc1 b hab, hH2]
  refine ⟨rfl, ⟨i + 1, r1 ++ [setRange [i64 m.id, .slice pa pn pc] 1 [.slice a6 n6 c6]], G.plus (newOf H3 H4), rfl, by omega, by simp [hr1], fun r hr => ?_, by simpa using hR4, hK4, ?_, ?_, fun x k hx => ?_, fun _ g hg => ?_, fun q g hg => ?_⟩, by simp [upTo]; omega⟩
  ·rcases List.mem_append.1 hr with hr | hr
   ·exact hw1 r hr
   ·simp at hr; subst hr; rfl
  ·rw [take_at hmi]
   exact AllR.append (AllR.one hnew) (hA2.mono RRl.mono plus_left)
  ·exact plus_away haw (newOf_away.sub hN3.ext)
  ·have hne : x ≠ b := fun e => by rw [e, hGb] at hx; cases hx
   rw [hu.there x hne]
   exact plus_sub (hsub.trans e4) newOf_ext x k hx
  ·rw [hab] at hg; simp at hg; subst hg; exact hGb
  ·unfold Heap.plus newOf
   rw [hcl2 q g hg]
   rcases hK2.2.2.2 with ⟨_, h0⟩ | ⟨g', k', u1, _, u3, _⟩
   ·exact absurd h0 q
   ·rw [hg] at u1; simp at u1; subst u1; rw [u3]
 ·obtain rfl : i = n1 := by omega
  rw [List.drop_eq_nil_of_le (by omega), List.append_nil] at hR2
  rw [List.take_of_length_le (by omega)] at hA2
  exact ⟨_, _, _, _, _, _, G, r1, rfl, OwnSl.new ⟨hR2, hw1, hA2, hsub, hcl⟩ hb haw, hK2.fresh hb, hapart, hcl2⟩
theorem rels_box {H : Heap} {g : Nat} {ty : TypeId} {m : Rls} {a : O} {n c : Nat} (h : H g = some (boxKB ty [i64 m.id, .slice a n c])) (hp : Pins H a n m.lock) (hg : Rg m.id) : Rels H (some ⟨g, 0, none⟩) 1 [m] :=
 Sl.of_has (rows := [[i64 m.id, .slice a n c]]) (Has.of_box h rfl (by simp) rfl (by omega)) rfl fun i r x hr hx => by
  cases i with
  | zero => simp at hr hx; subst hr; subst hx; exact ⟨a, n, c, rfl, hp, hg⟩
  | succ i => simp at hr
theorem kns_box {H : Heap} {g n : Nat} {ty : TypeId} (h : H g = some (boxKB ty (List.flatten (List.replicate n [i64 0, i64 0, .bool false])))) (hn : n <= 100000) : Kns H (some ⟨g, 0, none⟩) n (List.replicate n ⟨0, 0, false⟩) := by
 refine sl_of_boxE (ty := ty) knCells_len ?_ (by simp) (by omega)
 rw [h]
 congr 2
 rw [List.flatMap_def, List.map_replicate]
 rfl
theorem rg_id {r : Rls} (h : relErr r = 0) : Rg r.id := by have := (relErr_zero h).1; unfold Rg; omega
section
variable {H : Heap} {c : Conf} {fa ra wa : O} {fl fc rl rc wl wc : Nat} {l : Ldr} {la ka : O} {ll lc kl kc : Nat}
theorem cNewL (hc : CfgAt H c fa fl ra rl wa wl) : Spec Tryz.prog 86 [cfgArg c fa fl fc ra rl rc wa wl wc] H fun v H' => ∃ la ll lc ka kl kc, v = .tuple #[ldrArg (if cfgErr c = 0 then newLdr c else noLdr) la ll lc ka kl kc, i64 (cfgErr c)]/\ LdrAt H' (if cfgErr c = 0 then newLdr c else noLdr) la ll ka kl := by
 refine TryzvcJ Tryz.func86 (by kernel_rfl) (by kernel_rfl) _ rfl (fun base K => vc84 c.first.id c.bud fa ra wa fl fc rl rc wl wc base H K) fun base hb => ?_
 intro b b0
 refine (cConfig hc).int1 fun H1 e1 _ => ⟨fun q => ?_, fun q => ?_⟩
 ·rw [if_neg q]; exact ⟨none, 0, 0, none, 0, 0, rfl, Sl.nil, Sl.nil⟩
 have q0 : cfgErr c = 0 := Decidable.not_not.1 q
 rw [if_pos q0, q0]
 obtain ⟨z1, z2, z3, z4, z5, z6, z7⟩ := cfgErr_zero q0
 have hag := (agents_same z7).2
 have hfl := hc.pins.len
 have hf12 := (relErr_zero z1).2.2
 refine (cCloneJ (hc.ext e1).pins (by omega)).mono fun v H2 e2 hv => ?_
 obtain ⟨a, n, c', rfl, hF⟩ := hv
 refine ⟨a, n, c', rfl, fun hN2 => ?_⟩
 have hP : Pins H2 a n c.first.lock := pins_of_row (hF.row hN2)
 have hc2 := (hc.ext e1).ext e2
 have fin : ∀ {H' : Heap} {g g1 : Nat}, Ext H2 H'->H' g = some (boxKB 24 [.int .i64 1, .slice a n c'])->H' g1 = some (boxKB 95 (List.flatten (List.replicate (agentsOf c.waves).toNat [.int .i64 0, .int .i64 0, .bool false])))->
   ∃ la ll lc ka kl kc, Value.tuple #[.agg #[.slice (some ⟨g, 0, none⟩) 1 1, .int .i64 1, .int .i64 0, .bool false, .slice (some ⟨g1, 0, none⟩) (agentsOf c.waves).toNat (agentsOf c.waves).toNat, .int .i64 1], .int .i64 0] = .tuple #[ldrArg (newLdr c) la ll lc ka kl kc, i64 0]/\ LdrAt H' (newLdr c) la ll ka kl := fun e hg hg1 => by
  refine ⟨_, _, _, _, _, _, rfl, ?_, ?_⟩
  ·exact rels_box (m := c.first) (by rw [z2]; exact hg) (hP.ext' e) (rg_id z1)
  ·exact kns_box hg1 (by omega)
 intro b1
 refine ⟨fun g H3 hN3 _ hg => ?_, ?_⟩
 ·refine (cAgents (hc2.ext hN3.ext)).int1 fun H4 e4 _ => ⟨by omega, by omega, by omega, by omega, fun g1 H5 hN5 _ hg1 => ?_⟩
  exact fin ((Ext.trans hN3.ext e4).trans hN5.ext) (hN5.ext _ _ (e4 _ _ hg)) hg1
 ·refine (cAgents hc2).int1 fun H3 e3 _ => ⟨fun g H4 hN4 _ hg => ⟨by omega, by omega, by omega, by omega, fun g1 H5 hN5 _ hg1 => ?_⟩, by omega, by omega, by omega, by omega, fun g H4 hN4 _ hg g1 H5 hN5 _ hg1 => ?_⟩
  ·exact fin ((e3.trans hN4.ext).trans hN5.ext) (hN5.ext _ _ hg) hg1
  ·exact fin ((e3.trans hN4.ext).trans hN5.ext) hg1 (hN5.ext _ _ hg)
def turnErr (c : Conf) (l : Ldr) (k : Int) : Int := if ldrErr c l ≠ 0 then ldrErr c l else if k < 0 ∨ (l.ags.length : Int) <= k then 5 else if l.goal = 0 then 7 else 0
def turnRel (c : Conf) (l : Ldr) (k : Int) : Rls := if turnErr c l k = 0 then (l.rels[(goalOf l - 1).toNat]?).getD ⟨0, []⟩ else ⟨0, []⟩
def turnT (c : Conf) (l : Ldr) (k : Int) : Bool := if turnErr c l k = 0 then turnOf c l k else false
theorem ags_six (hE : ldrErr c l = 0) : l.ags.length <= 6/\ (l.ags.length : Int) = agentsOf c.waves := by
 obtain ⟨g1, g2, g3, g4, g5, g6, g7⟩ := ldrErr_zero.1 hE
 have hag : (l.ags.length : Int) = agentsOf c.waves := by
  by_cases q : (l.ags.length : Int) = agentsOf c.waves
  ·exact q
  ·exact absurd (.inr (.inr (.inl q))) g6
 have := (agents_same (cfgErr_zero g1).2.2.2.2.2.2).2
 exact ⟨by omega, hag⟩
theorem cTurnL (hc : CfgAt H c fa fl ra rl wa wl) (h : LdrAt H l la ll ka kl) (k : Int) : Spec Tryz.prog 220 [cfgArg c fa fl fc ra rl rc wa wl wc, ldrArg l la ll lc ka kl kc, i64 k] H fun v H' => ∃ a n c', v = .tuple #[.bool (turnT c l k), .agg #[.int .i64 (turnRel c l k).id, .slice a n c'], i64 (turnErr c l k)]/\ Pins H' a n (turnRel c l k).lock := by
 refine TryzvcJ Tryz.func220 (by kernel_rfl) (by kernel_rfl) _ rfl (fun base K => vc80 c.first.id c.bud fa ra wa fl fc rl rc wl wc la ka ll lc kl kc l.now l.goal l.nx l.back k base H K) fun base hb => ?_
 have bad : ∀ {e : Int} {H' : Heap}, turnErr c l k = e->e ≠ 0->∃ a n c', Value.tuple #[.bool false, .agg #[.int .i64 0, .slice none 0 0], .int .i64 e] = .tuple #[.bool (turnT c l k), .agg #[.int .i64 (turnRel c l k).id, .slice a n c'], i64 (turnErr c l k)]/\ Pins H' a n (turnRel c l k).lock := fun he h0 => by
  have e1 : turnT c l k = false := by rw [turnT, if_neg (by omega)]
  have e2 : turnRel c l k = ⟨0, []⟩ := by rw [turnRel, if_neg (by omega)]
  rw [e1, e2, he]
  exact ⟨none, 0, 0, rfl, Sl.nil⟩
 intro b b1 b2
 have hkl := h.ags.len
 have hll := h.rels.len
 refine (cLdrCheck hc h).int1 fun H1 e1 _ => ⟨fun q => bad (by rw [turnErr, if_pos q]) q, fun q => ?_⟩
 have q0 : ldrErr c l = 0 := Decidable.not_not.1 q
 obtain ⟨g1, g2, g3, g4, g5, g6, g7⟩ := ldrErr_zero.1 q0
 unfold ldrRange at g5
 have h6 := ags_six q0
 refine ⟨k < 0 ∨ (l.ags.length : Int) <= k, ⟨fun w => ⟨rfl, fun _ _ h => h, .inl w⟩, fun w => ⟨rfl, fun _ _ h => h, by omega⟩⟩, fun w => bad (by rw [turnErr, if_neg q, if_pos w]) (by omega), fun w => ⟨fun w2 => bad (by rw [turnErr, if_neg q, if_neg w, if_pos w2]) (by omega), fun w2 => ?_⟩⟩
 have hT0 : turnErr c l k = 0 := by rw [turnErr, if_neg q, if_neg w, if_neg w2]
 have hT1 : turnT c l k = turnOf c l k := by rw [turnT, if_pos hT0]
 have hlk := rel_lock g4
 refine ⟨fun hk => ?_, fun hk => ?_⟩
 all_goals
  rintro _ rfl
  rw [wrap_in (by omega) (by omega)]
  refine h.rels.rl e1 (by omega) (by omega) fun m ma mn mc hm hp => fun b5 => ?_
  have hgo : l.rels[(goalOf l - 1).toNat]? = some m := by unfold goalOf; simp only [hk]; simpa using hm
  have hT2 : turnRel c l k = m := by rw [turnRel, if_pos hT0, hgo]; rfl
  have hml := hlk m (List.mem_of_getElem? hm)
  have hpl := hp.len
  refine (cTurn (hc.ext e1) (h.ext e1) h6.1 (k := k) (by omega) (by omega)).bool1 fun H2 e2 _ => (cCloneJ (hp.ext' (e1.trans e2)) (by omega)).slF fun a5 n5 c5 H3 e3 hN3 hF => ?_
  rw [hT0, hT1, hT2]
  exact ⟨_, _, _, rfl, pins_of_row hF⟩
end
open Go Go.Proofs
theorem vc89 (fid bud : Int) (fa ra wa : O) (fl fc rl rc wl wc : Nat) (a : O) (l c : Nat) (base : Nat) (H : Heap) (K : KT) :
 (fV TryzMutsJ Tryz.f66 base H [.v (A #[I Z fid, S fa fl fc, S ra rl rc, S wa wl wc, I Z bud]), .v (S a l c)] [] K) = (
 (fun w7:LL=>(fun w6:AV=>∀ b d:Nat,Y Tryz.prog 86 [A #[I Z fid,S fa fl fc,S ra rl rc,S wa wl wc,I Z bud]] H fun e g =>∃ h i j k m n o p q r s,e = T #[A #[S h i j,I Z k,I Z m,B n,S o p q,I Z r],I Z s]/\ (X base H g->∀ t:Nat,(¬s = 0->K (T #[A w6,I Z s]) [] g)/\ (¬¬s = 0->(200 < (l:Int)->K (T #[A w6,I Z 2]) [] g)/\ (¬200 < (l:Int)->∃ (u:LI) (v:LM),u [I Z 0,I Z s,I Z 0,A w6,A #[S h i j,I Z k,I Z m,B n,S o p q,I Z r]] g/\ ∀ (w x y:Int) (z:O) (a1 b1:Nat) (c1 d1:Int) (e1:Bool) (f1:O) (g1 h1:Nat) (i1:Int) (j1:O) (k1 l1:Nat) (m1 n1:Int) (o1:Bool) (p1:O) (q1 r1:Nat) (s1:Int) (t1:Heap),(fun w5:AV=>(fun w4:AV=>X base H t1->u [I Z w,I Z x,I Z y,A w5,A w4] t1->(y < (l:Int)->∃ u1 v1,a = some (D u1 v1 none)/\ 0 <= y/\ y < (l:Int)/\ ∃ (w1 x1 y1 z1:Int) (a2:Bool) (b2:Int) (c2:O) (d2 e2:Nat),(C t1 u1 (v1 + N y * 7) = some (I Z w1)/\ C t1 u1 (v1 + N y * 7 + 1) = some (I Z x1)/\ C t1 u1 (v1 + N y * 7 + 2) = some (I Z y1)/\ C t1 u1 (v1 + N y * 7 + 3) = some (I Z z1)/\ C t1 u1 (v1 + N y * 7 + 4) = some (B a2)/\ C t1 u1 (v1 + N y * 7 + 5) = some (I Z b2)/\ C t1 u1 (v1 + N y * 7 + 6) = some (S c2 d2 e2)/\ True)/\ ∀ f2:Nat,Y Tryz.prog 144 [A #[I Z fid,S fa fl fc,S ra rl rc,S wa wl wc,I Z bud],A w4,A #[I Z w1,I Z x1,I Z y1,I Z z1,B a2,I Z b2,S c2 d2 e2]] t1 fun g2 h2 =>∃ (i2:O) (j2 k2:Nat) (l2 m2:Int) (n2:Bool) (o2:O) (p2 q2:Nat) (r2:Int),(fun w3:AV=>∃ s2,g2 = T #[A w3,I Z s2]/\ (X base t1 h2->(¬s2 = 0->K (T #[A w6,I Z s2]) [] h2)/\ (¬¬s2 = 0->∀ t2:Int,(fun w2:LV=>t2 = W Z (y + 1)->w7 = w7/\ u w2 h2/\ v w2 < v [I Z w,I Z x,I Z y,A w5,A w4]) [I Z w,I Z s2,I Z t2,A w5,A w3]))) #[S i2 j2 k2,I Z l2,I Z m2,B n2,S o2 p2 q2,I Z r2])/\ (¬y < (l:Int)->K (T #[A w4,I Z 0]) [] t1)) #[S j1 k1 l1,I Z m1,I Z n1,B o1,S p1 q1 r1,I Z s1]) #[S z a1 b1,I Z c1,I Z d1,B e1,S f1 g1 h1,I Z i1])))) #[S none 0 0,I Z 0,I Z 0,B false,S none 0 0,I Z 0]) [[I Z fid,S fa fl fc,S ra rl rc,S wa wl wc,I Z bud]]) := by kernel_rfl
theorem vc128  (base : Nat) (H : Heap) (K : KT) :
 (fV TryzMutsJ Tryz.f71 base H [] [] K) = (
 ∀ (a b:Nat) (c:Heap),X base H c->H b = none->c b = some (boxKB 91 [I Z 1,I Z 1])->∀ (d:Nat) (e:Heap),X base c e->c d = none->e d = some (boxKB 152 [I Z 1,I Z 2,I Z 2,I Z 1])->∀ (g:Nat) (h:Heap),X base e h->e g = none->h g = some (boxKB 3 [I Z 1])->∀ (i:Nat) (j:Heap),X base h j->h i = none->j i = some (boxKB 3 [I Z 0,I Z 2])->∀ (k:Nat) (l:Heap),X base j l->j k = none->l k = some (boxKB 97 [S (some (D g 0 none)) 1 1,S (some (D i 0 none)) 2 2])->K (A #[I Z 1,S (some (D b 0 none)) 1 1,S (some (D d 0 none)) 1 1,S (some (D k 0 none)) 2 2,I Z 0]) [] l) := by kernel_rfl
open Go Go.Proofs
theorem vc79 (fid bud : Int) (fa ra wa : O) (fl fc rl rc wl wc : Nat) (la ka : O) (ll lc kl kc : Nat) (now goal nx : Int) (back : Bool) (kd ag tr n id : Int) (gd : Bool) (qa : O) (ql qc : Nat) (base : Nat) (H : Heap) (K : KT) :
 (fV TryzMutsJ Tryz.f144 base H [.v (A #[I Z fid, S fa fl fc, S ra rl rc, S wa wl wc, I Z bud]), .v (A #[S la ll lc, I Z now, I Z goal, B back, S ka kl kc, I Z nx]), .v (A #[I Z kd, I Z ag, I Z tr, I Z n, B gd, I Z id, S qa ql qc])] [] K) = (
 (fun w10:AV=>(fun w9:AV=>(fun w8:AV=>(fun w7:AV=>∀ a b c d:Nat,Y Tryz.prog 197 [A #[I Z fid,S fa fl fc,S ra rl rc,S wa wl wc,I Z bud],A w10] H fun e g =>∃ h,e = I Z h/\ (X base H g->(¬h = 0->K (T #[A #[S none 0 0,I Z 0,I Z 0,B false,S none 0 0,I Z 0],I Z h]) [] g)/\ (¬¬h = 0->Y Tryz.prog 198 [A #[I Z kd,I Z ag,I Z tr,I Z n,B gd,I Z id,S qa ql qc]] g fun i j =>∃ k,(fun w6:AV=>i = I Z k/\ (X base g j->Y Tryz.prog 170 [A w10] j fun l m =>∃ o p q r s t u v w x,(fun w5:AV=>(fun w4:LL=>(fun w3:LL=>(fun w2:AV=>(fun w1:LB=>l = A #[S o p q,I Z r,I Z s,B t,S u v w,I Z x]/\ (X base j m->(¬k = 0->(¬k = 0->K (T w6) [] m)/\ (¬¬k = 0->K (T w2) [] m))/\ (¬¬k = 0->(kd = 4->∀ y z:Nat,((p:Int) = 6->(¬Int.ofNat 2 = 0->K (T #[A #[S none 0 0,I Z 0,I Z 0,B false,S none 0 0,I Z 0],I Z 2]) [] m)/\ (¬¬Int.ofNat 2 = 0->K (T w2) [] m))/\ (¬(p:Int) = 6->∀ a1:Int,a1 = W Z ((p:Int) + 1)->(¬id = a1->(¬Int.ofNat 7 = 0->K (T w7) [] m)/\ (¬¬Int.ofNat 7 = 0->K (T w2) [] m))/\ (¬¬id = a1->Y Tryz.prog 186 [S qa ql qc,S ra rl rc] m fun b1 c1 =>∃ d1 e1,b1 = T #[I Z d1,I Z e1]/\ (X base m c1->(¬e1 = 0->(¬e1 = 0->K (T #[A #[S none 0 0,I Z 0,I Z 0,B false,S none 0 0,I Z 0],I Z e1]) [] c1)/\ (¬¬e1 = 0->K (T w2) [] c1))/\ (¬¬e1 = 0->(0 <= d1->(¬Int.ofNat 8 = 0->K (T #[A #[S none 0 0,I Z 0,I Z 0,B false,S none 0 0,I Z 0],I Z 8]) [] c1)/\ (¬¬Int.ofNat 8 = 0->K (T w2) [] c1))/\ (¬0 <= d1->Y Tryz.prog 163 [S qa ql qc] c1 fun f1 g1 =>∃ h1 i1 j1,f1 = S h1 i1 j1/\ (X base c1 g1->∀ (k1:Nat) (l1:Heap),X base g1 l1->g1 k1 = none->l1 k1 = some (boxKB 24 [I Z id,S h1 i1 j1])->∃ m1 n1:List Value,Row base l1 24 2 o p q m1/\ List.length n1 = 1 * 2/\ allOne n1 = true/\ (1 = 0∨∃ o1 p1,some (D k1 0 none) = some (D o1 p1 none)/\ cellsAt l1 o1 p1 0 n1)/\ (p + 1) * 32 <= 140737488355328/\ p + 1 <= 9223372036854775807/\ ∀ (o1:O) (p1:Nat) (q1:Heap),Grew base l1 q1 o q o1 p1 (p + 1)->Row base q1 24 2 o1 (p + 1) p1 (m1 ++ n1)->(¬Int.ofNat 0 = 0->K (T w8) [] q1)/\ (¬¬Int.ofNat 0 = 0->K (T #[A #[S o1 (p + 1) p1,I Z r,I Z s,B t,S u v w,I Z x],I Z 0]) [] q1))))))))/\ (¬kd = 4->(kd = 5->(¬s = 0->(¬Int.ofNat 7 = 0->K (T w7) []
 m)/\ (¬¬Int.ofNat 7 = 0->K (T w2) [] m))/\ (¬¬s = 0->((p:Int) < n->(¬Int.ofNat 5 = 0->K (T w9) [] m)/\ (¬¬Int.ofNat 5 = 0->K (T w2) [] m))/\ (¬(p:Int) < n->(n = r->(¬Int.ofNat 6 = 0->K (T #[A #[S none 0 0,I Z 0,I Z 0,B false,S none 0 0,I Z 0],I Z 6]) [] m)/\ (¬¬Int.ofNat 6 = 0->K (T w2) [] m))/\ (¬n = r->(¬Int.ofNat 0 = 0->K (T w8) [] m)/\ (¬¬Int.ofNat 0 = 0->K (T #[A #[S o p q,I Z r,I Z n,B t,S u v w,I Z x],I Z 0]) [] m)))))/\ (¬kd = 5->∃ y:Prop,((kd = 6->w1 = w1/\ SubH m m/\ y)/\ (¬kd = 6->w1 = w1/\ SubH m m/\ (y↔kd = 7)))/\ (y->∀ z a1:Nat,((v:Int) <= ag->(¬Int.ofNat 5 = 0->K (T w9) [] m)/\ (¬¬Int.ofNat 5 = 0->K (T w2) [] m))/\ (¬(v:Int) <= ag->∃ b1 c1,u = some (D b1 c1 none)/\ 0 <= ag/\ ag < (v:Int)/\ (kd = 7->∃ d1,C m b1 (c1 + N ag * 3) = some (I Z d1)/\ (¬d1 = 1->(¬Int.ofNat 7 = 0->K (T w7) [] m)/\ (¬¬Int.ofNat 7 = 0->K (T w2) [] m))/\ (¬¬d1 = 1->∃ e1,C m b1 (c1 + N ag * 3 + 1) = some (I Z e1)/\ (¬tr = e1->(¬Int.ofNat 7 = 0->K (T w7) [] m)/\ (¬¬Int.ofNat 7 = 0->K (T w2) [] m))/\ (¬¬tr = e1->∃ f1:KB,m b1 = some f1/\ KB.free f1 = true/\ base <= b1/\ c1 + N ag * 3 + 1 <= KB.size f1/\ ∀ g1:Heap,Upd m b1 (c1 + N ag * 3) f1 [I Z 3] g1->(gd = true->∃ h1:KB,g1 b1 = some h1/\ KB.free h1 = true/\ base <= b1/\ c1 + N ag * 3 + 1 <= KB.size h1/\ ∀ i1:Heap,Upd g1 b1 (c1 + N ag * 3) h1 [I Z 2] i1->(¬Int.ofNat 0 = 0->K (T w8) [] i1)/\ (¬¬Int.ofNat 0 = 0->K (T w2) [] i1))/\ (gd = false->(¬Int.ofNat 0 = 0->K (T w8) [] g1)/\ (¬¬Int.ofNat 0 = 0->K (T w2) [] g1)))))/\ (¬kd = 7->(s = 0->(¬Int.ofNat 7 = 0->K (T w7) [] m)/\ (¬¬Int.ofNat 7 = 0->K (T w2) [] m))/\ (¬s = 0->(¬tr = x->(¬Int.ofNat 7 = 0->K (T w7) [] m)/\ (¬¬Int.ofNat 7 = 0->K (T w2) [] m))/\ (¬¬tr = x->Y Tryz.prog 231 [A #[I Z fid,S fa fl fc,S ra rl rc,S wa wl wc,I Z bud],A #[S o p q,I Z r,I Z s,B t,S u v w,I Z x],I Z ag] m fun d1 e1 =>∃ f1,d1 = B f1/\ (X base m e1->(f1 = false->(¬Int.ofNat 7 = 0->K (T w7) [] e1)/\ (¬¬Int.ofNat 7 = 0->K (T w2) [] e1))/\ (¬f1 = false->∃ g1:KB,e1 b1 = some g1/\ KB.free g1 = true/\ base <= b1/\ c1 + N ag * 3 + 3 <= KB.size g1/\ ∀ h1:Heap,Upd e1 b1 (c1 + N ag * 3) g1 [I Z 1,I Z tr,B t] h1->∀ i1:Int,i1 = W Z (x + 1)->(¬Int.ofNat 0 = 0->K (T w8) []
 h1)/\ (¬¬Int.ofNat 0 = 0->K (T #[A #[S o p q,I Z r,I Z s,B t,S u v w,I Z i1],I Z 0]) [] h1))))))))/\ (¬y->(kd = 8->∃ z:Prop,((s = 0->w1 = w1/\ SubH m m/\ z)/\ (¬s = 0->w1 = w1/\ SubH m m/\ (z↔t = true)))/\ (z->(¬Int.ofNat 7 = 0->K (T w7) [] m)/\ (¬¬Int.ofNat 7 = 0->K (T w5) [] m))/\ (¬z->(¬k = 0->K (T w6) [] m)/\ (¬¬k = 0->K (T w5) [] m)))/\ (¬kd = 8->(kd = 9->∀ z:Nat,(s = 0->(¬Int.ofNat 7 = 0->K (T w7) [] m)/\ (¬¬Int.ofNat 7 = 0->K (T w2) [] m))/\ (¬s = 0->Y Tryz.prog 232 [A #[I Z fid,S fa fl fc,S ra rl rc,S wa wl wc,I Z bud],A #[S o p q,I Z r,I Z s,B t,S u v w,I Z x]] m fun a1 b1 =>∃ c1,a1 = B c1/\ (X base m b1->(c1 = false->(¬Int.ofNat 7 = 0->K (T w7) [] b1)/\ (¬¬Int.ofNat 7 = 0->K (T w2) [] b1))/\ (¬c1 = false->(t = false->∃ (d1:LI) (e1:LM),d1 [I Z 0] b1/\ ∀ (f1:Int) (g1:Heap),X base H g1->d1 [I Z f1] g1->(f1 < (v:Int)->∃ h1 i1,u = some (D h1 i1 none)/\ 0 <= f1/\ f1 < (v:Int)/\ ∃ (j1 k1:Int) (l1:Bool),(C g1 h1 (i1 + N f1 * 3) = some (I Z j1)/\ C g1 h1 (i1 + N f1 * 3 + 1) = some (I Z k1)/\ C g1 h1 (i1 + N f1 * 3 + 2) = some (B l1)/\ True)/\ ∀ m1:Nat,∃ n1 o1,u = some (D n1 o1 none)/\ 0 <= f1/\ f1 < (v:Int)/\ ∃ p1:KB,g1 n1 = some p1/\ KB.free p1 = true/\ base <= n1/\ o1 + N f1 * 3 + 3 <= KB.size p1/\ ∀ q1:Heap,Upd g1 n1 (o1 + N f1 * 3) p1 [I Z 0,I Z k1,B false] q1->∀ r1:Int,r1 = W Z (f1 + 1)->w3 = w3/\ d1 [I Z r1] q1/\ e1 [I Z r1] < e1 [I Z f1])/\ (¬f1 < (v:Int)->(¬Int.ofNat 0 = 0->K (T w8) [] g1)/\ (¬¬Int.ofNat 0 = 0->K (T #[A #[S o p q,I Z s,I Z 0,B false,S u v w,I Z x],I Z 0]) [] g1)))/\ (¬t = false->∃ (d1:LI) (e1:LM),d1 [I Z 0] b1/\ ∀ (f1:Int) (g1:Heap),X base H g1->d1 [I Z f1] g1->(f1 < (v:Int)->∃ h1 i1,u = some (D h1 i1 none)/\ 0 <= f1/\ f1 < (v:Int)/\ ∃ (j1 k1:Int) (l1:Bool),(C g1 h1 (i1 + N f1 * 3) = some (I Z j1)/\ C g1 h1 (i1 + N f1 * 3 + 1) = some (I Z k1)/\ C g1 h1 (i1 + N f1 * 3 + 2) = some (B l1)/\ True)/\ ∀ m1:Nat,∃ n1 o1,u = some (D n1 o1 none)/\ 0 <= f1/\ f1 < (v:Int)/\ ∃ p1:KB,g1 n1 = some p1/\ KB.free p1 = true/\ base <= n1/\ o1 + N f1 * 3 + 3 <= KB.size p1/\ ∀ q1:Heap,Upd g1 n1 (o1 + N f1 * 3) p1 [I Z 0,I Z k1,B false] q1->∀ r1:Int,r1 = W Z (f1 + 1)->w4 = w4/\ d1 [I Z r1] q1/\ e1 [I Z r1] < e1 [I
 Z f1])/\ (¬f1 < (v:Int)->(¬Int.ofNat 0 = 0->K (T w8) [] g1)/\ (¬¬Int.ofNat 0 = 0->K (T #[A #[S o p q,I Z r,I Z 0,B false,S u v w,I Z x],I Z 0]) [] g1)))))))/\ (¬kd = 9->(¬Int.ofNat 4 = 0->K (T #[A #[S none 0 0,I Z 0,I Z 0,B false,S none 0 0,I Z 0],I Z 4]) [] m)/\ (¬¬Int.ofNat 4 = 0->K (T w2) [] m))))))))) [J a false 28 [I Z fid,S fa fl fc,S ra rl rc,S wa wl wc,I Z bud],J b false 32 [S o p q,I Z r,I Z s,B t,S u v w,I Z x],J c false 126 [I Z kd,I Z ag,I Z tr,I Z n,B gd,I Z id,S qa ql qc],J d false 32 [S none 0 0,I Z 0,I Z 0,B false,S none 0 0,I Z 0]]) #[A #[S o p q,I Z r,I Z s,B t,S u v w,I Z x],I Z 0]) [[I Z fid,S fa fl fc,S ra rl rc,S wa wl wc,I Z bud],[S o p q,I Z s,I Z 0,B false,S u v w,I Z x],[I Z kd,I Z ag,I Z tr,I Z n,B gd,I Z id,S qa ql qc],[S none 0 0,I Z 0,I Z 0,B false,S none 0 0,I Z 0],[I Z fid,S fa fl fc,S ra rl rc,S wa wl wc,I Z bud]]) [[I Z fid,S fa fl fc,S ra rl rc,S wa wl wc,I Z bud],[S o p q,I Z r,I Z 0,B false,S u v w,I Z x],[I Z kd,I Z ag,I Z tr,I Z n,B gd,I Z id,S qa ql qc],[S none 0 0,I Z 0,I Z 0,B false,S none 0 0,I Z 0],[I Z fid,S fa fl fc,S ra rl rc,S wa wl wc,I Z bud]]) #[A #[S o p q,I Z r,I Z s,B true,S u v w,I Z x],I Z 0])) #[A #[S none 0 0,I Z 0,I Z 0,B false,S none 0 0,I Z 0],I Z k]))) #[A #[S none 0 0,I Z 0,I Z 0,B false,S none 0 0,I Z 0],I Z 7]) #[A #[S none 0 0,I Z 0,I Z 0,B false,S none 0 0,I Z 0],I Z 0]) #[A #[S none 0 0,I Z 0,I Z 0,B false,S none 0 0,I Z 0],I Z 5]) #[S la ll lc,I Z now,I Z goal,B back,S ka kl kc,I Z nx]) := by kernel_rfl
open Go Go.Proofs
open Go Go.Proofs
open Go Go.Proofs
end Go.Vg
