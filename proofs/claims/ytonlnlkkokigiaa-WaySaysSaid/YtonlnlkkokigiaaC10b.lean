/- What is proved here: the contracts of way.Copy, Send, Take, Same. -/
import Derived.Test.YtonlnlkkokigiaaC10
set_option linter.unusedSimpArgs false
set_option maxRecDepth 100000
set_option linter.unusedVariables false
namespace Go.Vg
open Go Go.Proofs
theorem cCloneMails {H : Heap} {a : Option Addr} {l c : Nat} {ms : List Mail} (hx : Mails H a l ms) (hl : l ≤ 100000) : Spec Try.prog 52 [.slice a l c] H fun v H' => ∃ a n c rs, v = .slice a n c ∧ Fresh H H' 61 6 a n c rs.flatten ∧ (∀ r ∈ rs, r.length = 6) ∧ AllR RMail H rs ms := by
  refine TryvcJ Try.func52 (by kernel_rfl) (by kernel_rfl) _ rfl (fun base K => vc52 a l c base H K) fun base hb => ⟨_, eqNil Try.underlying57, fun h => ?_, fun h => ?_⟩
  · obtain rfl : a = none := by cases a <;> simp at h ⊢
    obtain ⟨_, rfl⟩ := hx.addr_nil
    exact ⟨none, 0, 0, [], rfl, Fresh.zero, by simp, trivial⟩
  · intro g H1 hN1 _ hg
    obtain ⟨rs, h1, h2, h3, h4⟩ := hx.rows RMail.len
    exact ⟨[], _, Row.zero, h3, allOne_rows RMail.one h2, h4.imp id (fun ⟨b, o, hb, hc⟩ => ⟨b, o, hb, cellsAt_ext hN1.ext hc⟩), by omega, by omega, fun a3 c3 H3 hG hR => ⟨_, _, _, rs, rfl, hR.fresh hb, h1, h2⟩⟩
theorem Row.at {base : Nat} {H : Heap} {e : TypeId} {sz n c i : Nat} {a : Option Addr} {L : List (List Value)} {r : List Value} (h : Row base H e sz a n c L.flatten) (hw : ∀ r ∈ L, r.length = sz) (hn : L.length = n) (hr : L[i]? = some r) :
    ∃ b : Nat, a = some ⟨b, 0, none⟩ ∧ ∀ (j : Nat) (v : Value), r[j]? = some v → H.cell b (0 + i * sz + j) = some v := by
  have hi : i < n := by have := (List.getElem?_eq_some_iff.1 hr).1; omega
  obtain ⟨b, o, r', ha, hr', hc⟩ := (has_of_row h rfl hw hn).get hi
  rw [hr] at hr'
  obtain rfl := Option.some.inj hr'
  obtain ⟨b', _, hb', _⟩ := h.block (by omega)
  rw [ha] at hb'
  simp at hb'
  obtain ⟨rfl, rfl⟩ := hb'
  exact ⟨b, ha, hc⟩
theorem cCopy {H : Heap} {a : Option Addr} {l c : Nat} {ms : List Mail} (hx : Mails H a l ms) (hl : l ≤ 100000) (hk : ∀ m ∈ ms, m.rel.lock.length ≤ 100000) : Spec Try.prog 115 [.slice a l c] H fun v H' => ∃ a n c G rs, v = .slice a n c ∧ NewSl RMail 6 61 H G H' a n c rs ms := by
  refine TryvcJ Try.func115 (by kernel_rfl) (by kernel_rfl) _ rfl (fun base K => vc115 a l c base H K) fun base hb => ?_
  have hml := hx.len
  refine (cCloneMails hx hl).mono fun v H1 e1 hv => ?_
  obtain ⟨a1, n1, c1, rs, rfl, hF, hw, hA⟩ := hv
  refine ⟨a1, n1, c1, rfl, fun hN1 => ?_⟩
  have hR := hF.row hN1
  have hrl : rs.length = n1 := by
    have := hR.1
    rw [flat_wid hw] at this
    omega
  have hrm := hA.len
  have hclear : c1 ≠ 0 → ∀ g, a1 = some ⟨g, 0, none⟩ → H g = none := fun hc g hg => by
    rcases hF.2.2.2 with ⟨_, h0⟩ | ⟨g', k, h1, h2, _⟩
    · exact absurd h0 hc
    · rw [hg] at h1; simp at h1; subst h1; exact h2
  refine ⟨fun vs Hc => ∃ (i : Nat) (r1 : List (List Value)) (G : Heap), vs = [i64 i] ∧ i ≤ n1 ∧ r1.length = i ∧ (∀ r ∈ r1, r.length = 6) ∧ Row base Hc 61 6 a1 n1 c1 (r1 ++ rs.drop i).flatten ∧ AllR RMail G r1 (ms.take i) ∧ Away H G ∧ Ext G Hc ∧ (c1 ≠ 0 → ∀ g, a1 = some ⟨g, 0, none⟩ → G g = none),
    upTo n1 0, ⟨0, [], fun _ => none, rfl, by omega, rfl, by simp, hR, by simp [AllR], fun _ _ h => (by cases h), fun _ _ h => (by cases h), fun _ _ _ => rfl⟩, fun m H2 hN2 hI => ?_⟩
  obtain ⟨i, r1, G, hvs, hi, hr1, hw1, hR2, hA2, haw, hsub, hcl⟩ := hI
  obtain rfl : m = (i : Int) := by simpa using hvs
  refine ⟨fun hlt => ?_, fun hge => ?_⟩
  · have hri : rs[i]? = some (rs[i]'(by omega)) := List.getElem?_eq_getElem (by omega)
    have hmi : ms[i]? = some (ms[i]'(by omega)) := List.getElem?_eq_getElem (by omega)
    generalize hrr : rs[i]'(by omega) = r at hri
    generalize hmm : ms[i]'(by omega) = m at hmi
    obtain ⟨la, ln, lc, rfl, hp⟩ := hA.get hri hmi
    have hpl := hp.len
    have hkm := hk m (List.mem_of_getElem? hmi)
    have hwL : ∀ r ∈ r1 ++ rs.drop i, r.length = 6 := fun r hr => by
      rcases List.mem_append.1 hr with hr | hr
      · exact hw1 r hr
      · exact hw r (List.mem_of_mem_drop hr)
    have hat : (r1 ++ rs.drop i)[i]? = some (mailVal m la ln lc) := by
      rw [List.getElem?_append_right (by omega), hr1, Nat.sub_self, List.getElem?_drop, Nat.add_zero]; exact hri
    obtain ⟨b, hab, hcell⟩ := hR2.at hwL (by simp; omega) hat
    have hd := drop_at hri
    refine ⟨b, 0, hab, by omega, hlt, _, _, _, _, _, _, _, _, ⟨hcell 0 _ rfl, hcell 1 _ rfl, hcell 2 _ rfl, hcell 3 _ rfl, hcell 4 _ rfl, hcell 5 _ rfl, trivial⟩, fun b2 => ?_⟩
    refine (cCloneJ (hp.ext' hN2.ext) (by omega)).mono fun v H3 e3 hv => ?_
    obtain ⟨a6, n6, c6, rfl, hF6⟩ := hv
    refine ⟨a6, n6, c6, rfl, fun hN3 => ?_⟩
    obtain ⟨b3, k3, hb3, hbase, hc1, hH2, hf3, hs3, _⟩ := hR2.block (by omega)
    obtain rfl : b = b3 := by rw [hab] at hb3; simpa using hb3
    have hnc := hR2.2.1
    refine ⟨b, 0, hab, by omega, hlt, k3, e3 _ _ hH2, hf3, hbase, by rw [hs3, Int.toNat_natCast]; omega, fun H4 hu => ?_⟩
    rintro r rfl
    rw [wrap_in (by omega) (by omega)]
    rw [Int.toNat_natCast] at hu
    have hR4 := (hR2.ext e3).upd hab hc1 (e3 _ _ hH2) (o := 0 + i * 6 + 4 + 1) (vs := [.slice a6 n6 c6]) (by rw [hR2.1]; show 0 + i * 6 + 4 + 1 + 1 ≤ n1 * 6; omega) hu
    rw [hd, show 0 + i * 6 + 4 + 1 = r1.length * 6 + 5 from by omega, rows_set hw1 rfl (by simp)] at hR4
    have hnew : RMail (G.plus (newOf H2 H3)) (setRange (mailVal m la ln lc) 5 [.slice a6 n6 c6]) m := ⟨a6, n6, c6, rfl, Sl.ext REnc.mono (hF6.sl_new pinCells_len (by omega)) (new_in_grow hsub)⟩
    have hGb : (G.plus (newOf H2 H3)) b = none := by
      unfold Heap.plus newOf
      rw [hcl hc1 b hab, hH2]
    refine ⟨⟨i + 1, r1 ++ [setRange (mailVal m la ln lc) 5 [.slice a6 n6 c6]], G.plus (newOf H2 H3), rfl, by omega, by simp [hr1], fun r hr => ?_, by simpa using hR4, ?_, ?_, fun x k hx => ?_, fun _ g hg => ?_⟩, by simp [upTo]; omega⟩
    · rcases List.mem_append.1 hr with hr | hr
      · exact hw1 r hr
      · simp at hr; subst hr; rfl
    · rw [take_at hmi]
      exact AllR.append (AllR.one hnew) (hA2.mono RMail.mono plus_left)
    · exact plus_away haw (newOf_away.sub hN2.ext)
    · have hne : x ≠ b := fun e => by rw [e, hGb] at hx; cases hx
      rw [hu.there x hne]
      exact plus_sub (hsub.trans e3) newOf_ext x k hx
    · rw [hab] at hg; simp at hg; subst hg; exact hGb
  · obtain rfl : i = n1 := by omega
    rw [List.drop_eq_nil_of_le (by omega), List.append_nil] at hR2
    rw [List.take_of_length_le (by omega)] at hA2
    exact ⟨_, _, _, G, r1, rfl, OwnSl.new ⟨hR2, hw1, hA2, hsub, hcl⟩ hb haw⟩
/-! ### way.Send -/
theorem cSend {H : Heap} {a a' : Option Addr} {l c l' c' : Nat} {ms : List Mail} (hx : Mails H a l ms) (m : Mail) (hp : Pins H a' l' m.rel.lock) :
    Spec Try.prog 45 [.slice a l c, .agg #[.int .i64 m.agent, .int .i64 m.try_, .bool m.rep, .bool m.good, .int .i64 m.rel.id, .slice a' l' c']] H fun v H' => ∃ a n c, v = .tuple #[.slice a n c, i64 (sendErr ms m)] ∧ n ≤ c ∧ Mails H' a n (if sendErr ms m = 0 then sent ms m else []) := by
  refine TryvcJ Try.func45 (by kernel_rfl) (by kernel_rfl) _ rfl (fun base K => vc45 a a' l c l' c' m.agent m.try_ m.rel.id m.rep m.good base H K) fun base hb => ?_
  intro b g H1 hN1 _ hg
  have hml := hx.len
  have bx : Mails H1 (some ⟨g, 0, none⟩) 1 [m] := mail_box (m := m) hg (hp.ext' hN1.ext)
  refine ⟨fun vs Hc => ∃ (a4 : Option Addr) (n4 c4 : Nat) (d : Int) (k : Nat), vs = [.slice a4 n4 c4, i64 d, i64 k] ∧ k ≤ 2 ∧ (0 < k → mailsCheck ms = 0) ∧ (1 < k → mailsCheck [m] = 0) ∧ Ext H1 Hc, upTo 2 2, ⟨none, 0, 0, 0, 0, rfl, by omega, by omega, by omega, Ext.refl _⟩, fun a4 n4 c4 d n H' hN hI => ?_⟩
  obtain ⟨a4', n4', c4', d', k, hvs, hk, hk0, hk1, he⟩ := hI
  obtain ⟨⟨rfl, rfl, rfl⟩, rfl, rfl⟩ : (a4 = a4' ∧ n4 = n4' ∧ c4 = c4') ∧ d = d' ∧ n = (k : Int) := by simpa using hvs
  refine ⟨fun hlt => ⟨by omega, hlt, ?_⟩, fun hge => ?_⟩
  · by_cases k0 : k = 0
    · subst k0
      refine ⟨a, l, c, rfl, (cWayCheck (hx.ext' hN.ext)).int1 fun H2 e2 _ => ⟨fun h => ?_, fun h => ?_⟩⟩
      · have e : sendErr ms m = mailsCheck ms := by rw [sendErr, if_neg h]
        rw [e, if_neg h]
        exact ⟨none, 0, 0, rfl, by omega, Sl.nil⟩
      · rintro r rfl
        rw [wrap_small (by omega) (by omega)]
        exact ⟨rfl, ⟨_, _, _, _, 1, rfl, by omega, fun _ => Decidable.not_not.1 h, by omega, he.trans e2⟩, by simp [upTo]⟩
    · obtain rfl : k = 1 := by omega
      refine ⟨some ⟨g, 0, none⟩, 1, 1, rfl, (cWayCheck (bx.ext' he)).int1 fun H2 e2 _ => ⟨fun h => ?_, fun h => ?_⟩⟩
      · have e : sendErr ms m = mailsCheck [m] := by rw [sendErr, if_pos (hk0 (by omega))]
        rw [e, if_neg h]
        exact ⟨none, 0, 0, rfl, by omega, Sl.nil⟩
      · rintro r rfl
        rw [wrap_small (by omega) (by omega)]
        exact ⟨rfl, ⟨_, _, _, _, 2, rfl, by omega, fun _ => hk0 (by omega), fun _ => Decidable.not_not.1 h, he.trans e2⟩, by simp [upTo]⟩
  obtain rfl : k = 2 := by omega
  have hE : sendErr ms m = 0 := by rw [sendErr, if_pos (hk0 (by omega))]; exact hk1 (by omega)
  obtain ⟨h40, hlk⟩ := mailsCheck_zero (hk0 (by omega))
  obtain ⟨_, hlk1⟩ := mailsCheck_zero (hk1 (by omega))
  rw [hE, if_pos rfl]
  refine (cCopy (hx.ext' hN.ext) (by omega) (fun m hm => by have := hlk m hm; omega)).mono fun v H3 e3 hv => ?_
  obtain ⟨a5, n5, c5, G, rs, rfl, hNew⟩ := hv
  refine ⟨a5, n5, c5, rfl, fun hN3 => ?_⟩
  have hO := hNew.own hN3
  obtain ⟨_, hn5⟩ := hO.rlen (by omega)
  refine ⟨fun hlt => ?_, fun hge => ?_⟩
  · intro g2 H4 hN4 hg2n hg2
    have bx2 : Mails H4 (some ⟨g2, 0, none⟩) 1 [m] := mail_box (m := m) hg2 (((hp.ext' hN.ext).ext' e3).ext' hN4.ext)
    refine (cCopy bx2 (by omega) (fun x hx => by have := hlk1 x hx; omega)).mono fun v H5 e5 hv => ?_
    obtain ⟨a6, n6, c6, G', rs', rfl, hNew'⟩ := hv
    refine ⟨a6, n6, c6, rfl, fun hN5 => ?_⟩
    have hO' := hNew'.own hN5
    obtain ⟨hr6, hn6⟩ := hO'.rlen (by omega)
    have e45 : Ext H3 H5 := Ext.trans hN4.ext e5
    have hOg := hO.grow RMail.mono e45
    obtain ⟨rs6, q1, q2, q3, q4⟩ := (hO'.sl RMail.mono (by omega)).rows RMail.len
    have hcells : n6 = 0 ∨ ∃ (b : Nat) (o : Nat), a6 = some ⟨b, o, none⟩ ∧ cellsAt H5 b o 0 rs'.flatten := by
      by_cases h0 : n6 = 0
      · exact .inl h0
      · obtain ⟨b6, k6, hb6, _⟩ := hO'.row.block (by omega)
        have := hO'.row
        rw [hb6] at this
        exact .inr ⟨b6, 0, hb6, by simpa using this.cellsAt (k := 0) (by omega) (by omega)⟩
    simp at hn6
    refine ⟨rs.flatten, rs'.flatten, hOg.row, by rw [flat_wid hNew'.wid, hr6], allOne_rows RMail.one hNew'.all, hcells, by omega, by omega, fun a7 c7 H7 hG hR7 => ?_⟩
    have hall : AllR RMail (G.plus (newOf H3 H5)) rs' [m] := hNew'.all_new RMail.mono |>.mono RMail.mono ((newOf_mono hN4.ext).trans (new_in_grow hO.sub))
    have hOf := hOg.grew hG hR7 hNew'.wid hall
    refine ⟨_, _, _, rfl, hOf.row.2.1, ?_⟩
    rw [sent, if_pos (by omega)]
    exact hOf.sl RMail.mono (by omega)
  · refine ⟨_, _, _, rfl, hO.row.2.1, ?_⟩
    rw [sent, if_neg (by omega)]
    exact hO.sl RMail.mono (by omega)
/-! ### way.Take -/
theorem cTake {H : Heap} {a : Option Addr} {l c : Nat} {ms : List Mail} (hx : Mails H a l ms) (k : Int) (tw : Bool) :
    Spec Try.prog 48 [.slice a l c, .int .i64 k, .bool tw] H fun v H' => ∃ a n c la ln lc, v = .tuple #[.slice a n c, .agg (mailVal (if takeErr ms k = 0 then took ms k else noMail) la ln lc).toArray, i64 (takeErr ms k)] ∧ Mails H' a n (if takeErr ms k = 0 then left ms k tw else []) ∧ Pins H' la ln (if takeErr ms k = 0 then took ms k else noMail).rel.lock := by
  refine TryvcJ Try.func48 (by kernel_rfl) (by kernel_rfl) _ rfl (fun base K => vc48 a l c k tw base H K) fun base hb => ?_
  intro b
  have hml := hx.len
  refine (cWayCheck hx).int1 fun H1 e1 hN1 => ⟨fun h => ?_, fun h => ?_⟩
  · have e : takeErr ms k = mailsCheck ms := by rw [takeErr, if_neg h]
    rw [e, if_neg h, if_neg h]
    exact ⟨none, 0, 0, none, 0, 0, rfl, Sl.nil, Sl.nil⟩
  have h := Decidable.not_not.1 h
  obtain ⟨h40, hlk⟩ := mailsCheck_zero h
  refine ⟨k < 0 ∨ (l : Int) ≤ k, ⟨fun _ => ⟨rfl, fun _ _ h => h, by omega⟩, fun _ => ⟨rfl, fun _ _ h => h, by omega⟩⟩, fun hk => ?_, fun hk => ?_⟩
  · have e : takeErr ms k = 5 := by rw [takeErr, if_pos h, if_pos (by omega)]
    rw [e, if_neg (by omega), if_neg (by omega)]
    exact ⟨none, 0, 0, none, 0, 0, rfl, Sl.nil, Sl.nil⟩
  have hE : takeErr ms k = 0 := by rw [takeErr, if_pos h, if_neg (by omega)]
  rw [hE, if_pos rfl, if_pos rfl]
  refine (cCopy (hx.ext' e1) (by omega) (fun m hm => by have := hlk m hm; omega)).mono fun v H3 e3 hv => ?_
  obtain ⟨a5, n5, c5, G, rs, rfl, hNew⟩ := hv
  refine ⟨a5, n5, c5, rfl, fun hN3 => ?_⟩
  have hO := hNew.own hN3
  obtain ⟨hr5, hn5⟩ := hO.rlen (by omega)
  have hnc := hO.row.2.1
  have hmk : ms[k.toNat]? = some (took ms k) := by
    rw [took, List.getD_eq_getElem?_getD, List.getElem?_eq_getElem (by omega)]; rfl
  rintro r rfl
  rw [wrap_small (by omega) (by omega)]
  refine ⟨by omega, by omega, by omega, fun a6 ha6 => ?_⟩
  have hS3 := hO.sl RMail.mono (by omega)
  have hone : Mails H3 a6 1 [took ms k] := by
    have := hS3.sub (l := k.toNat) (m := 1) (a' := a6) (by omega) (fun _ => ha6 (by omega))
    have e : (ms.drop k.toNat).take 1 = [took ms k] := by rw [drop_at hmk]; rfl
    rw [e] at this
    exact this
  rw [show Int.toNat (k + 1) - Int.toNat k = 1 from by omega]
  refine (cCopy hone (by omega) (fun m hm => by simp at hm; subst hm; have := hlk _ (List.mem_of_getElem? hmk); omega)).mono fun v H4 e4 hv => ?_
  obtain ⟨a7, n7, c7, G', rs', rfl, hNew'⟩ := hv
  refine ⟨a7, n7, c7, rfl, fun hN4 => ?_⟩
  have hO' := hNew'.own hN4
  obtain ⟨hr7, hn7⟩ := hO'.rlen (by omega)
  simp at hn7
  obtain ⟨r', rfl⟩ : ∃ r', rs' = [r'] := List.length_eq_one_iff.1 (by omega)
  obtain ⟨⟨la, ln, lc, rfl, hp⟩, _⟩ := hO'.all
  obtain ⟨b7, hb7, hcell⟩ := hO'.row.at hO'.wid hr7 (i := 0) rfl
  have hpA := hp.ext' hO'.sub
  refine ⟨b7, 0, hb7, by decide, by omega, _, _, _, _, _, _, _, _, ⟨hcell 0 _ rfl, hcell 1 _ rfl, hcell 2 _ rfl, hcell 3 _ rfl, hcell 4 _ rfl, hcell 5 _ rfl, trivial⟩, fun b2 => ?_⟩
  have hOg := hO.grow RMail.mono e4
  refine ⟨fun ht => ?_, fun ht => ?_⟩
  · rintro r rfl
    refine ⟨rs.flatten, k.toNat, k.toNat + 1, by omega, by omega, by omega, by omega, by omega, hOg.row, allOne_rows RMail.one hNew.all, fun H5 hG hR5 => ?_⟩
    rw [flat_takeR k.toNat hNew.wid, flat_dropR (k.toNat + 1) hNew.wid, ← List.flatten_append] at hR5
    have hOf := hOg.regrew hG hR5 (fun r hr => by
      rcases List.mem_append.1 hr with hr | hr
      · exact hNew.wid r (List.mem_of_mem_take hr)
      · exact hNew.wid r (List.mem_of_mem_drop hr)) (AllR.append (hOg.all.drop (k.toNat + 1)) (hOg.all.take k.toNat))
    refine ⟨_, _, _, la, ln, lc, rfl, ?_, hp.ext' fun x kx hx => ?_⟩
    · rw [left, if_neg (by simp [ht])]
      exact hOf.sl RMail.mono (by omega)
    · refine hG.keep x kx (hO'.sub x kx hx) ?_
      by_cases hc : c5 = 0
      · exact .inl hc
      · refine .inr fun ha => ?_
        obtain ⟨g, kg, hg1, hg2⟩ := hO.block hc
        rw [ha] at hg1
        obtain rfl : x = g := by simpa using hg1
        have := hNew'.away x kx hx
        rw [hg2] at this; cases this
  · refine ⟨_, _, _, la, ln, lc, rfl, ?_, hpA⟩
    rw [left, if_pos (by simpa using ht)]
    exact hOg.sl RMail.mono (by omega)
end Go.Vg
