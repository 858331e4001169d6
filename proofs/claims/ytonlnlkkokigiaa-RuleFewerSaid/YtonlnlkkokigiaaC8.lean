/- What is proved here: the contract of the law RuleFewer. -/
import Derived.Test.YtonlnlkkokigiaaC7
import Derived.Test.YtonlnlkkokigiaaC5
set_option linter.unusedSimpArgs false
set_option maxRecDepth 100000
set_option linter.unusedVariables false
namespace Go.Vg
open Go Go.Proofs
theorem cCloneRules {H : Heap} {a : Option Addr} {l c : Nat} {rs : List Rule} (hr : Rules H a l rs) (hl : l ≤ 100000) : Spec Try.prog 43 [.slice a l c] H fun v H' => ∃ a n c, v = .slice a n c ∧ Fresh H H' 54 4 a n c (rs.flatMap ruleCells) := by
  refine Tryvc Try.func43 (by kernel_rfl) (by kernel_rfl) _ rfl (fun base K => vc43 a l c base H K) fun base hb => ⟨_, eqNil Try.underlying41, fun h => ?_, fun h => ?_⟩
  · obtain rfl : a = none := by cases a <;> simp at h ⊢
    obtain ⟨_, rfl⟩ := hr.addr_nil
    exact ⟨none, 0, 0, rfl, Fresh.zero⟩
  · intro g H1 hN1 _ hg
    obtain ⟨h1, h2, h3⟩ := hr.copied ruleCells_len (fun _ => rfl) hN1.ext
    exact ⟨[], _, Row.zero, h1, h2, h3, by omega, by omega, fun a3 c3 H3 hG hR => ⟨_, _, _, rfl, hR.fresh hb⟩⟩
def gap : List Value → Nat := fun vs => match vs with | [.int _ i, .int _ j] => (j - i).toNat | _ => 0
theorem reverse_of {α : Type} {xs cur : List α} {i j : Int} (hl : cur.length = xs.length) (hij : i + j = xs.length - 1) (hge : ¬ i < j)
    (h : ∀ m : Nat, m < xs.length → cur[m]? = if (m : Int) < i ∨ j < m then xs[xs.length - 1 - m]? else xs[m]?) : cur = xs.reverse := by
  apply List.ext_getElem?
  intro m
  by_cases hm : m < xs.length
  · rw [h m hm, List.getElem?_reverse hm]
    split
    · rfl
    · congr 1; omega
  · rw [List.getElem?_eq_none (by omega), List.getElem?_eq_none (by simp; omega)]
theorem cRuleFewer {H : Heap} {a a' : Option Addr} {l c l' c' : Nat} {xs : List Pin} {rs : List Rule} (hx : Pins H a l xs) (hr : Rules H a' l' rs) (hle : l' ≤ c') (k : Int) :
    Spec Try.prog 8 [.slice a l c, .slice a' l' c', i64 k] H fun v _ => v = .bool true := by
  refine Tryvc Try.func8 (by kernel_rfl) (by kernel_rfl) _ rfl (fun base K => vc8 a a' l c l' c' k base H K) fun base hb => ?_
  refine (cMend hx hr).sl2 fun a1 n1 c1 H1 e1 _ hP1 => cRuled.bool1 fun H2 e2 _ => ⟨fun h => by simp at h, fun _ => ⟨fun h => cRuled.bool1 fun H3 _ _ => rfl, fun h => ?_⟩⟩
  obtain ⟨m, hm⟩ : ∃ m, mended xs rs = .ok m := (mended_cases xs rs).resolve_right (fun h' => h h')
  rw [hm] at hP1
  have hP1 : Pins H1 a1 n1 m := hP1
  have hlen10 : rs.length ≤ 10 := (mended_ok hm).2.1.1
  have hrl := hr.len
  have r2 := (hr.ext' e1).ext' e2
  have P2 := hP1.ext' e2
  refine (cCloneRules r2 (by omega)).mono fun v H3 e3 hv => ?_
  obtain ⟨a6, n2, c2, rfl, hF⟩ := hv
  refine ⟨a6, n2, c2, rfl, fun hN3 => ?_⟩
  have hn2 : rs.length = n2 := row_len ruleCells_len (by omega) (hF.row hN3)
  have hnew : ∀ b, a6 = some ⟨b, 0, none⟩ → c2 ≠ 0 → H2 b = none := by
    rintro b rfl hc
    rcases hF.2.2.2 with ⟨_, h0⟩ | ⟨g, kb, hg, hg2, _⟩
    · exact absurd h0 hc
    · simp only [Option.some.injEq, Addr.mk.injEq, and_true] at hg
      subst hg; exact hg2
  rintro r rfl
  rw [wrap_small (by omega) (by omega)]
  refine ⟨fun vs Hc => ∃ (cur : List Rule) (i j : Int), vs = [i64 i, i64 j] ∧ Row base Hc 54 4 a6 n2 c2 (cur.flatMap ruleCells) ∧ Ext H2 Hc ∧ 0 ≤ i ∧ i + j = rs.length - 1 ∧ cur.length = rs.length ∧
      ∀ m : Nat, m < rs.length → cur[m]? = if (m : Int) < i ∨ j < m then rs[rs.length - 1 - m]? else rs[m]?, gap,
    ⟨rs, 0, _, rfl, hF.row hN3, e3, by omega, by omega, rfl, fun m hm => by rw [if_neg (by omega)]⟩, fun i j H4 hN4 hI => ?_⟩
  obtain ⟨cur, i', j', hvs, hR, e4, hi0, hij, hcl, hcur⟩ := hI
  obtain ⟨rfl, rfl⟩ : i = i' ∧ j = j' := by simpa using hvs
  refine ⟨fun hlt => ?_, fun hge => ?_⟩
  · have hS : Rules H4 a6 n2 cur := sl_of_rowE ruleCells_len (by omega) hR
    refine hS.rule (Ext.refl _) (by omega) (by omega) fun q hq => hS.rule (Ext.refl _) (by omega) (by omega) fun p hp => ?_
    obtain ⟨b, kb, hab, hbase, hc2, hHb, hfree, hsz, _⟩ := hR.block (by omega)
    have hc2' := hR.2.1
    refine ⟨b, 0, hab, by omega, by omega, kb, hHb, hfree, hbase, by rw [hsz]; omega, fun H5 hu => ?_⟩
    have hR5 := hR.upd hab hc2 hHb (o := 0 + i.toNat * 4) (vs := ruleCells q) (by rw [flat_len ruleCells_len, ruleCells_len]; omega) hu
    rw [Nat.zero_add, flat_set ruleCells_len (by omega) (by omega)] at hR5
    obtain ⟨b2, kb2, hab2, hbase2, _, hHb2, hfree2, hsz2, _⟩ := hR5.block (by omega)
    obtain rfl : b = b2 := by rw [hab] at hab2; simpa using hab2
    refine ⟨b, 0, hab, by omega, by omega, kb2, hHb2, hfree2, hbase, by rw [hsz2]; omega, fun H6 hu6 => ?_⟩
    have hR6 := hR5.upd hab hc2 hHb2 (o := 0 + j.toNat * 4) (vs := ruleCells p) (by rw [flat_len ruleCells_len, ruleCells_len, List.length_set]; omega) hu6
    rw [Nat.zero_add, flat_set ruleCells_len (by omega) (by rw [List.length_set]; omega)] at hR6
    rintro r rfl r1 rfl
    rw [wrap_small (by omega) (by omega), wrap_small (by omega) (by omega)]
    have hb2 := hnew b hab hc2
    have keep : Ext H2 H6 := fun x kx hx => by
      have hne : x ≠ b := fun e => by rw [e, hb2] at hx; cases hx
      rw [hu6.there x hne, hu.there x hne]; exact e4 x kx hx
    refine ⟨⟨(cur.set i.toNat q).set j.toNat p, i + 1, j - 1, rfl, hR6, keep, by omega, by omega, by simp [hcl], fun m hm => ?_⟩, by simp [gap]; omega⟩
    have hi := hcur i.toNat (by omega)
    have hj := hcur j.toNat (by omega)
    rw [if_neg (by omega)] at hi hj
    rw [hp] at hi
    rw [hq] at hj
    rw [List.getElem?_set, List.getElem?_set]
    by_cases h1 : j.toNat = m
    · rw [if_pos h1, if_pos (by simp; omega), if_pos (by omega), hi]
      congr 1; omega
    · rw [if_neg h1]
      by_cases h2 : i.toNat = m
      · rw [if_pos h2, if_pos (by omega), if_pos (by omega), hj]
        congr 1; omega
      · rw [if_neg h2, hcur m hm]
        by_cases h3 : (m : Int) < i ∨ j < m
        · rw [if_pos h3, if_pos (by omega)]
        · rw [if_neg h3, if_neg (by omega)]
  · obtain rfl := reverse_of hcl hij hge hcur
    have hS : Rules H4 a6 n2 rs.reverse := sl_of_rowE ruleCells_len (by omega) hR
    have x4 := hx.ext' hN4.ext
    have r4 := hr.ext' hN4.ext
    have P4 := P2.ext' e4
    refine (cMend x4 hS).sl2 fun a7 n7 c7 H7 e7 _ hP7 => ?_
    rw [mends_turned hm] at hP7 ⊢
    refine ⟨fun h => absurd rfl h, fun _ => ?_⟩
    refine (cEqPins (P4.ext' e7) hP7).bool1 fun H8 e8 _ => ⟨fun h => by simp [okL] at h, fun _ => ?_⟩
    rintro r rfl
    rw [wrap_small (by omega) (by omega)]
    refine (cAt k _ (by omega) (by omega)).int1 fun H9 e9 _ => ?_
    have hat := atP_range k (n := (l' : Int) + 1) (by omega)
    refine ⟨hat.1, by omega, ?_⟩
    have r9 := ((r4.ext' e7).ext' e8).ext' e9
    have x9 := ((x4.ext' e7).ext' e8).ext' e9
    have P9 := ((P4.ext' e7).ext' e8).ext' e9
    obtain ⟨f, hf, hfm⟩ := mends_fewer hm (atP k ((l' : Int) + 1)).toNat
    have hsub : Rules H9 a' (atP k ((l' : Int) + 1)).toNat (rs.take (atP k ((l' : Int) + 1)).toNat) := by
      have := r9.sub (l := 0) (m := (atP k ((l' : Int) + 1)).toNat) (a' := a') (by omega) (fun _ => by cases a' <;> simp [Addr.add])
      simpa using this
    refine (cMend x9 hsub).sl2 fun a10 n10 c10 H10 e10 _ hP10 => ?_
    rw [hf] at hP10 ⊢
    refine ⟨fun h => absurd rfl h, fun _ => ?_⟩
    have hP10 : Pins H10 a10 n10 f := hP10
    have hfle := hP10.le
    refine ⟨fun vs Hc => ∃ (b : Bool) (k : Nat), vs = [.bool b, i64 k] ∧ k ≤ n10 ∧ Pins Hc a10 n10 f ∧ Pins Hc a1 n1 m, upTo n10 1, ⟨false, 0, rfl, by omega, hP10, P9.ext' e10⟩, fun b n H' hN hI => ?_⟩
    obtain ⟨b', kk, hvs, hk, hFp, hM⟩ := hI
    obtain ⟨rfl, rfl⟩ : b = b' ∧ n = (kk : Int) := by simpa using hvs
    refine ⟨fun hlt => hFp.pin (Ext.refl _) (by omega) hlt fun p hp => fun _ => ?_, fun hge => ?_⟩
    · have hp' := hfm p (List.mem_of_getElem? hp)
      refine (cFind hM p.name).int1 fun H6 e6 _ => ⟨fun h => absurd h (by omega), fun _ => ?_⟩
      rintro r rfl
      rw [wrap_in (by omega) (by omega)]
      exact ⟨⟨b, kk + 1, rfl, by omega, hFp.ext' e6, hM.ext' e6⟩, by simp [upTo]; omega⟩
    · obtain ⟨s1, s2⟩ := mends_same hm
      refine (cBroken (hx.ext' hN.ext) (hr.ext' hN.ext)).int2 fun H11 e11 _ => ⟨fun _ => ?_, fun h => absurd s1 h⟩
      refine (cEqPins ((hx.ext' hN.ext).ext' e11) (hM.ext' e11)).bool1 fun H12 _ _ => ⟨_, eqBool, ?_⟩
      have e : broken xs rs = brokenFrom xs 0 rs := by rw [broken, if_pos s1]
      rw [e]
      by_cases h : xs = m
      · rw [decide_eq_true h, decide_eq_true (s2.2 h)]; rfl
      · rw [decide_eq_false h, decide_eq_false (fun h' => h (s2.1 h'))]; rfl
end Go.Vg
