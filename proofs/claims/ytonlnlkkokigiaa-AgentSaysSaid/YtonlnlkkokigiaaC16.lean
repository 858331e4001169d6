/- What is proved here: the contract of the law AgentSays. -/
import Derived.Test.YtonlnlkkokigiaaC6
import Derived.Test.YtonlnlkkokigiaaV16
set_option linter.unusedSimpArgs false
set_option maxRecDepth 100000
set_option linter.unusedVariables false
namespace Go.Vg
open Go Go.Proofs
theorem left_of {x : Agt} (h : agtErr x = 0 ∧ x.going = true) : diffErr x.lock x.goal.lock = 0 ∧ (if agtErr x = 0 then agtLeft x else []) = diffs x.lock x.goal.lock := by
  refine ⟨diffErr_zero.2 ⟨(agtErr_zero h.1).1, agt_goal h.1⟩, ?_⟩
  rw [if_pos h.1, agtLeft, if_pos h.2]
theorem left_no {x : Agt} (h : ¬ (agtErr x = 0 ∧ x.going = true)) : (if agtErr x = 0 then agtLeft x else []) = [] := by
  by_cases h0 : agtErr x = 0
  · rw [if_pos h0, agtLeft, if_neg (fun q => h ⟨h0, q⟩)]
  · rw [if_neg h0]
theorem cAgentSays {H : Heap} {a ga ra ba bga : Option Addr} {l c gl gc rl rc bl bc bgl bgc : Nat} {x y : Agt} {r : Recd} (hp : Pins H a l x.lock) (hg : Pins H ga gl x.goal.lock) (hr : Pins H ra rl r.rel.lock) (hq : Pins H ba bl y.lock) (hqg : Pins H bga bgl y.goal.lock) :
    Spec Try.prog 16 [agtArg x a l c ga gl gc, recArg r ra rl rc, agtArg y ba bl bc bga bgl bgc] H fun v _ => v = .bool true := by
  refine TryvcJ Try.func16 (by kernel_rfl) (by kernel_rfl) _ rfl (fun base K => vc16 a ga ra ba bga l c gl gc rl rc bl bc bgl bgc x.at_ x.try_ x.goal.id r.kind r.agent r.try_ r.num r.rel.id y.at_ y.try_ y.goal.id x.going x.good r.good y.going y.good base H K) fun base hb => ?_
  intro b b1 b2
  refine (cNew (r := r.rel) hr).agt fun a1 n1 c1 ga1 gn1 gc1 H1 e1 _ p1 g1 => fun b5 => ?_
  refine (cNext (hp.ext' e1) (hg.ext' e1) (hr.ext' e1)).agt fun a2 n2 c2 ga2 gn2 gc2 H2 e2 _ p2 g2 => fun b8 => ?_
  have E2 := Ext.trans e1 e2
  refine (cLeft (hp.ext' E2) (hg.ext' E2)).sl2 fun a3 n3 c3 H3 e3 _ hD => ?_
  have E3 := Ext.trans E2 e3
  refine (cRefNext (hp.ext' E3) (hg.ext' E3) (hr.ext' E3)).agt fun a4 n4 c4 ga4 gn4 gc4 H4 e4 _ p4 g4 => fun b11 => ?_
  have E4 := Ext.trans E3 e4
  refine (cRefAgtCheck (hp.ext' E4) (hg.ext' E4)).int1 fun H5 e5 _ => ?_
  have E5 := Ext.trans E4 e5
  refine (cRefRelease (hr.ext' E5) r.rel.id).int1 fun H6 e6 _ => fun b12 => ?_
  have E6 := Ext.trans E5 e6
  have F1 : Ext H1 H6 := (((e2.trans e3).trans e4).trans e5).trans e6
  have F2 : Ext H2 H6 := ((e3.trans e4).trans e5).trans e6
  have F3 : Ext H3 H6 := (e4.trans e5).trans e6
  have F4 : Ext H4 H6 := e5.trans e6
  have hrel : (⟨r.rel.id, r.rel.lock⟩ : Rls) = r.rel := rfl
  refine ⟨fun h22 => ?_, fun h22 => ?_⟩
  all_goals
    refine ⟨agtErr x = 0 ∧ x.going = true, ⟨fun h => ⟨rfl, fun _ _ h => h, by simp [h]⟩, fun h => ⟨rfl, fun _ _ h => h, by simp [h]⟩⟩, fun hφ => (cSteps (hp.ext' E6) (hg.ext' E6)).sl2 fun a7 n7 c7 H7 e7 _ hT => ?_, fun hφ => ?_⟩
  all_goals
    refine cGone.bool1 fun H8 e8 _ => ⟨fun _ => ?_, fun h => (by cases h)⟩
    first
    | have E8 := (E6.trans e7).trans e8
      have e68 := e7.trans e8
      have hT := hT.2
      rw [if_pos (left_of hφ).1] at hT
      have hLL := (left_of hφ).2
      have hTT := hT.ext' e8
    | have E8 := E6.trans e8
      have e68 := e8
      have hLL := left_no hφ
      have hTT : Steps H8 none 0 [] := Sl.nil
    refine (cAgtCheck (hp.ext' E8) (hg.ext' E8)).int1 fun H9 e9 _ => ⟨fun _ => ?_, fun h => absurd rfl h⟩
    have E9 := E8.trans e9
    refine (cAgtSame (hp.ext' E9) (hg.ext' E9) (hq.ext' E9) (hqg.ext' E9)).bool1 fun H10 e10 _ => ?_
    have E10 := E9.trans e10
    refine (cRefAgtSame (hp.ext' E10) (hg.ext' E10) (hq.ext' E10) (hqg.ext' E10)).bool1 fun H11 e11 _ => ?_
    have E11 := E10.trans e11
    have e611 := ((e68.trans e9).trans e10).trans e11
    refine ⟨_, eqBool, fun _ => ⟨fun _ => ?_, fun h => absurd rfl h⟩, fun h => absurd (by simp) h⟩
    first
    | rw [if_pos (show relErr r.rel = 0 from h22)] at p1 g1 ⊢
      have hfr : Pins H11 ra rl (newAgt r.rel).lock := hr.ext' E11
      refine (cRefAgtSame (x := newAgt r.rel) (y := newAgt r.rel) (p1.ext' (F1.trans e611)) (g1.ext' (F1.trans e611)) hfr Sl.nil).bool1 fun H12 e12 _ => ⟨fun _ => ⟨fun _ => ?_, fun h => absurd rfl h⟩, fun h => (by simp at h)⟩
    | rw [if_neg (show ¬ relErr r.rel = 0 from h22)] at p1 g1 ⊢
      refine (cRefAgtSame (x := noAgt) (y := noAgt) (p1.ext' (F1.trans e611)) (g1.ext' (F1.trans e611)) Sl.nil Sl.nil).bool1 fun H12 e12 _ => ⟨fun _ => ⟨fun _ => ?_, fun h => absurd rfl h⟩, fun h => (by simp at h)⟩
    have e612 := e611.trans e12
    have hD6 := hD.ext' (F3.trans e612)
    rw [hLL] at hD6
    refine (cEqSteps hD6 (hTT.ext' (((e9.trans e10).trans e11).trans e12))).bool1 fun H13 e13 _ => ⟨fun _ => ⟨fun _ => ?_, fun h => absurd rfl h⟩, fun h => (by simp at h)⟩
    have e613 := e612.trans e13
    refine (cRefAgtSame (p2.ext' (F2.trans e613)) (g2.ext' (F2.trans e613)) (p4.ext' (F4.trans e613)) (g4.ext' (F4.trans e613))).bool1 fun H14 e14 _ => ?_
    simp
end Go.Vg
