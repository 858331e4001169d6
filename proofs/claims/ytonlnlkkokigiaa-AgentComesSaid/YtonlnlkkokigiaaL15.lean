/- THE LAW AgentComes: what is proved here: the statement Rows.AgentComesSaid. -/
import Derived.Test.YtonlnlkkokigiaaC15
import Derived.Test.YtonlnlkkokigiaaArg10
set_option linter.unusedSimpArgs false
set_option maxRecDepth 100000
set_option linter.unusedVariables false
namespace Go.Proofs.Ytonlnlkkokigiaa.agentComesLaw
open Go Go.Proofs Go.Vg
open Go.ChangeShapes Go.WideShapes Go.ChangeAt Go.RowKit
theorem lifted (os : Os) (started : os.Started) (HH : Type) (enc : TypeId × Value → HH) :
    ReturnsInHanded {} Try.checked os 15 .any (Rows.agentComesSpec.pre6 enc Try.prog Try.f15 Rows.agentComesRow.domain false) (Rows.agentComesSpec.post enc Try.prog Try.f15 false true false false) := by
  refine returnsInHanded_of_change (C := Try.checked) Tryown started (by kernel_rfl) Try.func15
    (ChangeSpec.witness6 (enc := enc) (C := Try.checked) false ⟨#[], #[(.agg #[.slice none 0 0, i64 0, i64 0, .bool false, i64 0, .slice none 0 0, .bool false]), (.agg #[i64 0, .slice none 0 0]), (.agg #[i64 0, .slice none 0 0]), i64 0], []⟩ 8 (by kernel_rfl) (by kernel_rfl) (by kernel_rfl) (by kernel_rfl)) ?_
  intro W base args ds gs before hval0 hW hcnd _
  have hval : ∀ (j : Nat) t v, Try.f15.params[j]? = some t → args[j]? = some v → Value.okWide Try.prog W .any base t v := hval0
  have hW' := hW
  obtain ⟨p, q, hA0, hV, rfl, hfz, hnd⟩ := hW
  have hA : DataW.TrodAll enc Try.prog W 0 (fun _ => true) true [86, 59, 59, 3] args.toList ds p := hA0
  obtain ⟨v0, vs0, d0, ds0, p0, q0, hargs, rfl, e0, h0, r0⟩ := trodAll_cons hA
  obtain ⟨v1, vs1, d1, ds1, p1, q1, rfl, rfl, e1, h1, r1⟩ := trodAll_cons r0
  obtain ⟨v2, vs2, d2, ds2, p2, q2, rfl, rfl, e2, h2, r2⟩ := trodAll_cons r1
  obtain ⟨v3, vs3, d3, ds3, p3, q3, rfl, rfl, e3, h3, r3⟩ := trodAll_cons r2
  obtain ⟨rfl, rfl, _⟩ := trodAll_nil r3
  obtain rfl : args = #[v0, v1, v2, v3] := by cases args; simp_all
  obtain ⟨rfl, rfl⟩ := trodVars_none hV
  obtain ⟨cs0, y0, rfl, x0⟩ := arg_struct Try.underlying86 (hval 0 86 v0 rfl rfl) reads_agt h0
  obtain ⟨ka0, kn0, kc0, ga0, gn0, gc0, rfl, sp0, sg0⟩ := x0
  obtain ⟨cs1, y1, rfl, x1⟩ := arg_struct Try.underlying59 (hval 1 59 v1 rfl rfl) reads_rel h1
  obtain ⟨sa1, sn1, sc1, rfl, sp1⟩ := x1
  obtain ⟨cs2, y2, rfl, x2⟩ := arg_struct Try.underlying59 (hval 2 59 v2 rfl rfl) reads_rel h2
  obtain ⟨sa2, sn2, sc2, rfl, sp2⟩ := x2
  obtain ⟨n3, rfl, lo3, hi3⟩ := arg_int Try.underlying3 (hval 3 3 v3 rfl rfl) h3
  refine ((cAgentComes (x := y0) (r := y1) (o := y2) n3 sp0 sg0 sp1 sp2).calls (sees_heapOf W)).mono fun e W' ⟨he, hg⟩ => ?_
  subst he
  exact ⟨_, rfl, post_mine (pv := []) hW' (fun _ _ _ => trodAll_cons_mk (shut_bool Try.underlying4 _) trodAll_mk0) (TrytrodAll hg (by decide) hA) rfl hg⟩
theorem over : Rows.agentComesRow.holds Try.pinned (OpenSpec.ofChange Rows.agentComesSpec) :=
  OpenClaim.holds_of_wide 15 Try.f15 rfl rfl rfl rfl rfl rfl rfl ⟨rfl, rfl, rfl, rfl, rfl⟩ rfl rfl rfl rfl rfl (by kernel_rfl) Try.func15 (by unfold joinedFacts; rw [mayEnterT, liftsFinalT, makeT]; kernel_rfl)
    (of_decide_eq_true (by kernel_rfl)) (by unfold Func.isWrapper; first | (rw [if_pos (by decide +kernel)]; kernel_rfl) | (rw [if_neg (by decide +kernel)]; exact ⟨rfl, rfl⟩))
    (fun os started H enc _ => lifted os started H enc)
/-- THE STATEMENT. -/
theorem proved : Rows.AgentComesSaid := over
#print axioms proved
end Go.Proofs.Ytonlnlkkokigiaa.agentComesLaw
