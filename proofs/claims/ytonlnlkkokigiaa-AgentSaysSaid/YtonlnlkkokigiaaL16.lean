/- THE LAW AgentSays: what is proved here: the statement Rows.AgentSaysSaid. -/
import Derived.Test.YtonlnlkkokigiaaC16
import Derived.Test.YtonlnlkkokigiaaArg10
set_option linter.unusedSimpArgs false
set_option maxRecDepth 100000
set_option linter.unusedVariables false
namespace Go.Proofs.Ytonlnlkkokigiaa.agentSaysLaw
open Go Go.Proofs Go.Vg
open Go.ChangeShapes Go.WideShapes Go.ChangeAt Go.RowKit
theorem lifted (os : Os) (started : os.Started) (HH : Type) (enc : TypeId × Value → HH) :
    ReturnsInHanded {} Try.checked os 16 .any (Rows.agentSaysSpec.pre6 enc Try.prog Try.f16 Rows.agentSaysRow.domain false) (Rows.agentSaysSpec.post enc Try.prog Try.f16 false true false false) := by
  refine returnsInHanded_of_change (C := Try.checked) Tryown started (by kernel_rfl) Try.func16
    (ChangeSpec.witness6 (enc := enc) (C := Try.checked) false ⟨#[], #[(.agg #[.slice none 0 0, i64 0, i64 0, .bool false, i64 0, .slice none 0 0, .bool false]), (.agg #[i64 0, i64 0, i64 0, i64 0, .bool false, i64 0, .slice none 0 0]), (.agg #[.slice none 0 0, i64 0, i64 0, .bool false, i64 0, .slice none 0 0, .bool false])], []⟩ 8 (by kernel_rfl) (by kernel_rfl) (by kernel_rfl) (by kernel_rfl)) ?_
  intro W base args ds gs before hval0 hW hcnd _
  have hval : ∀ (j : Nat) t v, Try.f16.params[j]? = some t → args[j]? = some v → Value.okWide Try.prog W .any base t v := hval0
  have hW' := hW
  obtain ⟨p, q, hA0, hV, rfl, hfz, hnd⟩ := hW
  have hA : DataW.TrodAll enc Try.prog W 0 (fun _ => true) true [86, 95, 86] args.toList ds p := hA0
  obtain ⟨v0, vs0, d0, ds0, p0, q0, hargs, rfl, e0, h0, r0⟩ := trodAll_cons hA
  obtain ⟨v1, vs1, d1, ds1, p1, q1, rfl, rfl, e1, h1, r1⟩ := trodAll_cons r0
  obtain ⟨v2, vs2, d2, ds2, p2, q2, rfl, rfl, e2, h2, r2⟩ := trodAll_cons r1
  obtain ⟨rfl, rfl, _⟩ := trodAll_nil r2
  obtain rfl : args = #[v0, v1, v2] := by cases args; simp_all
  obtain ⟨rfl, rfl⟩ := trodVars_none hV
  obtain ⟨cs0, y0, rfl, x0⟩ := arg_struct Try.underlying86 (hval 0 86 v0 rfl rfl) reads_agt h0
  obtain ⟨ka0, kn0, kc0, ga0, gn0, gc0, rfl, sp0, sg0⟩ := x0
  obtain ⟨cs1, y1, rfl, x1⟩ := arg_struct Try.underlying95 (hval 1 95 v1 rfl rfl) reads_rec h1
  obtain ⟨ra1, rn1, rc1, rfl, sp1⟩ := x1
  obtain ⟨cs2, y2, rfl, x2⟩ := arg_struct Try.underlying86 (hval 2 86 v2 rfl rfl) reads_agt h2
  obtain ⟨ka2, kn2, kc2, ga2, gn2, gc2, rfl, sp2, sg2⟩ := x2
  refine ((cAgentSays (x := y0) (y := y2) (r := y1) sp0 sg0 sp1 sp2 sg2).calls (sees_heapOf W)).mono fun e W' ⟨he, hg⟩ => ?_
  subst he
  exact ⟨_, rfl, post_mine (pv := []) hW' (fun _ _ _ => trodAll_cons_mk (shut_bool Try.underlying4 _) trodAll_mk0) (TrytrodAll hg (by decide) hA) rfl hg⟩
theorem over : Rows.agentSaysRow.holds Try.pinned (OpenSpec.ofChange Rows.agentSaysSpec) :=
  OpenClaim.holds_of_wide 16 Try.f16 rfl rfl rfl rfl rfl rfl rfl ⟨rfl, rfl, rfl, rfl, rfl⟩ rfl rfl rfl rfl rfl (by kernel_rfl) Try.func16 (by unfold joinedFacts; rw [mayEnterT, liftsFinalT, makeT]; kernel_rfl)
    (of_decide_eq_true (by kernel_rfl)) (by unfold Func.isWrapper; first | (rw [if_pos (by decide +kernel)]; kernel_rfl) | (rw [if_neg (by decide +kernel)]; exact ⟨rfl, rfl⟩))
    (fun os started H enc _ => lifted os started H enc)
/-- THE STATEMENT. -/
theorem proved : Rows.AgentSaysSaid := over
#print axioms proved
end Go.Proofs.Ytonlnlkkokigiaa.agentSaysLaw
