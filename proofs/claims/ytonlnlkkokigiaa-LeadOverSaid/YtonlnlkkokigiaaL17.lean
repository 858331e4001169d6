/- THE LAW LeadOver: what is proved here: the statement Rows.LeadOverSaid. -/
import Derived.Test.YtonlnlkkokigiaaCL10
import Derived.Test.YtonlnlkkokigiaaArg7
set_option linter.unusedSimpArgs false
set_option maxRecDepth 100000
set_option linter.unusedVariables false
namespace Go.Proofs.Ytonlnlkkokigiaa.leadOverLaw
open Go Go.Proofs Go.Vg
open Go.ChangeShapes Go.WideShapes Go.ChangeAt Go.RowKit
theorem lifted (os : Os) (started : os.Started) (HH : Type) (enc : TypeId × Value → HH) :
    ReturnsInHanded {} Try.checked os 17 .any (Rows.leadOverSpec.pre6 enc Try.prog Try.f17 Rows.leadOverRow.domain false) (Rows.leadOverSpec.post enc Try.prog Try.f17 false true false false) := by
  refine returnsInHanded_of_change (C := Try.checked) Tryown started (by kernel_rfl) Try.func17
    (ChangeSpec.witness6 (enc := enc) (C := Try.checked) false ⟨#[], #[(.agg #[i64 0, .slice none 0 0, .slice none 0 0, .slice none 0 0, i64 0]), (.agg #[.slice none 0 0, i64 0, i64 0, .bool false, .slice none 0 0, i64 0])], []⟩ 8 (by kernel_rfl) (by kernel_rfl) (by kernel_rfl) (by kernel_rfl)) ?_
  intro W base args ds gs before hval0 hW hcnd _
  have hval : ∀ (j : Nat) t v, Try.f17.params[j]? = some t → args[j]? = some v → Value.okWide Try.prog W .any base t v := hval0
  have hW' := hW
  obtain ⟨p, q, hA0, hV, rfl, hfz, hnd⟩ := hW
  have hA : DataW.TrodAll enc Try.prog W 0 (fun _ => true) true [101, 105] args.toList ds p := hA0
  obtain ⟨v0, vs0, d0, ds0, p0, q0, hargs, rfl, e0, h0, r0⟩ := trodAll_cons hA
  obtain ⟨v1, vs1, d1, ds1, p1, q1, rfl, rfl, e1, h1, r1⟩ := trodAll_cons r0
  obtain ⟨rfl, rfl, _⟩ := trodAll_nil r1
  obtain rfl : args = #[v0, v1] := by cases args; simp_all
  obtain ⟨rfl, rfl⟩ := trodVars_none hV
  obtain ⟨cs0, y0, rfl, x0⟩ := arg_struct Try.underlying101 (hval 0 101 v0 rfl rfl) reads_conf h0
  obtain ⟨fa0, fn0, fc0, ra0, rn0, rc0, wa0, wn0, wc0, rfl, sc0⟩ := x0
  obtain ⟨cs1, y1, rfl, x1⟩ := arg_struct Try.underlying105 (hval 1 105 v1 rfl rfl) reads_ldr h1
  obtain ⟨la1, ln1, lc1, ka1, kn1, kc1, rfl, sl1⟩ := x1
  refine ((cLeadOver (c := y0) (l := y1) sc0 sl1).calls (sees_heapOf W)).mono fun e W' ⟨he, hg⟩ => ?_
  subst he
  exact ⟨_, rfl, post_mine (pv := []) hW' (fun _ _ _ => trodAll_cons_mk (shut_bool Try.underlying4 _) trodAll_mk0) (TrytrodAll hg (by decide) hA) rfl hg⟩
theorem over : Rows.leadOverRow.holds Try.pinned (OpenSpec.ofChange Rows.leadOverSpec) :=
  OpenClaim.holds_of_wide 17 Try.f17 rfl rfl rfl rfl rfl rfl rfl ⟨rfl, rfl, rfl, rfl, rfl⟩ rfl rfl rfl rfl rfl (by kernel_rfl) Try.func17 (by unfold joinedFacts; rw [mayEnterT, liftsFinalT, makeT]; kernel_rfl)
    (of_decide_eq_true (by kernel_rfl)) (by unfold Func.isWrapper; first | (rw [if_pos (by decide +kernel)]; kernel_rfl) | (rw [if_neg (by decide +kernel)]; exact ⟨rfl, rfl⟩))
    (fun os started H enc _ => lifted os started H enc)
/-- THE STATEMENT. -/
theorem proved : Rows.LeadOverSaid := over
#print axioms proved
end Go.Proofs.Ytonlnlkkokigiaa.leadOverLaw
