/- THE LAW LeadSays: what is proved here: the statement Rows.LeadSaysSaid. -/
import Derived.Test.YtonlnlkkokigiaaCL9
import Derived.Test.YtonlnlkkokigiaaArg7
set_option linter.unusedSimpArgs false
set_option maxRecDepth 100000
set_option linter.unusedVariables false
namespace Go.Proofs.Ytonlnlkkokigiaa.leadSaysLaw
open Go Go.Proofs Go.Vg
open Go.ChangeShapes Go.WideShapes Go.ChangeAt Go.RowKit
theorem lifted (os : Os) (started : os.Started) (HH : Type) (enc : TypeId × Value → HH) :
    ReturnsInHanded {} Try.checked os 21 .any (Rows.leadSaysSpec.pre6 enc Try.prog Try.f21 Rows.leadSaysRow.domain false) (Rows.leadSaysSpec.post enc Try.prog Try.f21 false true false false) := by
  refine returnsInHanded_of_change (C := Try.checked) Tryown started (by kernel_rfl) Try.func21
    (ChangeSpec.witness6 (enc := enc) (C := Try.checked) false ⟨#[], #[(.agg #[i64 0, .slice none 0 0, .slice none 0 0, .slice none 0 0, i64 0]), (.agg #[.slice none 0 0, i64 0, i64 0, .bool false, .slice none 0 0, i64 0]), i64 0, (.agg #[.slice none 0 0, i64 0, i64 0, .bool false, .slice none 0 0, i64 0])], []⟩ 8 (by kernel_rfl) (by kernel_rfl) (by kernel_rfl) (by kernel_rfl)) ?_
  intro W base args ds gs before hval0 hW hcnd _
  have hval : ∀ (j : Nat) t v, Try.f21.params[j]? = some t → args[j]? = some v → Value.okWide Try.prog W .any base t v := hval0
  have hW' := hW
  obtain ⟨p, q, hA0, hV, rfl, hfz, hnd⟩ := hW
  have hA : DataW.TrodAll enc Try.prog W 0 (fun _ => true) true [101, 105, 3, 105] args.toList ds p := hA0
  obtain ⟨v0, vs0, d0, ds0, p0, q0, hargs, rfl, e0, h0, r0⟩ := trodAll_cons hA
  obtain ⟨v1, vs1, d1, ds1, p1, q1, rfl, rfl, e1, h1, r1⟩ := trodAll_cons r0
  obtain ⟨v2, vs2, d2, ds2, p2, q2, rfl, rfl, e2, h2, r2⟩ := trodAll_cons r1
  obtain ⟨v3, vs3, d3, ds3, p3, q3, rfl, rfl, e3, h3, r3⟩ := trodAll_cons r2
  obtain ⟨rfl, rfl, _⟩ := trodAll_nil r3
  obtain rfl : args = #[v0, v1, v2, v3] := by cases args; simp_all
  obtain ⟨rfl, rfl⟩ := trodVars_none hV
  obtain ⟨cs0, y0, rfl, x0⟩ := arg_struct Try.underlying101 (hval 0 101 v0 rfl rfl) reads_conf h0
  obtain ⟨fa0, fn0, fc0, ra0, rn0, rc0, wa0, wn0, wc0, rfl, sc0⟩ := x0
  obtain ⟨cs1, y1, rfl, x1⟩ := arg_struct Try.underlying105 (hval 1 105 v1 rfl rfl) reads_ldr h1
  obtain ⟨la1, ln1, lc1, ka1, kn1, kc1, rfl, sl1⟩ := x1
  obtain ⟨n2, rfl, lo2, hi2⟩ := arg_int Try.underlying3 (hval 2 3 v2 rfl rfl) h2
  obtain ⟨cs3, y3, rfl, x3⟩ := arg_struct Try.underlying105 (hval 3 105 v3 rfl rfl) reads_ldr h3
  obtain ⟨la3, ln3, lc3, ka3, kn3, kc3, rfl, sl3⟩ := x3
  refine ((cLeadSays (c := y0) (l := y1) (m := y3) sc0 sl1 sl3 n2).calls (sees_heapOf W)).mono fun e W' ⟨he, hg⟩ => ?_
  subst he
  exact ⟨_, rfl, post_mine (pv := []) hW' (fun _ _ _ => trodAll_cons_mk (shut_bool Try.underlying4 _) trodAll_mk0) (TrytrodAll hg (by decide) hA) rfl hg⟩
theorem over : Rows.leadSaysRow.holds Try.pinned (OpenSpec.ofChange Rows.leadSaysSpec) :=
  OpenClaim.holds_of_wide 21 Try.f21 rfl rfl rfl rfl rfl rfl rfl ⟨rfl, rfl, rfl, rfl, rfl⟩ rfl rfl rfl rfl rfl (by kernel_rfl) Try.func21 (by unfold joinedFacts; rw [mayEnterT, liftsFinalT, makeT]; kernel_rfl)
    (of_decide_eq_true (by kernel_rfl)) (by unfold Func.isWrapper; first | (rw [if_pos (by decide +kernel)]; kernel_rfl) | (rw [if_neg (by decide +kernel)]; exact ⟨rfl, rfl⟩))
    (fun os started H enc _ => lifted os started H enc)
/-- THE STATEMENT. -/
theorem proved : Rows.LeadSaysSaid := over
#print axioms proved
end Go.Proofs.Ytonlnlkkokigiaa.leadSaysLaw
