/- THE LAW WaySays: what is proved here: the statement Rows.WaySaysSaid. -/
import Derived.Test.YtonlnlkkokigiaaC10d
import Derived.Test.YtonlnlkkokigiaaArg10
set_option linter.unusedSimpArgs false
set_option maxRecDepth 100000
set_option linter.unusedVariables false
namespace Go.Proofs.Ytonlnlkkokigiaa.waySaysLaw
open Go Go.Proofs Go.Vg
open Go.ChangeShapes Go.WideShapes Go.ChangeAt Go.RowKit
theorem lifted (os : Os) (started : os.Started) (HH : Type) (enc : TypeId × Value → HH) :
    ReturnsInHanded {} Try.checked os 10 .any (Rows.waySaysSpec.pre6 enc Try.prog Try.f10 Rows.waySaysRow.domain false) (Rows.waySaysSpec.post enc Try.prog Try.f10 false true false false) := by
  refine returnsInHanded_of_change (C := Try.checked) Tryown started (by kernel_rfl) Try.func10
    (ChangeSpec.witness6 (enc := enc) (C := Try.checked) false ⟨#[], #[.slice none 0 0, (.agg #[i64 0, i64 0, .bool false, .bool false, i64 0, .slice none 0 0]), i64 0, .bool false, .slice none 0 0], []⟩ 8 (by kernel_rfl) (by kernel_rfl) (by kernel_rfl) (by kernel_rfl)) ?_
  intro W base args ds gs before hval0 hW hcnd _
  have hval : ∀ (j : Nat) t v, Try.f10.params[j]? = some t → args[j]? = some v → Value.okWide Try.prog W .any base t v := hval0
  have hW' := hW
  obtain ⟨p, q, hA0, hV, rfl, hfz, hnd⟩ := hW
  have hA : DataW.TrodAll enc Try.prog W 0 (fun _ => true) true [57, 61, 3, 4, 57] args.toList ds p := hA0
  obtain ⟨v0, vs0, d0, ds0, p0, q0, hargs, rfl, e0, h0, r0⟩ := trodAll_cons hA
  obtain ⟨v1, vs1, d1, ds1, p1, q1, rfl, rfl, e1, h1, r1⟩ := trodAll_cons r0
  obtain ⟨v2, vs2, d2, ds2, p2, q2, rfl, rfl, e2, h2, r2⟩ := trodAll_cons r1
  obtain ⟨v3, vs3, d3, ds3, p3, q3, rfl, rfl, e3, h3, r3⟩ := trodAll_cons r2
  obtain ⟨v4, vs4, d4, ds4, p4, q4, rfl, rfl, e4, h4, r4⟩ := trodAll_cons r3
  obtain ⟨rfl, rfl, _⟩ := trodAll_nil r4
  obtain rfl : args = #[v0, v1, v2, v3, v4] := by cases args; simp_all
  obtain ⟨rfl, rfl⟩ := trodVars_none hV
  obtain ⟨a0, l0, c0, xs0, rfl, x0, le0⟩ := arg_slice (R := RMail) (sz := 6) Try.underlying57 (hval 0 57 v0 rfl rfl) reads_mails h0
  obtain ⟨cs1, y1, rfl, x1⟩ := arg_struct Try.underlying61 (hval 1 61 v1 rfl rfl) reads_mail h1
  obtain ⟨sa1, sn1, sc1, rfl, sp1⟩ := x1
  obtain ⟨n2, rfl, lo2, hi2⟩ := arg_int Try.underlying3 (hval 2 3 v2 rfl rfl) h2
  obtain ⟨n3, rfl⟩ := arg_bool Try.underlying4 (hval 3 4 v3 rfl rfl) h3
  obtain ⟨a4, l4, c4, xs4, rfl, x4, le4⟩ := arg_slice (R := RMail) (sz := 6) Try.underlying57 (hval 4 57 v4 rfl rfl) reads_mails h4
  refine ((cWaySays x0 le0 y1 sp1 n2 n3 x4).calls (sees_heapOf W)).mono fun e W' ⟨he, hg⟩ => ?_
  subst he
  exact ⟨_, rfl, post_mine (pv := []) hW' (fun _ _ _ => trodAll_cons_mk (shut_bool Try.underlying4 _) trodAll_mk0) (TrytrodAll hg (by decide) hA) rfl hg⟩
theorem over : Rows.waySaysRow.holds Try.pinned (OpenSpec.ofChange Rows.waySaysSpec) :=
  OpenClaim.holds_of_wide 10 Try.f10 rfl rfl rfl rfl rfl rfl rfl ⟨rfl, rfl, rfl, rfl, rfl⟩ rfl rfl rfl rfl rfl (by kernel_rfl) Try.func10 (by kernel_rfl)
    (of_decide_eq_true (by kernel_rfl)) (by unfold Func.isWrapper; first | (rw [if_pos (by decide +kernel)]; kernel_rfl) | (rw [if_neg (by decide +kernel)]; exact ⟨rfl, rfl⟩))
    (fun os started H enc _ => lifted os started H enc)
/-- THE STATEMENT. -/
theorem proved : Rows.WaySaysSaid := over
#print axioms proved
end Go.Proofs.Ytonlnlkkokigiaa.waySaysLaw
