/- THE LAW WaveSays: what is proved here: the statement Rows.WaveSaysSaid. -/
import Derived.Test.YtonlnlkkokigiaaC2
import Derived.Test.YtonlnlkkokigiaaArg
set_option linter.unusedSimpArgs false
set_option maxRecDepth 100000
set_option linter.unusedVariables false
namespace Go.Proofs.Ytonlnlkkokigiaa.waveSaysLaw
open Go Go.Proofs Go.Vg
open Go.ChangeShapes Go.WideShapes Go.ChangeAt Go.RowKit
theorem lifted (os : Os) (started : os.Started) (HH : Type) (enc : TypeId × Value → HH) :
    ReturnsInHanded {} Try.checked os 4 .any (Rows.waveSaysSpec.pre6 enc Try.prog Try.f4 Rows.waveSaysRow.domain false) (Rows.waveSaysSpec.post enc Try.prog Try.f4 false true false false) := by
  refine returnsInHanded_of_change (C := Try.checked) Tryown started (by kernel_rfl) Try.func4
    (ChangeSpec.witness6 (enc := enc) (C := Try.checked) false ⟨#[], #[.slice none 0 0, i64 0, i64 0, .slice none 0 0], []⟩ 8 (by kernel_rfl) (by kernel_rfl) (by kernel_rfl) (by kernel_rfl)) ?_
  intro W base args ds gs before hval0 hW hcnd _
  have hval : ∀ (j : Nat) t v, Try.f4.params[j]? = some t → args[j]? = some v → Value.okWide Try.prog W .any base t v := hval0
  have hW' := hW
  obtain ⟨p, q, hA0, hV, rfl, hfz, hnd⟩ := hW
  have hA : DataW.TrodAll enc Try.prog W 0 (fun _ => true) true [27, 3, 3, 28] args.toList ds p := hA0
  obtain ⟨v0, vs0, d0, ds0, p0, q0, hargs, rfl, e0, h0, r0⟩ := trodAll_cons hA
  obtain ⟨v1, vs1, d1, ds1, p1, q1, rfl, rfl, e1, h1, r1⟩ := trodAll_cons r0
  obtain ⟨v2, vs2, d2, ds2, p2, q2, rfl, rfl, e2, h2, r2⟩ := trodAll_cons r1
  obtain ⟨v3, vs3, d3, ds3, p3, q3, rfl, rfl, e3, h3, r3⟩ := trodAll_cons r2
  obtain ⟨rfl, rfl, _⟩ := trodAll_nil r3
  obtain rfl : args = #[v0, v1, v2, v3] := by cases args; simp_all
  obtain ⟨rfl, rfl⟩ := trodVars_none hV
  have rI : ReadsAs enc Try.prog W 0 (fun _ => true) true 24 (RSl RInt 1) := reads_slice Try.underlying24 (by kernel_rfl) (by omega) (reads_int Try.underlying3) RInt.len
  obtain ⟨a, l, c, ws, rfl, hx⟩ := arg_slice Try.underlying27 (hval 0 27 v0 rfl rfl) (reads_slice (R := RSl RInt 1) Try.underlying27 (by kernel_rfl) (by omega) rI RSl.len) h0
  obtain ⟨agents, rfl, _⟩ := arg_int Try.underlying3 (hval 1 3 v1 rfl rfl) h1
  obtain ⟨agent, rfl, _⟩ := arg_int Try.underlying3 (hval 2 3 v2 rfl rfl) h2
  obtain ⟨a', l', c', th, rfl, ht⟩ := arg_slice Try.underlying28 (hval 3 28 v3 rfl rfl) (reads_slice (R := RBool) Try.underlying28 (by kernel_rfl) (by omega) (reads_bool Try.underlying4) RBool.len) h3
  refine ((cWaveSays hx ht agents agent).calls (sees_heapOf W)).mono fun e W' ⟨he, hg⟩ => ?_
  subst he
  exact ⟨_, rfl, post_mine (pv := []) hW' (fun _ _ _ => trodAll_cons_mk (shut_bool Try.underlying4 _) trodAll_mk0) (TrytrodAll hg (by decide) hA) rfl hg⟩
theorem over : Rows.waveSaysRow.holds Try.pinned (OpenSpec.ofChange Rows.waveSaysSpec) :=
  OpenClaim.holds_of_wide 4 Try.f4 rfl rfl rfl rfl rfl rfl rfl ⟨rfl, rfl, rfl, rfl, rfl⟩ rfl rfl rfl rfl rfl (by kernel_rfl) Try.func4 (by kernel_rfl)
    (of_decide_eq_true (by kernel_rfl)) (by unfold Func.isWrapper; first | (rw [if_pos (by decide +kernel)]; kernel_rfl) | (rw [if_neg (by decide +kernel)]; exact ⟨rfl, rfl⟩))
    (fun os started H enc _ => lifted os started H enc)
/-- THE STATEMENT. -/
theorem proved : Rows.WaveSaysSaid := over
#print axioms proved
end Go.Proofs.Ytonlnlkkokigiaa.waveSaysLaw
