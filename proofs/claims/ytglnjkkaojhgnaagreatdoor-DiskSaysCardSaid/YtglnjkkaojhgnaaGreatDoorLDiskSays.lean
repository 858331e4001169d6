/- THE LAW DiskSays: what is proved here: the statement Rows.DiskSaysCardSaid (the row, and its tie to the program's text). -/
import Derived.Test.YtglnjkkaojhgnaaGreatDoorZ5
import Derived.Test.YtglnjkkaojhgnaaGreatDoorLawL
import Derived.Test.YtglnjkkaojhgnaaGreatDoorArgD
set_option linter.unusedSimpArgs false
set_option maxRecDepth 100000
set_option linter.unusedVariables false
namespace Go.Proofs.YtglnjkkaojhgnaaGreatDoor.diskSaysLaw
open Go Go.Proofs Go.Vg
open Go.ChangeShapes Go.WideShapes Go.ChangeAt Go.RowKit
theorem lifted (os : Os) (started : os.Started) (HH : Type) (enc : TypeId × Value → HH) (F : Stop.Interp) :
    ReturnsInHanded {} Tryz.checked os 3 .any ((OpenSpec.ofChange Rows.diskSaysSpec).preRow enc Tryz.prog Tryz.f3 Rows.diskSaysRow.domain false Rows.diskSaysRow.laid) (((OpenSpec.ofChange Rows.diskSaysSpec).at F).post enc Tryz.prog Tryz.f3 false true false false) := by
  refine returnsInHanded_of_row (C := Tryz.checked) (s := OpenSpec.ofChange Rows.diskSaysSpec) Tryzown started (by kernel_rfl) Tryz.func3
    (ChangeSpec.witness_shaped (enc := enc) (C := Tryz.checked) (os := os) (X := fun w _ => laidMetH Tryz.prog Rows.diskSaysRow.laid w) false (laidWorld os) #[(.agg #[.slice none 0 0, .slice none 0 0]), (.agg #[i64 0, i64 0, i64 0, i64 0, .bool false, i64 0, .slice none 0 0]), i64 0, (.agg #[.slice none 0 0, .slice none 0 0])] 8 (laid_os os)
      (World.shaped_of_ZipB (by kernel_rfl) (by kernel_rfl)) (by kernel_rfl) (by kernel_rfl) (by kernel_rfl) (laid_met os _)) ?_
  intro W base args ds gs before hval0 hW _ _ _ hL hsh _
  have hval : ∀ (j : Nat) t v, Tryz.f3.params[j]? = some t → args[j]? = some v → Value.okWide Tryz.prog W .any base t v := hval0
  have hW' := hW
  obtain ⟨p, q, hA0, hV, rfl, hfz, hnd⟩ := hW
  have hA : DataW.TrodAll enc Tryz.prog W 0 (fun _ => true) true [24, 29, 3, 24] args.toList ds p := hA0
  obtain ⟨v0, vs0, d0, ds0, p0, q0, hargs, rfl, e0, h0, r0⟩ := trodAll_cons hA
  obtain ⟨v1, vs1, d1, ds1, p1, q1, rfl, rfl, e1, h1, r1⟩ := trodAll_cons r0
  obtain ⟨v2, vs2, d2, ds2, p2, q2, rfl, rfl, e2, h2, r2⟩ := trodAll_cons r1
  obtain ⟨v3, vs3, d3, ds3, p3, q3, rfl, rfl, e3, h3, r3⟩ := trodAll_cons r2
  obtain ⟨rfl, rfl, _⟩ := trodAll_nil r3
  obtain rfl : args = #[v0, v1, v2, v3] := by cases args; simp_all
  obtain ⟨rfl, rfl⟩ := trodVars_none hV
  have hLb := lb_of_laid hL hsh
  obtain ⟨cs0, y0, rfl, x0⟩ := arg_struct Tryz.underlying24 (hval 0 24 v0 rfl rfl) reads_disk h0
  obtain ⟨da0, dn0, dc0, wa0, wn0, wc0, rfl, sd0⟩ := x0
  obtain ⟨cs1, y1, rfl, x1⟩ := arg_struct Tryz.underlying29 (hval 1 29 v1 rfl rfl) reads_rec h1
  obtain ⟨ra1, rn1, rc1, rfl, sp1⟩ := x1
  obtain ⟨n2, rfl, lo2, hi2⟩ := arg_int Tryz.underlying3 (hval 2 3 v2 rfl rfl) h2
  obtain ⟨cs3, y3, rfl, x3⟩ := arg_struct Tryz.underlying24 (hval 3 24 v3 rfl rfl) reads_disk h3
  obtain ⟨da3, dn3, dc3, wa3, wn3, wc3, rfl, sd3⟩ := x3
  refine ((cDiskSays hLb (d := y0) (r := y1) (x := y3) (k := n2) sd0 sp1 sd3).calls (sees_heapOf W)).mono fun e W' ⟨he, hg⟩ => ?_
  subst he
  exact ⟨_, rfl, post_mine (pv := []) hW' (fun _ _ _ => trodAll_cons_mk (shut_bool Tryz.underlying4 _) trodAll_mk0) (TryztrodAll hg (by decide) hA) rfl hg⟩
theorem said : Rows.DiskSaysSaid :=
  OpenClaim.holds_of_cond 3 Tryz.f3 rfl rfl rfl rfl rfl rfl rfl ⟨rfl, rfl, rfl, rfl, rfl⟩ rfl rfl rfl rfl rfl (by kernel_rfl) Tryz.func3 (by unfold joinedFacts; rw [mayEnterT, liftsFinalT, makeT]; kernel_rfl)
    (of_decide_eq_true (by kernel_rfl)) (by unfold Func.isWrapper; first | (rw [if_pos (by decide +kernel)]; kernel_rfl) | (rw [if_neg (by decide +kernel)]; exact ⟨rfl, rfl⟩))
    (fun os started H enc _ F => by rw [OpenClaim.pre_eq_preRow]; exact lifted os started H enc F)
/-- No parameter wants a stand-in; what the card asks of the program's own looks. -/
theorem plain (f : FuncId) (fn : Func) (hf : Tryz.pinned.checked.prog.funcNamed Rows.diskSaysRow.func = some f) (hfn : Tryz.pinned.checked.prog.funcs[f]? = some fn) :
    true = Tryz.pinned.checked.prog.looks [] ∧ ∀ (j : Nat) t, fn.params[j]? = some t → Tryz.pinned.checked.prog.wantsStandIn t = false := by
  obtain rfl : f = 3 := Option.some.inj ((show Tryz.prog.funcNamed Rows.diskSaysRow.func = some 3 by kernel_rfl).symm.trans hf) |>.symm
  obtain rfl : fn = Tryz.f3 := (Option.some.inj (Tryz.func3.symm.trans hfn)).symm
  refine ⟨by kernel_rfl, fun j t ht => ?_⟩
  rw [Tryz.params3] at ht
  have hm : t ∈ [24, 29, 3, 24] := by simpa using Array.mem_of_getElem? ht
  have hall : ([24, 29, 3, 24].all fun u => !Tryz.prog.wantsStandIn u) = true := by kernel_rfl
  exact (show Tryz.prog.wantsStandIn t = false by simpa using List.all_eq_true.1 hall t hm)
/-- THE STATEMENT. -/
theorem proved : Rows.DiskSaysCardSaid :=
  Claim7.holds_tied_plain_at .later [] _ _ _ _ said (fun _ h => by cases h) (by kernel_rfl) (fun _ h => by cases h) diskSays_row_tie rfl ⟨rfl, rfl⟩ (by kernel_rfl) rfl plain (by kernel_rfl)
#print axioms proved
end Go.Proofs.YtglnjkkaojhgnaaGreatDoor.diskSaysLaw
