/- What is proved here: what the listed package-level variables give; the witness's world. -/
import Derived.Test.YtglnjkkaojhgnaaGreatDoorLb
import Derived.Test.YtglnjkkaojhgnaaGreatDoorLaw
import Derived.Test.YtglnjkkaojhgnaaGreatDoorArg10
import Derived.Test.YtglnjkkaojhgnaaGreatDoorCards
import Derived.Test.YtglnjkkaojhgnaaGreatDoorTie
import Derived.Deep.DeepHandedRow
import Derived.Stop.LaidErr
import Derived.Lay
import Derived.MakeChecks
import Derived.SevenTiedAt
set_option linter.unusedSimpArgs false
set_option linter.unusedVariables false
set_option maxRecDepth 100000
namespace Go.Proofs.YtglnjkkaojhgnaaGreatDoor
open Go Go.Proofs Go.Vg
theorem noHandle {W : World} (h : laidMetH Tryz.prog Rows.diskSaysRow.laid W) : laidMet Tryz.prog Rows.diskSaysRow.laid W := by
  rw [MakeChecks.laidMetH_plain _ _ _ (by kernel_rfl)] at h
  exact h
theorem var_heap {P : Program} {W : World} {name : String} {g : Nat} {cs : Array Value} (hg : P.globalNamed name = some g) (h : W.var? P name = some cs) : ∃ t fr, W.heap[g]? = some (.cells cs t fr) := by
  unfold World.var? at h
  rw [hg] at h
  simp only [Option.bind_some] at h
  split at h
  · rename_i c t fr hc
    obtain rfl := Option.some.inj h
    exact ⟨t, fr, hc⟩
  · cases h
theorem sentinel_row (u : TypeId) (h : Tryz.prog.typeName? 3 u = some ("*" ++ "errors.errorString")) : u = 231 :=
  typeName_ptr_named (nm := "errors.errorString") (by kernel_rfl) (by kernel_rfl) (by decide) u h
theorem lb_of_laid {W : World} (hL0 : laidMetH Tryz.prog Rows.diskSaysRow.laid W) (hsh : W.ShapedOpen Tryz.prog) : Lb (heapOf W) := by
  have hL : laidMet Tryz.prog Rows.diskSaysRow.laid W := noHandle hL0
  have h3 := hL.tail.tail
  have h5 := h3.tail.tail
  have h6 := h5.tail
  have hT := Lib.tabIs_of_head (k := .u64) (zs := Lib.pow10Tab) (g := 1) (t := 215) (e := 197) (n := 20) (by kernel_rfl) (by kernel_rfl) Tryz.underlying215 Tryz.underlying197 (by kernel_rfl) (by kernel_rfl) h3
  have hstar : "*" ++ "errors.errorString" = "*errors.errorString" := by decide
  obtain ⟨ar, sr, hvr, -, -, -⟩ := laid_sentinel (g := 3) h5 (by kernel_rfl) (by kernel_rfl) Tryz.underlying116 (fun u h => sentinel_row u (by rw [hstar]; exact h)) Tryz.underlying231 Tryz.underlying233 rfl rfl Tryz.underlying9 (by kernel_rfl) (by kernel_rfl)
  obtain ⟨aq, sq, hvs, -, -, -⟩ := laid_sentinel (g := 2) h6 (by kernel_rfl) (by kernel_rfl) Tryz.underlying116 (fun u h => sentinel_row u (by rw [hstar]; exact h)) Tryz.underlying231 Tryz.underlying233 rfl rfl Tryz.underlying9 (by kernel_rfl) (by kernel_rfl)
  obtain ⟨m, hm⟩ := Go.Proofs.cell_of_shapedOpen_int (zero := #[.int .i64 0]) (g := 0) (t := 3) hsh (of_decide_eq_true (by kernel_rfl)) (by kernel_rfl) rfl (by kernel_rfl) (by kernel_rfl) Tryz.underlying3
  refine ⟨⟨m, (heapOf_cell hm).2⟩, ?_, ?_, ?_⟩
  · obtain ⟨t, fr, h⟩ := var_heap (g := 2) (by kernel_rfl) hvs
    exact ⟨_, _, by unfold Heap.cell heapOf; rw [h]; rfl⟩
  · obtain ⟨t, fr, h⟩ := var_heap (g := 3) (by kernel_rfl) hvr
    exact ⟨_, _, by unfold Heap.cell heapOf; rw [h]; rfl⟩
  · obtain ⟨t, fr, h⟩ := var_heap (g := 1) (by kernel_rfl) hT
    refine ⟨_, by unfold heapOf; rw [h], by simp, fun j z hj => ?_⟩
    simp [hj]
noncomputable def laidWorld (os : Os) : World := World.laidAll Tryz.prog os Rows.diskSaysRow.laid
theorem laid_os (os : Os) : (laidWorld os).os = os := World.laidAll_os _ _ _
theorem laid_met (os : Os) (args : Array Value) : laidMetH Tryz.prog Rows.diskSaysRow.laid ((laidWorld os).forCall (fun _ _ => 0) ⟨#[], args, []⟩).memory := by
  rw [MakeChecks.laidMetH_plain _ _ _ (by kernel_rfl)]
  exact laidMet_laidAll _ (by kernel_rfl) (by kernel_rfl)
end Go.Proofs.YtglnjkkaojhgnaaGreatDoor
