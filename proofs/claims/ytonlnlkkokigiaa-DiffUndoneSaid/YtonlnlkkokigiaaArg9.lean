/- What is proved here: how a law's arguments that are steps are read. -/
import Derived.Test.YtonlnlkkokigiaaArg3
import Derived.Test.YtonlnlkkokigiaaC9
set_option linter.unusedSimpArgs false
set_option linter.unusedVariables false
namespace Go.Vg
open Go Go.Proofs
open Go.ChangeShapes Go.WideShapes Go.ChangeAt Go.RowKit
section
variable {HH : Type} {enc : TypeId × Value → HH} {w : World} {base : Nat} {spare : Nat → Bool} {held : Bool}
abbrev RStep : Rep Step := REnc stepCells
theorem reads_op : ReadsAs enc Try.prog w base spare held 73 RStep := fun fuel cs x h => by
  have c3 : Try.prog.cellsOf 3 = 1 := by kernel_rfl
  have c73 : Try.prog.cellsOf 73 = 3 := by kernel_rfl
  have hl := structLen Try.underlying73 h
  rw [c73] at hl
  obtain ⟨a, ha, _⟩ := fieldInt Try.underlying73 h (i := 0) rfl Try.underlying3 c3 rfl
  obtain ⟨b, hb, _⟩ := fieldInt Try.underlying73 h (i := 1) rfl Try.underlying3 c3 rfl
  obtain ⟨c, hc, _⟩ := fieldInt Try.underlying73 h (i := 2) rfl Try.underlying3 c3 rfl
  exact ⟨⟨a, b, c⟩, cells3 hl ha hb hc⟩
end
end Go.Vg
