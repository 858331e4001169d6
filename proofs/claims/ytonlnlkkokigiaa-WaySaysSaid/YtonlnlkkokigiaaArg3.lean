/- What is proved here: how a law's arguments that are pins and rules are read. -/
import Derived.Test.YtonlnlkkokigiaaArg
import Derived.Test.YtonlnlkkokigiaaRp3
set_option linter.unusedSimpArgs false
set_option linter.unusedVariables false
namespace Go.Vg
open Go Go.Proofs
open Go.ChangeShapes Go.WideShapes Go.ChangeAt Go.RowKit
section
variable {HH : Type} {enc : TypeId × Value → HH} {w : World} {base : Nat} {spare : Nat → Bool} {held : Bool}
theorem fieldAt {P : Program} {t : TypeId} {fs : Array Field} {fuel : Nat} {cs : List Value} {x : DataW HH × List MemPlace} (ht : P.underlying t = some (.struct fs)) (h : DataW.trod enc P w base spare held fuel t cs = some x) {i : Nat} {f : Field} (hf : fs[i]? = some f) :
    ∃ n y, DataW.trod enc P w base spare held n f.type ((cs.drop f.offset).take (P.cellsOf f.type)) = some y := by
  obtain ⟨xs, n, rfl, rfl, _, hl, hx⟩ := DataW.trod_struct ht h
  have hi : i < fs.size := (Array.getElem?_eq_some_iff.1 hf).1
  exact ⟨n, xs[i]'(by omega), by rw [hx i f hf, List.getElem?_eq_getElem (by omega)]⟩
theorem structLen {P : Program} {t : TypeId} {fs : Array Field} {fuel : Nat} {cs : List Value} {x : DataW HH × List MemPlace} (ht : P.underlying t = some (.struct fs)) (h : DataW.trod enc P w base spare held fuel t cs = some x) : cs.length = P.cellsOf t := by
  obtain ⟨xs, n, rfl, rfl, hl, _⟩ := DataW.trod_struct ht h
  exact hl
/-- One integer field. -/
theorem fieldInt {P : Program} {t : TypeId} {fs : Array Field} {fuel : Nat} {cs : List Value} {x : DataW HH × List MemPlace} (ht : P.underlying t = some (.struct fs)) (h : DataW.trod enc P w base spare held fuel t cs = some x) {i : Nat} {f : Field} (hf : fs[i]? = some f) {k : Nat}
    (hu : P.underlying f.type = some (.int .i64)) (hc : P.cellsOf f.type = 1) (ho : f.offset = k) : ∃ n : Int, cs[k]? = some (i64 n) ∧ -9223372036854775808 ≤ n ∧ n ≤ 9223372036854775807 := by
  obtain ⟨m, y, hy⟩ := fieldAt ht h hf
  obtain ⟨n, h1, _, hw⟩ := DataW.trod_int hu hy
  rw [hc, ho] at h1
  refine ⟨n, ?_, bounds_i64 hw⟩
  have : ((cs.drop k).take 1)[0]? = some (i64 n) := by rw [h1]; rfl
  simpa using this
theorem fieldBool {P : Program} {t : TypeId} {fs : Array Field} {fuel : Nat} {cs : List Value} {x : DataW HH × List MemPlace} (ht : P.underlying t = some (.struct fs)) (h : DataW.trod enc P w base spare held fuel t cs = some x) {i : Nat} {f : Field} (hf : fs[i]? = some f) {k : Nat}
    (hu : P.underlying f.type = some .bool) (hc : P.cellsOf f.type = 1) (ho : f.offset = k) : ∃ n : Bool, cs[k]? = some (.bool n) := by
  obtain ⟨m, y, hy⟩ := fieldAt ht h hf
  obtain ⟨n, h1, _⟩ := DataW.trod_bool hu hy
  rw [hc, ho] at h1
  refine ⟨n, ?_⟩
  have : ((cs.drop k).take 1)[0]? = some (.bool n) := by rw [h1]; rfl
  simpa using this
theorem cells2 {cs : List Value} (h : cs.length = 2) {x y : Value} (h0 : cs[0]? = some x) (h1 : cs[1]? = some y) : cs = [x, y] := by
  match cs, h with
  | [a, b], _ => simp at h0 h1; rw [h0, h1]
theorem cells3 {cs : List Value} (h : cs.length = 3) {x y z : Value} (h0 : cs[0]? = some x) (h1 : cs[1]? = some y) (h2 : cs[2]? = some z) : cs = [x, y, z] := by
  match cs, h with
  | [a, b, c], _ => simp at h0 h1 h2; rw [h0, h1, h2]
theorem cells4 {cs : List Value} (h : cs.length = 4) {x y z u : Value} (h0 : cs[0]? = some x) (h1 : cs[1]? = some y) (h2 : cs[2]? = some z) (h3 : cs[3]? = some u) : cs = [x, y, z, u] := by
  match cs, h with
  | [a, b, c, d], _ => simp at h0 h1 h2 h3; rw [h0, h1, h2, h3]
theorem REnc.len {α : Type} {e : α → List Value} {sz : Nat} (hs : ∀ x, (e x).length = sz) {H : Heap} {r : List Value} {x : α} (h : REnc e H r x) : r.length = sz := by cases h; exact hs x
theorem reads_pin : ReadsAs enc Try.prog w base spare held 48 RPin := fun fuel cs x h => by
  have c3 : Try.prog.cellsOf 3 = 1 := by kernel_rfl
  have c48 : Try.prog.cellsOf 48 = 2 := by kernel_rfl
  have hl := structLen Try.underlying48 h
  rw [c48] at hl
  obtain ⟨a, ha, _⟩ := fieldInt Try.underlying48 h (i := 0) rfl Try.underlying3 c3 rfl
  obtain ⟨b, hb, _⟩ := fieldInt Try.underlying48 h (i := 1) rfl Try.underlying3 c3 rfl
  exact ⟨⟨a, b⟩, cells2 hl ha hb⟩
theorem reads_rule : ReadsAs enc Try.prog w base spare held 54 RRule := fun fuel cs x h => by
  have c3 : Try.prog.cellsOf 3 = 1 := by kernel_rfl
  have c54 : Try.prog.cellsOf 54 = 4 := by kernel_rfl
  have hl := structLen Try.underlying54 h
  rw [c54] at hl
  obtain ⟨a, ha, _⟩ := fieldInt Try.underlying54 h (i := 0) rfl Try.underlying3 c3 rfl
  obtain ⟨b, hb, _⟩ := fieldInt Try.underlying54 h (i := 1) rfl Try.underlying3 c3 rfl
  obtain ⟨c, hc, _⟩ := fieldInt Try.underlying54 h (i := 2) rfl Try.underlying3 c3 rfl
  obtain ⟨d, hd, _⟩ := fieldInt Try.underlying54 h (i := 3) rfl Try.underlying3 c3 rfl
  exact ⟨⟨a, b, c, d⟩, cells4 hl ha hb hc hd⟩
theorem reads_pins : ReadsAs enc Try.prog w base spare held 40 (RSl RPin 2) := reads_slice Try.underlying40 (by kernel_rfl) (by omega) reads_pin (REnc.len pinCells_len)
theorem reads_rules : ReadsAs enc Try.prog w base spare held 41 (RSl RRule 4) := reads_slice Try.underlying41 (by kernel_rfl) (by omega) reads_rule (REnc.len ruleCells_len)
theorem reads_ints : ReadsAs enc Try.prog w base spare held 24 (RSl RInt 1) := reads_slice Try.underlying24 (by kernel_rfl) (by omega) (reads_int Try.underlying3) RInt.len
theorem reads_waves : ReadsAs enc Try.prog w base spare held 27 (RSl (RSl RInt 1) 1) := reads_slice Try.underlying27 (by kernel_rfl) (by omega) reads_ints RSl.len
theorem reads_bools : ReadsAs enc Try.prog w base spare held 28 (RSl RBool 1) := reads_slice Try.underlying28 (by kernel_rfl) (by omega) (reads_bool Try.underlying4) RBool.len
end
end Go.Vg
