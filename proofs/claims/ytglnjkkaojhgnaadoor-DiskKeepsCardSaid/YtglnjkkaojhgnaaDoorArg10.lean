/- What is proved here: how a law's arguments that are releases and mail are read. -/
import Derived.Test.YtglnjkkaojhgnaaDoorArg
import Derived.Test.YtglnjkkaojhgnaaDoorC9
set_option linter.unusedSimpArgs false
set_option linter.unusedVariables false
namespace Go.Vg
open Go Go.Proofs
open Go.ChangeShapes Go.WideShapes Go.ChangeAt Go.RowKit
section
variable {HH : Type} {enc : TypeId × Value → HH} {w : World} {base : Nat} {spare : Nat → Bool} {held : Bool}
/-- A field that is a slice. -/
theorem fieldSl {P : Program} {t : TypeId} {fs : Array Field} {fuel : Nat} {cs : List Value} {x : DataW HH × List MemPlace} (ht : P.underlying t = some (.struct fs)) (h : DataW.trod enc P w base spare held fuel t cs = some x) {i : Nat} {f : Field} (hf : fs[i]? = some f) {k : Nat} {α : Type} {R : Rep α} {sz : Nat}
    (hR : ReadsAs enc P w base spare held f.type (RSl R sz)) (hc : P.cellsOf f.type = 1) (ho : f.offset = k) : ∃ a n c xs, cs[k]? = some (.slice a n c) ∧ Sl R sz (heapOf w) a n xs := by
  obtain ⟨m, y, hy⟩ := fieldAt ht h hf
  obtain ⟨xs, a, n, c, h1, hs⟩ := hR _ _ _ hy
  rw [hc, ho] at h1
  refine ⟨a, n, c, xs, ?_, hs⟩
  have : ((cs.drop k).take 1)[0]? = some (.slice a n c) := by rw [h1]; rfl
  simpa using this
/-- A field that is a struct. -/
theorem fieldStruct {P : Program} {t : TypeId} {fs : Array Field} {fuel : Nat} {cs : List Value} {x : DataW HH × List MemPlace} (ht : P.underlying t = some (.struct fs)) (h : DataW.trod enc P w base spare held fuel t cs = some x) {i : Nat} {f : Field} (hf : fs[i]? = some f) {k n : Nat} {α : Type} {R : Rep α}
    (hR : ReadsAs enc P w base spare held f.type R) (hc : P.cellsOf f.type = n) (ho : f.offset = k) : ∃ x : α, R (heapOf w) ((cs.drop k).take n) x := by
  obtain ⟨m, y, hy⟩ := fieldAt ht h hf
  obtain ⟨x, hx⟩ := hR _ _ _ hy
  rw [hc, ho] at hx
  exact ⟨x, hx⟩
def RRel : Rep Rls := fun H r x => ∃ a n c, r = [i64 x.id, .slice a n c] ∧ Pins H a n x.lock
theorem reads_rel : ReadsAs enc Tryd.prog w base spare held 38 RRel := fun fuel cs x h => by
  have c3 : Tryd.prog.cellsOf 3 = 1 := by kernel_rfl
  have c40 : Tryd.prog.cellsOf 22 = 1 := by kernel_rfl
  have c59 : Tryd.prog.cellsOf 38 = 2 := by kernel_rfl
  have hl := structLen Tryd.underlying38 h
  rw [c59] at hl
  obtain ⟨i, hi, _⟩ := fieldInt Tryd.underlying38 h (i := 0) rfl Tryd.underlying3 c3 rfl
  obtain ⟨a, n, c, xs, ha, hp⟩ := fieldSl Tryd.underlying38 h (i := 1) rfl reads_pins c40 rfl
  exact ⟨⟨i, xs⟩, a, n, c, cells2 hl hi ha, hp⟩
end
end Go.Vg
set_option linter.unusedSimpArgs false
set_option linter.unusedVariables false
namespace Go.Vg
open Go Go.Proofs
open Go.ChangeShapes Go.WideShapes Go.ChangeAt Go.RowKit
section
variable {HH : Type} {enc : TypeId × Value → HH} {w : World} {base : Nat} {spare : Nat → Bool} {held : Bool}
theorem reads_rec : ReadsAs enc Tryd.prog w base spare held 40 RRec := fun fuel cs x h => by
  have c3 : Tryd.prog.cellsOf 3 = 1 := by kernel_rfl
  have c4 : Tryd.prog.cellsOf 4 = 1 := by kernel_rfl
  have c59 : Tryd.prog.cellsOf 38 = 2 := by kernel_rfl
  have c95 : Tryd.prog.cellsOf 40 = 7 := by kernel_rfl
  have hl := structLen Tryd.underlying40 h
  rw [c95] at hl
  obtain ⟨kd, h0, _⟩ := fieldInt Tryd.underlying40 h (i := 0) rfl Tryd.underlying3 c3 rfl
  obtain ⟨ag, h1, _⟩ := fieldInt Tryd.underlying40 h (i := 1) rfl Tryd.underlying3 c3 rfl
  obtain ⟨tr, h2, _⟩ := fieldInt Tryd.underlying40 h (i := 2) rfl Tryd.underlying3 c3 rfl
  obtain ⟨n0, h3, _⟩ := fieldInt Tryd.underlying40 h (i := 3) rfl Tryd.underlying3 c3 rfl
  obtain ⟨gd, h4⟩ := fieldBool Tryd.underlying40 h (i := 4) rfl Tryd.underlying4 c4 rfl
  obtain ⟨r, a, n, c, h5, hp⟩ := fieldStruct Tryd.underlying40 h (i := 5) rfl reads_rel c59 rfl
  refine ⟨⟨kd, ag, tr, n0, gd, r⟩, a, n, c, ?_, hp⟩
  match cs, hl with
  | [x0, x1, x2, x3, x4, x5, x6], _ =>
    simp at h0 h1 h2 h3 h4 h5
    obtain ⟨rfl, rfl⟩ := h5
    subst h0 h1 h2 h3 h4
    rfl
theorem reads_recs : ReadsAs enc Tryd.prog w base spare held 49 (RSl RRec 7) := reads_slice Tryd.underlying49 (by kernel_rfl) (by omega) reads_rec RRec.len
def RAgt : Rep Agt := fun H r x => ∃ a n c ga gn gc, r = [.slice a n c, i64 x.at_, i64 x.try_, .bool x.going, i64 x.goal.id, .slice ga gn gc, .bool x.good] ∧ Pins H a n x.lock ∧ Pins H ga gn x.goal.lock
end
end Go.Vg
