/- How the cells of disks stand for disks, as a law's arguments. -/
import Derived.Test.YtglnjkkaojhgnaaGreatDoorArg10
import Derived.Test.YtglnjkkaojhgnaaGreatDoorD8
set_option linter.unusedSimpArgs false
set_option linter.unusedVariables false
namespace Go.Vg
open Go Go.Proofs
open Go.ChangeShapes Go.WideShapes Go.ChangeAt Go.RowKit
/-- A slice as an element, within its room. -/
def RSlC {α : Type} (R : Rep α) (sz : Nat) : Rep (List α) := fun H r xs => ∃ a n c, r = [.slice a n c] ∧ Sl R sz H a n xs ∧ n ≤ c
section
variable {HH : Type} {enc : TypeId × Value → HH} {w : World} {base : Nat} {spare : Nat → Bool} {held : Bool}
theorem reads_sliceC {P : Program} {t e : TypeId} {sz : Nat} {α : Type} {R : Rep α} (ht : P.underlying t = some (.slice e)) (hR : ReadsAs enc P w base spare held t (RSl R sz)) : ReadsAs enc P w base spare held t (RSlC R sz) := fun fuel cs x h => by
  obtain ⟨xs, a, n, c, rfl, hs⟩ := hR fuel cs x h
  refine ⟨xs, a, n, c, rfl, hs, ?_⟩
  rcases DataW.trod_slice ht h with ⟨h, _⟩ | ⟨a2, len, cap, elems, rest, m, _, h, _, _, hl, _⟩
  · simp at h; omega
  · simp at h; omega
theorem reads_u8 {P : Program} {t : TypeId} (ht : P.underlying t = some (.int .u8)) : ReadsAs enc P w base spare held t (REnc u8Cell) := fun _ _ _ h => by
  obtain ⟨n, rfl, _, hw⟩ := DataW.trod_int ht h
  have hb : 0 ≤ n ∧ n ≤ 255 := bounds_u8 hw
  refine ⟨UInt8.ofNat n.toNat, ?_⟩
  show [Value.int .u8 n] = [Value.int .u8 ((UInt8.ofNat n.toNat).toNat : Int)]
  rw [UInt8.toNat_ofNat']
  congr 2
  omega
theorem REnc.len1 {H : Heap} {r : List Value} {x : UInt8} (h : REnc u8Cell H r x) : r.length = 1 := by cases h; rfl
theorem reads_bytes : ReadsAs enc Tryz.prog w base spare held 22 (RSl (REnc u8Cell) 1) := reads_slice Tryz.underlying22 (by kernel_rfl) (by omega) (reads_u8 Tryz.underlying5) REnc.len1
/-- A field that is a slice, within its room. -/
theorem fieldSlC {P : Program} {t : TypeId} {fs : Array Field} {fuel : Nat} {cs : List Value} {x : DataW HH × List MemPlace} (ht : P.underlying t = some (.struct fs)) (h : DataW.trod enc P w base spare held fuel t cs = some x) {i : Nat} {f : Field} (hf : fs[i]? = some f) {k : Nat} {α : Type} {R : Rep α} {sz : Nat}
    (hR : ReadsAs enc P w base spare held f.type (RSlC R sz)) (hc : P.cellsOf f.type = 1) (ho : f.offset = k) : ∃ a n c xs, cs[k]? = some (.slice a n c) ∧ Sl R sz (heapOf w) a n xs ∧ n ≤ c := by
  obtain ⟨m, y, hy⟩ := fieldAt ht h hf
  obtain ⟨xs, a, n, c, h1, hs, hle⟩ := hR _ _ _ hy
  rw [hc, ho] at h1
  refine ⟨a, n, c, xs, ?_, hs, hle⟩
  have : ((cs.drop k).take 1)[0]? = some (.slice a n c) := by rw [h1]; rfl
  simpa using this
def RDsk : Rep Dsk := fun H r x => ∃ sa sn sc wa wn wc, r = [.slice sa sn sc, .slice wa wn wc] ∧ DskAt H x sa sn sc wa wn wc
theorem reads_disk : ReadsAs enc Tryz.prog w base spare held 24 RDsk := fun fuel cs x h => by
  have c22 : Tryz.prog.cellsOf 22 = 1 := by kernel_rfl
  have c24 : Tryz.prog.cellsOf 24 = 2 := by kernel_rfl
  have hl := structLen Tryz.underlying24 h
  rw [c24] at hl
  obtain ⟨sa, sn, sc, xs, h0, hx, l0⟩ := fieldSlC Tryz.underlying24 h (i := 0) rfl (reads_sliceC Tryz.underlying22 reads_bytes) c22 rfl
  obtain ⟨wa, wn, wc, ys, h1, hy, l1⟩ := fieldSlC Tryz.underlying24 h (i := 1) rfl (reads_sliceC Tryz.underlying22 reads_bytes) c22 rfl
  refine ⟨⟨xs, ys⟩, sa, sn, sc, wa, wn, wc, ?_, hx, hy, l0, l1⟩
  match cs, hl with
  | [x0, x1], _ =>
    simp at h0 h1
    subst h0 h1
    rfl
end
end Go.Vg
