/- What is proved here: the contracts of the functions that print and read locks. -/
import Derived.Test.YtglnjkkaojhgnaaDoorW1
import Derived.Test.YtglnjkkaojhgnaaDoorLb
import Derived.Test.YtglnjkkaojhgnaaDoorC6
import Derived.Test.YtglnjkkaojhgnaaDoorTx2
set_option linter.unusedSimpArgs false
set_option linter.unusedVariables false
set_option maxRecDepth 100000
namespace Go.Vg
open Go Go.Proofs
/-! ### Texts and errors compared -/
theorem beq_bytes (a b : List UInt8) : (a == b) = decide (a = b) := by by_cases h : a = b <;> simp [h]
theorem eqS {xo yo : Operand} {s t : ByteArray} : RunsTo Tryd.prog (binRun .eql 9 xo yo (.string s) (.string t)) (.bool (decide (s.data.toList = t.data.toList))) := by
  have := eqStr (xo := xo) (yo := yo) (s := s) (t := t)
  rw [ByteArray.toList_eq, ByteArray.toList_eq, beq_bytes] at this
  exact this
theorem neS {xo yo : Operand} {s t : ByteArray} : RunsTo Tryd.prog (binRun .neq 9 xo yo (.string s) (.string t)) (.bool (decide (¬ s.data.toList = t.data.toList))) := by
  intro w
  have hg : (eqGuard .neq 9 xo yo (.string s) (.string t)).run Tryd.prog w = .ok () w := by simp [eqGuard]
  simp only [binRun, Sem.run_bind, hg, Result.andThen_ok]
  have := run_equalIn_string (P := Tryd.prog) w 9999 9 s t Tryd.underlying9
  have e : (s.toList == t.toList) = decide (s.data.toList = t.data.toList) := by rw [ByteArray.toList_eq, ByteArray.toList_eq, beq_bytes]
  simp [binOp, Op.equal, this, Op.stringOp, e]
theorem eqNilE {xo : Operand} : RunsTo Tryd.prog (binRun .eql 82 xo (.const .nilIface) .nilIface .nilIface) (.bool true) := by
  intro w
  have hu := run_underlying Tryd.underlying82
  have hg : (eqGuard .eql 82 xo (.const .nilIface) .nilIface .nilIface).run Tryd.prog w = .ok () w := by simp [eqGuard]
  have he : (Op.equalIn (9999 + 1) 82 .nilIface .nilIface).run Tryd.prog w = .ok true w := by
    rw [Op.equalIn]
    simp only [Sem.run_bind, hu, Result.andThen_ok]
    rfl
  simp only [binRun, Sem.run_bind, hg, Result.andThen_ok]
  simp [binOp, Op.equal, show Op.maxDepth = 9999 + 1 from rfl, he]
theorem eqIfaceE {xo : Operand} {t : TypeId} {p : Value} : RunsTo Tryd.prog (binRun .eql 82 xo (.const .nilIface) (.iface t p) .nilIface) (.bool false) := by
  intro w
  have hu := run_underlying Tryd.underlying82
  have hg : (eqGuard .eql 82 xo (.const .nilIface) (.iface t p) .nilIface).run Tryd.prog w = .ok () w := by simp [eqGuard]
  have he : (Op.equalIn (9999 + 1) 82 (.iface t p) .nilIface).run Tryd.prog w = .ok false w := by
    rw [Op.equalIn]
    simp only [Sem.run_bind, hu, Result.andThen_ok]
    rfl
  simp only [binRun, Sem.run_bind, hg, Result.andThen_ok]
  simp [binOp, Op.equal, show Op.maxDepth = 9999 + 1 from rfl, he]
theorem box_cells {H : Heap} {g : Nat} {e : TypeId} {cs : List Value} (h : H g = some (boxKB e cs)) : Vg.cellsAt H g 0 0 cs :=
  cellsAt_of _ 0 fun j v hj => by unfold Heap.cell; rw [h]; simpa [boxKB] using hj
section
variable {H : Heap} (hL : Lb H)
include hL
/-! ### Numbers -/
theorem cNumber {s : ByteArray} (hs : s.size ≤ 281474976710656) : Spec Tryd.prog 44 [.string s] H fun v _ => ∃ (n : Int) (b : Bool), v = .tuple #[.int .i64 n, .bool b] ∧ (b = true → num s.data.toList = some n) ∧ (b = false → num s.data.toList = none) := by
  refine Trydvc Tryd.func44 (by kernel_rfl) (by kernel_rfl) _ rfl (fun base K => vd44 s base H K) fun base hb => ?_
  refine (l_atoi hL hs).spec.mono fun v H1 e1 hv => ?_
  obtain ⟨⟨n, e, rfl, h⟩, _⟩ := hv
  rcases h with ⟨hok, rfl⟩ | ⟨hno, t, p, rfl⟩
  · have hbd := Lib.atoiAll_bounds hok
    refine ⟨n, .inl ⟨rfl, fun hN => ⟨true, eqNilE, fun _ => (l_itoa (hL.ext e1) hbd.1 hbd.2).str1 fun H2 e2 hN2 => ⟨_, eqS, n, _, rfl, fun h => ?_, fun h => ?_⟩, fun h => absurd rfl h⟩⟩⟩
    · simp at h
      rw [num, hok]; simp [h]
    · simp at h
      rw [num, hok]; simp [h]
  · refine ⟨n, .inr ⟨t, p, rfl, fun hN => ⟨false, eqIfaceE, fun h => (by cases h), fun _ => ⟨n, false, rfl, fun h => (by cases h), fun _ => ?_⟩⟩⟩⟩
    unfold num
    split
    · rename_i v hv; exact absurd hv (hno v)
    · rfl
theorem cWhole {s : ByteArray} (hs : s.size ≤ 281474976710656) : Spec Tryd.prog 49 [.string s] H fun v _ => ∃ (n : Int) (b : Bool), v = .tuple #[.int .i64 n, .bool b] ∧ (b = true → num s.data.toList = some n) ∧ (b = false → num s.data.toList = none) := by
  refine Trydvc Tryd.func49 (by kernel_rfl) (by kernel_rfl) _ rfl (fun base K => vd49 s base H K) fun base hb => ?_
  refine (l_pint hL hs).spec.mono fun v H1 e1 hv => ?_
  obtain ⟨⟨n, e, rfl, h⟩, _⟩ := hv
  rcases h with ⟨hok, rfl⟩ | ⟨hno, t, p, rfl⟩
  · have hbd := Lib.atoiAll_bounds hok
    refine ⟨n, .inl ⟨rfl, fun hN => ⟨true, eqNilE, fun _ => (l_fmt (hL.ext e1) hbd.1 hbd.2).str1 fun H2 e2 hN2 => ⟨_, eqS, n, _, rfl, fun h => ?_, fun h => ?_⟩, fun h => absurd rfl h⟩⟩⟩
    · simp at h
      rw [num, hok]; simp [h]
    · simp at h
      rw [num, hok]; simp [h]
  · refine ⟨n, .inr ⟨t, p, rfl, fun hN => ⟨false, eqIfaceE, fun h => (by cases h), fun _ => ⟨n, false, rfl, fun h => (by cases h), fun _ => ?_⟩⟩⟩⟩
    unfold num
    split
    · rename_i v hv; exact absurd hv (hno v)
    · rfl
end
end Go.Vg
