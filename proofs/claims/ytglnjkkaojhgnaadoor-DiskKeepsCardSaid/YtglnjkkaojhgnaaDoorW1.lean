/- Verification conditions of functions, as the definitions of this proof reckon them (each by the kernel). -/
import Derived.Test.YtglnjkkaojhgnaaDoorSeatJ
set_option maxRecDepth 100000
set_option linter.unusedSimpArgs false
set_option linter.unusedVariables false
namespace Go.Vg
open Go Go.Proofs
theorem vd44 (s : ByteArray) (base : Nat) (H : Heap) (K : Value → List (List Value) → Heap → Prop) :
  (funV ⟨Tryd.prog, Tryd.f44.ntmps, TrydMuts, base, H⟩ (bodyOf Tryd.f44) Tryd.f44.results.toList [.v (.string s)] [] K) = (
 Vg.Spec Tryd.prog 52 [Value.string s] H fun (v : Value) (H' : Heap) => ∃ (n : Int), v = Value.tuple #[Value.int IntKind.i64 n, Value.nilIface] ∧ (Vg.Next base H H' → ∃ (b : Bool), RunsTo Tryd.prog (binRun BinOp.eql 82 (Operand.tmp 12)
 (Operand.const Value.nilIface) Value.nilIface Value.nilIface) (Value.bool b) ∧ (b = true → Vg.Spec Tryd.prog 40 [Value.int IntKind.i64 n] H' fun (v : Value) (H'_1 : Heap) => ∃ (s_1 : ByteArray), v = Value.string s_1 ∧ (Vg.Next base H'
 H'_1 → ∃ (b : Bool), RunsTo Tryd.prog (binRun BinOp.eql 9 (Operand.tmp 16) (Operand.tmp 17) (Value.string s_1) (Value.string s)) (Value.bool b) ∧ K (Value.tuple #[Value.int IntKind.i64 n, Value.bool (decide (b = true))]) [] H'_1)) ∧
 (¬b = true → K (Value.tuple #[Value.int IntKind.i64 n, Value.bool false]) [] H')) ∨ ∃ (t : TypeId), ∃ (p : Value), v = Value.tuple #[Value.int IntKind.i64 n, Value.iface t p] ∧ (Vg.Next base H H' → ∃ (b : Bool), RunsTo Tryd.prog
 (binRun BinOp.eql 82 (Operand.tmp 12) (Operand.const Value.nilIface) (Value.iface t p) Value.nilIface) (Value.bool b) ∧ (b = true → Vg.Spec Tryd.prog 40 [Value.int IntKind.i64 n] H' fun (v : Value) (H'_1 : Heap) => ∃ (s_1 : ByteArray),
 v = Value.string s_1 ∧ (Vg.Next base H' H'_1 → ∃ (b : Bool), RunsTo Tryd.prog (binRun BinOp.eql 9 (Operand.tmp 16) (Operand.tmp 17) (Value.string s_1) (Value.string s)) (Value.bool b) ∧ K (Value.tuple #[Value.int IntKind.i64 n,
 Value.bool (decide (b = true))]) [] H'_1)) ∧ (¬b = true → K (Value.tuple #[Value.int IntKind.i64 n, Value.bool false]) [] H'))) := by kernel_rfl
theorem vd49 (s : ByteArray) (base : Nat) (H : Heap) (K : Value → List (List Value) → Heap → Prop) :
  (funV ⟨Tryd.prog, Tryd.f49.ntmps, TrydMuts, base, H⟩ (bodyOf Tryd.f49) Tryd.f49.results.toList [.v (.string s)] [] K) = (
 Vg.Spec Tryd.prog 71 [Value.string s, Value.int IntKind.i64 10, Value.int IntKind.i64 64] H fun (v : Value) (H' : Heap) => ∃ (n : Int), v = Value.tuple #[Value.int IntKind.i64 n, Value.nilIface] ∧ (Vg.Next base H H' → ∃ (b : Bool),
 RunsTo Tryd.prog (binRun BinOp.eql 82 (Operand.tmp 12) (Operand.const Value.nilIface) Value.nilIface Value.nilIface) (Value.bool b) ∧ (b = true → Vg.Spec Tryd.prog 72 [Value.int IntKind.i64 n, Value.int IntKind.i64 10] H' fun (v :
 Value) (H'_1 : Heap) => ∃ (s_1 : ByteArray), v = Value.string s_1 ∧ (Vg.Next base H' H'_1 → ∃ (b : Bool), RunsTo Tryd.prog (binRun BinOp.eql 9 (Operand.tmp 16) (Operand.tmp 17) (Value.string s_1) (Value.string s)) (Value.bool b) ∧ K
 (Value.tuple #[Value.int IntKind.i64 n, Value.bool (decide (b = true))]) [] H'_1)) ∧ (¬b = true → K (Value.tuple #[Value.int IntKind.i64 n, Value.bool false]) [] H')) ∨ ∃ (t : TypeId), ∃ (p : Value), v = Value.tuple #[Value.int
 IntKind.i64 n, Value.iface t p] ∧ (Vg.Next base H H' → ∃ (b : Bool), RunsTo Tryd.prog (binRun BinOp.eql 82 (Operand.tmp 12) (Operand.const Value.nilIface) (Value.iface t p) Value.nilIface) (Value.bool b) ∧ (b = true → Vg.Spec Tryd.prog
 72 [Value.int IntKind.i64 n, Value.int IntKind.i64 10] H' fun (v : Value) (H'_1 : Heap) => ∃ (s_1 : ByteArray), v = Value.string s_1 ∧ (Vg.Next base H' H'_1 → ∃ (b : Bool), RunsTo Tryd.prog (binRun BinOp.eql 9 (Operand.tmp 16)
 (Operand.tmp 17) (Value.string s_1) (Value.string s)) (Value.bool b) ∧ K (Value.tuple #[Value.int IntKind.i64 n, Value.bool (decide (b = true))]) [] H'_1)) ∧ (¬b = true → K (Value.tuple #[Value.int IntKind.i64 n, Value.bool false]) []
 H'))) := by kernel_rfl
theorem vd8 (a : Option Addr) (l c : Nat) (base : Nat) (H : Heap) (K : Value → List (List Value) → Heap → Prop) :
  (funV ⟨Tryd.prog, Tryd.f8.ntmps, TrydMutsJ, base, H⟩ (bodyOf Tryd.f8) Tryd.f8.results.toList [.v (.slice a l c)] [] K) = (
 Vg.Spec Tryd.prog 14 [Value.slice a l c] H fun (v : Value) (H' : Heap) => ∃ (n : Int), v = Value.int IntKind.i64 n ∧ (Vg.Next base H H' → (¬n = 0 → K (Value.tuple #[Value.string (ByteArray.mk #[]), Value.int IntKind.i64 n]) [] H') ∧
 (¬¬n = 0 → ∃ (I : List Value → Heap → Prop), ∃ (μ : List Value → Nat), I [Value.slice none 0 0, Value.int IntKind.i64 0] H' ∧ ∀ (a_3 : Option Addr) (n c : Nat) (n_1 : Int) (H' : Heap), Vg.Next base H H' → I [Value.slice a_3 n c,
 Value.int IntKind.i64 n_1] H' → (n_1 < (↑l : Int) → ∃ (b : Nat), ∃ (o : Nat), a = some (Addr.mk b o none) ∧ 0 ≤ n_1 ∧ n_1 < (↑l : Int) ∧ ∃ (n_2 : Int), ∃ (n_3 : Int), (Heap.cell H' b (o + Int.toNat n_1 * 2) = some (Value.int
 IntKind.i64 n_2) ∧ Heap.cell H' b (o + Int.toNat n_1 * 2 + 1) = some (Value.int IntKind.i64 n_3) ∧ True) ∧ ∀ (b : Nat), Vg.Spec Tryd.prog 40 [Value.int IntKind.i64 n_2] H' fun (v : Value) (H'_1 : Heap) => ∃ (s : ByteArray), v =
 Value.string s ∧ (Vg.Next base H' H'_1 → ∃ (s_1 : ByteArray), RunsTo Tryd.prog (binRun BinOp.add 9 (Operand.tmp 22) (Operand.const (Value.string (ByteArray.mk #[64]))) (Value.string s) (Value.string (ByteArray.mk #[64]))) (Value.string
 s_1) ∧ Vg.Spec Tryd.prog 40 [Value.int IntKind.i64 n_3] H'_1 fun (v : Value) (H' : Heap) => ∃ (s : ByteArray), v = Value.string s ∧ (Vg.Next base H'_1 H' → ∃ (s_2 : ByteArray), RunsTo Tryd.prog (binRun BinOp.add 9 (Operand.tmp 23)
 (Operand.tmp 26) (Value.string s_1) (Value.string s)) (Value.string s_2) ∧ ∀ (g : Nat) (H'_2 : Heap), Vg.Next base H' H'_2 → H' g = none → H'_2 g = some (boxKB 9 [Value.string s_2]) → ∃ (xs : List Value), ∃ (cells : List Value), Row
 base H'_2 9 1 a_3 n c xs ∧ List.length cells = 1 * 1 ∧ allOne cells = true ∧ (1 = 0 ∨ ∃ (b : Nat), ∃ (o : Nat), some (Addr.mk g 0 none) = some (Addr.mk b o none) ∧ cellsAt H'_2 b o 0 cells) ∧ (n + 1) * 16 ≤ 140737488355328 ∧ n + 1 ≤
 9223372036854775807 ∧ ∀ (a' : Option Addr) (c' : Nat) (H' : Heap), Grew base H'_2 H' a_3 c a' c' (n + 1) → Row base H' 9 1 a' (n + 1) c' (xs ++ cells) → ∀ (r : Int), r = IntKind.wrap IntKind.i64 (n_1 + 1) → I [Value.slice a' (n + 1)
 c', Value.int IntKind.i64 r] H' ∧ μ [Value.slice a' (n + 1) c', Value.int IntKind.i64 r] < μ [Value.slice a_3 n c, Value.int IntKind.i64 n_1]))) ∧ (¬n_1 < (↑l : Int) → Vg.Spec Tryd.prog 41 [Value.slice a_3 n c, Value.string
 (ByteArray.mk #[44])] H' fun (v : Value) (H'_1 : Heap) => ∃ (s : ByteArray), v = Value.string s ∧ (Vg.Next base H' H'_1 → K (Value.tuple #[Value.string s, Value.int IntKind.i64 0]) [] H'_1))))) := by kernel_rfl
theorem vd11 (s : ByteArray) (base : Nat) (H : Heap) (K : Value → List (List Value) → Heap → Prop) :
  (funV ⟨Tryd.prog, Tryd.f11.ntmps, TrydMutsJ, base, H⟩ (bodyOf Tryd.f11) Tryd.f11.results.toList [.v (.string s)] [] K) = (
 (60000 < (↑(ByteArray.size s) : Int) → K (Value.tuple #[Value.slice none 0 0, Value.int IntKind.i64 2]) [] H) ∧ (¬60000 < (↑(ByteArray.size s) : Int) → ∃ (b : Bool), RunsTo Tryd.prog (binRun BinOp.eql 9 (Operand.tmp 18) (Operand.const
 (Value.string (ByteArray.mk #[]))) (Value.string s) (Value.string (ByteArray.mk #[]))) (Value.bool b) ∧ (b = true → K (Value.tuple #[Value.slice none 0 0, Value.int IntKind.i64 0]) [] H) ∧ (¬b = true → Vg.Spec Tryd.prog 42
 [Value.string s, Value.string (ByteArray.mk #[44])] H fun (v : Value) (H' : Heap) => ∃ (a : Option Addr), ∃ (n : Nat), ∃ (c : Nat), v = Value.slice a n c ∧ (Vg.Next base H H' → ∃ (I : List Value → Heap → Prop), ∃ (μ : List Value →
 Nat), I [Value.slice none 0 0, Value.int IntKind.i64 0, Value.slice none 0 0, Value.int IntKind.i64 0] H' ∧ ∀ (a_2 : Option Addr) (n_1 c : Nat) (n_2 : Int) (a_3 : Option Addr) (n_3 c_1 : Nat) (n_4 : Int) (H' : Heap), Vg.Next base H H'
 → I [Value.slice a_2 n_1 c, Value.int IntKind.i64 n_2, Value.slice a_3 n_3 c_1, Value.int IntKind.i64 n_4] H' → (n_4 < (↑n : Int) → ∃ (b : Nat), ∃ (o : Nat), a = some (Addr.mk b o none) ∧ 0 ≤ n_4 ∧ n_4 < (↑n : Int) ∧ ∃ (s : ByteArray),
 Heap.cell H' b (o + Int.toNat n_4 * 1) = some (Value.string s) ∧ Vg.Spec Tryd.prog 43 [Value.string s, Value.string (ByteArray.mk #[64])] H' fun (v : Value) (H'_1 : Heap) => ∃ (s : ByteArray), ∃ (s_1 : ByteArray), ∃ (b : Bool), v =
 Value.tuple #[Value.string s, Value.string s_1, Value.bool b] ∧ (Vg.Next base H' H'_1 → Vg.Spec Tryd.prog 44 [Value.string s] H'_1 fun (v : Value) (H' : Heap) => ∃ (n : Int), ∃ (b_1 : Bool), v = Value.tuple #[Value.int IntKind.i64 n,
 Value.bool b_1] ∧ (Vg.Next base H'_1 H' → Vg.Spec Tryd.prog 44 [Value.string s_1] H' fun (v : Value) (H'_2 : Heap) => ∃ (n_5 : Int), ∃ (b_2 : Bool), v = Value.tuple #[Value.int IntKind.i64 n_5, Value.bool b_2] ∧ (Vg.Next base H' H'_2 →
 ∃ (φ : Prop), ((b = false → SubH H'_2 H'_2 ∧ φ) ∧ (¬b = false → (b_1 = false → SubH H'_2 H'_2 ∧ φ) ∧ (¬b_1 = false → SubH H'_2 H'_2 ∧ (φ ↔ b_2 = false)))) ∧ (φ → K (Value.tuple #[Value.slice none 0 0, Value.int IntKind.i64 1]) [] H'_2)
 ∧ (¬φ → ∀ (b : Nat), ∃ (xs : List Value), Row base H'_2 29 2 a_3 n_3 c_1 xs ∧ (n_3 + 1) * 16 ≤ 140737488355328 ∧ n_3 + 1 ≤ 9223372036854775807 ∧ ∀ (a' : Option Addr) (c' : Nat) (H' : Heap), Grew base H'_2 H' a_3 c_1 a' c' (n_3 + 1) →
 Row base H' 29 2 a' (n_3 + 1) c' (xs ++ [Value.int IntKind.i64 n, Value.int IntKind.i64 n_5]) → ∀ (r : Int), r = IntKind.wrap IntKind.i64 (n_4 + 1) → I [Value.slice a_2 n_1 c, Value.int IntKind.i64 n_2, Value.slice a' (n_3 + 1) c',
 Value.int IntKind.i64 r] H' ∧ μ [Value.slice a_2 n_1 c, Value.int IntKind.i64 n_2, Value.slice a' (n_3 + 1) c', Value.int IntKind.i64 r] < μ [Value.slice a_2 n_1 c, Value.int IntKind.i64 n_2, Value.slice a_3 n_3 c_1, Value.int
 IntKind.i64 n_4]))))) ∧ (¬n_4 < (↑n : Int) → Vg.Spec Tryd.prog 14 [Value.slice a_3 n_3 c_1] H' fun (v : Value) (H'_1 : Heap) => ∃ (n : Int), v = Value.int IntKind.i64 n ∧ (Vg.Next base H' H'_1 → (¬n = 0 → K (Value.tuple #[Value.slice
 none 0 0, Value.int IntKind.i64 n]) [] H'_1) ∧ (¬¬n = 0 → K (Value.tuple #[Value.slice a_3 n_3 c_1, Value.int IntKind.i64 0]) [] H'_1))))))) := by kernel_rfl
theorem vd13 (a : Option Addr) (l c : Nat) (base : Nat) (H : Heap) (K : Value → List (List Value) → Heap → Prop) :
  (funV ⟨Tryd.prog, Tryd.f13.ntmps, TrydMutsJ, base, H⟩ (bodyOf Tryd.f13) Tryd.f13.results.toList [.v (.slice a l c)] [] K) = (
 ∃ (I : List Value → Heap → Prop), ∃ (μ : List Value → Nat), I [Value.string (ByteArray.mk #[]), Value.int IntKind.i64 0] H ∧ ∀ (s : ByteArray) (n : Int) (H' : Heap), Vg.Next base H H' → I [Value.string s, Value.int IntKind.i64 n] H' →
 (n < (↑l : Int) → ∃ (b : Nat), ∃ (o : Nat), a = some (Addr.mk b o none) ∧ 0 ≤ n ∧ n < (↑l : Int) ∧ ∃ (n_1 : Int), ∃ (n_2 : Int), (Heap.cell H' b (o + Int.toNat n * 2) = some (Value.int IntKind.i64 n_1) ∧ Heap.cell H' b (o + Int.toNat n
 * 2 + 1) = some (Value.int IntKind.i64 n_2) ∧ True) ∧ ∀ (b : Nat), (0 < n → ∃ (s_1 : ByteArray), RunsTo Tryd.prog (binRun BinOp.add 9 (Operand.tmp 15) (Operand.const (Value.string (ByteArray.mk #[44]))) (Value.string s) (Value.string
 (ByteArray.mk #[44]))) (Value.string s_1) ∧ Vg.Spec Tryd.prog 40 [Value.int IntKind.i64 n_1] H' fun (v : Value) (H'_1 : Heap) => ∃ (s_2 : ByteArray), v = Value.string s_2 ∧ (Vg.Next base H' H'_1 → ∃ (s_3 : ByteArray), RunsTo Tryd.prog
 (binRun BinOp.add 9 (Operand.tmp 20) (Operand.const (Value.string (ByteArray.mk #[64]))) (Value.string s_2) (Value.string (ByteArray.mk #[64]))) (Value.string s_3) ∧ Vg.Spec Tryd.prog 40 [Value.int IntKind.i64 n_2] H'_1 fun (v : Value)
 (H' : Heap) => ∃ (s_4 : ByteArray), v = Value.string s_4 ∧ (Vg.Next base H'_1 H' → ∃ (s_5 : ByteArray), RunsTo Tryd.prog (binRun BinOp.add 9 (Operand.tmp 21) (Operand.tmp 24) (Value.string s_3) (Value.string s_4)) (Value.string s_5) ∧
 ∃ (s_6 : ByteArray), RunsTo Tryd.prog (binRun BinOp.add 9 (Operand.tmp 17) (Operand.tmp 25) (Value.string s_1) (Value.string s_5)) (Value.string s_6) ∧ ∀ (r : Int), r = IntKind.wrap IntKind.i64 (n + 1) → I [Value.string s_6, Value.int
 IntKind.i64 r] H' ∧ μ [Value.string s_6, Value.int IntKind.i64 r] < μ [Value.string s, Value.int IntKind.i64 n]))) ∧ (¬0 < n → Vg.Spec Tryd.prog 40 [Value.int IntKind.i64 n_1] H' fun (v : Value) (H'_1 : Heap) => ∃ (s_1 : ByteArray), v
 = Value.string s_1 ∧ (Vg.Next base H' H'_1 → ∃ (s_2 : ByteArray), RunsTo Tryd.prog (binRun BinOp.add 9 (Operand.tmp 20) (Operand.const (Value.string (ByteArray.mk #[64]))) (Value.string s_1) (Value.string (ByteArray.mk #[64])))
 (Value.string s_2) ∧ Vg.Spec Tryd.prog 40 [Value.int IntKind.i64 n_2] H'_1 fun (v : Value) (H' : Heap) => ∃ (s_3 : ByteArray), v = Value.string s_3 ∧ (Vg.Next base H'_1 H' → ∃ (s_4 : ByteArray), RunsTo Tryd.prog (binRun BinOp.add 9
 (Operand.tmp 21) (Operand.tmp 24) (Value.string s_2) (Value.string s_3)) (Value.string s_4) ∧ ∃ (s_5 : ByteArray), RunsTo Tryd.prog (binRun BinOp.add 9 (Operand.tmp 17) (Operand.tmp 25) (Value.string s) (Value.string s_4))
 (Value.string s_5) ∧ ∀ (r : Int), r = IntKind.wrap IntKind.i64 (n + 1) → I [Value.string s_5, Value.int IntKind.i64 r] H' ∧ μ [Value.string s_5, Value.int IntKind.i64 r] < μ [Value.string s, Value.int IntKind.i64 n])))) ∧ (¬n < (↑l :
 Int) → K (Value.string s) [] H')) := by kernel_rfl
theorem vd17 (s : ByteArray) (base : Nat) (H : Heap) (K : Value → List (List Value) → Heap → Prop) :
  (funV ⟨Tryd.prog, Tryd.f17.ntmps, TrydMutsJ, base, H⟩ (bodyOf Tryd.f17) Tryd.f17.results.toList [.v (.string s)] [] K) = (
 ∃ (b : Bool), RunsTo Tryd.prog (binRun BinOp.neq 9 (Operand.tmp 13) (Operand.const (Value.string (ByteArray.mk #[]))) (Value.string s) (Value.string (ByteArray.mk #[]))) (Value.bool b) ∧ (b = true → Vg.Spec Tryd.prog 42 [Value.string
 s, Value.string (ByteArray.mk #[44])] H fun (v : Value) (H' : Heap) => ∃ (a : Option Addr), ∃ (n : Nat), ∃ (c : Nat), v = Value.slice a n c ∧ (Vg.Next base H H' → ∃ (I : List Value → Heap → Prop), ∃ (μ : List Value → Nat), I
 [Value.slice none 0 0, Value.int IntKind.i64 0, Value.slice none 0 0, Value.int IntKind.i64 0] H' ∧ ∀ (a_2 : Option Addr) (n_1 c : Nat) (n_2 : Int) (a_3 : Option Addr) (n_3 c_1 : Nat) (n_4 : Int) (H' : Heap), Vg.Next base H H' → I
 [Value.slice a_2 n_1 c, Value.int IntKind.i64 n_2, Value.slice a_3 n_3 c_1, Value.int IntKind.i64 n_4] H' → (n_4 < (↑n : Int) → ∃ (b : Nat), ∃ (o : Nat), a = some (Addr.mk b o none) ∧ 0 ≤ n_4 ∧ n_4 < (↑n : Int) ∧ ∃ (s : ByteArray),
 Heap.cell H' b (o + Int.toNat n_4 * 1) = some (Value.string s) ∧ Vg.Spec Tryd.prog 48 [Value.string s, Value.string (ByteArray.mk #[64])] H' fun (v : Value) (H'_1 : Heap) => ∃ (n : Int), v = Value.int IntKind.i64 n ∧ (Vg.Next base H'
 H'_1 → (n < 0 → K (Value.tuple #[Value.slice none 0 0, Value.int IntKind.i64 1]) [] H'_1) ∧ (¬n < 0 → 0 ≤ n ∧ n ≤ (↑(ByteArray.size s) : Int) ∧ Vg.Spec Tryd.prog 49 [Value.string (ByteArray.extract s 0 (Int.toNat n))] H'_1 fun (v :
 Value) (H' : Heap) => ∃ (n_5 : Int), ∃ (b : Bool), v = Value.tuple #[Value.int IntKind.i64 n_5, Value.bool b] ∧ (Vg.Next base H'_1 H' → ∀ (r : Int), r = IntKind.wrap IntKind.i64 (n + 1) → 0 ≤ r ∧ r ≤ (↑(ByteArray.size s) : Int) ∧
 Vg.Spec Tryd.prog 49 [Value.string (ByteArray.extract s (Int.toNat r) (ByteArray.size s))] H' fun (v : Value) (H'_2 : Heap) => ∃ (n : Int), ∃ (b_1 : Bool), v = Value.tuple #[Value.int IntKind.i64 n, Value.bool b_1] ∧ (Vg.Next base H'
 H'_2 → ∃ (φ : Prop), ((b = false → SubH H'_2 H'_2 ∧ φ) ∧ (¬b = false → SubH H'_2 H'_2 ∧ (φ ↔ b_1 = false))) ∧ (φ → K (Value.tuple #[Value.slice none 0 0, Value.int IntKind.i64 1]) [] H'_2) ∧ (¬φ → ∀ (b : Nat), ∃ (xs : List Value), Row
 base H'_2 29 2 a_3 n_3 c_1 xs ∧ (n_3 + 1) * 16 ≤ 140737488355328 ∧ n_3 + 1 ≤ 9223372036854775807 ∧ ∀ (a' : Option Addr) (c' : Nat) (H' : Heap), Grew base H'_2 H' a_3 c_1 a' c' (n_3 + 1) → Row base H' 29 2 a' (n_3 + 1) c' (xs ++
 [Value.int IntKind.i64 n_5, Value.int IntKind.i64 n]) → ∀ (r : Int), r = IntKind.wrap IntKind.i64 (n_4 + 1) → I [Value.slice a_2 n_1 c, Value.int IntKind.i64 n_2, Value.slice a' (n_3 + 1) c', Value.int IntKind.i64 r] H' ∧ μ
 [Value.slice a_2 n_1 c, Value.int IntKind.i64 n_2, Value.slice a' (n_3 + 1) c', Value.int IntKind.i64 r] < μ [Value.slice a_2 n_1 c, Value.int IntKind.i64 n_2, Value.slice a_3 n_3 c_1, Value.int IntKind.i64 n_4])))))) ∧ (¬n_4 < (↑n :
 Int) → Vg.Spec Tryd.prog 12 [Value.slice a_3 n_3 c_1] H' fun (v : Value) (H'_1 : Heap) => ∃ (n : Int), v = Value.int IntKind.i64 n ∧ (Vg.Next base H' H'_1 → (¬n = 0 → K (Value.tuple #[Value.slice none 0 0, Value.int IntKind.i64 n]) []
 H'_1) ∧ (¬¬n = 0 → K (Value.tuple #[Value.slice a_3 n_3 c_1, Value.int IntKind.i64 0]) [] H'_1))))) ∧ (¬b = true → Vg.Spec Tryd.prog 12 [Value.slice none 0 0] H fun (v : Value) (H' : Heap) => ∃ (n : Int), v = Value.int IntKind.i64 n ∧
 (Vg.Next base H H' → (¬n = 0 → K (Value.tuple #[Value.slice none 0 0, Value.int IntKind.i64 n]) [] H') ∧ (¬¬n = 0 → K (Value.tuple #[Value.slice none 0 0, Value.int IntKind.i64 0]) [] H')))) := by kernel_rfl
theorem vd9  (base : Nat) (H : Heap) (K : Value → List (List Value) → Heap → Prop) :
  (funV ⟨Tryd.prog, Tryd.f9.ntmps, TrydMutsJ, base, H⟩ (bodyOf Tryd.f9) Tryd.f9.results.toList [] [] K) = (
 Vg.Spec Tryd.prog 11 [Value.string (ByteArray.mk #[49, 64, 50, 44, 55, 64, 49])] H fun (v : Value) (H' : Heap) => ∃ (a : Option Addr), ∃ (n : Nat), ∃ (c : Nat), ∃ (n_1 : Int), v = Value.tuple #[Value.slice a n c, Value.int IntKind.i64
 n_1] ∧ (Vg.Next base H H' → Vg.Spec Tryd.prog 8 [Value.slice a n c] H' fun (v : Value) (H'_1 : Heap) => ∃ (s : ByteArray), ∃ (n_2 : Int), v = Value.tuple #[Value.string s, Value.int IntKind.i64 n_2] ∧ (Vg.Next base H' H'_1 → ∃ (φ :
 Prop), ((n_1 = 0 → (n_2 = 0 → ∃ (b : Bool), RunsTo Tryd.prog (binRun BinOp.eql 9 (Operand.tmp 21) (Operand.const (Value.string (ByteArray.mk #[49, 64, 50, 44, 55, 64, 49]))) (Value.string s) (Value.string (ByteArray.mk #[49, 64, 50,
 44, 55, 64, 49]))) (Value.bool b) ∧ (b = true → ((↑n : Int) = 2 → Vg.Spec Tryd.prog 15 [Value.slice a n c, Value.int IntKind.i64 1] H'_1 fun (v : Value) (H' : Heap) => ∃ (n_3 : Int), v = Value.int IntKind.i64 n_3 ∧ (Vg.Next base H'_1
 H' → (n_3 = 2 → Vg.Spec Tryd.prog 15 [Value.slice a n c, Value.int IntKind.i64 2] H' fun (v : Value) (H'_2 : Heap) => ∃ (n : Int), v = Value.int IntKind.i64 n ∧ (Vg.Next base H' H'_2 → SubH H'_1 H'_2 ∧ (φ ↔ n = 0))) ∧ (¬n_3 = 2 → SubH
 H'_1 H' ∧ ¬φ))) ∧ (¬(↑n : Int) = 2 → SubH H'_1 H'_1 ∧ ¬φ)) ∧ (¬b = true → SubH H'_1 H'_1 ∧ ¬φ)) ∧ (¬n_2 = 0 → SubH H'_1 H'_1 ∧ ¬φ)) ∧ (¬n_1 = 0 → SubH H'_1 H'_1 ∧ ¬φ)) ∧ K (Value.bool (@decide φ (Classical.propDecidable φ))) [] H'_1))) := by kernel_rfl
theorem vd3 (a a' : Option Addr) (l c l' c' : Nat) (s : ByteArray) (base : Nat) (H : Heap) (K : Value → List (List Value) → Heap → Prop) :
  (funV ⟨Tryd.prog, Tryd.f3.ntmps, TrydMutsJ, base, H⟩ (bodyOf Tryd.f3) Tryd.f3.results.toList [.v (.slice a l c), .v (.slice a' l' c'), .v (.string s)] [] K) = (
 Vg.Spec Tryd.prog 8 [Value.slice a l c] H fun (v : Value) (H' : Heap) => ∃ (s_1 : ByteArray), ∃ (n : Int), v = Value.tuple #[Value.string s_1, Value.int IntKind.i64 n] ∧ (Vg.Next base H H' → Vg.Spec Tryd.prog 8 [Value.slice a' l' c']
 H' fun (v : Value) (H'_1 : Heap) => ∃ (s_2 : ByteArray), ∃ (n_1 : Int), v = Value.tuple #[Value.string s_2, Value.int IntKind.i64 n_1] ∧ (Vg.Next base H' H'_1 → ∃ (φ : Prop), (Vg.Spec Tryd.prog 9 [] H'_1 fun (v : Value) (H' : Heap) =>
 ∃ (b : Bool), v = Value.bool b ∧ (Vg.Next base H'_1 H' → (b = false → SubH H'_1 H' ∧ φ) ∧ (¬b = false → (n = 0 → (n_1 = 0 → ∃ (b : Bool), RunsTo Tryd.prog (binRun BinOp.eql 9 (Operand.tmp 36) (Operand.tmp 37) (Value.string s_1)
 (Value.string s_2)) (Value.bool b) ∧ Vg.Spec Tryd.prog 10 [Value.slice a l c, Value.slice a' l' c'] H' fun (v : Value) (H'_2 : Heap) => ∃ (b_1 : Bool), v = Value.bool b_1 ∧ (Vg.Next base H' H'_2 → ∃ (b_2 : Bool), RunsTo Tryd.prog
 (binRun BinOp.neq 4 (Operand.tmp 38) (Operand.tmp 41) (Value.bool (decide (b = true))) (Value.bool b_1)) (Value.bool b_2) ∧ SubH H'_1 H'_2 ∧ (φ ↔ b_2 = true))) ∧ (¬n_1 = 0 → SubH H'_1 H' ∧ ¬φ)) ∧ (¬n = 0 → SubH H'_1 H' ∧ ¬φ)))) ∧ (φ →
 K (Value.bool false) [] H'_1) ∧ (¬φ → (n = 0 → Vg.Spec Tryd.prog 11 [Value.string s_1] H'_1 fun (v : Value) (H' : Heap) => ∃ (a_5 : Option Addr), ∃ (n : Nat), ∃ (c_1 : Nat), ∃ (n_2 : Int), v = Value.tuple #[Value.slice a_5 n c_1,
 Value.int IntKind.i64 n_2] ∧ (Vg.Next base H'_1 H' → ∃ (φ : Prop), ((¬n_2 = 0 → SubH H' H' ∧ φ) ∧ (¬¬n_2 = 0 → Vg.Spec Tryd.prog 10 [Value.slice a_5 n c_1, Value.slice a l c] H' fun (v : Value) (H'_2 : Heap) => ∃ (b : Bool), v =
 Value.bool b ∧ (Vg.Next base H' H'_2 → SubH H' H'_2 ∧ (φ ↔ b = false)))) ∧ (φ → K (Value.bool false) [] H') ∧ (¬φ → Vg.Spec Tryd.prog 11 [Value.string s] H' fun (v : Value) (H'_2 : Heap) => ∃ (a : Option Addr), ∃ (n : Nat), ∃ (c :
 Nat), ∃ (n_3 : Int), v = Value.tuple #[Value.slice a n c, Value.int IntKind.i64 n_3] ∧ (Vg.Next base H' H'_2 → (¬n_3 = 0 → K (Value.bool true) [] H'_2) ∧ (¬¬n_3 = 0 → Vg.Spec Tryd.prog 8 [Value.slice a n c] H'_2 fun (v : Value) (H' :
 Heap) => ∃ (s_3 : ByteArray), ∃ (n : Int), v = Value.tuple #[Value.string s_3, Value.int IntKind.i64 n] ∧ (Vg.Next base H'_2 H' → ∃ (φ : Prop), ((n = 0 → ∃ (b : Bool), RunsTo Tryd.prog (binRun BinOp.eql 9 (Operand.tmp 75) (Operand.tmp
 76) (Value.string s_3) (Value.string s)) (Value.bool b) ∧ SubH H' H' ∧ (φ ↔ b = true)) ∧ (¬n = 0 → SubH H' H' ∧ ¬φ)) ∧ K (Value.bool (@decide φ (Classical.propDecidable φ))) [] H')))))) ∧ (¬n = 0 → Vg.Spec Tryd.prog 11 [Value.string s]
 H'_1 fun (v : Value) (H' : Heap) => ∃ (a : Option Addr), ∃ (n : Nat), ∃ (c : Nat), ∃ (n_2 : Int), v = Value.tuple #[Value.slice a n c, Value.int IntKind.i64 n_2] ∧ (Vg.Next base H'_1 H' → (¬n_2 = 0 → K (Value.bool true) [] H') ∧ (¬¬n_2
 = 0 → Vg.Spec Tryd.prog 8 [Value.slice a n c] H' fun (v : Value) (H'_2 : Heap) => ∃ (s_3 : ByteArray), ∃ (n : Int), v = Value.tuple #[Value.string s_3, Value.int IntKind.i64 n] ∧ (Vg.Next base H' H'_2 → ∃ (φ : Prop), ((n = 0 → ∃ (b :
 Bool), RunsTo Tryd.prog (binRun BinOp.eql 9 (Operand.tmp 75) (Operand.tmp 76) (Value.string s_3) (Value.string s)) (Value.bool b) ∧ SubH H'_2 H'_2 ∧ (φ ↔ b = true)) ∧ (¬n = 0 → SubH H'_2 H'_2 ∧ ¬φ)) ∧ K (Value.bool (@decide φ
 (Classical.propDecidable φ))) [] H'_2)))))))) := by kernel_rfl
theorem vd4 (a : Option Addr) (l c : Nat) (n : Int) (s : ByteArray) (base : Nat) (H : Heap) (K : Value → List (List Value) → Heap → Prop) :
  (funV ⟨Tryd.prog, Tryd.f4.ntmps, TrydMutsJ, base, H⟩ (bodyOf Tryd.f4) Tryd.f4.results.toList [.v (.slice a l c), .v (.int .i64 n), .v (.string s)] [] K) = (
 Vg.Spec Tryd.prog 8 [Value.slice a l c] H fun (v : Value) (H' : Heap) => ∃ (s_1 : ByteArray), ∃ (n_1 : Int), v = Value.tuple #[Value.string s_1, Value.int IntKind.i64 n_1] ∧ (Vg.Next base H H' → Vg.Spec Tryd.prog 11 [Value.string s] H'
 fun (v : Value) (H'_1 : Heap) => ∃ (a_2 : Option Addr), ∃ (n_2 : Nat), ∃ (c_1 : Nat), ∃ (n_3 : Int), v = Value.tuple #[Value.slice a_2 n_2 c_1, Value.int IntKind.i64 n_3] ∧ (Vg.Next base H' H'_1 → Vg.Spec Tryd.prog 12 [Value.slice a l
 c] H'_1 fun (v : Value) (H' : Heap) => ∃ (n_4 : Int), v = Value.int IntKind.i64 n_4 ∧ (Vg.Next base H'_1 H' → (n_4 = 0 → Vg.Spec Tryd.prog 13 [Value.slice a l c] H' fun (v : Value) (H'_2 : Heap) => ∃ (s_2 : ByteArray), v = Value.string
 s_2 ∧ (Vg.Next base H' H'_2 → ∃ (φ : Prop), (Vg.Spec Tryd.prog 9 [] H'_2 fun (v : Value) (H' : Heap) => ∃ (b : Bool), v = Value.bool b ∧ (Vg.Next base H'_2 H' → (b = false → SubH H'_2 H' ∧ φ) ∧ (¬b = false → Vg.Spec Tryd.prog 14
 [Value.slice a l c] H' fun (v : Value) (H'_3 : Heap) => ∃ (n_5 : Int), v = Value.int IntKind.i64 n_5 ∧ (Vg.Next base H' H'_3 → (¬n_5 = n_4 → SubH H'_2 H'_3 ∧ φ) ∧ (¬¬n_5 = n_4 → Vg.Spec Tryd.prog 15 [Value.slice a l c, Value.int
 IntKind.i64 n] H'_3 fun (v : Value) (H' : Heap) => ∃ (n_6 : Int), v = Value.int IntKind.i64 n_6 ∧ (Vg.Next base H'_3 H' → Vg.Spec Tryd.prog 16 [Value.slice a l c, Value.int IntKind.i64 n] H' fun (v : Value) (H'_4 : Heap) => ∃ (n :
 Int), v = Value.int IntKind.i64 n ∧ (Vg.Next base H' H'_4 → (¬n_6 = n → SubH H'_2 H'_4 ∧ φ) ∧ (¬¬n_6 = n → (¬n_1 = n_4 → SubH H'_2 H'_4 ∧ φ) ∧ (¬¬n_1 = n_4 → ∃ (b : Bool), RunsTo Tryd.prog (binRun BinOp.neq 9 (Operand.tmp 54)
 (Operand.tmp 55) (Value.string s_1) (Value.string s_2)) (Value.bool b) ∧ SubH H'_2 H'_4 ∧ (φ ↔ b = true)))))))))) ∧ (φ → K (Value.bool false) [] H'_2) ∧ (¬φ → (60000 < (↑(ByteArray.size s) : Int) → ∃ (φ : Prop), ((n_3 = 2 → SubH H'_2
 H'_2 ∧ (φ ↔ (↑n_2 : Int) = 0)) ∧ (¬n_3 = 2 → SubH H'_2 H'_2 ∧ ¬φ)) ∧ K (Value.bool (@decide φ (Classical.propDecidable φ))) [] H'_2) ∧ (¬60000 < (↑(ByteArray.size s) : Int) → Vg.Spec Tryd.prog 17 [Value.string s] H'_2 fun (v : Value)
 (H' : Heap) => ∃ (a : Option Addr), ∃ (n : Nat), ∃ (c : Nat), ∃ (n_5 : Int), v = Value.tuple #[Value.slice a n c, Value.int IntKind.i64 n_5] ∧ (Vg.Next base H'_2 H' → ∃ (φ : Prop), ((n_3 = n_5 → Vg.Spec Tryd.prog 10 [Value.slice a_2
 n_2 c_1, Value.slice a n c] H' fun (v : Value) (H'_3 : Heap) => ∃ (b : Bool), v = Value.bool b ∧ (Vg.Next base H' H'_3 → SubH H' H'_3 ∧ (φ ↔ b = true))) ∧ (¬n_3 = n_5 → SubH H' H' ∧ ¬φ)) ∧ K (Value.bool (@decide φ
 (Classical.propDecidable φ))) [] H'))))) ∧ (¬n_4 = 0 → ∃ (φ : Prop), (Vg.Spec Tryd.prog 9 [] H' fun (v : Value) (H'_2 : Heap) => ∃ (b : Bool), v = Value.bool b ∧ (Vg.Next base H' H'_2 → (b = false → SubH H' H'_2 ∧ φ) ∧ (¬b = false →
 Vg.Spec Tryd.prog 14 [Value.slice a l c] H'_2 fun (v : Value) (H'_3 : Heap) => ∃ (n_5 : Int), v = Value.int IntKind.i64 n_5 ∧ (Vg.Next base H'_2 H'_3 → (¬n_5 = n_4 → SubH H' H'_3 ∧ φ) ∧ (¬¬n_5 = n_4 → Vg.Spec Tryd.prog 15 [Value.slice
 a l c, Value.int IntKind.i64 n] H'_3 fun (v : Value) (H'_4 : Heap) => ∃ (n_6 : Int), v = Value.int IntKind.i64 n_6 ∧ (Vg.Next base H'_3 H'_4 → Vg.Spec Tryd.prog 16 [Value.slice a l c, Value.int IntKind.i64 n] H'_4 fun (v : Value) (H'_5
 : Heap) => ∃ (n : Int), v = Value.int IntKind.i64 n ∧ (Vg.Next base H'_4 H'_5 → (¬n_6 = n → SubH H' H'_5 ∧ φ) ∧ (¬¬n_6 = n → (¬n_1 = n_4 → SubH H' H'_5 ∧ φ) ∧ (¬¬n_1 = n_4 → ∃ (b : Bool), RunsTo Tryd.prog (binRun BinOp.neq 9
 (Operand.tmp 54) (Operand.tmp 55) (Value.string s_1) (Value.string (ByteArray.mk #[]))) (Value.bool b) ∧ SubH H' H'_5 ∧ (φ ↔ b = true)))))))))) ∧ (φ → K (Value.bool false) [] H') ∧ (¬φ → (60000 < (↑(ByteArray.size s) : Int) → ∃ (φ :
 Prop), ((n_3 = 2 → SubH H' H' ∧ (φ ↔ (↑n_2 : Int) = 0)) ∧ (¬n_3 = 2 → SubH H' H' ∧ ¬φ)) ∧ K (Value.bool (@decide φ (Classical.propDecidable φ))) [] H') ∧ (¬60000 < (↑(ByteArray.size s) : Int) → Vg.Spec Tryd.prog 17 [Value.string s] H'
 fun (v : Value) (H'_2 : Heap) => ∃ (a : Option Addr), ∃ (n : Nat), ∃ (c : Nat), ∃ (n_5 : Int), v = Value.tuple #[Value.slice a n c, Value.int IntKind.i64 n_5] ∧ (Vg.Next base H' H'_2 → ∃ (φ : Prop), ((n_3 = n_5 → Vg.Spec Tryd.prog 10
 [Value.slice a_2 n_2 c_1, Value.slice a n c] H'_2 fun (v : Value) (H' : Heap) => ∃ (b : Bool), v = Value.bool b ∧ (Vg.Next base H'_2 H' → SubH H'_2 H' ∧ (φ ↔ b = true))) ∧ (¬n_3 = n_5 → SubH H'_2 H'_2 ∧ ¬φ)) ∧ K (Value.bool (@decide φ
 (Classical.propDecidable φ))) [] H'_2)))))))) := by kernel_rfl
theorem vd16 (a : Option Addr) (l c : Nat) (k : Int) (base : Nat) (H : Heap) (K : Value → List (List Value) → Heap → Prop) :
  (funV ⟨Tryd.prog, Tryd.f16.ntmps, TrydMutsJ, base, H⟩ (bodyOf Tryd.f16) Tryd.f16.results.toList [.v (.slice a l c), .v (.int .i64 k)] [] K) = (
 ∃ (I : List Value → Heap → Prop), ∃ (μ : List Value → Nat), I [Value.int IntKind.i64 0, Value.int IntKind.i64 0] H ∧ ∀ (n n_1 : Int) (H' : Heap), Vg.Next base H H' → I [Value.int IntKind.i64 n, Value.int IntKind.i64 n_1] H' → (n_1 <
 (↑l : Int) → ∃ (b : Nat), ∃ (o : Nat), a = some (Addr.mk b o none) ∧ 0 ≤ n_1 ∧ n_1 < (↑l : Int) ∧ ∃ (n_2 : Int), ∃ (n_3 : Int), (Heap.cell H' b (o + Int.toNat n_1 * 2) = some (Value.int IntKind.i64 n_2) ∧ Heap.cell H' b (o + Int.toNat
 n_1 * 2 + 1) = some (Value.int IntKind.i64 n_3) ∧ True) ∧ ∀ (b : Nat), (n_2 = k → K (Value.int IntKind.i64 n_3) [] H') ∧ (¬n_2 = k → ∀ (r : Int), r = IntKind.wrap IntKind.i64 (n_1 + 1) → I [Value.int IntKind.i64 n, Value.int
 IntKind.i64 r] H' ∧ μ [Value.int IntKind.i64 n, Value.int IntKind.i64 r] < μ [Value.int IntKind.i64 n, Value.int IntKind.i64 n_1])) ∧ (¬n_1 < (↑l : Int) → K (Value.int IntKind.i64 0) [] H')) := by kernel_rfl
end Go.Vg
