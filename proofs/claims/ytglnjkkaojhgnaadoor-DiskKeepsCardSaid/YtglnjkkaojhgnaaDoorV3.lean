/- Verification conditions of functions, as the definitions of this proof reckon them (each by the kernel). -/
import Derived.Test.YtglnjkkaojhgnaaDoorSeat
set_option maxRecDepth 100000
set_option linter.unusedSimpArgs false
set_option linter.unusedVariables false
namespace Go.Vg
open Go Go.Proofs
theorem vc62 (a : Option Addr) (l c : Nat) (base : Nat) (H : Heap) (K : Value → List (List Value) → Heap → Prop) :
  (funV ⟨Tryd.prog, Tryd.f14.ntmps, TrydMuts, base, H⟩ (bodyOf Tryd.f14) Tryd.f14.results.toList [.v (.slice a l c)] [] K) = (
 (12 < (↑l : Int) → K (Value.int IntKind.i64 2) [] H) ∧ (¬12 < (↑l : Int) → ∃ (I : List Value → Heap → Prop), ∃ (μ : List Value → Nat), I [Value.int IntKind.i64 0, Value.int IntKind.i64 0] H ∧ ∀ (n n_1 : Int) (H' : Heap), Vg.Next base H
 H' → I [Value.int IntKind.i64 n, Value.int IntKind.i64 n_1] H' → (n_1 < (↑l : Int) → ∃ (b : Nat), ∃ (o : Nat), a = some (Addr.mk b o none) ∧ 0 ≤ n_1 ∧ n_1 < (↑l : Int) ∧ ∃ (n_2 : Int), ∃ (n_3 : Int), (Heap.cell H' b (o + Int.toNat n_1
 * 2) = some (Value.int IntKind.i64 n_2) ∧ Heap.cell H' b (o + Int.toNat n_1 * 2 + 1) = some (Value.int IntKind.i64 n_3) ∧ True) ∧ ∀ (b : Nat), (n_2 < 1 → K (Value.int IntKind.i64 3) [] H') ∧ (¬n_2 < 1 → (20 < n_2 → K (Value.int
 IntKind.i64 3) [] H') ∧ (¬20 < n_2 → (n_3 < 1 → K (Value.int IntKind.i64 3) [] H') ∧ (¬n_3 < 1 → (99 < n_3 → K (Value.int IntKind.i64 3) [] H') ∧ (¬99 < n_3 → (0 < n_1 → ∀ (r : Int), r = IntKind.wrap IntKind.i64 (n_1 - 1) → ∃ (b :
 Nat), ∃ (o : Nat), a = some (Addr.mk b o none) ∧ 0 ≤ r ∧ r < (↑l : Int) ∧ ∃ (n_4 : Int), Heap.cell H' b (o + Int.toNat r * 2) = some (Value.int IntKind.i64 n_4) ∧ (n_2 ≤ n_4 → K (Value.int IntKind.i64 6) [] H') ∧ (¬n_2 ≤ n_4 → ∀ (r :
 Int), r = IntKind.wrap IntKind.i64 (n_1 + 1) → I [Value.int IntKind.i64 n, Value.int IntKind.i64 r] H' ∧ μ [Value.int IntKind.i64 n, Value.int IntKind.i64 r] < μ [Value.int IntKind.i64 n, Value.int IntKind.i64 n_1])) ∧ (¬0 < n_1 → ∀ (r
 : Int), r = IntKind.wrap IntKind.i64 (n_1 + 1) → I [Value.int IntKind.i64 n, Value.int IntKind.i64 r] H' ∧ μ [Value.int IntKind.i64 n, Value.int IntKind.i64 r] < μ [Value.int IntKind.i64 n, Value.int IntKind.i64 n_1])))))) ∧ (¬n_1 <
 (↑l : Int) → K (Value.int IntKind.i64 0) [] H'))) := by kernel_rfl
theorem vc108 (a : Option Addr) (l c : Nat) (base : Nat) (H : Heap) (K : Value → List (List Value) → Heap → Prop) :
  (funV ⟨Tryd.prog, Tryd.f12.ntmps, TrydMuts, base, H⟩ (bodyOf Tryd.f12) Tryd.f12.results.toList [.v (.slice a l c)] [] K) = (
 (12 < (↑l : Int) → K (Value.int IntKind.i64 2) [] H) ∧ (¬12 < (↑l : Int) → ∃ (I : List Value → Heap → Prop), ∃ (μ : List Value → Nat), I [Value.int IntKind.i64 0, Value.int IntKind.i64 0, Value.int IntKind.i64 0] H ∧ ∀ (n n_1 n_2 :
 Int) (H' : Heap), Vg.Next base H H' → I [Value.int IntKind.i64 n, Value.int IntKind.i64 n_1, Value.int IntKind.i64 n_2] H' → (n_2 < (↑l : Int) → ∃ (b : Nat), ∃ (o : Nat), a = some (Addr.mk b o none) ∧ 0 ≤ n_2 ∧ n_2 < (↑l : Int) ∧ ∃
 (n_3 : Int), ∃ (n_4 : Int), (Heap.cell H' b (o + Int.toNat n_2 * 2) = some (Value.int IntKind.i64 n_3) ∧ Heap.cell H' b (o + Int.toNat n_2 * 2 + 1) = some (Value.int IntKind.i64 n_4) ∧ True) ∧ ∀ (b : Nat), Vg.Spec Tryd.prog 45
 [Value.int IntKind.i64 n_3, Value.int IntKind.i64 1, Value.int IntKind.i64 20] H' fun (v : Value) (H'_1 : Heap) => ∃ (b : Bool), v = Value.bool b ∧ (Vg.Next base H' H'_1 → (b = false → K (Value.int IntKind.i64 3) [] H'_1) ∧ (¬b = false
 → Vg.Spec Tryd.prog 45 [Value.int IntKind.i64 n_4, Value.int IntKind.i64 1, Value.int IntKind.i64 99] H'_1 fun (v : Value) (H' : Heap) => ∃ (b : Bool), v = Value.bool b ∧ (Vg.Next base H'_1 H' → (b = false → K (Value.int IntKind.i64 3)
 [] H') ∧ (¬b = false → (n_3 ≤ n_1 → K (Value.int IntKind.i64 6) [] H') ∧ (¬n_3 ≤ n_1 → ∀ (r : Int), r = IntKind.wrap IntKind.i64 (n_2 + 1) → I [Value.int IntKind.i64 n, Value.int IntKind.i64 n_3, Value.int IntKind.i64 r] H' ∧ μ
 [Value.int IntKind.i64 n, Value.int IntKind.i64 n_3, Value.int IntKind.i64 r] < μ [Value.int IntKind.i64 n, Value.int IntKind.i64 n_1, Value.int IntKind.i64 n_2])))))) ∧ (¬n_2 < (↑l : Int) → K (Value.int IntKind.i64 0) [] H'))) := by kernel_rfl
theorem vc114 (n v : Int) (p : Nat) (base : Nat) (H : Heap) (K : Value → List (List Value) → Heap → Prop) :
  (funV ⟨Tryd.prog, Tryd.f47.ntmps, TrydMuts, base, H⟩ (bodyOf Tryd.f47) Tryd.f47.results.toList [.v (.agg #[.int .i64 n, .int .i64 v]), .v (.pointer (some ⟨p, 0, none⟩))] [] K) = (
 ∀ (b : Nat), ∃ (n_1 : Int), Heap.cell H p 0 = some (Value.int IntKind.i64 n_1) ∧ K (Value.bool (decide (n = n_1))) [] H) := by kernel_rfl
theorem vc113 (a : Option Addr) (l c : Nat) (p : Nat) (base : Nat) (H : Heap) (K : Value → List (List Value) → Heap → Prop) :
  (funV ⟨Tryd.prog, Tryd.f46.ntmps, TrydMuts, base, H⟩ (bodyOf Tryd.f46) Tryd.f46.results.toList [.v (.slice a l c), .v (.func (.func 47) #[] #[.pointer (some ⟨p, 0, none⟩)])] [] K) = (
 ∃ (I : List Value → Heap → Prop), ∃ (μ : List Value → Nat), I [Value.int IntKind.i64 0, Value.int IntKind.i64 0] H ∧ ∀ (n n_1 : Int) (H' : Heap), Vg.Next base H H' → I [Value.int IntKind.i64 n, Value.int IntKind.i64 n_1] H' → (n_1 <
 (↑l : Int) → ∃ (b : Nat), ∃ (o : Nat), a = some (Addr.mk b o none) ∧ 0 ≤ n_1 ∧ n_1 < (↑l : Int) ∧ ∃ (n_2 : Int), ∃ (n_3 : Int), (Heap.cell H' b (o + Int.toNat n_1 * 2) = some (Value.int IntKind.i64 n_2) ∧ Heap.cell H' b (o + Int.toNat
 n_1 * 2 + 1) = some (Value.int IntKind.i64 n_3) ∧ True) ∧ Vg.Spec Tryd.prog 47 [Value.agg #[Value.int IntKind.i64 n_2, Value.int IntKind.i64 n_3], Value.pointer (some (Addr.mk p 0 none))] H' fun (v : Value) (H'_1 : Heap) => ∃ (b :
 Bool), v = Value.bool b ∧ (Vg.Next base H' H'_1 → (b = true → K (Value.int IntKind.i64 n_1) [] H'_1) ∧ (b = false → ∀ (r : Int), r = IntKind.wrap IntKind.i64 (n_1 + 1) → I [Value.int IntKind.i64 n, Value.int IntKind.i64 r] H'_1 ∧ μ
 [Value.int IntKind.i64 n, Value.int IntKind.i64 r] < μ [Value.int IntKind.i64 n, Value.int IntKind.i64 n_1]))) ∧ (¬n_1 < (↑l : Int) → K (Value.int IntKind.i64 (-1)) [] H')) := by kernel_rfl
theorem vc42 (a : Option Addr) (l c : Nat) (k : Int) (base : Nat) (H : Heap) (K : Value → List (List Value) → Heap → Prop) :
  (funV ⟨Tryd.prog, Tryd.f15.ntmps, TrydMuts, base, H⟩ (bodyOf Tryd.f15) Tryd.f15.results.toList [.v (.slice a l c), .v (.int .i64 k)] [] K) = (
 ∀ (b : Nat), true = true ∧ ∀ (Hl : Heap), Vg.Next 0 H Hl → Hl b = some (boxKB 3 [Value.int IntKind.i64 k]) ∧ True → Vg.Spec Tryd.prog 46 [Value.slice a l c, Value.func (Fn.func 47) #[] #[Value.pointer (some (Addr.mk b 0 none))]] Hl
 fun (v : Value) (H'' : Heap) => ∃ (n : Int), v = Value.int IntKind.i64 n ∧ ∀ (H' : Heap), Vg.Next base H H' → (∀ (b_1 : Nat) (k_1 : KB), H'' b_1 = some k_1 → (∀ (x : Bx), x ∈ [Bx.mk b false 3 [Value.int IntKind.i64 k]] → b_1 ≠ Bx.b x)
 → H' b_1 = some k_1) → (n < 0 → K (Value.int IntKind.i64 0) [] H') ∧ (¬n < 0 → ∃ (b : Nat), ∃ (o : Nat), a = some (Addr.mk b o none) ∧ 0 ≤ n ∧ n < (↑l : Int) ∧ ∃ (n_1 : Int), Heap.cell H' b (o + Int.toNat n * 2 + 1) = some (Value.int
 IntKind.i64 n_1) ∧ K (Value.int IntKind.i64 n_1) [] H')) := by kernel_rfl
theorem vc41 (a a' : Option Addr) (l c l' c' : Nat) (base : Nat) (H : Heap) (K : Value → List (List Value) → Heap → Prop) :
  (funV ⟨Tryd.prog, Tryd.f10.ntmps, TrydMuts, base, H⟩ (bodyOf Tryd.f10) Tryd.f10.results.toList [.v (.slice a l c), .v (.slice a' l' c')] [] K) = (
 (¬(↑l : Int) = (↑l' : Int) → K (Value.bool false) [] H) ∧ (¬¬(↑l : Int) = (↑l' : Int) → ∃ (I : List Value → Heap → Prop), ∃ (μ : List Value → Nat), I [Value.bool false, Value.int IntKind.i64 0] H ∧ ∀ (b : Bool) (n : Int) (H' : Heap),
 Vg.Next base H H' → I [Value.bool b, Value.int IntKind.i64 n] H' → (n < (↑l : Int) → ∃ (b_1 : Nat), ∃ (o : Nat), a = some (Addr.mk b_1 o none) ∧ 0 ≤ n ∧ n < (↑l : Int) ∧ ∃ (n_1 : Int), ∃ (n_2 : Int), (Heap.cell H' b_1 (o + Int.toNat n
 * 2) = some (Value.int IntKind.i64 n_1) ∧ Heap.cell H' b_1 (o + Int.toNat n * 2 + 1) = some (Value.int IntKind.i64 n_2) ∧ True) ∧ ∃ (b_2 : Nat), ∃ (o : Nat), a' = some (Addr.mk b_2 o none) ∧ 0 ≤ n ∧ n < (↑l' : Int) ∧ ∃ (n_3 : Int), ∃
 (n_4 : Int), (Heap.cell H' b_2 (o + Int.toNat n * 2) = some (Value.int IntKind.i64 n_3) ∧ Heap.cell H' b_2 (o + Int.toNat n * 2 + 1) = some (Value.int IntKind.i64 n_4) ∧ True) ∧ ∃ (b_3 : Bool), RunsTo Tryd.prog (binRun BinOp.neq 29
 (Operand.tmp 19) (Operand.tmp 23) (Value.agg #[Value.int IntKind.i64 n_1, Value.int IntKind.i64 n_2]) (Value.agg #[Value.int IntKind.i64 n_3, Value.int IntKind.i64 n_4])) (Value.bool b_3) ∧ (b_3 = true → K (Value.bool false) [] H') ∧
 (¬b_3 = true → ∀ (r : Int), r = IntKind.wrap IntKind.i64 (n + 1) → I [Value.bool b, Value.int IntKind.i64 r] H' ∧ μ [Value.bool b, Value.int IntKind.i64 r] < μ [Value.bool b, Value.int IntKind.i64 n])) ∧ (¬n < (↑l : Int) → K
 (Value.bool true) [] H'))) := by kernel_rfl
theorem vc33 (k n : Int) (base : Nat) (H : Heap) (K : Value → List (List Value) → Heap → Prop) :
  (funV ⟨Tryd.prog, Tryd.f35.ntmps, TrydMuts, base, H⟩ (bodyOf Tryd.f35) Tryd.f35.results.toList [.v (.int .i64 k), .v (.int .i64 n)] [] K) = (
 n ≠ 0 ∧ (Int.tmod k n < 0 → ∀ (r : Int), r = IntKind.wrap IntKind.i64 (Int.tmod k n + n) → K (Value.int IntKind.i64 r) [] H) ∧ (¬Int.tmod k n < 0 → K (Value.int IntKind.i64 (Int.tmod k n)) [] H)) := by kernel_rfl
end Go.Vg
