/- Verification conditions of functions, as the definitions of this proof reckon them (each by the kernel). -/
import Derived.Test.YtonlnlkkokigiaaSeat
set_option linter.unusedSimpArgs false
set_option maxRecDepth 100000
set_option linter.unusedVariables false
namespace Go.Vg
open Go Go.Proofs
theorem vc22 (a a' : Option Addr) (l c l' c' : Nat) (base : Nat) (H : Heap) (K : Value → List (List Value) → Heap → Prop) :
  (funV ⟨Try.prog, Try.f22.ntmps, TryMuts, base, H⟩ (bodyOf Try.f22) Try.f22.results.toList [.v (.slice a l c), .v (.slice a' l' c')] [] K) = (
 (¬(↑l : Int) = (↑l' : Int) → K (Value.bool false) [] H) ∧ (¬¬(↑l : Int) = (↑l' : Int) → ∃ (I : List Value → Heap → Prop), ∃ (μ : List Value → Nat), I [Value.bool false, Value.int IntKind.i64 0] H ∧ ∀ (b : Bool) (n : Int) (H' : Heap),
 Vg.Next base H H' → I [Value.bool b, Value.int IntKind.i64 n] H' → (n < (↑l : Int) → ∃ (b_1 : Nat), ∃ (o : Nat), a = some (Addr.mk b_1 o none) ∧ 0 ≤ n ∧ n < (↑l : Int) ∧ ∃ (n_1 : Int), Heap.cell H' b_1 (o + Int.toNat n * 1) = some
 (Value.int IntKind.i64 n_1) ∧ ∃ (b_2 : Nat), ∃ (o : Nat), a' = some (Addr.mk b_2 o none) ∧ 0 ≤ n ∧ n < (↑l' : Int) ∧ ∃ (n_2 : Int), Heap.cell H' b_2 (o + Int.toNat n * 1) = some (Value.int IntKind.i64 n_2) ∧ (¬n_1 = n_2 → K (Value.bool
 false) [] H') ∧ (¬¬n_1 = n_2 → ∀ (r : Int), r = IntKind.wrap IntKind.i64 (n + 1) → I [Value.bool b, Value.int IntKind.i64 r] H' ∧ μ [Value.bool b, Value.int IntKind.i64 r] < μ [Value.bool b, Value.int IntKind.i64 n])) ∧ (¬n < (↑l :
 Int) → K (Value.bool true) [] H'))) := by kernel_rfl
theorem vc3  (base : Nat) (H : Heap) (K : Value → List (List Value) → Heap → Prop) :
  (funV ⟨Try.prog, Try.f3.ntmps, TryMuts, base, H⟩ (bodyOf Try.f3) Try.f3.results.toList [] [] K) = (
 ∀ (g : Nat) (H' : Heap), Vg.Next base H H' → H g = none → H' g = some (boxKB 22 [Value.int IntKind.i64 0, Value.int IntKind.i64 1, Value.int IntKind.i64 2, Value.int IntKind.i64 3, Value.int IntKind.i64 4, Value.int IntKind.i64 5,
 Value.int IntKind.i64 6, Value.int IntKind.i64 7, Value.int IntKind.i64 8, Value.int IntKind.i64 9]) → ∃ (I : List Value → Heap → Prop), ∃ (μ : List Value → Nat), I [Value.bool false, Value.int IntKind.i64 0] H' ∧ ∀ (b : Bool) (n :
 Int) (H' : Heap), Vg.Next base H H' → I [Value.bool b, Value.int IntKind.i64 n] H' → (n < 10 → ∃ (b_1 : Nat), ∃ (o : Nat), some (Addr.mk g 0 none) = some (Addr.mk b_1 o none) ∧ 0 ≤ n ∧ n < 10 ∧ ∃ (n_1 : Int), Heap.cell H' b_1 (o +
 Int.toNat n * 1) = some (Value.int IntKind.i64 n_1) ∧ (¬n_1 = n → K (Value.bool false) [] H') ∧ (¬¬n_1 = n → ∀ (r : Int), r = IntKind.wrap IntKind.i64 (n + 1) → I [Value.bool b, Value.int IntKind.i64 r] H' ∧ μ [Value.bool b, Value.int
 IntKind.i64 r] < μ [Value.bool b, Value.int IntKind.i64 n])) ∧ (¬n < 10 → ∀ (g : Nat) (H'_1 : Heap), Vg.Next base H' H'_1 → H' g = none → H'_1 g = some (boxKB 3 [Value.int IntKind.i64 20, Value.int IntKind.i64 99, Value.int IntKind.i64
 12, Value.int IntKind.i64 10, Value.int IntKind.i64 6, Value.int IntKind.i64 6, Value.int IntKind.i64 3, Value.int IntKind.i64 200, Value.int IntKind.i64 200, Value.int IntKind.i64 60000, Value.int IntKind.i64 40, Value.int IntKind.i64
 150]) → ∀ (g_1 : Nat) (H' : Heap), Vg.Next base H'_1 H' → H'_1 g_1 = none → H' g_1 = some (boxKB 3 [Value.int IntKind.i64 1, Value.int IntKind.i64 2, Value.int IntKind.i64 3, Value.int IntKind.i64 1, Value.int IntKind.i64 2, Value.int
 IntKind.i64 3, Value.int IntKind.i64 4, Value.int IntKind.i64 5, Value.int IntKind.i64 6, Value.int IntKind.i64 7, Value.int IntKind.i64 8, Value.int IntKind.i64 9, Value.int IntKind.i64 0, Value.int IntKind.i64 1, Value.int
 IntKind.i64 2, Value.int IntKind.i64 3, Value.int IntKind.i64 1, Value.int IntKind.i64 2, Value.int IntKind.i64 3, Value.int IntKind.i64 4, Value.int IntKind.i64 5, Value.int IntKind.i64 6, Value.int IntKind.i64 7, Value.int
 IntKind.i64 8, Value.int IntKind.i64 9, Value.int IntKind.i64 10, Value.int IntKind.i64 11, Value.int IntKind.i64 12, Value.int IntKind.i64 13]) → ∀ (g_2 : Nat) (H'_2 : Heap), Vg.Next base H' H'_2 → H' g_2 = none → H'_2 g_2 = some
 (boxKB 3 [Value.int IntKind.i64 20, Value.int IntKind.i64 99, Value.int IntKind.i64 12, Value.int IntKind.i64 10, Value.int IntKind.i64 6, Value.int IntKind.i64 6, Value.int IntKind.i64 3, Value.int IntKind.i64 200, Value.int
 IntKind.i64 200, Value.int IntKind.i64 60000, Value.int IntKind.i64 40, Value.int IntKind.i64 150]) → Vg.Spec Try.prog 22 [Value.slice (some (Addr.mk g 0 none)) 12 12, Value.slice (some (Addr.mk g_2 0 none)) 12 12] H'_2 fun (v : Value)
 (H' : Heap) => ∃ (b : Bool), v = Value.bool b ∧ (Vg.Next base H'_2 H' → (b = true → ∀ (g : Nat) (H'_3 : Heap), Vg.Next base H' H'_3 → H' g = none → H'_3 g = some (boxKB 3 [Value.int IntKind.i64 1, Value.int IntKind.i64 2, Value.int
 IntKind.i64 3, Value.int IntKind.i64 1, Value.int IntKind.i64 2, Value.int IntKind.i64 3, Value.int IntKind.i64 4, Value.int IntKind.i64 5, Value.int IntKind.i64 6, Value.int IntKind.i64 7, Value.int IntKind.i64 8, Value.int
 IntKind.i64 9, Value.int IntKind.i64 0, Value.int IntKind.i64 1, Value.int IntKind.i64 2, Value.int IntKind.i64 3, Value.int IntKind.i64 1, Value.int IntKind.i64 2, Value.int IntKind.i64 3, Value.int IntKind.i64 4, Value.int
 IntKind.i64 5, Value.int IntKind.i64 6, Value.int IntKind.i64 7, Value.int IntKind.i64 8, Value.int IntKind.i64 9, Value.int IntKind.i64 10, Value.int IntKind.i64 11, Value.int IntKind.i64 12, Value.int IntKind.i64 13]) → Vg.Spec
 Try.prog 22 [Value.slice (some (Addr.mk g_1 0 none)) 29 29, Value.slice (some (Addr.mk g 0 none)) 29 29] H'_3 fun (v : Value) (H' : Heap) => ∃ (b : Bool), v = Value.bool b ∧ (Vg.Next base H'_3 H' → K (Value.bool b) [] H')) ∧ (b = false
 → K (Value.bool false) [] H')))) := by kernel_rfl
end Go.Vg
