/- Verification conditions of functions, as the definitions of this proof reckon them (each by the kernel). -/
import Derived.Test.YtglnjkkaojhgnaaGreatDoorSeat
set_option maxRecDepth 100000
set_option linter.unusedSimpArgs false
set_option linter.unusedVariables false
namespace Go.Vg
open Go Go.Proofs
theorem vcI122 (a : Option Addr) (n c g : Nat) (i : Int) (base : Nat) (H0 : Heap) (own : List Bx) (H : Heap) (f : SV → List Bx → Heap → Prop) :
  (codeI ⟨Tryz.prog, Tryz.f84.ntmps, ⟨TryzList, TryzIn2, true⟩, base, H0⟩ Tryz.f84 [.v (.slice a n c), .v (.int .i64 i), .v (.slice (some ⟨g, 0, none⟩) 1 1)] own H f) = (
 0 ≤ i ∧ i ≤ (↑n : Int) ∧ n ≤ c ∧ ∀ (a' : Option Addr), (i < (↑c : Int) → a' = Option.map (fun (ad : Addr) => Addr.add ad (Int.toNat i * 2)) a) → (Int.ofNat 1 = 0 → f (SV.v (Value.slice a n c)) own H) ∧ (¬Int.ofNat 1 = 0 → (i = (↑n :
 Int) → ∃ (xs : List Value), ∃ (cells : List Value), Row base H 80 2 a n c xs ∧ List.length cells = 1 * 2 ∧ allOne cells = true ∧ (1 = 0 ∨ ∃ (b : Nat), ∃ (o : Nat), some (Addr.mk g 0 none) = some (Addr.mk b o none) ∧ cellsAt H b o 0
 cells) ∧ (n + 1) * 16 ≤ 140737488355328 ∧ n + 1 ≤ 9223372036854775807 ∧ ∀ (a' : Option Addr) (c' : Nat) (H' : Heap), Grew base H H' a c a' c' (n + 1) → Row base H' 80 2 a' (n + 1) c' (xs ++ cells) → f (SV.v (Value.slice a' (n + 1) c'))
 own H') ∧ (¬i = (↑n : Int) → ∀ (r : Int), r = IntKind.wrap IntKind.i64 ((↑n : Int) + 1) → ((↑c : Int) < r → 0 ≤ i ∧ i ≤ (↑c : Int) ∧ ∀ (r : Int), r = IntKind.wrap IntKind.i64 ((↑n : Int) + 1) → ∀ (r_1 : Int), r_1 = IntKind.wrap
 IntKind.i64 (r - i) → ∃ (xs : List Value), ∃ (m : Nat), r_1 = (↑m : Int) ∧ 0 < m ∧ c < Int.toNat i + m ∧ Row base H 80 2 a (Int.toNat i) c xs ∧ (Int.toNat i + m) * 16 ≤ 140737488355328 ∧ Int.toNat i + m ≤ 9223372036854775807 ∧ ∀ (g_1
 c' : Nat) (H' : Heap), Vg.Next base H H' → H g_1 = none → Row base H' 80 2 (some (Addr.mk g_1 0 none)) (Int.toNat i + m) c' (xs ++ List.flatten (List.replicate m [Value.int IntKind.i64 0, Value.int IntKind.i64 0])) → 0 ≤ i ∧ i ≤
 (↑(Int.toNat i + m) : Int) ∧ Int.toNat i + m ≤ c' ∧ ∀ (a' : Option Addr), (i < (↑c' : Int) → a' = Option.map (fun (ad : Addr) => Addr.add ad (Int.toNat i * 2)) (some (Addr.mk g_1 0 none))) → (min 1 (Int.toNat i + m - Int.toNat i) = 0 →
 ∀ (r : Int), r = IntKind.wrap IntKind.i64 (i + 1) → 0 ≤ r ∧ r ≤ (↑(Int.toNat i + m) : Int) ∧ Int.toNat i + m ≤ c' ∧ ∀ (a' : Option Addr), (r < (↑c' : Int) → a' = Option.map (fun (ad : Addr) => Addr.add ad (Int.toNat r * 2)) (some
 (Addr.mk g_1 0 none))) → 0 ≤ i ∧ i ≤ (↑n : Int) ∧ n ≤ c ∧ ∀ (a'_1 : Option Addr), (i < (↑c : Int) → a'_1 = Option.map (fun (ad : Addr) => Addr.add ad (Int.toNat i * 2)) a) → (min (n - Int.toNat i) (Int.toNat i + m - Int.toNat r) = 0 →
 f (SV.v (Value.slice (some (Addr.mk g_1 0 none)) (Int.toNat i + m) c')) own H') ∧ (min (n - Int.toNat i) (Int.toNat i + m - Int.toNat r) ≠ 0 → ∃ (cells : List Value), ∃ (b : Nat), ∃ (o : Nat), ∃ (b' : Nat), ∃ (o' : Nat), ∃ (k : KB),
 List.length cells = min (n - Int.toNat i) (Int.toNat i + m - Int.toNat r) * 2 ∧ allOne cells = true ∧ a'_1 = some (Addr.mk b o none) ∧ cellsAt H' b o 0 cells ∧ a' = some (Addr.mk b' o' none) ∧ H' b' = some k ∧ KB.free k = true ∧ base ≤
 b' ∧ o' + List.length cells ≤ KB.size k ∧ ∀ (H'_1 : Heap), Upd H' b' o' k cells H'_1 → f (SV.v (Value.slice (some (Addr.mk g_1 0 none)) (Int.toNat i + m) c')) own H'_1)) ∧ (min 1 (Int.toNat i + m - Int.toNat i) ≠ 0 → ∃ (cells : List
 Value), ∃ (b : Nat), ∃ (o : Nat), ∃ (b' : Nat), ∃ (o' : Nat), ∃ (k : KB), List.length cells = min 1 (Int.toNat i + m - Int.toNat i) * 2 ∧ allOne cells = true ∧ some (Addr.mk g 0 none) = some (Addr.mk b o none) ∧ cellsAt H' b o 0 cells
 ∧ a' = some (Addr.mk b' o' none) ∧ H' b' = some k ∧ KB.free k = true ∧ base ≤ b' ∧ o' + List.length cells ≤ KB.size k ∧ ∀ (H'_1 : Heap), Upd H' b' o' k cells H'_1 → ∀ (r : Int), r = IntKind.wrap IntKind.i64 (i + 1) → 0 ≤ r ∧ r ≤
 (↑(Int.toNat i + m) : Int) ∧ Int.toNat i + m ≤ c' ∧ ∀ (a' : Option Addr), (r < (↑c' : Int) → a' = Option.map (fun (ad : Addr) => Addr.add ad (Int.toNat r * 2)) (some (Addr.mk g_1 0 none))) → 0 ≤ i ∧ i ≤ (↑n : Int) ∧ n ≤ c ∧ ∀ (a'_1 :
 Option Addr), (i < (↑c : Int) → a'_1 = Option.map (fun (ad : Addr) => Addr.add ad (Int.toNat i * 2)) a) → (min (n - Int.toNat i) (Int.toNat i + m - Int.toNat r) = 0 → f (SV.v (Value.slice (some (Addr.mk g_1 0 none)) (Int.toNat i + m)
 c')) own H'_1) ∧ (min (n - Int.toNat i) (Int.toNat i + m - Int.toNat r) ≠ 0 → ∃ (cells : List Value), ∃ (b : Nat), ∃ (o : Nat), ∃ (b' : Nat), ∃ (o' : Nat), ∃ (k : KB), List.length cells = min (n - Int.toNat i) (Int.toNat i + m -
 Int.toNat r) * 2 ∧ allOne cells = true ∧ a'_1 = some (Addr.mk b o none) ∧ cellsAt H'_1 b o 0 cells ∧ a' = some (Addr.mk b' o' none) ∧ H'_1 b' = some k ∧ KB.free k = true ∧ base ≤ b' ∧ o' + List.length cells ≤ KB.size k ∧ ∀ (H' : Heap),
 Upd H'_1 b' o' k cells H' → f (SV.v (Value.slice (some (Addr.mk g_1 0 none)) (Int.toNat i + m) c')) own H'))) ∧ (¬(↑c : Int) < r → ∀ (r : Int), r = IntKind.wrap IntKind.i64 ((↑n : Int) + 1) → 0 ≤ r ∧ r ≤ (↑c : Int) ∧ ∀ (r_1 : Int), r_1
 = IntKind.wrap IntKind.i64 (i + 1) → 0 ≤ r_1 ∧ r_1 ≤ (↑(Int.toNat r) : Int) ∧ Int.toNat r ≤ c ∧ ∀ (a' : Option Addr), (r_1 < (↑c : Int) → a' = Option.map (fun (ad : Addr) => Addr.add ad (Int.toNat r_1 * 2)) a) → ExtRuns Tryz.prog H 111
 [Value.slice (some (Addr.mk g 0 none)) 1 1, Value.slice a' (Int.toNat r - Int.toNat r_1) (c - Int.toNat r_1)] (Value.bool false) ∧ ∀ (r_2 : Int), r_2 = IntKind.wrap IntKind.i64 (i + 1) → 0 ≤ r_2 ∧ r_2 ≤ (↑(Int.toNat r) : Int) ∧
 Int.toNat r ≤ c ∧ ∀ (a' : Option Addr), (r_2 < (↑c : Int) → a' = Option.map (fun (ad : Addr) => Addr.add ad (Int.toNat r_2 * 2)) a) → 0 ≤ i ∧ i ≤ (↑(Int.toNat r) : Int) ∧ Int.toNat r ≤ c ∧ ∀ (a'_1 : Option Addr), (i < (↑c : Int) → a'_1
 = Option.map (fun (ad : Addr) => Addr.add ad (Int.toNat i * 2)) a) → (min (Int.toNat r - Int.toNat i) (Int.toNat r - Int.toNat r_2) = 0 → 0 ≤ i ∧ i ≤ (↑(Int.toNat r) : Int) ∧ Int.toNat r ≤ c ∧ ∀ (a' : Option Addr), (i < (↑c : Int) → a'
 = Option.map (fun (ad : Addr) => Addr.add ad (Int.toNat i * 2)) a) → (min 1 (Int.toNat r - Int.toNat i) = 0 → f (SV.v (Value.slice a (Int.toNat r) c)) own H) ∧ (min 1 (Int.toNat r - Int.toNat i) ≠ 0 → ∃ (cells : List Value), ∃ (b :
 Nat), ∃ (o : Nat), ∃ (b' : Nat), ∃ (o' : Nat), ∃ (k : KB), List.length cells = min 1 (Int.toNat r - Int.toNat i) * 2 ∧ allOne cells = true ∧ some (Addr.mk g 0 none) = some (Addr.mk b o none) ∧ cellsAt H b o 0 cells ∧ a' = some (Addr.mk
 b' o' none) ∧ H b' = some k ∧ KB.free k = true ∧ base ≤ b' ∧ o' + List.length cells ≤ KB.size k ∧ ∀ (H' : Heap), Upd H b' o' k cells H' → f (SV.v (Value.slice a (Int.toNat r) c)) own H')) ∧ (min (Int.toNat r - Int.toNat i) (Int.toNat r
 - Int.toNat r_2) ≠ 0 → ∃ (cells : List Value), ∃ (b : Nat), ∃ (o : Nat), ∃ (b' : Nat), ∃ (o' : Nat), ∃ (k : KB), List.length cells = min (Int.toNat r - Int.toNat i) (Int.toNat r - Int.toNat r_2) * 2 ∧ allOne cells = true ∧ a'_1 = some
 (Addr.mk b o none) ∧ cellsAt H b o 0 cells ∧ a' = some (Addr.mk b' o' none) ∧ H b' = some k ∧ KB.free k = true ∧ base ≤ b' ∧ o' + List.length cells ≤ KB.size k ∧ ∀ (H' : Heap), Upd H b' o' k cells H' → 0 ≤ i ∧ i ≤ (↑(Int.toNat r) :
 Int) ∧ Int.toNat r ≤ c ∧ ∀ (a' : Option Addr), (i < (↑c : Int) → a' = Option.map (fun (ad : Addr) => Addr.add ad (Int.toNat i * 2)) a) → (min 1 (Int.toNat r - Int.toNat i) = 0 → f (SV.v (Value.slice a (Int.toNat r) c)) own H') ∧ (min 1
 (Int.toNat r - Int.toNat i) ≠ 0 → ∃ (cells : List Value), ∃ (b : Nat), ∃ (o : Nat), ∃ (b' : Nat), ∃ (o' : Nat), ∃ (k : KB), List.length cells = min 1 (Int.toNat r - Int.toNat i) * 2 ∧ allOne cells = true ∧ some (Addr.mk g 0 none) =
 some (Addr.mk b o none) ∧ cellsAt H' b o 0 cells ∧ a' = some (Addr.mk b' o' none) ∧ H' b' = some k ∧ KB.free k = true ∧ base ≤ b' ∧ o' + List.length cells ≤ KB.size k ∧ ∀ (H'_1 : Heap), Upd H' b' o' k cells H'_1 → f (SV.v (Value.slice
 a (Int.toNat r) c)) own H'_1)))))) := by kernel_rfl
theorem vcI123 (a : Option Addr) (n c : Nat) (i j : Int) (base : Nat) (H0 : Heap) (own : List Bx) (H : Heap) (f : SV → List Bx → Heap → Prop) :
  (codeI ⟨Tryz.prog, Tryz.f85.ntmps, ⟨TryzList, TryzIn2, true⟩, base, H0⟩ Tryz.f85 [.v (.slice a n c), .v (.int .i64 i), .v (.int .i64 j)] own H f) = (
 0 ≤ i ∧ i ≤ j ∧ j ≤ (↑n : Int) ∧ (↑n : Int) ≤ (↑c : Int) ∧ ∀ (a' : Option Addr), (i < (↑n : Int) → a' = Option.map (fun (ad : Addr) => Addr.add ad (Int.toNat i * 2)) a) → (i = j → f (SV.v (Value.slice a n c)) own H) ∧ (¬i = j → 0 ≤ i ∧
 i ≤ (↑c : Int) ∧ 0 ≤ j ∧ j ≤ (↑n : Int) ∧ n ≤ c ∧ ∀ (a' : Option Addr), (j < (↑c : Int) → a' = Option.map (fun (ad : Addr) => Addr.add ad (Int.toNat j * 2)) a) → ∃ (xs : List Value), ∃ (cells : List Value), Row base H 80 2 a (Int.toNat
 i) c xs ∧ List.length cells = (n - Int.toNat j) * 2 ∧ allOne cells = true ∧ (n - Int.toNat j = 0 ∨ ∃ (b : Nat), ∃ (o : Nat), a' = some (Addr.mk b o none) ∧ cellsAt H b o 0 cells) ∧ (Int.toNat i + (n - Int.toNat j)) * 16 ≤
 140737488355328 ∧ Int.toNat i + (n - Int.toNat j) ≤ 9223372036854775807 ∧ ∀ (a' : Option Addr) (c' : Nat) (H' : Heap), Grew base H H' a c a' c' (Int.toNat i + (n - Int.toNat j)) → Row base H' 80 2 a' (Int.toNat i + (n - Int.toNat j))
 c' (xs ++ cells) → 0 ≤ (↑(Int.toNat i + (n - Int.toNat j)) : Int) ∧ (↑(Int.toNat i + (n - Int.toNat j)) : Int) ≤ (↑n : Int) ∧ (↑n : Int) ≤ (↑c' : Int) ∧ ∀ (a'_1 : Option Addr), ((↑(Int.toNat i + (n - Int.toNat j)) : Int) < (↑c' : Int)
 → a'_1 = Option.map (fun (ad : Addr) => Addr.add ad (Int.toNat (↑(Int.toNat i + (n - Int.toNat j)) : Int) * 2)) a') → (Int.toNat (↑n : Int) - Int.toNat (↑(Int.toNat i + (n - Int.toNat j)) : Int) = 0 → f (SV.v (Value.slice a' (Int.toNat
 i + (n - Int.toNat j)) c')) own H') ∧ (Int.toNat (↑n : Int) - Int.toNat (↑(Int.toNat i + (n - Int.toNat j)) : Int) ≠ 0 → ∃ (b : Nat), ∃ (o : Nat), ∃ (k : KB), a'_1 = some (Addr.mk b o none) ∧ H' b = some k ∧ KB.free k = true ∧ base ≤ b
 ∧ o + (Int.toNat (↑n : Int) - Int.toNat (↑(Int.toNat i + (n - Int.toNat j)) : Int)) * 2 ≤ KB.size k ∧ ∀ (H'_1 : Heap), Upd H' b o k (List.flatten (List.replicate (Int.toNat (↑n : Int) - Int.toNat (↑(Int.toNat i + (n - Int.toNat j)) :
 Int)) [Value.int IntKind.i64 0, Value.int IntKind.i64 0])) H'_1 → f (SV.v (Value.slice a' (Int.toNat i + (n - Int.toNat j)) c')) own H'_1))) := by kernel_rfl
end Go.Vg
