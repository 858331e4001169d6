/- Verification conditions of functions, as the definitions of this proof reckon them (each by the kernel). -/
import Derived.Test.YtglnjkkaojhgnaaGreatDoorSeat
set_option maxRecDepth 100000
set_option linter.unusedSimpArgs false
set_option linter.unusedVariables false
namespace Go.Vg
open Go Go.Proofs
theorem vc102 (n a b : Int) (base : Nat) (H : Heap) (K : Value → List (List Value) → Heap → Prop) :
  (funV ⟨Tryz.prog, Tryz.f105.ntmps, TryzMuts, base, H⟩ (bodyOf Tryz.f105) Tryz.f105.results.toList [.v (.int .i64 n), .v (.int .i64 a), .v (.int .i64 b)] [] K) = (
 (a ≤ n → K (Value.bool (decide (n ≤ b))) [] H) ∧ (¬a ≤ n → K (Value.bool false) [] H)) := by kernel_rfl
theorem vc140 (a : Option Addr) (l c : Nat) (x : Int) (base : Nat) (H : Heap) (K : Value → List (List Value) → Heap → Prop) :
  (funV ⟨Tryz.prog, Tryz.f161.ntmps, TryzMuts, base, H⟩ (bodyOf Tryz.f161) Tryz.f161.results.toList [.v (.slice a l c), .v (.int .i64 x)] [] K) = (
 ∃ (I : List Value → Heap → Prop), ∃ (μ : List Value → Nat), I [Value.int IntKind.i64 0, Value.int IntKind.i64 0] H ∧ ∀ (n n_1 : Int) (H' : Heap), Vg.Next base H H' → I [Value.int IntKind.i64 n, Value.int IntKind.i64 n_1] H' → (n_1 <
 (↑l : Int) → ∃ (b : Nat), ∃ (o : Nat), a = some (Addr.mk b o none) ∧ 0 ≤ n_1 ∧ n_1 < (↑l : Int) ∧ ∃ (n_2 : Int), Heap.cell H' b (o + Int.toNat n_1 * 1) = some (Value.int IntKind.i64 n_2) ∧ (x = n_2 → K (Value.int IntKind.i64 n_1) []
 H') ∧ (¬x = n_2 → ∀ (r : Int), r = IntKind.wrap IntKind.i64 (n_1 + 1) → I [Value.int IntKind.i64 n, Value.int IntKind.i64 r] H' ∧ μ [Value.int IntKind.i64 n, Value.int IntKind.i64 r] < μ [Value.int IntKind.i64 n, Value.int IntKind.i64
 n_1])) ∧ (¬n_1 < (↑l : Int) → K (Value.int IntKind.i64 (-1)) [] H')) := by kernel_rfl
theorem vc103 (a : Option Addr) (l c : Nat) (x : Int) (base : Nat) (H : Heap) (K : Value → List (List Value) → Heap → Prop) :
  (funV ⟨Tryz.prog, Tryz.f140.ntmps, TryzMuts, base, H⟩ (bodyOf Tryz.f140) Tryz.f140.results.toList [.v (.slice a l c), .v (.int .i64 x)] [] K) = (
 Vg.Spec Tryz.prog 161 [Value.slice a l c, Value.int IntKind.i64 x] H fun (v : Value) (H' : Heap) => ∃ (n : Int), v = Value.int IntKind.i64 n ∧ (Vg.Next base H H' → K (Value.bool (decide (0 ≤ n))) [] H')) := by kernel_rfl
theorem vc26 (a : Option Addr) (l c : Nat) (k : Int) (base : Nat) (H : Heap) (K : Value → List (List Value) → Heap → Prop) :
  (funV ⟨Tryz.prog, Tryz.f113.ntmps, TryzMuts, base, H⟩ (bodyOf Tryz.f113) Tryz.f113.results.toList [.v (.slice a l c), .v (.int .i64 k)] [] K) = (
 (k < 1 → K (Value.int IntKind.i64 3) [] H) ∧ (¬k < 1 → (6 < k → K (Value.int IntKind.i64 3) [] H) ∧ (¬6 < k → ∀ (b : Nat), ∃ (I : List Value → Heap → Prop), ∃ (μ : List Value → Nat), I [Value.int IntKind.i64 0, Value.int IntKind.i64 0,
 Value.agg #[]] H ∧ ∀ (n n_1 : Int) (cs : List Value) (H' : Heap), Vg.Next base H H' → I [Value.int IntKind.i64 n, Value.int IntKind.i64 n_1, Value.agg (List.toArray cs)] H' → (n_1 < (↑l : Int) → ∃ (b : Nat), ∃ (o : Nat), a = some
 (Addr.mk b o none) ∧ 0 ≤ n_1 ∧ n_1 < (↑l : Int) ∧ ∃ (a : Option Addr), ∃ (n_2 : Nat), ∃ (c : Nat), Heap.cell H' b (o + Int.toNat n_1 * 1) = some (Value.slice a n_2 c) ∧ ((↑n_2 : Int) = 0 → K (Value.int IntKind.i64 4) [] H') ∧ (¬(↑n_2 :
 Int) = 0 → ∃ (I_1 : List Value → Heap → Prop), ∃ (μ_1 : List Value → Nat), I_1 [Value.int IntKind.i64 n, Value.int IntKind.i64 0, Value.agg (List.toArray cs)] H' ∧ ∀ (n_3 n_4 : Int) (cs_1 : List Value) (H' : Heap), Vg.Next base H H' →
 I_1 [Value.int IntKind.i64 n_3, Value.int IntKind.i64 n_4, Value.agg (List.toArray cs_1)] H' → (n_4 < (↑n_2 : Int) → ∃ (b : Nat), ∃ (o : Nat), a = some (Addr.mk b o none) ∧ 0 ≤ n_4 ∧ n_4 < (↑n_2 : Int) ∧ ∃ (n : Int), Heap.cell H' b (o
 + Int.toNat n_4 * 1) = some (Value.int IntKind.i64 n) ∧ (n < 0 → K (Value.int IntKind.i64 5) [] H') ∧ (¬n < 0 → (k ≤ n → K (Value.int IntKind.i64 5) [] H') ∧ (¬k ≤ n → ∃ (b : Bool), ∃ (b_1 : Bool), mapGet (Value.bool false) (Value.int
 IntKind.i64 n) cs_1 = some (Value.bool b, b_1) ∧ (b = true → K (Value.int IntKind.i64 6) [] H') ∧ (b = false → ∃ (cs' : List Value), mapSet (Value.int IntKind.i64 n) (Value.bool true) cs_1 = some cs' ∧ ∀ (r : Int), r = IntKind.wrap
 IntKind.i64 (n_4 + 1) → I_1 [Value.int IntKind.i64 n_3, Value.int IntKind.i64 r, Value.agg (List.toArray cs')] H' ∧ μ_1 [Value.int IntKind.i64 n_3, Value.int IntKind.i64 r, Value.agg (List.toArray cs')] < μ_1 [Value.int IntKind.i64
 n_3, Value.int IntKind.i64 n_4, Value.agg (List.toArray cs_1)])))) ∧ (¬n_4 < (↑n_2 : Int) → ∀ (r : Int), r = IntKind.wrap IntKind.i64 (n_1 + 1) → I [Value.int IntKind.i64 n_3, Value.int IntKind.i64 r, Value.agg (List.toArray cs_1)] H'
 ∧ μ [Value.int IntKind.i64 n_3, Value.int IntKind.i64 r, Value.agg (List.toArray cs_1)] < μ [Value.int IntKind.i64 n, Value.int IntKind.i64 n_1, Value.agg (List.toArray cs)]))) ∧ (¬n_1 < (↑l : Int) → ((↑(List.length cs / 2) : Int) < k
 → K (Value.int IntKind.i64 4) [] H') ∧ (¬(↑(List.length cs / 2) : Int) < k → K (Value.int IntKind.i64 0) [] H'))))) := by kernel_rfl
theorem vc105 (a : Option Addr) (l c : Nat) (p : Nat) (base : Nat) (H : Heap) (K : Value → List (List Value) → Heap → Prop) :
  (funV ⟨Tryz.prog, Tryz.f139.ntmps, TryzMuts, base, H⟩ (bodyOf Tryz.f139) Tryz.f139.results.toList [.v (.slice a l c), .v (.pointer (some ⟨p, 0, none⟩))] [] K) = (
 ∃ (n : Int), Heap.cell H p 0 = some (Value.int IntKind.i64 n) ∧ Vg.Spec Tryz.prog 140 [Value.slice a l c, Value.int IntKind.i64 n] H fun (v : Value) (H' : Heap) => ∃ (b : Bool), v = Value.bool b ∧ (Vg.Next base H H' → K (Value.bool b)
 [] H')) := by kernel_rfl
theorem vc104 (a : Option Addr) (l c : Nat) (p : Nat) (base : Nat) (H : Heap) (K : Value → List (List Value) → Heap → Prop) :
  (funV ⟨Tryz.prog, Tryz.f138.ntmps, TryzMuts, base, H⟩ (bodyOf Tryz.f138) Tryz.f138.results.toList [.v (.slice a l c), .v (.func (.func 139) #[] #[.pointer (some ⟨p, 0, none⟩)])] [] K) = (
 ∃ (I : List Value → Heap → Prop), ∃ (μ : List Value → Nat), I [Value.int IntKind.i64 0, Value.int IntKind.i64 0] H ∧ ∀ (n n_1 : Int) (H' : Heap), Vg.Next base H H' → I [Value.int IntKind.i64 n, Value.int IntKind.i64 n_1] H' → (n_1 <
 (↑l : Int) → ∃ (b : Nat), ∃ (o : Nat), a = some (Addr.mk b o none) ∧ 0 ≤ n_1 ∧ n_1 < (↑l : Int) ∧ ∃ (a : Option Addr), ∃ (n_2 : Nat), ∃ (c : Nat), Heap.cell H' b (o + Int.toNat n_1 * 1) = some (Value.slice a n_2 c) ∧ Vg.Spec Tryz.prog
 139 [Value.slice a n_2 c, Value.pointer (some (Addr.mk p 0 none))] H' fun (v : Value) (H'_1 : Heap) => ∃ (b : Bool), v = Value.bool b ∧ (Vg.Next base H' H'_1 → (b = true → K (Value.int IntKind.i64 n_1) [] H'_1) ∧ (b = false → ∀ (r :
 Int), r = IntKind.wrap IntKind.i64 (n_1 + 1) → I [Value.int IntKind.i64 n, Value.int IntKind.i64 r] H'_1 ∧ μ [Value.int IntKind.i64 n, Value.int IntKind.i64 r] < μ [Value.int IntKind.i64 n, Value.int IntKind.i64 n_1]))) ∧ (¬n_1 < (↑l :
 Int) → K (Value.int IntKind.i64 (-1)) [] H')) := by kernel_rfl
theorem vc27 (a : Option Addr) (l c : Nat) (k : Int) (base : Nat) (H : Heap) (K : Value → List (List Value) → Heap → Prop) :
  (funV ⟨Tryz.prog, Tryz.f116.ntmps, TryzMuts, base, H⟩ (bodyOf Tryz.f116) Tryz.f116.results.toList [.v (.slice a l c), .v (.int .i64 k)] [] K) = (
 ∀ (b : Nat), true = true ∧ ∀ (Hl : Heap), Vg.Next 0 H Hl → Hl b = some (boxKB 3 [Value.int IntKind.i64 k]) ∧ True → Vg.Spec Tryz.prog 138 [Value.slice a l c, Value.func (Fn.func 139) #[] #[Value.pointer (some (Addr.mk b 0 none))]] Hl
 fun (v : Value) (H'' : Heap) => ∃ (n : Int), v = Value.int IntKind.i64 n ∧ ∀ (H' : Heap), Vg.Next base H H' → (∀ (b_1 : Nat) (k_1 : KB), H'' b_1 = some k_1 → (∀ (x : Bx), x ∈ [Bx.mk b false 3 [Value.int IntKind.i64 k]] → b_1 ≠ Bx.b x)
 → H' b_1 = some k_1) → K (Value.int IntKind.i64 n) [] H') := by kernel_rfl
theorem vc23 (a a' : Option Addr) (l c l' c' : Nat) (base : Nat) (H : Heap) (K : Value → List (List Value) → Heap → Prop) :
  (funV ⟨Tryz.prog, Tryz.f114.ntmps, TryzMuts, base, H⟩ (bodyOf Tryz.f114) Tryz.f114.results.toList [.v (.slice a l c), .v (.slice a' l' c')] [] K) = (
 Vg.Spec Tryz.prog 113 [Value.slice a l c, Value.int IntKind.i64 (↑l' : Int)] H fun (v : Value) (H' : Heap) => ∃ (n : Int), v = Value.int IntKind.i64 n ∧ (Vg.Next base H H' → (¬n = 0 → K (Value.tuple #[Value.int IntKind.i64 0, Value.int
 IntKind.i64 n]) [] H') ∧ (¬¬n = 0 → ∃ (I : List Value → Heap → Prop), ∃ (μ : List Value → Nat), I [Value.int IntKind.i64 0, Value.int IntKind.i64 0, Value.int IntKind.i64 0] H' ∧ ∀ (n n_1 n_2 : Int) (H' : Heap), Vg.Next base H H' → I
 [Value.int IntKind.i64 n, Value.int IntKind.i64 n_1, Value.int IntKind.i64 n_2] H' → (n_2 < (↑l : Int) → ∃ (b : Nat), ∃ (o : Nat), a = some (Addr.mk b o none) ∧ 0 ≤ n_2 ∧ n_2 < (↑l : Int) ∧ ∃ (a : Option Addr), ∃ (n_3 : Nat), ∃ (c :
 Nat), Heap.cell H' b (o + Int.toNat n_2 * 1) = some (Value.slice a n_3 c) ∧ ∃ (I_1 : List Value → Heap → Prop), ∃ (μ_1 : List Value → Nat), I_1 [Value.int IntKind.i64 n, Value.int IntKind.i64 n_1, Value.int IntKind.i64 0] H' ∧ ∀ (n_4
 n_5 n_6 : Int) (H' : Heap), Vg.Next base H H' → I_1 [Value.int IntKind.i64 n_4, Value.int IntKind.i64 n_5, Value.int IntKind.i64 n_6] H' → (n_6 < (↑n_3 : Int) → ∃ (b : Nat), ∃ (o : Nat), a = some (Addr.mk b o none) ∧ 0 ≤ n_6 ∧ n_6 <
 (↑n_3 : Int) ∧ ∃ (n : Int), Heap.cell H' b (o + Int.toNat n_6 * 1) = some (Value.int IntKind.i64 n) ∧ ∃ (b : Nat), ∃ (o : Nat), a' = some (Addr.mk b o none) ∧ 0 ≤ n ∧ n < (↑l' : Int) ∧ ∃ (b_1 : Bool), Heap.cell H' b (o + Int.toNat n *
 1) = some (Value.bool b_1) ∧ (b_1 = false → K (Value.tuple #[Value.int IntKind.i64 n_2, Value.int IntKind.i64 0]) [] H') ∧ (¬b_1 = false → ∀ (r : Int), r = IntKind.wrap IntKind.i64 (n_6 + 1) → I_1 [Value.int IntKind.i64 n_4, Value.int
 IntKind.i64 n_5, Value.int IntKind.i64 r] H' ∧ μ_1 [Value.int IntKind.i64 n_4, Value.int IntKind.i64 n_5, Value.int IntKind.i64 r] < μ_1 [Value.int IntKind.i64 n_4, Value.int IntKind.i64 n_5, Value.int IntKind.i64 n_6])) ∧ (¬n_6 <
 (↑n_3 : Int) → ∀ (r : Int), r = IntKind.wrap IntKind.i64 (n_2 + 1) → I [Value.int IntKind.i64 n_4, Value.int IntKind.i64 n_5, Value.int IntKind.i64 r] H' ∧ μ [Value.int IntKind.i64 n_4, Value.int IntKind.i64 n_5, Value.int IntKind.i64
 r] < μ [Value.int IntKind.i64 n, Value.int IntKind.i64 n_1, Value.int IntKind.i64 n_2])) ∧ (¬n_2 < (↑l : Int) → K (Value.tuple #[Value.int IntKind.i64 (↑l : Int), Value.int IntKind.i64 0]) [] H')))) := by kernel_rfl
end Go.Vg
set_option maxRecDepth 100000
set_option linter.unusedSimpArgs false
set_option linter.unusedVariables false
namespace Go.Vg
open Go Go.Proofs
theorem vc62 (a : Option Addr) (l c : Nat) (base : Nat) (H : Heap) (K : Value → List (List Value) → Heap → Prop) :
  (funV ⟨Tryz.prog, Tryz.f81.ntmps, TryzMuts, base, H⟩ (bodyOf Tryz.f81) Tryz.f81.results.toList [.v (.slice a l c)] [] K) = (
 (12 < (↑l : Int) → K (Value.int IntKind.i64 2) [] H) ∧ (¬12 < (↑l : Int) → ∃ (I : List Value → Heap → Prop), ∃ (μ : List Value → Nat), I [Value.int IntKind.i64 0, Value.int IntKind.i64 0] H ∧ ∀ (n n_1 : Int) (H' : Heap), Vg.Next base H
 H' → I [Value.int IntKind.i64 n, Value.int IntKind.i64 n_1] H' → (n_1 < (↑l : Int) → ∃ (b : Nat), ∃ (o : Nat), a = some (Addr.mk b o none) ∧ 0 ≤ n_1 ∧ n_1 < (↑l : Int) ∧ ∃ (n_2 : Int), ∃ (n_3 : Int), (Heap.cell H' b (o + Int.toNat n_1
 * 2) = some (Value.int IntKind.i64 n_2) ∧ Heap.cell H' b (o + Int.toNat n_1 * 2 + 1) = some (Value.int IntKind.i64 n_3) ∧ True) ∧ ∀ (b : Nat), (n_2 < 1 → K (Value.int IntKind.i64 3) [] H') ∧ (¬n_2 < 1 → (20 < n_2 → K (Value.int
 IntKind.i64 3) [] H') ∧ (¬20 < n_2 → (n_3 < 1 → K (Value.int IntKind.i64 3) [] H') ∧ (¬n_3 < 1 → (99 < n_3 → K (Value.int IntKind.i64 3) [] H') ∧ (¬99 < n_3 → (0 < n_1 → ∀ (r : Int), r = IntKind.wrap IntKind.i64 (n_1 - 1) → ∃ (b :
 Nat), ∃ (o : Nat), a = some (Addr.mk b o none) ∧ 0 ≤ r ∧ r < (↑l : Int) ∧ ∃ (n_4 : Int), Heap.cell H' b (o + Int.toNat r * 2) = some (Value.int IntKind.i64 n_4) ∧ (n_2 ≤ n_4 → K (Value.int IntKind.i64 6) [] H') ∧ (¬n_2 ≤ n_4 → ∀ (r :
 Int), r = IntKind.wrap IntKind.i64 (n_1 + 1) → I [Value.int IntKind.i64 n, Value.int IntKind.i64 r] H' ∧ μ [Value.int IntKind.i64 n, Value.int IntKind.i64 r] < μ [Value.int IntKind.i64 n, Value.int IntKind.i64 n_1])) ∧ (¬0 < n_1 → ∀ (r
 : Int), r = IntKind.wrap IntKind.i64 (n_1 + 1) → I [Value.int IntKind.i64 n, Value.int IntKind.i64 r] H' ∧ μ [Value.int IntKind.i64 n, Value.int IntKind.i64 r] < μ [Value.int IntKind.i64 n, Value.int IntKind.i64 n_1])))))) ∧ (¬n_1 <
 (↑l : Int) → K (Value.int IntKind.i64 0) [] H'))) := by kernel_rfl
theorem vc108 (a : Option Addr) (l c : Nat) (base : Nat) (H : Heap) (K : Value → List (List Value) → Heap → Prop) :
  (funV ⟨Tryz.prog, Tryz.f135.ntmps, TryzMuts, base, H⟩ (bodyOf Tryz.f135) Tryz.f135.results.toList [.v (.slice a l c)] [] K) = (
 (12 < (↑l : Int) → K (Value.int IntKind.i64 2) [] H) ∧ (¬12 < (↑l : Int) → ∃ (I : List Value → Heap → Prop), ∃ (μ : List Value → Nat), I [Value.int IntKind.i64 0, Value.int IntKind.i64 0, Value.int IntKind.i64 0] H ∧ ∀ (n n_1 n_2 :
 Int) (H' : Heap), Vg.Next base H H' → I [Value.int IntKind.i64 n, Value.int IntKind.i64 n_1, Value.int IntKind.i64 n_2] H' → (n_2 < (↑l : Int) → ∃ (b : Nat), ∃ (o : Nat), a = some (Addr.mk b o none) ∧ 0 ≤ n_2 ∧ n_2 < (↑l : Int) ∧ ∃
 (n_3 : Int), ∃ (n_4 : Int), (Heap.cell H' b (o + Int.toNat n_2 * 2) = some (Value.int IntKind.i64 n_3) ∧ Heap.cell H' b (o + Int.toNat n_2 * 2 + 1) = some (Value.int IntKind.i64 n_4) ∧ True) ∧ ∀ (b : Nat), Vg.Spec Tryz.prog 105
 [Value.int IntKind.i64 n_3, Value.int IntKind.i64 1, Value.int IntKind.i64 20] H' fun (v : Value) (H'_1 : Heap) => ∃ (b : Bool), v = Value.bool b ∧ (Vg.Next base H' H'_1 → (b = false → K (Value.int IntKind.i64 3) [] H'_1) ∧ (¬b = false
 → Vg.Spec Tryz.prog 105 [Value.int IntKind.i64 n_4, Value.int IntKind.i64 1, Value.int IntKind.i64 99] H'_1 fun (v : Value) (H' : Heap) => ∃ (b : Bool), v = Value.bool b ∧ (Vg.Next base H'_1 H' → (b = false → K (Value.int IntKind.i64 3)
 [] H') ∧ (¬b = false → (n_3 ≤ n_1 → K (Value.int IntKind.i64 6) [] H') ∧ (¬n_3 ≤ n_1 → ∀ (r : Int), r = IntKind.wrap IntKind.i64 (n_2 + 1) → I [Value.int IntKind.i64 n, Value.int IntKind.i64 n_3, Value.int IntKind.i64 r] H' ∧ μ
 [Value.int IntKind.i64 n, Value.int IntKind.i64 n_3, Value.int IntKind.i64 r] < μ [Value.int IntKind.i64 n, Value.int IntKind.i64 n_1, Value.int IntKind.i64 n_2])))))) ∧ (¬n_2 < (↑l : Int) → K (Value.int IntKind.i64 0) [] H'))) := by kernel_rfl
theorem vc114 (n v : Int) (p : Nat) (base : Nat) (H : Heap) (K : Value → List (List Value) → Heap → Prop) :
  (funV ⟨Tryz.prog, Tryz.f136.ntmps, TryzMuts, base, H⟩ (bodyOf Tryz.f136) Tryz.f136.results.toList [.v (.agg #[.int .i64 n, .int .i64 v]), .v (.pointer (some ⟨p, 0, none⟩))] [] K) = (
 ∀ (b : Nat), ∃ (n_1 : Int), Heap.cell H p 0 = some (Value.int IntKind.i64 n_1) ∧ K (Value.bool (decide (n = n_1))) [] H) := by kernel_rfl
theorem vc113 (a : Option Addr) (l c : Nat) (p : Nat) (base : Nat) (H : Heap) (K : Value → List (List Value) → Heap → Prop) :
  (funV ⟨Tryz.prog, Tryz.f82.ntmps, TryzMuts, base, H⟩ (bodyOf Tryz.f82) Tryz.f82.results.toList [.v (.slice a l c), .v (.func (.func 136) #[] #[.pointer (some ⟨p, 0, none⟩)])] [] K) = (
 ∃ (I : List Value → Heap → Prop), ∃ (μ : List Value → Nat), I [Value.int IntKind.i64 0, Value.int IntKind.i64 0] H ∧ ∀ (n n_1 : Int) (H' : Heap), Vg.Next base H H' → I [Value.int IntKind.i64 n, Value.int IntKind.i64 n_1] H' → (n_1 <
 (↑l : Int) → ∃ (b : Nat), ∃ (o : Nat), a = some (Addr.mk b o none) ∧ 0 ≤ n_1 ∧ n_1 < (↑l : Int) ∧ ∃ (n_2 : Int), ∃ (n_3 : Int), (Heap.cell H' b (o + Int.toNat n_1 * 2) = some (Value.int IntKind.i64 n_2) ∧ Heap.cell H' b (o + Int.toNat
 n_1 * 2 + 1) = some (Value.int IntKind.i64 n_3) ∧ True) ∧ Vg.Spec Tryz.prog 136 [Value.agg #[Value.int IntKind.i64 n_2, Value.int IntKind.i64 n_3], Value.pointer (some (Addr.mk p 0 none))] H' fun (v : Value) (H'_1 : Heap) => ∃ (b :
 Bool), v = Value.bool b ∧ (Vg.Next base H' H'_1 → (b = true → K (Value.int IntKind.i64 n_1) [] H'_1) ∧ (b = false → ∀ (r : Int), r = IntKind.wrap IntKind.i64 (n_1 + 1) → I [Value.int IntKind.i64 n, Value.int IntKind.i64 r] H'_1 ∧ μ
 [Value.int IntKind.i64 n, Value.int IntKind.i64 r] < μ [Value.int IntKind.i64 n, Value.int IntKind.i64 n_1]))) ∧ (¬n_1 < (↑l : Int) → K (Value.int IntKind.i64 (-1)) [] H')) := by kernel_rfl
theorem vc42 (a : Option Addr) (l c : Nat) (k : Int) (base : Nat) (H : Heap) (K : Value → List (List Value) → Heap → Prop) :
  (funV ⟨Tryz.prog, Tryz.f109.ntmps, TryzMuts, base, H⟩ (bodyOf Tryz.f109) Tryz.f109.results.toList [.v (.slice a l c), .v (.int .i64 k)] [] K) = (
 ∀ (b : Nat), true = true ∧ ∀ (Hl : Heap), Vg.Next 0 H Hl → Hl b = some (boxKB 3 [Value.int IntKind.i64 k]) ∧ True → Vg.Spec Tryz.prog 82 [Value.slice a l c, Value.func (Fn.func 136) #[] #[Value.pointer (some (Addr.mk b 0 none))]] Hl
 fun (v : Value) (H'' : Heap) => ∃ (n : Int), v = Value.int IntKind.i64 n ∧ ∀ (H' : Heap), Vg.Next base H H' → (∀ (b_1 : Nat) (k_1 : KB), H'' b_1 = some k_1 → (∀ (x : Bx), x ∈ [Bx.mk b false 3 [Value.int IntKind.i64 k]] → b_1 ≠ Bx.b x)
 → H' b_1 = some k_1) → (n < 0 → K (Value.int IntKind.i64 0) [] H') ∧ (¬n < 0 → ∃ (b : Nat), ∃ (o : Nat), a = some (Addr.mk b o none) ∧ 0 ≤ n ∧ n < (↑l : Int) ∧ ∃ (n_1 : Int), Heap.cell H' b (o + Int.toNat n * 2 + 1) = some (Value.int
 IntKind.i64 n_1) ∧ K (Value.int IntKind.i64 n_1) [] H')) := by kernel_rfl
theorem vc41 (a a' : Option Addr) (l c l' c' : Nat) (base : Nat) (H : Heap) (K : Value → List (List Value) → Heap → Prop) :
  (funV ⟨Tryz.prog, Tryz.f42.ntmps, TryzMuts, base, H⟩ (bodyOf Tryz.f42) Tryz.f42.results.toList [.v (.slice a l c), .v (.slice a' l' c')] [] K) = (
 (¬(↑l : Int) = (↑l' : Int) → K (Value.bool false) [] H) ∧ (¬¬(↑l : Int) = (↑l' : Int) → ∃ (I : List Value → Heap → Prop), ∃ (μ : List Value → Nat), I [Value.bool false, Value.int IntKind.i64 0] H ∧ ∀ (b : Bool) (n : Int) (H' : Heap),
 Vg.Next base H H' → I [Value.bool b, Value.int IntKind.i64 n] H' → (n < (↑l : Int) → ∃ (b_1 : Nat), ∃ (o : Nat), a = some (Addr.mk b_1 o none) ∧ 0 ≤ n ∧ n < (↑l : Int) ∧ ∃ (n_1 : Int), ∃ (n_2 : Int), (Heap.cell H' b_1 (o + Int.toNat n
 * 2) = some (Value.int IntKind.i64 n_1) ∧ Heap.cell H' b_1 (o + Int.toNat n * 2 + 1) = some (Value.int IntKind.i64 n_2) ∧ True) ∧ ∃ (b_2 : Nat), ∃ (o : Nat), a' = some (Addr.mk b_2 o none) ∧ 0 ≤ n ∧ n < (↑l' : Int) ∧ ∃ (n_3 : Int), ∃
 (n_4 : Int), (Heap.cell H' b_2 (o + Int.toNat n * 2) = some (Value.int IntKind.i64 n_3) ∧ Heap.cell H' b_2 (o + Int.toNat n * 2 + 1) = some (Value.int IntKind.i64 n_4) ∧ True) ∧ ∃ (b_3 : Bool), RunsTo Tryz.prog (binRun BinOp.neq 80
 (Operand.tmp 19) (Operand.tmp 23) (Value.agg #[Value.int IntKind.i64 n_1, Value.int IntKind.i64 n_2]) (Value.agg #[Value.int IntKind.i64 n_3, Value.int IntKind.i64 n_4])) (Value.bool b_3) ∧ (b_3 = true → K (Value.bool false) [] H') ∧
 (¬b_3 = true → ∀ (r : Int), r = IntKind.wrap IntKind.i64 (n + 1) → I [Value.bool b, Value.int IntKind.i64 r] H' ∧ μ [Value.bool b, Value.int IntKind.i64 r] < μ [Value.bool b, Value.int IntKind.i64 n])) ∧ (¬n < (↑l : Int) → K
 (Value.bool true) [] H'))) := by kernel_rfl
theorem vc39 (a : Option Addr) (l c : Nat) (base : Nat) (H : Heap) (K : Value → List (List Value) → Heap → Prop) :
  (funV ⟨Tryz.prog, Tryz.f121.ntmps, TryzMuts, base, H⟩ (bodyOf Tryz.f121) Tryz.f121.results.toList [.v (.slice a l c)] [] K) = (
 (10 < (↑l : Int) → K (Value.int IntKind.i64 2) [] H) ∧ (¬10 < (↑l : Int) → ∃ (I : List Value → Heap → Prop), ∃ (μ : List Value → Nat), I [Value.int IntKind.i64 0, Value.int IntKind.i64 0] H ∧ ∀ (n n_1 : Int) (H' : Heap), Vg.Next base H
 H' → I [Value.int IntKind.i64 n, Value.int IntKind.i64 n_1] H' → (n_1 < (↑l : Int) → ∃ (b : Nat), ∃ (o : Nat), a = some (Addr.mk b o none) ∧ 0 ≤ n_1 ∧ n_1 < (↑l : Int) ∧ ∃ (n_2 : Int), ∃ (n_3 : Int), ∃ (n_4 : Int), ∃ (n_5 : Int),
 (Heap.cell H' b (o + Int.toNat n_1 * 4) = some (Value.int IntKind.i64 n_2) ∧ Heap.cell H' b (o + Int.toNat n_1 * 4 + 1) = some (Value.int IntKind.i64 n_3) ∧ Heap.cell H' b (o + Int.toNat n_1 * 4 + 2) = some (Value.int IntKind.i64 n_4)
 ∧ Heap.cell H' b (o + Int.toNat n_1 * 4 + 3) = some (Value.int IntKind.i64 n_5) ∧ True) ∧ ∀ (b : Nat), ∃ (I_1 : List Value → Heap → Prop), ∃ (μ_1 : List Value → Nat), I_1 [Value.int IntKind.i64 n, Value.int IntKind.i64 0] H' ∧ ∀ (n_6
 n_7 : Int) (H' : Heap), Vg.Next base H H' → I_1 [Value.int IntKind.i64 n_6, Value.int IntKind.i64 n_7] H' → (n_7 < 2 → 0 ≤ n_7 ∧ n_7 < 2 ∧ ∃ (n : Int), List.get?Internal [Value.int IntKind.i64 n_2, Value.int IntKind.i64 n_4] (Int.toNat
 n_7 * 1) = some (Value.int IntKind.i64 n) ∧ (n < 1 → K (Value.int IntKind.i64 3) [] H') ∧ (¬n < 1 → (20 < n → K (Value.int IntKind.i64 3) [] H') ∧ (¬20 < n → ∀ (r : Int), r = IntKind.wrap IntKind.i64 (n_7 + 1) → [[Value.int IntKind.i64
 n_2, Value.int IntKind.i64 n_3, Value.int IntKind.i64 n_4, Value.int IntKind.i64 n_5]] = [[Value.int IntKind.i64 n_2, Value.int IntKind.i64 n_3, Value.int IntKind.i64 n_4, Value.int IntKind.i64 n_5]] ∧ I_1 [Value.int IntKind.i64 n_6,
 Value.int IntKind.i64 r] H' ∧ μ_1 [Value.int IntKind.i64 n_6, Value.int IntKind.i64 r] < μ_1 [Value.int IntKind.i64 n_6, Value.int IntKind.i64 n_7]))) ∧ (¬n_7 < 2 → ∃ (I_2 : List Value → Heap → Prop), ∃ (μ_2 : List Value → Nat), I_2
 [Value.int IntKind.i64 n_6, Value.int IntKind.i64 0] H' ∧ ∀ (n_8 n_9 : Int) (H' : Heap), Vg.Next base H H' → I_2 [Value.int IntKind.i64 n_8, Value.int IntKind.i64 n_9] H' → (n_9 < 2 → 0 ≤ n_9 ∧ n_9 < 2 ∧ ∃ (n : Int), List.get?Internal
 [Value.int IntKind.i64 n_3, Value.int IntKind.i64 n_5] (Int.toNat n_9 * 1) = some (Value.int IntKind.i64 n) ∧ (n < 1 → K (Value.int IntKind.i64 3) [] H') ∧ (¬n < 1 → (99 < n → K (Value.int IntKind.i64 3) [] H') ∧ (¬99 < n → ∀ (r :
 Int), r = IntKind.wrap IntKind.i64 (n_9 + 1) → [[Value.int IntKind.i64 n_2, Value.int IntKind.i64 n_3, Value.int IntKind.i64 n_4, Value.int IntKind.i64 n_5]] = [[Value.int IntKind.i64 n_2, Value.int IntKind.i64 n_3, Value.int
 IntKind.i64 n_4, Value.int IntKind.i64 n_5]] ∧ I_2 [Value.int IntKind.i64 n_8, Value.int IntKind.i64 r] H' ∧ μ_2 [Value.int IntKind.i64 n_8, Value.int IntKind.i64 r] < μ_2 [Value.int IntKind.i64 n_8, Value.int IntKind.i64 n_9]))) ∧
 (¬n_9 < 2 → (n_2 = n_4 → K (Value.int IntKind.i64 4) [] H') ∧ (¬n_2 = n_4 → ∀ (r : Int), r = IntKind.wrap IntKind.i64 (n_1 + 1) → I [Value.int IntKind.i64 n_8, Value.int IntKind.i64 r] H' ∧ μ [Value.int IntKind.i64 n_8, Value.int
 IntKind.i64 r] < μ [Value.int IntKind.i64 n, Value.int IntKind.i64 n_1])))) ∧ (¬n_1 < (↑l : Int) → K (Value.int IntKind.i64 0) [] H'))) := by kernel_rfl
theorem vc34 (a a' : Option Addr) (l c l' c' : Nat) (base : Nat) (H : Heap) (K : Value → List (List Value) → Heap → Prop) :
  (funV ⟨Tryz.prog, Tryz.f89.ntmps, TryzMuts, base, H⟩ (bodyOf Tryz.f89) Tryz.f89.results.toList [.v (.slice a l c), .v (.slice a' l' c')] [] K) = (
 Vg.Spec Tryz.prog 81 [Value.slice a l c] H fun (v : Value) (H' : Heap) => ∃ (n : Int), v = Value.int IntKind.i64 n ∧ (Vg.Next base H H' → (¬n = 0 → K (Value.tuple #[Value.int IntKind.i64 0, Value.int IntKind.i64 n]) [] H') ∧ (¬¬n = 0 →
 Vg.Spec Tryz.prog 121 [Value.slice a' l' c'] H' fun (v : Value) (H'_1 : Heap) => ∃ (n : Int), v = Value.int IntKind.i64 n ∧ (Vg.Next base H' H'_1 → (¬n = 0 → K (Value.tuple #[Value.int IntKind.i64 0, Value.int IntKind.i64 n]) [] H'_1) ∧
 (¬¬n = 0 → ∃ (I : List Value → Heap → Prop), ∃ (μ : List Value → Nat), I [Value.int IntKind.i64 0, Value.int IntKind.i64 0, Value.int IntKind.i64 0] H'_1 ∧ ∀ (n n_1 n_2 : Int) (H' : Heap), Vg.Next base H H' → I [Value.int IntKind.i64
 n, Value.int IntKind.i64 n_1, Value.int IntKind.i64 n_2] H' → (n_2 < (↑l' : Int) → ∃ (b : Nat), ∃ (o : Nat), a' = some (Addr.mk b o none) ∧ 0 ≤ n_2 ∧ n_2 < (↑l' : Int) ∧ ∃ (n_3 : Int), ∃ (n_4 : Int), ∃ (n_5 : Int), ∃ (n_6 : Int),
 (Heap.cell H' b (o + Int.toNat n_2 * 4) = some (Value.int IntKind.i64 n_3) ∧ Heap.cell H' b (o + Int.toNat n_2 * 4 + 1) = some (Value.int IntKind.i64 n_4) ∧ Heap.cell H' b (o + Int.toNat n_2 * 4 + 2) = some (Value.int IntKind.i64 n_5)
 ∧ Heap.cell H' b (o + Int.toNat n_2 * 4 + 3) = some (Value.int IntKind.i64 n_6) ∧ True) ∧ ∀ (b : Nat), Vg.Spec Tryz.prog 109 [Value.slice a l c, Value.int IntKind.i64 n_3] H' fun (v : Value) (H'_2 : Heap) => ∃ (n_7 : Int), v = Value.int
 IntKind.i64 n_7 ∧ (Vg.Next base H' H'_2 → (n_4 ≤ n_7 → Vg.Spec Tryz.prog 109 [Value.slice a l c, Value.int IntKind.i64 n_5] H'_2 fun (v : Value) (H' : Heap) => ∃ (n_8 : Int), v = Value.int IntKind.i64 n_8 ∧ (Vg.Next base H'_2 H' → (n_8 <
 n_6 → K (Value.tuple #[Value.int IntKind.i64 n_2, Value.int IntKind.i64 0]) [] H') ∧ (¬n_8 < n_6 → ∀ (r : Int), r = IntKind.wrap IntKind.i64 (n_2 + 1) → I [Value.int IntKind.i64 n, Value.int IntKind.i64 n_1, Value.int IntKind.i64 r] H'
 ∧ μ [Value.int IntKind.i64 n, Value.int IntKind.i64 n_1, Value.int IntKind.i64 r] < μ [Value.int IntKind.i64 n, Value.int IntKind.i64 n_1, Value.int IntKind.i64 n_2]))) ∧ (¬n_4 ≤ n_7 → ∀ (r : Int), r = IntKind.wrap IntKind.i64 (n_2 +
 1) → I [Value.int IntKind.i64 n, Value.int IntKind.i64 n_1, Value.int IntKind.i64 r] H'_2 ∧ μ [Value.int IntKind.i64 n, Value.int IntKind.i64 n_1, Value.int IntKind.i64 r] < μ [Value.int IntKind.i64 n, Value.int IntKind.i64 n_1,
 Value.int IntKind.i64 n_2]))) ∧ (¬n_2 < (↑l' : Int) → K (Value.tuple #[Value.int IntKind.i64 (-1), Value.int IntKind.i64 0]) [] H')))))) := by kernel_rfl
theorem vc33 (k n : Int) (base : Nat) (H : Heap) (K : Value → List (List Value) → Heap → Prop) :
  (funV ⟨Tryz.prog, Tryz.f22.ntmps, TryzMuts, base, H⟩ (bodyOf Tryz.f22) Tryz.f22.results.toList [.v (.int .i64 k), .v (.int .i64 n)] [] K) = (
 n ≠ 0 ∧ (Int.tmod k n < 0 → ∀ (r : Int), r = IntKind.wrap IntKind.i64 (Int.tmod k n + n) → K (Value.int IntKind.i64 r) [] H) ∧ (¬Int.tmod k n < 0 → K (Value.int IntKind.i64 (Int.tmod k n)) [] H)) := by kernel_rfl
end Go.Vg
