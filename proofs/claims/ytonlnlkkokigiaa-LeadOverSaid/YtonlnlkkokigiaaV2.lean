/- Verification conditions of functions, as the definitions of this proof reckon them (each by the kernel). -/
import Derived.Test.YtonlnlkkokigiaaSeat
set_option maxRecDepth 100000
set_option linter.unusedSimpArgs false
set_option linter.unusedVariables false
namespace Go.Vg
open Go Go.Proofs
theorem vc102 (n a b : Int) (base : Nat) (H : Heap) (K : Value → List (List Value) → Heap → Prop) :
  (funV ⟨Try.prog, Try.f102.ntmps, TryMuts, base, H⟩ (bodyOf Try.f102) Try.f102.results.toList [.v (.int .i64 n), .v (.int .i64 a), .v (.int .i64 b)] [] K) = (
 (a ≤ n → K (Value.bool (decide (n ≤ b))) [] H) ∧ (¬a ≤ n → K (Value.bool false) [] H)) := by kernel_rfl
theorem vc140 (a : Option Addr) (l c : Nat) (x : Int) (base : Nat) (H : Heap) (K : Value → List (List Value) → Heap → Prop) :
  (funV ⟨Try.prog, Try.f140.ntmps, TryMuts, base, H⟩ (bodyOf Try.f140) Try.f140.results.toList [.v (.slice a l c), .v (.int .i64 x)] [] K) = (
 ∃ (I : List Value → Heap → Prop), ∃ (μ : List Value → Nat), I [Value.int IntKind.i64 0, Value.int IntKind.i64 0] H ∧ ∀ (n n_1 : Int) (H' : Heap), Vg.Next base H H' → I [Value.int IntKind.i64 n, Value.int IntKind.i64 n_1] H' → (n_1 <
 (↑l : Int) → ∃ (b : Nat), ∃ (o : Nat), a = some (Addr.mk b o none) ∧ 0 ≤ n_1 ∧ n_1 < (↑l : Int) ∧ ∃ (n_2 : Int), Heap.cell H' b (o + Int.toNat n_1 * 1) = some (Value.int IntKind.i64 n_2) ∧ (x = n_2 → K (Value.int IntKind.i64 n_1) []
 H') ∧ (¬x = n_2 → ∀ (r : Int), r = IntKind.wrap IntKind.i64 (n_1 + 1) → I [Value.int IntKind.i64 n, Value.int IntKind.i64 r] H' ∧ μ [Value.int IntKind.i64 n, Value.int IntKind.i64 r] < μ [Value.int IntKind.i64 n, Value.int IntKind.i64
 n_1])) ∧ (¬n_1 < (↑l : Int) → K (Value.int IntKind.i64 (-1)) [] H')) := by kernel_rfl
theorem vc103 (a : Option Addr) (l c : Nat) (x : Int) (base : Nat) (H : Heap) (K : Value → List (List Value) → Heap → Prop) :
  (funV ⟨Try.prog, Try.f103.ntmps, TryMuts, base, H⟩ (bodyOf Try.f103) Try.f103.results.toList [.v (.slice a l c), .v (.int .i64 x)] [] K) = (
 Vg.Spec Try.prog 140 [Value.slice a l c, Value.int IntKind.i64 x] H fun (v : Value) (H' : Heap) => ∃ (n : Int), v = Value.int IntKind.i64 n ∧ (Vg.Next base H H' → K (Value.bool (decide (0 ≤ n))) [] H')) := by kernel_rfl
theorem vc26 (a : Option Addr) (l c : Nat) (k : Int) (base : Nat) (H : Heap) (K : Value → List (List Value) → Heap → Prop) :
  (funV ⟨Try.prog, Try.f26.ntmps, TryMuts, base, H⟩ (bodyOf Try.f26) Try.f26.results.toList [.v (.slice a l c), .v (.int .i64 k)] [] K) = (
 (k < 1 → K (Value.int IntKind.i64 3) [] H) ∧ (¬k < 1 → (6 < k → K (Value.int IntKind.i64 3) [] H) ∧ (¬6 < k → ∀ (b : Nat), ∃ (I : List Value → Heap → Prop), ∃ (μ : List Value → Nat), I [Value.int IntKind.i64 0, Value.int IntKind.i64 0,
 Value.agg #[]] H ∧ ∀ (n n_1 : Int) (cs : List Value) (H' : Heap), Vg.Next base H H' → I [Value.int IntKind.i64 n, Value.int IntKind.i64 n_1, Value.agg (List.toArray cs)] H' → (n_1 < (↑l : Int) → ∃ (b : Nat), ∃ (o : Nat), a = some
 (Addr.mk b o none) ∧ 0 ≤ n_1 ∧ n_1 < (↑l : Int) ∧ ∃ (a : Option Addr), ∃ (n_2 : Nat), ∃ (c : Nat), Heap.cell H' b (o + Int.toNat n_1 * 1) = some (Value.slice a n_2 c) ∧ ((↑n_2 : Int) = 0 → K (Value.int IntKind.i64 4) [] H') ∧ (¬(↑n_2 :
 Int) = 0 → ∃ (I_1 : List Value → Heap → Prop), ∃ (μ_1 : List Value → Nat), I_1 [Value.int IntKind.i64 n, Value.int IntKind.i64 0, Value.agg (List.toArray cs)] H' ∧ ∀ (n_3 n_4 : Int) (cs_1 : List Value) (H' : Heap), Vg.Next base H H' →
 I_1 [Value.int IntKind.i64 n_3, Value.int IntKind.i64 n_4, Value.agg (List.toArray cs_1)] H' → (n_4 < (↑n_2 : Int) → ∃ (b : Nat), ∃ (o : Nat), a = some (Addr.mk b o none) ∧ 0 ≤ n_4 ∧ n_4 < (↑n_2 : Int) ∧ ∃ (n : Int), Heap.cell H' b (o
 + Int.toNat n_4 * 1) = some (Value.int IntKind.i64 n) ∧ (n < 0 → K (Value.int IntKind.i64 5) [] H') ∧ (¬n < 0 → (k ≤ n → K (Value.int IntKind.i64 5) [] H') ∧ (¬k ≤ n → ∃ (b : Bool), ∃ (b_1 : Bool), mapGet (Value.bool false) (Value.int
 IntKind.i64 n) cs_1 = some (Value.bool b, b_1) ∧ (b = true → K (Value.int IntKind.i64 6) [] H') ∧ (b = false → ∃ (cs' : List Value), mapSet (Value.int IntKind.i64 n) (Value.bool true) cs_1 = some cs' ∧ ∀ (r : Int), r = IntKind.wrap
 IntKind.i64 (n_4 + 1) → I_1 [Value.int IntKind.i64 n_3, Value.int IntKind.i64 r, Value.agg (List.toArray cs')] H' ∧ μ_1 [Value.int IntKind.i64 n_3, Value.int IntKind.i64 r, Value.agg (List.toArray cs')] < μ_1 [Value.int IntKind.i64
 n_3, Value.int IntKind.i64 n_4, Value.agg (List.toArray cs_1)])))) ∧ (¬n_4 < (↑n_2 : Int) → ∀ (r : Int), r = IntKind.wrap IntKind.i64 (n_1 + 1) → I [Value.int IntKind.i64 n_3, Value.int IntKind.i64 r, Value.agg (List.toArray cs_1)] H'
 ∧ μ [Value.int IntKind.i64 n_3, Value.int IntKind.i64 r, Value.agg (List.toArray cs_1)] < μ [Value.int IntKind.i64 n, Value.int IntKind.i64 n_1, Value.agg (List.toArray cs)]))) ∧ (¬n_1 < (↑l : Int) → ((↑(List.length cs / 2) : Int) < k
 → K (Value.int IntKind.i64 4) [] H') ∧ (¬(↑(List.length cs / 2) : Int) < k → K (Value.int IntKind.i64 0) [] H'))))) := by kernel_rfl
theorem vc24 (a : Option Addr) (l c : Nat) (k : Int) (base : Nat) (H : Heap) (K : Value → List (List Value) → Heap → Prop) :
  (funV ⟨Try.prog, Try.f24.ntmps, TryMuts, base, H⟩ (bodyOf Try.f24) Try.f24.results.toList [.v (.slice a l c), .v (.int .i64 k)] [] K) = (
 Vg.Spec Try.prog 102 [Value.int IntKind.i64 k, Value.int IntKind.i64 1, Value.int IntKind.i64 6] H fun (v : Value) (H' : Heap) => ∃ (b : Bool), v = Value.bool b ∧ (Vg.Next base H H' → (b = false → K (Value.int IntKind.i64 3) [] H') ∧
 (¬b = false → ∃ (I : List Value → Heap → Prop), ∃ (μ : List Value → Nat), I [Value.int IntKind.i64 0, Value.slice none 0 0, Value.int IntKind.i64 0] H' ∧ ∀ (n : Int) (a_3 : Option Addr) (n_1 c : Nat) (n_2 : Int) (H' : Heap), Vg.Next
 base H H' → I [Value.int IntKind.i64 n, Value.slice a_3 n_1 c, Value.int IntKind.i64 n_2] H' → (n_2 < (↑l : Int) → ∃ (b : Nat), ∃ (o : Nat), a = some (Addr.mk b o none) ∧ 0 ≤ n_2 ∧ n_2 < (↑l : Int) ∧ ∃ (a : Option Addr), ∃ (n_3 : Nat),
 ∃ (c_1 : Nat), Heap.cell H' b (o + Int.toNat n_2 * 1) = some (Value.slice a n_3 c_1) ∧ ((↑n_3 : Int) = 0 → K (Value.int IntKind.i64 4) [] H') ∧ (¬(↑n_3 : Int) = 0 → ∃ (I_1 : List Value → Heap → Prop), ∃ (μ_1 : List Value → Nat), I_1
 [Value.int IntKind.i64 n, Value.slice a_3 n_1 c, Value.int IntKind.i64 0] H' ∧ ∀ (n_4 : Int) (a_8 : Option Addr) (n_5 c_2 : Nat) (n_6 : Int) (H' : Heap), Vg.Next base H H' → I_1 [Value.int IntKind.i64 n_4, Value.slice a_8 n_5 c_2,
 Value.int IntKind.i64 n_6] H' → (n_6 < (↑n_3 : Int) → ∃ (b : Nat), ∃ (o : Nat), a = some (Addr.mk b o none) ∧ 0 ≤ n_6 ∧ n_6 < (↑n_3 : Int) ∧ ∃ (n : Int), Heap.cell H' b (o + Int.toNat n_6 * 1) = some (Value.int IntKind.i64 n) ∧ ∀ (r :
 Int), r = IntKind.wrap IntKind.i64 (k - 1) → Vg.Spec Try.prog 102 [Value.int IntKind.i64 n, Value.int IntKind.i64 0, Value.int IntKind.i64 r] H' fun (v : Value) (H'_1 : Heap) => ∃ (b : Bool), v = Value.bool b ∧ (Vg.Next base H' H'_1 →
 (b = false → K (Value.int IntKind.i64 5) [] H'_1) ∧ (¬b = false → Vg.Spec Try.prog 103 [Value.slice a_8 n_5 c_2, Value.int IntKind.i64 n] H'_1 fun (v : Value) (H' : Heap) => ∃ (b : Bool), v = Value.bool b ∧ (Vg.Next base H'_1 H' → (b =
 true → K (Value.int IntKind.i64 6) [] H') ∧ (b = false → ∀ (b : Nat), ∃ (xs : List Value), Row base H' 3 1 a_8 n_5 c_2 xs ∧ (n_5 + 1) * 8 ≤ 140737488355328 ∧ n_5 + 1 ≤ 9223372036854775807 ∧ ∀ (a' : Option Addr) (c' : Nat) (H'_2 :
 Heap), Grew base H' H'_2 a_8 c_2 a' c' (n_5 + 1) → Row base H'_2 3 1 a' (n_5 + 1) c' (xs ++ [Value.int IntKind.i64 n]) → ∀ (r : Int), r = IntKind.wrap IntKind.i64 (n_6 + 1) → I_1 [Value.int IntKind.i64 n_4, Value.slice a' (n_5 + 1) c',
 Value.int IntKind.i64 r] H'_2 ∧ μ_1 [Value.int IntKind.i64 n_4, Value.slice a' (n_5 + 1) c', Value.int IntKind.i64 r] < μ_1 [Value.int IntKind.i64 n_4, Value.slice a_8 n_5 c_2, Value.int IntKind.i64 n_6]))))) ∧ (¬n_6 < (↑n_3 : Int) → ∀
 (r : Int), r = IntKind.wrap IntKind.i64 (n_2 + 1) → I [Value.int IntKind.i64 n_4, Value.slice a_8 n_5 c_2, Value.int IntKind.i64 r] H' ∧ μ [Value.int IntKind.i64 n_4, Value.slice a_8 n_5 c_2, Value.int IntKind.i64 r] < μ [Value.int
 IntKind.i64 n, Value.slice a_3 n_1 c, Value.int IntKind.i64 n_2]))) ∧ (¬n_2 < (↑l : Int) → (¬(↑n_1 : Int) = k → K (Value.int IntKind.i64 4) [] H') ∧ (¬¬(↑n_1 : Int) = k → K (Value.int IntKind.i64 0) [] H'))))) := by kernel_rfl
theorem vc105 (a : Option Addr) (l c : Nat) (p : Nat) (base : Nat) (H : Heap) (K : Value → List (List Value) → Heap → Prop) :
  (funV ⟨Try.prog, Try.f105.ntmps, TryMuts, base, H⟩ (bodyOf Try.f105) Try.f105.results.toList [.v (.slice a l c), .v (.pointer (some ⟨p, 0, none⟩))] [] K) = (
 ∃ (n : Int), Heap.cell H p 0 = some (Value.int IntKind.i64 n) ∧ Vg.Spec Try.prog 103 [Value.slice a l c, Value.int IntKind.i64 n] H fun (v : Value) (H' : Heap) => ∃ (b : Bool), v = Value.bool b ∧ (Vg.Next base H H' → K (Value.bool b)
 [] H')) := by kernel_rfl
theorem vc104 (a : Option Addr) (l c : Nat) (p : Nat) (base : Nat) (H : Heap) (K : Value → List (List Value) → Heap → Prop) :
  (funV ⟨Try.prog, Try.f104.ntmps, TryMuts, base, H⟩ (bodyOf Try.f104) Try.f104.results.toList [.v (.slice a l c), .v (.func (.func 105) #[] #[.pointer (some ⟨p, 0, none⟩)])] [] K) = (
 ∃ (I : List Value → Heap → Prop), ∃ (μ : List Value → Nat), I [Value.int IntKind.i64 0, Value.int IntKind.i64 0] H ∧ ∀ (n n_1 : Int) (H' : Heap), Vg.Next base H H' → I [Value.int IntKind.i64 n, Value.int IntKind.i64 n_1] H' → (n_1 <
 (↑l : Int) → ∃ (b : Nat), ∃ (o : Nat), a = some (Addr.mk b o none) ∧ 0 ≤ n_1 ∧ n_1 < (↑l : Int) ∧ ∃ (a : Option Addr), ∃ (n_2 : Nat), ∃ (c : Nat), Heap.cell H' b (o + Int.toNat n_1 * 1) = some (Value.slice a n_2 c) ∧ Vg.Spec Try.prog
 105 [Value.slice a n_2 c, Value.pointer (some (Addr.mk p 0 none))] H' fun (v : Value) (H'_1 : Heap) => ∃ (b : Bool), v = Value.bool b ∧ (Vg.Next base H' H'_1 → (b = true → K (Value.int IntKind.i64 n_1) [] H'_1) ∧ (b = false → ∀ (r :
 Int), r = IntKind.wrap IntKind.i64 (n_1 + 1) → I [Value.int IntKind.i64 n, Value.int IntKind.i64 r] H'_1 ∧ μ [Value.int IntKind.i64 n, Value.int IntKind.i64 r] < μ [Value.int IntKind.i64 n, Value.int IntKind.i64 n_1]))) ∧ (¬n_1 < (↑l :
 Int) → K (Value.int IntKind.i64 (-1)) [] H')) := by kernel_rfl
theorem vc27 (a : Option Addr) (l c : Nat) (k : Int) (base : Nat) (H : Heap) (K : Value → List (List Value) → Heap → Prop) :
  (funV ⟨Try.prog, Try.f27.ntmps, TryMuts, base, H⟩ (bodyOf Try.f27) Try.f27.results.toList [.v (.slice a l c), .v (.int .i64 k)] [] K) = (
 ∀ (b : Nat), true = true ∧ ∀ (Hl : Heap), Vg.Next 0 H Hl → Hl b = some (boxKB 3 [Value.int IntKind.i64 k]) ∧ True → Vg.Spec Try.prog 104 [Value.slice a l c, Value.func (Fn.func 105) #[] #[Value.pointer (some (Addr.mk b 0 none))]] Hl
 fun (v : Value) (H'' : Heap) => ∃ (n : Int), v = Value.int IntKind.i64 n ∧ ∀ (H' : Heap), Vg.Next base H H' → (∀ (b_1 : Nat) (k_1 : KB), H'' b_1 = some k_1 → (∀ (x : Bx), x ∈ [Bx.mk b false 3 [Value.int IntKind.i64 k]] → b_1 ≠ Bx.b x)
 → H' b_1 = some k_1) → K (Value.int IntKind.i64 n) [] H') := by kernel_rfl
theorem vc28 (a : Option Addr) (l c : Nat) (k : Int) (base : Nat) (H : Heap) (K : Value → List (List Value) → Heap → Prop) :
  (funV ⟨Try.prog, Try.f28.ntmps, TryMuts, base, H⟩ (bodyOf Try.f28) Try.f28.results.toList [.v (.slice a l c), .v (.int .i64 k)] [] K) = (
 ∃ (I : List Value → Heap → Prop), ∃ (μ : List Value → Nat), I [Value.int IntKind.i64 0, Value.int IntKind.i64 0] H ∧ ∀ (n n_1 : Int) (H' : Heap), Vg.Next base H H' → I [Value.int IntKind.i64 n, Value.int IntKind.i64 n_1] H' → (n_1 <
 (↑l : Int) → ∃ (b : Nat), ∃ (o : Nat), a = some (Addr.mk b o none) ∧ 0 ≤ n_1 ∧ n_1 < (↑l : Int) ∧ ∃ (a : Option Addr), ∃ (n_2 : Nat), ∃ (c : Nat), Heap.cell H' b (o + Int.toNat n_1 * 1) = some (Value.slice a n_2 c) ∧ ∃ (I_1 : List
 Value → Heap → Prop), ∃ (μ_1 : List Value → Nat), I_1 [Value.int IntKind.i64 n, Value.int IntKind.i64 0] H' ∧ ∀ (n_3 n_4 : Int) (H' : Heap), Vg.Next base H H' → I_1 [Value.int IntKind.i64 n_3, Value.int IntKind.i64 n_4] H' → (n_4 <
 (↑n_2 : Int) → ∃ (b : Nat), ∃ (o : Nat), a = some (Addr.mk b o none) ∧ 0 ≤ n_4 ∧ n_4 < (↑n_2 : Int) ∧ ∃ (n : Int), Heap.cell H' b (o + Int.toNat n_4 * 1) = some (Value.int IntKind.i64 n) ∧ (n = k → K (Value.int IntKind.i64 n_1) [] H')
 ∧ (¬n = k → ∀ (r : Int), r = IntKind.wrap IntKind.i64 (n_4 + 1) → I_1 [Value.int IntKind.i64 n_3, Value.int IntKind.i64 r] H' ∧ μ_1 [Value.int IntKind.i64 n_3, Value.int IntKind.i64 r] < μ_1 [Value.int IntKind.i64 n_3, Value.int
 IntKind.i64 n_4])) ∧ (¬n_4 < (↑n_2 : Int) → ∀ (r : Int), r = IntKind.wrap IntKind.i64 (n_1 + 1) → I [Value.int IntKind.i64 n_3, Value.int IntKind.i64 r] H' ∧ μ [Value.int IntKind.i64 n_3, Value.int IntKind.i64 r] < μ [Value.int
 IntKind.i64 n, Value.int IntKind.i64 n_1])) ∧ (¬n_1 < (↑l : Int) → K (Value.int IntKind.i64 (-1)) [] H')) := by kernel_rfl
theorem vc29 (a a' : Option Addr) (l c l' c' : Nat) (base : Nat) (H : Heap) (K : Value → List (List Value) → Heap → Prop) :
  (funV ⟨Try.prog, Try.f29.ntmps, TryMuts, base, H⟩ (bodyOf Try.f29) Try.f29.results.toList [.v (.slice a l c), .v (.slice a' l' c')] [] K) = (
 ∃ (I : List Value → Heap → Prop), ∃ (μ : List Value → Nat), I [Value.int IntKind.i64 (↑l : Int), Value.int IntKind.i64 0] H ∧ ∀ (n n_1 : Int) (H' : Heap), Vg.Next base H H' → I [Value.int IntKind.i64 n, Value.int IntKind.i64 n_1] H' →
 (n_1 < (↑l' : Int) → ∃ (b : Nat), ∃ (o : Nat), a' = some (Addr.mk b o none) ∧ 0 ≤ n_1 ∧ n_1 < (↑l' : Int) ∧ ∃ (b_1 : Bool), Heap.cell H' b (o + Int.toNat n_1 * 1) = some (Value.bool b_1) ∧ (b_1 = false → Vg.Spec Try.prog 28
 [Value.slice a l c, Value.int IntKind.i64 n_1] H' fun (v : Value) (H'_1 : Heap) => ∃ (n_2 : Int), v = Value.int IntKind.i64 n_2 ∧ (Vg.Next base H' H'_1 → ∀ (r : Int), r = IntKind.wrap IntKind.i64 (n_1 + 1) → I [Value.int IntKind.i64
 (if n_2 < n then n_2 else n), Value.int IntKind.i64 r] H'_1 ∧ μ [Value.int IntKind.i64 (if n_2 < n then n_2 else n), Value.int IntKind.i64 r] < μ [Value.int IntKind.i64 n, Value.int IntKind.i64 n_1])) ∧ (¬b_1 = false → ∀ (r : Int), r =
 IntKind.wrap IntKind.i64 (n_1 + 1) → I [Value.int IntKind.i64 n, Value.int IntKind.i64 r] H' ∧ μ [Value.int IntKind.i64 n, Value.int IntKind.i64 r] < μ [Value.int IntKind.i64 n, Value.int IntKind.i64 n_1])) ∧ (¬n_1 < (↑l' : Int) → K
 (Value.int IntKind.i64 n) [] H')) := by kernel_rfl
theorem vc23 (a a' : Option Addr) (l c l' c' : Nat) (base : Nat) (H : Heap) (K : Value → List (List Value) → Heap → Prop) :
  (funV ⟨Try.prog, Try.f23.ntmps, TryMuts, base, H⟩ (bodyOf Try.f23) Try.f23.results.toList [.v (.slice a l c), .v (.slice a' l' c')] [] K) = (
 Vg.Spec Try.prog 26 [Value.slice a l c, Value.int IntKind.i64 (↑l' : Int)] H fun (v : Value) (H' : Heap) => ∃ (n : Int), v = Value.int IntKind.i64 n ∧ (Vg.Next base H H' → (¬n = 0 → K (Value.tuple #[Value.int IntKind.i64 0, Value.int
 IntKind.i64 n]) [] H') ∧ (¬¬n = 0 → ∃ (I : List Value → Heap → Prop), ∃ (μ : List Value → Nat), I [Value.int IntKind.i64 0, Value.int IntKind.i64 0, Value.int IntKind.i64 0] H' ∧ ∀ (n n_1 n_2 : Int) (H' : Heap), Vg.Next base H H' → I
 [Value.int IntKind.i64 n, Value.int IntKind.i64 n_1, Value.int IntKind.i64 n_2] H' → (n_2 < (↑l : Int) → ∃ (b : Nat), ∃ (o : Nat), a = some (Addr.mk b o none) ∧ 0 ≤ n_2 ∧ n_2 < (↑l : Int) ∧ ∃ (a : Option Addr), ∃ (n_3 : Nat), ∃ (c :
 Nat), Heap.cell H' b (o + Int.toNat n_2 * 1) = some (Value.slice a n_3 c) ∧ ∃ (I_1 : List Value → Heap → Prop), ∃ (μ_1 : List Value → Nat), I_1 [Value.int IntKind.i64 n, Value.int IntKind.i64 n_1, Value.int IntKind.i64 0] H' ∧ ∀ (n_4
 n_5 n_6 : Int) (H' : Heap), Vg.Next base H H' → I_1 [Value.int IntKind.i64 n_4, Value.int IntKind.i64 n_5, Value.int IntKind.i64 n_6] H' → (n_6 < (↑n_3 : Int) → ∃ (b : Nat), ∃ (o : Nat), a = some (Addr.mk b o none) ∧ 0 ≤ n_6 ∧ n_6 <
 (↑n_3 : Int) ∧ ∃ (n : Int), Heap.cell H' b (o + Int.toNat n_6 * 1) = some (Value.int IntKind.i64 n) ∧ ∃ (b : Nat), ∃ (o : Nat), a' = some (Addr.mk b o none) ∧ 0 ≤ n ∧ n < (↑l' : Int) ∧ ∃ (b_1 : Bool), Heap.cell H' b (o + Int.toNat n *
 1) = some (Value.bool b_1) ∧ (b_1 = false → K (Value.tuple #[Value.int IntKind.i64 n_2, Value.int IntKind.i64 0]) [] H') ∧ (¬b_1 = false → ∀ (r : Int), r = IntKind.wrap IntKind.i64 (n_6 + 1) → I_1 [Value.int IntKind.i64 n_4, Value.int
 IntKind.i64 n_5, Value.int IntKind.i64 r] H' ∧ μ_1 [Value.int IntKind.i64 n_4, Value.int IntKind.i64 n_5, Value.int IntKind.i64 r] < μ_1 [Value.int IntKind.i64 n_4, Value.int IntKind.i64 n_5, Value.int IntKind.i64 n_6])) ∧ (¬n_6 <
 (↑n_3 : Int) → ∀ (r : Int), r = IntKind.wrap IntKind.i64 (n_2 + 1) → I [Value.int IntKind.i64 n_4, Value.int IntKind.i64 n_5, Value.int IntKind.i64 r] H' ∧ μ [Value.int IntKind.i64 n_4, Value.int IntKind.i64 n_5, Value.int IntKind.i64
 r] < μ [Value.int IntKind.i64 n, Value.int IntKind.i64 n_1, Value.int IntKind.i64 n_2])) ∧ (¬n_2 < (↑l : Int) → K (Value.tuple #[Value.int IntKind.i64 (↑l : Int), Value.int IntKind.i64 0]) [] H')))) := by kernel_rfl
theorem vc25  (base : Nat) (H : Heap) (K : Value → List (List Value) → Heap → Prop) :
  (funV ⟨Try.prog, Try.f25.ntmps, TryMuts, base, H⟩ (bodyOf Try.f25) Try.f25.results.toList [] [] K) = (
 ∀ (g : Nat) (H' : Heap), Vg.Next base H H' → H g = none → H' g = some (boxKB 3 [Value.int IntKind.i64 1]) → ∀ (g_1 : Nat) (H'_1 : Heap), Vg.Next base H' H'_1 → H' g_1 = none → H'_1 g_1 = some (boxKB 3 [Value.int IntKind.i64 2,
 Value.int IntKind.i64 0]) → ∀ (g_2 : Nat) (H' : Heap), Vg.Next base H'_1 H' → H'_1 g_2 = none → H' g_2 = some (boxKB 24 [Value.slice (some (Addr.mk g 0 none)) 1 1, Value.slice (some (Addr.mk g_1 0 none)) 2 2]) → ∀ (g : Nat) (H'_2 :
 Heap), Vg.Next base H' H'_2 → H' g = none → H'_2 g = some (boxKB 4 [Value.bool true, Value.bool true, Value.bool false]) → Vg.Spec Try.prog 23 [Value.slice (some (Addr.mk g_2 0 none)) 2 2, Value.slice (some (Addr.mk g 0 none)) 3 3]
 H'_2 fun (v : Value) (H' : Heap) => ∃ (n : Int), ∃ (n_1 : Int), v = Value.tuple #[Value.int IntKind.i64 n, Value.int IntKind.i64 n_1] ∧ (Vg.Next base H'_2 H' → ∀ (g : Nat) (H'_3 : Heap), Vg.Next base H' H'_3 → H' g = none → H'_3 g =
 some (boxKB 4 [Value.bool true, Value.bool true, Value.bool true]) → Vg.Spec Try.prog 23 [Value.slice (some (Addr.mk g_2 0 none)) 2 2, Value.slice (some (Addr.mk g 0 none)) 3 3] H'_3 fun (v : Value) (H' : Heap) => ∃ (n_2 : Int), ∃ (n_3
 : Int), v = Value.tuple #[Value.int IntKind.i64 n_2, Value.int IntKind.i64 n_3] ∧ (Vg.Next base H'_3 H' → (n_1 = 0 → (n_3 = 0 → (n = 1 → (n_2 = 2 → Vg.Spec Try.prog 27 [Value.slice (some (Addr.mk g_2 0 none)) 2 2, Value.int IntKind.i64
 0] H' fun (v : Value) (H'_4 : Heap) => ∃ (n : Int), v = Value.int IntKind.i64 n ∧ (Vg.Next base H' H'_4 → (n = 1 → Vg.Spec Try.prog 27 [Value.slice (some (Addr.mk g_2 0 none)) 2 2, Value.int IntKind.i64 3] H'_4 fun (v : Value) (H' :
 Heap) => ∃ (n : Int), v = Value.int IntKind.i64 n ∧ (Vg.Next base H'_4 H' → (n = -1 → Vg.Spec Try.prog 26 [Value.slice (some (Addr.mk g_2 0 none)) 2 2, Value.int IntKind.i64 2] H' fun (v : Value) (H'_5 : Heap) => ∃ (n : Int), v =
 Value.int IntKind.i64 n ∧ (Vg.Next base H' H'_5 → K (Value.bool (decide (n = 5))) [] H'_5)) ∧ (¬n = -1 → K (Value.bool false) [] H'))) ∧ (¬n = 1 → K (Value.bool false) [] H'_4))) ∧ (¬n_2 = 2 → K (Value.bool false) [] H')) ∧ (¬n = 1 → K
 (Value.bool false) [] H')) ∧ (¬n_3 = 0 → K (Value.bool false) [] H')) ∧ (¬n_1 = 0 → K (Value.bool false) [] H')))) := by kernel_rfl
theorem vc4 (a a' : Option Addr) (l c l' c' : Nat) (agents agent : Int) (base : Nat) (H : Heap) (K : Value → List (List Value) → Heap → Prop) :
  (funV ⟨Try.prog, Try.f4.ntmps, TryMuts, base, H⟩ (bodyOf Try.f4) Try.f4.results.toList [.v (.slice a l c), .v (.int .i64 agents), .v (.int .i64 agent), .v (.slice a' l' c')] [] K) = (
 Vg.Spec Try.prog 23 [Value.slice a l c, Value.slice a' l' c'] H fun (v : Value) (H' : Heap) => ∃ (n : Int), ∃ (n_1 : Int), v = Value.tuple #[Value.int IntKind.i64 n, Value.int IntKind.i64 n_1] ∧ (Vg.Next base H H' → Vg.Spec Try.prog 24
 [Value.slice a l c, Value.int IntKind.i64 (↑l' : Int)] H' fun (v : Value) (H'_1 : Heap) => ∃ (n_2 : Int), v = Value.int IntKind.i64 n_2 ∧ (Vg.Next base H' H'_1 → Vg.Spec Try.prog 25 [] H'_1 fun (v : Value) (H' : Heap) => ∃ (b : Bool),
 v = Value.bool b ∧ (Vg.Next base H'_1 H' → (b = false → K (Value.bool false) [] H') ∧ (¬b = false → Vg.Spec Try.prog 26 [Value.slice a l c, Value.int IntKind.i64 agents] H' fun (v : Value) (H'_2 : Heap) => ∃ (n_3 : Int), v = Value.int
 IntKind.i64 n_3 ∧ (Vg.Next base H' H'_2 → Vg.Spec Try.prog 24 [Value.slice a l c, Value.int IntKind.i64 agents] H'_2 fun (v : Value) (H' : Heap) => ∃ (n_4 : Int), v = Value.int IntKind.i64 n_4 ∧ (Vg.Next base H'_2 H' → (¬n_3 = n_4 → K
 (Value.bool false) [] H') ∧ (¬¬n_3 = n_4 → Vg.Spec Try.prog 27 [Value.slice a l c, Value.int IntKind.i64 agent] H' fun (v : Value) (H'_3 : Heap) => ∃ (n_5 : Int), v = Value.int IntKind.i64 n_5 ∧ (Vg.Next base H' H'_3 → Vg.Spec Try.prog
 28 [Value.slice a l c, Value.int IntKind.i64 agent] H'_3 fun (v : Value) (H' : Heap) => ∃ (n_6 : Int), v = Value.int IntKind.i64 n_6 ∧ (Vg.Next base H'_3 H' → (¬n_5 = n_6 → K (Value.bool false) [] H') ∧ (¬¬n_5 = n_6 → (¬n_1 = n_2 → K
 (Value.bool false) [] H') ∧ (¬¬n_1 = n_2 → (¬n_2 = 0 → (n = 0 → K (Value.bool true) [] H') ∧ (¬n = 0 → (n_2 = 0 → Vg.Spec Try.prog 29 [Value.slice a l c, Value.slice a' l' c'] H' fun (v : Value) (H'_4 : Heap) => ∃ (n_7 : Int), v =
 Value.int IntKind.i64 n_7 ∧ (Vg.Next base H' H'_4 → K (Value.bool (decide (n = n_7))) [] H'_4)) ∧ (¬n_2 = 0 → K (Value.bool false) [] H'))) ∧ (¬¬n_2 = 0 → (n_2 = 0 → Vg.Spec Try.prog 29 [Value.slice a l c, Value.slice a' l' c'] H' fun
 (v : Value) (H'_4 : Heap) => ∃ (n_7 : Int), v = Value.int IntKind.i64 n_7 ∧ (Vg.Next base H' H'_4 → K (Value.bool (decide (n = n_7))) [] H'_4)) ∧ (¬n_2 = 0 → K (Value.bool false) [] H')))))))))))))) := by kernel_rfl
end Go.Vg
