/- Verification conditions of functions, as the definitions of this proof reckon them (each by the kernel). -/
import Derived.Test.YtglnjkkaojhgnaaDoorSeatJ
set_option maxRecDepth 100000
set_option linter.unusedSimpArgs false
set_option linter.unusedVariables false
namespace Go.Vg
open Go Go.Proofs
theorem vc68 (id : Int) (a : Option Addr) (l c : Nat) (base : Nat) (H : Heap) (K : Value → List (List Value) → Heap → Prop) :
  (funV ⟨Tryd.prog, Tryd.f23.ntmps, TrydMutsJ, base, H⟩ (bodyOf Tryd.f23) Tryd.f23.results.toList [.v (.agg #[.int .i64 id, .slice a l c])] [] K) = (
 ∀ (b : Nat), ∃ (φ : Prop), ((id < 1 → [Bx.mk b false 38 [Value.int IntKind.i64 id, Value.slice a l c]] = [Bx.mk b false 38 [Value.int IntKind.i64 id, Value.slice a l c]] ∧ SubH H H ∧ φ) ∧ (¬id < 1 → [Bx.mk b false 38 [Value.int
 IntKind.i64 id, Value.slice a l c]] = [Bx.mk b false 38 [Value.int IntKind.i64 id, Value.slice a l c]] ∧ SubH H H ∧ (φ ↔ 6 < id))) ∧ (φ → K (Value.int IntKind.i64 3) [] H) ∧ (¬φ → Vg.Spec Tryd.prog 14 [Value.slice a l c] H fun (v :
 Value) (H' : Heap) => ∃ (n : Int), v = Value.int IntKind.i64 n ∧ (Vg.Next base H H' → K (Value.int IntKind.i64 n) [] H'))) := by kernel_rfl
theorem vc74 (id : Int) (a : Option Addr) (l c : Nat) (base : Nat) (H : Heap) (K : Value → List (List Value) → Heap → Prop) :
  (funV ⟨Tryd.prog, Tryd.f24.ntmps, TrydMutsJ, base, H⟩ (bodyOf Tryd.f24) Tryd.f24.results.toList [.v (.agg #[.int .i64 id, .slice a l c])] [] K) = (
 ∀ (b : Nat), Vg.Spec Tryd.prog 45 [Value.int IntKind.i64 id, Value.int IntKind.i64 1, Value.int IntKind.i64 6] H fun (v : Value) (H' : Heap) => ∃ (b : Bool), v = Value.bool b ∧ (Vg.Next base H H' → (b = false → K (Value.int IntKind.i64
 3) [] H') ∧ (¬b = false → Vg.Spec Tryd.prog 12 [Value.slice a l c] H' fun (v : Value) (H'_1 : Heap) => ∃ (n : Int), v = Value.int IntKind.i64 n ∧ (Vg.Next base H' H'_1 → K (Value.int IntKind.i64 n) [] H'_1)))) := by kernel_rfl
theorem vc86 (id id' : Int) (a a' : Option Addr) (l c l' c' : Nat) (base : Nat) (H : Heap) (K : Value → List (List Value) → Heap → Prop) :
  (funV ⟨Tryd.prog, Tryd.f27.ntmps, TrydMutsJ, base, H⟩ (bodyOf Tryd.f27) Tryd.f27.results.toList [.v (.agg #[.int .i64 id, .slice a l c]), .v (.agg #[.int .i64 id', .slice a' l' c'])] [] K) = (
 ∀ (b b_1 : Nat), ∃ (φ : Prop), ((¬id = id' → [Bx.mk b false 38 [Value.int IntKind.i64 id, Value.slice a l c], Bx.mk b_1 false 38 [Value.int IntKind.i64 id', Value.slice a' l' c']] = [Bx.mk b false 38 [Value.int IntKind.i64 id,
 Value.slice a l c], Bx.mk b_1 false 38 [Value.int IntKind.i64 id', Value.slice a' l' c']] ∧ SubH H H ∧ φ) ∧ (¬¬id = id' → [Bx.mk b false 38 [Value.int IntKind.i64 id, Value.slice a l c], Bx.mk b_1 false 38 [Value.int IntKind.i64 id',
 Value.slice a' l' c']] = [Bx.mk b false 38 [Value.int IntKind.i64 id, Value.slice a l c], Bx.mk b_1 false 38 [Value.int IntKind.i64 id', Value.slice a' l' c']] ∧ SubH H H ∧ (φ ↔ ¬(↑l : Int) = (↑l' : Int)))) ∧ (φ → K (Value.bool false)
 [] H) ∧ (¬φ → ∃ (I : List Value → Heap → Prop), ∃ (μ : List Value → Nat), I [Value.bool false, Value.int IntKind.i64 0] H ∧ ∀ (b : Bool) (n : Int) (H' : Heap), Vg.Next base H H' → I [Value.bool b, Value.int IntKind.i64 n] H' → (n < (↑l
 : Int) → ∃ (b_2 : Nat), ∃ (o : Nat), a = some (Addr.mk b_2 o none) ∧ 0 ≤ n ∧ n < (↑l : Int) ∧ ∃ (n_1 : Int), ∃ (n_2 : Int), (Heap.cell H' b_2 (o + Int.toNat n * 2) = some (Value.int IntKind.i64 n_1) ∧ Heap.cell H' b_2 (o + Int.toNat n
 * 2 + 1) = some (Value.int IntKind.i64 n_2) ∧ True) ∧ ∀ (b_3 : Nat), ∃ (b_4 : Nat), ∃ (o : Nat), a' = some (Addr.mk b_4 o none) ∧ 0 ≤ n ∧ n < (↑l' : Int) ∧ ∃ (n_3 : Int), ∃ (n_4 : Int), (Heap.cell H' b_4 (o + Int.toNat n * 2) = some
 (Value.int IntKind.i64 n_3) ∧ Heap.cell H' b_4 (o + Int.toNat n * 2 + 1) = some (Value.int IntKind.i64 n_4) ∧ True) ∧ ∃ (b_5 : Bool), RunsTo Tryd.prog (binRun BinOp.neq 29 (Operand.tmp 33) (Operand.tmp 34) (Value.agg #[Value.int
 IntKind.i64 n_3, Value.int IntKind.i64 n_4]) (Value.agg #[Value.int IntKind.i64 n_1, Value.int IntKind.i64 n_2])) (Value.bool b_5) ∧ (b_5 = true → K (Value.bool false) [] H') ∧ (¬b_5 = true → ∀ (r : Int), r = IntKind.wrap IntKind.i64
 (n + 1) → [[Value.int IntKind.i64 id, Value.slice a l c], [Value.int IntKind.i64 id', Value.slice a' l' c']] = [[Value.int IntKind.i64 id, Value.slice a l c], [Value.int IntKind.i64 id', Value.slice a' l' c']] ∧ I [Value.bool b,
 Value.int IntKind.i64 r] H' ∧ μ [Value.bool b, Value.int IntKind.i64 r] < μ [Value.bool b, Value.int IntKind.i64 n])) ∧ (¬n < (↑l : Int) → K (Value.bool true) [] H'))) := by kernel_rfl
theorem vc99 (id id' : Int) (a a' : Option Addr) (l c l' c' : Nat) (base : Nat) (H : Heap) (K : Value → List (List Value) → Heap → Prop) :
  (funV ⟨Tryd.prog, Tryd.f28.ntmps, TrydMutsJ, base, H⟩ (bodyOf Tryd.f28) Tryd.f28.results.toList [.v (.agg #[.int .i64 id, .slice a l c]), .v (.agg #[.int .i64 id', .slice a' l' c'])] [] K) = (
 ∀ (b b_1 : Nat), ∃ (φ : Prop), ((id = id' → Vg.Spec Tryd.prog 10 [Value.slice a l c, Value.slice a' l' c'] H fun (v : Value) (H' : Heap) => ∃ (b_2 : Bool), v = Value.bool b_2 ∧ (Vg.Next base H H' → [Bx.mk b false 38 [Value.int
 IntKind.i64 id, Value.slice a l c], Bx.mk b_1 false 38 [Value.int IntKind.i64 id', Value.slice a' l' c']] = [Bx.mk b false 38 [Value.int IntKind.i64 id, Value.slice a l c], Bx.mk b_1 false 38 [Value.int IntKind.i64 id', Value.slice a'
 l' c']] ∧ SubH H H' ∧ (φ ↔ b_2 = true))) ∧ (¬id = id' → [Bx.mk b false 38 [Value.int IntKind.i64 id, Value.slice a l c], Bx.mk b_1 false 38 [Value.int IntKind.i64 id', Value.slice a' l' c']] = [Bx.mk b false 38 [Value.int IntKind.i64
 id, Value.slice a l c], Bx.mk b_1 false 38 [Value.int IntKind.i64 id', Value.slice a' l' c']] ∧ SubH H H ∧ ¬φ)) ∧ K (Value.bool (@decide φ (Classical.propDecidable φ))) [] H) := by kernel_rfl
end Go.Vg
