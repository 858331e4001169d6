/- Verification conditions of functions, as the definitions of this proof reckon them (each by the kernel). -/
import Derived.Test.YtglnjkkaojhgnaaDoorSeatJ
set_option maxRecDepth 100000
set_option linter.unusedSimpArgs false
set_option linter.unusedVariables false
namespace Go.Vg
open Go Go.Proofs
theorem vd3 (a a' : Option Addr) (l c l' c' : Nat) (s : ByteArray) (base : Nat) (H : Heap) (K : Value → List (List Value) → Heap → Prop) :
  (funV ⟨Tryd.prog, Tryd.f3.ntmps, TrydMutsJ, base, H⟩ (bodyOf Tryd.f3) Tryd.f3.results.toList [.v (.slice a l c), .v (.slice a' l' c'), .v (.string s)] [] K) = (
 Vg.Spec Tryd.prog 8 [Value.slice a l c] H fun (v : Value) (H' : Heap) => ∃ (s_1 : ByteArray), ∃ (n : Int), v = Value.tuple #[Value.string s_1, Value.int IntKind.i64 n] ∧ (Vg.Next base H H' → Vg.Spec Tryd.prog 8 [Value.slice a' l' c']
 H' fun (v : Value) (H'_1 : Heap) => ∃ (s_2 : ByteArray), ∃ (n_1 : Int), v = Value.tuple #[Value.string s_2, Value.int IntKind.i64 n_1] ∧ (Vg.Next base H' H'_1 → ∃ (φ : Prop), (Vg.Spec Tryd.prog 9 [] H'_1 fun (v : Value) (H' : Heap) =>
 ∃ (b : Bool), v = Value.bool b ∧ (Vg.Next base H'_1 H' → (b = false → SubH H'_1 H' ∧ φ) ∧ (¬b = false → (n = 0 → (n_1 = 0 → ∃ (b : Bool), RunsTo Tryd.prog (binRun BinOp.eql 9 (Operand.tmp 36) (Operand.tmp 37) (Value.string s_1)
 (Value.string s_2)) (Value.bool b) ∧ Vg.Spec Tryd.prog 10 [Value.slice a l c, Value.slice a' l' c'] H' fun (v : Value) (H'_2 : Heap) => ∃ (b_1 : Bool), v = Value.bool b_1 ∧ (Vg.Next base H' H'_2 → ∃ (b_2 : Bool), RunsTo Tryd.prog
 (binRun BinOp.neq 4 (Operand.tmp 38) (Operand.tmp 41) (Value.bool (decide (b = true))) (Value.bool b_1)) (Value.bool b_2) ∧ SubH H'_1 H'_2 ∧ (φ ↔ b_2 = true))) ∧ (¬n_1 = 0 → SubH H'_1 H' ∧ ¬φ)) ∧ (¬n = 0 → SubH H'_1 H' ∧ ¬φ)))) ∧ (φ →
 K (Value.bool false) [] H'_1) ∧ (¬φ → (n = 0 → Vg.Spec Tryd.prog 11 [Value.string s_1] H'_1 fun (v : Value) (H' : Heap) => ∃ (a_5 : Option Addr), ∃ (n : Nat), ∃ (c_1 : Nat), ∃ (n_2 : Int), v = Value.tuple #[Value.slice a_5 n c_1,
 Value.int IntKind.i64 n_2] ∧ (Vg.Next base H'_1 H' → ∃ (φ : Prop), ((¬n_2 = 0 → SubH H' H' ∧ φ) ∧ (¬¬n_2 = 0 → Vg.Spec Tryd.prog 10 [Value.slice a_5 n c_1, Value.slice a l c] H' fun (v : Value) (H'_2 : Heap) => ∃ (b : Bool), v =
 Value.bool b ∧ (Vg.Next base H' H'_2 → SubH H' H'_2 ∧ (φ ↔ b = false)))) ∧ (φ → K (Value.bool false) [] H') ∧ (¬φ → Vg.Spec Tryd.prog 11 [Value.string s] H' fun (v : Value) (H'_2 : Heap) => ∃ (a : Option Addr), ∃ (n : Nat), ∃ (c :
 Nat), ∃ (n_3 : Int), v = Value.tuple #[Value.slice a n c, Value.int IntKind.i64 n_3] ∧ (Vg.Next base H' H'_2 → (¬n_3 = 0 → K (Value.bool true) [] H'_2) ∧ (¬¬n_3 = 0 → Vg.Spec Tryd.prog 8 [Value.slice a n c] H'_2 fun (v : Value) (H' :
 Heap) => ∃ (s_3 : ByteArray), ∃ (n : Int), v = Value.tuple #[Value.string s_3, Value.int IntKind.i64 n] ∧ (Vg.Next base H'_2 H' → ∃ (φ : Prop), ((n = 0 → ∃ (b : Bool), RunsTo Tryd.prog (binRun BinOp.eql 9 (Operand.tmp 75) (Operand.tmp
 76) (Value.string s_3) (Value.string s)) (Value.bool b) ∧ SubH H' H' ∧ (φ ↔ b = true)) ∧ (¬n = 0 → SubH H' H' ∧ ¬φ)) ∧ K (Value.bool (@decide φ (Classical.propDecidable φ))) [] H')))))) ∧ (¬n = 0 → Vg.Spec Tryd.prog 11 [Value.string s]
 H'_1 fun (v : Value) (H' : Heap) => ∃ (a : Option Addr), ∃ (n : Nat), ∃ (c : Nat), ∃ (n_2 : Int), v = Value.tuple #[Value.slice a n c, Value.int IntKind.i64 n_2] ∧ (Vg.Next base H'_1 H' → (¬n_2 = 0 → K (Value.bool true) [] H') ∧ (¬¬n_2
 = 0 → Vg.Spec Tryd.prog 8 [Value.slice a n c] H' fun (v : Value) (H'_2 : Heap) => ∃ (s_3 : ByteArray), ∃ (n : Int), v = Value.tuple #[Value.string s_3, Value.int IntKind.i64 n] ∧ (Vg.Next base H' H'_2 → ∃ (φ : Prop), ((n = 0 → ∃ (b :
 Bool), RunsTo Tryd.prog (binRun BinOp.eql 9 (Operand.tmp 75) (Operand.tmp 76) (Value.string s_3) (Value.string s)) (Value.bool b) ∧ SubH H'_2 H'_2 ∧ (φ ↔ b = true)) ∧ (¬n = 0 → SubH H'_2 H'_2 ∧ ¬φ)) ∧ K (Value.bool (@decide φ
 (Classical.propDecidable φ))) [] H'_2)))))))) := by kernel_rfl
theorem vd4 (a : Option Addr) (l c : Nat) (n : Int) (s : ByteArray) (base : Nat) (H : Heap) (K : Value → List (List Value) → Heap → Prop) :
  (funV ⟨Tryd.prog, Tryd.f4.ntmps, TrydMutsJ, base, H⟩ (bodyOf Tryd.f4) Tryd.f4.results.toList [.v (.slice a l c), .v (.int .i64 n), .v (.string s)] [] K) = (
 Vg.Spec Tryd.prog 8 [Value.slice a l c] H fun (v : Value) (H' : Heap) => ∃ (s_1 : ByteArray), ∃ (n_1 : Int), v = Value.tuple #[Value.string s_1, Value.int IntKind.i64 n_1] ∧ (Vg.Next base H H' → Vg.Spec Tryd.prog 11 [Value.string s] H'
 fun (v : Value) (H'_1 : Heap) => ∃ (a_2 : Option Addr), ∃ (n_2 : Nat), ∃ (c_1 : Nat), ∃ (n_3 : Int), v = Value.tuple #[Value.slice a_2 n_2 c_1, Value.int IntKind.i64 n_3] ∧ (Vg.Next base H' H'_1 → Vg.Spec Tryd.prog 12 [Value.slice a l
 c] H'_1 fun (v : Value) (H' : Heap) => ∃ (n_4 : Int), v = Value.int IntKind.i64 n_4 ∧ (Vg.Next base H'_1 H' → (n_4 = 0 → Vg.Spec Tryd.prog 13 [Value.slice a l c] H' fun (v : Value) (H'_2 : Heap) => ∃ (s_2 : ByteArray), v = Value.string
 s_2 ∧ (Vg.Next base H' H'_2 → ∃ (φ : Prop), (Vg.Spec Tryd.prog 9 [] H'_2 fun (v : Value) (H' : Heap) => ∃ (b : Bool), v = Value.bool b ∧ (Vg.Next base H'_2 H' → (b = false → SubH H'_2 H' ∧ φ) ∧ (¬b = false → Vg.Spec Tryd.prog 14
 [Value.slice a l c] H' fun (v : Value) (H'_3 : Heap) => ∃ (n_5 : Int), v = Value.int IntKind.i64 n_5 ∧ (Vg.Next base H' H'_3 → (¬n_5 = n_4 → SubH H'_2 H'_3 ∧ φ) ∧ (¬¬n_5 = n_4 → Vg.Spec Tryd.prog 15 [Value.slice a l c, Value.int
 IntKind.i64 n] H'_3 fun (v : Value) (H' : Heap) => ∃ (n_6 : Int), v = Value.int IntKind.i64 n_6 ∧ (Vg.Next base H'_3 H' → Vg.Spec Tryd.prog 16 [Value.slice a l c, Value.int IntKind.i64 n] H' fun (v : Value) (H'_4 : Heap) => ∃ (n :
 Int), v = Value.int IntKind.i64 n ∧ (Vg.Next base H' H'_4 → (¬n_6 = n → SubH H'_2 H'_4 ∧ φ) ∧ (¬¬n_6 = n → (¬n_1 = n_4 → SubH H'_2 H'_4 ∧ φ) ∧ (¬¬n_1 = n_4 → ∃ (b : Bool), RunsTo Tryd.prog (binRun BinOp.neq 9 (Operand.tmp 54)
 (Operand.tmp 55) (Value.string s_1) (Value.string s_2)) (Value.bool b) ∧ SubH H'_2 H'_4 ∧ (φ ↔ b = true)))))))))) ∧ (φ → K (Value.bool false) [] H'_2) ∧ (¬φ → (60000 < (↑(ByteArray.size s) : Int) → ∃ (φ : Prop), ((n_3 = 2 → SubH H'_2
 H'_2 ∧ (φ ↔ (↑n_2 : Int) = 0)) ∧ (¬n_3 = 2 → SubH H'_2 H'_2 ∧ ¬φ)) ∧ K (Value.bool (@decide φ (Classical.propDecidable φ))) [] H'_2) ∧ (¬60000 < (↑(ByteArray.size s) : Int) → Vg.Spec Tryd.prog 17 [Value.string s] H'_2 fun (v : Value)
 (H' : Heap) => ∃ (a : Option Addr), ∃ (n : Nat), ∃ (c : Nat), ∃ (n_5 : Int), v = Value.tuple #[Value.slice a n c, Value.int IntKind.i64 n_5] ∧ (Vg.Next base H'_2 H' → ∃ (φ : Prop), ((n_3 = n_5 → Vg.Spec Tryd.prog 10 [Value.slice a_2
 n_2 c_1, Value.slice a n c] H' fun (v : Value) (H'_3 : Heap) => ∃ (b : Bool), v = Value.bool b ∧ (Vg.Next base H' H'_3 → SubH H' H'_3 ∧ (φ ↔ b = true))) ∧ (¬n_3 = n_5 → SubH H' H' ∧ ¬φ)) ∧ K (Value.bool (@decide φ
 (Classical.propDecidable φ))) [] H'))))) ∧ (¬n_4 = 0 → ∃ (φ : Prop), (Vg.Spec Tryd.prog 9 [] H' fun (v : Value) (H'_2 : Heap) => ∃ (b : Bool), v = Value.bool b ∧ (Vg.Next base H' H'_2 → (b = false → SubH H' H'_2 ∧ φ) ∧ (¬b = false →
 Vg.Spec Tryd.prog 14 [Value.slice a l c] H'_2 fun (v : Value) (H'_3 : Heap) => ∃ (n_5 : Int), v = Value.int IntKind.i64 n_5 ∧ (Vg.Next base H'_2 H'_3 → (¬n_5 = n_4 → SubH H' H'_3 ∧ φ) ∧ (¬¬n_5 = n_4 → Vg.Spec Tryd.prog 15 [Value.slice
 a l c, Value.int IntKind.i64 n] H'_3 fun (v : Value) (H'_4 : Heap) => ∃ (n_6 : Int), v = Value.int IntKind.i64 n_6 ∧ (Vg.Next base H'_3 H'_4 → Vg.Spec Tryd.prog 16 [Value.slice a l c, Value.int IntKind.i64 n] H'_4 fun (v : Value) (H'_5
 : Heap) => ∃ (n : Int), v = Value.int IntKind.i64 n ∧ (Vg.Next base H'_4 H'_5 → (¬n_6 = n → SubH H' H'_5 ∧ φ) ∧ (¬¬n_6 = n → (¬n_1 = n_4 → SubH H' H'_5 ∧ φ) ∧ (¬¬n_1 = n_4 → ∃ (b : Bool), RunsTo Tryd.prog (binRun BinOp.neq 9
 (Operand.tmp 54) (Operand.tmp 55) (Value.string s_1) (Value.string (ByteArray.mk #[]))) (Value.bool b) ∧ SubH H' H'_5 ∧ (φ ↔ b = true)))))))))) ∧ (φ → K (Value.bool false) [] H') ∧ (¬φ → (60000 < (↑(ByteArray.size s) : Int) → ∃ (φ :
 Prop), ((n_3 = 2 → SubH H' H' ∧ (φ ↔ (↑n_2 : Int) = 0)) ∧ (¬n_3 = 2 → SubH H' H' ∧ ¬φ)) ∧ K (Value.bool (@decide φ (Classical.propDecidable φ))) [] H') ∧ (¬60000 < (↑(ByteArray.size s) : Int) → Vg.Spec Tryd.prog 17 [Value.string s] H'
 fun (v : Value) (H'_2 : Heap) => ∃ (a : Option Addr), ∃ (n : Nat), ∃ (c : Nat), ∃ (n_5 : Int), v = Value.tuple #[Value.slice a n c, Value.int IntKind.i64 n_5] ∧ (Vg.Next base H' H'_2 → ∃ (φ : Prop), ((n_3 = n_5 → Vg.Spec Tryd.prog 10
 [Value.slice a_2 n_2 c_1, Value.slice a n c] H'_2 fun (v : Value) (H' : Heap) => ∃ (b : Bool), v = Value.bool b ∧ (Vg.Next base H'_2 H' → SubH H'_2 H' ∧ (φ ↔ b = true))) ∧ (¬n_3 = n_5 → SubH H'_2 H'_2 ∧ ¬φ)) ∧ K (Value.bool (@decide φ
 (Classical.propDecidable φ))) [] H'_2)))))))) := by kernel_rfl
end Go.Vg
