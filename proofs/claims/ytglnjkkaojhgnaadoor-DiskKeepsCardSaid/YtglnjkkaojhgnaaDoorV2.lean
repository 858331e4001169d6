/- Verification conditions of functions, as the definitions of this proof reckon them (each by the kernel). -/
import Derived.Test.YtglnjkkaojhgnaaDoorSeat
set_option maxRecDepth 100000
set_option linter.unusedSimpArgs false
set_option linter.unusedVariables false
namespace Go.Vg
open Go Go.Proofs
theorem vc102 (n a b : Int) (base : Nat) (H : Heap) (K : Value → List (List Value) → Heap → Prop) :
  (funV ⟨Tryd.prog, Tryd.f45.ntmps, TrydMuts, base, H⟩ (bodyOf Tryd.f45) Tryd.f45.results.toList [.v (.int .i64 n), .v (.int .i64 a), .v (.int .i64 b)] [] K) = (
 (a ≤ n → K (Value.bool (decide (n ≤ b))) [] H) ∧ (¬a ≤ n → K (Value.bool false) [] H)) := by kernel_rfl
end Go.Vg
