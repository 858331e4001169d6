/- What is proved here: what == says of two structs of integers, of a slice and nil, of two bools. -/
import Derived.Test.YtglnjkkaojhgnaaDoorRp3
import Derived.Test.YtglnjkkaojhgnaaDoorSeat
import Derived.Tactics
import Derived.Tactics2
import Derived.StillTactics
import Derived.Laws.Pointers
import Derived.Laws.Small
import Derived.Laws.StructEq
import Derived.Laws.Tables
import Derived.Laws.Cover2
import Derived.Laws.Cover3
import Derived.KernelRfl
set_option maxRecDepth 100000
set_option linter.unusedSimpArgs false
set_option linter.unusedVariables false
namespace Go.Vg
open Go Go.Proofs
theorem neq48 {xo yo : Operand} (a b c d : Int) : RunsTo Tryd.prog (binRun .neq 29 xo yo (.agg #[.int .i64 a, .int .i64 b]) (.agg #[.int .i64 c, .int .i64 d])) (.bool (!(a == c && b == d))) := by
  intro w
  have u3 := Tryd.underlying3
  have a3 := Tryd.isAgg3
  have z3 := Tryd.sizeOf3
  have hS : Tryd.prog.underlying 29 = some (.struct (Tryd.prog.fieldsOf 29)) := by kernel_rfl
  have hp : Tryd.prog.stoodInHeld 29 = false := by kernel_rfl
  have hm : Tryd.prog.eqGuardType Tryd.prog.depth 29 = false := by kernel_rfl
  have he : (Op.equalIn 10000 29 (.agg #[.int .i64 a, .int .i64 b]) (.agg #[.int .i64 c, .int .i64 d])).run Tryd.prog w = .ok (a == c && b == d) w := by
    rw [show (10000 : Nat) = 9999 + 1 from rfl, run_equalIn_agg w 9999 29 _ _ hS hp]
    simp only [Program.fieldsOf, Tryd.underlying29]
    go_simp
    by_cases h1 : a = c <;> by_cases h2 : b = d <;> simp [h1, h2]
  simp only [binRun, Sem.run_bind, run_eqGuard_agg w _ 29 _ _ _ _ hm, Result.andThen_ok, run_neq_struct, he]
theorem eqNil {ty e : TypeId} (h : Tryd.prog.underlying ty = some (.slice e)) {xo : Operand} {a : Option Addr} {n c : Nat} : RunsTo Tryd.prog (binRun .eql ty xo (.const (.slice none 0 0)) (.slice a n c) (.slice none 0 0)) (.bool a.isNone) := by
  intro w
  have hg : (eqGuard .eql ty xo (.const (.slice none 0 0)) (.slice a n c) (.slice none 0 0)).run Tryd.prog w = .ok () w := by simp [eqGuard]
  simp only [binRun, Sem.run_bind, hg, Result.andThen_ok]
  have := run_equal_slice_nil w ty e a n c h
  simp [binOp, this]
theorem eqBool {xo yo : Operand} {a b : Bool} : RunsTo Tryd.prog (binRun .eql 4 xo yo (.bool a) (.bool b)) (.bool (a == b)) := by
  intro w
  have hg : (eqGuard .eql 4 xo yo (.bool a) (.bool b)).run Tryd.prog w = .ok () w := by simp [eqGuard]
  simp only [binRun, Sem.run_bind, hg, Result.andThen_ok]
  have := run_equal_bool w 4 a b Tryd.underlying4
  simp [binOp, this]
end Go.Vg
