/- What is proved here: what == says of two structs of integers, of a slice and nil, of two bools. -/
import Derived.Test.YtonlnlkkokigiaaRp3
import Derived.Test.YtonlnlkkokigiaaSeat
import Derived.Tactics
import Derived.Tactics2
import Derived.StillTactics
import Derived.Laws.Pointers
import Derived.Laws.Small
import Derived.Laws.StructEq
import Derived.Laws.Tables
import Derived.Laws.Cover2
import Derived.Laws.Cover3
import Derived.KernelRfl
set_option maxRecDepth 100000
set_option linter.unusedSimpArgs false
set_option linter.unusedVariables false
namespace Go.Vg
open Go Go.Proofs
theorem neq48 {xo yo : Operand} (a b c d : Int) : RunsTo Try.prog (binRun .neq 48 xo yo (.agg #[.int .i64 a, .int .i64 b]) (.agg #[.int .i64 c, .int .i64 d])) (.bool (!(a == c && b == d))) := by
  intro w
  have u3 := Try.underlying3
  have a3 := Try.isAgg3
  have z3 := Try.sizeOf3
  have hS : Try.prog.underlying 48 = some (.struct (Try.prog.fieldsOf 48)) := by kernel_rfl
  have hp : Try.prog.stoodInHeld 48 = false := by kernel_rfl
  have hm : Try.prog.eqGuardType Try.prog.depth 48 = false := by kernel_rfl
  have he : (Op.equalIn 10000 48 (.agg #[.int .i64 a, .int .i64 b]) (.agg #[.int .i64 c, .int .i64 d])).run Try.prog w = .ok (a == c && b == d) w := by
    rw [show (10000 : Nat) = 9999 + 1 from rfl, run_equalIn_agg w 9999 48 _ _ hS hp]
    simp only [Program.fieldsOf, Try.underlying48]
    go_simp
    by_cases h1 : a = c <;> by_cases h2 : b = d <;> simp [h1, h2]
  simp only [binRun, Sem.run_bind, run_eqGuard_agg w _ 48 _ _ _ _ hm, Result.andThen_ok, run_neq_struct, he]
theorem eqNil {ty e : TypeId} (h : Try.prog.underlying ty = some (.slice e)) {xo : Operand} {a : Option Addr} {n c : Nat} : RunsTo Try.prog (binRun .eql ty xo (.const (.slice none 0 0)) (.slice a n c) (.slice none 0 0)) (.bool a.isNone) := by
  intro w
  have hg : (eqGuard .eql ty xo (.const (.slice none 0 0)) (.slice a n c) (.slice none 0 0)).run Try.prog w = .ok () w := by simp [eqGuard]
  simp only [binRun, Sem.run_bind, hg, Result.andThen_ok]
  have := run_equal_slice_nil w ty e a n c h
  simp [binOp, this]
theorem eqBool {xo yo : Operand} {a b : Bool} : RunsTo Try.prog (binRun .eql 4 xo yo (.bool a) (.bool b)) (.bool (a == b)) := by
  intro w
  have hg : (eqGuard .eql 4 xo yo (.bool a) (.bool b)).run Try.prog w = .ok () w := by simp [eqGuard]
  simp only [binRun, Sem.run_bind, hg, Result.andThen_ok]
  have := run_equal_bool w 4 a b Try.underlying4
  simp [binOp, this]
end Go.Vg
