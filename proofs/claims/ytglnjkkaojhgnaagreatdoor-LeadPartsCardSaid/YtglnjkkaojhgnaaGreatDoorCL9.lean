/- What is proved here: the contract of the law LeadSays. -/
import Derived.Test.YtglnjkkaojhgnaaGreatDoorCL5
import Derived.Test.YtglnjkkaojhgnaaGreatDoorV8
set_option linter.unusedSimpArgs false
set_option maxRecDepth 100000
set_option linter.unusedVariables false
namespace Go.Vg
open Go Go.Proofs
theorem neqB {xo yo : Operand} {a b : Bool} : RunsTo Tryz.prog (binRun .neq 4 xo yo (.bool a) (.bool b)) (.bool (a != b)) := by
  intro w
  have hg : (eqGuard .neq 4 xo yo (.bool a) (.bool b)).run Tryz.prog w = .ok () w := by simp [eqGuard]
  simp only [binRun, Sem.run_bind, hg, Result.andThen_ok]
  have := run_equal_bool w 4 a b Tryz.underlying4
  simp [binOp, this]
  cases a <;> cases b <;> rfl
section
variable {H : Heap} {c : Conf} {fa ra wa : Option Addr} {fl fc rl rc wl wc : Nat} {l m : Ldr} {la ka la' ka' : Option Addr} {ll lc kl kc ll' lc' kl' kc' : Nat}
end
end Go.Vg
