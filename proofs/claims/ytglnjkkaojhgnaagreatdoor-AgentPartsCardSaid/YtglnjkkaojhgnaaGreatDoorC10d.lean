/- What is proved here: the contract of the law WaySays. -/
import Derived.Test.YtglnjkkaojhgnaaGreatDoorC10
import Derived.Test.YtglnjkkaojhgnaaGreatDoorV10
set_option linter.unusedSimpArgs false
set_option maxRecDepth 100000
set_option linter.unusedVariables false
namespace Go.Vg
open Go Go.Proofs
theorem neqBool {xo yo : Operand} {a b : Bool} : RunsTo Tryz.prog (binRun .neq 4 xo yo (.bool a) (.bool b)) (.bool (a != b)) := by
  intro w
  have hg : (eqGuard .neq 4 xo yo (.bool a) (.bool b)).run Tryz.prog w = .ok () w := by simp [eqGuard]
  simp only [binRun, Sem.run_bind, hg, Result.andThen_ok]
  have := run_equal_bool w 4 a b Tryz.underlying4
  simp [binOp, this]
  cases a <;> cases b <;> rfl
theorem tak_noMail {ms : List Mail} {k : Int} (h : takeErr ms k ≠ 0) {H : Heap} {a : Option Addr} {n : Nat} {tw : Bool} (hT : Mails H a n (if takeErr ms k = 0 then left ms k tw else [])) : n = 0 := by
  rw [if_neg h] at hT; exact hT.len.symm
end Go.Vg
