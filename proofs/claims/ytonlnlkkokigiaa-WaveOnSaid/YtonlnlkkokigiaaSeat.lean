/- What is proved here: how a contract of a function of this program comes from its verification condition. -/
import Derived.Test.YtonlnlkkokigiaaSndD
import Derived.Test.YtonlnlkkokigiaaChecked
set_option linter.unusedSimpArgs false
set_option linter.unusedVariables false
namespace Go.Vg
open Go Go.Proofs
def bodyOf (fn : Func) : Code := fn.body.getD .skip
def okFn (fn : Func) : Bool := fn.body.isSome && opsOk fn.ntmps (codeOps (bodyOf fn))
theorem body_some {fn : Func} (h : okFn fn = true) : fn.body = some (bodyOf fn) := by
  unfold okFn at h
  cases hb : fn.body with
  | none => simp [hb] at h
  | some c => simp [bodyOf, hb]
theorem ops_ok {fn : Func} (h : okFn fn = true) : opsOk fn.ntmps (codeOps (bodyOf fn)) = true := by
  unfold okFn at h
  simp only [Bool.and_eq_true] at h
  exact h.2
/-- The functions that write into boxes handed to them. -/
def TryMuts : List FuncId := []
theorem Trymixed : Try.prog.follows .mixedOrders = true := by kernel_rfl
theorem Tryspec {f : FuncId} {fn : Func} (hf : Try.prog.funcs[f]? = some fn) (hok : okFn fn = true) {args : List Value} (hargs : Nat.ble args.length fn.ntmps = true) {H : Heap} {Q : Value → Heap → Prop}
    (h : ∀ base, (∀ b k, H b = some k → b < base) → funV ⟨Try.prog, fn.ntmps, TryMuts, base, H⟩ (bodyOf fn) fn.results.toList (args.map SV.v) [] (fun v _ H' => Q v H')) : Spec Try.prog f args H Q :=
  spec_of hf (body_some hok) rfl Trymixed (ops_ok hok) (Nat.le_of_ble_eq_true hargs) h
/-- The same, the verification condition given as a formula. -/
theorem Tryvc {f : FuncId} {fn : Func} (hf : Try.prog.funcs[f]? = some fn) (hok : okFn fn = true) {args : List Value} (hargs : Nat.ble args.length fn.ntmps = true) {H : Heap} (Q : Value → Heap → Prop) {sv : List SV} (hsv : args.map SV.v = sv)
    {F : Nat → (Value → List (List Value) → Heap → Prop) → Prop} (hv : ∀ base K, funV ⟨Try.prog, fn.ntmps, TryMuts, base, H⟩ (bodyOf fn) fn.results.toList sv [] K = F base K)
    (h : ∀ base, (∀ b k, H b = some k → b < base) → F base (fun v _ H' => Q v H')) : Spec Try.prog f args H Q :=
  Tryspec hf hok hargs fun base hb => by
    rw [hsv, hv base]
    exact h base hb
end Go.Vg
