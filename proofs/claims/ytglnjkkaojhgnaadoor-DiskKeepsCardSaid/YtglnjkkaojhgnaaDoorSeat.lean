/- What is proved here: how a contract of a function of this program comes from its verification condition. -/
import Derived.Test.YtglnjkkaojhgnaaDoorSndB
import Derived.Test.YtglnjkkaojhgnaaDoorChecked
set_option linter.unusedSimpArgs false
set_option linter.unusedVariables false
namespace Go.Vg
open Go Go.Proofs
def bodyOf (fn : Func) : Code := fn.body.getD .skip
def okFn (fn : Func) : Bool := fn.body.isSome && opsOk fn.ntmps (codeOps (bodyOf fn))
theorem body_some {fn : Func} (h : okFn fn = true) : fn.body = some (bodyOf fn) := by
  unfold okFn at h
  cases hb : fn.body with
  | none => simp [hb] at h
  | some c => simp [bodyOf, hb]
theorem ops_ok {fn : Func} (h : okFn fn = true) : opsOk fn.ntmps (codeOps (bodyOf fn)) = true := by
  unfold okFn at h
  simp only [Bool.and_eq_true] at h
  exact h.2
/-- The functions that write into what is handed to them: their bodies are taken in place. -/
def TrydList : List FuncId := [50, 51, 73, 31]
noncomputable def TrydFs : List (FuncId × Func) := [(50, Tryd.f50)]
noncomputable def TrydIn1 : InlFn := inlOf Tryd.prog TrydList TrydFs inl0
theorem Trydmixed : Tryd.prog.follows .mixedOrders = true := by kernel_rfl
theorem Trydfs : ∀ p ∈ TrydFs, Tryd.prog.funcs[p.1]? = some p.2 ∧ p.2.body = some (p.2.body.getD .skip) ∧ opsOk p.2.ntmps (codeOps (p.2.body.getD .skip)) = true ∧ TrydList.contains p.1 = true := by
  have h : ∀ (g : FuncId) (fn : Func), Tryd.prog.funcs[g]? = some fn → okFn fn = true → TrydList.contains g = true → Tryd.prog.funcs[g]? = some fn ∧ fn.body = some (fn.body.getD .skip) ∧ opsOk fn.ntmps (codeOps (fn.body.getD .skip)) = true ∧ TrydList.contains g = true :=
    fun g fn h1 h2 h3 => ⟨h1, body_some h2, ops_ok h2, h3⟩
  intro p hp
  simp only [TrydFs, List.mem_cons, List.not_mem_nil, or_false] at hp
  rcases hp with rfl
  · exact h _ _ Tryd.func50 (by kernel_rfl) (by decide)
theorem Trydin1 (j : Bool) : InlOk Tryd.prog ⟨TrydList, TrydIn1, j⟩ := inl_ok (inl0_ok _ _ _) Trydmixed Trydfs
noncomputable def TrydMuts : Muts := ⟨TrydList, TrydIn1, false⟩
theorem Trydinl : InlOk Tryd.prog TrydMuts := Trydin1 false
theorem Trydspec {f : FuncId} {fn : Func} (hf : Tryd.prog.funcs[f]? = some fn) (hok : okFn fn = true) {args : List Value} (hargs : Nat.ble args.length fn.ntmps = true) {H : Heap} {Q : Value → Heap → Prop}
    (h : ∀ base, (∀ b k, H b = some k → b < base) → funV ⟨Tryd.prog, fn.ntmps, TrydMuts, base, H⟩ (bodyOf fn) fn.results.toList (args.map SV.v) [] (fun v _ H' => Q v H')) : Spec Tryd.prog f args H Q :=
  spec_of Trydinl hf (body_some hok) rfl Trydmixed (ops_ok hok) (Nat.le_of_ble_eq_true hargs) h
/-- The same, the verification condition given as a formula. -/
theorem Trydvc {f : FuncId} {fn : Func} (hf : Tryd.prog.funcs[f]? = some fn) (hok : okFn fn = true) {args : List Value} (hargs : Nat.ble args.length fn.ntmps = true) {H : Heap} (Q : Value → Heap → Prop) {sv : List SV} (hsv : args.map SV.v = sv)
    {F : Nat → (Value → List (List Value) → Heap → Prop) → Prop} (hv : ∀ base K, funV ⟨Tryd.prog, fn.ntmps, TrydMuts, base, H⟩ (bodyOf fn) fn.results.toList sv [] K = F base K)
    (h : ∀ base, (∀ b k, H b = some k → b < base) → F base (fun v _ H' => Q v H')) : Spec Tryd.prog f args H Q :=
  Trydspec hf hok hargs fun base hb => by
    rw [hsv, hv base]
    exact h base hb
end Go.Vg
