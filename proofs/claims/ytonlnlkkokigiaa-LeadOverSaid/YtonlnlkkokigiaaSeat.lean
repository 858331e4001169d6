/- What is proved here: how a contract of a function of this program comes from its verification condition. -/
import Derived.Test.YtonlnlkkokigiaaSndE
import Derived.Test.YtonlnlkkokigiaaChecked
set_option linter.unusedSimpArgs false
set_option linter.unusedVariables false
namespace Go.Vg
open Go Go.Proofs
def bodyOf (fn : Func) : Code := fn.body.getD .skip
def okFn (fn : Func) : Bool := fn.body.isSome && opsOk fn.ntmps (codeOps (bodyOf fn))
theorem body_some {fn : Func} (h : okFn fn = true) : fn.body = some (bodyOf fn) := by
  unfold okFn at h
  cases hb : fn.body with
  | none => simp [hb] at h
  | some c => simp [bodyOf, hb]
theorem ops_ok {fn : Func} (h : okFn fn = true) : opsOk fn.ntmps (codeOps (bodyOf fn)) = true := by
  unfold okFn at h
  simp only [Bool.and_eq_true] at h
  exact h.2
/-- The functions that write into what is handed to them: their bodies are taken in place. -/
def TryList : List FuncId := [44, 53, 122, 123, 142, 153, 156, 130, 131, 132, 133, 78]
noncomputable def TryFs : List (FuncId × Func) := [(44, Try.f44), (53, Try.f53), (122, Try.f122), (123, Try.f123), (142, Try.f142), (153, Try.f153), (156, Try.f156), (130, Try.f130), (131, Try.f131), (132, Try.f132), (133, Try.f133), (78, Try.f78)]
noncomputable def TryIn1 : InlFn := inlOf Try.prog TryList TryFs inl0
noncomputable def TryIn2 : InlFn := inlOf Try.prog TryList TryFs TryIn1
noncomputable def TryIn3 : InlFn := inlOf Try.prog TryList TryFs TryIn2
noncomputable def TryMuts : Muts := ⟨TryList, TryIn3, false⟩
theorem Trymixed : Try.prog.follows .mixedOrders = true := by kernel_rfl
theorem Tryfs : ∀ p ∈ TryFs, Try.prog.funcs[p.1]? = some p.2 ∧ p.2.body = some (p.2.body.getD .skip) ∧ opsOk p.2.ntmps (codeOps (p.2.body.getD .skip)) = true ∧ TryList.contains p.1 = true := by
  have h : ∀ (g : FuncId) (fn : Func), Try.prog.funcs[g]? = some fn → okFn fn = true → TryList.contains g = true → Try.prog.funcs[g]? = some fn ∧ fn.body = some (fn.body.getD .skip) ∧ opsOk fn.ntmps (codeOps (fn.body.getD .skip)) = true ∧ TryList.contains g = true :=
    fun g fn h1 h2 h3 => ⟨h1, body_some h2, ops_ok h2, h3⟩
  intro p hp
  simp only [TryFs, List.mem_cons, List.not_mem_nil, or_false] at hp
  rcases hp with rfl | rfl | rfl | rfl | rfl | rfl | rfl | rfl | rfl | rfl | rfl | rfl
  · exact h _ _ Try.func44 (by kernel_rfl) (by decide)
  · exact h _ _ Try.func53 (by kernel_rfl) (by decide)
  · exact h _ _ Try.func122 (by kernel_rfl) (by decide)
  · exact h _ _ Try.func123 (by kernel_rfl) (by decide)
  · exact h _ _ Try.func142 (by kernel_rfl) (by decide)
  · exact h _ _ Try.func153 (by kernel_rfl) (by decide)
  · exact h _ _ Try.func156 (by kernel_rfl) (by decide)
  · exact h _ _ Try.func130 (by kernel_rfl) (by decide)
  · exact h _ _ Try.func131 (by kernel_rfl) (by decide)
  · exact h _ _ Try.func132 (by kernel_rfl) (by decide)
  · exact h _ _ Try.func133 (by kernel_rfl) (by decide)
  · exact h _ _ Try.func78 (by kernel_rfl) (by decide)
theorem Tryin3 (j : Bool) : InlOk Try.prog ⟨TryList, TryIn3, j⟩ := inl_ok (inl_ok (inl_ok (inl0_ok _ _ _) Trymixed Tryfs) Trymixed Tryfs) Trymixed Tryfs
theorem Tryinl : InlOk Try.prog TryMuts := Tryin3 false
theorem Tryspec {f : FuncId} {fn : Func} (hf : Try.prog.funcs[f]? = some fn) (hok : okFn fn = true) {args : List Value} (hargs : Nat.ble args.length fn.ntmps = true) {H : Heap} {Q : Value → Heap → Prop}
    (h : ∀ base, (∀ b k, H b = some k → b < base) → funV ⟨Try.prog, fn.ntmps, TryMuts, base, H⟩ (bodyOf fn) fn.results.toList (args.map SV.v) [] (fun v _ H' => Q v H')) : Spec Try.prog f args H Q :=
  spec_of Tryinl hf (body_some hok) rfl Trymixed (ops_ok hok) (Nat.le_of_ble_eq_true hargs) h
/-- The same, the verification condition given as a formula. -/
theorem Tryvc {f : FuncId} {fn : Func} (hf : Try.prog.funcs[f]? = some fn) (hok : okFn fn = true) {args : List Value} (hargs : Nat.ble args.length fn.ntmps = true) {H : Heap} (Q : Value → Heap → Prop) {sv : List SV} (hsv : args.map SV.v = sv)
    {F : Nat → (Value → List (List Value) → Heap → Prop) → Prop} (hv : ∀ base K, funV ⟨Try.prog, fn.ntmps, TryMuts, base, H⟩ (bodyOf fn) fn.results.toList sv [] K = F base K)
    (h : ∀ base, (∀ b k, H b = some k → b < base) → F base (fun v _ H' => Q v H')) : Spec Try.prog f args H Q :=
  Tryspec hf hok hargs fun base hb => by
    rw [hsv, hv base]
    exact h base hb
end Go.Vg
