/- What is proved here: how a contract of a function of this program comes from its verification condition. -/
import Derived.Test.YtglnjkkaojhgnaaGreatDoorSndB
import Derived.Test.YtglnjkkaojhgnaaGreatDoorChecked
set_option linter.unusedSimpArgs false
set_option linter.unusedVariables false
namespace Go.Vg
open Go Go.Proofs
def bodyOf (fn : Func) : Code := fn.body.getD .skip
def okFn (fn : Func) : Bool := fn.body.isSome && opsOk fn.ntmps (codeOps (bodyOf fn))
theorem body_some {fn : Func} (h : okFn fn = true) : fn.body = some (bodyOf fn) := by
  unfold okFn at h
  cases hb : fn.body with
  | none => simp [hb] at h
  | some c => simp [bodyOf, hb]
theorem ops_ok {fn : Func} (h : okFn fn = true) : opsOk fn.ntmps (codeOps (bodyOf fn)) = true := by
  unfold okFn at h
  simp only [Bool.and_eq_true] at h
  exact h.2
/-- The functions that write into what is handed to them: their bodies are taken in place. -/
def TryzList : List FuncId := [84, 85, 112, 137, 160, 56, 57, 58, 59, 62, 65, 92]
noncomputable def TryzFs : List (FuncId × Func) := [(84, Tryz.f84), (85, Tryz.f85), (112, Tryz.f112), (137, Tryz.f137), (160, Tryz.f160), (56, Tryz.f56), (57, Tryz.f57), (58, Tryz.f58), (59, Tryz.f59), (62, Tryz.f62)]
noncomputable def TryzIn1 : InlFn := inlOf Tryz.prog TryzList TryzFs inl0
noncomputable def TryzIn2 : InlFn := inlOf Tryz.prog TryzList TryzFs TryzIn1
noncomputable def TryzIn3 : InlFn := inlOf Tryz.prog TryzList TryzFs TryzIn2
noncomputable def TryzMuts : Muts := ⟨TryzList, TryzIn3, false⟩
theorem Tryzmixed : Tryz.prog.follows .mixedOrders = true := by kernel_rfl
theorem Tryzfs : ∀ p ∈ TryzFs, Tryz.prog.funcs[p.1]? = some p.2 ∧ p.2.body = some (p.2.body.getD .skip) ∧ opsOk p.2.ntmps (codeOps (p.2.body.getD .skip)) = true ∧ TryzList.contains p.1 = true := by
  have h : ∀ (g : FuncId) (fn : Func), Tryz.prog.funcs[g]? = some fn → okFn fn = true → TryzList.contains g = true → Tryz.prog.funcs[g]? = some fn ∧ fn.body = some (fn.body.getD .skip) ∧ opsOk fn.ntmps (codeOps (fn.body.getD .skip)) = true ∧ TryzList.contains g = true :=
    fun g fn h1 h2 h3 => ⟨h1, body_some h2, ops_ok h2, h3⟩
  intro p hp
  simp only [TryzFs, List.mem_cons, List.not_mem_nil, or_false] at hp
  rcases hp with rfl | rfl | rfl | rfl | rfl | rfl | rfl | rfl | rfl | rfl
  · exact h _ _ Tryz.func84 (by kernel_rfl) (by decide)
  · exact h _ _ Tryz.func85 (by kernel_rfl) (by decide)
  · exact h _ _ Tryz.func112 (by kernel_rfl) (by decide)
  · exact h _ _ Tryz.func137 (by kernel_rfl) (by decide)
  · exact h _ _ Tryz.func160 (by kernel_rfl) (by decide)
  · exact h _ _ Tryz.func56 (by kernel_rfl) (by decide)
  · exact h _ _ Tryz.func57 (by kernel_rfl) (by decide)
  · exact h _ _ Tryz.func58 (by kernel_rfl) (by decide)
  · exact h _ _ Tryz.func59 (by kernel_rfl) (by decide)
  · exact h _ _ Tryz.func62 (by kernel_rfl) (by decide)
theorem Tryzin3 (j : Bool) : InlOk Tryz.prog ⟨TryzList, TryzIn3, j⟩ := inl_ok (inl_ok (inl_ok (inl0_ok _ _ _) Tryzmixed Tryzfs) Tryzmixed Tryzfs) Tryzmixed Tryzfs
theorem Tryzinl : InlOk Tryz.prog TryzMuts := Tryzin3 false
theorem Tryzspec {f : FuncId} {fn : Func} (hf : Tryz.prog.funcs[f]? = some fn) (hok : okFn fn = true) {args : List Value} (hargs : Nat.ble args.length fn.ntmps = true) {H : Heap} {Q : Value → Heap → Prop}
    (h : ∀ base, (∀ b k, H b = some k → b < base) → funV ⟨Tryz.prog, fn.ntmps, TryzMuts, base, H⟩ (bodyOf fn) fn.results.toList (args.map SV.v) [] (fun v _ H' => Q v H')) : Spec Tryz.prog f args H Q :=
  spec_of Tryzinl hf (body_some hok) rfl Tryzmixed (ops_ok hok) (Nat.le_of_ble_eq_true hargs) h
/-- The same, the verification condition given as a formula. -/
theorem Tryzvc {f : FuncId} {fn : Func} (hf : Tryz.prog.funcs[f]? = some fn) (hok : okFn fn = true) {args : List Value} (hargs : Nat.ble args.length fn.ntmps = true) {H : Heap} (Q : Value → Heap → Prop) {sv : List SV} (hsv : args.map SV.v = sv)
    {F : Nat → (Value → List (List Value) → Heap → Prop) → Prop} (hv : ∀ base K, funV ⟨Tryz.prog, fn.ntmps, TryzMuts, base, H⟩ (bodyOf fn) fn.results.toList sv [] K = F base K)
    (h : ∀ base, (∀ b k, H b = some k → b < base) → F base (fun v _ H' => Q v H')) : Spec Tryz.prog f args H Q :=
  Tryzspec hf hok hargs fun base hb => by
    rw [hsv, hv base]
    exact h base hb
end Go.Vg
