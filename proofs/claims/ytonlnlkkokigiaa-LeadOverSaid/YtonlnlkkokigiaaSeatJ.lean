/- What is proved here: as for the seat, where regions of guarded operations are joined, and slices.Insert, slices.Delete are taken as what they make. -/
import Derived.Test.YtonlnlkkokigiaaInl
set_option linter.unusedSimpArgs false
set_option linter.unusedVariables false
namespace Go.Vg
set_option maxRecDepth 100000
open Go Go.Proofs
noncomputable def TrySum : InlFn := fun base H0 g pre own H f =>
  if g = 122 then (match pre with
    | [.v (.slice a n c), .v (.int .i64 i), .v (.slice (some ⟨g', 0, none⟩) 1 1)] => some (insP base own H f a n c i g')
    | _ => none)
  else if g = 123 then (match pre with
    | [.v (.slice a n c), .v (.int .i64 i), .v (.int .i64 j)] => some (delP base 2 48 own H f a n c i j)
    | _ => none)
  else if g = 53 then (match pre with
    | [.v (.slice a n c), .v (.int .i64 i), .v (.int .i64 j)] => some (delP base 6 61 own H f a n c i j)
    | _ => none)
  else TryIn3 base H0 g pre own H f
theorem in3_at {g : FuncId} {fn : Func} (hl : lookFn g TryFs = some fn) {pre : List SV} (hn : pre.length ≤ fn.ntmps) {base : Nat} {H0 : Heap} {own : List Bx} {H : Heap} {f : SV → List Bx → Heap → Prop} :
    TryIn3 base H0 g pre own H f = some (codeI ⟨Try.prog, fn.ntmps, ⟨TryList, TryIn2, true⟩, base, H0⟩ fn pre own H f) := by
  unfold TryIn3 inlOf
  rw [hl]
  dsimp only
  rw [if_pos hn]
theorem Trysum (j : Bool) : InlOk Try.prog ⟨TryList, TrySum, j⟩ := by
  have key : ∀ base H0 g pre own H f p q, TryIn3 base H0 g pre own H f = some q → (p → q) → TryList.contains g = true ∧ (p → ∀ (C : Cfg) (w0 : World) (own0 : List Nat) (w : World), C.base = base → C.H0 = H0 → StW C w0 own0 own H w → (∀ s ∈ pre, SV.wf own.length s) →
      Calls Try.prog g (pre.map (SV.val own)).toArray w fun e w' => ∃ v own' H', e = .returned v ∧ f (.v v) own' H' ∧ OwnExt own own' ∧ StW C w0 own0 own' H' w') := fun base H0 g pre own H f p q hq hpq => by
    obtain ⟨h1, h2⟩ := Tryin3 j base H0 g pre own H f q hq
    exact ⟨h1, fun hp => h2 (hpq hp)⟩
  intro base H0 g pre own H f p hp
  unfold TrySum at hp
  dsimp only at hp
  split at hp
  · rename_i e
    subst e
    split at hp
    · obtain rfl := Option.some.inj hp
      exact key _ _ _ _ _ _ _ _ _ (in3_at (fn := Try.f122) (by rfl) (Nat.le_of_ble_eq_true (by kernel_rfl))) ins_sum
    · cases hp
  · split at hp
    · rename_i e
      subst e
      split at hp
      · obtain rfl := Option.some.inj hp
        exact key _ _ _ _ _ _ _ _ _ (in3_at (fn := Try.f123) (by rfl) (Nat.le_of_ble_eq_true (by kernel_rfl))) fun h => by
          show codeI ⟨Try.prog, Try.f123.ntmps, ⟨TryList, TryIn2, true⟩, base, H0⟩ Try.f123 _ own H f
          rw [vcI123]
          exact del_sum (bytes := 16) (by omega) h
      · cases hp
    · split at hp
      · rename_i e
        subst e
        split at hp
        · obtain rfl := Option.some.inj hp
          exact key _ _ _ _ _ _ _ _ _ (in3_at (fn := Try.f53) (by rfl) (Nat.le_of_ble_eq_true (by kernel_rfl))) fun h => by
            show codeI ⟨Try.prog, Try.f53.ntmps, ⟨TryList, TryIn2, true⟩, base, H0⟩ Try.f53 _ own H f
            rw [vcI53]
            exact del_sum (bytes := 56) (by omega) h
        · cases hp
      · exact Tryin3 j base H0 g pre own H f p hp
noncomputable def TryMutsJ : Muts := ⟨TryList, TrySum, true⟩
/-- A contract from the verification condition, given as a formula. -/
theorem TryvcJ {f : FuncId} {fn : Func} (hf : Try.prog.funcs[f]? = some fn) (hok : okFn fn = true) {args : List Value} (hargs : Nat.ble args.length fn.ntmps = true) {H : Heap} (Q : Value → Heap → Prop) {sv : List SV} (hsv : args.map SV.v = sv)
    {F : Nat → (Value → List (List Value) → Heap → Prop) → Prop} (hv : ∀ base K, funV ⟨Try.prog, fn.ntmps, TryMutsJ, base, H⟩ (bodyOf fn) fn.results.toList sv [] K = F base K)
    (h : ∀ base, (∀ b k, H b = some k → b < base) → F base (fun v _ H' => Q v H')) : Spec Try.prog f args H Q :=
  spec_of (muts := TryMutsJ) (Trysum true) hf (body_some hok) rfl Trymixed (ops_ok hok) (Nat.le_of_ble_eq_true hargs) fun base hb => by
    rw [hsv, hv base]
    exact h base hb
end Go.Vg
