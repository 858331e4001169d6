/- What is proved here: calls that turn nothing of what is known: contracts that tell their value alone; what the library's functions make, out of the library's contracts. -/
import Derived.Test.YtglnjkkaojhgnaaGreatDoorRep
import Derived.Below
set_option linter.unusedSimpArgs false
set_option linter.unusedVariables false
namespace Go.Vg
open Go Go.Proofs Go.RowKit
theorem Sees.low {H : Heap} {w w' : World} (h : Sees H w) (hB : Below w.heap.size w w') : Sees H w' := fun b k hb => by
  rw [hB.block b (h.lt hb)]; exact h b k hb
theorem Sees.sub {H H' : Heap} {w : World} (h : Sees H' w) (e : Ext H H') : Sees H w := fun b k hb => h b k (e b k hb)
/-- THE CONTRACT OF A CALL that turns nothing of what is known: its value. -/
def SpecV (P : Program) (f : FuncId) (args : List Value) (H : Heap) (Q : Value → Prop) : Prop :=
  ∀ w, Sees H w → Calls P f args.toArray w fun e w' => ∃ v, e = .returned v ∧ Q v ∧ Below w.heap.size w w'
theorem SpecV.ext {P : Program} {f : FuncId} {args : List Value} {H H' : Heap} {Q : Value → Prop} (h : SpecV P f args H Q) (e : Ext H H') : SpecV P f args H' Q := fun w hw => h w (hw.sub e)
theorem SpecV.mono {P : Program} {f : FuncId} {args : List Value} {H : Heap} {Q Q' : Value → Prop} (h : SpecV P f args H Q) (hq : ∀ v, Q v → Q' v) : SpecV P f args H Q' :=
  fun w hw => (h w hw).mono fun e w' ⟨v, he, hv, hB⟩ => ⟨v, he, hq v hv, hB⟩
theorem belowX_of {w w' : World} (h : Below w.heap.size w w') : BelowX [] w w' := ⟨h.os, h.tape, h.output, h.size, fun k hk _ => h.block k hk⟩
theorem SpecV.spec {P : Program} {f : FuncId} {args : List Value} {H : Heap} {Q : Value → Prop} (h : SpecV P f args H Q) : Spec P f args H fun v H' => Q v ∧ H' = H := fun w hw hb =>
  (h w hw).mono fun e w' ⟨v, he, hv, hB⟩ => ⟨v, [], H, he, rfl, belowX_of hB, hw.low hB, ⟨fun _ hx => (by cases hx), fun _ hx => (by cases hx), by simp [setAll]⟩, ⟨fun _ _ h => h, fun b k h h' => (by rw [h] at h'; cases h')⟩, hv, rfl⟩
/-- As a verification condition asks it. -/
theorem SpecV.call {P : Program} {f : FuncId} {args : List Value} {H : Heap} {Q : Value → Prop} (h : SpecV P f args H Q) {base : Nat} {G : Value → Heap → Prop} (hG : ∀ v, Q v → ∀ H', Ext H H' → G v H') : Spec P f args H G :=
  h.spec.mono fun v H' e hv => hG v hv.1 H' e
/-- Strings. -/
def str (l : List UInt8) : Value := .string ⟨l.toArray⟩
theorem bytes_mk (s : ByteArray) : (⟨s.data.toList.toArray⟩ : ByteArray) = s := rfl
theorem str_data (s : ByteArray) : str s.data.toList = .string s := rfl
def RStr : Rep (List UInt8) := fun _ r x => r = [str x]
theorem RStr.mono : RStr.Mono := fun _ _ _ _ _ h => h
theorem Sl.str {H H' : Heap} {a : Option Addr} {n : Nat} {xs : List (List UInt8)} (h : Sl RStr 1 H a n xs) (e : Ext H H') {k : Int} (h0 : 0 ≤ k) (h1 : k < n) {F : ByteArray → Prop} (hF : ∀ x, xs[k.toNat]? = some x → F ⟨x.toArray⟩) :
    ∃ (b o : Nat), a = some ⟨b, o, none⟩ ∧ 0 ≤ k ∧ k < n ∧ ∃ s : ByteArray, H'.cell b (o + k.toNat * 1) = some (.string s) ∧ F s := by
  obtain ⟨b, o, r, x, ha, hx, hr, hc⟩ := h.get h0 h1
  obtain rfl := hr
  exact ⟨b, o, ha, h0, h1, ⟨x.toArray⟩, Heap.cell_next e (hc 0 _ rfl), hF x hx⟩
/-! ### Calls whose value is told -/
section
variable {P : Program} {f : FuncId} {args : List Value} {H : Heap} {base : Nat}
theorem SpecV.str1 {m : List UInt8} (h : SpecV P f args H fun v => v = str m) {G : ByteArray → Heap → Prop} (hG : ∀ H', Ext H H' → Next base H H' → G ⟨m.toArray⟩ H') :
    Spec P f args H fun v H' => ∃ s : ByteArray, v = .string s ∧ (Next base H H' → G s H') :=
  h.spec.mono fun v H' e hv => ⟨_, hv.1, fun hN => hG H' e hN⟩
theorem SpecV.int1 {m : Int} (h : SpecV P f args H fun v => v = .int .i64 m) {G : Int → Heap → Prop} (hG : ∀ H', Ext H H' → Next base H H' → G m H') :
    Spec P f args H fun v H' => ∃ n : Int, v = .int .i64 n ∧ (Next base H H' → G n H') :=
  h.spec.mono fun v H' e hv => ⟨_, hv.1, fun hN => hG H' e hN⟩
theorem SpecV.bool1 {m : Bool} (h : SpecV P f args H fun v => v = .bool m) {G : Bool → Heap → Prop} (hG : ∀ H', Ext H H' → Next base H H' → G m H') :
    Spec P f args H fun v H' => ∃ n : Bool, v = .bool n ∧ (Next base H H' → G n H') :=
  h.spec.mono fun v H' e hv => ⟨_, hv.1, fun hN => hG H' e hN⟩
theorem SpecV.cut3 {a b : List UInt8} {c : Bool} (h : SpecV P f args H fun v => v = .tuple #[str a, str b, .bool c]) {G : ByteArray → ByteArray → Bool → Heap → Prop} (hG : ∀ H', Ext H H' → Next base H H' → G ⟨a.toArray⟩ ⟨b.toArray⟩ c H') :
    Spec P f args H fun v H' => ∃ (s t : ByteArray) (b : Bool), v = .tuple #[.string s, .string t, .bool b] ∧ (Next base H H' → G s t b H') :=
  h.spec.mono fun v H' e hv => ⟨_, _, _, hv.1, fun hN => hG H' e hN⟩
theorem SpecV.cut2 {a : List UInt8} {c : Bool} (h : SpecV P f args H fun v => v = .tuple #[str a, .bool c]) {G : ByteArray → Bool → Heap → Prop} (hG : ∀ H', Ext H H' → Next base H H' → G ⟨a.toArray⟩ c H') :
    Spec P f args H fun v H' => ∃ (s : ByteArray) (b : Bool), v = .tuple #[.string s, .bool b] ∧ (Next base H H' → G s b H') :=
  h.spec.mono fun v H' e hv => ⟨_, _, hv.1, fun hN => hG H' e hN⟩
/-- A text and an error. -/
theorem Spec.strE {m : List UInt8} {e : Int} (h : Spec P f args H fun v _ => v = .tuple #[str m, .int .i64 e]) {G : ByteArray → Int → Heap → Prop} (hG : ∀ H', Ext H H' → Next base H H' → G ⟨m.toArray⟩ e H') :
    Spec P f args H fun v H' => ∃ (s : ByteArray) (n : Int), v = .tuple #[.string s, .int .i64 n] ∧ (Next base H H' → G s n H') :=
  h.mono fun v H' x hv => ⟨_, _, hv, fun hN => hG H' x hN⟩
theorem Spec.str1 {m : List UInt8} (h : Spec P f args H fun v _ => v = str m) {G : ByteArray → Heap → Prop} (hG : ∀ H', Ext H H' → Next base H H' → G ⟨m.toArray⟩ H') :
    Spec P f args H fun v H' => ∃ s : ByteArray, v = .string s ∧ (Next base H H' → G s H') :=
  h.mono fun v H' e hv => ⟨_, hv, fun hN => hG H' e hN⟩
end
/-! ### Operations on texts -/
theorem runs_add {P : Program} {ty : TypeId} {xo yo : Operand} {a b c : List UInt8} (e : a ++ b = c) (h : a.length + b.length ≤ 9223372036854775807) : RunsTo P (binRun .add ty xo yo (.string ⟨a.toArray⟩) (.string ⟨b.toArray⟩)) (.string ⟨c.toArray⟩) := by
  intro w
  subst e
  have hg : (eqGuard .add ty xo yo (.string ⟨a.toArray⟩) (.string ⟨b.toArray⟩)).run P w = .ok () w := by simp [eqGuard]
  have hb : (binOp .add ty (.string ⟨a.toArray⟩) (.string ⟨b.toArray⟩)).run P w = .ok (.string ((⟨a.toArray⟩ : ByteArray) ++ ⟨b.toArray⟩)) w := by
    have h1 : (⟨a.toArray⟩ : ByteArray).size = a.length := rfl
    have h2 : (⟨b.toArray⟩ : ByteArray).size = b.length := rfl
    have h3 : ¬ (IntKind.i64.max < ((a.length + b.length : Nat) : Int)) := by
      have : IntKind.i64.max = 9223372036854775807 := by decide
      omega
    simp only [binOp, Op.stringOp, h1, h2, gt_iff_lt, if_neg h3]
    rfl
  have hc : ((⟨a.toArray⟩ : ByteArray) ++ ⟨b.toArray⟩) = ⟨(a ++ b).toArray⟩ := by
    apply ByteArray.ext
    simp [ByteArray.data_append]
  simp only [binRun, Sem.run_bind, hg, Result.andThen_ok, hb, hc]
end Go.Vg
