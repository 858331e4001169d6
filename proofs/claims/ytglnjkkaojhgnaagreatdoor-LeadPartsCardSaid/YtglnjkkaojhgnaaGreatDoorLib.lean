/- What is proved here: words for what slices hold, and how contracts are used. -/
import Derived.Test.YtglnjkkaojhgnaaGreatDoorSeat
import Derived.IntWalk
set_option linter.unusedSimpArgs false
set_option linter.unusedVariables false
namespace Go.Vg
open Go
/-- The slice (a, n) holds these rows of cells, 'sz' cells each. -/
structure Has (H : Heap) (sz : Nat) (a : Option Addr) (n : Nat) (rows : List (List Value)) : Prop where
  len : rows.length = n
  le : (n : Int) ≤ 9223372036854775807
  at_ : 0 < n → ∃ b o : Nat, a = some ⟨b, o, none⟩ ∧ ∀ (i : Nat) (r : List Value), rows[i]? = some r → ∀ (j : Nat) (v : Value), r[j]? = some v → H.cell b (o + i * sz + j) = some v
theorem Heap.cell_next {H H' : Heap} (h : ∀ b k, H b = some k → H' b = some k) {b o : Nat} {v : Value} (hc : H.cell b o = some v) : H'.cell b o = some v := by
  unfold Heap.cell at *
  cases hb : H b with
  | none => rw [hb] at hc; cases hc
  | some k => rw [hb] at hc; rw [h b k hb]; exact hc
/-- All that is known stays known. -/
abbrev Ext (H H' : Heap) : Prop := ∀ b k, H b = some k → H' b = some k
theorem Ext.refl (H : Heap) : Ext H H := fun _ _ h => h
theorem Ext.trans {a b c : Heap} (h : Ext a b) (k : Ext b c) : Ext a c := fun x y e => k x y (h x y e)
theorem Has.ext {H H' : Heap} {sz : Nat} {a : Option Addr} {n : Nat} {rows : List (List Value)} (h : Has H sz a n rows) (e : ∀ b k, H b = some k → H' b = some k) : Has H' sz a n rows :=
  ⟨h.len, h.le, fun hn => by
    obtain ⟨b, o, ha, hc⟩ := h.at_ hn
    exact ⟨b, o, ha, fun i r hr j v hv => Heap.cell_next e (hc i r hr j v hv)⟩⟩
theorem Has.next {H H' : Heap} {base sz : Nat} {a : Option Addr} {n : Nat} {rows : List (List Value)} (h : Has H sz a n rows) (e : Next base H H') : Has H' sz a n rows := h.ext e.ext
/-- The row at a place. -/
theorem Has.get {H : Heap} {sz : Nat} {a : Option Addr} {n : Nat} {rows : List (List Value)} (h : Has H sz a n rows) {i : Nat} (hi : i < n) : ∃ (b o : Nat) (r : List Value), a = some ⟨b, o, none⟩ ∧ rows[i]? = some r ∧ ∀ (j : Nat) (v : Value), r[j]? = some v → H.cell b (o + i * sz + j) = some v := by
  obtain ⟨b, o, ha, hc⟩ := h.at_ (by omega)
  have hl := h.len
  exact ⟨b, o, rows[i], ha, List.getElem?_eq_getElem (by omega), fun j v hv => hc i _ (List.getElem?_eq_getElem (by omega)) j v hv⟩
/-- A block known whole holds its rows. -/
theorem Has.of_box {H : Heap} {g : Nat} {ty : TypeId} {cs : List Value} (h : H g = some (boxKB ty cs)) {sz n : Nat} {rows : List (List Value)} (hr : rows.flatten = cs) (hs : ∀ r ∈ rows, r.length = sz) (hn : rows.length = n) (hle : (n : Int) ≤ 9223372036854775807) : Has H sz (some ⟨g, 0, none⟩) n rows := by
  refine ⟨hn, hle, fun _ => ⟨g, 0, rfl, fun i r hi j v hj => ?_⟩⟩
  subst hr
  unfold Heap.cell
  rw [h]
  simp only [Option.bind_some, boxKB, Nat.zero_add]
  clear h hn hle
  induction rows generalizing i with
  | nil => simp at hi
  | cons x rest ih =>
    have hx := hs x List.mem_cons_self
    cases i with
    | zero =>
      simp at hi; subst hi
      rw [List.flatten_cons, Nat.zero_mul, Nat.zero_add, List.getElem?_append_left (by have := List.getElem?_eq_some_iff.1 hj; exact this.1)]
      exact hj
    | succ i =>
      simp only [List.getElem?_cons_succ] at hi
      rw [List.flatten_cons, List.getElem?_append_right (by rw [hx, Nat.succ_mul]; omega), hx, show (i + 1) * sz + j - sz = i * sz + j from by rw [Nat.succ_mul]; omega]
      exact ih (fun r hr => hs r (List.mem_cons_of_mem _ hr)) _ hi
/-- What a row of the known cells says, for one cell a row. -/
theorem SpecO.mono {P : Program} {f : FuncId} {args : List Value} {own : List Bx} {H : Heap} {Q Q' : Value → List (List Value) → Heap → Prop} (h : SpecO P f args own H Q) (hq : ∀ v css H', (∀ b k, H b = some k → H' b = some k) → Q v css H' → Q' v css H') : SpecO P f args own H Q' :=
  fun w hs hb => Calls.mono (h w hs hb) fun e w' he => by
    obtain ⟨v, css, H', h1, h2, h3, h4, h5, h6, h7⟩ := he
    exact ⟨v, css, H', h1, h2, h3, h4, h5, h6, hq v css H' h6.ext h7⟩
theorem Spec.mono {P : Program} {f : FuncId} {args : List Value} {H : Heap} {Q Q' : Value → Heap → Prop} (h : Spec P f args H Q) (hq : ∀ v H', (∀ b k, H b = some k → H' b = some k) → Q v H' → Q' v H') : Spec P f args H Q' :=
  SpecO.mono h fun v _ H' => hq v H'
/-- A call whose value is told. -/
theorem Spec.one {P : Program} {f : FuncId} {args : List Value} {H : Heap} {r : Value} {Q' : Value → Heap → Prop} (h : Spec P f args H fun v _ => v = r) (hq : ∀ H', Q' r H') : Spec P f args H Q' :=
  h.mono fun v H' _ e => e ▸ hq H'
abbrev i64 (n : Int) : Value := .int .i64 n
theorem wrap_in {n : Int} (h : -9223372036854775808 ≤ n) (h' : n ≤ 9223372036854775807) : IntKind.wrap .i64 n = n := IntWalk.i64_in n ⟨h, h'⟩
/-- Rows of one integer each. -/
def intRows (l : List Int) : List (List Value) := l.map fun n => [i64 n]
abbrev Ints (H : Heap) (a : Option Addr) (n : Nat) (l : List Int) : Prop := Has H 1 a n (intRows l)
theorem Has.int {H : Heap} {a : Option Addr} {n : Nat} {l : List Int} (h : Ints H a n l) {k : Int} (h0 : 0 ≤ k) (h1 : k < n) :
    ∃ (b o : Nat) (x : Int), a = some ⟨b, o, none⟩ ∧ l[k.toNat]? = some x ∧ H.cell b (o + k.toNat * 1) = some (i64 x) := by
  obtain ⟨b, o, r, ha, hr, hc⟩ := h.get (i := k.toNat) (by omega)
  simp only [intRows, List.getElem?_map] at hr
  cases hx : l[k.toNat]? with
  | none => rw [hx] at hr; cases hr
  | some x =>
    rw [hx] at hr
    simp only [Option.map_some, Option.some.injEq] at hr
    exact ⟨b, o, x, ha, rfl, by have := hc 0 (i64 x) (by rw [← hr]; rfl); simpa using this⟩
theorem Has.ilen {H : Heap} {a : Option Addr} {n : Nat} {l : List Int} (h : Ints H a n l) : l.length = n := by simpa [intRows] using h.len
/-- The loop's measure: how far a counter is from its end. -/
def upTo (n : Nat) (j : Nat) : List Value → Nat := fun vs => match vs[j]? with | some (.int _ k) => n - k.toNat | _ => 0
end Go.Vg
