/- What is proved here: words for what slices of any kind of element hold, and how a verification condition's reads are met. -/
import Derived.Test.YtglnjkkaojhgnaaGreatDoorLib
set_option linter.unusedSimpArgs false
set_option linter.unusedVariables false
namespace Go.Vg
open Go
/-- What a row of cells stands for. -/
abbrev Rep (α : Type) := Heap → List Value → α → Prop
/-- It stays true where more is known. -/
def Rep.Mono {α : Type} (R : Rep α) : Prop := ∀ (H H' : Heap) (r : List Value) (x : α), Ext H H' → R H r x → R H' r x
/-- The slice (a, n) holds 'xs', each in 'sz' cells. -/
structure Sl {α : Type} (R : Rep α) (sz : Nat) (H : Heap) (a : Option Addr) (n : Nat) (xs : List α) : Prop where
  len : xs.length = n
  le : (n : Int) ≤ 9223372036854775807
  at_ : 0 < n → ∃ b o : Nat, a = some ⟨b, o, none⟩ ∧ ∀ (i : Nat) (x : α), xs[i]? = some x → ∃ r, R H r x ∧ ∀ (j : Nat) (v : Value), r[j]? = some v → H.cell b (o + i * sz + j) = some v
theorem Sl.ext {α : Type} {R : Rep α} (hR : R.Mono) {sz n : Nat} {H H' : Heap} {a : Option Addr} {xs : List α} (h : Sl R sz H a n xs) (e : Ext H H') : Sl R sz H' a n xs :=
  ⟨h.len, h.le, fun hn => by
    obtain ⟨b, o, ha, hc⟩ := h.at_ hn
    refine ⟨b, o, ha, fun i x hx => ?_⟩
    obtain ⟨r, hr, hv⟩ := hc i x hx
    exact ⟨r, hR _ _ _ _ e hr, fun j v hj => Heap.cell_next e (hv j v hj)⟩⟩
theorem Sl.nil {α : Type} {R : Rep α} {sz : Nat} {H : Heap} {a : Option Addr} : Sl R sz H a 0 ([] : List α) := ⟨rfl, by omega, fun h => by omega⟩
/-- The element at a place. -/
theorem Sl.get {α : Type} {R : Rep α} {sz n : Nat} {H : Heap} {a : Option Addr} {xs : List α} (h : Sl R sz H a n xs) {k : Int} (h0 : 0 ≤ k) (h1 : k < n) :
    ∃ (b o : Nat) (r : List Value) (x : α), a = some ⟨b, o, none⟩ ∧ xs[k.toNat]? = some x ∧ R H r x ∧ ∀ (j : Nat) (v : Value), r[j]? = some v → H.cell b (o + k.toNat * sz + j) = some v := by
  obtain ⟨b, o, ha, hc⟩ := h.at_ (by omega)
  have hl := h.len
  have hk : xs[k.toNat]? = some (xs[k.toNat]'(by omega)) := List.getElem?_eq_getElem (by omega)
  obtain ⟨r, hr, hv⟩ := hc _ _ hk
  exact ⟨b, o, r, _, ha, hk, hr, hv⟩
/-- What a list begins with from a place on. -/
theorem drop_at {α : Type} {xs : List α} {i : Nat} {x : α} (h : xs[i]? = some x) : xs.drop i = x :: xs.drop (i + 1) := by
  obtain ⟨hi, rfl⟩ := List.getElem?_eq_some_iff.1 h
  exact List.drop_eq_getElem_cons hi
theorem take_at {α : Type} {xs : List α} {i : Nat} {x : α} (h : xs[i]? = some x) : xs.take (i + 1) = xs.take i ++ [x] := by
  rw [List.take_add_one, h]; rfl
theorem drop_all {α : Type} {xs : List α} {i n : Nat} (h : xs.length = n) (hi : n ≤ i) : xs.drop i = [] := List.drop_eq_nil_of_le (by omega)
/-- A part of a slice. -/
theorem Sl.sub {α : Type} {R : Rep α} {sz n : Nat} {H : Heap} {a a' : Option Addr} {xs : List α} (h : Sl R sz H a n xs) {l m : Nat} (hm : l + m ≤ n)
    (ha : 0 < m → a' = a.map fun ad => ad.add (l * sz)) : Sl R sz H a' m ((xs.drop l).take m) := by
  have hl := h.len
  have hle := h.le
  refine ⟨by simp; omega, by omega, fun hm0 => ?_⟩
  obtain ⟨b, o, rfl, hc⟩ := h.at_ (by omega)
  refine ⟨b, o + l * sz, ?_, fun i x hx => ?_⟩
  · rw [ha hm0]; simp [Addr.add]
  · rw [List.getElem?_take] at hx
    split at hx
    · rw [List.getElem?_drop] at hx
      obtain ⟨r, hr, hv⟩ := hc _ _ hx
      refine ⟨r, hr, fun j v hj => ?_⟩
      have := hv j v hj
      rw [Nat.add_mul] at this
      rw [show o + l * sz + i * sz + j = o + (l * sz + i * sz) + j from by omega]
      exact this
    · cases hx
/-- Rows made from the elements. -/
theorem Sl.of_has {α : Type} {R : Rep α} {sz n : Nat} {H : Heap} {a : Option Addr} {xs : List α} {rows : List (List Value)} (h : Has H sz a n rows) (hl : rows.length = xs.length)
    (hR : ∀ (i : Nat) r x, rows[i]? = some r → xs[i]? = some x → R H r x) : Sl R sz H a n xs :=
  ⟨by rw [← hl]; exact h.len, h.le, fun hn => by
    obtain ⟨b, o, ha, hc⟩ := h.at_ hn
    refine ⟨b, o, ha, fun i x hx => ?_⟩
    have hi : i < rows.length := by rw [hl]; exact (List.getElem?_eq_some_iff.1 hx).1
    exact ⟨rows[i], hR i _ x (List.getElem?_eq_getElem hi) hx, hc i _ (List.getElem?_eq_getElem hi)⟩⟩
/-- A slice of the call's own holds what its cells hold. -/
theorem has_of_row {base : Nat} {H : Heap} {e : TypeId} {sz : Nat} {a : Option Addr} {n c : Nat} {cs : List Value} (h : Row base H e sz a n c cs) {rows : List (List Value)} (hf : rows.flatten = cs)
    (hs : ∀ r ∈ rows, r.length = sz) (hn : rows.length = n) : Has H sz a n rows := by
  obtain ⟨h1, h2, h3, h4⟩ := h
  refine ⟨hn, by have : maxLen = 9223372036854775807 := rfl; omega, fun hp => ?_⟩
  rcases h4 with ⟨h, _⟩ | ⟨g, k, ha, hg, hH, _, _, _, hcl⟩
  · omega
  · refine ⟨g, 0, ha, fun i r hi j v hj => ?_⟩
    unfold Heap.cell
    rw [hH]
    simp only [Option.bind_some, Nat.zero_add]
    apply hcl
    subst hf
    clear hn h1 hp hH ha hcl
    induction rows generalizing i with
    | nil => simp at hi
    | cons x rest ih =>
      have hx := hs x List.mem_cons_self
      cases i with
      | zero =>
        simp at hi; subst hi
        rw [List.flatten_cons, Nat.zero_mul, Nat.zero_add, List.getElem?_append_left (by have := List.getElem?_eq_some_iff.1 hj; exact this.1)]
        exact hj
      | succ i =>
        simp only [List.getElem?_cons_succ] at hi
        rw [List.flatten_cons, List.getElem?_append_right (by rw [hx, Nat.succ_mul]; omega), hx, show (i + 1) * sz + j - sz = i * sz + j from by rw [Nat.succ_mul]; omega]
        exact ih (fun r hr => hs r (List.mem_cons_of_mem _ hr)) _ hi
theorem Row.nil {base : Nat} {H : Heap} {e : TypeId} {sz : Nat} : Row base H e sz none 0 0 [] := ⟨by simp, by omega, by decide, .inl ⟨rfl, rfl⟩⟩

/-! ### Kinds of elements -/
def RInt : Rep Int := fun _ r x => r = [i64 x]
theorem RInt.mono : RInt.Mono := fun _ _ _ _ _ h => h
def RBool : Rep Bool := fun _ r x => r = [.bool x]
theorem RBool.mono : RBool.Mono := fun _ _ _ _ _ h => h
/-- A slice as an element. -/
def RSl {α : Type} (R : Rep α) (sz : Nat) : Rep (List α) := fun H r xs => ∃ a n c, r = [.slice a n c] ∧ Sl R sz H a n xs
theorem RSl.mono {α : Type} {R : Rep α} (hR : R.Mono) {sz : Nat} : (RSl R sz).Mono := fun _ _ _ _ e ⟨a, n, c, h, hs⟩ => ⟨a, n, c, h, hs.ext hR e⟩
/-- Reads of a verification condition, in a wider heap. -/
theorem Sl.int {H H' : Heap} {a : Option Addr} {n : Nat} {xs : List Int} (h : Sl RInt 1 H a n xs) (e : Ext H H') {k : Int} (h0 : 0 ≤ k) (h1 : k < n) {F : Int → Prop} (hF : ∀ x, xs[k.toNat]? = some x → F x) :
    ∃ (b o : Nat), a = some ⟨b, o, none⟩ ∧ 0 ≤ k ∧ k < n ∧ ∃ x : Int, H'.cell b (o + k.toNat * 1) = some (.int .i64 x) ∧ F x := by
  obtain ⟨b, o, r, x, ha, hx, hr, hc⟩ := h.get h0 h1
  obtain rfl := hr
  exact ⟨b, o, ha, h0, h1, x, Heap.cell_next e (hc 0 _ rfl), hF x hx⟩
theorem Sl.bool {H H' : Heap} {a : Option Addr} {n : Nat} {xs : List Bool} (h : Sl RBool 1 H a n xs) (e : Ext H H') {k : Int} (h0 : 0 ≤ k) (h1 : k < n) {F : Bool → Prop} (hF : ∀ x, xs[k.toNat]? = some x → F x) :
    ∃ (b o : Nat), a = some ⟨b, o, none⟩ ∧ 0 ≤ k ∧ k < n ∧ ∃ x : Bool, H'.cell b (o + k.toNat * 1) = some (.bool x) ∧ F x := by
  obtain ⟨b, o, r, x, ha, hx, hr, hc⟩ := h.get h0 h1
  obtain rfl := hr
  exact ⟨b, o, ha, h0, h1, x, Heap.cell_next e (hc 0 _ rfl), hF x hx⟩
theorem Sl.slice {α : Type} {R : Rep α} {sz : Nat} {H H' : Heap} {a : Option Addr} {n : Nat} {xs : List (List α)} (h : Sl (RSl R sz) 1 H a n xs) (e : Ext H H') {k : Int} (h0 : 0 ≤ k) (h1 : k < n) {F : Option Addr → Nat → Nat → Prop}
    (hF : ∀ x a' n' c', xs[k.toNat]? = some x → Sl R sz H a' n' x → F a' n' c') :
    ∃ (b o : Nat), a = some ⟨b, o, none⟩ ∧ 0 ≤ k ∧ k < n ∧ ∃ (a' : Option Addr) (n' c' : Nat), H'.cell b (o + k.toNat * 1) = some (.slice a' n' c') ∧ F a' n' c' := by
  obtain ⟨b, o, r, x, ha, hx, ⟨a', n', c', rfl, hs⟩, hc⟩ := h.get h0 h1
  exact ⟨b, o, ha, h0, h1, a', n', c', Heap.cell_next e (hc 0 _ rfl), hF x a' n' c' hx hs⟩

theorem Row.ext {base : Nat} {H H' : Heap} {e : TypeId} {sz : Nat} {a : Option Addr} {n c : Nat} {cs : List Value} (h : Row base H e sz a n c cs) (x : Ext H H') : Row base H' e sz a n c cs :=
  ⟨h.1, h.2.1, h.2.2.1, h.2.2.2.imp id fun ⟨g, k, h1, h2, h3, h4⟩ => ⟨g, k, h1, h2, x _ _ h3, h4⟩⟩
theorem ints_of_row {base : Nat} {H : Heap} {e : TypeId} {a : Option Addr} {n c : Nat} {s : List Int} (h : Row base H e 1 a n c (s.map i64)) : Sl RInt 1 H a n s := by
  have h1 := h.1
  refine Sl.of_has (rows := intRows s) (has_of_row h ?_ ?_ ?_) (by simp [intRows]) ?_
  · clear h h1
    induction s with
    | nil => rfl
    | cons x r ih => simp [intRows] at ih ⊢; exact ih
  · intro r hr; simp [intRows] at hr; obtain ⟨x, _, rfl⟩ := hr; rfl
  · simp [intRows] at h1 ⊢; omega
  · intro i r x hr hx
    simp [intRows] at hr
    obtain ⟨y, hy, rfl⟩ := hr
    rw [hx] at hy
    obtain rfl := Option.some.inj hy
    rfl

/-! ### Calls whose value is told -/
theorem Spec.int1 {P : Program} {f : FuncId} {args : List Value} {H : Heap} {m : Int} (h : Spec P f args H fun v _ => v = i64 m) {base : Nat} {G : Int → Heap → Prop} (hG : ∀ H', Ext H H' → Next base H H' → G m H') :
    Spec P f args H fun v H' => ∃ n : Int, v = .int .i64 n ∧ (Next base H H' → G n H') :=
  h.mono fun v H' e hv => ⟨m, hv, fun hN => hG H' e hN⟩
theorem Spec.bool1 {P : Program} {f : FuncId} {args : List Value} {H : Heap} {m : Bool} (h : Spec P f args H fun v _ => v = .bool m) {base : Nat} {G : Bool → Heap → Prop} (hG : ∀ H', Ext H H' → Next base H H' → G m H') :
    Spec P f args H fun v H' => ∃ n : Bool, v = .bool n ∧ (Next base H H' → G n H') :=
  h.mono fun v H' e hv => ⟨m, hv, fun hN => hG H' e hN⟩
theorem Spec.int2 {P : Program} {f : FuncId} {args : List Value} {H : Heap} {m m' : Int} (h : Spec P f args H fun v _ => v = .tuple #[i64 m, i64 m']) {base : Nat} {G : Int → Int → Heap → Prop} (hG : ∀ H', Ext H H' → Next base H H' → G m m' H') :
    Spec P f args H fun v H' => ∃ n n' : Int, v = .tuple #[.int .i64 n, .int .i64 n'] ∧ (Next base H H' → G n n' H') :=
  h.mono fun v H' e hv => ⟨m, m', hv, fun hN => hG H' e hN⟩
end Go.Vg
