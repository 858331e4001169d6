/- What is proved here: how cells stand for pins and rules; rows made and read whole; how contracts of calls that return a slice are used. -/
import Derived.Test.YtglnjkkaojhgnaaGreatDoorRep
import Derived.Test.YtglnjkkaojhgnaaGreatDoorP3b
set_option linter.unusedSimpArgs false
set_option linter.unusedVariables false
namespace Go.Vg
open Go
/-! ### Elements whose cells are told by a function -/
def REnc {α : Type} (enc : α → List Value) : Rep α := fun _ r x => r = enc x
theorem REnc.mono {α : Type} {enc : α → List Value} : (REnc enc).Mono := fun _ _ _ _ _ h => h
theorem flat_rows {α : Type} (enc : α → List Value) : ∀ xs : List α, (xs.map enc).flatten = xs.flatMap enc
  | [] => rfl
  | x :: r => by simp [flat_rows enc r]
theorem flat_len {α : Type} {enc : α → List Value} {sz : Nat} (hs : ∀ x, (enc x).length = sz) : ∀ xs : List α, (xs.flatMap enc).length = xs.length * sz
  | [] => by simp
  | x :: r => by simp [hs, flat_len hs r, Nat.succ_mul]; omega
theorem sl_of_rowE {α : Type} {enc : α → List Value} {sz : Nat} (hs : ∀ x, (enc x).length = sz) (h0 : 0 < sz) {base : Nat} {H : Heap} {e : TypeId} {a : Option Addr} {n c : Nat} {xs : List α} (h : Row base H e sz a n c (xs.flatMap enc)) : Sl (REnc enc) sz H a n xs := by
  have h1 := h.1
  rw [flat_len hs] at h1
  have hn : xs.length = n := Nat.eq_of_mul_eq_mul_right h0 h1
  refine Sl.of_has (rows := xs.map enc) (has_of_row h (flat_rows enc xs) (by intro r hr; obtain ⟨x, _, rfl⟩ := List.mem_map.1 hr; exact hs x) (by simp [hn])) (by simp) ?_
  intro i r x hr hx
  rw [List.getElem?_map, hx] at hr
  simpa [REnc] using hr.symm
theorem row_len {α : Type} {enc : α → List Value} {sz : Nat} (hs : ∀ x, (enc x).length = sz) (h0 : 0 < sz) {base : Nat} {H : Heap} {e : TypeId} {a : Option Addr} {n c : Nat} {xs : List α} (h : Row base H e sz a n c (xs.flatMap enc)) : xs.length = n := (sl_of_rowE hs h0 h).len
theorem sl_of_boxE {α : Type} {enc : α → List Value} {sz : Nat} (hs : ∀ x, (enc x).length = sz) {H : Heap} {g : Nat} {ty : TypeId} {xs : List α} {n : Nat} (h : H g = some (boxKB ty (xs.flatMap enc))) (hn : xs.length = n) (hle : (n : Int) ≤ 9223372036854775807) : Sl (REnc enc) sz H (some ⟨g, 0, none⟩) n xs := by
  refine Sl.of_has (rows := xs.map enc) (Has.of_box h (flat_rows enc xs) (by intro r hr; obtain ⟨x, _, rfl⟩ := List.mem_map.1 hr; exact hs x) (by simp [hn]) hle) (by simp) ?_
  intro i r x hr hx
  rw [List.getElem?_map, hx] at hr
  simpa [REnc] using hr.symm
theorem cellsAt_of {H : Heap} {b o : Nat} : ∀ (cs : List Value) (i : Nat), (∀ (j : Nat) v, cs[j]? = some v → H.cell b (o + (i + j)) = some v) → cellsAt H b o i cs
  | [], _, _ => trivial
  | v :: r, i, h => ⟨by simpa using h 0 v rfl, cellsAt_of r (i + 1) fun j u hj => by
      have := h (j + 1) u (by simpa using hj)
      rw [show i + 1 + j = i + (j + 1) from by omega]; exact this⟩
theorem flat_at {α : Type} {enc : α → List Value} {sz : Nat} (hs : ∀ x, (enc x).length = sz) : ∀ (xs : List α) (j : Nat) (v : Value), (xs.flatMap enc)[j]? = some v → ∃ (i k : Nat) (x : α), j = i * sz + k ∧ xs[i]? = some x ∧ (enc x)[k]? = some v
  | [], j, v, h => by simp at h
  | x :: r, j, v, h => by
    rw [List.flatMap_cons] at h
    by_cases hj : j < (enc x).length
    · rw [List.getElem?_append_left hj] at h
      exact ⟨0, j, x, by simp, rfl, h⟩
    · rw [List.getElem?_append_right (by omega)] at h
      obtain ⟨i, k, y, h1, h2, h3⟩ := flat_at hs r _ v h
      refine ⟨i + 1, k, y, ?_, by simpa using h2, h3⟩
      rw [hs x] at h1 hj
      rw [Nat.succ_mul]; omega
/-- The cells of a whole slice, for an append. -/
theorem Sl.cells {α : Type} {enc : α → List Value} {sz : Nat} (hs : ∀ x, (enc x).length = sz) {H H' : Heap} {a : Option Addr} {n : Nat} {xs : List α} (h : Sl (REnc enc) sz H a n xs) (e : Ext H H') :
    (xs.flatMap enc).length = n * sz ∧ (n = 0 ∨ ∃ (b o : Nat), a = some ⟨b, o, none⟩ ∧ cellsAt H' b o 0 (xs.flatMap enc)) := by
  have hl := h.len
  refine ⟨by rw [flat_len hs, hl], ?_⟩
  by_cases hn : n = 0
  · exact .inl hn
  · obtain ⟨b, o, ha, hc⟩ := h.at_ (by omega)
    refine .inr ⟨b, o, ha, cellsAt_of _ 0 fun j v hj => ?_⟩
    obtain ⟨i, k, x, rfl, hx, hk⟩ := flat_at hs xs j v hj
    obtain ⟨r, hr, hv⟩ := hc i x hx
    obtain rfl : r = enc x := hr
    have := Heap.cell_next e (hv k v hk)
    rw [show o + (0 + (i * sz + k)) = o + i * sz + k from by omega]
    exact this
theorem allOne_append : ∀ (a b : List Value), allOne a = true → allOne b = true → allOne (a ++ b) = true
  | [], b, _, h => h
  | x :: r, b, h, h' => by
    simp only [allOne, Bool.and_eq_true, List.cons_append] at h ⊢
    exact ⟨h.1, allOne_append r b h.2 h'⟩
theorem allOne_flat {α : Type} {enc : α → List Value} (h : ∀ x, allOne (enc x) = true) : ∀ xs : List α, allOne (xs.flatMap enc) = true
  | [] => rfl
  | x :: r => by rw [List.flatMap_cons]; exact allOne_append _ _ (h x) (allOne_flat h r)
/-! ### Pins and rules -/
def pinCells (p : Pin) : List Value := [i64 p.name, i64 p.ver]
def ruleCells (r : Rule) : List Value := [i64 r.name, i64 r.ver, i64 r.wth, i64 r.least]
abbrev RPin : Rep Pin := REnc pinCells
abbrev RRule : Rep Rule := REnc ruleCells
abbrev Pins (H : Heap) (a : Option Addr) (n : Nat) (l : List Pin) : Prop := Sl RPin 2 H a n l
abbrev Rules (H : Heap) (a : Option Addr) (n : Nat) (l : List Rule) : Prop := Sl RRule 4 H a n l
theorem pinCells_len (p : Pin) : (pinCells p).length = 2 := rfl
theorem ruleCells_len (r : Rule) : (ruleCells r).length = 4 := rfl
theorem Pins.ext' {H H' : Heap} {a : Option Addr} {n : Nat} {l : List Pin} (h : Pins H a n l) (e : Ext H H') : Pins H' a n l := Sl.ext REnc.mono h e
theorem Rules.ext' {H H' : Heap} {a : Option Addr} {n : Nat} {l : List Rule} (h : Rules H a n l) (e : Ext H H') : Rules H' a n l := Sl.ext REnc.mono h e
theorem Sl.pin {H H' : Heap} {a : Option Addr} {n : Nat} {xs : List Pin} (h : Pins H a n xs) (e : Ext H H') {k : Int} (h0 : 0 ≤ k) (h1 : k < n) {F : Int → Int → Prop} (hF : ∀ p, xs[k.toNat]? = some p → F p.name p.ver) :
    ∃ (b o : Nat), a = some ⟨b, o, none⟩ ∧ 0 ≤ k ∧ k < n ∧ ∃ (x y : Int), (H'.cell b (o + k.toNat * 2) = some (.int .i64 x) ∧ H'.cell b (o + k.toNat * 2 + 1) = some (.int .i64 y) ∧ True) ∧ F x y := by
  obtain ⟨b, o, r, x, ha, hx, hr, hc⟩ := h.get h0 h1
  obtain rfl : r = pinCells x := hr
  exact ⟨b, o, ha, h0, h1, _, _, ⟨Heap.cell_next e (hc 0 _ rfl), Heap.cell_next e (hc 1 _ rfl), trivial⟩, hF x hx⟩
theorem Sl.pinName {H H' : Heap} {a : Option Addr} {n : Nat} {xs : List Pin} (h : Pins H a n xs) (e : Ext H H') {k : Int} (h0 : 0 ≤ k) (h1 : k < n) {F : Int → Prop} (hF : ∀ p, xs[k.toNat]? = some p → F p.name) :
    ∃ (b o : Nat), a = some ⟨b, o, none⟩ ∧ 0 ≤ k ∧ k < n ∧ ∃ (x : Int), H'.cell b (o + k.toNat * 2) = some (.int .i64 x) ∧ F x := by
  obtain ⟨b, o, r, x, ha, hx, hr, hc⟩ := h.get h0 h1
  obtain rfl : r = pinCells x := hr
  exact ⟨b, o, ha, h0, h1, _, Heap.cell_next e (hc 0 _ rfl), hF x hx⟩
theorem Sl.pinVer {H H' : Heap} {a : Option Addr} {n : Nat} {xs : List Pin} (h : Pins H a n xs) (e : Ext H H') {k : Int} (h0 : 0 ≤ k) (h1 : k < n) {F : Int → Prop} (hF : ∀ p, xs[k.toNat]? = some p → F p.ver) :
    ∃ (b o : Nat), a = some ⟨b, o, none⟩ ∧ 0 ≤ k ∧ k < n ∧ ∃ (x : Int), H'.cell b (o + k.toNat * 2 + 1) = some (.int .i64 x) ∧ F x := by
  obtain ⟨b, o, r, x, ha, hx, hr, hc⟩ := h.get h0 h1
  obtain rfl : r = pinCells x := hr
  exact ⟨b, o, ha, h0, h1, _, Heap.cell_next e (hc 1 _ rfl), hF x hx⟩
theorem Sl.rule {H H' : Heap} {a : Option Addr} {n : Nat} {xs : List Rule} (h : Rules H a n xs) (e : Ext H H') {k : Int} (h0 : 0 ≤ k) (h1 : k < n) {F : Int → Int → Int → Int → Prop} (hF : ∀ p, xs[k.toNat]? = some p → F p.name p.ver p.wth p.least) :
    ∃ (b o : Nat), a = some ⟨b, o, none⟩ ∧ 0 ≤ k ∧ k < n ∧ ∃ (x y z u : Int), (H'.cell b (o + k.toNat * 4) = some (.int .i64 x) ∧ H'.cell b (o + k.toNat * 4 + 1) = some (.int .i64 y) ∧ H'.cell b (o + k.toNat * 4 + 2) = some (.int .i64 z) ∧ H'.cell b (o + k.toNat * 4 + 3) = some (.int .i64 u) ∧ True) ∧ F x y z u := by
  obtain ⟨b, o, r, x, ha, hx, hr, hc⟩ := h.get h0 h1
  obtain rfl : r = ruleCells x := hr
  exact ⟨b, o, ha, h0, h1, _, _, _, _, ⟨Heap.cell_next e (hc 0 _ rfl), Heap.cell_next e (hc 1 _ rfl), Heap.cell_next e (hc 2 _ rfl), Heap.cell_next e (hc 3 _ rfl), trivial⟩, hF x hx⟩
theorem Sl.ruleWith {H H' : Heap} {a : Option Addr} {n : Nat} {xs : List Rule} (h : Rules H a n xs) (e : Ext H H') {k : Int} (h0 : 0 ≤ k) (h1 : k < n) {F : Int → Prop} (hF : ∀ p, xs[k.toNat]? = some p → F p.wth) :
    ∃ (b o : Nat), a = some ⟨b, o, none⟩ ∧ 0 ≤ k ∧ k < n ∧ ∃ (x : Int), H'.cell b (o + k.toNat * 4 + 2) = some (.int .i64 x) ∧ F x := by
  obtain ⟨b, o, r, x, ha, hx, hr, hc⟩ := h.get h0 h1
  obtain rfl : r = ruleCells x := hr
  exact ⟨b, o, ha, h0, h1, _, Heap.cell_next e (hc 2 _ rfl), hF x hx⟩
theorem Sl.ruleLeast {H H' : Heap} {a : Option Addr} {n : Nat} {xs : List Rule} (h : Rules H a n xs) (e : Ext H H') {k : Int} (h0 : 0 ≤ k) (h1 : k < n) {F : Int → Prop} (hF : ∀ p, xs[k.toNat]? = some p → F p.least) :
    ∃ (b o : Nat), a = some ⟨b, o, none⟩ ∧ 0 ≤ k ∧ k < n ∧ ∃ (x : Int), H'.cell b (o + k.toNat * 4 + 3) = some (.int .i64 x) ∧ F x := by
  obtain ⟨b, o, r, x, ha, hx, hr, hc⟩ := h.get h0 h1
  obtain rfl : r = ruleCells x := hr
  exact ⟨b, o, ha, h0, h1, _, Heap.cell_next e (hc 3 _ rfl), hF x hx⟩
/-! ### Calls that return a slice -/
theorem Spec.sl1 {P : Program} {f : FuncId} {args : List Value} {H : Heap} {Q : Option Addr → Nat → Nat → Heap → Prop} (h : Spec P f args H fun v H' => ∃ a n c, v = .slice a n c ∧ Q a n c H') {base : Nat} {G : Option Addr → Nat → Nat → Heap → Prop}
    (hG : ∀ a n c H', Ext H H' → Next base H H' → Q a n c H' → G a n c H') : Spec P f args H fun v H' => ∃ (a : Option Addr) (n c : Nat), v = .slice a n c ∧ (Next base H H' → G a n c H') :=
  h.mono fun v H' e hv => by obtain ⟨a, n, c, h1, h2⟩ := hv; exact ⟨a, n, c, h1, fun hN => hG a n c H' e hN h2⟩
theorem Spec.sl2 {P : Program} {f : FuncId} {args : List Value} {H : Heap} {m : Int} {Q : Option Addr → Nat → Nat → Heap → Prop} (h : Spec P f args H fun v H' => ∃ a n c, v = .tuple #[.slice a n c, i64 m] ∧ Q a n c H') {base : Nat} {G : Option Addr → Nat → Nat → Int → Heap → Prop}
    (hG : ∀ a n c H', Ext H H' → Next base H H' → Q a n c H' → G a n c m H') : Spec P f args H fun v H' => ∃ (a : Option Addr) (n c : Nat) (m' : Int), v = .tuple #[.slice a n c, .int .i64 m'] ∧ (Next base H H' → G a n c m' H') :=
  h.mono fun v H' e hv => by obtain ⟨a, n, c, h1, h2⟩ := hv; exact ⟨a, n, c, m, h1, fun hN => hG a n c H' e hN h2⟩
def okL {α : Type} : Except Int (List α) → List α
  | .ok l => l
  | .error _ => []
def errOf {α : Type} : Except Int α → Int
  | .ok _ => 0
  | .error e => e
end Go.Vg
