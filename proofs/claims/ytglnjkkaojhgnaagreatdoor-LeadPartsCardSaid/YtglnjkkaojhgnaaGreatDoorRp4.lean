/- What is proved here: slices that a call made afresh, and what is known behind a store into them. -/
import Derived.Test.YtglnjkkaojhgnaaGreatDoorRp3
import Derived.Test.YtglnjkkaojhgnaaGreatDoorSeat
import Derived.Test.YtglnjkkaojhgnaaGreatDoorSnd4
set_option linter.unusedSimpArgs false
set_option linter.unusedVariables false
namespace Go.Vg
open Go
/-- A slice made by a call that began at H: its first cells are 'xs', its block (if it has room) is new. -/
def Fresh (H H' : Heap) (e : TypeId) (sz : Nat) (a : Option Addr) (n c : Nat) (xs : List Value) : Prop :=
  xs.length = n * sz ∧ n ≤ c ∧ c ≤ maxLen ∧ ((n = 0 ∧ c = 0) ∨ ∃ g k, a = some ⟨g, 0, none⟩ ∧ H g = none ∧ H' g = some k ∧ k.ty = e ∧ k.size = c * sz ∧ k.free = true ∧ ∀ j v, xs[j]? = some v → k.cells j = some v)
theorem Row.fresh {base : Nat} {H H' : Heap} (hb : ∀ b k, H b = some k → b < base) {e : TypeId} {sz : Nat} {a : Option Addr} {n c : Nat} {xs : List Value} (h : Row base H' e sz a n c xs) : Fresh H H' e sz a n c xs :=
  ⟨h.1, h.2.1, h.2.2.1, h.2.2.2.imp id fun ⟨g, k, h1, h2, h3⟩ => ⟨g, k, h1, by
    cases hg : H g with
    | none => rfl
    | some k => have := hb g k hg; omega, h3⟩⟩
theorem Fresh.row {base : Nat} {H H' : Heap} {e : TypeId} {sz : Nat} {a : Option Addr} {n c : Nat} {xs : List Value} (h : Fresh H H' e sz a n c xs) (hN : Next base H H') : Row base H' e sz a n c xs :=
  ⟨h.1, h.2.1, h.2.2.1, h.2.2.2.imp id fun ⟨g, k, h1, h2, h3, h4⟩ => ⟨g, k, h1, hN.fresh g _ h3 h2, h3, h4⟩⟩
theorem Row.upd {base : Nat} {H H' : Heap} {e : TypeId} {sz : Nat} {a : Option Addr} {n c b o : Nat} {k : KB} {xs vs : List Value} (h : Row base H e sz a n c xs) (ha : a = some ⟨b, 0, none⟩) (hc : c ≠ 0) (hk : H b = some k) (ho : o + vs.length ≤ xs.length)
    (hu : Upd H b o k vs H') : Row base H' e sz a n c (setRange xs o vs) := by
  obtain ⟨h1, h2, h3, h4⟩ := h
  rcases h4 with ⟨_, h5⟩ | ⟨g, k', hg, hbg, hH, h6, h7, h8, h9⟩
  · exact absurd h5 hc
  · rw [ha] at hg
    simp only [Option.some.injEq, Addr.mk.injEq, and_true] at hg
    subst hg
    rw [hk] at hH
    obtain rfl := Option.some.inj hH
    refine ⟨by rw [setRange_length, h1], h2, h3, .inr ⟨b, _, ha, hbg, hu.here, h6, h7, h8, fun j v hv => ?_⟩⟩
    rw [setRange_getElem? _ _ _ _ ho] at hv
    simp only [updCells]
    split
    · rename_i hc'; rw [if_pos hc'] at hv; exact hv
    · rename_i hc'; rw [if_neg hc'] at hv; exact h9 j v hv
/-- A shorter slice of the same row. -/
theorem Row.short {base : Nat} {H : Heap} {e : TypeId} {sz : Nat} {a : Option Addr} {n c m : Nat} {xs : List Value} (h : Row base H e sz a n c xs) (hm : m ≤ n) : Row base H e sz a m c (xs.take (m * sz)) := by
  obtain ⟨h1, h2, h3, h4⟩ := h
  have hle : m * sz ≤ n * sz := Nat.mul_le_mul_right _ hm
  refine ⟨by rw [List.length_take, h1]; omega, by omega, h3, ?_⟩
  rcases h4 with ⟨h5, h6⟩ | ⟨g, k, hg, hbg, hH, h6, h7, h8, h9⟩
  · exact .inl ⟨by omega, h6⟩
  · refine .inr ⟨g, k, hg, hbg, hH, h6, h7, h8, fun j v hv => ?_⟩
    rw [List.getElem?_take] at hv
    split at hv
    · exact h9 j v hv
    · cases hv
/-- What was known ahead of the call stays known behind a store into a block of the call's own. -/
theorem Upd.ext {base : Nat} {H0 H H' : Heap} {b o : Nat} {k : KB} {vs : List Value} (hb : ∀ b k, H0 b = some k → b < base) (e : Ext H0 H) (hbase : base ≤ b) (hu : Upd H b o k vs H') : Ext H0 H' := fun x kx hx => by
  rw [hu.there x (by have := hb x kx hx; omega)]
  exact e x kx hx
/-- A slice of the call's own that holds something has a block. -/
theorem Row.block {base : Nat} {H : Heap} {e : TypeId} {sz : Nat} {a : Option Addr} {n c : Nat} {xs : List Value} (h : Row base H e sz a n c xs) (hn : 0 < n) : ∃ b k, a = some ⟨b, 0, none⟩ ∧ base ≤ b ∧ c ≠ 0 ∧ H b = some k ∧ k.free = true ∧ k.size = c * sz ∧ ∀ j v, xs[j]? = some v → k.cells j = some v := by
  obtain ⟨h1, h2, h3, h4⟩ := h
  rcases h4 with ⟨h5, _⟩ | ⟨g, k, hg, hbg, hH, h6, h7, h8, h9⟩
  · omega
  · exact ⟨g, k, hg, hbg, by omega, hH, h8, h7, h9⟩
theorem flat_set {α : Type} {enc : α → List Value} {sz : Nat} (hs : ∀ x, (enc x).length = sz) (h0 : 0 < sz) {xs : List α} {i : Nat} (hi : i < xs.length) (x : α) : setRange (xs.flatMap enc) (i * sz) (enc x) = (xs.set i x).flatMap enc := by
  have hlen : i * sz + (enc x).length ≤ (xs.flatMap enc).length := by
    rw [flat_len hs, hs]
    have : (i + 1) * sz ≤ xs.length * sz := Nat.mul_le_mul_right _ hi
    rw [Nat.succ_mul] at this; exact this
  rw [setRange_eq _ _ _ hlen]
  clear hlen
  induction xs generalizing i with
  | nil => simp at hi
  | cons y r ih =>
    cases i with
    | zero =>
      simp only [Nat.zero_mul, List.take_zero, List.nil_append, Nat.zero_add, List.flatMap_cons, List.set_cons_zero]
      rw [hs x, ← hs y, List.drop_left]
    | succ i =>
      have := ih (i := i) (by simpa using hi)
      simp only [List.flatMap_cons, List.set_cons_succ]
      rw [← this, Nat.succ_mul]
      rw [show i * sz + sz = (enc y).length + i * sz from by rw [hs]; omega, List.take_length_add_append, show (enc y).length + i * sz + (enc x).length = (enc y).length + (i * sz + (enc x).length) from by omega, List.drop_length_add_append]
      simp only [List.append_assoc]
/-- The body of slices.Clone behind its test for nil. -/
theorem Sl.copied {α : Type} {enc : α → List Value} {sz : Nat} (hs : ∀ x, (enc x).length = sz) (h1 : ∀ x, allOne (enc x) = true) {H H' : Heap} {a : Option Addr} {n : Nat} {xs : List α} (h : Sl (REnc enc) sz H a n xs) (e : Ext H H') :
    (xs.flatMap enc).length = n * sz ∧ allOne (xs.flatMap enc) = true ∧ (n = 0 ∨ ∃ (b o : Nat), a = some ⟨b, o, none⟩ ∧ cellsAt H' b o 0 (xs.flatMap enc)) :=
  ⟨(h.cells hs e).1, allOne_flat h1 xs, (h.cells hs e).2⟩
theorem Row.zero {base : Nat} {H : Heap} {e : TypeId} {sz : Nat} {a : Option Addr} : Row base H e sz a 0 0 [] := ⟨by simp, by omega, by decide, .inl ⟨rfl, rfl⟩⟩
theorem Fresh.zero {H H' : Heap} {e : TypeId} {sz : Nat} {a : Option Addr} : Fresh H H' e sz a 0 0 [] := ⟨by simp, by omega, by decide, .inl ⟨rfl, rfl⟩⟩
theorem Spec.slF {P : Program} {f : FuncId} {args : List Value} {H : Heap} {e : TypeId} {sz : Nat} {xs : List Value} (h : Spec P f args H fun v H' => ∃ a n c, v = .slice a n c ∧ Fresh H H' e sz a n c xs) {base : Nat} {G : Option Addr → Nat → Nat → Heap → Prop}
    (hG : ∀ a n c H', Ext H H' → Next base H H' → Row base H' e sz a n c xs → G a n c H') : Spec P f args H fun v H' => ∃ (a : Option Addr) (n c : Nat), v = .slice a n c ∧ (Next base H H' → G a n c H') :=
  h.mono fun v H' e hv => by obtain ⟨a, n, c, h1, h2⟩ := hv; exact ⟨a, n, c, h1, fun hN => hG a n c H' e hN (h2.row hN)⟩
/-- What the body of slices.Clone (behind its test for nil) leaves: for every element type. -/
theorem Sl.addr_nil {α : Type} {R : Rep α} {sz n : Nat} {H : Heap} {xs : List α} (h : Sl R sz H none n xs) : n = 0 ∧ xs = [] := by
  have hl := h.len
  by_cases hn : n = 0
  · exact ⟨hn, List.eq_nil_of_length_eq_zero (by omega)⟩
  · obtain ⟨b, o, ha, _⟩ := h.at_ (by omega)
    cases ha
end Go.Vg
