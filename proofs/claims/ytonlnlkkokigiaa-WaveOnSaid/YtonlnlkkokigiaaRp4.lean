/- What is proved here: slices that a call made afresh, and what is known behind a store into them. -/
import Derived.Test.YtonlnlkkokigiaaRp3
import Derived.Test.YtonlnlkkokigiaaSeat
import Derived.Test.YtonlnlkkokigiaaSnd5
set_option linter.unusedSimpArgs false
set_option linter.unusedVariables false
namespace Go.Vg
open Go
/-- A slice made by a call that began at H: its cells are 'xs', its block (if it has room) is new. -/
def Fresh (H H' : Heap) (e : TypeId) (sz : Nat) (a : Option Addr) (n c : Nat) (xs : List Value) : Prop :=
  xs.length = n * sz ∧ n ≤ c ∧ c ≤ maxLen ∧ ((n = 0 ∧ c = 0) ∨ ∃ g, a = some ⟨g, 0, none⟩ ∧ H g = none ∧ H' g = some ⟨e, c * sz, true, fun j => xs[j]?⟩)
theorem Row.fresh {base : Nat} {H H' : Heap} (hb : ∀ b k, H b = some k → b < base) {e : TypeId} {sz : Nat} {a : Option Addr} {n c : Nat} {xs : List Value} (h : Row base H' e sz a n c xs) : Fresh H H' e sz a n c xs :=
  ⟨h.1, h.2.1, h.2.2.1, h.2.2.2.imp id fun ⟨g, h1, h2, h3⟩ => ⟨g, h1, by
    cases hg : H g with
    | none => rfl
    | some k => have := hb g k hg; omega, h3⟩⟩
theorem Fresh.row {base : Nat} {H H' : Heap} {e : TypeId} {sz : Nat} {a : Option Addr} {n c : Nat} {xs : List Value} (h : Fresh H H' e sz a n c xs) (hN : Next base H H') : Row base H' e sz a n c xs :=
  ⟨h.1, h.2.1, h.2.2.1, h.2.2.2.imp id fun ⟨g, h1, h2, h3⟩ => ⟨g, h1, hN.fresh g _ h3 h2, h3⟩⟩
theorem Row.upd {base : Nat} {H H' : Heap} {e : TypeId} {sz : Nat} {a : Option Addr} {n c b o : Nat} {k : KB} {xs vs : List Value} (h : Row base H e sz a n c xs) (ha : a = some ⟨b, 0, none⟩) (hc : c ≠ 0) (hk : H b = some k) (ho : o + vs.length ≤ xs.length)
    (hu : Upd H b o k vs H') : Row base H' e sz a n c (setRange xs o vs) := by
  obtain ⟨h1, h2, h3, h4⟩ := h
  rcases h4 with ⟨_, h5⟩ | ⟨g, hg, hbg, hH⟩
  · exact absurd h5 hc
  · rw [ha] at hg
    simp only [Option.some.injEq, Addr.mk.injEq, and_true] at hg
    subst hg
    rw [hk] at hH
    obtain rfl := Option.some.inj hH
    refine ⟨by rw [setRange_length, h1], h2, h3, .inr ⟨b, ha, hbg, ?_⟩⟩
    rw [hu.here]
    congr 2
    funext j
    simp only [updCells]
    rw [setRange_getElem? _ _ _ _ ho]
/-- What was known ahead of the call stays known behind a store into a block of the call's own. -/
theorem Upd.ext {base : Nat} {H0 H H' : Heap} {b o : Nat} {k : KB} {vs : List Value} (hb : ∀ b k, H0 b = some k → b < base) (e : Ext H0 H) (hbase : base ≤ b) (hu : Upd H b o k vs H') : Ext H0 H' := fun x kx hx => by
  rw [hu.there x (by have := hb x kx hx; omega)]
  exact e x kx hx
/-- A slice of the call's own that holds something has a block. -/
theorem Row.block {base : Nat} {H : Heap} {e : TypeId} {sz : Nat} {a : Option Addr} {n c : Nat} {xs : List Value} (h : Row base H e sz a n c xs) (hn : 0 < n) : ∃ b, a = some ⟨b, 0, none⟩ ∧ base ≤ b ∧ c ≠ 0 ∧ H b = some ⟨e, c * sz, true, fun j => xs[j]?⟩ := by
  obtain ⟨h1, h2, h3, h4⟩ := h
  rcases h4 with ⟨h5, _⟩ | ⟨g, hg, hbg, hH⟩
  · omega
  · exact ⟨g, hg, hbg, by omega, hH⟩
theorem Spec.slF {P : Program} {f : FuncId} {args : List Value} {H : Heap} {e : TypeId} {sz : Nat} {xs : List Value} (h : Spec P f args H fun v H' => ∃ a n c, v = .slice a n c ∧ Fresh H H' e sz a n c xs) {base : Nat} {G : Option Addr → Nat → Nat → Heap → Prop}
    (hG : ∀ a n c H', Ext H H' → Next base H H' → Row base H' e sz a n c xs → G a n c H') : Spec P f args H fun v H' => ∃ (a : Option Addr) (n c : Nat), v = .slice a n c ∧ (Next base H H' → G a n c H') :=
  h.mono fun v H' e hv => by obtain ⟨a, n, c, h1, h2⟩ := hv; exact ⟨a, n, c, h1, fun hN => hG a n c H' e hN (h2.row hN)⟩
/-- What the body of slices.Clone (behind its test for nil) leaves: for every element type. -/
theorem Sl.addr_nil {α : Type} {R : Rep α} {sz n : Nat} {H : Heap} {xs : List α} (h : Sl R sz H none n xs) : n = 0 ∧ xs = [] := by
  have hl := h.len
  by_cases hn : n = 0
  · exact ⟨hn, List.eq_nil_of_length_eq_zero (by omega)⟩
  · obtain ⟨b, o, ha, _⟩ := h.at_ (by omega)
    cases ha
end Go.Vg
