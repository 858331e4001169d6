/- What is proved here: the contract of slices.Equal of integers, and of Names. -/
import Derived.Test.YtonlnlkkokigiaaLib
import Derived.Test.YtonlnlkkokigiaaV1
set_option linter.unusedSimpArgs false
set_option maxRecDepth 100000
set_option linter.unusedVariables false
namespace Go.Vg
open Go Go.Proofs
theorem eqInts {H : Heap} {a a' : Option Addr} {l c l' c' : Nat} {xs ys : List Int} (hx : Ints H a l xs) (hy : Ints H a' l' ys) :
    Spec Try.prog 22 [.slice a l c, .slice a' l' c'] H fun v _ => v = .bool (decide (xs = ys)) := by
  refine Tryvc Try.func22 (by kernel_rfl) (by kernel_rfl) _ rfl (fun base K => vc22 a a' l c l' c' base H K) fun base hb => ?_
  have hxl := hx.ilen
  have hyl := hy.ilen
  have hle := hx.le
  refine ⟨fun hne => ?_, fun he => ?_⟩
  · rw [decide_eq_false]
    rintro rfl; omega
  · refine ⟨fun vs _ => ∃ b k, vs = [.bool b, i64 k] ∧ 0 ≤ k ∧ k ≤ l ∧ ∀ j : Nat, (j : Int) < k → xs[j]? = ys[j]?, upTo l 1, ⟨false, 0, rfl, by omega, by omega, fun j hj => by omega⟩, fun b n H' hN hI => ?_⟩
    obtain ⟨b', k, hvs, h0, h1, hsame⟩ := hI
    simp only [List.cons.injEq, Value.int.injEq, Value.bool.injEq, true_and, and_true] at hvs
    obtain ⟨rfl, rfl⟩ := hvs
    refine ⟨fun hlt => ?_, fun hge => ?_⟩
    · obtain ⟨b1, o1, x, ha, hxk, hc⟩ := (hx.next hN).int h0 hlt
      obtain ⟨b2, o2, y, ha', hyk, hc'⟩ := (hy.next hN).int h0 (by omega)
      refine ⟨b1, o1, ha, h0, hlt, x, hc, b2, o2, ha', h0, by omega, y, hc', fun hne => ?_, fun hxy => ?_⟩
      · rw [decide_eq_false]
        rintro rfl
        rw [hxk] at hyk
        exact hne (Option.some.inj hyk)
      · rintro r rfl
        rw [wrap_in (by omega) (by omega)]
        refine ⟨⟨b, n + 1, rfl, by omega, by omega, fun j hj => ?_⟩, ?_⟩
        · by_cases e : (j : Int) < n
          · exact hsame j e
          · obtain rfl : j = n.toNat := by omega
            rw [hxk, hyk, Decidable.not_not.1 hxy]
        · simp [upTo]; omega
    · rw [decide_eq_true]
      apply List.ext_getElem?
      intro j
      by_cases hj : j < l
      · exact hsame j (by omega)
      · rw [List.getElem?_eq_none (by omega), List.getElem?_eq_none (by omega)]
theorem names (H : Heap) : Spec Try.prog 3 [] H fun v _ => v = .bool true := by
  refine Tryvc Try.func3 (by kernel_rfl) (by kernel_rfl) _ rfl (fun base K => vc3 base H K) fun base hb => ?_
  intro g H1 hN1 _ hg
  let l : List Int := [0, 1, 2, 3, 4, 5, 6, 7, 8, 9]
  have h1 : Ints H1 (some ⟨g, 0, none⟩) 10 l := Has.of_box hg rfl (by decide) rfl (by decide)
  refine ⟨fun vs H' => Ext H1 H' ∧ ∃ b k, vs = [.bool b, i64 k] ∧ 0 ≤ k ∧ k ≤ 10, upTo 10 1, ⟨Ext.refl _, false, 0, rfl, by omega, by omega⟩, fun b n H2 hN2 hI => ?_⟩
  obtain ⟨e2, b', k, hvs, h0, h10⟩ := hI
  simp only [List.cons.injEq, Value.int.injEq, Value.bool.injEq, true_and, and_true] at hvs
  obtain ⟨rfl, rfl⟩ := hvs
  refine ⟨fun hlt => ?_, fun _ => ?_⟩
  · obtain ⟨b1, o1, x, ha, hx, hc⟩ := (h1.ext e2).int h0 hlt
    have hl : ∀ j : Nat, j < 10 → l[j]? = some (j : Int) := by decide
    rw [hl _ (by omega)] at hx
    have hxn : x = n := by have := Option.some.inj hx; omega
    refine ⟨b1, o1, ha, h0, hlt, x, hc, fun hne => absurd hxn hne, fun _ r hr => ?_⟩
    rw [wrap_in (by omega) (by omega)] at hr
    subst hr
    exact ⟨⟨e2, b, n + 1, rfl, by omega, by omega⟩, by simp [upTo]; omega⟩
  · intro g1 H3 hN3 _ hg1 g2 H4 hN4 _ hg2 g3 H5 hN5 _ hg3
    have e3 : ∀ b k, H3 b = some k → H5 b = some k := fun b k h => hN5.ext b k (hN4.ext b k h)
    have hb1 := hN5.ext _ _ (hN4.ext _ _ hg1)
    have a1 := Has.of_box (sz := 1) (n := 12) (rows := intRows [20, 99, 12, 10, 6, 6, 3, 200, 200, 60000, 40, 150]) hb1 rfl (by decide) rfl (by decide)
    have a3 := Has.of_box (sz := 1) (n := 12) (rows := intRows [20, 99, 12, 10, 6, 6, 3, 200, 200, 60000, 40, 150]) hg3 rfl (by decide) rfl (by decide)
    refine (eqInts (xs := [20, 99, 12, 10, 6, 6, 3, 200, 200, 60000, 40, 150]) (ys := [20, 99, 12, 10, 6, 6, 3, 200, 200, 60000, 40, 150]) a1 a3).mono fun v H6 e6 hv => ?_
    refine ⟨_, hv, fun hN6 => ⟨fun _ => ?_, fun h => by simp at h⟩⟩
    intro g4 H7 hN7 _ hg4
    have hb2 := hN7.ext _ _ (e6 _ _ (hN5.ext _ _ hg2))
    have a2 := Has.of_box (sz := 1) (n := 29) (rows := intRows [1, 2, 3, 1, 2, 3, 4, 5, 6, 7, 8, 9, 0, 1, 2, 3, 1, 2, 3, 4, 5, 6, 7, 8, 9, 10, 11, 12, 13]) hb2 rfl (by decide) rfl (by decide)
    have a4 := Has.of_box (sz := 1) (n := 29) (rows := intRows [1, 2, 3, 1, 2, 3, 4, 5, 6, 7, 8, 9, 0, 1, 2, 3, 1, 2, 3, 4, 5, 6, 7, 8, 9, 10, 11, 12, 13]) hg4 rfl (by decide) rfl (by decide)
    exact (eqInts (xs := [1, 2, 3, 1, 2, 3, 4, 5, 6, 7, 8, 9, 0, 1, 2, 3, 1, 2, 3, 4, 5, 6, 7, 8, 9, 10, 11, 12, 13]) (ys := [1, 2, 3, 1, 2, 3, 4, 5, 6, 7, 8, 9, 0, 1, 2, 3, 1, 2, 3, 4, 5, 6, 7, 8, 9, 10, 11, 12, 13]) a2 a4).mono fun v H8 _ hv => ⟨_, hv, fun _ => by simp⟩
end Go.Vg
