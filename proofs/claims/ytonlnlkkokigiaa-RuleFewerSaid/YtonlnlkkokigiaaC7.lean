/- What is proved here: the contract of the law RuleMends. -/
import Derived.Test.YtonlnlkkokigiaaC3b
set_option linter.unusedSimpArgs false
set_option maxRecDepth 100000
set_option linter.unusedVariables false
namespace Go.Vg
open Go Go.Proofs
theorem mend_err {rs : List Rule} : ∀ (n : Nat) {l : List Pin} {e : Int}, mend rs n l = .error e → e = 2
  | 0, l, e, h => by simp [mend] at h; exact h.symm
  | n + 1, l, e, h => by
    rw [mend] at h
    split at h
    · cases h
    · split at h
      · simp at h; exact h.symm
      · split at h
        · simp at h; exact h.symm
        · exact mend_err n h
theorem mended_cases (l : List Pin) (rs : List Rule) : (∃ m, mended l rs = .ok m) ∨ errOf (mended l rs) ≠ 0 := by
  cases h : mended l rs with
  | ok m => exact .inl ⟨m, rfl⟩
  | error e =>
    right
    unfold mended at h
    split at h
    · have := mend_err _ h; subst this; simp [errOf]
    · rename_i h0
      simp at h
      subst h
      exact h0
theorem cRuleMends {H : Heap} {a a' a'' : Option Addr} {l c l' c' l'' c'' : Nat} {xs os : List Pin} {rs : List Rule} (hx : Pins H a l xs) (hr : Rules H a' l' rs) (ho : Pins H a'' l'' os) :
    Spec Try.prog 7 [.slice a l c, .slice a' l' c', .slice a'' l'' c''] H fun v _ => v = .bool true := by
  refine Tryvc Try.func7 (by kernel_rfl) (by kernel_rfl) _ rfl (fun base K => vc7 a a' a'' l c l' c' l'' c'' base H K) fun base hb => ?_
  have hxle := hx.le
  refine (cMend hx hr).sl2 fun a1 n1 c1 H1 e1 _ hP1 => cRuled.bool1 fun H2 e2 _ => ⟨fun h => by simp at h, fun _ => ⟨fun h => ?_, fun h => ?_⟩⟩
  · exact cRuled.bool1 fun H3 _ _ => rfl
  obtain ⟨m, hm⟩ : ∃ m, mended xs rs = .ok m := (mended_cases xs rs).resolve_right (fun h' => h h')
  obtain ⟨k1, k2, k3, k4⟩ := mends_keep hm
  rw [hm] at hP1
  have hP1 : Pins H1 a1 n1 m := hP1
  have hmle := hP1.le
  have r2 := (hr.ext' e1).ext' e2
  have hkb : broken m rs = -1 := by rw [broken, if_pos k1, k2]
  refine (cBroken (hP1.ext' e2) r2).int2 fun H3 e3 _ => ?_
  rw [hkb, k1]
  refine (cMend ((hP1.ext' e2).ext' e3) (r2.ext' e3)).sl2 fun a4 n4 c4 H4 e4 _ hP4 => ?_
  rw [k3] at hP4 ⊢
  refine ⟨fun h => absurd rfl h, fun _ => ⟨fun h => absurd rfl h, fun _ => ⟨fun h => absurd rfl h, fun _ => ?_⟩⟩⟩
  have hP1' := ((hP1.ext' e2).ext' e3).ext' e4
  refine (cEqPins hP1' hP4).bool1 fun H5 e5 _ => ⟨fun h => by simp [okL] at h, fun _ => ?_⟩
  refine ⟨fun vs Hc => ∃ (b : Bool) (k : Nat), vs = [.bool b, i64 k] ∧ k ≤ l ∧ Pins Hc a1 n1 m, upTo l 1, ⟨false, 0, rfl, by omega, hP1'.ext' e5⟩, fun b n H' hN hI => ?_⟩
  obtain ⟨b', k, hvs, hk, hM⟩ := hI
  obtain ⟨rfl, rfl⟩ : b = b' ∧ n = (k : Int) := by simpa using hvs
  refine ⟨fun hlt => hx.pin hN.ext (by omega) hlt fun p hp => fun _ => ?_, fun hge => ?_⟩
  · have hp' := k4 p (List.mem_of_getElem? hp)
    refine (cFind hM p.name).int1 fun H6 e6 _ => ⟨fun h => absurd h (by omega), fun _ => ?_⟩
    rintro r rfl
    rw [wrap_in (by omega) (by omega)]
    exact ⟨⟨b, k + 1, rfl, by omega, hM.ext' e6⟩, by simp [upTo]; omega⟩
  refine (cBroken (ho.ext' hN.ext) (hr.ext' hN.ext)).int2 fun H6 e6 _ => ⟨fun h => rfl, fun h6 => ⟨fun h => rfl, fun h7 => ?_⟩⟩
  have h6 := Decidable.not_not.1 h6
  rw [broken, if_pos h6] at h7
  refine ⟨fun vs Hc => ∃ (b : Bool) (k : Nat), vs = [.bool b, i64 k] ∧ k ≤ l ∧ Pins Hc a1 n1 m ∧ ∀ (j : Nat) p, j < k → xs[j]? = some p → p.ver ≤ find os p.name, upTo l 1, ⟨b, 0, rfl, by omega, hM.ext' e6, by omega⟩, fun b n H' hN hI => ?_⟩
  obtain ⟨b', k, hvs, hk, hM, hall⟩ := hI
  obtain ⟨rfl, rfl⟩ : b = b' ∧ n = (k : Int) := by simpa using hvs
  refine ⟨fun hlt => hx.pin hN.ext (by omega) hlt fun p hp => fun _ => ?_, fun hge => ?_⟩
  · rw [Int.toNat_natCast] at hp
    refine (cFind (ho.ext' hN.ext) p.name).int1 fun H6 e6 _ => ⟨fun h => rfl, fun h => ?_⟩
    rintro r rfl
    rw [wrap_in (by omega) (by omega)]
    refine ⟨⟨b, k + 1, rfl, by omega, hM.ext' e6, fun j q hj hq => ?_⟩, by simp [upTo]; omega⟩
    by_cases e : j < k
    · exact hall j q e hq
    · obtain rfl : j = k := by omega
      rw [hp] at hq
      obtain rfl := Option.some.inj hq
      omega
  have hxl := hx.len
  have hleast := mends_least hm h6 (by omega) (fun p hp => by
    obtain ⟨j, hj⟩ := List.getElem?_of_mem hp
    have := (List.getElem?_eq_some_iff.1 hj).1
    exact hall j p (by omega) hj)
  refine ⟨fun vs Hc => ∃ (b : Bool) (k : Nat), vs = [.bool b, i64 k] ∧ k ≤ n1 ∧ Pins Hc a1 n1 m, upTo n1 1, ⟨b, 0, rfl, by omega, hM⟩, fun b n H' hN hI => ?_⟩
  obtain ⟨b', k, hvs, hk, hM⟩ := hI
  obtain ⟨rfl, rfl⟩ : b = b' ∧ n = (k : Int) := by simpa using hvs
  refine ⟨fun hlt => hM.pin (Ext.refl _) (by omega) hlt fun p hp => fun _ => ?_, fun hge => rfl⟩
  have hp' := hleast p (List.mem_of_getElem? hp)
  refine (cFind (ho.ext' hN.ext) p.name).int1 fun H6 e6 _ => ⟨fun h => absurd h (by omega), fun _ => ?_⟩
  rintro r rfl
  rw [wrap_in (by omega) (by omega)]
  exact ⟨⟨b, k + 1, rfl, by omega, hM.ext' e6⟩, by simp [upTo]; omega⟩
end Go.Vg
