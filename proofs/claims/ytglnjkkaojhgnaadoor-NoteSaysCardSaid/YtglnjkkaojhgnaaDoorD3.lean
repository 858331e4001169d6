/- What is proved here: the contracts of the laws of locks as texts (LockBack, LockSays). -/
import Derived.Test.YtglnjkkaojhgnaaDoorD2
set_option linter.unusedSimpArgs false
set_option linter.unusedVariables false
set_option maxRecDepth 100000
namespace Go.Vg
open Go Go.Proofs
theorem neBool {xo yo : Operand} {a b : Bool} : RunsTo Tryd.prog (binRun .neq 4 xo yo (.bool a) (.bool b)) (.bool (a != b)) := by
  intro w
  have hg : (eqGuard .neq 4 xo yo (.bool a) (.bool b)).run Tryd.prog w = .ok () w := by simp [eqGuard]
  simp only [binRun, Sem.run_bind, hg, Result.andThen_ok]
  have := run_equal_bool w 4 a b Tryd.underlying4
  simp [binOp, this, bne]
theorem itoa_digit {d : Nat} (h : d < 10) : Lib.itoa (d : Int) = [UInt8.ofNat (48 + d)] := by
  unfold Lib.itoa
  rw [if_neg (by omega), Int.toNat_natCast]
  unfold Lib.decDigits
  rw [dif_pos h]
theorem locked_text : lockText [⟨1, 2⟩, ⟨7, 1⟩] = [49, 64, 50, 44, 55, 64, 49] := by
  show Lib.itoa ((1 : Nat) : Int) ++ 64 :: Lib.itoa ((2 : Nat) : Int) ++ (44 :: (Lib.itoa ((7 : Nat) : Int) ++ 64 :: Lib.itoa ((1 : Nat) : Int)) ++ []) = _
  rw [itoa_digit (by omega), itoa_digit (by omega), itoa_digit (by omega)]
  rfl
theorem locked_read : lockRead [49, 64, 50, 44, 55, 64, 49] = .ok [⟨1, 2⟩, ⟨7, 1⟩] := by
  rw [← locked_text]; exact lockRead_text (by decide)
theorem errOf_zero {s : List UInt8} (h : errOf (lockRead s) = 0) : ∃ l, lockRead s = .ok l := by
  cases hr : lockRead s with
  | ok l => exact ⟨l, rfl⟩
  | error e => rw [hr] at h; exact absurd h (lockRead_err hr)
section
variable {H : Heap} (hL : Lb H)
include hL
theorem cLocked : Spec Tryd.prog 9 [] H fun v _ => v = .bool true := by
  refine TrydvcJ Tryd.func9 (by kernel_rfl) (by kernel_rfl) _ rfl (fun base K => vd9 base H K) fun base hb => ?_
  refine (cLockParse hL).mono fun v H1 e1 hv => ?_
  obtain ⟨a, n, c, hv, hF⟩ := hv
  rw [if_neg (by decide)] at hv hF
  rw [show (⟨#[49, 64, 50, 44, 55, 64, 49]⟩ : ByteArray).data.toList = [49, 64, 50, 44, 55, 64, 49] from rfl, locked_read] at hv hF
  refine ⟨a, n, c, 0, hv, fun hN1 => ?_⟩
  have hp : Pins H1 a n [⟨1, 2⟩, ⟨7, 1⟩] := pins_of_row (hF.row hN1)
  obtain rfl : n = 2 := by have := hp.len; simpa using this.symm
  have h0 : lockCheck [⟨1, 2⟩, ⟨7, 1⟩] = 0 := by decide
  refine (cLockPrint (hL.ext e1) hp).strE fun H2 e2 hN2 => ?_
  rw [if_pos h0, h0, locked_text]
  refine ⟨True, ⟨fun _ => ⟨fun _ => ⟨_, eqS, fun _ => ⟨fun _ => (cFind (hp.ext' e2) 1).int1 fun H3 e3 hN3 => ⟨fun _ => (cFind (hp.ext' (Ext.trans e2 e3)) 2).int1 fun H4 e4 hN4 => ⟨Ext.trans e3 e4, by decide⟩, fun h => absurd (by decide) h⟩, fun h => absurd rfl h⟩, fun h => absurd (by decide) h⟩, fun h => absurd rfl h⟩, fun h => absurd rfl h⟩, ?_⟩
  show Value.bool _ = _
  congr 1
  simp
theorem cLockBack {a a' : Option Addr} {l c l' c' : Nat} {xs ys : List Pin} {s : ByteArray} (hx : Pins H a l xs) (hy : Pins H a' l' ys) : Spec Tryd.prog 3 [.slice a l c, .slice a' l' c', .string s] H fun v _ => v = .bool true := by
  refine TrydvcJ Tryd.func3 (by kernel_rfl) (by kernel_rfl) _ rfl (fun base K => vd3 a a' l c l' c' s base H K) fun base hb => ?_
  refine (cLockPrint hL hx).strE fun H1 e1 hN1 => (cLockPrint (hL.ext e1) (hy.ext' e1)).strE fun H2 e2 hN2 => ?_
  have e12 := Ext.trans e1 e2
  refine ⟨False, (cLocked (hL.ext e12)).bool1 fun H3 e3 hN3 => ⟨fun h => (by cases h), fun _ => ⟨fun hz1 => ⟨fun hz2 => ⟨_, eqS, (cEqPins (hx.ext' (Ext.trans e12 e3)) (hy.ext' (Ext.trans e12 e3))).bool1 fun H4 e4 hN4 => ⟨_, neBool, Ext.trans e3 e4, ?_⟩⟩, fun hz2 => ⟨e3, id⟩⟩, fun hz1 => ⟨e3, id⟩⟩⟩, fun h => h.elim, fun _ => ⟨fun hz1 => ?_, fun hz1 => ?_⟩⟩
  · rw [if_pos hz1, if_pos hz2, data_mk, data_mk]
    have : (lockText xs = lockText ys) ↔ xs = ys := ⟨lockText_inj hz1 hz2, fun h => by rw [h]⟩
    by_cases h : xs = ys
    · subst h; simp
    · have h' : ¬ lockText xs = lockText ys := fun e => h (this.1 e)
      simp [h, h']
  · rw [if_pos hz1]
    refine (cLockParse (hL.ext e12)).mono fun v H3 e3 hv => ?_
    obtain ⟨a3, n3, c3, hv, hF⟩ := hv
    have hln := lockText_len hz1
    rw [if_neg (by rw [size_mk]; omega), data_mk, lockRead_text hz1] at hv hF
    refine ⟨a3, n3, c3, 0, hv, fun hN3 => ?_⟩
    have hp3 : Pins H3 a3 n3 xs := pins_of_row (hF.row hN3)
    have e123 := Ext.trans e12 e3
    refine ⟨False, ⟨fun h => absurd rfl h, fun _ => (cEqPins hp3 (hx.ext' e123)).bool1 fun H4 e4 hN4 => ⟨e4, by simp⟩⟩, fun h => h.elim, fun _ => ?_⟩
    refine (cLockParse (hL.ext e123)).mono fun v H4 e4 hv => ?_
    obtain ⟨a4, n4, c4, hv, hF4⟩ := hv
    refine ⟨a4, n4, c4, _, hv, fun hN4 => ⟨fun _ => rfl, fun h => ?_⟩⟩
    have h := Decidable.not_not.1 h
    by_cases hs : 60000 < s.size
    · rw [if_pos hs] at h; cases h
    rw [if_neg hs] at h hF4
    obtain ⟨zs, hzs⟩ := errOf_zero h
    rw [hzs] at hF4
    obtain ⟨ht, hk⟩ := lockRead_ok hzs
    refine (cLockPrint (hL.ext (Ext.trans e123 e4)) (pins_of_row (hF4.row hN4) : Pins H4 a4 n4 zs)).strE fun H5 e5 hN5 => ?_
    rw [if_pos hk, hk, ht]
    refine ⟨True, ⟨fun _ => ⟨_, eqS, fun _ _ h => h, by rw [data_mk]; simp⟩, fun h => absurd rfl h⟩, ?_⟩
    show Value.bool _ = _
    congr 1
    simp
  · refine (cLockParse (hL.ext e12)).mono fun v H4 e4 hv => ?_
    obtain ⟨a4, n4, c4, hv, hF4⟩ := hv
    refine ⟨a4, n4, c4, _, hv, fun hN4 => ⟨fun _ => rfl, fun h => ?_⟩⟩
    have h := Decidable.not_not.1 h
    by_cases hs : 60000 < s.size
    · rw [if_pos hs] at h; cases h
    rw [if_neg hs] at h hF4
    obtain ⟨zs, hzs⟩ := errOf_zero h
    rw [hzs] at hF4
    obtain ⟨ht, hk⟩ := lockRead_ok hzs
    refine (cLockPrint (hL.ext (Ext.trans e12 e4)) (pins_of_row (hF4.row hN4) : Pins H4 a4 n4 zs)).strE fun H5 e5 hN5 => ?_
    rw [if_pos hk, hk, ht]
    refine ⟨True, ⟨fun _ => ⟨_, eqS, fun _ _ h => h, by rw [data_mk]; simp⟩, fun h => absurd rfl h⟩, ?_⟩
    show Value.bool _ = _
    congr 1
    simp
end
theorem except_eq {s : List UInt8} {x y : Except Int (List Pin)} (hx : ∀ e, x = .error e → e ≠ 0) (hy : ∀ e, y = .error e → e ≠ 0) (h1 : errOf x = errOf y) (h2 : okL x = okL y) : x = y := by
  cases x <;> cases y <;> simp_all [errOf, okL]
theorem cRefAt {H : Heap} {a : Option Addr} {l c : Nat} {xs : List Pin} (hp : Pins H a l xs) (k : Int) : Spec Tryd.prog 16 [.slice a l c, .int .i64 k] H fun v _ => v = i64 (find xs k) := by
  refine TrydvcJ Tryd.func16 (by kernel_rfl) (by kernel_rfl) _ rfl (fun base K => vd16 a l c k base H K) fun base hb => ?_
  have hl := hp.len
  refine ⟨fun vs H' => ∃ (n : Int) (m : Nat), vs = [i64 n, i64 m] ∧ m ≤ l ∧ find (xs.drop m) k = find xs k, upTo l 1, ⟨0, 0, rfl, by omega, rfl⟩, fun n n1 H2 hN2 hI => ?_⟩
  obtain ⟨n', m, hvs, hm, hI⟩ := hI
  obtain ⟨rfl, rfl⟩ : n = n' ∧ n1 = (m : Int) := by simpa using hvs
  refine ⟨fun hlt => hp.pin hN2.ext (by omega) hlt fun p hpp => ?_, fun hge => ?_⟩
  · rw [Int.toNat_natCast] at hpp
    rw [drop_at hpp, find] at hI
    intro _
    refine ⟨fun h => ?_, fun h => ?_⟩
    · rw [if_pos h] at hI; rw [← hI]
    · rw [if_neg h] at hI
      rintro r rfl
      have hm2 := hp.le
      rw [wrap_in (by omega) (by omega)]
      exact ⟨⟨n, m + 1, rfl, by omega, hI⟩, by simp [upTo]; omega⟩
  · rw [← hI, drop_all hl (by omega), find]
section
variable {H : Heap} (hL : Lb H)
include hL
theorem cLockSays {a : Option Addr} {l c : Nat} {xs : List Pin} {n : Int} {s : ByteArray} (hx : Pins H a l xs) : Spec Tryd.prog 4 [.slice a l c, .int .i64 n, .string s] H fun v _ => v = .bool true := by
  refine TrydvcJ Tryd.func4 (by kernel_rfl) (by kernel_rfl) _ rfl (fun base K => vd4 a l c n s base H K) fun base hb => ?_
  refine (cLockPrint hL hx).strE fun H1 e1 hN1 => ?_
  refine (cLockParse (hL.ext e1) (s := s)).mono fun v H2 e2 hv => ?_
  obtain ⟨a2, n2, c2, hv, hF⟩ := hv
  refine ⟨a2, n2, c2, _, hv, fun hN2 => ?_⟩
  have e12 : Ext H H2 := Ext.trans e1 e2
  have hp2 := (pins_of_row (hF.row hN2) : Pins H2 a2 n2 _)
  refine (cRefLockCheck (hx.ext' e12)).int1 fun H3 e3 hN3 => ?_
  have e13 : Ext H H3 := Ext.trans e12 e3
  have tail : ∀ Hx, Ext H2 Hx → (60000 < (s.size : Int) → ∃ φ : Prop, (((if 60000 < s.size then (2 : Int) else errOf (lockRead s.data.toList)) = 2 → SubH Hx Hx ∧ (φ ↔ (n2 : Int) = 0)) ∧ (¬(if 60000 < s.size then (2 : Int) else errOf (lockRead s.data.toList)) = 2 → SubH Hx Hx ∧ ¬φ)) ∧ Value.bool (@decide φ (Classical.propDecidable φ)) = Value.bool true) := fun Hx eX h => by
    rw [if_pos (by omega)] at hp2 ⊢
    obtain rfl : n2 = 0 := by have := hp2.len; simpa using this.symm
    exact ⟨True, ⟨fun _ => ⟨fun _ _ h => h, by simp⟩, fun h => absurd rfl h⟩, by simp⟩
  have tail2 : ∀ Hx, Ext H2 Hx → Next base H Hx → (¬60000 < (s.size : Int) → Spec Tryd.prog 17 [.string s] Hx fun v H' => ∃ (a : Option Addr) (n : Nat) (c : Nat) (n_5 : Int), v = .tuple #[.slice a n c, .int .i64 n_5] ∧ (Next base Hx H' → ∃ φ : Prop, (((if 60000 < s.size then (2 : Int) else errOf (lockRead s.data.toList)) = n_5 → Spec Tryd.prog 10 [.slice a2 n2 c2, .slice a n c] H' fun v H'_3 =>
      ∃ b : Bool, v = .bool b ∧ (Next base H' H'_3 → SubH H' H'_3 ∧ (φ ↔ b = true))) ∧ (¬(if 60000 < s.size then (2 : Int) else errOf (lockRead s.data.toList)) = n_5 → SubH H' H' ∧ ¬φ)) ∧ Value.bool (@decide φ (Classical.propDecidable φ)) = Value.bool true)) := fun Hx eX hNx h => by
    rw [if_neg (by omega)] at hp2 ⊢
    refine (cLockRead (hL.ext (Ext.trans e12 eX)) (by rw [← size_data]; omega)).mono fun v H5 e5 hv5 => ?_
    obtain ⟨a5, n5, c5, hv5, hF5⟩ := hv5
    refine ⟨a5, n5, c5, _, hv5, fun hN5 => ⟨True, ⟨fun _ => ?_, fun h => absurd rfl h⟩, by simp⟩⟩
    exact (cEqPins (hp2.ext' (Ext.trans eX e5)) (pins_of_row (hF5.row hN5))).bool1 fun H6 e6 hN6 => ⟨e6, by simp⟩
  refine ⟨fun hz => (cLockText (hL.ext e13) (hx.ext' e13) hz).str1 fun H4 e4 hN4 => ?_, fun hz => ?_⟩
  · have e14 : Ext H H4 := Ext.trans e13 e4
    have e24 : Ext H2 H4 := Ext.trans e3 e4
    refine ⟨False, (cLocked (hL.ext e14)).bool1 fun H5 e5 hN5 => ⟨fun h => (by cases h), fun _ => (cLockCheck (hx.ext' (Ext.trans e14 e5))).int1 fun H6 e6 hN6 => ⟨fun h => absurd rfl h, fun _ => (cFind (hx.ext' (Ext.trans e14 (Ext.trans e5 e6))) n).int1 fun H7 e7 hN7 =>
      (cRefAt (hx.ext' (Ext.trans e14 (Ext.trans e5 (Ext.trans e6 e7)))) n).int1 fun H8 e8 hN8 => ⟨fun h => absurd rfl h, fun _ => ⟨fun h => absurd rfl h, fun _ => ⟨_, neS, Ext.trans e5 (Ext.trans e6 (Ext.trans e7 e8)), ?_⟩⟩⟩⟩⟩, fun h => h.elim, fun _ => ⟨tail H4 e24, tail2 H4 e24 ?_⟩⟩
    · rw [if_pos hz]; simp
    · exact ⟨e14, fun b k h h' => by
        rcases hx4 : H3 b with _ | k3
        · exact Nat.le_trans (Nat.le_refl _) (hN4.fresh b k h hx4)
        · rcases hx3 : H2 b with _ | k2
          · exact hN3.fresh b k3 hx4 hx3
          · rcases hx2 : H1 b with _ | k1
            · exact hN2.fresh b k2 hx3 hx2
            · exact hN1.fresh b k1 hx2 h'⟩
  · refine ⟨False, (cLocked (hL.ext e13)).bool1 fun H5 e5 hN5 => ⟨fun h => (by cases h), fun _ => (cLockCheck (hx.ext' (Ext.trans e13 e5))).int1 fun H6 e6 hN6 => ⟨fun h => absurd rfl h, fun _ => (cFind (hx.ext' (Ext.trans e13 (Ext.trans e5 e6))) n).int1 fun H7 e7 hN7 =>
      (cRefAt (hx.ext' (Ext.trans e13 (Ext.trans e5 (Ext.trans e6 e7)))) n).int1 fun H8 e8 hN8 => ⟨fun h => absurd rfl h, fun _ => ⟨fun h => absurd rfl h, fun _ => ⟨_, neS, Ext.trans e5 (Ext.trans e6 (Ext.trans e7 e8)), ?_⟩⟩⟩⟩⟩, fun h => h.elim, fun _ => ⟨tail H3 e3, tail2 H3 e3 ?_⟩⟩
    · rw [if_neg hz]; simp
    · exact ⟨e13, fun b k h h' => by
        rcases hx3 : H2 b with _ | k2
        · exact hN3.fresh b k h hx3
        · rcases hx2 : H1 b with _ | k1
          · exact hN2.fresh b k2 hx3 hx2
          · exact hN1.fresh b k1 hx2 h'⟩
end
end Go.Vg
