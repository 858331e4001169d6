/- What is proved here: the contracts of the laws of locks as texts. -/
import Derived.Test.YtglnjkkaojhgnaaDoorD2
import Derived.Test.YtglnjkkaojhgnaaDoorW2
set_option linter.unusedSimpArgs false
set_option linter.unusedVariables false
set_option maxRecDepth 100000
namespace Go.Vg
open Go Go.Proofs
theorem neBool {xo yo : Operand} {a b : Bool} : RunsTo Tryd.prog (binRun .neq 4 xo yo (.bool a) (.bool b)) (.bool (a != b)) := by
  intro w
  have hg : (eqGuard .neq 4 xo yo (.bool a) (.bool b)).run Tryd.prog w = .ok () w := by simp [eqGuard]
  simp only [binRun, Sem.run_bind, hg, Result.andThen_ok]
  have := run_equal_bool w 4 a b Tryd.underlying4
  simp [binOp, this, bne]
theorem itoa_digit {d : Nat} (h : d < 10) : Lib.itoa (d : Int) = [UInt8.ofNat (48 + d)] := by
  unfold Lib.itoa
  rw [if_neg (by omega), Int.toNat_natCast]
  unfold Lib.decDigits
  rw [dif_pos h]
theorem locked_text : lockText [⟨1, 2⟩, ⟨7, 1⟩] = [49, 64, 50, 44, 55, 64, 49] := by
  show Lib.itoa ((1 : Nat) : Int) ++ 64 :: Lib.itoa ((2 : Nat) : Int) ++ (44 :: (Lib.itoa ((7 : Nat) : Int) ++ 64 :: Lib.itoa ((1 : Nat) : Int)) ++ []) = _
  rw [itoa_digit (by omega), itoa_digit (by omega), itoa_digit (by omega)]
  rfl
theorem locked_read : lockRead [49, 64, 50, 44, 55, 64, 49] = .ok [⟨1, 2⟩, ⟨7, 1⟩] := by
  rw [← locked_text]; exact lockRead_text (by decide)
theorem errOf_zero {s : List UInt8} (h : errOf (lockRead s) = 0) : ∃ l, lockRead s = .ok l := by
  cases hr : lockRead s with
  | ok l => exact ⟨l, rfl⟩
  | error e => rw [hr] at h; exact absurd h (lockRead_err hr)
section
variable {H : Heap} (hL : Lb H)
include hL
theorem cLocked : Spec Tryd.prog 9 [] H fun v _ => v = .bool true := by
  refine TrydvcJ Tryd.func9 (by kernel_rfl) (by kernel_rfl) _ rfl (fun base K => vd9 base H K) fun base hb => ?_
  refine (cLockParse hL).mono fun v H1 e1 hv => ?_
  obtain ⟨a, n, c, hv, hF⟩ := hv
  rw [if_neg (by decide)] at hv hF
  rw [show (⟨#[49, 64, 50, 44, 55, 64, 49]⟩ : ByteArray).data.toList = [49, 64, 50, 44, 55, 64, 49] from rfl, locked_read] at hv hF
  refine ⟨a, n, c, 0, hv, fun hN1 => ?_⟩
  have hp : Pins H1 a n [⟨1, 2⟩, ⟨7, 1⟩] := pins_of_row (hF.row hN1)
  obtain rfl : n = 2 := by have := hp.len; simpa using this.symm
  have h0 : lockCheck [⟨1, 2⟩, ⟨7, 1⟩] = 0 := by decide
  refine (cLockPrint (hL.ext e1) hp).strE fun H2 e2 hN2 => ?_
  rw [if_pos h0, h0, locked_text]
  refine ⟨True, ⟨fun _ => ⟨fun _ => ⟨_, eqS, fun _ => ⟨fun _ => (cFind (hp.ext' e2) 1).int1 fun H3 e3 hN3 => ⟨fun _ => (cFind (hp.ext' (Ext.trans e2 e3)) 2).int1 fun H4 e4 hN4 => ⟨Ext.trans e3 e4, by decide⟩, fun h => absurd (by decide) h⟩, fun h => absurd rfl h⟩, fun h => absurd (by decide) h⟩, fun h => absurd rfl h⟩, fun h => absurd rfl h⟩, ?_⟩
  show Value.bool _ = _
  congr 1
  simp
theorem cLockBack {a a' : Option Addr} {l c l' c' : Nat} {xs ys : List Pin} {s : ByteArray} (hx : Pins H a l xs) (hy : Pins H a' l' ys) : Spec Tryd.prog 3 [.slice a l c, .slice a' l' c', .string s] H fun v _ => v = .bool true := by
  refine TrydvcJ Tryd.func3 (by kernel_rfl) (by kernel_rfl) _ rfl (fun base K => vd3 a a' l c l' c' s base H K) fun base hb => ?_
  refine (cLockPrint hL hx).strE fun H1 e1 hN1 => (cLockPrint (hL.ext e1) (hy.ext' e1)).strE fun H2 e2 hN2 => ?_
  have e12 := Ext.trans e1 e2
  refine ⟨False, (cLocked (hL.ext e12)).bool1 fun H3 e3 hN3 => ⟨fun h => (by cases h), fun _ => ⟨fun hz1 => ⟨fun hz2 => ⟨_, eqS, (cEqPins (hx.ext' (Ext.trans e12 e3)) (hy.ext' (Ext.trans e12 e3))).bool1 fun H4 e4 hN4 => ⟨_, neBool, Ext.trans e3 e4, ?_⟩⟩, fun hz2 => ⟨e3, id⟩⟩, fun hz1 => ⟨e3, id⟩⟩⟩, fun h => h.elim, fun _ => ⟨fun hz1 => ?_, fun hz1 => ?_⟩⟩
  · rw [if_pos hz1, if_pos hz2, data_mk, data_mk]
    have : (lockText xs = lockText ys) ↔ xs = ys := ⟨lockText_inj hz1 hz2, fun h => by rw [h]⟩
    by_cases h : xs = ys
    · subst h; simp
    · have h' : ¬ lockText xs = lockText ys := fun e => h (this.1 e)
      simp [h, h']
  · rw [if_pos hz1]
    refine (cLockParse (hL.ext e12)).mono fun v H3 e3 hv => ?_
    obtain ⟨a3, n3, c3, hv, hF⟩ := hv
    have hln := lockText_len hz1
    rw [if_neg (by rw [size_mk]; omega), data_mk, lockRead_text hz1] at hv hF
    refine ⟨a3, n3, c3, 0, hv, fun hN3 => ?_⟩
    have hp3 : Pins H3 a3 n3 xs := pins_of_row (hF.row hN3)
    have e123 := Ext.trans e12 e3
    refine ⟨False, ⟨fun h => absurd rfl h, fun _ => (cEqPins hp3 (hx.ext' e123)).bool1 fun H4 e4 hN4 => ⟨e4, by simp⟩⟩, fun h => h.elim, fun _ => ?_⟩
    refine (cLockParse (hL.ext e123)).mono fun v H4 e4 hv => ?_
    obtain ⟨a4, n4, c4, hv, hF4⟩ := hv
    refine ⟨a4, n4, c4, _, hv, fun hN4 => ⟨fun _ => rfl, fun h => ?_⟩⟩
    have h := Decidable.not_not.1 h
    by_cases hs : 60000 < s.size
    · rw [if_pos hs] at h; cases h
    rw [if_neg hs] at h hF4
    obtain ⟨zs, hzs⟩ := errOf_zero h
    rw [hzs] at hF4
    obtain ⟨ht, hk⟩ := lockRead_ok hzs
    refine (cLockPrint (hL.ext (Ext.trans e123 e4)) (pins_of_row (hF4.row hN4) : Pins H4 a4 n4 zs)).strE fun H5 e5 hN5 => ?_
    rw [if_pos hk, hk, ht]
    refine ⟨True, ⟨fun _ => ⟨_, eqS, fun _ _ h => h, by rw [data_mk]; simp⟩, fun h => absurd rfl h⟩, ?_⟩
    show Value.bool _ = _
    congr 1
    simp
  · refine (cLockParse (hL.ext e12)).mono fun v H4 e4 hv => ?_
    obtain ⟨a4, n4, c4, hv, hF4⟩ := hv
    refine ⟨a4, n4, c4, _, hv, fun hN4 => ⟨fun _ => rfl, fun h => ?_⟩⟩
    have h := Decidable.not_not.1 h
    by_cases hs : 60000 < s.size
    · rw [if_pos hs] at h; cases h
    rw [if_neg hs] at h hF4
    obtain ⟨zs, hzs⟩ := errOf_zero h
    rw [hzs] at hF4
    obtain ⟨ht, hk⟩ := lockRead_ok hzs
    refine (cLockPrint (hL.ext (Ext.trans e12 e4)) (pins_of_row (hF4.row hN4) : Pins H4 a4 n4 zs)).strE fun H5 e5 hN5 => ?_
    rw [if_pos hk, hk, ht]
    refine ⟨True, ⟨fun _ => ⟨_, eqS, fun _ _ h => h, by rw [data_mk]; simp⟩, fun h => absurd rfl h⟩, ?_⟩
    show Value.bool _ = _
    congr 1
    simp
end
end Go.Vg
