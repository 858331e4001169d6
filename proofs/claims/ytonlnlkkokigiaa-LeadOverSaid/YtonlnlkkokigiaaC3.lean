/- What is proved here: the contracts of the functions of locks and rules. -/
import Derived.Test.YtonlnlkkokigiaaRp3
import Derived.Test.YtonlnlkkokigiaaV3
import Derived.Test.YtonlnlkkokigiaaC2
import Derived.Test.YtonlnlkkokigiaaEq
import Derived.Test.YtonlnlkkokigiaaRp4
set_option linter.unusedSimpArgs false
set_option maxRecDepth 100000
set_option linter.unusedVariables false
namespace Go.Vg
open Go Go.Proofs
/-! ### lock.Check -/
def lastName (xs : List Pin) : Nat → Int
  | 0 => 0
  | i + 1 => match xs[i]? with | some p => p.name | none => 0
theorem cLockCheck {H : Heap} {a : Option Addr} {l c : Nat} {xs : List Pin} (hx : Pins H a l xs) : Spec Try.prog 62 [.slice a l c] H fun v _ => v = i64 (lockCheck xs) := by
  refine Tryvc Try.func62 (by kernel_rfl) (by kernel_rfl) _ rfl (fun base K => vc62 a l c base H K) fun base hb => ?_
  have hl := hx.len
  refine ⟨fun h => ?_, fun h => ?_⟩
  · rw [lockCheck, if_pos (by omega)]
  have hW : lockCheck xs = lockFrom 0 xs := by rw [lockCheck, if_neg (by omega)]
  rw [hW]
  refine ⟨fun vs _ => ∃ (d : Int) (i : Nat), vs = [i64 d, i64 i] ∧ i ≤ l ∧ lockFrom (lastName xs i) (xs.drop i) = lockFrom 0 xs, upTo l 1, ⟨0, 0, rfl, by omega, rfl⟩, fun d n H' hN hI => ?_⟩
  obtain ⟨d', i, hvs, hi, hI⟩ := hI
  obtain ⟨rfl, rfl⟩ : d = d' ∧ n = (i : Int) := by simpa using hvs
  refine ⟨fun hlt => hx.pin hN.ext (by omega) hlt fun p hp => ?_, fun hge => ?_⟩
  · rw [Int.toNat_natCast] at hp
    rw [drop_at hp, lockFrom] at hI
    intro _
    have hnext : lastName xs (i + 1) = p.name := by simp [lastName, hp]
    refine ⟨fun h1 => ?_, fun h1 => ⟨fun h2 => ?_, fun h2 => ⟨fun h3 => ?_, fun h3 => ⟨fun h4 => ?_, fun h4 => ⟨fun h5 => ?_, fun h5 => ?_⟩⟩⟩⟩⟩
    · rw [if_pos (by unfold badPin; omega)] at hI; rw [← hI]
    · rw [if_pos (by unfold badPin; omega)] at hI; rw [← hI]
    · rw [if_pos (by unfold badPin; omega)] at hI; rw [← hI]
    · rw [if_pos (by unfold badPin; omega)] at hI; rw [← hI]
    · rw [if_neg (by unfold badPin; omega)] at hI
      rintro r rfl
      rw [wrap_small (by omega) (by omega)]
      refine hx.pinName hN.ext (by omega) (by omega) fun q hq => ?_
      have hlast : lastName xs i = q.name := by
        obtain ⟨j, rfl⟩ : ∃ j, i = j + 1 := ⟨i - 1, by omega⟩
        rw [show ((j + 1 : Nat) : Int) - 1 = (j : Int) from by omega, Int.toNat_natCast] at hq
        simp [lastName, hq]
      rw [hlast] at hI
      refine ⟨fun h6 => ?_, fun h6 => ?_⟩
      · rw [if_pos h6] at hI; rw [← hI]
      · rw [if_neg h6] at hI
        rintro r rfl
        rw [wrap_small (by omega) (by omega)]
        exact ⟨⟨_, i + 1, rfl, by omega, by rw [hnext]; exact hI⟩, by simp [upTo]; omega⟩
    · rw [if_neg (by unfold badPin; omega)] at hI
      obtain rfl : i = 0 := by omega
      rw [if_neg (by simp [lastName]; omega)] at hI
      rintro r rfl
      rw [wrap_small (by omega) (by omega)]
      exact ⟨⟨_, 1, rfl, by omega, by rw [hnext]; exact hI⟩, by simp [upTo]; omega⟩
  · rw [← hI, drop_all hx.len (by omega), lockFrom]
theorem cRefLockCheck {H : Heap} {a : Option Addr} {l c : Nat} {xs : List Pin} (hx : Pins H a l xs) : Spec Try.prog 108 [.slice a l c] H fun v _ => v = i64 (lockCheck xs) := by
  refine Tryvc Try.func108 (by kernel_rfl) (by kernel_rfl) _ rfl (fun base K => vc108 a l c base H K) fun base hb => ?_
  have hl := hx.len
  refine ⟨fun h => ?_, fun h => ?_⟩
  · rw [lockCheck, if_pos (by omega)]
  have hW : lockCheck xs = lockFrom 0 xs := by rw [lockCheck, if_neg (by omega)]
  rw [hW]
  refine ⟨fun vs _ => ∃ (d m : Int) (i : Nat), vs = [i64 d, i64 m, i64 i] ∧ i ≤ l ∧ lockFrom m (xs.drop i) = lockFrom 0 xs, upTo l 2, ⟨0, 0, 0, rfl, by omega, rfl⟩, fun d m n H' hN hI => ?_⟩
  obtain ⟨d', m', i, hvs, hi, hI⟩ := hI
  obtain ⟨rfl, rfl, rfl⟩ : d = d' ∧ m = m' ∧ n = (i : Int) := by simpa using hvs
  refine ⟨fun hlt => hx.pin hN.ext (by omega) hlt fun p hp => ?_, fun hge => ?_⟩
  · rw [Int.toNat_natCast] at hp
    rw [drop_at hp, lockFrom] at hI
    intro _
    refine (cIn _ _ _).bool1 fun H1 _ _ => ⟨fun h1 => ?_, fun h1 => (cIn _ _ _).bool1 fun H2 _ _ => ⟨fun h2 => ?_, fun h2 => ⟨fun h3 => ?_, fun h3 => ?_⟩⟩⟩
    · have : ¬ (1 ≤ p.name ∧ p.name ≤ 20) := by simpa [inR] using h1
      rw [if_pos (by unfold badPin; omega)] at hI; rw [← hI]
    · have : ¬ (1 ≤ p.ver ∧ p.ver ≤ 99) := by simpa [inR] using h2
      rw [if_pos (by unfold badPin; omega)] at hI; rw [← hI]
    · have h1' : 1 ≤ p.name ∧ p.name ≤ 20 := by simpa [inR] using h1
      have h2' : 1 ≤ p.ver ∧ p.ver ≤ 99 := by simpa [inR] using h2
      rw [if_neg (by unfold badPin; omega), if_pos h3] at hI; rw [← hI]
    · have h1' : 1 ≤ p.name ∧ p.name ≤ 20 := by simpa [inR] using h1
      have h2' : 1 ≤ p.ver ∧ p.ver ≤ 99 := by simpa [inR] using h2
      rw [if_neg (by unfold badPin; omega), if_neg h3] at hI
      rintro r rfl
      rw [wrap_small (by omega) (by omega)]
      exact ⟨⟨_, _, i + 1, rfl, by omega, hI⟩, by simp [upTo]; omega⟩
  · rw [← hI, drop_all hx.len (by omega), lockFrom]
/-! ### lock.Find -/
def pinIdx (k : Int) : Int → List Pin → Int
  | _, [] => -1
  | i, p :: r => if p.name = k then i else pinIdx k (i + 1) r
theorem pinIdx_spec (k : Int) : ∀ (xs : List Pin) (i : Int), 0 ≤ i → (pinIdx k i xs = -1 ∧ find xs k = 0 ∧ ∀ p ∈ xs, p.name ≠ k) ∨ ∃ (j : Nat) (p : Pin), pinIdx k i xs = i + j ∧ xs[j]? = some p ∧ find xs k = p.ver ∧ p.name = k
  | [], i, _ => .inl ⟨rfl, rfl, by simp⟩
  | p :: r, i, hi => by
    unfold pinIdx
    by_cases e : p.name = k
    · rw [if_pos e]; exact .inr ⟨0, p, by simp, rfl, by rw [find, if_pos e], e⟩
    · rw [if_neg e]
      rcases pinIdx_spec k r (i + 1) (by omega) with ⟨h1, h2, h3⟩ | ⟨j, q, h1, h2, h3, h4⟩
      · exact .inl ⟨h1, by rw [find, if_neg e, h2], fun q hq => by rcases List.mem_cons.1 hq with rfl | hq; exact e; exact h3 q hq⟩
      · exact .inr ⟨j + 1, q, by rw [h1]; omega, by simpa using h2, by rw [find, if_neg e, h3], h4⟩
theorem cPinIdx {H : Heap} {a : Option Addr} {l c : Nat} {xs : List Pin} (hx : Pins H a l xs) {k : Int} {p : Nat} (hp : H.cell p 0 = some (i64 k)) :
    Spec Try.prog 113 [.slice a l c, .func (.func 114) #[] #[.pointer (some ⟨p, 0, none⟩)]] H fun v _ => v = i64 (pinIdx k 0 xs) := by
  have h114 : ∀ {H : Heap} {n v : Int}, H.cell p 0 = some (i64 k) → Spec Try.prog 114 [.agg #[.int .i64 n, .int .i64 v], .pointer (some ⟨p, 0, none⟩)] H fun r _ => r = .bool (decide (n = k)) := by
    intro H n v hp
    refine Tryvc Try.func114 (by kernel_rfl) (by kernel_rfl) _ rfl (fun base K => vc114 n v p base H K) fun base hb => ?_
    intro _
    exact ⟨k, hp, rfl⟩
  refine Tryvc Try.func113 (by kernel_rfl) (by kernel_rfl) _ rfl (fun base K => vc113 a l c p base H K) fun base hb => ?_
  have hle := hx.le
  refine ⟨fun vs _ => ∃ (d : Int) (i : Nat), vs = [i64 d, i64 i] ∧ i ≤ l ∧ pinIdx k i (xs.drop i) = pinIdx k 0 xs, upTo l 1, ⟨0, 0, rfl, by omega, rfl⟩, fun d n H' hN hI => ?_⟩
  obtain ⟨d', i, hvs, hi, hI⟩ := hI
  obtain ⟨rfl, rfl⟩ : d = d' ∧ n = (i : Int) := by simpa using hvs
  refine ⟨fun hlt => hx.pin hN.ext (by omega) hlt fun q hq => ?_, fun hge => ?_⟩
  · rw [Int.toNat_natCast] at hq
    rw [drop_at hq, pinIdx] at hI
    refine (h114 (Heap.cell_next hN.ext hp)).bool1 fun H2 _ _ => ⟨fun h => ?_, fun h => ?_⟩
    · rw [if_pos (by simpa using h)] at hI; rw [← hI]
    · rw [if_neg (by simpa using h)] at hI
      rintro r rfl
      rw [wrap_in (by omega) (by omega)]
      exact ⟨⟨_, i + 1, rfl, by omega, hI⟩, by simp [upTo]; omega⟩
  · rw [← hI, drop_all hx.len (by omega), pinIdx]
theorem cFind {H : Heap} {a : Option Addr} {l c : Nat} {xs : List Pin} (hx : Pins H a l xs) (k : Int) : Spec Try.prog 42 [.slice a l c, i64 k] H fun v _ => v = i64 (find xs k) := by
  refine Tryvc Try.func42 (by kernel_rfl) (by kernel_rfl) _ rfl (fun base K => vc42 a l c k base H K) fun base hb => ?_
  intro b
  refine ⟨rfl, fun Hl hNl hb => ?_⟩
  refine (cPinIdx (hx.ext' hNl.ext) (k := k) (p := b) (by unfold Heap.cell; rw [hb.1]; rfl)).mono fun v H2 e2 hv => ⟨_, hv, fun H' hN _ => ?_⟩
  rcases pinIdx_spec k xs 0 (by omega) with ⟨h1, h2, _⟩ | ⟨j, p, h1, h2, h3, _⟩
  · rw [h1, h2]; exact ⟨fun _ => rfl, fun h => absurd (by omega) h⟩
  · rw [h1]
    have hj := (List.getElem?_eq_some_iff.1 h2).1
    have hl := hx.len
    refine ⟨fun h => by omega, fun _ => hx.pinVer hN.ext (by omega) (by omega) fun q hq => ?_⟩
    rw [show (0 + (j : Int)).toNat = j from by omega, h2] at hq
    obtain rfl := Option.some.inj hq
    rw [h3]
/-! ### rule.Check -/
theorem get_two {x y n : Int} {k : Nat} (hk : k < 2) (h : n = if k = 0 then x else y) : ([Value.int .i64 x, Value.int .i64 y] : List Value)[k * 1]? = some (.int .i64 n) := by
  subst h
  match k, hk with
  | 0, _ => rfl
  | 1, _ => rfl
theorem cRuleCheck {H : Heap} {a : Option Addr} {l c : Nat} {rs : List Rule} (hx : Rules H a l rs) : Spec Try.prog 39 [.slice a l c] H fun v _ => v = i64 (rulesCheck rs) := by
  refine Tryvc Try.func39 (by kernel_rfl) (by kernel_rfl) _ rfl (fun base K => vc39 a l c base H K) fun base hb => ?_
  have hl := hx.len
  refine ⟨fun h => ?_, fun h => ?_⟩
  · rw [rulesCheck, if_pos (by omega)]
  have hW : rulesCheck rs = rulesFrom rs := by rw [rulesCheck, if_neg (by omega)]
  rw [hW]
  refine ⟨fun vs _ => ∃ (d : Int) (i : Nat), vs = [i64 d, i64 i] ∧ i ≤ l ∧ rulesFrom (rs.drop i) = rulesFrom rs, upTo l 1, ⟨0, 0, rfl, by omega, rfl⟩, fun d n H' hN hI => ?_⟩
  obtain ⟨d', i, hvs, hi, hI⟩ := hI
  obtain ⟨rfl, rfl⟩ : d = d' ∧ n = (i : Int) := by simpa using hvs
  refine ⟨fun hlt => hx.rule hN.ext (by omega) hlt fun p hp => ?_, fun hge => ?_⟩
  · rw [Int.toNat_natCast] at hp
    rw [drop_at hp, rulesFrom] at hI
    intro _
    refine ⟨fun vs _ => ∃ (d : Int) (j : Nat), vs = [i64 d, i64 j] ∧ j ≤ 2 ∧ (0 < j → 1 ≤ p.name ∧ p.name ≤ 20) ∧ (1 < j → 1 ≤ p.wth ∧ p.wth ≤ 20), upTo 2 1, ⟨_, 0, rfl, by omega, by omega, by omega⟩, fun d2 m H2 hN2 hI2 => ?_⟩
    obtain ⟨d3, j, hvs2, hj, hj0, hj1⟩ := hI2
    obtain ⟨rfl, rfl⟩ : d2 = d3 ∧ m = (j : Int) := by simpa using hvs2
    refine ⟨fun hlt2 => ⟨by omega, hlt2, (if j = 0 then p.name else p.wth), ?_, fun g1 => ?_, fun g1 => ⟨fun g2 => ?_, fun g2 => ?_⟩⟩, fun hge2 => ?_⟩
    · rw [Int.toNat_natCast]; exact get_two (by omega) rfl
    · rw [if_pos (by unfold badRule; split at g1 <;> omega)] at hI; rw [← hI]
    · rw [if_pos (by unfold badRule; split at g2 <;> omega)] at hI; rw [← hI]
    · rintro r rfl
      rw [wrap_small (by omega) (by omega)]
      refine ⟨rfl, ⟨_, j + 1, rfl, by omega, fun _ => ?_, fun _ => ?_⟩, by simp [upTo]; omega⟩
      · by_cases e : j = 0
        · subst e; simp at g1 g2; omega
        · exact hj0 (by omega)
      · have e : j ≠ 0 := by omega
        simp [e] at g1 g2; omega
    · obtain rfl : j = 2 := by omega
      have k0 := hj0 (by omega)
      have k1 := hj1 (by omega)
      refine ⟨fun vs _ => ∃ (d : Int) (j : Nat), vs = [i64 d, i64 j] ∧ j ≤ 2 ∧ (0 < j → 1 ≤ p.ver ∧ p.ver ≤ 99) ∧ (1 < j → 1 ≤ p.least ∧ p.least ≤ 99), upTo 2 1, ⟨_, 0, rfl, by omega, by omega, by omega⟩, fun d2 m H2 hN2 hI2 => ?_⟩
      obtain ⟨d3, j, hvs2, hj, hj0, hj1⟩ := hI2
      obtain ⟨rfl, rfl⟩ : d2 = d3 ∧ m = (j : Int) := by simpa using hvs2
      refine ⟨fun hlt2 => ⟨by omega, hlt2, (if j = 0 then p.ver else p.least), ?_, fun g1 => ?_, fun g1 => ⟨fun g2 => ?_, fun g2 => ?_⟩⟩, fun hge2 => ?_⟩
      · rw [Int.toNat_natCast]; exact get_two (by omega) rfl
      · rw [if_pos (by unfold badRule; split at g1 <;> omega)] at hI; rw [← hI]
      · rw [if_pos (by unfold badRule; split at g2 <;> omega)] at hI; rw [← hI]
      · rintro r rfl
        rw [wrap_small (by omega) (by omega)]
        refine ⟨rfl, ⟨_, j + 1, rfl, by omega, fun _ => ?_, fun _ => ?_⟩, by simp [upTo]; omega⟩
        · by_cases e : j = 0
          · subst e; simp at g1 g2; omega
          · exact hj0 (by omega)
        · have e : j ≠ 0 := by omega
          simp [e] at g1 g2; omega
      · obtain rfl : j = 2 := by omega
        have k2 := hj0 (by omega)
        have k3 := hj1 (by omega)
        rw [if_neg (by unfold badRule; omega)] at hI
        refine ⟨fun h => ?_, fun h => ?_⟩
        · rw [if_pos h] at hI; rw [← hI]
        · rw [if_neg h] at hI
          rintro r rfl
          rw [wrap_small (by omega) (by omega)]
          exact ⟨⟨_, i + 1, rfl, by omega, hI⟩, by simp [upTo]; omega⟩
  · rw [← hI, drop_all hx.len (by omega), rulesFrom]
theorem cRefRuleCheck {H : Heap} {a : Option Addr} {l c : Nat} {rs : List Rule} (hx : Rules H a l rs) : Spec Try.prog 40 [.slice a l c] H fun v _ => v = i64 (rulesCheck rs) := by
  refine Tryvc Try.func40 (by kernel_rfl) (by kernel_rfl) _ rfl (fun base K => vc40 a l c base H K) fun base hb => ?_
  have hl := hx.len
  refine ⟨fun h => ?_, fun h => ?_⟩
  · rw [rulesCheck, if_pos (by omega)]
  have hW : rulesCheck rs = rulesFrom rs := by rw [rulesCheck, if_neg (by omega)]
  rw [hW]
  refine ⟨fun vs _ => ∃ (d : Int) (i : Nat), vs = [i64 d, i64 i] ∧ i ≤ l ∧ rulesFrom (rs.drop i) = rulesFrom rs, upTo l 1, ⟨0, 0, rfl, by omega, rfl⟩, fun d n H' hN hI => ?_⟩
  obtain ⟨d', i, hvs, hi, hI⟩ := hI
  obtain ⟨rfl, rfl⟩ : d = d' ∧ n = (i : Int) := by simpa using hvs
  refine ⟨fun hlt => hx.rule hN.ext (by omega) hlt fun p hp => ?_, fun hge => ?_⟩
  · rw [Int.toNat_natCast] at hp
    rw [drop_at hp, rulesFrom] at hI
    intro _
    refine (cIn _ _ _).bool1 fun H1 _ _ => ⟨fun h1 => ?_, fun h1 => (cIn _ _ _).bool1 fun H2 _ _ => ⟨fun h2 => ?_, fun h2 => (cIn _ _ _).bool1 fun H3 _ _ => ⟨fun h3 => ?_, fun h3 => (cIn _ _ _).bool1 fun H4 _ _ => ⟨fun h4 => ?_, fun h4 => ?_⟩⟩⟩⟩
    · have : ¬ (1 ≤ p.name ∧ p.name ≤ 20) := by simpa [inR] using h1
      rw [if_pos (by unfold badRule; omega)] at hI; rw [← hI]
    · have : ¬ (1 ≤ p.wth ∧ p.wth ≤ 20) := by simpa [inR] using h2
      rw [if_pos (by unfold badRule; omega)] at hI; rw [← hI]
    · have : ¬ (1 ≤ p.ver ∧ p.ver ≤ 99) := by simpa [inR] using h3
      rw [if_pos (by unfold badRule; omega)] at hI; rw [← hI]
    · have : ¬ (1 ≤ p.least ∧ p.least ≤ 99) := by simpa [inR] using h4
      rw [if_pos (by unfold badRule; omega)] at hI; rw [← hI]
    · have h1' : 1 ≤ p.name ∧ p.name ≤ 20 := by simpa [inR] using h1
      have h2' : 1 ≤ p.wth ∧ p.wth ≤ 20 := by simpa [inR] using h2
      have h3' : 1 ≤ p.ver ∧ p.ver ≤ 99 := by simpa [inR] using h3
      have h4' : 1 ≤ p.least ∧ p.least ≤ 99 := by simpa [inR] using h4
      rw [if_neg (by unfold badRule; omega)] at hI
      refine ⟨fun h => ?_, fun h => ?_⟩
      · rw [if_pos h.symm] at hI; rw [← hI]
      · rw [if_neg (fun e => h e.symm)] at hI
        rintro r rfl
        rw [wrap_small (by omega) (by omega)]
        exact ⟨⟨_, i + 1, rfl, by omega, hI⟩, by simp [upTo]; omega⟩
  · rw [← hI, drop_all hx.len (by omega), rulesFrom]
/-! ### rule.Broken -/
theorem cBroken {H : Heap} {a a' : Option Addr} {l c l' c' : Nat} {xs : List Pin} {rs : List Rule} (hx : Pins H a l xs) (hr : Rules H a' l' rs) :
    Spec Try.prog 34 [.slice a l c, .slice a' l' c'] H fun v _ => v = .tuple #[i64 (broken xs rs), i64 (brokenErr xs rs)] := by
  refine Tryvc Try.func34 (by kernel_rfl) (by kernel_rfl) _ rfl (fun base K => vc34 a a' l c l' c' base H K) fun base hb => ?_
  refine (cLockCheck hx).int1 fun H1 e1 hN1 => ⟨fun h => ?_, fun h => (cRuleCheck (hr.ext' e1)).int1 fun H2 e2 hN2 => ⟨fun h2 => ?_, fun h2 => ?_⟩⟩
  · have e : brokenErr xs rs = lockCheck xs := by rw [brokenErr, if_neg h]
    rw [broken, e, if_neg h]
  · have e : brokenErr xs rs = rulesCheck rs := by rw [brokenErr, if_pos (Decidable.not_not.1 h)]
    rw [broken, e, if_neg h2]
  have e : brokenErr xs rs = 0 := by rw [brokenErr, if_pos (Decidable.not_not.1 h)]; exact Decidable.not_not.1 h2
  have hW : broken xs rs = brokenFrom xs 0 rs := by rw [broken, if_pos e]
  rw [e, hW]
  have hle := hr.le
  refine ⟨fun vs _ => ∃ (d1 d2 : Int) (i : Nat), vs = [i64 d1, i64 d2, i64 i] ∧ i ≤ l' ∧ brokenFrom xs i (rs.drop i) = brokenFrom xs 0 rs, upTo l' 2, ⟨0, 0, 0, rfl, by omega, rfl⟩, fun d1 d2 n H' hN hI => ?_⟩
  obtain ⟨d1', d2', i, hvs, hi, hI⟩ := hI
  obtain ⟨rfl, rfl, rfl⟩ : d1 = d1' ∧ d2 = d2' ∧ n = (i : Int) := by simpa using hvs
  refine ⟨fun hlt => hr.rule hN.ext (by omega) hlt fun p hp => ?_, fun hge => ?_⟩
  · rw [Int.toNat_natCast] at hp
    rw [drop_at hp, brokenFrom] at hI
    intro _
    refine (cFind (hx.ext' hN.ext) _).int1 fun H3 e3 hN3 => ⟨fun h3 => (cFind ((hx.ext' hN.ext).ext' e3) _).int1 fun H4 e4 hN4 => ⟨fun h4 => ?_, fun h4 => ?_⟩, fun h3 => ?_⟩
    · rw [if_pos ⟨h3, h4⟩] at hI; rw [← hI]
    · rw [if_neg (fun h => h4 h.2)] at hI
      rintro r rfl
      rw [wrap_in (by omega) (by omega)]
      exact ⟨⟨_, _, i + 1, rfl, by omega, hI⟩, by simp [upTo]; omega⟩
    · rw [if_neg (fun h => h3 h.1)] at hI
      rintro r rfl
      rw [wrap_in (by omega) (by omega)]
      exact ⟨⟨_, _, i + 1, rfl, by omega, hI⟩, by simp [upTo]; omega⟩
  · rw [← hI, drop_all hr.len (by omega), brokenFrom]
/-! ### up -/
theorem cUp {H : Heap} {a : Option Addr} {l c : Nat} {xs : List Pin} (hx : Pins H a l xs) (hl : xs.length ≤ 12) (n v : Int) :
    Spec Try.prog 107 [.slice a l c, i64 n, i64 v] H fun r H' => ∃ a n' c, r = .slice a n' c ∧ Pins H' a n' (up n v xs) := by
  refine Tryvc Try.func107 (by kernel_rfl) (by kernel_rfl) _ rfl (fun base K => vc107 a l c n v base H K) fun base hb => ?_
  have hlen := hx.len
  refine ⟨fun vs Hc => ∃ (out : List Pin) (a : Option Addr) (c : Nat) (done : Bool) (i : Nat), vs = [.slice a out.length c, .bool done, i64 i] ∧ Row base Hc 48 2 a out.length c (out.flatMap pinCells) ∧ i ≤ l ∧ out.length ≤ i + done.toNat ∧
      out ++ (if done then xs.drop i else up n v (xs.drop i)) = up n v xs, upTo l 2, ⟨[], none, 0, false, 0, rfl, Row.nil, by omega, by simp, rfl⟩, fun a1 n1 c1 b m H' hN hI => ?_⟩
  obtain ⟨out, a1', c1', b', i, hvs, hR, hi, hol, hI⟩ := hI
  obtain ⟨⟨rfl, rfl, rfl⟩, rfl, rfl⟩ : (a1 = a1' ∧ n1 = out.length ∧ c1 = c1') ∧ b = b' ∧ m = (i : Int) := by simpa using hvs
  have hol13 : out.length ≤ 13 := by have := Bool.toNat_le b; omega
  have app : ∀ {q : Pin}, (out ++ [q]).flatMap pinCells = out.flatMap pinCells ++ [i64 q.name, i64 q.ver] := by intro q; simp [pinCells]
  refine ⟨fun hlt => hx.pin hN.ext (by omega) hlt fun p hp => ?_, fun hge => ⟨fun hb' => ?_, fun hb' => ?_⟩⟩
  · rw [Int.toNat_natCast] at hp
    rw [drop_at hp] at hI
    intro _
    refine ⟨fun hb' => ?_, fun hb' => ?_⟩
    · subst hb'
      simp only [Bool.false_eq_true, if_false] at hI
      rw [up] at hI
      refine ⟨fun h1 => ?_, fun h1 => ?_⟩
      · rw [if_pos h1] at hI
        refine fun _ => ⟨_, hR, by omega, by omega, fun a2 c2 H2 hG hR2 => ⟨fun h2 => ?_, fun h2 => ?_⟩⟩
        · rw [if_pos h2] at hI
          rintro r rfl
          rw [wrap_small (by omega) (by omega)]
          exact ⟨⟨out ++ [⟨n, v⟩], a2, c2, true, i + 1, by simp, by rw [app]; simpa using hR2, by omega, by simp at hol ⊢; omega, by simpa using hI⟩, by simp [upTo]; omega⟩
        · rw [if_neg h2] at hI
          refine fun _ => ⟨_, hR2, by omega, by omega, fun a3 c3 H3 hG3 hR3 => ?_⟩
          rintro r rfl
          rw [wrap_small (by omega) (by omega)]
          refine ⟨⟨out ++ [⟨n, v⟩, p], a3, c3, true, i + 1, by simp, ?_, by omega, ?_, by simpa using hI⟩, by simp [upTo]; omega⟩
          · have : (out ++ [⟨n, v⟩, p]).flatMap pinCells = out.flatMap pinCells ++ [i64 n, i64 v] ++ [i64 p.name, i64 p.ver] := by simp [pinCells]
            rw [this]; simpa using hR3
          · simp at hol ⊢; omega
      · rw [if_neg h1] at hI
        refine fun _ => ⟨_, hR, by omega, by omega, fun a2 c2 H2 hG hR2 => ?_⟩
        rintro r rfl
        rw [wrap_small (by omega) (by omega)]
        exact ⟨⟨out ++ [p], a2, c2, false, i + 1, by simp, by rw [app]; simpa using hR2, by omega, by simp at hol ⊢; omega, by simpa using hI⟩, by simp [upTo]; omega⟩
    · obtain rfl : b = true := by simpa using hb'
      refine fun _ => ⟨_, hR, by omega, by omega, fun a2 c2 H2 hG hR2 => ?_⟩
      rintro r rfl
      rw [wrap_small (by omega) (by omega)]
      exact ⟨⟨out ++ [p], a2, c2, true, i + 1, by simp, by rw [app]; simpa using hR2, by omega, by simp at hol ⊢; omega, by simpa using hI⟩, by simp [upTo]; omega⟩
  · subst hb'
    rw [drop_all hx.len (by omega), up] at hI
    refine fun _ => ⟨_, hR, by omega, by omega, fun a2 c2 H2 hG hR2 => ⟨_, _, _, rfl, ?_⟩⟩
    rw [← hI]
    exact sl_of_rowE pinCells_len (by omega) (by simp only [Bool.false_eq_true, if_false]; rw [app]; simpa using hR2)
  · obtain rfl : b = true := by simpa using hb'
    rw [drop_all hx.len (by omega)] at hI
    refine ⟨_, _, _, rfl, ?_⟩
    rw [← hI]
    exact sl_of_rowE pinCells_len (by omega) (by simpa using hR)
end Go.Vg
set_option linter.unusedSimpArgs false
set_option maxRecDepth 100000
set_option linter.unusedVariables false
namespace Go.Vg
open Go Go.Proofs
theorem drop_eq_iff {α : Type} {xs ys : List α} {k : Nat} {p q : α} (hp : xs[k]? = some p) (hq : ys[k]? = some q) : (xs.drop k = ys.drop k) ↔ (p = q ∧ xs.drop (k + 1) = ys.drop (k + 1)) := by
  rw [drop_at hp, drop_at hq]; simp
theorem cEqPins {H : Heap} {a a' : Option Addr} {l c l' c' : Nat} {xs ys : List Pin} (hx : Pins H a l xs) (hy : Pins H a' l' ys) :
    Spec Try.prog 41 [.slice a l c, .slice a' l' c'] H fun v _ => v = .bool (decide (xs = ys)) := by
  refine Tryvc Try.func41 (by kernel_rfl) (by kernel_rfl) _ rfl (fun base K => vc41 a a' l c l' c' base H K) fun base hb => ?_
  have hxl := hx.len
  have hyl := hy.len
  have hle := hx.le
  refine ⟨fun hne => ?_, fun he => ?_⟩
  · rw [decide_eq_false]; rintro rfl; omega
  · refine ⟨fun vs _ => ∃ (b : Bool) (k : Nat), vs = [.bool b, i64 k] ∧ k ≤ l ∧ (xs.drop k = ys.drop k ↔ xs = ys), upTo l 1, ⟨false, 0, rfl, by omega, by simp⟩, fun b n H' hN hI => ?_⟩
    obtain ⟨b', k, hvs, hk, hI⟩ := hI
    obtain ⟨rfl, rfl⟩ : b = b' ∧ n = (k : Int) := by simpa using hvs
    refine ⟨fun hlt => hx.pin hN.ext (by omega) hlt fun p hp => hy.pin hN.ext (by omega) (by omega) fun q hq => ⟨_, neq48 _ _ _ _, fun h => ?_, fun h => ?_⟩, fun hge => ?_⟩
    · rw [Int.toNat_natCast] at hp hq
      rw [drop_eq_iff hp hq] at hI
      rw [decide_eq_false]
      intro e
      obtain ⟨rfl, _⟩ := hI.2 e
      simp at h
    · rw [Int.toNat_natCast] at hp hq
      rw [drop_eq_iff hp hq] at hI
      have hpq : p = q := by
        cases p; cases q; simp at h; simp [h]
      rintro r rfl
      rw [wrap_in (by omega) (by omega)]
      exact ⟨⟨b, k + 1, rfl, by omega, by rw [← hI]; simp [hpq]⟩, by simp [upTo]; omega⟩
    · rw [decide_eq_true]
      exact hI.1 (by rw [drop_all hxl (by omega), drop_all hyl (by omega)])
/-! ### rule.Mend -/
def mendedN (rs : List Rule) (n : Nat) (l : List Pin) : Except Int (List Pin) := if brokenErr l rs = 0 then mend rs n l else .error (brokenErr l rs)
theorem pins_of_row {base : Nat} {H : Heap} {e : TypeId} {a : Option Addr} {n c : Nat} {xs : List Pin} (h : Row base H e 2 a n c (xs.flatMap pinCells)) : Pins H a n xs := sl_of_rowE pinCells_len (by omega) h
theorem one_pins (xs : List Pin) : allOne (xs.flatMap pinCells) = true := allOne_flat (fun _ => rfl) xs
theorem one_rules (xs : List Rule) : allOne (xs.flatMap ruleCells) = true := allOne_flat (fun _ => rfl) xs
theorem cMend {H : Heap} {a a' : Option Addr} {l c l' c' : Nat} {xs : List Pin} {rs : List Rule} (hx : Pins H a l xs) (hr : Rules H a' l' rs) :
    Spec Try.prog 35 [.slice a l c, .slice a' l' c'] H fun v H' => ∃ a n c, v = .tuple #[.slice a n c, i64 (errOf (mended xs rs))] ∧ Pins H' a n (okL (mended xs rs)) := by
  refine Tryvc Try.func35 (by kernel_rfl) (by kernel_rfl) _ rfl (fun base K => vc35 a a' l c l' c' base H K) fun base hb => ?_
  have hrl := hr.len
  refine ⟨fun vs Hc => ∃ (cur : List Pin) (a1 : Option Addr) (n1 c1 : Nat) (a2 : Option Addr) (n2 c2 : Nat) (d : Int) (k : Nat), vs = [.slice a1 n1 c1, .slice a2 n2 c2, i64 d, i64 k] ∧ Pins Hc a1 n1 cur ∧ k ≤ 1981 ∧ (0 < k → brokenErr cur rs = 0) ∧ mendedN rs (1981 - k) cur = mended xs rs,
    upTo 1981 3, ⟨xs, a, l, c, none, 0, 0, 0, 0, rfl, hx, by omega, by omega, rfl⟩, fun a1 n1 c1 a2 n2 c2 d n H' hN hI => ?_⟩
  obtain ⟨cur, a1', n1', c1', a2', n2', c2', d', k, hvs, hP, hk, hk0, hI⟩ := hI
  obtain ⟨⟨rfl, rfl, rfl⟩, ⟨rfl, rfl, rfl⟩, rfl, rfl⟩ : (a1 = a1' ∧ n1 = n1' ∧ c1 = c1') ∧ (a2 = a2' ∧ n2 = n2' ∧ c2 = c2') ∧ d = d' ∧ n = (k : Int) := by simpa using hvs
  have hr' := hr.ext' hN.ext
  refine ⟨fun hlt => (cBroken hP hr').int2 fun H1 e1 hN1 => ⟨fun h1 => ?_, fun h1 => ⟨fun h2 => ?_, fun h2 => ?_⟩⟩, fun hge => ?_⟩
  · rw [mendedN, if_neg h1] at hI
    exact ⟨none, 0, 0, by rw [← hI]; rfl, by rw [← hI]; exact Sl.nil⟩
  all_goals try
    (have h1 := Decidable.not_not.1 h1
     rw [mendedN, if_pos h1] at hI
     rw [broken, if_pos h1] at h2
     obtain ⟨⟨hLk, h12⟩, hr10, hRok⟩ := brokenErr_zero.1 h1
     obtain ⟨m, hm⟩ : ∃ m, 1981 - k = m + 1 := ⟨1980 - k, by omega⟩
     rw [hm] at hI)
  · rw [mend, if_pos h2] at hI
    intro g H2 hN2 _ hg
    have hP2 := (hP.ext' e1).ext' hN2.ext
    have hPl := hP2.len
    obtain ⟨hc1, hc2⟩ := hP2.cells pinCells_len (Ext.refl _)
    refine ⟨[], cur.flatMap pinCells, ⟨rfl, by omega, by decide, .inl ⟨rfl, rfl⟩⟩, hc1, one_pins cur, hc2, by omega, by omega, fun a3 c3 H3 hG hR => ?_⟩
    rw [List.nil_append] at hR
    refine ⟨a3, 0 + n1, c3, by rw [← hI]; rfl, ?_⟩
    rw [← hI]
    exact pins_of_row hR
  · rcases mend_step hRok hLk (n := m) with ⟨g1, g2, g3⟩ | ⟨j, r, g1, g2, gm, g3, g4, g5, g6, g7⟩
    · omega
    · rw [g7] at hI
      have hj := (List.getElem?_eq_some_iff.1 g2).1
      have hb1 : broken cur rs = (j : Int) := by rw [broken, if_pos h1, g1]
      rw [hb1]
      have hrd : rs[(j : Int).toNat]? = some r := by rw [Int.toNat_natCast]; exact g2
      refine hr'.ruleWith e1 (by omega) (by omega) fun r1 q1 => hr'.ruleLeast e1 (by omega) (by omega) fun r2 q2 => ?_
      rw [hrd] at q1 q2
      obtain rfl := Option.some.inj q1
      obtain rfl := Option.some.inj q2
      refine (cUp (hP.ext' e1) h12 r.wth r.least).sl1 fun a3 n3 c3 H3 e3 hN3 hP3 => ⟨fun h4 => ?_, fun h4 => ?_⟩
      · rw [if_pos (by have := hP3.len; omega)] at hI
        exact ⟨none, 0, 0, by rw [← hI]; rfl, by rw [← hI]; exact Sl.nil⟩
      · have hl3 := hP3.len
        rw [if_neg (by omega)] at hI
        rintro r' rfl
        rw [wrap_small (by omega) (by omega)]
        have hz : brokenErr (up r.wth r.least cur) rs = 0 := brokenErr_zero.2 ⟨⟨g4, by omega⟩, hr10, hRok⟩
        refine ⟨⟨up r.wth r.least cur, a3, n3, c3, a2, n2, c2, d, k + 1, rfl, hP3, by omega, fun _ => hz, ?_⟩, by simp [upTo]; omega⟩
        rw [mendedN, if_pos hz, show 1981 - (k + 1) = m from by omega]; exact hI
  · have h1 := hk0 (by omega)
    rw [mendedN, if_pos h1, show 1981 - k = 0 from by omega, mend] at hI
    exact ⟨none, 0, 0, by rw [← hI]; rfl, by rw [← hI]; exact Sl.nil⟩
/-! ### Tables -/
def tabCells (l : List Pin) : List Value := (tabI l).map i64
theorem tabCells_len (l : List Pin) : (tabCells l).length = 21 := by simp [tabCells, tabI]
theorem allOne_ints : ∀ l : List Int, allOne (l.map i64) = true
  | [] => rfl
  | x :: r => by simp only [List.map_cons, allOne, Bool.and_eq_true]; exact ⟨rfl, allOne_ints r⟩
theorem tabCells_one (l : List Pin) : allOne (tabCells l) = true := allOne_ints _
theorem tabCells_at (l : List Pin) {i : Nat} (hi : i < 21) : (tabCells l)[i]? = some (i64 (find l i)) := by rw [tabCells, List.getElem?_map, tabI_at l hi]; rfl
def tabSet : List Value → List Pin → List Value
  | cs, [] => cs
  | cs, p :: r => tabSet (cs.set (0 + p.name.toNat * 1) (i64 p.ver)) r
theorem tabSet_map : ∀ (xs : List Pin), Lk xs → ∀ f : Nat → Int, tabSet ((List.range 21).map fun n => i64 (f n)) xs = (List.range 21).map fun n : Nat => i64 (if find xs n = 0 then f n else find xs n)
  | [], _, f => by simp [tabSet, find]
  | p :: r, h, f => by
    have hp := h.name (p := p) List.mem_cons_self
    have e : ((List.range 21).map fun n => i64 (f n)).set (0 + p.name.toNat * 1) (i64 p.ver) = (List.range 21).map fun n : Nat => i64 (if (n : Int) = p.name then p.ver else f n) := by
      apply List.ext_getElem?
      intro i
      rw [List.getElem?_set]
      simp only [List.length_map, List.length_range, List.getElem?_map, Nat.zero_add, Nat.mul_one]
      by_cases hi : i < 21
      · rw [List.getElem?_range hi]
        split
        · rename_i e; rw [if_pos (by omega)]; simp; intro h; omega
        · simp; intro h; omega
      · rw [if_neg (by omega), List.getElem?_eq_none (by simp; omega)]; rfl
    rw [tabSet, e, tabSet_map r h.tail]
    apply List.map_congr_left
    intro n hn
    have hz : find r p.name = 0 := find_none fun x hx => by have := h.head x hx; omega
    by_cases e2 : (n : Int) = p.name
    · rw [e2, hz, if_pos rfl, if_pos rfl, find, if_pos rfl, if_neg (by omega)]
    · simp only [find, if_neg e2, if_neg (fun h : p.name = (n : Int) => e2 h.symm)]
theorem tabSet_zero {xs : List Pin} (h : Lk xs) : tabSet (List.replicate 21 (i64 0)) xs = tabCells xs := by
  have := tabSet_map xs h (fun _ => 0)
  rw [show ((List.range 21).map fun _ => i64 0) = List.replicate 21 (i64 0) from rfl] at this
  rw [this, tabCells, tabI, List.map_map]
  apply List.map_congr_left
  intro n _
  simp only [Function.comp_apply]
  split
  · rename_i e; rw [e]
  · rfl
theorem cTable {H : Heap} {a : Option Addr} {l c : Nat} {xs : List Pin} (hx : Pins H a l xs) (hL : Lk xs) : Spec Try.prog 109 [.slice a l c] H fun v _ => v = .agg (tabCells xs).toArray := by
  refine Tryvc Try.func109 (by kernel_rfl) (by kernel_rfl) _ rfl (fun base K => vc109 a l c base H K) fun base hb => ?_
  have hle := hx.le
  intro _ _
  refine ⟨rfl, fun vs _ => ∃ (cs : List Value) (i : Nat), vs = [i64 i, .agg cs.toArray] ∧ i ≤ l ∧ tabSet cs (xs.drop i) = tabCells xs, upTo l 0, ⟨List.replicate 21 (i64 0), 0, rfl, by omega, tabSet_zero hL⟩, fun n cs hcs H' hN hI => ?_⟩
  obtain ⟨cs', i, hvs, hi, hI⟩ := hI
  obtain ⟨rfl, rfl⟩ : n = (i : Int) ∧ cs = cs' := by simpa using hvs
  refine ⟨fun hlt => hx.pin hN.ext (by omega) hlt fun p hp => ?_, fun hge => ?_⟩
  · rw [Int.toNat_natCast] at hp
    rw [drop_at hp, tabSet] at hI
    have hn := hL.name (List.mem_of_getElem? hp)
    intro _
    refine ⟨by omega, by omega, by omega, ?_⟩
    rintro r rfl
    rw [wrap_in (by omega) (by omega)]
    exact ⟨by simp [hcs], rfl, ⟨_, i + 1, rfl, by omega, hI⟩, by simp [upTo]; omega⟩
  · rw [drop_all hx.len (by omega), tabSet] at hI
    subst hI
    exact ⟨hcs, hcs, tabCells_one xs, rfl, hcs, rfl⟩
theorem cLockOf {H : Heap} {t : List Int} (ht : t.length = 21) : Spec Try.prog 112 [.agg (t.map i64).toArray] H fun v H' => ∃ a n c, v = .slice a n c ∧ Pins H' a n (lockOfFrom 0 t) := by
  refine Tryvc Try.func112 (by kernel_rfl) (by kernel_rfl) _ rfl (fun base K => vc112 (t.map i64) base H K) fun base hb => ?_
  intro _
  refine ⟨by simp [ht], fun vs Hc => ∃ (out : List Pin) (a : Option Addr) (c i : Nat), vs = [.slice a out.length c, i64 i] ∧ Row base Hc 48 2 a out.length c (out.flatMap pinCells) ∧ i ≤ 21 ∧ out.length ≤ i ∧ out ++ lockOfFrom i (t.drop i) = lockOfFrom 0 t,
    upTo 21 1, ⟨[], none, 0, 0, rfl, Row.nil, by omega, by simp, rfl⟩, fun a1 n1 c1 m H' hN hI => ?_⟩
  obtain ⟨out, a1', c1', i, hvs, hR, hi, hol, hI⟩ := hI
  obtain ⟨⟨rfl, rfl, rfl⟩, rfl⟩ : (a1 = a1' ∧ n1 = out.length ∧ c1 = c1') ∧ m = (i : Int) := by simpa using hvs
  have hget : i < 21 → t[i]? = some (t.getD i 0) := fun h => by rw [List.getD_eq_getElem?_getD, List.getElem?_eq_getElem (by omega)]; rfl
  refine ⟨fun hlt => ⟨by omega, hlt, (t.getD i 0), ?_, fun h => ?_, fun h => ?_⟩, fun hge => ?_⟩
  · show (t.map i64)[((i : Int).toNat * 1)]? = _
    rw [Int.toNat_natCast, Nat.mul_one, List.getElem?_map, hget (by omega)]; rfl
  · rw [drop_at (hget (by omega)), lockOfFrom, if_pos h] at hI
    refine fun _ => ⟨_, hR, by omega, by omega, fun a2 c2 H2 hG hR2 => ?_⟩
    rintro r rfl
    rw [wrap_small (by omega) (by omega)]
    refine ⟨rfl, ⟨out ++ [⟨(i : Int), (t.getD i 0)⟩], a2, c2, i + 1, by simp, ?_, by omega, by simp; omega, by simpa using hI⟩, by simp [upTo]; omega⟩
    have : (out ++ [(⟨(i : Int), (t.getD i 0)⟩ : Pin)]).flatMap pinCells = out.flatMap pinCells ++ [i64 i, i64 ((t.getD i 0))] := by simp [pinCells]
    rw [this]; simpa using hR2
  · rw [drop_at (hget (by omega)), lockOfFrom, if_neg h] at hI
    rintro r rfl
    rw [wrap_small (by omega) (by omega)]
    exact ⟨rfl, ⟨out, a1, c1, i + 1, rfl, hR, by omega, by omega, by simpa using hI⟩, by simp [upTo]; omega⟩
  · rw [drop_all ht (by omega), lockOfFrom, List.append_nil] at hI
    exact ⟨_, _, _, rfl, by rw [← hI]; exact pins_of_row hR⟩
/-! ### FirstBroken -/
theorem cRefBrokenIdx {H : Heap} {a : Option Addr} {l c : Nat} {xs : List Pin} {rs : List Rule} (hr : Rules H a l rs) (hok : Rok rs) {p : Nat} (hp : H p = some (boxKB 138 (tabCells xs))) :
    Spec Try.prog 110 [.slice a l c, .func (.func 111) #[] #[.pointer (some ⟨p, 0, none⟩)]] H fun v _ => v = i64 (brokenFrom xs 0 rs) := by
  have h111 : ∀ {H : Heap} {r : Rule}, H p = some (boxKB 138 (tabCells xs)) → ¬ badRule r → Spec Try.prog 111 [.agg #[.int .i64 r.name, .int .i64 r.ver, .int .i64 r.wth, .int .i64 r.least], .pointer (some ⟨p, 0, none⟩)] H fun v _ => v = .bool (decide (breaks xs r)) := by
    intro H r hp hb
    unfold badRule at hb
    have rd : ∀ k : Int, 0 ≤ k → k < 21 → H.cell p (0 + k.toNat * 1) = some (.int .i64 (find xs k)) := fun k h0 h1 => by
      unfold Heap.cell
      rw [hp]
      show (tabCells xs)[0 + k.toNat * 1]? = _
      rw [Nat.zero_add, Nat.mul_one, tabCells_at xs (by omega), show (k.toNat : Int) = k from by omega]
    refine Tryvc Try.func111 (by kernel_rfl) (by kernel_rfl) _ rfl (fun base K => vc111 r.name r.ver r.wth r.least p base H K) fun base hb => ?_
    intro _
    refine ⟨by omega, by omega, _, rd _ (by omega) (by omega), fun h => ⟨by omega, by omega, _, rd _ (by omega) (by omega), ?_⟩, fun h => ?_⟩
    · simp [breaks, h]
    · simp [breaks, h]
  refine Tryvc Try.func110 (by kernel_rfl) (by kernel_rfl) _ rfl (fun base K => vc110 a l c p base H K) fun base hb => ?_
  have hle := hr.le
  refine ⟨fun vs _ => ∃ (d : Int) (i : Nat), vs = [i64 d, i64 i] ∧ i ≤ l ∧ brokenFrom xs i (rs.drop i) = brokenFrom xs 0 rs, upTo l 1, ⟨0, 0, rfl, by omega, rfl⟩, fun d n H' hN hI => ?_⟩
  obtain ⟨d', i, hvs, hi, hI⟩ := hI
  obtain ⟨rfl, rfl⟩ : d = d' ∧ n = (i : Int) := by simpa using hvs
  refine ⟨fun hlt => hr.rule hN.ext (by omega) hlt fun q hq => ?_, fun hge => ?_⟩
  · rw [Int.toNat_natCast] at hq
    rw [drop_at hq, brokenFrom] at hI
    refine (h111 (hN.ext _ _ hp) (hok q (List.mem_of_getElem? hq)).1).bool1 fun H2 _ _ => ⟨fun h => ?_, fun h => ?_⟩
    · rw [if_pos (by simpa using h)] at hI; rw [← hI]
    · rw [if_neg (by simpa using h)] at hI
      rintro r rfl
      rw [wrap_in (by omega) (by omega)]
      exact ⟨⟨_, i + 1, rfl, by omega, hI⟩, by simp [upTo]; omega⟩
  · rw [← hI, drop_all hr.len (by omega), brokenFrom]
theorem cRefBroken {H : Heap} {a a' : Option Addr} {l c l' c' : Nat} {xs : List Pin} {rs : List Rule} (hx : Pins H a l xs) (hr : Rules H a' l' rs) :
    Spec Try.prog 36 [.slice a l c, .slice a' l' c'] H fun v _ => v = .tuple #[i64 (broken xs rs), i64 (brokenErr xs rs)] := by
  refine Tryvc Try.func36 (by kernel_rfl) (by kernel_rfl) _ rfl (fun base K => vc36 a a' l c l' c' base H K) fun base hb => ?_
  refine (cRefLockCheck hx).int1 fun H1 e1 hN1 => ⟨fun h => ?_, fun h => (cRefRuleCheck (hr.ext' e1)).int1 fun H2 e2 hN2 => ⟨fun h2 => ?_, fun h2 => ?_⟩⟩
  · have e : brokenErr xs rs = lockCheck xs := by rw [brokenErr, if_neg h]
    rw [broken, e, if_neg h]
  · have e : brokenErr xs rs = rulesCheck rs := by rw [brokenErr, if_pos (Decidable.not_not.1 h)]
    rw [broken, e, if_neg h2]
  have h := Decidable.not_not.1 h
  have h2 := Decidable.not_not.1 h2
  have e : brokenErr xs rs = 0 := by rw [brokenErr, if_pos h]; exact h2
  rw [broken, if_pos e, e]
  refine (cTable ((hx.ext' e1).ext' e2) (lockCheck_zero.1 h).1).mono fun v H3 e3 hv => ⟨_, tabCells_len xs, hv, fun hN3 b => ⟨tabCells_len xs, tabCells_one xs, rfl, rfl, fun Hl hNl hb => ?_⟩⟩
  refine (cRefBrokenIdx ((((hr.ext' e1).ext' e2).ext' e3).ext' hNl.ext) (rulesCheck_zero.1 h2).2 hb.1).mono fun v H4 e4 hv => ⟨_, hv, fun H' hN _ => rfl⟩
/-! ### Mended -/
theorem tabCells_inj {x y : List Pin} (hx : Lk x) (hy : Lk y) (h : tabCells x = tabCells y) : x = y := by
  refine hx.ext hy fun n => ?_
  by_cases hn : n < 1 ∨ 20 < n
  · rw [hx.find_out hn, hy.find_out hn]
  · have e1 := tabCells_at x (i := n.toNat) (by omega)
    have e2 := tabCells_at y (i := n.toNat) (by omega)
    rw [h, e2] at e1
    rw [show (n.toNat : Int) = n from by omega] at e1
    simpa using e1.symm
open Classical in
noncomputable def tabMeas (vs : List Value) : Nat := if h : ∃ cur, Lk cur ∧ vs[3]? = some (.agg (tabCells cur).toArray) then (1981 - weight h.choose).toNat else 0
theorem tabMeas_eq {cur : List Pin} (h : Lk cur) (x y z : Value) : tabMeas [x, y, z, .agg (tabCells cur).toArray] = (1981 - weight cur).toNat := by
  unfold tabMeas
  have hex : ∃ c, Lk c ∧ [x, y, z, Value.agg (tabCells cur).toArray][3]? = some (.agg (tabCells c).toArray) := ⟨cur, h, rfl⟩
  rw [dif_pos hex]
  have hc := hex.choose_spec
  have : tabCells cur = tabCells hex.choose := by simpa using hc.2
  rw [← tabCells_inj h hc.1 this]
theorem tabCells_up {l : List Pin} (hl : Lk l) {n v : Int} (hn : 1 ≤ n ∧ n ≤ 20) : (tabCells l).set (0 + n.toNat * 1) (i64 v) = tabCells (up n v l) := by
  rw [Nat.zero_add, Nat.mul_one, tabCells, tabCells, ← tab_set hl hn, List.map_set]
theorem cLockOfTab {H : Heap} {l : List Pin} (h : Lk l) : Spec Try.prog 112 [.agg (tabCells l).toArray] H fun v H' => ∃ a n c, v = .slice a n c ∧ Pins H' a n l := by
  have := cLockOf (H := H) (t := tabI l) (by simp [tabI])
  rw [lockOf_tab h] at this
  exact this
theorem cMended {H : Heap} {a a' : Option Addr} {l c l' c' : Nat} {xs : List Pin} {rs : List Rule} (hx : Pins H a l xs) (hr : Rules H a' l' rs) :
    Spec Try.prog 37 [.slice a l c, .slice a' l' c'] H fun v H' => ∃ a n c, v = .tuple #[.slice a n c, i64 (errOf (mended xs rs))] ∧ Pins H' a n (okL (mended xs rs)) := by
  refine Tryvc Try.func37 (by kernel_rfl) (by kernel_rfl) _ rfl (fun base K => vc37 a a' l c l' c' base H K) fun base hb => ?_
  have hrl := hr.len
  refine (cRefBroken hx hr).int2 fun H1 e1 hN1 => ⟨fun h => ?_, fun h => ?_⟩
  · have e : mended xs rs = .error (brokenErr xs rs) := by rw [mended, if_neg h]
    rw [e]; exact ⟨none, 0, 0, rfl, Sl.nil⟩
  have h0 := Decidable.not_not.1 h
  have e : mended xs rs = mend rs 1981 xs := by rw [mended, if_pos h0]
  obtain ⟨⟨hLk0, h12⟩, hr10, hRok⟩ := brokenErr_zero.1 h0
  rw [e]
  refine (cTable (hx.ext' e1) hLk0).mono fun v H2 e2 hv => ⟨_, tabCells_len xs, hv, fun hN2 b => ⟨tabCells_len xs, tabCells_one xs, rfl, tabCells_len xs, ?_⟩⟩
  refine ⟨fun vs _ => ∃ (cur : List Pin) (fuel : Nat) (x y : Value), vs = [x, y, i64 (brokenFrom cur 0 rs), .agg (tabCells cur).toArray] ∧ Lk cur ∧ cur.length ≤ 12 ∧ mend rs fuel cur = mend rs 1981 xs ∧ 1981 ≤ weight cur + fuel, tabMeas,
    ⟨xs, 1981, _, _, by rw [broken, if_pos h0], hLk0, h12, rfl, by have := weight_nonneg hLk0; omega⟩, fun a1 n1 c1 d k cs hcs H' hN hI => ?_⟩
  obtain ⟨cur, fuel, x, y, hvs, hLk, hlen, hI, hw⟩ := hI
  simp only [List.cons.injEq, Value.int.injEq, true_and, and_true, Value.agg.injEq] at hvs
  obtain ⟨rfl, rfl, rfl, hcs'⟩ := hvs
  obtain rfl : cs = tabCells cur := by simpa using hcs'
  have hr' := hr.ext' hN.ext
  obtain ⟨m, rfl⟩ : ∃ m, fuel = m + 1 := by
    cases fuel with
    | zero => have := hLk.weight; omega
    | succ m => exact ⟨m, rfl⟩
  rcases mend_step hRok hLk (n := m) with ⟨g1, g2, g3⟩ | ⟨j, r, g1, g2, gm, g3, g4, g5, g6, g7⟩
  · refine ⟨fun hge => absurd hge (by omega), fun _ => ⟨tabCells_len cur, ?_⟩⟩
    refine (cLockOfTab hLk).sl1 fun a3 n3 c3 H3 e3 hN3 hP => ⟨a3, n3, c3, ?_, ?_⟩
    · rw [← hI, g3]; rfl
    · rw [← hI, g3]; exact hP
  · refine ⟨fun hge => ?_, fun h => absurd (by omega) h⟩
    have hj := (List.getElem?_eq_some_iff.1 g2).1
    rw [g7] at hI
    have hs := hRok.least gm
    refine hr.ruleWith hN.ext (by omega) (by omega) fun r1 q1 => hr.ruleLeast hN.ext (by omega) (by omega) fun r2 q2 => ?_
    have hrd : rs[(brokenFrom cur 0 rs).toNat]? = some r := by rw [g1, Int.toNat_natCast]; exact g2
    rw [hrd] at q1 q2
    obtain rfl := Option.some.inj q1
    obtain rfl := Option.some.inj q2
    have hset := tabCells_up hLk (n := r.wth) (v := r.least) hs.1
    refine ⟨by omega, by omega, by rw [tabCells_len]; omega, by rw [List.length_set]; exact tabCells_len cur, ?_⟩
    have hset' : (tabCells cur).set (0 + r.wth.toNat * 1) (Value.int .i64 r.least) = tabCells (up r.wth r.least cur) := hset
    rw [hset']
    refine (cLockOfTab g4).sl1 fun a3 n3 c3 H3 e3 hN3 hP3 => ⟨fun h4 => ?_, fun h4 => ⟨tabCells_len _, ?_⟩⟩
    · rw [if_pos (by have := hP3.len; omega)] at hI
      exact ⟨none, 0, 0, by rw [← hI]; rfl, by rw [← hI]; exact Sl.nil⟩
    · have hl3 := hP3.len
      rw [if_neg (by omega)] at hI
      refine (cLockOfTab g4).sl1 fun a4 n4 c4 H4 e4 hN4 hP4 => ?_
      refine (cRefBroken hP4 ((hr'.ext' e3).ext' e4)).int2 fun H5 e5 hN5 => ⟨tabCells_len _, ⟨up r.wth r.least cur, m, .slice a1 n1 c1, i64 d, ?_, g4, by omega, hI, by omega⟩, ?_⟩
      · rw [broken, if_pos (brokenErr_zero.2 ⟨⟨g4, by omega⟩, hr10, hRok⟩)]
      · rw [tabMeas_eq g4, tabMeas_eq hLk]
        have := g4.weight
        omega
/-! ### The laws -/
theorem cRuled {H : Heap} : Spec Try.prog 38 [] H fun v _ => v = .bool true := by
  refine Tryvc Try.func38 (by kernel_rfl) (by kernel_rfl) _ rfl (fun base K => vc38 base H K) fun base hb => ?_
  intro g1 H1 hN1 _ hg1 g2 H2 hN2 _ hg2
  let rs : List Rule := [⟨1, 2, 3, 5⟩, ⟨3, 4, 6, 1⟩]
  let ls : List Pin := [⟨1, 2⟩, ⟨3, 1⟩]
  have b1 : Rules H2 (some ⟨g1, 0, none⟩) 2 rs := sl_of_boxE ruleCells_len (xs := rs) (hN2.ext _ _ hg1) rfl (by decide)
  have b2 : Pins H2 (some ⟨g2, 0, none⟩) 2 ls := sl_of_boxE pinCells_len (xs := ls) hg2 rfl (by decide)
  have hm : mended ls rs = .ok [⟨1, 2⟩, ⟨3, 5⟩, ⟨6, 1⟩] := by rfl
  refine (cBroken b2 b1).int2 fun H3 e3 hN3 => (cMend (b2.ext' e3) (b1.ext' e3)).sl2 fun a4 n4 c4 H4 e4 hN4 hP => ?_
  rw [hm] at hP ⊢
  refine (cBroken hP ((b1.ext' e3).ext' e4)).int2 fun H5 e5 hN5 => ?_
  refine ⟨fun _ => ⟨fun _ => ⟨fun _ => ⟨fun _ => ⟨fun _ => ?_, fun h => absurd (by decide) h⟩, fun h => absurd (by decide) h⟩, fun h => absurd (by decide) h⟩, fun h => absurd rfl h⟩, fun h => absurd (by decide) h⟩
  intro g6 H6 hN6 _ hg6
  have b6 : Pins H6 (some ⟨g6, 0, none⟩) 3 [⟨1, 2⟩, ⟨3, 5⟩, ⟨6, 1⟩] := sl_of_boxE pinCells_len (xs := [⟨1, 2⟩, ⟨3, 5⟩, ⟨6, 1⟩]) hg6 rfl (by decide)
  exact (cEqPins ((hP.ext' e5).ext' hN6.ext) b6).bool1 fun H7 _ _ => by simp [okL]
theorem cRuleSays {H : Heap} {a a' : Option Addr} {l c l' c' : Nat} {xs : List Pin} {rs : List Rule} (hx : Pins H a l xs) (hr : Rules H a' l' rs) :
    Spec Try.prog 6 [.slice a l c, .slice a' l' c'] H fun v _ => v = .bool true := by
  refine Tryvc Try.func6 (by kernel_rfl) (by kernel_rfl) _ rfl (fun base K => vc6 a a' l c l' c' base H K) fun base hb => ?_
  refine (cBroken hx hr).int2 fun H1 e1 _ => (cMend (hx.ext' e1) (hr.ext' e1)).sl2 fun a2 n2 c2 H2 e2 _ hP2 => ?_
  have x2 := (hx.ext' e1).ext' e2
  have r2 := (hr.ext' e1).ext' e2
  refine (cRefBroken x2 r2).int2 fun H3 e3 _ => (cMended (x2.ext' e3) (r2.ext' e3)).sl2 fun a4 n4 c4 H4 e4 _ hP4 => ?_
  have r4 := (r2.ext' e3).ext' e4
  refine cRuled.bool1 fun H5 e5 _ => ⟨fun _ => ?_, fun h => by simp at h⟩
  refine (cRuleCheck (r4.ext' e5)).int1 fun H6 e6 _ => (cRefRuleCheck ((r4.ext' e5).ext' e6)).int1 fun H7 e7 _ => ⟨fun _ => ⟨fun _ => ⟨fun _ => ⟨fun _ => ?_, fun h => absurd rfl h⟩, fun h => absurd rfl h⟩, fun h => absurd rfl h⟩, fun h => absurd rfl h⟩
  refine (cEqPins ((((((hP2.ext' e3).ext' e4).ext' e5).ext' e6).ext' e7)) (((hP4.ext' e5).ext' e6).ext' e7)).bool1 fun H8 _ _ => ?_
  rw [decide_eq_true rfl]
end Go.Vg
set_option linter.unusedSimpArgs false
set_option maxRecDepth 100000
set_option linter.unusedVariables false
namespace Go.Vg
open Go Go.Proofs
def boolIdx (f : Int → Bool) : Int → List Int → Int
  | _, [] => -1
  | i, x :: r => if f x then i else boolIdx f (i + 1) r
theorem boolIdx_any (f : Int → Bool) : ∀ (l : List Int) (i : Int), 0 ≤ i → (0 ≤ boolIdx f i l ↔ l.any f = true)
  | [], i, _ => by simp [boolIdx]
  | x :: r, i, h => by
    unfold boolIdx
    split
    · rename_i e; simp [h, e]
    · rename_i e; rw [boolIdx_any f r (i + 1) (by omega)]; simp [e]
theorem cNotThrough {H : Heap} {a a' : Option Addr} {l c l' c' : Nat} {w : List Int} {th : List Bool} {p : Nat} (hw : Sl RInt 1 H a l w) (ht : Sl RBool 1 H a' l' th) (hp : H.cell p 0 = some (.slice a' l' c')) (hin : ∀ x ∈ w, 0 ≤ x ∧ x < l') :
    Spec Try.prog 30 [.slice a l c, .func (.func 31) #[] #[.pointer (some ⟨p, 0, none⟩)]] H fun v _ => v = .bool (w.any (notThrough th)) := by
  have h31 : ∀ {H : Heap} {x : Int}, Sl RBool 1 H a' l' th → H.cell p 0 = some (.slice a' l' c') → 0 ≤ x ∧ x < l' → Spec Try.prog 31 [i64 x, .pointer (some ⟨p, 0, none⟩)] H fun v _ => v = .bool (notThrough th x) := by
    intro H x ht hp hx
    refine Tryvc Try.func31 (by kernel_rfl) (by kernel_rfl) _ rfl (fun base K => vc31 x p base H K) fun base hb => ⟨a', l', c', hp, ht.bool (Ext.refl _) hx.1 hx.2 fun y hy => ?_⟩
    cases y <;> simp [notThrough, hy]
  have h106 : Spec Try.prog 106 [.slice a l c, .func (.func 31) #[] #[.pointer (some ⟨p, 0, none⟩)]] H fun v _ => v = i64 (boolIdx (notThrough th) 0 w) := by
    refine Tryvc Try.func106 (by kernel_rfl) (by kernel_rfl) _ rfl (fun base K => vc106 a l c p base H K) fun base hb => ?_
    have hle := hw.le
    refine ⟨fun vs _ => ∃ (d : Int) (i : Nat), vs = [i64 d, i64 i] ∧ i ≤ l ∧ boolIdx (notThrough th) i (w.drop i) = boolIdx (notThrough th) 0 w, upTo l 1, ⟨0, 0, rfl, by omega, rfl⟩, fun d n H' hN hI => ?_⟩
    obtain ⟨d', i, hvs, hi, hI⟩ := hI
    obtain ⟨rfl, rfl⟩ : d = d' ∧ n = (i : Int) := by simpa using hvs
    refine ⟨fun hlt => hw.int hN.ext (by omega) hlt fun x hx => ?_, fun hge => ?_⟩
    · rw [Int.toNat_natCast] at hx
      rw [drop_at hx, boolIdx] at hI
      refine (h31 (ht.ext RBool.mono hN.ext) (Heap.cell_next hN.ext hp) (hin x (List.mem_of_getElem? hx))).bool1 fun H2 _ _ => ⟨fun h => ?_, fun h => ?_⟩
      · rw [if_pos h] at hI; rw [← hI]
      · rw [if_neg (by simp [h])] at hI
        rintro r rfl
        rw [wrap_in (by omega) (by omega)]
        exact ⟨⟨_, i + 1, rfl, by omega, hI⟩, by simp [upTo]; omega⟩
    · rw [← hI, drop_all hw.len (by omega), boolIdx]
  refine Tryvc Try.func30 (by kernel_rfl) (by kernel_rfl) _ rfl (fun base K => vc30 a l c p base H K) fun base hb => ?_
  refine h106.int1 fun H' _ _ => ?_
  have := boolIdx_any (notThrough th) w 0 (by omega)
  cases hany : w.any (notThrough th)
  · rw [decide_eq_false (by rw [this, hany]; simp)]
  · rw [decide_eq_true (this.2 hany)]
theorem cCloneBools {H : Heap} {a : Option Addr} {l c : Nat} {th : List Bool} (ht : Sl RBool 1 H a l th) (hl : l ≤ 100000) : Spec Try.prog 32 [.slice a l c] H fun v H' => ∃ a n c, v = .slice a n c ∧ Fresh H H' 4 1 a n c (th.map Value.bool) := by
  have he : ∀ {H a n} {xs : List Bool}, Sl RBool 1 H a n xs → Sl (REnc fun x : Bool => [Value.bool x]) 1 H a n xs := fun h => h
  have hf : ∀ xs : List Bool, xs.flatMap (fun x : Bool => [Value.bool x]) = xs.map Value.bool := fun xs => by induction xs with | nil => rfl | cons x r ih => simp [ih]
  refine Tryvc Try.func32 (by kernel_rfl) (by kernel_rfl) _ rfl (fun base K => vc32 a l c base H K) fun base hb => ⟨_, eqNil Try.underlying28, fun h => ?_, fun h => ?_⟩
  · obtain rfl : a = none := by cases a <;> simp at h ⊢
    obtain ⟨_, rfl⟩ := ht.addr_nil
    exact ⟨none, 0, 0, rfl, rfl, by omega, by decide, .inl ⟨rfl, rfl⟩⟩
  · intro g H1 hN1 _ hg
    obtain ⟨hc1, hc2⟩ := (he ht).cells (enc := fun x : Bool => [Value.bool x]) (sz := 1) (fun _ => rfl) hN1.ext
    rw [hf] at hc1 hc2
    refine ⟨[], th.map Value.bool, ⟨rfl, by omega, by decide, .inl ⟨rfl, rfl⟩⟩, hc1, ?_, hc2, by omega, by omega, fun a3 c3 H3 hG hR => ⟨_, _, _, rfl, hR.fresh hb⟩⟩
    rw [← hf]; exact allOne_flat (fun _ => rfl) th
def atP (k n : Int) : Int := if k.tmod n < 0 then k.tmod n + n else k.tmod n
theorem atP_range (k : Int) {n : Int} (h : 0 < n) : 0 ≤ atP k n ∧ atP k n < n := by
  unfold atP
  have h1 := Int.tmod_lt_of_pos k h
  have h2 : -n < k.tmod n := by
    have := Int.lt_tmod_of_pos k h
    omega
  split <;> omega
theorem cAt {H : Heap} (k n : Int) (h : 0 < n) (h' : n ≤ 9223372036854775807) : Spec Try.prog 33 [i64 k, i64 n] H fun v _ => v = i64 (atP k n) := by
  have hr := atP_range k h
  refine Tryvc Try.func33 (by kernel_rfl) (by kernel_rfl) _ rfl (fun base K => vc33 k n base H K) fun base hb => ⟨by omega, fun h1 => ?_, fun h1 => ?_⟩
  · rintro r rfl
    unfold atP at hr ⊢
    rw [if_pos h1] at hr ⊢
    rw [wrap_in (by omega) (by omega)]
  · unfold atP; rw [if_neg h1]
theorem waveNow_spec {ws : List (List Int)} {th : List Bool} (h : waveCheck ws th.length = 0) : ∃ n : Nat, waveNow ws th = n ∧ IsNow ws th n := by
  obtain ⟨n, hn, hI⟩ := nowFrom_spec th ws 0
  exact ⟨n, by rw [waveNow, if_pos h, hn]; omega, hI⟩
theorem now_rises {ws : List (List Int)} {th th' : List Bool} {n m : Nat} (h : IsNow ws th n) (h' : IsNow ws th' m) (hs : ∀ a, notThrough th' a = true → notThrough th a = true) : n ≤ m := by
  rcases Nat.lt_or_ge m n with c | c
  · exfalso
    obtain ⟨w, hw, a, ha, hx⟩ := h'.here (by have := h.le; omega)
    have := h.ahead m w hw c a ha
    rw [hs a hx] at this
    cases this
  · exact c
theorem cWaveOn {H : Heap} {a a' : Option Addr} {l c l' c' : Nat} {ws : List (List Int)} {th : List Bool} (hx : Waves H a l ws) (ht : Sl RBool 1 H a' l' th) (agent : Int) :
    Spec Try.prog 5 [.slice a l c, .slice a' l' c', i64 agent] H fun v _ => v = .bool true := by
  refine Tryvc Try.func5 (by kernel_rfl) (by kernel_rfl) _ rfl (fun base K => vc5 a a' l c l' c' agent base H K) fun base hb => ?_
  have hxle := hx.le
  have hxl := hx.len
  have htl := ht.len
  intro bx
  refine (cWaveNow hx ht).int2 fun H1 e1 _ => cWaved.bool1 fun H2 e2 _ => ⟨fun h => by simp at h, fun _ => ⟨fun h => cWaved.bool1 fun H3 _ _ => rfl, fun h => ?_⟩⟩
  have hz := Decidable.not_not.1 h
  obtain ⟨k1, k2, hnd, hin, hne⟩ := waveCheck_zero hz
  obtain ⟨n, hn, hI⟩ := waveNow_spec hz
  rw [hn]
  refine ⟨fun vs Hc => ∃ (b : Bool) (i : Nat), vs = [.bool b, i64 i] ∧ i ≤ l, upTo l 1, ⟨false, 0, rfl, by omega⟩, fun b m H' hN hI2 => ?_⟩
  obtain ⟨b', i, hvs, hi⟩ := hI2
  obtain ⟨rfl, rfl⟩ : b = b' ∧ m = (i : Int) := by simpa using hvs
  refine ⟨fun hlt => hx.slice hN.ext (by omega) hlt fun w a3 n3 c3 hw hs => ⟨rfl, fun Hl hNl hbx => ?_⟩, fun hge => ?_⟩
  · rw [Int.toNat_natCast] at hw
    refine (cNotThrough ((hs.ext RInt.mono hN.ext).ext RInt.mono hNl.ext) ((ht.ext RBool.mono hN.ext).ext RBool.mono hNl.ext) (by unfold Heap.cell; rw [hbx.1]; rfl)
      (fun x hx => by have := (hin x).1 (List.mem_flatten.2 ⟨w, List.mem_of_getElem? hw, hx⟩); omega)).mono fun v H4 e4 hv => ⟨_, hv, fun H5 hN5 _ => ?_⟩
    have next : ∀ (r : Int), r = IntKind.wrap .i64 ((i : Int) + 1) → ([[Value.slice a' l' c']] = [[Value.slice a' l' c']]) ∧ (∃ (b_1 : Bool) (i : Nat), [Value.bool b, Value.int .i64 r] = [.bool b_1, i64 i] ∧ i ≤ l) ∧ upTo l 1 [Value.bool b, Value.int .i64 r] < upTo l 1 [Value.bool b, Value.int .i64 (i : Int)] := by
      rintro r rfl
      rw [wrap_in (by omega) (by omega)]
      exact ⟨rfl, ⟨b, i + 1, rfl, by omega⟩, by simp [upTo]; omega⟩
    have hopen : (i < n → w.any (notThrough th) = false) ∧ (i = n → w.any (notThrough th) = true) := by
      refine ⟨fun h => ?_, fun h => ?_⟩
      · rw [List.any_eq_false]
        intro x hx
        rw [hI.ahead i w hw h x hx]; simp
      · subst h
        obtain ⟨w', hw', x, hx, hy⟩ := hI.here (by omega)
        rw [hw] at hw'
        obtain rfl := Option.some.inj hw'
        exact List.any_eq_true.2 ⟨x, hx, hy⟩
    refine ⟨fun h1 => ⟨fun h2 => ?_, fun h2 => ⟨fun h3 => ⟨fun h4 => ?_, fun h4 => next⟩, fun h3 => next⟩⟩, fun h1 => ⟨fun h3 => ⟨fun h4 => ?_, fun h4 => next⟩, fun h3 => next⟩⟩
    · have := hopen.1 (by omega); rw [this] at h2; cases h2
    · omega
    · have := hopen.2 (by omega); rw [this] at h4; cases h4
  · refine (cCloneBools (ht.ext RBool.mono hN.ext) (by omega)).slF fun a3 n3 c3 H3 e3 hN3 hR => ?_
    have hn3 : n3 = l' := by have := hR.1; simp at this; omega
    subst hn3
    refine (cAt agent n3 (by omega) (by omega)).int1 fun H4 e4 hN4 => ?_
    have hat := atP_range agent (n := (n3 : Int)) (by omega)
    obtain ⟨b4, k4, hb4, hbase, hc4, hH4, hf4, hs4, _⟩ := (hR.ext e4).block (by omega)
    refine ⟨b4, 0, hb4, hat.1, hat.2, _, hH4, hf4, hbase, ?_, fun H5 hu => ?_⟩
    · have := hR.2.1
      rw [hs4]; omega
    have hR5 := (hR.ext e4).upd hb4 hc4 hH4 (o := 0 + (atP agent n3).toNat * 1) (vs := [.bool true]) (by rw [List.length_map, htl]; show 0 + (atP agent n3).toNat * 1 + 1 ≤ n3; omega) hu
    have hset : setRange (th.map Value.bool) (0 + (atP agent n3).toNat * 1) [.bool true] = (th.set (atP agent n3).toNat true).map Value.bool := by
      simp [setRange, List.map_set]
    rw [hset] at hR5
    have hf : ∀ xs : List Bool, xs.flatMap (fun x : Bool => [Value.bool x]) = xs.map Value.bool := fun xs => by induction xs with | nil => rfl | cons x r ih => simp [ih]
    have ht5 : Sl RBool 1 H5 a3 n3 (th.set (atP agent n3).toNat true) := sl_of_rowE (enc := fun x : Bool => [Value.bool x]) (sz := 1) (fun _ => rfl) Nat.one_pos (by rw [hf]; exact hR5)
    have hx5 : Waves H5 a l ws := hx.ext' (hu.ext hb (fun b k h => e4 b k (e3 b k (hN.ext b k h))) hbase)
    have hz5 : waveCheck ws (th.set (atP agent n3).toNat true).length = 0 := by rw [List.length_set]; exact hz
    obtain ⟨m, hm, hI5⟩ := waveNow_spec hz5
    refine (cWaveNow hx5 ht5).int2 fun H6 e6 _ => ?_
    rw [hm, hz5]
    have hle := now_rises hI hI5 (fun x hx => by
      simp only [notThrough, beq_iff_eq, List.getElem?_set] at hx ⊢
      split at hx
      · split at hx <;> simp at hx
      · exact hx)
    have := hI5.le
    refine ⟨fun _ => ⟨fun _ => ?_, fun h => absurd (by omega) h⟩, fun h => absurd rfl h⟩
    rw [decide_eq_true (by omega)]
end Go.Vg
