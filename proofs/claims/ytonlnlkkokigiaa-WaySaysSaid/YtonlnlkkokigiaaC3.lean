/- What is proved here: the contracts of the functions of locks and rules. -/
import Derived.Test.YtonlnlkkokigiaaRp3
import Derived.Test.YtonlnlkkokigiaaV3
import Derived.Test.YtonlnlkkokigiaaC2
set_option linter.unusedSimpArgs false
set_option maxRecDepth 100000
set_option linter.unusedVariables false
namespace Go.Vg
open Go Go.Proofs
/-! ### lock.Check -/
def lastName (xs : List Pin) : Nat → Int
  | 0 => 0
  | i + 1 => match xs[i]? with | some p => p.name | none => 0
theorem cLockCheck {H : Heap} {a : Option Addr} {l c : Nat} {xs : List Pin} (hx : Pins H a l xs) : Spec Try.prog 62 [.slice a l c] H fun v _ => v = i64 (lockCheck xs) := by
  refine Tryvc Try.func62 (by kernel_rfl) (by kernel_rfl) _ rfl (fun base K => vc62 a l c base H K) fun base hb => ?_
  have hl := hx.len
  refine ⟨fun h => ?_, fun h => ?_⟩
  · rw [lockCheck, if_pos (by omega)]
  have hW : lockCheck xs = lockFrom 0 xs := by rw [lockCheck, if_neg (by omega)]
  rw [hW]
  refine ⟨fun vs _ => ∃ (d : Int) (i : Nat), vs = [i64 d, i64 i] ∧ i ≤ l ∧ lockFrom (lastName xs i) (xs.drop i) = lockFrom 0 xs, upTo l 1, ⟨0, 0, rfl, by omega, rfl⟩, fun d n H' hN hI => ?_⟩
  obtain ⟨d', i, hvs, hi, hI⟩ := hI
  obtain ⟨rfl, rfl⟩ : d = d' ∧ n = (i : Int) := by simpa using hvs
  refine ⟨fun hlt => hx.pin hN.ext (by omega) hlt fun p hp => ?_, fun hge => ?_⟩
  · rw [Int.toNat_natCast] at hp
    rw [drop_at hp, lockFrom] at hI
    intro _
    have hnext : lastName xs (i + 1) = p.name := by simp [lastName, hp]
    refine ⟨fun h1 => ?_, fun h1 => ⟨fun h2 => ?_, fun h2 => ⟨fun h3 => ?_, fun h3 => ⟨fun h4 => ?_, fun h4 => ⟨fun h5 => ?_, fun h5 => ?_⟩⟩⟩⟩⟩
    · rw [if_pos (by unfold badPin; omega)] at hI; rw [← hI]
    · rw [if_pos (by unfold badPin; omega)] at hI; rw [← hI]
    · rw [if_pos (by unfold badPin; omega)] at hI; rw [← hI]
    · rw [if_pos (by unfold badPin; omega)] at hI; rw [← hI]
    · rw [if_neg (by unfold badPin; omega)] at hI
      rintro r rfl
      rw [wrap_small (by omega) (by omega)]
      refine hx.pinName hN.ext (by omega) (by omega) fun q hq => ?_
      have hlast : lastName xs i = q.name := by
        obtain ⟨j, rfl⟩ : ∃ j, i = j + 1 := ⟨i - 1, by omega⟩
        rw [show ((j + 1 : Nat) : Int) - 1 = (j : Int) from by omega, Int.toNat_natCast] at hq
        simp [lastName, hq]
      rw [hlast] at hI
      refine ⟨fun h6 => ?_, fun h6 => ?_⟩
      · rw [if_pos h6] at hI; rw [← hI]
      · rw [if_neg h6] at hI
        rintro r rfl
        rw [wrap_small (by omega) (by omega)]
        exact ⟨⟨_, i + 1, rfl, by omega, by rw [hnext]; exact hI⟩, by simp [upTo]; omega⟩
    · rw [if_neg (by unfold badPin; omega)] at hI
      obtain rfl : i = 0 := by omega
      rw [if_neg (by simp [lastName]; omega)] at hI
      rintro r rfl
      rw [wrap_small (by omega) (by omega)]
      exact ⟨⟨_, 1, rfl, by omega, by rw [hnext]; exact hI⟩, by simp [upTo]; omega⟩
  · rw [← hI, drop_all hx.len (by omega), lockFrom]
theorem cRefLockCheck {H : Heap} {a : Option Addr} {l c : Nat} {xs : List Pin} (hx : Pins H a l xs) : Spec Try.prog 108 [.slice a l c] H fun v _ => v = i64 (lockCheck xs) := by
  refine Tryvc Try.func108 (by kernel_rfl) (by kernel_rfl) _ rfl (fun base K => vc108 a l c base H K) fun base hb => ?_
  have hl := hx.len
  refine ⟨fun h => ?_, fun h => ?_⟩
  · rw [lockCheck, if_pos (by omega)]
  have hW : lockCheck xs = lockFrom 0 xs := by rw [lockCheck, if_neg (by omega)]
  rw [hW]
  refine ⟨fun vs _ => ∃ (d m : Int) (i : Nat), vs = [i64 d, i64 m, i64 i] ∧ i ≤ l ∧ lockFrom m (xs.drop i) = lockFrom 0 xs, upTo l 2, ⟨0, 0, 0, rfl, by omega, rfl⟩, fun d m n H' hN hI => ?_⟩
  obtain ⟨d', m', i, hvs, hi, hI⟩ := hI
  obtain ⟨rfl, rfl, rfl⟩ : d = d' ∧ m = m' ∧ n = (i : Int) := by simpa using hvs
  refine ⟨fun hlt => hx.pin hN.ext (by omega) hlt fun p hp => ?_, fun hge => ?_⟩
  · rw [Int.toNat_natCast] at hp
    rw [drop_at hp, lockFrom] at hI
    intro _
    refine (cIn _ _ _).bool1 fun H1 _ _ => ⟨fun h1 => ?_, fun h1 => (cIn _ _ _).bool1 fun H2 _ _ => ⟨fun h2 => ?_, fun h2 => ⟨fun h3 => ?_, fun h3 => ?_⟩⟩⟩
    · have : ¬ (1 ≤ p.name ∧ p.name ≤ 20) := by simpa [inR] using h1
      rw [if_pos (by unfold badPin; omega)] at hI; rw [← hI]
    · have : ¬ (1 ≤ p.ver ∧ p.ver ≤ 99) := by simpa [inR] using h2
      rw [if_pos (by unfold badPin; omega)] at hI; rw [← hI]
    · have h1' : 1 ≤ p.name ∧ p.name ≤ 20 := by simpa [inR] using h1
      have h2' : 1 ≤ p.ver ∧ p.ver ≤ 99 := by simpa [inR] using h2
      rw [if_neg (by unfold badPin; omega), if_pos h3] at hI; rw [← hI]
    · have h1' : 1 ≤ p.name ∧ p.name ≤ 20 := by simpa [inR] using h1
      have h2' : 1 ≤ p.ver ∧ p.ver ≤ 99 := by simpa [inR] using h2
      rw [if_neg (by unfold badPin; omega), if_neg h3] at hI
      rintro r rfl
      rw [wrap_small (by omega) (by omega)]
      exact ⟨⟨_, _, i + 1, rfl, by omega, hI⟩, by simp [upTo]; omega⟩
  · rw [← hI, drop_all hx.len (by omega), lockFrom]
/-! ### lock.Find -/
def pinIdx (k : Int) : Int → List Pin → Int
  | _, [] => -1
  | i, p :: r => if p.name = k then i else pinIdx k (i + 1) r
theorem pinIdx_spec (k : Int) : ∀ (xs : List Pin) (i : Int), 0 ≤ i → (pinIdx k i xs = -1 ∧ find xs k = 0 ∧ ∀ p ∈ xs, p.name ≠ k) ∨ ∃ (j : Nat) (p : Pin), pinIdx k i xs = i + j ∧ xs[j]? = some p ∧ find xs k = p.ver ∧ p.name = k
  | [], i, _ => .inl ⟨rfl, rfl, by simp⟩
  | p :: r, i, hi => by
    unfold pinIdx
    by_cases e : p.name = k
    · rw [if_pos e]; exact .inr ⟨0, p, by simp, rfl, by rw [find, if_pos e], e⟩
    · rw [if_neg e]
      rcases pinIdx_spec k r (i + 1) (by omega) with ⟨h1, h2, h3⟩ | ⟨j, q, h1, h2, h3, h4⟩
      · exact .inl ⟨h1, by rw [find, if_neg e, h2], fun q hq => by rcases List.mem_cons.1 hq with rfl | hq; exact e; exact h3 q hq⟩
      · exact .inr ⟨j + 1, q, by rw [h1]; omega, by simpa using h2, by rw [find, if_neg e, h3], h4⟩
theorem cPinIdx {H : Heap} {a : Option Addr} {l c : Nat} {xs : List Pin} (hx : Pins H a l xs) {k : Int} {p : Nat} (hp : H.cell p 0 = some (i64 k)) :
    Spec Try.prog 113 [.slice a l c, .func (.func 114) #[] #[.pointer (some ⟨p, 0, none⟩)]] H fun v _ => v = i64 (pinIdx k 0 xs) := by
  have h114 : ∀ {H : Heap} {n v : Int}, H.cell p 0 = some (i64 k) → Spec Try.prog 114 [.agg #[.int .i64 n, .int .i64 v], .pointer (some ⟨p, 0, none⟩)] H fun r _ => r = .bool (decide (n = k)) := by
    intro H n v hp
    refine Tryvc Try.func114 (by kernel_rfl) (by kernel_rfl) _ rfl (fun base K => vc114 n v p base H K) fun base hb => ?_
    intro _
    exact ⟨k, hp, rfl⟩
  refine Tryvc Try.func113 (by kernel_rfl) (by kernel_rfl) _ rfl (fun base K => vc113 a l c p base H K) fun base hb => ?_
  have hle := hx.le
  refine ⟨fun vs _ => ∃ (d : Int) (i : Nat), vs = [i64 d, i64 i] ∧ i ≤ l ∧ pinIdx k i (xs.drop i) = pinIdx k 0 xs, upTo l 1, ⟨0, 0, rfl, by omega, rfl⟩, fun d n H' hN hI => ?_⟩
  obtain ⟨d', i, hvs, hi, hI⟩ := hI
  obtain ⟨rfl, rfl⟩ : d = d' ∧ n = (i : Int) := by simpa using hvs
  refine ⟨fun hlt => hx.pin hN.ext (by omega) hlt fun q hq => ?_, fun hge => ?_⟩
  · rw [Int.toNat_natCast] at hq
    rw [drop_at hq, pinIdx] at hI
    refine (h114 (Heap.cell_next hN.ext hp)).bool1 fun H2 _ _ => ⟨fun h => ?_, fun h => ?_⟩
    · rw [if_pos (by simpa using h)] at hI; rw [← hI]
    · rw [if_neg (by simpa using h)] at hI
      rintro r rfl
      rw [wrap_in (by omega) (by omega)]
      exact ⟨⟨_, i + 1, rfl, by omega, hI⟩, by simp [upTo]; omega⟩
  · rw [← hI, drop_all hx.len (by omega), pinIdx]
theorem cFind {H : Heap} {a : Option Addr} {l c : Nat} {xs : List Pin} (hx : Pins H a l xs) (k : Int) : Spec Try.prog 42 [.slice a l c, i64 k] H fun v _ => v = i64 (find xs k) := by
  refine Tryvc Try.func42 (by kernel_rfl) (by kernel_rfl) _ rfl (fun base K => vc42 a l c k base H K) fun base hb => ?_
  intro b
  refine ⟨rfl, fun Hl hNl hb => ?_⟩
  refine (cPinIdx (hx.ext' hNl.ext) (k := k) (p := b) (by unfold Heap.cell; rw [hb.1]; rfl)).mono fun v H2 e2 hv => ⟨_, hv, fun H' hN _ => ?_⟩
  rcases pinIdx_spec k xs 0 (by omega) with ⟨h1, h2, _⟩ | ⟨j, p, h1, h2, h3, _⟩
  · rw [h1, h2]; exact ⟨fun _ => rfl, fun h => absurd (by omega) h⟩
  · rw [h1]
    have hj := (List.getElem?_eq_some_iff.1 h2).1
    have hl := hx.len
    refine ⟨fun h => by omega, fun _ => hx.pinVer hN.ext (by omega) (by omega) fun q hq => ?_⟩
    rw [show (0 + (j : Int)).toNat = j from by omega, h2] at hq
    obtain rfl := Option.some.inj hq
    rw [h3]
/-! ### rule.Check -/
theorem get_two {x y n : Int} {k : Nat} (hk : k < 2) (h : n = if k = 0 then x else y) : ([Value.int .i64 x, Value.int .i64 y] : List Value)[k * 1]? = some (.int .i64 n) := by
  subst h
  match k, hk with
  | 0, _ => rfl
  | 1, _ => rfl
theorem cRuleCheck {H : Heap} {a : Option Addr} {l c : Nat} {rs : List Rule} (hx : Rules H a l rs) : Spec Try.prog 39 [.slice a l c] H fun v _ => v = i64 (rulesCheck rs) := by
  refine Tryvc Try.func39 (by kernel_rfl) (by kernel_rfl) _ rfl (fun base K => vc39 a l c base H K) fun base hb => ?_
  have hl := hx.len
  refine ⟨fun h => ?_, fun h => ?_⟩
  · rw [rulesCheck, if_pos (by omega)]
  have hW : rulesCheck rs = rulesFrom rs := by rw [rulesCheck, if_neg (by omega)]
  rw [hW]
  refine ⟨fun vs _ => ∃ (d : Int) (i : Nat), vs = [i64 d, i64 i] ∧ i ≤ l ∧ rulesFrom (rs.drop i) = rulesFrom rs, upTo l 1, ⟨0, 0, rfl, by omega, rfl⟩, fun d n H' hN hI => ?_⟩
  obtain ⟨d', i, hvs, hi, hI⟩ := hI
  obtain ⟨rfl, rfl⟩ : d = d' ∧ n = (i : Int) := by simpa using hvs
  refine ⟨fun hlt => hx.rule hN.ext (by omega) hlt fun p hp => ?_, fun hge => ?_⟩
  · rw [Int.toNat_natCast] at hp
    rw [drop_at hp, rulesFrom] at hI
    intro _
    refine ⟨fun vs _ => ∃ (d : Int) (j : Nat), vs = [i64 d, i64 j] ∧ j ≤ 2 ∧ (0 < j → 1 ≤ p.name ∧ p.name ≤ 20) ∧ (1 < j → 1 ≤ p.wth ∧ p.wth ≤ 20), upTo 2 1, ⟨_, 0, rfl, by omega, by omega, by omega⟩, fun d2 m H2 hN2 hI2 => ?_⟩
    obtain ⟨d3, j, hvs2, hj, hj0, hj1⟩ := hI2
    obtain ⟨rfl, rfl⟩ : d2 = d3 ∧ m = (j : Int) := by simpa using hvs2
    refine ⟨fun hlt2 => ⟨by omega, hlt2, (if j = 0 then p.name else p.wth), ?_, fun g1 => ?_, fun g1 => ⟨fun g2 => ?_, fun g2 => ?_⟩⟩, fun hge2 => ?_⟩
    · rw [Int.toNat_natCast]; exact get_two (by omega) rfl
    · rw [if_pos (by unfold badRule; split at g1 <;> omega)] at hI; rw [← hI]
    · rw [if_pos (by unfold badRule; split at g2 <;> omega)] at hI; rw [← hI]
    · rintro r rfl
      rw [wrap_small (by omega) (by omega)]
      refine ⟨rfl, ⟨_, j + 1, rfl, by omega, fun _ => ?_, fun _ => ?_⟩, by simp [upTo]; omega⟩
      · by_cases e : j = 0
        · subst e; simp at g1 g2; omega
        · exact hj0 (by omega)
      · have e : j ≠ 0 := by omega
        simp [e] at g1 g2; omega
    · obtain rfl : j = 2 := by omega
      have k0 := hj0 (by omega)
      have k1 := hj1 (by omega)
      refine ⟨fun vs _ => ∃ (d : Int) (j : Nat), vs = [i64 d, i64 j] ∧ j ≤ 2 ∧ (0 < j → 1 ≤ p.ver ∧ p.ver ≤ 99) ∧ (1 < j → 1 ≤ p.least ∧ p.least ≤ 99), upTo 2 1, ⟨_, 0, rfl, by omega, by omega, by omega⟩, fun d2 m H2 hN2 hI2 => ?_⟩
      obtain ⟨d3, j, hvs2, hj, hj0, hj1⟩ := hI2
      obtain ⟨rfl, rfl⟩ : d2 = d3 ∧ m = (j : Int) := by simpa using hvs2
      refine ⟨fun hlt2 => ⟨by omega, hlt2, (if j = 0 then p.ver else p.least), ?_, fun g1 => ?_, fun g1 => ⟨fun g2 => ?_, fun g2 => ?_⟩⟩, fun hge2 => ?_⟩
      · rw [Int.toNat_natCast]; exact get_two (by omega) rfl
      · rw [if_pos (by unfold badRule; split at g1 <;> omega)] at hI; rw [← hI]
      · rw [if_pos (by unfold badRule; split at g2 <;> omega)] at hI; rw [← hI]
      · rintro r rfl
        rw [wrap_small (by omega) (by omega)]
        refine ⟨rfl, ⟨_, j + 1, rfl, by omega, fun _ => ?_, fun _ => ?_⟩, by simp [upTo]; omega⟩
        · by_cases e : j = 0
          · subst e; simp at g1 g2; omega
          · exact hj0 (by omega)
        · have e : j ≠ 0 := by omega
          simp [e] at g1 g2; omega
      · obtain rfl : j = 2 := by omega
        have k2 := hj0 (by omega)
        have k3 := hj1 (by omega)
        rw [if_neg (by unfold badRule; omega)] at hI
        refine ⟨fun h => ?_, fun h => ?_⟩
        · rw [if_pos h] at hI; rw [← hI]
        · rw [if_neg h] at hI
          rintro r rfl
          rw [wrap_small (by omega) (by omega)]
          exact ⟨⟨_, i + 1, rfl, by omega, hI⟩, by simp [upTo]; omega⟩
  · rw [← hI, drop_all hx.len (by omega), rulesFrom]
theorem cRefRuleCheck {H : Heap} {a : Option Addr} {l c : Nat} {rs : List Rule} (hx : Rules H a l rs) : Spec Try.prog 40 [.slice a l c] H fun v _ => v = i64 (rulesCheck rs) := by
  refine Tryvc Try.func40 (by kernel_rfl) (by kernel_rfl) _ rfl (fun base K => vc40 a l c base H K) fun base hb => ?_
  have hl := hx.len
  refine ⟨fun h => ?_, fun h => ?_⟩
  · rw [rulesCheck, if_pos (by omega)]
  have hW : rulesCheck rs = rulesFrom rs := by rw [rulesCheck, if_neg (by omega)]
  rw [hW]
  refine ⟨fun vs _ => ∃ (d : Int) (i : Nat), vs = [i64 d, i64 i] ∧ i ≤ l ∧ rulesFrom (rs.drop i) = rulesFrom rs, upTo l 1, ⟨0, 0, rfl, by omega, rfl⟩, fun d n H' hN hI => ?_⟩
  obtain ⟨d', i, hvs, hi, hI⟩ := hI
  obtain ⟨rfl, rfl⟩ : d = d' ∧ n = (i : Int) := by simpa using hvs
  refine ⟨fun hlt => hx.rule hN.ext (by omega) hlt fun p hp => ?_, fun hge => ?_⟩
  · rw [Int.toNat_natCast] at hp
    rw [drop_at hp, rulesFrom] at hI
    intro _
    refine (cIn _ _ _).bool1 fun H1 _ _ => ⟨fun h1 => ?_, fun h1 => (cIn _ _ _).bool1 fun H2 _ _ => ⟨fun h2 => ?_, fun h2 => (cIn _ _ _).bool1 fun H3 _ _ => ⟨fun h3 => ?_, fun h3 => (cIn _ _ _).bool1 fun H4 _ _ => ⟨fun h4 => ?_, fun h4 => ?_⟩⟩⟩⟩
    · have : ¬ (1 ≤ p.name ∧ p.name ≤ 20) := by simpa [inR] using h1
      rw [if_pos (by unfold badRule; omega)] at hI; rw [← hI]
    · have : ¬ (1 ≤ p.wth ∧ p.wth ≤ 20) := by simpa [inR] using h2
      rw [if_pos (by unfold badRule; omega)] at hI; rw [← hI]
    · have : ¬ (1 ≤ p.ver ∧ p.ver ≤ 99) := by simpa [inR] using h3
      rw [if_pos (by unfold badRule; omega)] at hI; rw [← hI]
    · have : ¬ (1 ≤ p.least ∧ p.least ≤ 99) := by simpa [inR] using h4
      rw [if_pos (by unfold badRule; omega)] at hI; rw [← hI]
    · have h1' : 1 ≤ p.name ∧ p.name ≤ 20 := by simpa [inR] using h1
      have h2' : 1 ≤ p.wth ∧ p.wth ≤ 20 := by simpa [inR] using h2
      have h3' : 1 ≤ p.ver ∧ p.ver ≤ 99 := by simpa [inR] using h3
      have h4' : 1 ≤ p.least ∧ p.least ≤ 99 := by simpa [inR] using h4
      rw [if_neg (by unfold badRule; omega)] at hI
      refine ⟨fun h => ?_, fun h => ?_⟩
      · rw [if_pos h.symm] at hI; rw [← hI]
      · rw [if_neg (fun e => h e.symm)] at hI
        rintro r rfl
        rw [wrap_small (by omega) (by omega)]
        exact ⟨⟨_, i + 1, rfl, by omega, hI⟩, by simp [upTo]; omega⟩
  · rw [← hI, drop_all hx.len (by omega), rulesFrom]
/-! ### rule.Broken -/
theorem cBroken {H : Heap} {a a' : Option Addr} {l c l' c' : Nat} {xs : List Pin} {rs : List Rule} (hx : Pins H a l xs) (hr : Rules H a' l' rs) :
    Spec Try.prog 34 [.slice a l c, .slice a' l' c'] H fun v _ => v = .tuple #[i64 (broken xs rs), i64 (brokenErr xs rs)] := by
  refine Tryvc Try.func34 (by kernel_rfl) (by kernel_rfl) _ rfl (fun base K => vc34 a a' l c l' c' base H K) fun base hb => ?_
  refine (cLockCheck hx).int1 fun H1 e1 hN1 => ⟨fun h => ?_, fun h => (cRuleCheck (hr.ext' e1)).int1 fun H2 e2 hN2 => ⟨fun h2 => ?_, fun h2 => ?_⟩⟩
  · have e : brokenErr xs rs = lockCheck xs := by rw [brokenErr, if_neg h]
    rw [broken, e, if_neg h]
  · have e : brokenErr xs rs = rulesCheck rs := by rw [brokenErr, if_pos (Decidable.not_not.1 h)]
    rw [broken, e, if_neg h2]
  have e : brokenErr xs rs = 0 := by rw [brokenErr, if_pos (Decidable.not_not.1 h)]; exact Decidable.not_not.1 h2
  have hW : broken xs rs = brokenFrom xs 0 rs := by rw [broken, if_pos e]
  rw [e, hW]
  have hle := hr.le
  refine ⟨fun vs _ => ∃ (d1 d2 : Int) (i : Nat), vs = [i64 d1, i64 d2, i64 i] ∧ i ≤ l' ∧ brokenFrom xs i (rs.drop i) = brokenFrom xs 0 rs, upTo l' 2, ⟨0, 0, 0, rfl, by omega, rfl⟩, fun d1 d2 n H' hN hI => ?_⟩
  obtain ⟨d1', d2', i, hvs, hi, hI⟩ := hI
  obtain ⟨rfl, rfl, rfl⟩ : d1 = d1' ∧ d2 = d2' ∧ n = (i : Int) := by simpa using hvs
  refine ⟨fun hlt => hr.rule hN.ext (by omega) hlt fun p hp => ?_, fun hge => ?_⟩
  · rw [Int.toNat_natCast] at hp
    rw [drop_at hp, brokenFrom] at hI
    intro _
    refine (cFind (hx.ext' hN.ext) _).int1 fun H3 e3 hN3 => ⟨fun h3 => (cFind ((hx.ext' hN.ext).ext' e3) _).int1 fun H4 e4 hN4 => ⟨fun h4 => ?_, fun h4 => ?_⟩, fun h3 => ?_⟩
    · rw [if_pos ⟨h3, h4⟩] at hI; rw [← hI]
    · rw [if_neg (fun h => h4 h.2)] at hI
      rintro r rfl
      rw [wrap_in (by omega) (by omega)]
      exact ⟨⟨_, _, i + 1, rfl, by omega, hI⟩, by simp [upTo]; omega⟩
    · rw [if_neg (fun h => h3 h.1)] at hI
      rintro r rfl
      rw [wrap_in (by omega) (by omega)]
      exact ⟨⟨_, _, i + 1, rfl, by omega, hI⟩, by simp [upTo]; omega⟩
  · rw [← hI, drop_all hr.len (by omega), brokenFrom]
/-! ### up -/
theorem cUp {H : Heap} {a : Option Addr} {l c : Nat} {xs : List Pin} (hx : Pins H a l xs) (hl : xs.length ≤ 12) (n v : Int) :
    Spec Try.prog 107 [.slice a l c, i64 n, i64 v] H fun r H' => ∃ a n' c, r = .slice a n' c ∧ Pins H' a n' (up n v xs) := by
  refine Tryvc Try.func107 (by kernel_rfl) (by kernel_rfl) _ rfl (fun base K => vc107 a l c n v base H K) fun base hb => ?_
  have hlen := hx.len
  refine ⟨fun vs Hc => ∃ (out : List Pin) (a : Option Addr) (c : Nat) (done : Bool) (i : Nat), vs = [.slice a out.length c, .bool done, i64 i] ∧ Row base Hc 48 2 a out.length c (out.flatMap pinCells) ∧ i ≤ l ∧ out.length ≤ i + done.toNat ∧
      out ++ (if done then xs.drop i else up n v (xs.drop i)) = up n v xs, upTo l 2, ⟨[], none, 0, false, 0, rfl, Row.nil, by omega, by simp, rfl⟩, fun a1 n1 c1 b m H' hN hI => ?_⟩
  obtain ⟨out, a1', c1', b', i, hvs, hR, hi, hol, hI⟩ := hI
  obtain ⟨⟨rfl, rfl, rfl⟩, rfl, rfl⟩ : (a1 = a1' ∧ n1 = out.length ∧ c1 = c1') ∧ b = b' ∧ m = (i : Int) := by simpa using hvs
  have hol13 : out.length ≤ 13 := by have := Bool.toNat_le b; omega
  have app : ∀ {q : Pin}, (out ++ [q]).flatMap pinCells = out.flatMap pinCells ++ [i64 q.name, i64 q.ver] := by intro q; simp [pinCells]
  refine ⟨fun hlt => hx.pin hN.ext (by omega) hlt fun p hp => ?_, fun hge => ⟨fun hb' => ?_, fun hb' => ?_⟩⟩
  · rw [Int.toNat_natCast] at hp
    rw [drop_at hp] at hI
    intro _
    refine ⟨fun hb' => ?_, fun hb' => ?_⟩
    · subst hb'
      simp only [Bool.false_eq_true, if_false] at hI
      rw [up] at hI
      refine ⟨fun h1 => ?_, fun h1 => ?_⟩
      · rw [if_pos h1] at hI
        refine fun _ => ⟨_, hR, by omega, by omega, fun a2 c2 H2 hG hR2 => ⟨fun h2 => ?_, fun h2 => ?_⟩⟩
        · rw [if_pos h2] at hI
          rintro r rfl
          rw [wrap_small (by omega) (by omega)]
          exact ⟨⟨out ++ [⟨n, v⟩], a2, c2, true, i + 1, by simp, by rw [app]; simpa using hR2, by omega, by simp at hol ⊢; omega, by simpa using hI⟩, by simp [upTo]; omega⟩
        · rw [if_neg h2] at hI
          refine fun _ => ⟨_, hR2, by omega, by omega, fun a3 c3 H3 hG3 hR3 => ?_⟩
          rintro r rfl
          rw [wrap_small (by omega) (by omega)]
          refine ⟨⟨out ++ [⟨n, v⟩, p], a3, c3, true, i + 1, by simp, ?_, by omega, ?_, by simpa using hI⟩, by simp [upTo]; omega⟩
          · have : (out ++ [⟨n, v⟩, p]).flatMap pinCells = out.flatMap pinCells ++ [i64 n, i64 v] ++ [i64 p.name, i64 p.ver] := by simp [pinCells]
            rw [this]; simpa using hR3
          · simp at hol ⊢; omega
      · rw [if_neg h1] at hI
        refine fun _ => ⟨_, hR, by omega, by omega, fun a2 c2 H2 hG hR2 => ?_⟩
        rintro r rfl
        rw [wrap_small (by omega) (by omega)]
        exact ⟨⟨out ++ [p], a2, c2, false, i + 1, by simp, by rw [app]; simpa using hR2, by omega, by simp at hol ⊢; omega, by simpa using hI⟩, by simp [upTo]; omega⟩
    · obtain rfl : b = true := by simpa using hb'
      refine fun _ => ⟨_, hR, by omega, by omega, fun a2 c2 H2 hG hR2 => ?_⟩
      rintro r rfl
      rw [wrap_small (by omega) (by omega)]
      exact ⟨⟨out ++ [p], a2, c2, true, i + 1, by simp, by rw [app]; simpa using hR2, by omega, by simp at hol ⊢; omega, by simpa using hI⟩, by simp [upTo]; omega⟩
  · subst hb'
    rw [drop_all hx.len (by omega), up] at hI
    refine fun _ => ⟨_, hR, by omega, by omega, fun a2 c2 H2 hG hR2 => ⟨_, _, _, rfl, ?_⟩⟩
    rw [← hI]
    exact sl_of_rowE pinCells_len (by omega) (by simp only [Bool.false_eq_true, if_false]; rw [app]; simpa using hR2)
  · obtain rfl : b = true := by simpa using hb'
    rw [drop_all hx.len (by omega)] at hI
    refine ⟨_, _, _, rfl, ?_⟩
    rw [← hI]
    exact sl_of_rowE pinCells_len (by omega) (by simpa using hR)
end Go.Vg
