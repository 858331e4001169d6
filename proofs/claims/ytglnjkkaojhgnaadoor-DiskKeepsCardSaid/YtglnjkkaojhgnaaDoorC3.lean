/- What is proved here: the contracts of the functions of locks and rules. -/
import Derived.Test.YtglnjkkaojhgnaaDoorRp3
import Derived.Test.YtglnjkkaojhgnaaDoorV3
import Derived.Test.YtglnjkkaojhgnaaDoorC2
import Derived.Test.YtglnjkkaojhgnaaDoorEq
import Derived.Test.YtglnjkkaojhgnaaDoorRp4
set_option linter.unusedSimpArgs false
set_option maxRecDepth 100000
set_option linter.unusedVariables false
namespace Go.Vg
open Go Go.Proofs
/-! ### lock.Check -/
def lastName (xs : List Pin) : Nat → Int
  | 0 => 0
  | i + 1 => match xs[i]? with | some p => p.name | none => 0
theorem cLockCheck {H : Heap} {a : Option Addr} {l c : Nat} {xs : List Pin} (hx : Pins H a l xs) : Spec Tryd.prog 14 [.slice a l c] H fun v _ => v = i64 (lockCheck xs) := by
  refine Trydvc Tryd.func14 (by kernel_rfl) (by kernel_rfl) _ rfl (fun base K => vc62 a l c base H K) fun base hb => ?_
  have hl := hx.len
  refine ⟨fun h => ?_, fun h => ?_⟩
  · rw [lockCheck, if_pos (by omega)]
  have hW : lockCheck xs = lockFrom 0 xs := by rw [lockCheck, if_neg (by omega)]
  rw [hW]
  refine ⟨fun vs _ => ∃ (d : Int) (i : Nat), vs = [i64 d, i64 i] ∧ i ≤ l ∧ lockFrom (lastName xs i) (xs.drop i) = lockFrom 0 xs, upTo l 1, ⟨0, 0, rfl, by omega, rfl⟩, fun d n H' hN hI => ?_⟩
  obtain ⟨d', i, hvs, hi, hI⟩ := hI
  obtain ⟨rfl, rfl⟩ : d = d' ∧ n = (i : Int) := by simpa using hvs
  refine ⟨fun hlt => hx.pin hN.ext (by omega) hlt fun p hp => ?_, fun hge => ?_⟩
  · rw [Int.toNat_natCast] at hp
    rw [drop_at hp, lockFrom] at hI
    intro _
    have hnext : lastName xs (i + 1) = p.name := by simp [lastName, hp]
    refine ⟨fun h1 => ?_, fun h1 => ⟨fun h2 => ?_, fun h2 => ⟨fun h3 => ?_, fun h3 => ⟨fun h4 => ?_, fun h4 => ⟨fun h5 => ?_, fun h5 => ?_⟩⟩⟩⟩⟩
    · rw [if_pos (by unfold badPin; omega)] at hI; rw [← hI]
    · rw [if_pos (by unfold badPin; omega)] at hI; rw [← hI]
    · rw [if_pos (by unfold badPin; omega)] at hI; rw [← hI]
    · rw [if_pos (by unfold badPin; omega)] at hI; rw [← hI]
    · rw [if_neg (by unfold badPin; omega)] at hI
      rintro r rfl
      rw [wrap_small (by omega) (by omega)]
      refine hx.pinName hN.ext (by omega) (by omega) fun q hq => ?_
      have hlast : lastName xs i = q.name := by
        obtain ⟨j, rfl⟩ : ∃ j, i = j + 1 := ⟨i - 1, by omega⟩
        rw [show ((j + 1 : Nat) : Int) - 1 = (j : Int) from by omega, Int.toNat_natCast] at hq
        simp [lastName, hq]
      rw [hlast] at hI
      refine ⟨fun h6 => ?_, fun h6 => ?_⟩
      · rw [if_pos h6] at hI; rw [← hI]
      · rw [if_neg h6] at hI
        rintro r rfl
        rw [wrap_small (by omega) (by omega)]
        exact ⟨⟨_, i + 1, rfl, by omega, by rw [hnext]; exact hI⟩, by simp [upTo]; omega⟩
    · rw [if_neg (by unfold badPin; omega)] at hI
      obtain rfl : i = 0 := by omega
      rw [if_neg (by simp [lastName]; omega)] at hI
      rintro r rfl
      rw [wrap_small (by omega) (by omega)]
      exact ⟨⟨_, 1, rfl, by omega, by rw [hnext]; exact hI⟩, by simp [upTo]; omega⟩
  · rw [← hI, drop_all hx.len (by omega), lockFrom]
theorem cRefLockCheck {H : Heap} {a : Option Addr} {l c : Nat} {xs : List Pin} (hx : Pins H a l xs) : Spec Tryd.prog 12 [.slice a l c] H fun v _ => v = i64 (lockCheck xs) := by
  refine Trydvc Tryd.func12 (by kernel_rfl) (by kernel_rfl) _ rfl (fun base K => vc108 a l c base H K) fun base hb => ?_
  have hl := hx.len
  refine ⟨fun h => ?_, fun h => ?_⟩
  · rw [lockCheck, if_pos (by omega)]
  have hW : lockCheck xs = lockFrom 0 xs := by rw [lockCheck, if_neg (by omega)]
  rw [hW]
  refine ⟨fun vs _ => ∃ (d m : Int) (i : Nat), vs = [i64 d, i64 m, i64 i] ∧ i ≤ l ∧ lockFrom m (xs.drop i) = lockFrom 0 xs, upTo l 2, ⟨0, 0, 0, rfl, by omega, rfl⟩, fun d m n H' hN hI => ?_⟩
  obtain ⟨d', m', i, hvs, hi, hI⟩ := hI
  obtain ⟨rfl, rfl, rfl⟩ : d = d' ∧ m = m' ∧ n = (i : Int) := by simpa using hvs
  refine ⟨fun hlt => hx.pin hN.ext (by omega) hlt fun p hp => ?_, fun hge => ?_⟩
  · rw [Int.toNat_natCast] at hp
    rw [drop_at hp, lockFrom] at hI
    intro _
    refine (cIn _ _ _).bool1 fun H1 _ _ => ⟨fun h1 => ?_, fun h1 => (cIn _ _ _).bool1 fun H2 _ _ => ⟨fun h2 => ?_, fun h2 => ⟨fun h3 => ?_, fun h3 => ?_⟩⟩⟩
    · have : ¬ (1 ≤ p.name ∧ p.name ≤ 20) := by simpa [inR] using h1
      rw [if_pos (by unfold badPin; omega)] at hI; rw [← hI]
    · have : ¬ (1 ≤ p.ver ∧ p.ver ≤ 99) := by simpa [inR] using h2
      rw [if_pos (by unfold badPin; omega)] at hI; rw [← hI]
    · have h1' : 1 ≤ p.name ∧ p.name ≤ 20 := by simpa [inR] using h1
      have h2' : 1 ≤ p.ver ∧ p.ver ≤ 99 := by simpa [inR] using h2
      rw [if_neg (by unfold badPin; omega), if_pos h3] at hI; rw [← hI]
    · have h1' : 1 ≤ p.name ∧ p.name ≤ 20 := by simpa [inR] using h1
      have h2' : 1 ≤ p.ver ∧ p.ver ≤ 99 := by simpa [inR] using h2
      rw [if_neg (by unfold badPin; omega), if_neg h3] at hI
      rintro r rfl
      rw [wrap_small (by omega) (by omega)]
      exact ⟨⟨_, _, i + 1, rfl, by omega, hI⟩, by simp [upTo]; omega⟩
  · rw [← hI, drop_all hx.len (by omega), lockFrom]
/-! ### lock.Find -/
def pinIdx (k : Int) : Int → List Pin → Int
  | _, [] => -1
  | i, p :: r => if p.name = k then i else pinIdx k (i + 1) r
theorem pinIdx_spec (k : Int) : ∀ (xs : List Pin) (i : Int), 0 ≤ i → (pinIdx k i xs = -1 ∧ find xs k = 0 ∧ ∀ p ∈ xs, p.name ≠ k) ∨ ∃ (j : Nat) (p : Pin), pinIdx k i xs = i + j ∧ xs[j]? = some p ∧ find xs k = p.ver ∧ p.name = k
  | [], i, _ => .inl ⟨rfl, rfl, by simp⟩
  | p :: r, i, hi => by
    unfold pinIdx
    by_cases e : p.name = k
    · rw [if_pos e]; exact .inr ⟨0, p, by simp, rfl, by rw [find, if_pos e], e⟩
    · rw [if_neg e]
      rcases pinIdx_spec k r (i + 1) (by omega) with ⟨h1, h2, h3⟩ | ⟨j, q, h1, h2, h3, h4⟩
      · exact .inl ⟨h1, by rw [find, if_neg e, h2], fun q hq => by rcases List.mem_cons.1 hq with rfl | hq; exact e; exact h3 q hq⟩
      · exact .inr ⟨j + 1, q, by rw [h1]; omega, by simpa using h2, by rw [find, if_neg e, h3], h4⟩
theorem cPinIdx {H : Heap} {a : Option Addr} {l c : Nat} {xs : List Pin} (hx : Pins H a l xs) {k : Int} {p : Nat} (hp : H.cell p 0 = some (i64 k)) :
    Spec Tryd.prog 46 [.slice a l c, .func (.func 47) #[] #[.pointer (some ⟨p, 0, none⟩)]] H fun v _ => v = i64 (pinIdx k 0 xs) := by
  have h114 : ∀ {H : Heap} {n v : Int}, H.cell p 0 = some (i64 k) → Spec Tryd.prog 47 [.agg #[.int .i64 n, .int .i64 v], .pointer (some ⟨p, 0, none⟩)] H fun r _ => r = .bool (decide (n = k)) := by
    intro H n v hp
    refine Trydvc Tryd.func47 (by kernel_rfl) (by kernel_rfl) _ rfl (fun base K => vc114 n v p base H K) fun base hb => ?_
    intro _
    exact ⟨k, hp, rfl⟩
  refine Trydvc Tryd.func46 (by kernel_rfl) (by kernel_rfl) _ rfl (fun base K => vc113 a l c p base H K) fun base hb => ?_
  have hle := hx.le
  refine ⟨fun vs _ => ∃ (d : Int) (i : Nat), vs = [i64 d, i64 i] ∧ i ≤ l ∧ pinIdx k i (xs.drop i) = pinIdx k 0 xs, upTo l 1, ⟨0, 0, rfl, by omega, rfl⟩, fun d n H' hN hI => ?_⟩
  obtain ⟨d', i, hvs, hi, hI⟩ := hI
  obtain ⟨rfl, rfl⟩ : d = d' ∧ n = (i : Int) := by simpa using hvs
  refine ⟨fun hlt => hx.pin hN.ext (by omega) hlt fun q hq => ?_, fun hge => ?_⟩
  · rw [Int.toNat_natCast] at hq
    rw [drop_at hq, pinIdx] at hI
    refine (h114 (Heap.cell_next hN.ext hp)).bool1 fun H2 _ _ => ⟨fun h => ?_, fun h => ?_⟩
    · rw [if_pos (by simpa using h)] at hI; rw [← hI]
    · rw [if_neg (by simpa using h)] at hI
      rintro r rfl
      rw [wrap_in (by omega) (by omega)]
      exact ⟨⟨_, i + 1, rfl, by omega, hI⟩, by simp [upTo]; omega⟩
  · rw [← hI, drop_all hx.len (by omega), pinIdx]
theorem cFind {H : Heap} {a : Option Addr} {l c : Nat} {xs : List Pin} (hx : Pins H a l xs) (k : Int) : Spec Tryd.prog 15 [.slice a l c, i64 k] H fun v _ => v = i64 (find xs k) := by
  refine Trydvc Tryd.func15 (by kernel_rfl) (by kernel_rfl) _ rfl (fun base K => vc42 a l c k base H K) fun base hb => ?_
  intro b
  refine ⟨rfl, fun Hl hNl hb => ?_⟩
  refine (cPinIdx (hx.ext' hNl.ext) (k := k) (p := b) (by unfold Heap.cell; rw [hb.1]; rfl)).mono fun v H2 e2 hv => ⟨_, hv, fun H' hN _ => ?_⟩
  rcases pinIdx_spec k xs 0 (by omega) with ⟨h1, h2, _⟩ | ⟨j, p, h1, h2, h3, _⟩
  · rw [h1, h2]; exact ⟨fun _ => rfl, fun h => absurd (by omega) h⟩
  · rw [h1]
    have hj := (List.getElem?_eq_some_iff.1 h2).1
    have hl := hx.len
    refine ⟨fun h => by omega, fun _ => hx.pinVer hN.ext (by omega) (by omega) fun q hq => ?_⟩
    rw [show (0 + (j : Int)).toNat = j from by omega, h2] at hq
    obtain rfl := Option.some.inj hq
    rw [h3]
/-! ### rule.Check -/
theorem get_two {x y n : Int} {k : Nat} (hk : k < 2) (h : n = if k = 0 then x else y) : ([Value.int .i64 x, Value.int .i64 y] : List Value)[k * 1]? = some (.int .i64 n) := by
  subst h
  match k, hk with
  | 0, _ => rfl
  | 1, _ => rfl
/-! ### rule.Broken -/
/-! ### up -/
end Go.Vg
set_option linter.unusedSimpArgs false
set_option maxRecDepth 100000
set_option linter.unusedVariables false
namespace Go.Vg
open Go Go.Proofs
theorem drop_eq_iff {α : Type} {xs ys : List α} {k : Nat} {p q : α} (hp : xs[k]? = some p) (hq : ys[k]? = some q) : (xs.drop k = ys.drop k) ↔ (p = q ∧ xs.drop (k + 1) = ys.drop (k + 1)) := by
  rw [drop_at hp, drop_at hq]; simp
theorem cEqPins {H : Heap} {a a' : Option Addr} {l c l' c' : Nat} {xs ys : List Pin} (hx : Pins H a l xs) (hy : Pins H a' l' ys) :
    Spec Tryd.prog 10 [.slice a l c, .slice a' l' c'] H fun v _ => v = .bool (decide (xs = ys)) := by
  refine Trydvc Tryd.func10 (by kernel_rfl) (by kernel_rfl) _ rfl (fun base K => vc41 a a' l c l' c' base H K) fun base hb => ?_
  have hxl := hx.len
  have hyl := hy.len
  have hle := hx.le
  refine ⟨fun hne => ?_, fun he => ?_⟩
  · rw [decide_eq_false]; rintro rfl; omega
  · refine ⟨fun vs _ => ∃ (b : Bool) (k : Nat), vs = [.bool b, i64 k] ∧ k ≤ l ∧ (xs.drop k = ys.drop k ↔ xs = ys), upTo l 1, ⟨false, 0, rfl, by omega, by simp⟩, fun b n H' hN hI => ?_⟩
    obtain ⟨b', k, hvs, hk, hI⟩ := hI
    obtain ⟨rfl, rfl⟩ : b = b' ∧ n = (k : Int) := by simpa using hvs
    refine ⟨fun hlt => hx.pin hN.ext (by omega) hlt fun p hp => hy.pin hN.ext (by omega) (by omega) fun q hq => ⟨_, neq48 _ _ _ _, fun h => ?_, fun h => ?_⟩, fun hge => ?_⟩
    · rw [Int.toNat_natCast] at hp hq
      rw [drop_eq_iff hp hq] at hI
      rw [decide_eq_false]
      intro e
      obtain ⟨rfl, _⟩ := hI.2 e
      simp at h
    · rw [Int.toNat_natCast] at hp hq
      rw [drop_eq_iff hp hq] at hI
      have hpq : p = q := by
        cases p; cases q; simp at h; simp [h]
      rintro r rfl
      rw [wrap_in (by omega) (by omega)]
      exact ⟨⟨b, k + 1, rfl, by omega, by rw [← hI]; simp [hpq]⟩, by simp [upTo]; omega⟩
    · rw [decide_eq_true]
      exact hI.1 (by rw [drop_all hxl (by omega), drop_all hyl (by omega)])
/-! ### rule.Mend -/
def mendedN (rs : List Rule) (n : Nat) (l : List Pin) : Except Int (List Pin) := if brokenErr l rs = 0 then mend rs n l else .error (brokenErr l rs)
theorem pins_of_row {base : Nat} {H : Heap} {e : TypeId} {a : Option Addr} {n c : Nat} {xs : List Pin} (h : Row base H e 2 a n c (xs.flatMap pinCells)) : Pins H a n xs := sl_of_rowE pinCells_len (by omega) h
theorem one_pins (xs : List Pin) : allOne (xs.flatMap pinCells) = true := allOne_flat (fun _ => rfl) xs
theorem one_rules (xs : List Rule) : allOne (xs.flatMap ruleCells) = true := allOne_flat (fun _ => rfl) xs
/-! ### Tables -/
def tabCells (l : List Pin) : List Value := (tabI l).map i64
theorem tabCells_len (l : List Pin) : (tabCells l).length = 21 := by simp [tabCells, tabI]
theorem allOne_ints : ∀ l : List Int, allOne (l.map i64) = true
  | [] => rfl
  | x :: r => by simp only [List.map_cons, allOne, Bool.and_eq_true]; exact ⟨rfl, allOne_ints r⟩
theorem tabCells_one (l : List Pin) : allOne (tabCells l) = true := allOne_ints _
theorem tabCells_at (l : List Pin) {i : Nat} (hi : i < 21) : (tabCells l)[i]? = some (i64 (find l i)) := by rw [tabCells, List.getElem?_map, tabI_at l hi]; rfl
def tabSet : List Value → List Pin → List Value
  | cs, [] => cs
  | cs, p :: r => tabSet (cs.set (0 + p.name.toNat * 1) (i64 p.ver)) r
theorem tabSet_map : ∀ (xs : List Pin), Lk xs → ∀ f : Nat → Int, tabSet ((List.range 21).map fun n => i64 (f n)) xs = (List.range 21).map fun n : Nat => i64 (if find xs n = 0 then f n else find xs n)
  | [], _, f => by simp [tabSet, find]
  | p :: r, h, f => by
    have hp := h.name (p := p) List.mem_cons_self
    have e : ((List.range 21).map fun n => i64 (f n)).set (0 + p.name.toNat * 1) (i64 p.ver) = (List.range 21).map fun n : Nat => i64 (if (n : Int) = p.name then p.ver else f n) := by
      apply List.ext_getElem?
      intro i
      rw [List.getElem?_set]
      simp only [List.length_map, List.length_range, List.getElem?_map, Nat.zero_add, Nat.mul_one]
      by_cases hi : i < 21
      · rw [List.getElem?_range hi]
        split
        · rename_i e; rw [if_pos (by omega)]; simp; intro h; omega
        · simp; intro h; omega
      · rw [if_neg (by omega), List.getElem?_eq_none (by simp; omega)]; rfl
    rw [tabSet, e, tabSet_map r h.tail]
    apply List.map_congr_left
    intro n hn
    have hz : find r p.name = 0 := find_none fun x hx => by have := h.head x hx; omega
    by_cases e2 : (n : Int) = p.name
    · rw [e2, hz, if_pos rfl, if_pos rfl, find, if_pos rfl, if_neg (by omega)]
    · simp only [find, if_neg e2, if_neg (fun h : p.name = (n : Int) => e2 h.symm)]
theorem tabSet_zero {xs : List Pin} (h : Lk xs) : tabSet (List.replicate 21 (i64 0)) xs = tabCells xs := by
  have := tabSet_map xs h (fun _ => 0)
  rw [show ((List.range 21).map fun _ => i64 0) = List.replicate 21 (i64 0) from rfl] at this
  rw [this, tabCells, tabI, List.map_map]
  apply List.map_congr_left
  intro n _
  simp only [Function.comp_apply]
  split
  · rename_i e; rw [e]
  · rfl
/-! ### FirstBroken -/
/-! ### Mended -/
theorem tabCells_inj {x y : List Pin} (hx : Lk x) (hy : Lk y) (h : tabCells x = tabCells y) : x = y := by
  refine hx.ext hy fun n => ?_
  by_cases hn : n < 1 ∨ 20 < n
  · rw [hx.find_out hn, hy.find_out hn]
  · have e1 := tabCells_at x (i := n.toNat) (by omega)
    have e2 := tabCells_at y (i := n.toNat) (by omega)
    rw [h, e2] at e1
    rw [show (n.toNat : Int) = n from by omega] at e1
    simpa using e1.symm
open Classical in
noncomputable def tabMeas (vs : List Value) : Nat := if h : ∃ cur, Lk cur ∧ vs[3]? = some (.agg (tabCells cur).toArray) then (1981 - weight h.choose).toNat else 0
theorem tabMeas_eq {cur : List Pin} (h : Lk cur) (x y z : Value) : tabMeas [x, y, z, .agg (tabCells cur).toArray] = (1981 - weight cur).toNat := by
  unfold tabMeas
  have hex : ∃ c, Lk c ∧ [x, y, z, Value.agg (tabCells cur).toArray][3]? = some (.agg (tabCells c).toArray) := ⟨cur, h, rfl⟩
  rw [dif_pos hex]
  have hc := hex.choose_spec
  have : tabCells cur = tabCells hex.choose := by simpa using hc.2
  rw [← tabCells_inj h hc.1 this]
theorem tabCells_up {l : List Pin} (hl : Lk l) {n v : Int} (hn : 1 ≤ n ∧ n ≤ 20) : (tabCells l).set (0 + n.toNat * 1) (i64 v) = tabCells (up n v l) := by
  rw [Nat.zero_add, Nat.mul_one, tabCells, tabCells, ← tab_set hl hn, List.map_set]
/-! ### The laws -/
end Go.Vg
set_option linter.unusedSimpArgs false
set_option maxRecDepth 100000
set_option linter.unusedVariables false
namespace Go.Vg
open Go Go.Proofs
def boolIdx (f : Int → Bool) : Int → List Int → Int
  | _, [] => -1
  | i, x :: r => if f x then i else boolIdx f (i + 1) r
theorem boolIdx_any (f : Int → Bool) : ∀ (l : List Int) (i : Int), 0 ≤ i → (0 ≤ boolIdx f i l ↔ l.any f = true)
  | [], i, _ => by simp [boolIdx]
  | x :: r, i, h => by
    unfold boolIdx
    split
    · rename_i e; simp [h, e]
    · rename_i e; rw [boolIdx_any f r (i + 1) (by omega)]; simp [e]
def atP (k n : Int) : Int := if k.tmod n < 0 then k.tmod n + n else k.tmod n
theorem atP_range (k : Int) {n : Int} (h : 0 < n) : 0 ≤ atP k n ∧ atP k n < n := by
  unfold atP
  have h1 := Int.tmod_lt_of_pos k h
  have h2 : -n < k.tmod n := by
    have := Int.lt_tmod_of_pos k h
    omega
  split <;> omega
theorem cAt {H : Heap} (k n : Int) (h : 0 < n) (h' : n ≤ 9223372036854775807) : Spec Tryd.prog 35 [i64 k, i64 n] H fun v _ => v = i64 (atP k n) := by
  have hr := atP_range k h
  refine Trydvc Tryd.func35 (by kernel_rfl) (by kernel_rfl) _ rfl (fun base K => vc33 k n base H K) fun base hb => ⟨by omega, fun h1 => ?_, fun h1 => ?_⟩
  · rintro r rfl
    unfold atP at hr ⊢
    rw [if_pos h1] at hr ⊢
    rw [wrap_in (by omega) (by omega)]
  · unfold atP; rw [if_neg h1]
theorem waveNow_spec {ws : List (List Int)} {th : List Bool} (h : waveCheck ws th.length = 0) : ∃ n : Nat, waveNow ws th = n ∧ IsNow ws th n := by
  obtain ⟨n, hn, hI⟩ := nowFrom_spec th ws 0
  exact ⟨n, by rw [waveNow, if_pos h, hn]; omega, hI⟩
theorem now_rises {ws : List (List Int)} {th th' : List Bool} {n m : Nat} (h : IsNow ws th n) (h' : IsNow ws th' m) (hs : ∀ a, notThrough th' a = true → notThrough th a = true) : n ≤ m := by
  rcases Nat.lt_or_ge m n with c | c
  · exfalso
    obtain ⟨w, hw, a, ha, hx⟩ := h'.here (by have := h.le; omega)
    have := h.ahead m w hw c a ha
    rw [hs a hx] at this
    cases this
  · exact c
end Go.Vg
