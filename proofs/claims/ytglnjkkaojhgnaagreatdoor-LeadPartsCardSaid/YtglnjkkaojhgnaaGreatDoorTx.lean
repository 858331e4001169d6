/- Plain laws of texts: numbers as they are written, texts cut at a byte and joined again. -/
import Derived.Lib.SplitLaws
import Derived.Lib.AtoiAllCases
import Derived.Lib.ItoaLen
import Derived.Lib.Join
set_option linter.unusedSimpArgs false
set_option linter.unusedVariables false
namespace Go.Vg
open Go

/-! ### Texts cut at a byte -/
/-- A text cut at each c. -/
def cuts (c : UInt8) : List UInt8 → List (List UInt8)
  | [] => [[]]
  | b :: r => if b = c then [] :: cuts c r else (b :: (cuts c r).headD []) :: (cuts c r).tail
theorem cuts_ne (c : UInt8) : ∀ s, cuts c s ≠ []
  | [] => by simp [cuts]
  | b :: r => by unfold cuts; split <;> simp
/-- Words, a c between. -/
def joinB (c : UInt8) : List (List UInt8) → List UInt8
  | [] => []
  | w :: ws => w ++ ws.flatMap fun x => c :: x
theorem joinB_cons {c : UInt8} {w : List UInt8} {ws : List (List UInt8)} (h : ws ≠ []) : joinB c (w :: ws) = w ++ c :: joinB c ws := by
  cases ws with
  | nil => exact absurd rfl h
  | cons x r => simp [joinB]
theorem joinB_cuts (c : UInt8) : ∀ s, joinB c (cuts c s) = s
  | [] => rfl
  | b :: r => by
    have ih := joinB_cuts c r
    unfold cuts
    cases hc : cuts c r with
    | nil => exact absurd hc (cuts_ne c r)
    | cons w ws =>
      rw [hc] at ih
      split
      · rename_i e; subst e
        rw [joinB_cons (by simp), ih]; rfl
      · rw [← ih]; simp [joinB]
theorem cuts_word {c : UInt8} : ∀ {w : List UInt8}, c ∉ w → cuts c w = [w]
  | [], _ => rfl
  | b :: r, h => by
    have h1 : b ≠ c := fun e => h (by simp [e])
    have h2 : c ∉ r := fun e => h (by simp [e])
    unfold cuts
    rw [if_neg h1, cuts_word h2]; rfl
theorem cuts_more {c : UInt8} : ∀ {w t : List UInt8}, c ∉ w → cuts c (w ++ c :: t) = w :: cuts c t
  | [], t, _ => by show cuts c (c :: t) = _; rw [cuts, if_pos rfl]
  | b :: r, t, h => by
    have h1 : b ≠ c := fun e => h (by simp [e])
    have h2 : c ∉ r := fun e => h (by simp [e])
    show cuts c (b :: (r ++ c :: t)) = _
    conv => lhs; unfold cuts
    rw [if_neg h1, cuts_more h2]; rfl
theorem cuts_joinB {c : UInt8} : ∀ {ws : List (List UInt8)}, ws ≠ [] → (∀ w ∈ ws, c ∉ w) → cuts c (joinB c ws) = ws
  | [w], _, h => by rw [show joinB c [w] = w from by simp [joinB]]; exact cuts_word (h w (by simp))
  | w :: x :: r, _, h => by
    rw [joinB_cons (by simp), cuts_more (h w (by simp)), cuts_joinB (by simp) fun y hy => h y (by simp [List.mem_cons.1 hy])]
theorem cuts_none {c : UInt8} : ∀ {s : List UInt8}, ∀ w ∈ cuts c s, c ∉ w
  | [], w, h => by simp [cuts] at h; simp [h]
  | b :: r, w, h => by
    have ih := fun x (hx : x ∈ cuts c r) => cuts_none x hx
    unfold cuts at h
    cases hc : cuts c r with
    | nil => exact absurd hc (cuts_ne c r)
    | cons x xs =>
      rw [hc] at ih h
      split at h
      · rcases List.mem_cons.1 h with rfl | h
        · simp
        · exact ih w h
      · rename_i hb
        rcases List.mem_cons.1 h with rfl | h
        · have := ih x (by simp)
          simp only [List.headD_cons, List.mem_cons, not_or]
          exact ⟨fun e => hb e.symm, this⟩
        · exact ih w (by simp at h; simp [h])
/-- Where the first c is. -/
theorem index_byte (c : UInt8) : ∀ s : List UInt8, (c ∉ s ∧ Lib.index s [c] = -1) ∨ ∃ w t, s = w ++ c :: t ∧ c ∉ w ∧ Lib.index s [c] = (w.length : Int)
  | [] => .inl ⟨by simp, by simp [Lib.index]⟩
  | b :: r => by
    by_cases hb : c = b
    · subst hb
      exact .inr ⟨[], r, rfl, by simp, by simp [Lib.index]⟩
    · have hp : ([c].isPrefixOf (b :: r)) = false := by
        show ((c == b) && List.isPrefixOf [] r) = false
        simp [hb]
      rcases index_byte c r with ⟨h1, h2⟩ | ⟨w, t, h1, h2, h3⟩
      · exact .inl ⟨by simp [hb, h1], by simp [Lib.index, hp, h2, hb]⟩
      · refine .inr ⟨b :: w, t, by rw [h1]; rfl, by simp [hb, h2], ?_⟩
        have : ¬ ((w.length : Int) = -1) := by omega
        simp [Lib.index, hp, h3, this, hb]
theorem count_word {c : UInt8} {s : List UInt8} (h : c ∉ s) : s.count c = 0 := List.count_eq_zero.2 h
theorem splitK_cuts (c : UInt8) : ∀ (k : Nat) (s : List UInt8), s.count c = k → Lib.splitK [c] 0 k s = cuts c s
  | 0, s, h => by
    have : c ∉ s := List.count_eq_zero.1 h
    rw [Lib.splitK, cuts_word this]
  | k + 1, s, h => by
    rcases index_byte c s with ⟨h1, h2⟩ | ⟨w, t, rfl, h2, h3⟩
    · rw [count_word h1] at h; cases h
    · rw [Lib.splitK, h3, if_neg (by simp), cuts_more h2]
      have e1 : ((w.length : Int)).toNat = w.length := by omega
      rw [e1, List.length_singleton]
      have e2 : (w ++ c :: t).take (w.length + 0) = w := by simp
      have e3 : (w ++ c :: t).drop (w.length + 1) = t := by
        rw [List.drop_append, List.drop_eq_nil_of_le (by omega)]
        simp
      rw [e2, e3, splitK_cuts c k t (by
        rw [List.count_append, count_word h2, List.count_cons_self] at h
        omega)]
theorem cut_hit {c : UInt8} {w t : List UInt8} (h : c ∉ w) : Lib.cut (w ++ c :: t) [c] = (w, t, true) := by
  rcases index_byte c (w ++ c :: t) with ⟨h1, _⟩ | ⟨w', t', e, h2, h3⟩
  · exact absurd (by simp) h1
  · have := cuts_more (t := t) h
    rw [e, cuts_more h2] at this
    injection this with e1 e2
    subst e1
    have e4 : t' = t := by simpa using e.symm
    subst e4
    have e1 : ((w'.length : Int)).toNat = w'.length := by omega
    rw [Lib.cut, h3, if_pos (by omega), e1]
    simp [List.drop_append]
theorem cut_miss {c : UInt8} {s : List UInt8} (h : c ∉ s) : Lib.cut s [c] = (s, [], false) := by
  rcases index_byte c s with ⟨_, h2⟩ | ⟨w, t, e, _, _⟩
  · rw [Lib.cut, h2, if_neg (by decide)]
  · exact absurd (by rw [e]; simp) h
theorem cut_cases (c : UInt8) (s : List UInt8) : (c ∉ s ∧ Lib.cut s [c] = (s, [], false)) ∨ ∃ w t, s = w ++ c :: t ∧ c ∉ w ∧ Lib.cut s [c] = (w, t, true) := by
  rcases index_byte c s with ⟨h1, _⟩ | ⟨w, t, e, h2, _⟩
  · exact .inl ⟨h1, cut_miss h1⟩
  · exact .inr ⟨w, t, e, h2, by rw [e]; exact cut_hit h2⟩

/-! ### Numbers -/
theorem parse_snoc : ∀ (l : List UInt8) (acc : Nat) (d : UInt8), Lib.parseUint10 acc (l ++ [d]) = match Lib.parseUint10 acc l with | .ok a => Lib.parseUint10 a [d] | e => e
  | [], acc, d => by simp [Lib.parseUint10]
  | c :: r, acc, d => by
    rw [List.cons_append, Lib.parseUint10, Lib.parseUint10]
    split
    · split
      · rfl
      · split
        · rfl
        · exact parse_snoc r _ d
    · rfl
theorem digit_nat {k : Nat} (h : k < 10) : (UInt8.ofNat (48 + k)).toNat = 48 + k := by
  rw [UInt8.toNat_ofNat']
  omega
theorem parse_digits : ∀ (u : Nat), u < 18446744073709551616 → Lib.parseUint10 0 (Lib.decDigits u) = .ok u := by
  intro u
  induction u using Nat.strongRecOn with
  | _ u ih =>
    intro hu
    unfold Lib.decDigits
    split
    · rename_i h
      rw [Lib.parseUint10, digit_nat h, if_pos (by omega), if_neg (by omega), if_neg (by omega), Lib.parseUint10]
      congr 1; omega
    · rename_i h
      rw [parse_snoc, ih (u / 10) (by omega) (by omega)]
      dsimp only
      rw [Lib.parseUint10, digit_nat (Nat.mod_lt _ (by omega)), if_pos (by omega), if_neg (by omega), if_neg (by omega), Lib.parseUint10]
      congr 1; omega
theorem decDigits_bytes : ∀ (u : Nat), ∀ b ∈ Lib.decDigits u, 48 ≤ b.toNat ∧ b.toNat ≤ 57 := by
  intro u
  induction u using Nat.strongRecOn with
  | _ u ih =>
    intro b hb
    unfold Lib.decDigits at hb
    split at hb
    · rename_i h
      simp only [List.mem_singleton] at hb
      subst hb
      rw [digit_nat h]; omega
    · rename_i h
      rcases List.mem_append.1 hb with hb | hb
      · exact ih _ (by omega) b hb
      · simp only [List.mem_singleton] at hb
        subst hb
        rw [digit_nat (Nat.mod_lt _ (by omega))]; omega
theorem decDigits_ne (u : Nat) : Lib.decDigits u ≠ [] := by
  unfold Lib.decDigits; split <;> simp
theorem itoa_bytes (n : Int) : ∀ b ∈ Lib.itoa n, b.toNat = 45 ∨ 48 ≤ b.toNat ∧ b.toNat ≤ 57 := by
  intro b hb
  unfold Lib.itoa at hb
  split at hb
  · rcases List.mem_cons.1 hb with rfl | hb
    · exact .inl rfl
    · exact .inr (decDigits_bytes _ b hb)
  · exact .inr (decDigits_bytes _ b hb)
theorem itoa_ne (n : Int) : Lib.itoa n ≠ [] := by
  unfold Lib.itoa
  split
  · simp
  · exact decDigits_ne _
theorem itoa_not {c : UInt8} (n : Int) (h1 : c.toNat ≠ 45) (h2 : c.toNat < 48 ∨ 57 < c.toNat) : c ∉ Lib.itoa n := fun h => by
  rcases itoa_bytes n c h with h | h
  · exact h1 h
  · omega
theorem atoi_itoa {n : Int} (h0 : -9223372036854775808 ≤ n) (h1 : n ≤ 9223372036854775807) : Lib.atoiAll (Lib.itoa n) = .ok n := by
  unfold Lib.itoa
  split
  · rename_i h
    rw [Lib.atoiAll_minus, Lib.parseMag, if_neg (decDigits_ne _), parse_digits _ (by omega), Lib.signed]
    rw [if_neg (by omega)]
    congr 1; omega
  · rename_i h
    have hb := decDigits_bytes n.toNat
    have hp : Lib.parseMag (Lib.decDigits n.toNat) = .ok n.toNat := by rw [Lib.parseMag, if_neg (decDigits_ne _), parse_digits _ (by omega)]
    cases hd : Lib.decDigits n.toNat with
    | nil => exact absurd hd (decDigits_ne _)
    | cons c r =>
      rw [hd] at hb hp
      have := hb c (by simp)
      rw [Lib.atoiAll_plain c r (by omega) (by omega), hp, Lib.signless, if_neg (by omega)]
      congr 1; omega
/-- The number that a word writes, if it is written just so. -/
def num (s : List UInt8) : Option Int :=
  match Lib.atoiAll s with
  | .ok v => if Lib.itoa v = s then some v else none
  | _ => none
theorem num_itoa {n : Int} (h0 : -9223372036854775808 ≤ n) (h1 : n ≤ 9223372036854775807) : num (Lib.itoa n) = some n := by
  rw [num, atoi_itoa h0 h1]; simp
theorem num_some {s : List UInt8} {n : Int} (h : num s = some n) : Lib.itoa n = s ∧ -9223372036854775808 ≤ n ∧ n ≤ 9223372036854775807 := by
  unfold num at h
  split at h
  · rename_i v hv
    split at h
    · rename_i e
      obtain rfl := Option.some.inj h
      exact ⟨e, Lib.atoiAll_bounds hv⟩
    · cases h
  · cases h
theorem itoa_inj {m n : Int} (hm0 : -9223372036854775808 ≤ m) (hm1 : m ≤ 9223372036854775807) (hn0 : -9223372036854775808 ≤ n) (hn1 : n ≤ 9223372036854775807) (h : Lib.itoa m = Lib.itoa n) : m = n := by
  have := num_itoa hm0 hm1
  rw [h, num_itoa hn0 hn1] at this
  exact (Option.some.inj this).symm
theorem itoa_short {n : Int} (h0 : 0 ≤ n) (h1 : n ≤ 99) : (Lib.itoa n).length ≤ 2 := by
  unfold Lib.itoa
  rw [if_neg (by omega), Lib.decDigits_length]
  by_cases h : n.toNat < 10
  · rw [Lib.nDigits_small h]; omega
  · rw [Lib.nDigits_big h, Lib.nDigits_small (by omega)]; omega
theorem itoa_short3 {n : Int} (h0 : 0 ≤ n) (h1 : n ≤ 999) : (Lib.itoa n).length ≤ 3 := by
  unfold Lib.itoa
  rw [if_neg (by omega), Lib.decDigits_length]
  by_cases h : n.toNat < 10
  · rw [Lib.nDigits_small h]; omega
  · rw [Lib.nDigits_big h]
    by_cases h2 : n.toNat / 10 < 10
    · rw [Lib.nDigits_small h2]; omega
    · rw [Lib.nDigits_big h2, Lib.nDigits_small (by omega)]; omega
end Go.Vg
