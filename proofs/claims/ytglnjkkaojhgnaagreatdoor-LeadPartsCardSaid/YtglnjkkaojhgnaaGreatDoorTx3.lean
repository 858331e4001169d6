/- Plain laws of texts: locks and records as they are written and read. -/
import Derived.Test.YtglnjkkaojhgnaaGreatDoorTx
import Derived.Test.YtglnjkkaojhgnaaGreatDoorC9
set_option linter.unusedSimpArgs false
set_option linter.unusedVariables false
namespace Go.Vg
open Go

/-! ### Locks -/
def wordOf (p : Pin) : List UInt8 := Lib.itoa p.name ++ 64 :: Lib.itoa p.ver
def lockText (l : List Pin) : List UInt8 := joinB 44 (l.map wordOf)
def readPin (w : List UInt8) : Option Pin :=
  if (Lib.cut w [64]).2.2 = true then
    (match num (Lib.cut w [64]).1, num (Lib.cut w [64]).2.1 with
     | some n, some v => some ⟨n, v⟩
     | _, _ => none)
  else none
def readPins : List (List UInt8) → Option (List Pin)
  | [] => some []
  | w :: ws => match readPin w with
    | none => none
    | some p => (readPins ws).map (p :: ·)
def readWords (s : List UInt8) : Option (List Pin) := if s = [] then some [] else readPins (cuts 44 s)
def lockRead (s : List UInt8) : Except Int (List Pin) :=
  match readWords s with
  | none => .error 1
  | some l => if lockCheck l = 0 then .ok l else .error (lockCheck l)
theorem pin_range {l : List Pin} (h : lockCheck l = 0) {p : Pin} (hp : p ∈ l) : 1 ≤ p.name ∧ p.name ≤ 20 ∧ 1 ≤ p.ver ∧ p.ver ≤ 99 := (lockCheck_zero.1 h).1.name hp
theorem readPin_word {p : Pin} (h1 : 1 ≤ p.name ∧ p.name ≤ 20 ∧ 1 ≤ p.ver ∧ p.ver ≤ 99) : readPin (wordOf p) = some p := by
  unfold readPin wordOf
  rw [cut_hit (itoa_not _ (by decide) (by decide))]
  dsimp only
  rw [num_itoa (by omega) (by omega), num_itoa (by omega) (by omega)]
  rfl
theorem word_of_readPin {w : List UInt8} {p : Pin} (h : readPin w = some p) : wordOf p = w := by
  unfold readPin at h
  rcases cut_cases 64 w with ⟨_, e⟩ | ⟨a, b, rfl, h2, e⟩
  · rw [e] at h; simp at h
  · rw [e] at h
    dsimp only at h
    rw [if_pos rfl] at h
    split at h
    · rename_i n v hn hv
      obtain rfl := Option.some.inj h
      rw [wordOf, (num_some hn).1, (num_some hv).1]
    · cases h
theorem word_bytes {p : Pin} {c : UInt8} (h1 : c.toNat ≠ 45) (h2 : c.toNat < 48 ∨ 57 < c.toNat) (h3 : c ≠ 64) : c ∉ wordOf p := by
  unfold wordOf
  simp only [List.mem_append, List.mem_cons, not_or]
  exact ⟨itoa_not _ h1 h2, h3, itoa_not _ h1 h2⟩
theorem readPins_words : ∀ {l : List Pin}, (∀ p ∈ l, 1 ≤ p.name ∧ p.name ≤ 20 ∧ 1 ≤ p.ver ∧ p.ver ≤ 99) → readPins (l.map wordOf) = some l
  | [], _ => rfl
  | p :: r, h => by
    rw [List.map_cons, readPins, readPin_word (h p (by simp)), readPins_words fun q hq => h q (by simp [hq])]
    rfl
theorem words_of_readPins : ∀ {ws : List (List UInt8)} {l : List Pin}, readPins ws = some l → l.map wordOf = ws
  | [], l, h => by obtain rfl := Option.some.inj h; rfl
  | w :: ws, l, h => by
    rw [readPins] at h
    split at h
    · cases h
    · rename_i p hp
      obtain ⟨m, hm, rfl⟩ := Option.map_eq_some_iff.1 h
      rw [List.map_cons, word_of_readPin hp, words_of_readPins hm]
theorem wordOf_ne (p : Pin) : wordOf p ≠ [] := by unfold wordOf; simp
theorem lockText_nil {l : List Pin} : lockText l = [] ↔ l = [] := by
  unfold lockText
  cases l with
  | nil => simp [joinB]
  | cons p r => simp [joinB, wordOf_ne]
theorem readWords_text {l : List Pin} (h : ∀ p ∈ l, 1 ≤ p.name ∧ p.name ≤ 20 ∧ 1 ≤ p.ver ∧ p.ver ≤ 99) : readWords (lockText l) = some l := by
  unfold readWords
  by_cases hl : l = []
  · subst hl; rfl
  · rw [if_neg fun e => hl (lockText_nil.1 e), lockText, cuts_joinB (by simpa using hl) fun w hw => by
      obtain ⟨p, _, rfl⟩ := List.mem_map.1 hw
      exact word_bytes (by decide) (by decide) (by decide), readPins_words h]
theorem text_of_readWords {s : List UInt8} {l : List Pin} (h : readWords s = some l) : lockText l = s := by
  unfold readWords at h
  split at h
  · rename_i e
    obtain rfl := Option.some.inj h
    rw [e]; rfl
  · rw [lockText, words_of_readPins h, joinB_cuts]
theorem lockRead_text {l : List Pin} (h : lockCheck l = 0) : lockRead (lockText l) = .ok l := by
  rw [lockRead, readWords_text fun p hp => pin_range h hp]
  dsimp only
  rw [if_pos h]
theorem lockRead_ok {s : List UInt8} {l : List Pin} (h : lockRead s = .ok l) : lockText l = s ∧ lockCheck l = 0 := by
  unfold lockRead at h
  split at h
  · cases h
  · rename_i m hm
    split at h
    · rename_i h0
      obtain rfl := Except.ok.inj h
      exact ⟨text_of_readWords hm, h0⟩
    · cases h
theorem lockRead_err {s : List UInt8} {e : Int} (h : lockRead s = .error e) : e ≠ 0 := by
  unfold lockRead at h
  split at h
  · obtain rfl := Except.error.inj h; decide
  · split at h
    · cases h
    · rename_i h0
      obtain rfl := Except.error.inj h; exact h0
theorem lockText_inj {l m : List Pin} (hl : lockCheck l = 0) (hm : lockCheck m = 0) (h : lockText l = lockText m) : l = m := by
  have := lockRead_text hl
  rw [h, lockRead_text hm] at this
  exact (Except.ok.inj this).symm
theorem word_len {p : Pin} (h : 1 ≤ p.name ∧ p.name ≤ 20 ∧ 1 ≤ p.ver ∧ p.ver ≤ 99) : (wordOf p).length ≤ 5 := by
  unfold wordOf
  have h1 := itoa_short (n := p.name) (by omega) (by omega)
  have h2 := itoa_short (n := p.ver) (by omega) (by omega)
  simp; omega
theorem flat_words : ∀ {ws : List (List UInt8)} {k : Nat}, (∀ w ∈ ws, w.length ≤ k) → (ws.flatMap fun x => (44 : UInt8) :: x).length ≤ ws.length * (k + 1)
  | [], k, _ => by simp
  | w :: r, k, h => by
    have h1 := h w (by simp)
    have h2 := flat_words (ws := r) (k := k) fun x hx => h x (by simp [hx])
    simp only [List.flatMap_cons, List.length_append, List.length_cons, Nat.succ_mul]
    omega
theorem lockText_len {l : List Pin} (h : lockCheck l = 0) : (lockText l).length ≤ 72 := by
  have h1 := (lockCheck_zero.1 h).2
  unfold lockText
  cases l with
  | nil => simp [joinB]
  | cons p r =>
    have hw : ∀ w ∈ r.map wordOf, w.length ≤ 5 := fun w hw => by
      obtain ⟨q, hq, rfl⟩ := List.mem_map.1 hw
      exact word_len (pin_range h (by simp [hq]))
    have h2 := flat_words hw
    have h3 := word_len (pin_range h (p := p) (by simp))
    simp only [List.map_cons, joinB, List.length_append, List.length_map] at h2 ⊢
    simp at h1
    omega
theorem lockText_byte {l : List Pin} {c : UInt8} (h1 : c.toNat ≠ 45) (h2 : c.toNat < 48 ∨ 57 < c.toNat) (h3 : c ≠ 64) (h4 : c ≠ 44) : c ∉ lockText l := by
  unfold lockText
  cases l with
  | nil => simp [joinB]
  | cons p r =>
    simp only [List.map_cons, joinB, List.mem_append, List.mem_flatMap, List.mem_cons, not_or, not_exists, not_and, List.mem_map]
    refine ⟨word_bytes h1 h2 h3, ?_⟩
    rintro w ⟨q, _, rfl⟩
    exact ⟨h4, word_bytes h1 h2 h3⟩

/-! ### Records -/
def goodNo (b : Bool) : Int := if b = true then 1 else 0
def recNums (r : Recd) : List Int := [r.kind, r.agent, r.try_, r.num, goodNo r.good, r.rel.id]
def recText (r : Recd) : List UInt8 := (recNums r).flatMap (fun n => Lib.itoa n ++ [32]) ++ 61 :: lockText r.rel.lock
/-- The numbers of the first words. -/
def nums : List (List UInt8) → Option (List Int)
  | [] => some []
  | w :: ws => match num w with
    | none => none
    | some n => (nums ws).map (n :: ·)
def recRead (s : List UInt8) : Except Int Recd :=
  match cuts 32 s with
  | [w0, w1, w2, w3, w4, w5, w6] =>
    if w6.head? = some 61 then
      (match nums [w0, w1, w2, w3, w4, w5] with
       | some [k, a, tr, n, g, id] =>
         if g < 0 ∨ 1 < g then .error 1 else
         (match lockRead (w6.drop 1) with
          | .error e => .error e
          | .ok l => let r : Recd := ⟨k, a, tr, n, decide (g = 1), ⟨id, l⟩⟩
            if recErr r = 0 then .ok r else .error (recErr r))
       | _ => .error 1)
    else .error 1
  | _ => .error 1
theorem recErr_lock {r : Recd} (h : recErr r = 0) : lockCheck r.rel.lock = 0 := by
  unfold recErr at h
  split at h
  · omega
  · rename_i hk
    split at h
    · omega
    · rename_i hf
      split at h
      · omega
      · split at h
        · have := (relErr_zero h).2
          exact lockCheck_zero.2 this
        · rename_i hn
          unfold recForm at hf
          have : noRel r.rel := Decidable.byContradiction fun hx => hf (.inr (.inr (.inr (.inr ⟨hx, hn⟩))))
          rw [this.2]; rfl
theorem recErr_nums {r : Recd} (h : recErr r = 0) : ∀ n ∈ recNums r, 0 ≤ n ∧ n ≤ 200 := by
  unfold recErr at h
  split at h
  · omega
  · rename_i hk
    split at h
    · omega
    · rename_i hf
      split at h
      · omega
      · rename_i hr
        have hid : 0 ≤ r.rel.id ∧ r.rel.id ≤ 6 := by
          split at h
          · have := (relErr_zero h).1; omega
          · rename_i hn
            have : noRel r.rel := Decidable.byContradiction fun hx => hf (by unfold recForm; exact .inr (.inr (.inr (.inr ⟨hx, hn⟩))))
            have := this.1; omega
        unfold recForm at hf
        unfold recRange at hr
        have hg : 0 ≤ goodNo r.good ∧ goodNo r.good ≤ 1 := by unfold goodNo; split <;> omega
        simp only [not_or, not_and, Decidable.not_not] at hf hr
        simp only [recNums, List.mem_cons, List.not_mem_nil, or_false]
        rintro n (rfl | rfl | rfl | rfl | rfl | rfl) <;> omega
theorem recText_words (r : Recd) : recText r = joinB 32 ((recNums r).map Lib.itoa ++ [61 :: lockText r.rel.lock]) := by
  simp [recText, recNums, joinB]
theorem nums_itoa : ∀ {l : List Int}, (∀ n ∈ l, -9223372036854775808 ≤ n ∧ n ≤ 9223372036854775807) → nums (l.map Lib.itoa) = some l
  | [], _ => rfl
  | n :: r, h => by
    rw [List.map_cons, nums, num_itoa (h n (by simp)).1 (h n (by simp)).2, nums_itoa fun m hm => h m (by simp [hm])]
    rfl
theorem itoa_of_nums : ∀ {ws : List (List UInt8)} {l : List Int}, nums ws = some l → l.map Lib.itoa = ws
  | [], l, h => by obtain rfl := Option.some.inj h; rfl
  | w :: ws, l, h => by
    rw [nums] at h
    split at h
    · cases h
    · rename_i n hn
      obtain ⟨m, hm, rfl⟩ := Option.map_eq_some_iff.1 h
      rw [List.map_cons, (num_some hn).1, itoa_of_nums hm]
theorem recText_cuts (r : Recd) : cuts 32 (recText r) = [Lib.itoa r.kind, Lib.itoa r.agent, Lib.itoa r.try_, Lib.itoa r.num, Lib.itoa (goodNo r.good), Lib.itoa r.rel.id, 61 :: lockText r.rel.lock] := by
  rw [recText_words, cuts_joinB (by simp)]
  · rfl
  · intro w hw
    rcases List.mem_append.1 hw with hw | hw
    · obtain ⟨n, _, rfl⟩ := List.mem_map.1 hw
      exact itoa_not _ (by decide) (by decide)
    · simp only [List.mem_singleton] at hw
      subst hw
      simp only [List.mem_cons, not_or]
      exact ⟨by decide, lockText_byte (by decide) (by decide) (by decide) (by decide)⟩
theorem recRead_text {r : Recd} (h : recErr r = 0) : recRead (recText r) = .ok r := by
  have hn := recErr_nums h
  have hg : goodNo r.good = 0 ∨ goodNo r.good = 1 := by unfold goodNo; split <;> simp
  have h5 := nums_itoa (l := recNums r) fun n hm => by have := hn n hm; omega
  simp only [recNums, List.map_cons, List.map_nil] at h5
  unfold recRead
  rw [recText_cuts]
  dsimp only
  rw [if_pos (by rfl), h5]
  dsimp only
  rw [if_neg (by omega), List.drop_succ_cons, List.drop_zero, lockRead_text (recErr_lock h)]
  have he : (⟨r.kind, r.agent, r.try_, r.num, decide (goodNo r.good = 1), ⟨r.rel.id, r.rel.lock⟩⟩ : Recd) = r := by
    have : decide (goodNo r.good = 1) = r.good := by unfold goodNo; cases r.good <;> simp
    rw [this]
  dsimp only
  rw [he, if_pos h]
theorem recRead_ok {s : List UInt8} {r : Recd} (h : recRead s = .ok r) : recText r = s ∧ recErr r = 0 := by
  unfold recRead at h
  split at h
  · rename_i w0 w1 w2 w3 w4 w5 w6 hc
    split at h
    case isFalse => cases h
    rename_i h61
    obtain ⟨t, rfl⟩ : ∃ t, w6 = 61 :: t := by
      cases w6 with
      | nil => cases h61
      | cons x t => exact ⟨t, by simp at h61; rw [h61]⟩
    rw [List.drop_succ_cons, List.drop_zero] at h
    split at h
    · rename_i k a tr n g id hn
      split at h
      · cases h
      · rename_i hg
        split at h
        · cases h
        · rename_i l hl
          dsimp only at h
          split at h
          · rename_i h0
            obtain rfl := Except.ok.inj h
            refine ⟨?_, h0⟩
            have e1 := itoa_of_nums hn
            have e2 := (lockRead_ok hl).1
            have e3 : goodNo (decide (g = 1)) = g := by
              unfold goodNo
              by_cases e : g = 1
              · simp [e]
              · simp [e]; omega
            rw [recText_words, ← joinB_cuts 32 s, hc]
            simp only [List.map_cons, List.map_nil] at e1
            simp only [recNums, e3, List.map_cons, List.map_nil, e2]
            rw [show ∀ (a b c d e f g : List UInt8), [a, b, c, d, e, f] ++ [g] = [a, b, c, d, e, f, g] from fun _ _ _ _ _ _ _ => rfl]
            injection e1 with a1 e1
            injection e1 with a2 e1
            injection e1 with a3 e1
            injection e1 with a4 e1
            injection e1 with a5 e1
            injection e1 with a6 e1
            rw [a1, a2, a3, a4, a5, a6]
          · cases h
    · cases h
  · cases h
theorem recRead_err {s : List UInt8} {e : Int} (h : recRead s = .error e) : e ≠ 0 := by
  unfold recRead at h
  split at h
  · split at h
    · split at h
      · split at h
        · obtain rfl := Except.error.inj h; decide
        · split at h
          · rename_i hl
            obtain rfl := Except.error.inj h
            exact lockRead_err hl
          · dsimp only at h
            split at h
            · cases h
            · rename_i h0
              obtain rfl := Except.error.inj h; exact h0
      · obtain rfl := Except.error.inj h; decide
    · obtain rfl := Except.error.inj h; decide
  · obtain rfl := Except.error.inj h; decide
theorem recText_inj {r q : Recd} (hr : recErr r = 0) (hq : recErr q = 0) (h : recText r = recText q) : r = q := by
  have := recRead_text hr
  rw [h, recRead_text hq] at this
  exact (Except.ok.inj this).symm
theorem recText_len {r : Recd} (h : recErr r = 0) : (recText r).length ≤ 97 := by
  have hn := recErr_nums h
  have h1 := lockText_len (recErr_lock h)
  have h2 : ∀ n ∈ recNums r, (Lib.itoa n).length ≤ 3 := fun n hm => itoa_short3 (hn n hm).1 (by have := (hn n hm).2; omega)
  simp only [recNums, List.mem_cons, List.not_mem_nil, or_false] at h2
  have a1 := h2 _ (.inl rfl)
  have a2 := h2 _ (.inr (.inl rfl))
  have a3 := h2 _ (.inr (.inr (.inl rfl)))
  have a4 := h2 _ (.inr (.inr (.inr (.inl rfl))))
  have a5 := h2 _ (.inr (.inr (.inr (.inr (.inl rfl)))))
  have a6 := h2 _ (.inr (.inr (.inr (.inr (.inr rfl)))))
  simp [recText, recNums]
  omega
theorem recText_line {r : Recd} : (10 : UInt8) ∉ recText r := by
  simp only [recText, List.mem_append, List.mem_flatMap, List.mem_cons, List.not_mem_nil, or_false, not_or, not_exists, not_and]
  refine ⟨fun n _ => ⟨itoa_not _ (by decide) (by decide), by decide⟩, by decide, lockText_byte (by decide) (by decide) (by decide) (by decide)⟩
end Go.Vg
set_option linter.unusedSimpArgs false
set_option linter.unusedVariables false
namespace Go.Vg
open Go

/-! ### Lines -/
/-- Records of the words of a text that was cut at its line ends (k: so many are there already): these; how many bytes; what is wrong with the next one. -/
def linesW (most : Nat) : Nat → List (List UInt8) → List Recd × Nat × Int
  | _, [] => ([], 0, 0)
  | _, [w] => ([], 0, if w = [] then 0 else 9)
  | k, w :: x :: ws =>
    match recRead w with
    | .error e => ([], 0, e)
    | .ok r => if k = most then ([], 0, 2) else (r :: (linesW most (k + 1) (x :: ws)).1, w.length + 1 + (linesW most (k + 1) (x :: ws)).2.1, (linesW most (k + 1) (x :: ws)).2.2)
def linesF (most k : Nat) (s : List UInt8) : List Recd × Nat × Int := linesW most k (cuts 10 s)
theorem linesF_nil {most k : Nat} : linesF most k [] = ([], 0, 0) := rfl
theorem linesF_torn {most k : Nat} {s : List UInt8} (h : (10 : UInt8) ∉ s) (hs : s ≠ []) : linesF most k s = ([], 0, 9) := by
  rw [linesF, cuts_word h, linesW, if_neg hs]
theorem linesF_line {most k : Nat} {w t : List UInt8} (h : (10 : UInt8) ∉ w) : linesF most k (w ++ 10 :: t) = match recRead w with
    | .error e => ([], 0, e)
    | .ok r => if k = most then ([], 0, 2) else (r :: (linesF most (k + 1) t).1, w.length + 1 + (linesF most (k + 1) t).2.1, (linesF most (k + 1) t).2.2) := by
  rw [linesF, cuts_more h]
  unfold linesF
  cases hc : cuts 10 t with
  | nil => exact absurd hc (cuts_ne 10 t)
  | cons x ws => rfl
theorem linesF_err {most k : Nat} {w t : List UInt8} {e : Int} (h : (10 : UInt8) ∉ w) (hr : recRead w = .error e) : linesF most k (w ++ 10 :: t) = ([], 0, e) := by
  rw [linesF_line h, hr]
theorem linesF_many {most : Nat} {w t : List UInt8} {r : Recd} (h : (10 : UInt8) ∉ w) (hr : recRead w = .ok r) : linesF most most (w ++ 10 :: t) = ([], 0, 2) := by
  rw [linesF_line h, hr]; simp
theorem linesF_more {most k : Nat} {w t : List UInt8} {r : Recd} (h : (10 : UInt8) ∉ w) (hr : recRead w = .ok r) (hk : k ≠ most) :
    linesF most k (w ++ 10 :: t) = (r :: (linesF most (k + 1) t).1, w.length + 1 + (linesF most (k + 1) t).2.1, (linesF most (k + 1) t).2.2) := by
  rw [linesF_line h, hr]; simp [hk]
/-- Records as lines. -/
def recsText (rs : List Recd) : List UInt8 := rs.flatMap fun r => recText r ++ [10]
theorem recsText_cons {r : Recd} {rs : List Recd} : recsText (r :: rs) = recText r ++ 10 :: recsText rs := by simp [recsText]
theorem recsText_app {rs qs : List Recd} : recsText (rs ++ qs) = recsText rs ++ recsText qs := by simp [recsText]
theorem linesF_recs {most : Nat} : ∀ {rs : List Recd} {k : Nat} {t : List UInt8}, (∀ r ∈ rs, recErr r = 0) → k + rs.length ≤ most → (10 : UInt8) ∉ t →
    linesF most k (recsText rs ++ t) = (rs, (recsText rs).length, if t = [] then 0 else 9)
  | [], k, t, _, _, ht => by
    rw [show recsText [] ++ t = t from rfl, linesF, cuts_word ht]
    rfl
  | r :: rs, k, t, h, hk, ht => by
    have hl : (r :: rs).length = rs.length + 1 := rfl
    rw [recsText_cons, List.append_assoc, List.cons_append, linesF_more recText_line (recRead_text (h r (by simp))) (by omega), linesF_recs (fun q hq => h q (by simp [hq])) (by omega) ht]
    simp [recsText]
    omega
/-- All that lines give are records; as many as may be; and where nothing is wrong the text is theirs. -/
theorem linesF_ok {most : Nat} : ∀ (n : Nat) {s : List UInt8} {k : Nat}, s.length ≤ n → k ≤ most → (∀ r ∈ (linesF most k s).1, recErr r = 0) ∧ k + (linesF most k s).1.length ≤ most ∧
    (linesF most k s).2.1 ≤ s.length ∧ s.take (linesF most k s).2.1 = recsText (linesF most k s).1 ∧ ((linesF most k s).2.2 = 0 → (linesF most k s).2.1 = s.length)
  | 0, s, k, hn, hk => by
    obtain rfl : s = [] := List.length_eq_zero_iff.1 (by omega)
    rw [linesF_nil]
    exact ⟨by simp, by simpa using hk, by simp, rfl, fun _ => rfl⟩
  | n + 1, s, k, hn, hk => by
    rcases cut_cases 10 s with ⟨h1, _⟩ | ⟨w, t, rfl, hw, _⟩
    · by_cases hs : s = []
      · subst hs; rw [linesF_nil]
        exact ⟨by simp, by simpa using hk, by simp, rfl, fun _ => rfl⟩
      · rw [linesF_torn h1 hs]
        exact ⟨by simp, by simpa using hk, by simp, rfl, fun h => by cases h⟩
    · cases hr : recRead w with
      | error e =>
        rw [linesF_err hw hr]
        exact ⟨by simp, by simpa using hk, by simp, rfl, fun h => absurd h (recRead_err hr)⟩
      | ok r =>
        by_cases hkm : k = most
        · subst hkm
          rw [linesF_many hw hr]
          exact ⟨by simp, by simp, by simp, rfl, fun h => by cases h⟩
        · rw [linesF_more hw hr hkm]
          have hl : (w ++ 10 :: t).length = w.length + 1 + t.length := by simp; omega
          obtain ⟨i1, i2, i3, i4, i5⟩ := linesF_ok (most := most) n (s := t) (k := k + 1) (by omega) (by omega)
          obtain ⟨hr1, hr2⟩ := recRead_ok hr
          refine ⟨fun q hq => ?_, ?_, ?_, ?_, fun h => ?_⟩
          · rcases List.mem_cons.1 hq with rfl | hq
            · exact hr2
            · exact i1 q hq
          · simp only [List.length_cons]; omega
          · dsimp only; omega
          · dsimp only
            rw [recsText_cons, hr1, ← i4]
            rw [show w ++ 10 :: t = (w ++ [10]) ++ t from by simp, List.take_append, show w ++ 10 :: t.take (linesF most (k + 1) t).2.1 = (w ++ [10]) ++ t.take (linesF most (k + 1) t).2.1 from by simp]
            congr 1
            · rw [List.take_of_length_le (by simp)]
            · congr 1; simp
          · dsimp only at h ⊢
            have := i5 h; omega
/-- A text that lines begin with. -/
theorem recs_take : ∀ (rs : List Recd) (m : Nat), ∃ k t, k ≤ rs.length ∧ (recsText rs).take m = recsText (rs.take k) ++ t ∧ (10 : UInt8) ∉ t
  | [], m => ⟨0, [], by simp, by simp [recsText], by simp⟩
  | r :: rs, m => by
    by_cases h : m ≤ (recText r).length
    · refine ⟨0, (recText r).take m, by simp, ?_, fun h => recText_line (List.mem_of_mem_take h)⟩
      rw [recsText_cons, List.take_append_of_le_length h]
      rfl
    · obtain ⟨k, t, hk, h1, h2⟩ := recs_take rs (m - (recText r).length - 1)
      refine ⟨k + 1, t, by simp; omega, ?_, h2⟩
      rw [List.take_succ_cons, recsText_cons, recsText_cons, List.append_assoc, List.cons_append, ← h1, List.take_append, List.take_of_length_le (by omega)]
      congr 1
      rw [show m - (recText r).length = (m - (recText r).length - 1) + 1 from by omega, List.take_succ_cons]
      rfl

/-! ### Disks -/
structure Dsk where
  safe : List UInt8
  wait : List UInt8
deriving DecidableEq
def dsk0 : Dsk := ⟨[], []⟩
def dskErr (d : Dsk) : Int :=
  if 60000 < d.safe.length then 2 else if 60000 - d.safe.length < d.wait.length then 2 else (linesF 200 0 d.safe).2.2
def dskPut (d : Dsk) (r : Recd) : Except Int Dsk :=
  if dskErr d = 0 then
    (if recErr r = 0 then
      (if 60000 < d.safe.length + d.wait.length + (recText r).length + 1 then .error 2 else .ok ⟨d.safe, d.wait ++ (recText r ++ [10])⟩)
    else .error (recErr r))
  else .error (dskErr d)
def dskSync (d : Dsk) : Except Int Dsk :=
  if dskErr d = 0 then (if dskErr ⟨d.safe ++ d.wait, []⟩ = 0 then .ok ⟨d.safe ++ d.wait, []⟩ else .error (dskErr ⟨d.safe ++ d.wait, []⟩)) else .error (dskErr d)
def dskCrash (d : Dsk) (n : Int) : Except Int Dsk :=
  if dskErr d = 0 then (if n < 0 ∨ (d.wait.length : Int) < n then .error 3 else .ok ⟨d.safe, d.wait.take n.toNat⟩) else .error (dskErr d)
/-- Of what waits: whole lines of records. -/
def dskMore (d : Dsk) : List Recd × Nat × Int := linesF (200 - (linesF 200 0 d.safe).1.length) 0 d.wait
def dskBack (d : Dsk) : Dsk := ⟨d.safe ++ d.wait.take (dskMore d).2.1, []⟩
def dskRecs (d : Dsk) : List Recd := (linesF 200 0 d.safe).1 ++ (dskMore d).1
theorem dskErr_zero {d : Dsk} (h : dskErr d = 0) : d.safe.length ≤ 60000 ∧ d.safe.length + d.wait.length ≤ 60000 ∧ (linesF 200 0 d.safe).2.2 = 0 := by
  unfold dskErr at h
  split at h
  · cases h
  · split at h
    · cases h
    · exact ⟨by omega, by omega, h⟩
/-- A disk of whole lines. -/
theorem dskErr_recs {rs : List Recd} {w : List UInt8} (h : ∀ r ∈ rs, recErr r = 0) (hn : rs.length ≤ 200) (hl : (recsText rs).length + w.length ≤ 60000) : dskErr ⟨recsText rs, w⟩ = 0 := by
  have := linesF_recs (most := 200) (k := 0) (t := []) h (by omega) (by simp)
  rw [List.append_nil] at this
  unfold dskErr
  dsimp only
  rw [if_neg (by omega), if_neg (by omega), this]
  rfl
theorem lines_recs {rs : List Recd} {most : Nat} (h : ∀ r ∈ rs, recErr r = 0) (hn : rs.length ≤ most) : linesF most 0 (recsText rs) = (rs, (recsText rs).length, 0) := by
  have := linesF_recs (most := most) (k := 0) (t := []) h (by omega) (by simp)
  rw [List.append_nil] at this
  rw [this]; rfl
theorem recsText_len {rs : List Recd} (h : ∀ r ∈ rs, recErr r = 0) : (recsText rs).length ≤ rs.length * 98 := by
  induction rs with
  | nil => simp [recsText]
  | cons r t ih =>
    have h1 := recText_len (h r (by simp))
    have h2 := ih fun q hq => h q (by simp [hq])
    rw [recsText_cons]
    simp only [List.length_append, List.length_cons, Nat.succ_mul]
    omega
/-- What is wrong where too many records are on a disk. -/
theorem dskErr_more {rs : List Recd} (h : ∀ r ∈ rs, recErr r = 0) (hl : (recsText rs).length ≤ 60000) : dskErr ⟨recsText rs, []⟩ = 0 ∨ dskErr ⟨recsText rs, []⟩ = 2 := by
  by_cases hn : rs.length ≤ 200
  · exact .inl (dskErr_recs h hn (by simpa using hl))
  · right
    unfold dskErr
    dsimp only
    rw [if_neg (by omega), if_neg (by simp)]
    have key : ∀ (qs : List Recd) (k : Nat), (∀ r ∈ qs, recErr r = 0) → k ≤ 200 → 200 < k + qs.length → (linesF 200 k (recsText qs)).2.2 = 2 := by
      intro qs
      induction qs with
      | nil => intro k _ h1 h2; simp at h2; omega
      | cons q t ih =>
        intro k hq h1 h2
        rw [recsText_cons]
        by_cases hk : k = 200
        · subst hk
          rw [linesF_many recText_line (recRead_text (hq q (by simp)))]
        · rw [linesF_more recText_line (recRead_text (hq q (by simp))) hk]
          exact ih (k + 1) (fun x hx => hq x (by simp [hx])) (by omega) (by simp at h2; omega)
    exact key rs 0 h (by omega) (by omega)
/-- Records put one by one, where there is room: what waits, and which. -/
theorem dskPut_ok {d x : Dsk} {r : Recd} (h : dskPut d r = .ok x) : dskErr d = 0 ∧ recErr r = 0 ∧ d.safe.length + d.wait.length + (recText r).length + 1 ≤ 60000 ∧ x = ⟨d.safe, d.wait ++ (recText r ++ [10])⟩ := by
  unfold dskPut at h
  split at h
  · rename_i h1
    split at h
    · rename_i h2
      split at h
      · cases h
      · rename_i h3
        exact ⟨h1, h2, by omega, (Except.ok.inj h).symm⟩
    · cases h
  · cases h
/-- Whatever is kept of what was not synced. -/
theorem dsk_keeps {ps qs : List Recd} (ha : ∀ r ∈ ps, recErr r = 0) (hb : ∀ r ∈ qs, recErr r = 0) (hn : ps.length + qs.length ≤ 200) (hl : (recsText ps).length + (recsText qs).length ≤ 60000) (m : Nat) :
    ∃ k, k ≤ qs.length ∧ dskErr ⟨recsText ps, (recsText qs).take m⟩ = 0 ∧ dskRecs ⟨recsText ps, (recsText qs).take m⟩ = ps ++ qs.take k ∧ dskBack ⟨recsText ps, (recsText qs).take m⟩ = ⟨recsText (ps ++ qs.take k), []⟩ := by
  obtain ⟨k, t, hk, h1, h2⟩ := recs_take qs m
  have hlt : ((recsText qs).take m).length ≤ (recsText qs).length := by rw [List.length_take]; omega
  have hL := lines_recs (most := 200) ha (by omega)
  have hM : dskMore ⟨recsText ps, (recsText qs).take m⟩ = (qs.take k, (recsText (qs.take k)).length, if t = [] then 0 else 9) := by
    unfold dskMore
    dsimp only
    rw [hL, h1]
    exact linesF_recs (fun r hr => hb r (List.mem_of_mem_take hr)) (by simp; omega) h2
  refine ⟨k, hk, dskErr_recs ha (by omega) (by omega), ?_, ?_⟩
  · unfold dskRecs
    rw [hM]; dsimp only; rw [hL]
  · unfold dskBack
    rw [hM]; dsimp only; rw [h1, recsText_app]
    simp
theorem dsk_again {rs : List Recd} (h : ∀ r ∈ rs, recErr r = 0) (hn : rs.length ≤ 200) (hl : (recsText rs).length ≤ 60000) :
    dskErr ⟨recsText rs, []⟩ = 0 ∧ dskRecs ⟨recsText rs, []⟩ = rs ∧ dskBack ⟨recsText rs, []⟩ = ⟨recsText rs, []⟩ := by
  have hL := lines_recs (most := 200) h hn
  refine ⟨dskErr_recs h hn (by simpa using hl), ?_, ?_⟩
  · unfold dskRecs dskMore
    dsimp only
    rw [hL, linesF_nil]; simp
  · unfold dskBack; simp
end Go.Vg
