/- Plain laws of texts: lines of records; what a disk holds and does. -/
import Derived.Test.YtglnjkkaojhgnaaDoorTx2
set_option linter.unusedSimpArgs false
set_option linter.unusedVariables false
namespace Go.Vg
open Go

/-! ### Lines -/
/-- Records of the words of a text that was cut at its line ends (k: so many are there already): these; how many bytes; what is wrong with the next one. -/
def linesW (most : Nat) : Nat → List (List UInt8) → List Recd × Nat × Int
  | _, [] => ([], 0, 0)
  | _, [w] => ([], 0, if w = [] then 0 else 9)
  | k, w :: x :: ws =>
    match recRead w with
    | .error e => ([], 0, e)
    | .ok r => if k = most then ([], 0, 2) else (r :: (linesW most (k + 1) (x :: ws)).1, w.length + 1 + (linesW most (k + 1) (x :: ws)).2.1, (linesW most (k + 1) (x :: ws)).2.2)
def linesF (most k : Nat) (s : List UInt8) : List Recd × Nat × Int := linesW most k (cuts 10 s)
theorem linesF_nil {most k : Nat} : linesF most k [] = ([], 0, 0) := rfl
theorem linesF_torn {most k : Nat} {s : List UInt8} (h : (10 : UInt8) ∉ s) (hs : s ≠ []) : linesF most k s = ([], 0, 9) := by
  rw [linesF, cuts_word h, linesW, if_neg hs]
theorem linesF_line {most k : Nat} {w t : List UInt8} (h : (10 : UInt8) ∉ w) : linesF most k (w ++ 10 :: t) = match recRead w with
    | .error e => ([], 0, e)
    | .ok r => if k = most then ([], 0, 2) else (r :: (linesF most (k + 1) t).1, w.length + 1 + (linesF most (k + 1) t).2.1, (linesF most (k + 1) t).2.2) := by
  rw [linesF, cuts_more h]
  unfold linesF
  cases hc : cuts 10 t with
  | nil => exact absurd hc (cuts_ne 10 t)
  | cons x ws => rfl
theorem linesF_err {most k : Nat} {w t : List UInt8} {e : Int} (h : (10 : UInt8) ∉ w) (hr : recRead w = .error e) : linesF most k (w ++ 10 :: t) = ([], 0, e) := by
  rw [linesF_line h, hr]
theorem linesF_many {most : Nat} {w t : List UInt8} {r : Recd} (h : (10 : UInt8) ∉ w) (hr : recRead w = .ok r) : linesF most most (w ++ 10 :: t) = ([], 0, 2) := by
  rw [linesF_line h, hr]; simp
theorem linesF_more {most k : Nat} {w t : List UInt8} {r : Recd} (h : (10 : UInt8) ∉ w) (hr : recRead w = .ok r) (hk : k ≠ most) :
    linesF most k (w ++ 10 :: t) = (r :: (linesF most (k + 1) t).1, w.length + 1 + (linesF most (k + 1) t).2.1, (linesF most (k + 1) t).2.2) := by
  rw [linesF_line h, hr]; simp [hk]
/-- Records as lines. -/
def recsText (rs : List Recd) : List UInt8 := rs.flatMap fun r => recText r ++ [10]
theorem recsText_cons {r : Recd} {rs : List Recd} : recsText (r :: rs) = recText r ++ 10 :: recsText rs := by simp [recsText]
theorem recsText_app {rs qs : List Recd} : recsText (rs ++ qs) = recsText rs ++ recsText qs := by simp [recsText]
theorem linesF_recs {most : Nat} : ∀ {rs : List Recd} {k : Nat} {t : List UInt8}, (∀ r ∈ rs, recErr r = 0) → k + rs.length ≤ most → (10 : UInt8) ∉ t →
    linesF most k (recsText rs ++ t) = (rs, (recsText rs).length, if t = [] then 0 else 9)
  | [], k, t, _, _, ht => by
    rw [show recsText [] ++ t = t from rfl, linesF, cuts_word ht]
    rfl
  | r :: rs, k, t, h, hk, ht => by
    have hl : (r :: rs).length = rs.length + 1 := rfl
    rw [recsText_cons, List.append_assoc, List.cons_append, linesF_more recText_line (recRead_text (h r (by simp))) (by omega), linesF_recs (fun q hq => h q (by simp [hq])) (by omega) ht]
    simp [recsText]
    omega
/-- All that lines give are records; as many as may be; and where nothing is wrong the text is theirs. -/
theorem linesF_ok {most : Nat} : ∀ (n : Nat) {s : List UInt8} {k : Nat}, s.length ≤ n → k ≤ most → (∀ r ∈ (linesF most k s).1, recErr r = 0) ∧ k + (linesF most k s).1.length ≤ most ∧
    (linesF most k s).2.1 ≤ s.length ∧ s.take (linesF most k s).2.1 = recsText (linesF most k s).1 ∧ ((linesF most k s).2.2 = 0 → (linesF most k s).2.1 = s.length)
  | 0, s, k, hn, hk => by
    obtain rfl : s = [] := List.length_eq_zero_iff.1 (by omega)
    rw [linesF_nil]
    exact ⟨by simp, by simpa using hk, by simp, rfl, fun _ => rfl⟩
  | n + 1, s, k, hn, hk => by
    rcases cut_cases 10 s with ⟨h1, _⟩ | ⟨w, t, rfl, hw, _⟩
    · by_cases hs : s = []
      · subst hs; rw [linesF_nil]
        exact ⟨by simp, by simpa using hk, by simp, rfl, fun _ => rfl⟩
      · rw [linesF_torn h1 hs]
        exact ⟨by simp, by simpa using hk, by simp, rfl, fun h => by cases h⟩
    · cases hr : recRead w with
      | error e =>
        rw [linesF_err hw hr]
        exact ⟨by simp, by simpa using hk, by simp, rfl, fun h => absurd h (recRead_err hr)⟩
      | ok r =>
        by_cases hkm : k = most
        · subst hkm
          rw [linesF_many hw hr]
          exact ⟨by simp, by simp, by simp, rfl, fun h => by cases h⟩
        · rw [linesF_more hw hr hkm]
          have hl : (w ++ 10 :: t).length = w.length + 1 + t.length := by simp; omega
          obtain ⟨i1, i2, i3, i4, i5⟩ := linesF_ok (most := most) n (s := t) (k := k + 1) (by omega) (by omega)
          obtain ⟨hr1, hr2⟩ := recRead_ok hr
          refine ⟨fun q hq => ?_, ?_, ?_, ?_, fun h => ?_⟩
          · rcases List.mem_cons.1 hq with rfl | hq
            · exact hr2
            · exact i1 q hq
          · simp only [List.length_cons]; omega
          · dsimp only; omega
          · dsimp only
            rw [recsText_cons, hr1, ← i4]
            rw [show w ++ 10 :: t = (w ++ [10]) ++ t from by simp, List.take_append, show w ++ 10 :: t.take (linesF most (k + 1) t).2.1 = (w ++ [10]) ++ t.take (linesF most (k + 1) t).2.1 from by simp]
            congr 1
            · rw [List.take_of_length_le (by simp)]
            · congr 1; simp
          · dsimp only at h ⊢
            have := i5 h; omega
/-- A text that lines begin with. -/
theorem recs_take : ∀ (rs : List Recd) (m : Nat), ∃ k t, k ≤ rs.length ∧ (recsText rs).take m = recsText (rs.take k) ++ t ∧ (10 : UInt8) ∉ t
  | [], m => ⟨0, [], by simp, by simp [recsText], by simp⟩
  | r :: rs, m => by
    by_cases h : m ≤ (recText r).length
    · refine ⟨0, (recText r).take m, by simp, ?_, fun h => recText_line (List.mem_of_mem_take h)⟩
      rw [recsText_cons, List.take_append_of_le_length h]
      rfl
    · obtain ⟨k, t, hk, h1, h2⟩ := recs_take rs (m - (recText r).length - 1)
      refine ⟨k + 1, t, by simp; omega, ?_, h2⟩
      rw [List.take_succ_cons, recsText_cons, recsText_cons, List.append_assoc, List.cons_append, ← h1, List.take_append, List.take_of_length_le (by omega)]
      congr 1
      rw [show m - (recText r).length = (m - (recText r).length - 1) + 1 from by omega, List.take_succ_cons]
      rfl

/-! ### Disks -/
structure Dsk where
  safe : List UInt8
  wait : List UInt8
deriving DecidableEq
def dsk0 : Dsk := ⟨[], []⟩
def dskErr (d : Dsk) : Int :=
  if 60000 < d.safe.length then 2 else if 60000 - d.safe.length < d.wait.length then 2 else (linesF 200 0 d.safe).2.2
def dskPut (d : Dsk) (r : Recd) : Except Int Dsk :=
  if dskErr d = 0 then
    (if recErr r = 0 then
      (if 60000 < d.safe.length + d.wait.length + (recText r).length + 1 then .error 2 else .ok ⟨d.safe, d.wait ++ (recText r ++ [10])⟩)
    else .error (recErr r))
  else .error (dskErr d)
def dskSync (d : Dsk) : Except Int Dsk :=
  if dskErr d = 0 then (if dskErr ⟨d.safe ++ d.wait, []⟩ = 0 then .ok ⟨d.safe ++ d.wait, []⟩ else .error (dskErr ⟨d.safe ++ d.wait, []⟩)) else .error (dskErr d)
def dskCrash (d : Dsk) (n : Int) : Except Int Dsk :=
  if dskErr d = 0 then (if n < 0 ∨ (d.wait.length : Int) < n then .error 3 else .ok ⟨d.safe, d.wait.take n.toNat⟩) else .error (dskErr d)
/-- Of what waits: whole lines of records. -/
def dskMore (d : Dsk) : List Recd × Nat × Int := linesF (200 - (linesF 200 0 d.safe).1.length) 0 d.wait
def dskBack (d : Dsk) : Dsk := ⟨d.safe ++ d.wait.take (dskMore d).2.1, []⟩
def dskRecs (d : Dsk) : List Recd := (linesF 200 0 d.safe).1 ++ (dskMore d).1
theorem dskErr_zero {d : Dsk} (h : dskErr d = 0) : d.safe.length ≤ 60000 ∧ d.safe.length + d.wait.length ≤ 60000 ∧ (linesF 200 0 d.safe).2.2 = 0 := by
  unfold dskErr at h
  split at h
  · cases h
  · split at h
    · cases h
    · exact ⟨by omega, by omega, h⟩
/-- A disk of whole lines. -/
theorem dskErr_recs {rs : List Recd} {w : List UInt8} (h : ∀ r ∈ rs, recErr r = 0) (hn : rs.length ≤ 200) (hl : (recsText rs).length + w.length ≤ 60000) : dskErr ⟨recsText rs, w⟩ = 0 := by
  have := linesF_recs (most := 200) (k := 0) (t := []) h (by omega) (by simp)
  rw [List.append_nil] at this
  unfold dskErr
  dsimp only
  rw [if_neg (by omega), if_neg (by omega), this]
  rfl
theorem lines_recs {rs : List Recd} {most : Nat} (h : ∀ r ∈ rs, recErr r = 0) (hn : rs.length ≤ most) : linesF most 0 (recsText rs) = (rs, (recsText rs).length, 0) := by
  have := linesF_recs (most := most) (k := 0) (t := []) h (by omega) (by simp)
  rw [List.append_nil] at this
  rw [this]; rfl
theorem recsText_len {rs : List Recd} (h : ∀ r ∈ rs, recErr r = 0) : (recsText rs).length ≤ rs.length * 98 := by
  induction rs with
  | nil => simp [recsText]
  | cons r t ih =>
    have h1 := recText_len (h r (by simp))
    have h2 := ih fun q hq => h q (by simp [hq])
    rw [recsText_cons]
    simp only [List.length_append, List.length_cons, Nat.succ_mul]
    omega
/-- What is wrong where too many records are on a disk. -/
theorem dskErr_more {rs : List Recd} (h : ∀ r ∈ rs, recErr r = 0) (hl : (recsText rs).length ≤ 60000) : dskErr ⟨recsText rs, []⟩ = 0 ∨ dskErr ⟨recsText rs, []⟩ = 2 := by
  by_cases hn : rs.length ≤ 200
  · exact .inl (dskErr_recs h hn (by simpa using hl))
  · right
    unfold dskErr
    dsimp only
    rw [if_neg (by omega), if_neg (by simp)]
    have key : ∀ (qs : List Recd) (k : Nat), (∀ r ∈ qs, recErr r = 0) → k ≤ 200 → 200 < k + qs.length → (linesF 200 k (recsText qs)).2.2 = 2 := by
      intro qs
      induction qs with
      | nil => intro k _ h1 h2; simp at h2; omega
      | cons q t ih =>
        intro k hq h1 h2
        rw [recsText_cons]
        by_cases hk : k = 200
        · subst hk
          rw [linesF_many recText_line (recRead_text (hq q (by simp)))]
        · rw [linesF_more recText_line (recRead_text (hq q (by simp))) hk]
          exact ih (k + 1) (fun x hx => hq x (by simp [hx])) (by omega) (by simp at h2; omega)
    exact key rs 0 h (by omega) (by omega)
/-- Records put one by one, where there is room: what waits, and which. -/
theorem dskPut_ok {d x : Dsk} {r : Recd} (h : dskPut d r = .ok x) : dskErr d = 0 ∧ recErr r = 0 ∧ d.safe.length + d.wait.length + (recText r).length + 1 ≤ 60000 ∧ x = ⟨d.safe, d.wait ++ (recText r ++ [10])⟩ := by
  unfold dskPut at h
  split at h
  · rename_i h1
    split at h
    · rename_i h2
      split at h
      · cases h
      · rename_i h3
        exact ⟨h1, h2, by omega, (Except.ok.inj h).symm⟩
    · cases h
  · cases h
/-- Whatever is kept of what was not synced. -/
theorem dsk_keeps {ps qs : List Recd} (ha : ∀ r ∈ ps, recErr r = 0) (hb : ∀ r ∈ qs, recErr r = 0) (hn : ps.length + qs.length ≤ 200) (hl : (recsText ps).length + (recsText qs).length ≤ 60000) (m : Nat) :
    ∃ k, k ≤ qs.length ∧ dskErr ⟨recsText ps, (recsText qs).take m⟩ = 0 ∧ dskRecs ⟨recsText ps, (recsText qs).take m⟩ = ps ++ qs.take k ∧ dskBack ⟨recsText ps, (recsText qs).take m⟩ = ⟨recsText (ps ++ qs.take k), []⟩ := by
  obtain ⟨k, t, hk, h1, h2⟩ := recs_take qs m
  have hlt : ((recsText qs).take m).length ≤ (recsText qs).length := by rw [List.length_take]; omega
  have hL := lines_recs (most := 200) ha (by omega)
  have hM : dskMore ⟨recsText ps, (recsText qs).take m⟩ = (qs.take k, (recsText (qs.take k)).length, if t = [] then 0 else 9) := by
    unfold dskMore
    dsimp only
    rw [hL, h1]
    exact linesF_recs (fun r hr => hb r (List.mem_of_mem_take hr)) (by simp; omega) h2
  refine ⟨k, hk, dskErr_recs ha (by omega) (by omega), ?_, ?_⟩
  · unfold dskRecs
    rw [hM]; dsimp only; rw [hL]
  · unfold dskBack
    rw [hM]; dsimp only; rw [h1, recsText_app]
    simp
theorem dsk_again {rs : List Recd} (h : ∀ r ∈ rs, recErr r = 0) (hn : rs.length ≤ 200) (hl : (recsText rs).length ≤ 60000) :
    dskErr ⟨recsText rs, []⟩ = 0 ∧ dskRecs ⟨recsText rs, []⟩ = rs ∧ dskBack ⟨recsText rs, []⟩ = ⟨recsText rs, []⟩ := by
  have hL := lines_recs (most := 200) h hn
  refine ⟨dskErr_recs h hn (by simpa using hl), ?_, ?_⟩
  · unfold dskRecs dskMore
    dsimp only
    rw [hL, linesF_nil]; simp
  · unfold dskBack; simp
end Go.Vg
