/- Plain laws of waves: no program in sight. -/
import Derived.Test.YtglnjkkaojhgnaaGreatDoorRep
set_option linter.unusedSimpArgs false
set_option linter.unusedVariables false
namespace Go.Vg
open Go
/-- Is a number from one to another one? -/
def inR (n a b : Int) : Bool := decide (a ≤ n ∧ n ≤ b)
def waveIn (k : Int) : List Int → List Int → Except Int (List Int)
  | seen, [] => .ok seen
  | seen, a :: r => if a < 0 then .error 5 else if k ≤ a then .error 5 else if a ∈ seen then .error 6 else waveIn k (seen ++ [a]) r
def waveAll (k : Int) : List Int → List (List Int) → Int
  | seen, [] => if (seen.length : Int) < k then 4 else 0
  | seen, w :: r => if w = [] then 4 else match waveIn k seen w with | .error e => e | .ok s => waveAll k s r
def waveCheck (l : List (List Int)) (k : Int) : Int := if k < 1 then 3 else if 6 < k then 3 else waveAll k [] l
def refWaveAll (k : Int) : List Int → List (List Int) → Int
  | seen, [] => if (seen.length : Int) = k then 0 else 4
  | seen, w :: r => if w = [] then 4 else match waveIn k seen w with | .error e => e | .ok s => refWaveAll k s r
def refWaveCheck (l : List (List Int)) (k : Int) : Int := if inR k 1 6 = false then 3 else refWaveAll k [] l
/-- Each once, each from 0 on below k. -/
def WOk (k : Int) (s : List Int) : Prop := s.Nodup ∧ ∀ a ∈ s, 0 ≤ a ∧ a < k
theorem wok_nil (k : Int) : WOk k [] := ⟨List.nodup_nil, by simp⟩
theorem wok_snoc {k : Int} {s : List Int} (h : WOk k s) {a : Int} (h0 : 0 ≤ a) (h1 : a < k) (hn : a ∉ s) : WOk k (s ++ [a]) := by
  refine ⟨?_, fun b hb => ?_⟩
  · rw [List.nodup_append]
    refine ⟨h.1, by simp, fun x hx y hy => ?_⟩
    simp at hy; subst hy; rintro rfl; exact hn hx
  · rw [List.mem_append] at hb
    rcases hb with hb | hb
    · exact h.2 b hb
    · simp at hb; subst hb; exact ⟨h0, h1⟩
theorem nodup_len : ∀ (n : Nat) (s : List Int), s.Nodup → (∀ a ∈ s, 0 ≤ a ∧ a < n) → s.length ≤ n
  | 0, s, _, h => by
    cases s with
    | nil => simp
    | cons a r => have := h a List.mem_cons_self; omega
  | n + 1, s, hn, h => by
    by_cases hm : (n : Int) ∈ s
    · have h1 := List.length_erase_of_mem hm
      have h2 := nodup_len n (s.erase n) (hn.erase _) (fun a ha => by
        rw [hn.mem_erase_iff] at ha
        have := h a ha.2
        have := ha.1
        omega)
      have h3 : 0 < s.length := List.length_pos_of_mem hm
      omega
    · have h2 := nodup_len n s hn (fun a ha => by
        have := h a ha
        have : a ≠ n := by rintro rfl; exact hm ha
        omega)
      omega
theorem WOk.len {k : Int} {s : List Int} (h : WOk k s) (hk : 0 ≤ k) : (s.length : Int) ≤ k := by
  have := nodup_len k.toNat s h.1 (fun a ha => by have := h.2 a ha; omega)
  omega
theorem waveIn_ok {k : Int} : ∀ (w : List Int) {s s' : List Int}, WOk k s → waveIn k s w = .ok s' → s' = s ++ w ∧ WOk k s'
  | [], s, s', h, e => by simp [waveIn] at e; subst e; simp [h]
  | a :: r, s, s', h, e => by
    unfold waveIn at e
    split at e
    · cases e
    · split at e
      · cases e
      · split at e
        · cases e
        · rename_i h0 h1 h2
          obtain ⟨e1, e2⟩ := waveIn_ok r (wok_snoc h (by omega) (by omega) h2) e
          exact ⟨by rw [e1]; simp, e2⟩
theorem waveAll_ref {k : Int} (hk : 0 ≤ k) : ∀ (l : List (List Int)) {s : List Int}, WOk k s → waveAll k s l = refWaveAll k s l
  | [], s, h => by
    have := h.len hk
    unfold waveAll refWaveAll
    split <;> split <;> first | rfl | omega
  | w :: r, s, h => by
    unfold waveAll refWaveAll
    split
    · rfl
    · cases e : waveIn k s w with
      | error x => rfl
      | ok s' => exact waveAll_ref hk r (waveIn_ok w h e).2
theorem waveCheck_ref (l : List (List Int)) (k : Int) : waveCheck l k = refWaveCheck l k := by
  unfold waveCheck refWaveCheck inR
  by_cases h1 : k < 1
  · rw [if_pos h1, if_pos (by simp; omega)]
  · by_cases h2 : 6 < k
    · rw [if_neg h1, if_pos h2, if_pos (by simp; omega)]
    · rw [if_neg h1, if_neg h2, if_neg (by simp; omega)]
      exact waveAll_ref (by omega) l (wok_nil k)
theorem waveAll_zero {k : Int} (hk : 0 ≤ k) : ∀ (l : List (List Int)) {s : List Int}, WOk k s → waveAll k s l = 0 → WOk k (s ++ l.flatten) ∧ ((s ++ l.flatten).length : Int) = k ∧ ∀ w ∈ l, w ≠ []
  | [], s, h, e => by
    unfold waveAll at e
    split at e
    · omega
    · have := h.len hk
      simp only [List.flatten_nil, List.append_nil]
      exact ⟨h, by omega, by simp⟩
  | w :: r, s, h, e => by
    unfold waveAll at e
    split at e
    · omega
    · rename_i hw
      cases e2 : waveIn k s w with
      | error x =>
        rw [e2] at e
        simp only at e
        exfalso
        clear hk
        induction w generalizing s with
        | nil => simp [waveIn] at e2
        | cons a q ih =>
          unfold waveIn at e2
          split at e2
          · cases e2; omega
          · split at e2
            · cases e2; omega
            · split at e2
              · cases e2; omega
              · rename_i h0 h1 h2
                by_cases hq : q = []
                · subst hq; simp [waveIn] at e2
                · exact ih _ (wok_snoc h (by omega) (by omega) h2) hq e2
      | ok s' =>
        rw [e2] at e
        obtain ⟨e3, e4⟩ := waveIn_ok w h e2
        obtain ⟨a1, a2, a3⟩ := waveAll_zero hk r e4 e
        subst e3
        rw [List.flatten_cons, ← List.append_assoc]
        exact ⟨a1, a2, fun x hx => by
          rcases List.mem_cons.1 hx with rfl | hx
          · exact hw
          · exact a3 x hx⟩
theorem nodup_full : ∀ (n : Nat) (s : List Int), s.Nodup → (∀ a ∈ s, 0 ≤ a ∧ a < n) → s.length = n → ∀ a : Int, 0 ≤ a → a < n → a ∈ s := by
  intro n s hn h hl a h0 h1
  by_cases hm : a ∈ s
  · exact hm
  · have := nodup_len n (a :: s) (List.nodup_cons.2 ⟨hm, hn⟩) (fun b hb => by
      rcases List.mem_cons.1 hb with rfl | hb
      · exact ⟨h0, h1⟩
      · exact h b hb)
    simp at this
    omega
/-- What right waves are. -/
theorem waveCheck_zero {l : List (List Int)} {k : Int} (h : waveCheck l k = 0) : 1 ≤ k ∧ k ≤ 6 ∧ l.flatten.Nodup ∧ (∀ a : Int, a ∈ l.flatten ↔ 0 ≤ a ∧ a < k) ∧ ∀ w ∈ l, w ≠ [] := by
  unfold waveCheck at h
  split at h
  · omega
  · split at h
    · omega
    · obtain ⟨h1, h2, h3⟩ := waveAll_zero (by omega) l (wok_nil k) h
      simp only [List.nil_append] at h1 h2
      refine ⟨by omega, by omega, h1.1, fun a => ⟨h1.2 a, fun ⟨ha, hb⟩ => ?_⟩, h3⟩
      exact nodup_full k.toNat _ h1.1 (fun b hb => by have := h1.2 b hb; omega) (by omega) a ha (by omega)

/-! ### Which wave -/
def waveOfFrom (a : Int) : Int → List (List Int) → Int
  | _, [] => -1
  | i, w :: r => if a ∈ w then i else waveOfFrom a (i + 1) r
def waveOf (l : List (List Int)) (a : Int) : Int := waveOfFrom a 0 l
theorem waveOfFrom_spec (a : Int) : ∀ (l : List (List Int)) (i : Int), (waveOfFrom a i l = -1 ∧ a ∉ l.flatten) ∨ ∃ (j : Nat) (w : List Int), waveOfFrom a i l = i + j ∧ l[j]? = some w ∧ a ∈ w ∧ ∀ (m : Nat) (v : List Int), m < j → l[m]? = some v → a ∉ v
  | [], i => .inl ⟨rfl, by simp⟩
  | w :: r, i => by
    unfold waveOfFrom
    by_cases h : a ∈ w
    · rw [if_pos h]
      exact .inr ⟨0, w, by simp, rfl, h, fun m v hm => by omega⟩
    · rw [if_neg h]
      rcases waveOfFrom_spec a r (i + 1) with ⟨h1, h2⟩ | ⟨j, v, h1, h2, h3, h4⟩
      · exact .inl ⟨h1, by simp [h]; simpa using h2⟩
      · refine .inr ⟨j + 1, v, by rw [h1]; omega, h2, h3, fun m u hm hu => ?_⟩
        cases m with
        | zero => simp at hu; subst hu; exact h
        | succ m => exact h4 m u (by omega) hu
/-- The first wave of which somebody isn't through. -/
def notThrough (th : List Bool) (a : Int) : Bool := th[a.toNat]? == some false
def nowFrom (th : List Bool) : Int → List (List Int) → Int
  | i, [] => i
  | i, w :: r => if w.any (notThrough th) then i else nowFrom th (i + 1) r
def refNow (l : List (List Int)) : Int → Int → List Bool → Int
  | first, _, [] => first
  | first, i, t :: r => refNow l (if t = false then min first (waveOf l i) else first) (i + 1) r
/-- n is the first wave of which somebody isn't through. -/
structure IsNow (l : List (List Int)) (th : List Bool) (n : Nat) : Prop where
  ahead : ∀ (i : Nat) w, l[i]? = some w → i < n → ∀ a ∈ w, notThrough th a = false
  le : n ≤ l.length
  here : n < l.length → ∃ w, l[n]? = some w ∧ ∃ a ∈ w, notThrough th a = true
theorem IsNow.unique {l : List (List Int)} {th : List Bool} {n m : Nat} (h : IsNow l th n) (k : IsNow l th m) : n = m := by
  rcases Nat.lt_trichotomy n m with c | c | c
  · obtain ⟨w, hw, a, ha, hx⟩ := h.here (by have := k.le; omega)
    have := k.ahead n w hw c a ha
    rw [hx] at this; cases this
  · exact c
  · obtain ⟨w, hw, a, ha, hx⟩ := k.here (by have := h.le; omega)
    have := h.ahead m w hw c a ha
    rw [hx] at this; cases this
theorem nowFrom_spec (th : List Bool) : ∀ (l : List (List Int)) (i : Int), ∃ n : Nat, nowFrom th i l = i + n ∧ IsNow l th n
  | [], i => ⟨0, by simp [nowFrom], ⟨fun i w hw h => by omega, by simp, fun h => by simp at h⟩⟩
  | w :: r, i => by
    unfold nowFrom
    by_cases h : w.any (notThrough th) = true
    · rw [if_pos h]
      refine ⟨0, by simp, ⟨fun i w hw h => by omega, by omega, fun _ => ⟨w, rfl, ?_⟩⟩⟩
      simpa using h
    · rw [if_neg h]
      obtain ⟨n, hn, hI⟩ := nowFrom_spec th r (i + 1)
      refine ⟨n + 1, by rw [hn]; omega, ⟨fun j v hv hj a ha => ?_, by have := hI.le; simp; omega, fun hl => ?_⟩⟩
      · cases j with
        | zero =>
          simp at hv; subst hv
          cases hx : notThrough th a with
          | false => rfl
          | true => exact absurd (List.any_eq_true.2 ⟨a, ha, hx⟩) h
        | succ j => exact hI.ahead j v (by simpa using hv) (by omega) a ha
      · simpa using hI.here (by simp at hl; omega)
theorem refNow_spec (l : List (List Int)) : ∀ (th : List Bool) (first i : Int), refNow l first i th ≤ first ∧
    (∀ (j : Nat), th[j]? = some false → refNow l first i th ≤ waveOf l (i + j)) ∧ (refNow l first i th = first ∨ ∃ j : Nat, th[j]? = some false ∧ refNow l first i th = waveOf l (i + j))
  | [], first, i => by simp [refNow]
  | t :: r, first, i => by
    unfold refNow
    obtain ⟨h1, h2, h3⟩ := refNow_spec l r (if t = false then min first (waveOf l i) else first) (i + 1)
    refine ⟨?_, fun j hj => ?_, ?_⟩
    · exact Int.le_trans h1 (by split <;> omega)
    · cases j with
      | zero =>
      simp at hj; subst hj
      rw [show i + ((0 : Nat) : Int) = i from by omega]
      exact Int.le_trans h1 (by rw [if_pos rfl]; omega)
      | succ j =>
        have := h2 j (by simpa using hj)
        rw [show i + ((j + 1 : Nat) : Int) = i + 1 + (j : Int) from by omega]
        exact this
    · rcases h3 with h3 | ⟨j, hj, h3⟩
      · by_cases ht : t = false
        · subst ht
          simp only [if_pos trivial] at h3 ⊢
          by_cases hm : first ≤ waveOf l i
          · left; rw [h3]; omega
          · right
            refine ⟨0, rfl, ?_⟩
            rw [h3]; simp; omega
        · left; rw [if_neg ht] at h3 ⊢; exact h3
      · right
        refine ⟨j + 1, by simpa using hj, ?_⟩
        rw [h3, show i + ((j + 1 : Nat) : Int) = i + 1 + (j : Int) from by omega]
theorem now_ref {l : List (List Int)} {th : List Bool} (h : waveCheck l th.length = 0) : nowFrom th 0 l = refNow l l.length 0 th := by
  obtain ⟨h1, h2, hnd, hin, hne⟩ := waveCheck_zero h
  obtain ⟨n, hn, hI⟩ := nowFrom_spec th l 0
  obtain ⟨r1, r2, r3⟩ := refNow_spec l th l.length 0
  have hge : 0 ≤ refNow l l.length 0 th := by
    rcases r3 with r3 | ⟨j, hj, r3⟩
    · omega
    · have hj' := (List.getElem?_eq_some_iff.1 hj).1
      rcases waveOfFrom_spec (0 + j) l 0 with ⟨_, e⟩ | ⟨m, w, e, _⟩
      · exact absurd ((hin _).2 ⟨by omega, by omega⟩) e
      · have : waveOf l (0 + j) = 0 + m := e
        omega
  have hJ : IsNow l th (refNow l l.length 0 th).toNat := by
    refine ⟨fun i w hw hi a ha => ?_, by omega, fun hl => ?_⟩
    · cases hx : notThrough th a with
      | false => rfl
      | true =>
        exfalso
        have hin' := (hin a).1 (List.mem_flatten.2 ⟨w, List.mem_of_getElem? hw, ha⟩)
        have := r2 a.toNat (by simpa [notThrough] using hx)
        rw [show (0 : Int) + (a.toNat : Int) = a from by omega] at this
        rcases waveOfFrom_spec a l 0 with ⟨_, e⟩ | ⟨m, v, e, e2, e3, e4⟩
        · exact e (List.mem_flatten.2 ⟨w, List.mem_of_getElem? hw, ha⟩)
        · have h5 : waveOf l a = 0 + m := e
          by_cases hm : i < m
          · exact e4 i w hm hw ha
          · omega
    · rcases r3 with r3 | ⟨j, hj, r3⟩
      · omega
      · have hj' := (List.getElem?_eq_some_iff.1 hj).1
        rcases waveOfFrom_spec (0 + j) l 0 with ⟨_, e⟩ | ⟨m, w, e, e2, e3, _⟩
        · exact absurd ((hin _).2 ⟨by omega, by omega⟩) e
        · have h5 : waveOf l (0 + j) = 0 + m := e
          refine ⟨w, by rw [r3, h5, show (0 + (m : Int)).toNat = m from by omega]; exact e2, _, e3, ?_⟩
          simp only [notThrough]
          rw [show (0 + (j : Int)).toNat = j from by omega, hj]
          rfl
  have := hI.unique hJ
  omega
end Go.Vg
