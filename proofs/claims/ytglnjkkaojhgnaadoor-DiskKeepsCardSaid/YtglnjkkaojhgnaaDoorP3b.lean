/- Plain laws of locks as tables, and what the laws of rules say: no program in sight. -/
import Derived.Test.YtglnjkkaojhgnaaDoorP3
set_option linter.unusedSimpArgs false
set_option linter.unusedVariables false
namespace Go.Vg
open Go
def lockOfFrom : Int → List Int → List Pin
  | _, [] => []
  | n, v :: r => if 0 < v then ⟨n, v⟩ :: lockOfFrom (n + 1) r else lockOfFrom (n + 1) r
def tabI (l : List Pin) : List Int := (List.range 21).map fun n : Nat => find l (n : Int)
theorem lockOfFrom_mem {p : Pin} : ∀ {t : List Int} {n : Int}, p ∈ lockOfFrom n t → ∃ i : Nat, t[i]? = some p.ver ∧ p.name = n + i ∧ 0 < p.ver
  | [], n, h => by cases h
  | v :: r, n, h => by
    unfold lockOfFrom at h
    split at h
    · rcases List.mem_cons.1 h with rfl | h
      · rename_i hv; exact ⟨0, rfl, by simp, hv⟩
      · obtain ⟨i, h1, h2, h3⟩ := lockOfFrom_mem h; exact ⟨i + 1, by simpa using h1, by rw [h2]; omega, h3⟩
    · obtain ⟨i, h1, h2, h3⟩ := lockOfFrom_mem h; exact ⟨i + 1, by simpa using h1, by rw [h2]; omega, h3⟩
theorem lockOfFrom_rise : ∀ (t : List Int) (n : Int), (lockOfFrom n t).Pairwise (fun p q => p.name < q.name)
  | [], n => List.Pairwise.nil
  | v :: r, n => by
    unfold lockOfFrom
    split
    · refine List.pairwise_cons.2 ⟨fun q hq => ?_, lockOfFrom_rise r (n + 1)⟩
      obtain ⟨i, _, h2, _⟩ := lockOfFrom_mem hq
      simp; omega
    · exact lockOfFrom_rise r (n + 1)
theorem find_lockOfFrom : ∀ (t : List Int) (n : Int) (i : Nat) (v : Int), t[i]? = some v → 0 < v → find (lockOfFrom n t) (n + i) = v
  | [], n, i, v, h, _ => by simp at h
  | w :: r, n, 0, v, h, hv => by
    simp at h; subst h
    unfold lockOfFrom
    rw [if_pos hv, find, if_pos (by simp)]
  | w :: r, n, i + 1, v, h, hv => by
    have ih := find_lockOfFrom r (n + 1) i v (by simpa using h) hv
    rw [show n + 1 + (i : Int) = n + ((i + 1 : Nat) : Int) from by omega] at ih
    unfold lockOfFrom
    split
    · rw [find, if_neg (by simp; omega), ih]
    · exact ih
theorem lockOf_eq {t : List Int} {m : List Pin} (hm : Lk m) (hl : t.length = 21) (h : ∀ i : Nat, i < 21 → t[i]? = some (find m i)) : lockOfFrom 0 t = m := by
  have hk : Lk (lockOfFrom 0 t) := ⟨fun p hp => by
    obtain ⟨i, h1, h2, h3⟩ := lockOfFrom_mem hp
    have hi : i < 21 := by have := (List.getElem?_eq_some_iff.1 h1).1; omega
    rw [h i hi] at h1
    have e : find m i = p.ver := by simpa using h1
    have := hm.find_range i
    have h0 : i ≠ 0 := by rintro rfl; have := hm.find_out (n := ((0 : Nat) : Int)) (by omega); omega
    unfold badPin; omega, lockOfFrom_rise t 0⟩
  refine hk.ext hm fun n => ?_
  by_cases e : find m n = 0
  · rw [e]
    by_cases e2 : find (lockOfFrom 0 t) n = 0
    · exact e2
    · exfalso
      obtain ⟨p, h1, h2, h3⟩ := find_pos e2
      obtain ⟨i, g1, g2, g3⟩ := lockOfFrom_mem h1
      have hi : i < 21 := by have := (List.getElem?_eq_some_iff.1 g1).1; omega
      rw [h i hi] at g1
      have : find m i = p.ver := by simpa using g1
      rw [show (i : Int) = n from by omega] at this
      omega
  · have hr := hm.find_range n
    have hn : 1 ≤ n ∧ n ≤ 20 := by
      by_cases c : n < 1 ∨ 20 < n
      · exact absurd (hm.find_out c) e
      · omega
    have := find_lockOfFrom t 0 n.toNat (find m n) (by rw [h n.toNat (by omega), show (n.toNat : Int) = n from by omega]) (by omega)
    rw [show (0 : Int) + (n.toNat : Int) = n from by omega] at this
    exact this
theorem tabI_at (l : List Pin) {i : Nat} (hi : i < 21) : (tabI l)[i]? = some (find l i) := by
  unfold tabI
  rw [List.getElem?_map, List.getElem?_range hi]; rfl
theorem lockOf_tab {l : List Pin} (hl : Lk l) : lockOfFrom 0 (tabI l) = l := lockOf_eq hl (by simp [tabI]) fun i hi => tabI_at l hi
theorem tab_set {l : List Pin} (hl : Lk l) {n v : Int} (hn : 1 ≤ n ∧ n ≤ 20) : (tabI l).set n.toNat v = tabI (up n v l) := by
  apply List.ext_getElem?
  intro i
  by_cases hi : i < 21
  · rw [tabI_at _ hi, List.getElem?_set, find_up _ hl]
    split
    · rename_i e
      rw [if_pos (by simp [tabI]; omega), if_pos (by omega)]
    · rw [tabI_at _ hi, if_neg (by omega)]
  · rw [List.getElem?_eq_none (by simp [tabI]; omega), List.getElem?_eq_none (by simp [tabI]; omega)]
/-! ### What the laws of rules say -/
theorem mends_keep {l m : List Pin} {rs : List Rule} (h : mended l rs = .ok m) : brokenErr m rs = 0 ∧ brokenFrom m 0 rs = -1 ∧ mended m rs = .ok m ∧ ∀ p ∈ l, p.ver ≤ find m p.name := by
  obtain ⟨h1, h2, h3, h4, h5, h6, h7, h8⟩ := mended_ok h
  have e : brokenErr m rs = 0 := brokenErr_zero.2 ⟨⟨h4, h5⟩, h2⟩
  refine ⟨e, broken_none h6 0, by rw [mended, if_pos e]; exact mend_keeps h6, fun p hp => ?_⟩
  have := h7 p.name
  rw [find_mem h1.1 hp] at this
  exact this
theorem broken_neg {l : List Pin} {rs : List Rule} (h : brokenFrom l 0 rs < 0) : brokenFrom l 0 rs = -1 ∧ ∀ r ∈ rs, ¬ breaks l r := by
  rcases brokenFrom_spec l rs 0 (by omega) with h1 | ⟨j, r, h1, _⟩
  · exact h1
  · omega
theorem mends_least {l m o : List Pin} {rs : List Rule} (h : mended l rs = .ok m) (ho : brokenErr o rs = 0) (hk : brokenFrom o 0 rs < 0) (hl : ∀ p ∈ l, p.ver ≤ find o p.name) : ∀ p ∈ m, p.ver ≤ find o p.name := by
  obtain ⟨h1, h2, h3, h4, h5, h6, h7, h8⟩ := mended_ok h
  have ho' := (brokenErr_zero.1 ho).1.1
  have := h8 o ho' (broken_neg hk).2 (leL_of_pins h1.1 ho' hl)
  intro p hp
  have := this p.name
  rw [find_mem h4 hp] at this
  exact this
theorem mends_other {l m : List Pin} {rs rs' : List Rule} (h : mended l rs = .ok m) (hs : ∀ r ∈ rs', r ∈ rs) (hlen : rs'.length ≤ 10) : ∃ f, mended l rs' = .ok f ∧ LeL f m ∧ Lk f := by
  obtain ⟨h1, h2, h3, h4, h5, h6, h7, h8⟩ := mended_ok h
  have hr : Rok rs' := fun r hr => h2.2 r (hs r hr)
  obtain ⟨f, hf⟩ := mend_below hr h4 (fun r hr => h6 r (hs r hr)) h5 1981 h1.1 h7 (by have := weight_nonneg h1.1; omega)
  have e : mended l rs' = .ok f := by rw [mended, if_pos (brokenErr_zero.2 ⟨h1, hlen, hr⟩)]; exact hf
  obtain ⟨_, _, _, g4, g5, g6, g7, g8⟩ := mended_ok e
  exact ⟨f, e, g8 m h4 (fun r hr => h6 r (hs r hr)) h7, g4⟩
theorem mends_turned {l m : List Pin} {rs : List Rule} (h : mended l rs = .ok m) : mended l rs.reverse = .ok m := by
  have h2 := (mended_ok h).2.1
  obtain ⟨f, hf, hle, hLf⟩ := mends_other h (rs' := rs.reverse) (by simp) (by simp; omega)
  obtain ⟨g, hg, hle2, hLg⟩ := mends_other hf (rs' := rs) (by simp) (by omega)
  rw [h] at hg
  obtain rfl : m = g := by simpa using hg
  rw [hf, LeL.antisymm hLf hLg hle hle2]
theorem mends_fewer {l m : List Pin} {rs : List Rule} (h : mended l rs = .ok m) (k : Nat) : ∃ f, mended l (rs.take k) = .ok f ∧ ∀ p ∈ f, p.ver ≤ find m p.name := by
  have h2 := (mended_ok h).2.1
  obtain ⟨f, hf, hle, hLf⟩ := mends_other h (rs' := rs.take k) (fun r hr => List.mem_of_mem_take hr) (by simp; omega)
  exact ⟨f, hf, fun p hp => by have := hle p.name; rw [find_mem hLf hp] at this; exact this⟩
theorem mends_same {l m : List Pin} {rs : List Rule} (h : mended l rs = .ok m) : brokenErr l rs = 0 ∧ (brokenFrom l 0 rs = -1 ↔ l = m) := by
  obtain ⟨h1, h2, h3, h4, h5, h6, h7, h8⟩ := mended_ok h
  refine ⟨brokenErr_zero.2 ⟨h1, h2⟩, fun e => ?_, fun e => ?_⟩
  · have := mend_keeps (n := 1980) (broken_neg (l := l) (rs := rs) (by omega)).2
    rw [h3] at this
    simpa using this.symm
  · subst e; exact broken_none h6 0
end Go.Vg
