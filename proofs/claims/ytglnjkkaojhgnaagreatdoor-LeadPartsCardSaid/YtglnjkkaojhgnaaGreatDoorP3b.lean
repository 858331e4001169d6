/- Plain laws of locks and rules: no program in sight. -/
import Derived.Test.YtglnjkkaojhgnaaGreatDoorRep
set_option linter.unusedSimpArgs false
set_option linter.unusedVariables false
namespace Go.Vg
open Go
structure Pin where
  name : Int
  ver : Int
  deriving DecidableEq
structure Rule where
  name : Int
  ver : Int
  wth : Int
  least : Int
  deriving DecidableEq
def badPin (p : Pin) : Prop := p.name < 1 ∨ 20 < p.name ∨ p.ver < 1 ∨ 99 < p.ver
instance (p : Pin) : Decidable (badPin p) := by unfold badPin; infer_instance
def lockFrom : Int → List Pin → Int
  | _, [] => 0
  | last, p :: r => if badPin p then 3 else if p.name ≤ last then 6 else lockFrom p.name r
def lockCheck (l : List Pin) : Int := if 12 < l.length then 2 else lockFrom 0 l
def find : List Pin → Int → Int
  | [], _ => 0
  | p :: r, n => if p.name = n then p.ver else find r n
/-- Right pins, rising. -/
structure Lk (l : List Pin) : Prop where
  good : ∀ p ∈ l, ¬ badPin p
  rise : l.Pairwise (fun p q => p.name < q.name)
theorem Lk.nil : Lk [] := ⟨by simp, List.Pairwise.nil⟩
theorem Lk.tail {p : Pin} {l : List Pin} (h : Lk (p :: l)) : Lk l := ⟨fun q hq => h.good q (List.mem_cons_of_mem _ hq), (List.pairwise_cons.1 h.rise).2⟩
theorem Lk.head {p : Pin} {l : List Pin} (h : Lk (p :: l)) : ∀ q ∈ l, p.name < q.name := (List.pairwise_cons.1 h.rise).1
theorem Lk.cons {p : Pin} {l : List Pin} (h : Lk l) (hp : ¬ badPin p) (hl : ∀ q ∈ l, p.name < q.name) : Lk (p :: l) :=
  ⟨fun q hq => by rcases List.mem_cons.1 hq with rfl | hq; exact hp; exact h.good q hq, List.pairwise_cons.2 ⟨hl, h.rise⟩⟩
theorem lockFrom_zero : ∀ (l : List Pin) (last : Int), lockFrom last l = 0 ↔ Lk l ∧ ∀ p ∈ l, last < p.name
  | [], last => by simp [lockFrom, Lk.nil]
  | p :: r, last => by
    unfold lockFrom
    split
    · rename_i h
      constructor
      · intro h'; omega
      · intro h'; exact absurd h (h'.1.good p List.mem_cons_self)
    · split
      · rename_i h1 h2
        constructor
        · intro h'; omega
        · intro h'; have := h'.2 p List.mem_cons_self; omega
      · rename_i h1 h2
        rw [lockFrom_zero r p.name]
        constructor
        · rintro ⟨h3, h4⟩
          refine ⟨h3.cons h1 h4, fun q hq => ?_⟩
          rcases List.mem_cons.1 hq with rfl | hq
          · omega
          · have := h4 q hq; omega
        · rintro ⟨h3, h4⟩
          exact ⟨h3.tail, h3.head⟩
theorem Lk.name {l : List Pin} (h : Lk l) {p : Pin} (hp : p ∈ l) : 1 ≤ p.name ∧ p.name ≤ 20 ∧ 1 ≤ p.ver ∧ p.ver ≤ 99 := by
  have := h.good p hp
  unfold badPin at this
  omega
theorem lockCheck_zero {l : List Pin} : lockCheck l = 0 ↔ Lk l ∧ l.length ≤ 12 := by
  unfold lockCheck
  split
  · constructor
    · intro h; omega
    · rintro ⟨_, h⟩; omega
  · rw [lockFrom_zero]
    constructor
    · rintro ⟨h, _⟩; exact ⟨h, by omega⟩
    · rintro ⟨h, _⟩; exact ⟨h, fun p hp => by have := h.name hp; omega⟩
theorem lockFrom_vals : ∀ (l : List Pin) (last : Int), lockFrom last l = 0 ∨ lockFrom last l = 3 ∨ lockFrom last l = 6
  | [], last => by simp [lockFrom]
  | p :: r, last => by
    unfold lockFrom
    split
    · simp
    · split
      · simp
      · exact lockFrom_vals r p.name
theorem find_none {l : List Pin} {n : Int} (h : ∀ p ∈ l, p.name ≠ n) : find l n = 0 := by
  induction l with
  | nil => rfl
  | cons p r ih => rw [find, if_neg (h p List.mem_cons_self), ih fun q hq => h q (List.mem_cons_of_mem _ hq)]
theorem find_mem {l : List Pin} (h : Lk l) {p : Pin} (hp : p ∈ l) : find l p.name = p.ver := by
  induction l with
  | nil => cases hp
  | cons q r ih =>
    rcases List.mem_cons.1 hp with rfl | hp
    · rw [find, if_pos rfl]
    · have := h.head p hp
      rw [find, if_neg (by omega), ih h.tail hp]
theorem find_pos {l : List Pin} {n : Int} (h : find l n ≠ 0) : ∃ p ∈ l, p.name = n ∧ p.ver = find l n := by
  induction l with
  | nil => exact absurd rfl h
  | cons q r ih =>
    rw [find] at h ⊢
    by_cases e : q.name = n
    · rw [if_pos e]; exact ⟨q, List.mem_cons_self, e, rfl⟩
    · rw [if_neg e] at h ⊢
      obtain ⟨p, h1, h2⟩ := ih h
      exact ⟨p, List.mem_cons_of_mem _ h1, h2⟩
theorem Lk.find_range {l : List Pin} (h : Lk l) (n : Int) : 0 ≤ find l n ∧ find l n ≤ 99 := by
  by_cases e : find l n = 0
  · omega
  · obtain ⟨p, h1, h2, h3⟩ := find_pos e
    have := h.name h1
    omega
theorem Lk.find_out {l : List Pin} (h : Lk l) {n : Int} (hn : n < 1 ∨ 20 < n) : find l n = 0 := find_none fun p hp => by have := h.name hp; omega
theorem Lk.find_iff {l : List Pin} (h : Lk l) (n : Int) : find l n ≠ 0 ↔ ∃ p ∈ l, p.name = n := by
  constructor
  · intro e; obtain ⟨p, h1, h2, _⟩ := find_pos e; exact ⟨p, h1, h2⟩
  · rintro ⟨p, h1, rfl⟩
    rw [find_mem h h1]
    have := h.name h1
    omega
theorem Lk.ext : ∀ {l m : List Pin}, Lk l → Lk m → (∀ n, find l n = find m n) → l = m
  | [], [], _, _, _ => rfl
  | [], q :: m, _, hm, h => by
    have := h q.name
    rw [find_mem hm List.mem_cons_self] at this
    have h2 := hm.name (p := q) List.mem_cons_self
    simp [find] at this; omega
  | p :: l, [], hl, _, h => by
    have := h p.name
    rw [find_mem hl List.mem_cons_self] at this
    have h2 := hl.name (p := p) List.mem_cons_self
    simp [find] at this; omega
  | p :: l, q :: m, hl, hm, h => by
    have hp := hl.name (p := p) List.mem_cons_self
    have hq := hm.name (p := q) List.mem_cons_self
    have e1 := h p.name
    have e2 := h q.name
    rw [find_mem hl List.mem_cons_self] at e1
    rw [find_mem hm List.mem_cons_self] at e2
    have key : p.name = q.name := by
      rcases Int.lt_trichotomy p.name q.name with c | c | c
      · rw [find_none (fun x hx => by
          rcases List.mem_cons.1 hx with rfl | hx
          · omega
          · have := hm.head x hx; omega)] at e1
        omega
      · exact c
      · rw [find_none (fun x hx => by
          rcases List.mem_cons.1 hx with rfl | hx
          · omega
          · have := hl.head x hx; omega)] at e2
        omega
    have hv : p.ver = q.ver := by rw [e1, key, find_mem hm List.mem_cons_self]
    have hpq : p = q := by cases p; cases q; simp_all
    subst hpq
    rw [Lk.ext hl.tail hm.tail fun n => ?_]
    by_cases e : p.name = n
    · subst e
      rw [find_none fun x hx => by have := hl.head x hx; omega, find_none fun x hx => by have := hm.head x hx; omega]
    · have := h n
      rw [find, if_neg e, find, if_neg e] at this
      exact this
/-! ### A package at a version -/
def up (n v : Int) : List Pin → List Pin
  | [] => [⟨n, v⟩]
  | p :: r => if n ≤ p.name then (if p.name = n then ⟨n, v⟩ :: r else ⟨n, v⟩ :: p :: r) else p :: up n v r
theorem up_mem {n v : Int} {q : Pin} : ∀ {l : List Pin}, q ∈ up n v l → q = ⟨n, v⟩ ∨ q ∈ l
  | [], h => by simp [up] at h; exact .inl h
  | p :: r, h => by
    unfold up at h
    split at h
    · split at h
      · rcases List.mem_cons.1 h with h | h
        · exact .inl h
        · exact .inr (List.mem_cons_of_mem _ h)
      · rcases List.mem_cons.1 h with h | h
        · exact .inl h
        · exact .inr h
    · rcases List.mem_cons.1 h with rfl | h
      · exact .inr List.mem_cons_self
      · rcases up_mem h with h | h
        · exact .inl h
        · exact .inr (List.mem_cons_of_mem _ h)
theorem Lk.up {n v : Int} (hn : 1 ≤ n ∧ n ≤ 20) (hv : 1 ≤ v ∧ v ≤ 99) : ∀ {l : List Pin}, Lk l → Lk (up n v l)
  | [], _ => Lk.nil.cons (by unfold badPin; simp; omega) (by simp)
  | p :: r, h => by
    have hb : ¬ badPin ⟨n, v⟩ := by unfold badPin; simp; omega
    unfold Vg.up
    split
    · split
      · rename_i h1 h2
        exact h.tail.cons hb fun q hq => by have := h.head q hq; simp; omega
      · rename_i h1 h2
        refine h.cons hb fun q hq => ?_
        rcases List.mem_cons.1 hq with rfl | hq
        · simp; omega
        · have := h.head q hq; simp; omega
    · rename_i h1
      refine (h.tail.up hn hv).cons (h.good p List.mem_cons_self) fun q hq => ?_
      rcases up_mem hq with rfl | hq
      · simp; omega
      · exact h.head q hq
theorem find_up {n v : Int} (m : Int) : ∀ {l : List Pin}, Lk l → find (up n v l) m = if m = n then v else find l m
  | [], _ => by
    unfold up find find
    by_cases e : m = n
    · subst e; simp
    · rw [if_neg (by simp; omega), if_neg e]
  | p :: r, h => by
    unfold up
    split
    · split
      · rename_i h1 h2
        by_cases e : m = n
        · subst e; simp [find]
        · rw [if_neg e, find, if_neg (by simp; omega), find, if_neg (by omega)]
      · rename_i h1 h2
        by_cases e : m = n
        · subst e; simp [find]
        · rw [if_neg e, find, if_neg (by simp; omega)]
    · rename_i h1
      rw [find]
      by_cases e : p.name = m
      · subst e; rw [if_pos rfl, if_neg (by omega), find, if_pos rfl]
      · rw [if_neg e, find_up m h.tail, find, if_neg e]
/-! ### Rules -/
def badRule (r : Rule) : Prop := r.name < 1 ∨ 20 < r.name ∨ r.wth < 1 ∨ 20 < r.wth ∨ r.ver < 1 ∨ 99 < r.ver ∨ r.least < 1 ∨ 99 < r.least
instance (r : Rule) : Decidable (badRule r) := by unfold badRule; infer_instance
def rulesFrom : List Rule → Int
  | [] => 0
  | r :: q => if badRule r then 3 else if r.name = r.wth then 4 else rulesFrom q
def rulesCheck (l : List Rule) : Int := if 10 < l.length then 2 else rulesFrom l
theorem rulesFrom_zero : ∀ {l : List Rule}, rulesFrom l = 0 ↔ ∀ r ∈ l, ¬ badRule r ∧ r.name ≠ r.wth
  | [] => by simp [rulesFrom]
  | r :: q => by
    unfold rulesFrom
    split
    · rename_i h
      constructor
      · intro h'; omega
      · intro h'; exact absurd h (h' r List.mem_cons_self).1
    · split
      · rename_i h1 h2
        constructor
        · intro h'; omega
        · intro h'; exact absurd h2 (h' r List.mem_cons_self).2
      · rename_i h1 h2
        rw [rulesFrom_zero]
        simp [h1, h2]
theorem rulesCheck_zero {l : List Rule} : rulesCheck l = 0 ↔ l.length ≤ 10 ∧ ∀ r ∈ l, ¬ badRule r ∧ r.name ≠ r.wth := by
  unfold rulesCheck
  split
  · constructor
    · intro h; omega
    · rintro ⟨h, _⟩; omega
  · rw [rulesFrom_zero]
    constructor
    · intro h; exact ⟨by omega, h⟩
    · intro h; exact h.2
/-- A rule isn't kept. -/
def breaks (l : List Pin) (r : Rule) : Prop := r.ver ≤ find l r.name ∧ find l r.wth < r.least
instance (l : List Pin) (r : Rule) : Decidable (breaks l r) := by unfold breaks; infer_instance
def brokenFrom (l : List Pin) : Int → List Rule → Int
  | _, [] => -1
  | i, r :: q => if breaks l r then i else brokenFrom l (i + 1) q
def brokenErr (l : List Pin) (rs : List Rule) : Int := if lockCheck l = 0 then rulesCheck rs else lockCheck l
def broken (l : List Pin) (rs : List Rule) : Int := if brokenErr l rs = 0 then brokenFrom l 0 rs else 0
theorem brokenFrom_spec (l : List Pin) : ∀ (rs : List Rule) (i : Int), 0 ≤ i → (brokenFrom l i rs = -1 ∧ ∀ r ∈ rs, ¬ breaks l r) ∨ ∃ (j : Nat) (r : Rule), brokenFrom l i rs = i + j ∧ rs[j]? = some r ∧ breaks l r
  | [], i, _ => .inl ⟨rfl, by simp⟩
  | r :: q, i, hi => by
    unfold brokenFrom
    split
    · rename_i h; exact .inr ⟨0, r, by simp, rfl, h⟩
    · rename_i h
      rcases brokenFrom_spec l q (i + 1) (by omega) with ⟨h1, h2⟩ | ⟨j, s, h1, h2, h3⟩
      · exact .inl ⟨h1, fun x hx => by rcases List.mem_cons.1 hx with rfl | hx; exact h; exact h2 x hx⟩
      · exact .inr ⟨j + 1, s, by rw [h1]; omega, h2, h3⟩
theorem broken_none {l : List Pin} {rs : List Rule} (h : ∀ r ∈ rs, ¬ breaks l r) (i : Int) : brokenFrom l i rs = -1 := by
  induction rs generalizing i with
  | nil => rfl
  | cons r q ih => rw [brokenFrom, if_neg (h r List.mem_cons_self), ih fun x hx => h x (List.mem_cons_of_mem _ hx)]
/-! ### Mending -/
def mend (rs : List Rule) : Nat → List Pin → Except Int (List Pin)
  | 0, _ => .error 2
  | n + 1, l =>
    if brokenFrom l 0 rs < 0 then .ok l else
    match rs[(brokenFrom l 0 rs).toNat]? with
    | none => .error 2
    | some r => if 12 < (up r.wth r.least l).length then .error 2 else mend rs n (up r.wth r.least l)
def weight (l : List Pin) : Int := (l.map Pin.ver).sum
theorem weight_up {n v : Int} : ∀ {l : List Pin}, Lk l → weight (up n v l) = weight l + v - find l n
  | [], _ => by simp [up, weight, find]
  | p :: r, h => by
    unfold up
    split
    · split
      · rename_i h1 h2
        simp [weight, find, h2]; omega
      · rename_i h1 h2
        rw [find_none (l := p :: r) fun q hq => by
          rcases List.mem_cons.1 hq with rfl | hq
          · exact h2
          · have := h.head q hq; omega]
        simp [weight]; omega
    · rename_i h1
      have := weight_up (n := n) (v := v) h.tail
      simp only [weight, List.map_cons, List.sum_cons, find] at this ⊢
      rw [if_neg (by omega)]
      omega
theorem weight_le : ∀ {l : List Pin} {a : Int}, Lk l → (∀ p ∈ l, a < p.name) → a ≤ 20 → weight l ≤ 99 * (20 - a)
  | [], a, _, _, ha => by simp [weight]; omega
  | p :: r, a, h, hl, ha => by
    have hp := h.name (p := p) List.mem_cons_self
    have h1 := hl p List.mem_cons_self
    have := weight_le h.tail h.head hp.2.1
    simp only [weight, List.map_cons, List.sum_cons] at this ⊢
    omega
theorem Lk.weight {l : List Pin} (h : Lk l) : weight l ≤ 1980 := by
  have := weight_le (a := 0) h (fun p hp => by have := h.name hp; omega) (by omega)
  omega
theorem weight_nonneg {l : List Pin} (h : Lk l) : 0 ≤ weight l := by
  induction l with
  | nil => simp [Vg.weight]
  | cons p r ih =>
    have hp := h.name (p := p) List.mem_cons_self
    have := ih h.tail
    simp only [Vg.weight, List.map_cons, List.sum_cons] at this ⊢
    omega
/-- Nowhere less. -/
def LeL (l m : List Pin) : Prop := ∀ n, find l n ≤ find m n
theorem LeL.refl (l : List Pin) : LeL l l := fun _ => Int.le_refl _
theorem LeL.trans {a b c : List Pin} (h : LeL a b) (k : LeL b c) : LeL a c := fun n => Int.le_trans (h n) (k n)
theorem LeL.antisymm {a b : List Pin} (ha : Lk a) (hb : Lk b) (h : LeL a b) (k : LeL b a) : a = b := ha.ext hb fun n => Int.le_antisymm (h n) (k n)
theorem leL_of_pins {l m : List Pin} (hl : Lk l) (hm : Lk m) (h : ∀ p ∈ l, p.ver ≤ find m p.name) : LeL l m := fun n => by
  by_cases e : find l n = 0
  · have := hm.find_range n; omega
  · obtain ⟨p, h1, h2, h3⟩ := find_pos e
    have := h p h1
    rw [h2] at this
    omega
theorem LeL.len : ∀ {l m : List Pin}, Lk l → Lk m → LeL l m → l.length ≤ m.length
  | [], m, _, _, _ => by simp
  | p :: l, [], hl, _, h => by
    have := h p.name
    rw [find_mem hl List.mem_cons_self] at this
    have h2 := hl.name (p := p) List.mem_cons_self
    simp [find] at this; omega
  | p :: l, q :: m, hl, hm, h => by
    have hp := hl.name (p := p) List.mem_cons_self
    have hfp := h p.name
    rw [find_mem hl List.mem_cons_self] at hfp
    by_cases e : p.name = q.name
    · have := LeL.len hl.tail hm.tail fun n => by
        have h1 := h n
        rw [find, find] at h1
        by_cases e2 : p.name = n
        · rw [find_none (l := l) fun x hx => by have := hl.head x hx; omega]
          have := hm.tail.find_range n; omega
        · rw [if_neg e2, if_neg (by omega)] at h1; exact h1
      simp; omega
    · have := LeL.len hl hm.tail fun n => by
        have h1 := h n
        rw [show find (q :: m) n = if q.name = n then q.ver else find m n from rfl] at h1
        by_cases e2 : q.name = n
        · have e3 : find (p :: l) n = 0 := by
            have hlt : q.name < p.name := by
              rcases Int.lt_trichotomy p.name q.name with c | c | c
              · rw [find_none (l := q :: m) fun x hx => by
                  rcases List.mem_cons.1 hx with rfl | hx
                  · omega
                  · have := hm.head x hx; omega] at hfp
                omega
              · exact absurd c e
              · exact c
            exact find_none fun x hx => by
              rcases List.mem_cons.1 hx with rfl | hx
              · omega
              · have := hl.head x hx; omega
          rw [e3]
          have := hm.tail.find_range n; omega
        · rw [if_neg e2] at h1; exact h1
      simp at this ⊢; omega
/-- Rules that are some. -/
def Rok (rs : List Rule) : Prop := ∀ r ∈ rs, ¬ badRule r ∧ r.name ≠ r.wth
theorem Rok.least {rs : List Rule} (h : Rok rs) {r : Rule} (hr : r ∈ rs) : (1 ≤ r.wth ∧ r.wth ≤ 20) ∧ 1 ≤ r.least ∧ r.least ≤ 99 := by
  have := (h r hr).1
  unfold badRule at this
  omega
/-- One step of mending. -/
theorem mend_step {rs : List Rule} (hr : Rok rs) {l : List Pin} (hl : Lk l) {n : Nat} : (brokenFrom l 0 rs = -1 ∧ (∀ r ∈ rs, ¬ breaks l r) ∧ mend rs (n + 1) l = .ok l) ∨
    ∃ (j : Nat) (r : Rule), brokenFrom l 0 rs = j ∧ rs[j]? = some r ∧ r ∈ rs ∧ breaks l r ∧ Lk (up r.wth r.least l) ∧ LeL l (up r.wth r.least l) ∧ weight l < weight (up r.wth r.least l) ∧
      mend rs (n + 1) l = if 12 < (up r.wth r.least l).length then .error 2 else mend rs n (up r.wth r.least l) := by
  rcases brokenFrom_spec l rs 0 (by omega) with ⟨h1, h2⟩ | ⟨j, r, h1, h2, h3⟩
  · exact .inl ⟨h1, h2, by rw [mend, if_pos (by omega)]⟩
  · have hm := List.mem_of_getElem? h2
    have hs := hr.least hm
    refine .inr ⟨j, r, by omega, h2, hm, h3, hl.up hs.1 hs.2, fun m => ?_, ?_, ?_⟩
    · rw [find_up m hl]
      split
      · rename_i e; subst e; have := h3.2; omega
      · exact Int.le_refl _
    · rw [weight_up hl]; have := h3.2; omega
    · rw [mend, if_neg (by omega), show (brokenFrom l 0 rs).toNat = j from by omega, h2]
theorem mend_ok {rs : List Rule} (hr : Rok rs) : ∀ (n : Nat) {l m : List Pin}, Lk l → l.length ≤ 12 → mend rs n l = .ok m → Lk m ∧ m.length ≤ 12 ∧ (∀ r ∈ rs, ¬ breaks m r) ∧ LeL l m ∧
    ∀ o, Lk o → (∀ r ∈ rs, ¬ breaks o r) → LeL l o → LeL m o
  | 0, l, m, _, _, h => by cases h
  | n + 1, l, m, hl, hlen, h => by
    rcases mend_step hr hl (n := n) with ⟨_, h2, h3⟩ | ⟨j, r, _, _, hm, h3, h4, h5, h6, h7⟩
    · rw [h3] at h
      obtain rfl : l = m := by simpa using h
      exact ⟨hl, hlen, h2, LeL.refl l, fun o _ _ h => h⟩
    · rw [h7] at h
      split at h
      · cases h
      · rename_i hlen2
        obtain ⟨a1, a2, a3, a4, a5⟩ := mend_ok hr n h4 (by omega) h
        refine ⟨a1, a2, a3, h5.trans a4, fun o ho hk hle => a5 o ho hk fun k => ?_⟩
        rw [find_up k hl]
        split
        · rename_i e
          subst e
          have h8 := hk r hm
          unfold breaks at h8 h3
          have := hle r.name
          omega
        · exact hle k
/-- Where a lock above keeps all rules, mending ends well, below it. -/
theorem mend_below {rs : List Rule} (hr : Rok rs) {o : List Pin} (ho : Lk o) (hk : ∀ r ∈ rs, ¬ breaks o r) (hol : o.length ≤ 12) : ∀ (n : Nat) {l : List Pin}, Lk l → LeL l o → 1981 ≤ weight l + n → ∃ m, mend rs n l = .ok m
  | 0, l, hl, _, hw => by have := hl.weight; omega
  | n + 1, l, hl, hle, hw => by
    rcases mend_step hr hl (n := n) with ⟨_, h2, h3⟩ | ⟨j, r, _, _, hm, h3, h4, h5, h6, h7⟩
    · exact ⟨l, h3⟩
    · have hle2 : LeL (up r.wth r.least l) o := fun k => by
        rw [find_up k hl]
        split
        · rename_i e
          subst e
          have h8 := hk r hm
          unfold breaks at h8 h3
          have := hle r.name
          omega
        · exact hle k
      have := LeL.len h4 ho hle2
      obtain ⟨m, hm2⟩ := mend_below hr ho hk hol n h4 hle2 (by omega)
      exact ⟨m, by rw [h7, if_neg (by omega), hm2]⟩
theorem mend_keeps {rs : List Rule} {l : List Pin} {n : Nat} (h : ∀ r ∈ rs, ¬ breaks l r) : mend rs (n + 1) l = .ok l := by
  rw [mend, if_pos (by rw [broken_none h]; omega)]
def mended (l : List Pin) (rs : List Rule) : Except Int (List Pin) := if brokenErr l rs = 0 then mend rs 1981 l else .error (brokenErr l rs)
theorem brokenErr_zero {l : List Pin} {rs : List Rule} : brokenErr l rs = 0 ↔ (Lk l ∧ l.length ≤ 12) ∧ rs.length ≤ 10 ∧ Rok rs := by
  unfold brokenErr
  rw [← lockCheck_zero]
  split
  · rename_i h; rw [rulesCheck_zero]; simp [h, Rok]
  · rename_i h; simp [h]
theorem mended_ok {l m : List Pin} {rs : List Rule} (h : mended l rs = .ok m) : (Lk l ∧ l.length ≤ 12) ∧ (rs.length ≤ 10 ∧ Rok rs) ∧ mend rs 1981 l = .ok m ∧ Lk m ∧ m.length ≤ 12 ∧ (∀ r ∈ rs, ¬ breaks m r) ∧ LeL l m ∧
    ∀ o, Lk o → (∀ r ∈ rs, ¬ breaks o r) → LeL l o → LeL m o := by
  unfold mended at h
  split at h
  · rename_i h0
    obtain ⟨h1, h2⟩ := brokenErr_zero.1 h0
    exact ⟨h1, h2, h, mend_ok h2.2 1981 h1.1 h1.2 h⟩
  · cases h
end Go.Vg
set_option linter.unusedSimpArgs false
set_option linter.unusedVariables false
namespace Go.Vg
open Go
def lockOfFrom : Int → List Int → List Pin
  | _, [] => []
  | n, v :: r => if 0 < v then ⟨n, v⟩ :: lockOfFrom (n + 1) r else lockOfFrom (n + 1) r
def tabI (l : List Pin) : List Int := (List.range 21).map fun n : Nat => find l (n : Int)
theorem lockOfFrom_mem {p : Pin} : ∀ {t : List Int} {n : Int}, p ∈ lockOfFrom n t → ∃ i : Nat, t[i]? = some p.ver ∧ p.name = n + i ∧ 0 < p.ver
  | [], n, h => by cases h
  | v :: r, n, h => by
    unfold lockOfFrom at h
    split at h
    · rcases List.mem_cons.1 h with rfl | h
      · rename_i hv; exact ⟨0, rfl, by simp, hv⟩
      · obtain ⟨i, h1, h2, h3⟩ := lockOfFrom_mem h; exact ⟨i + 1, by simpa using h1, by rw [h2]; omega, h3⟩
    · obtain ⟨i, h1, h2, h3⟩ := lockOfFrom_mem h; exact ⟨i + 1, by simpa using h1, by rw [h2]; omega, h3⟩
theorem lockOfFrom_rise : ∀ (t : List Int) (n : Int), (lockOfFrom n t).Pairwise (fun p q => p.name < q.name)
  | [], n => List.Pairwise.nil
  | v :: r, n => by
    unfold lockOfFrom
    split
    · refine List.pairwise_cons.2 ⟨fun q hq => ?_, lockOfFrom_rise r (n + 1)⟩
      obtain ⟨i, _, h2, _⟩ := lockOfFrom_mem hq
      simp; omega
    · exact lockOfFrom_rise r (n + 1)
theorem find_lockOfFrom : ∀ (t : List Int) (n : Int) (i : Nat) (v : Int), t[i]? = some v → 0 < v → find (lockOfFrom n t) (n + i) = v
  | [], n, i, v, h, _ => by simp at h
  | w :: r, n, 0, v, h, hv => by
    simp at h; subst h
    unfold lockOfFrom
    rw [if_pos hv, find, if_pos (by simp)]
  | w :: r, n, i + 1, v, h, hv => by
    have ih := find_lockOfFrom r (n + 1) i v (by simpa using h) hv
    rw [show n + 1 + (i : Int) = n + ((i + 1 : Nat) : Int) from by omega] at ih
    unfold lockOfFrom
    split
    · rw [find, if_neg (by simp; omega), ih]
    · exact ih
theorem lockOf_eq {t : List Int} {m : List Pin} (hm : Lk m) (hl : t.length = 21) (h : ∀ i : Nat, i < 21 → t[i]? = some (find m i)) : lockOfFrom 0 t = m := by
  have hk : Lk (lockOfFrom 0 t) := ⟨fun p hp => by
    obtain ⟨i, h1, h2, h3⟩ := lockOfFrom_mem hp
    have hi : i < 21 := by have := (List.getElem?_eq_some_iff.1 h1).1; omega
    rw [h i hi] at h1
    have e : find m i = p.ver := by simpa using h1
    have := hm.find_range i
    have h0 : i ≠ 0 := by rintro rfl; have := hm.find_out (n := ((0 : Nat) : Int)) (by omega); omega
    unfold badPin; omega, lockOfFrom_rise t 0⟩
  refine hk.ext hm fun n => ?_
  by_cases e : find m n = 0
  · rw [e]
    by_cases e2 : find (lockOfFrom 0 t) n = 0
    · exact e2
    · exfalso
      obtain ⟨p, h1, h2, h3⟩ := find_pos e2
      obtain ⟨i, g1, g2, g3⟩ := lockOfFrom_mem h1
      have hi : i < 21 := by have := (List.getElem?_eq_some_iff.1 g1).1; omega
      rw [h i hi] at g1
      have : find m i = p.ver := by simpa using g1
      rw [show (i : Int) = n from by omega] at this
      omega
  · have hr := hm.find_range n
    have hn : 1 ≤ n ∧ n ≤ 20 := by
      by_cases c : n < 1 ∨ 20 < n
      · exact absurd (hm.find_out c) e
      · omega
    have := find_lockOfFrom t 0 n.toNat (find m n) (by rw [h n.toNat (by omega), show (n.toNat : Int) = n from by omega]) (by omega)
    rw [show (0 : Int) + (n.toNat : Int) = n from by omega] at this
    exact this
theorem tabI_at (l : List Pin) {i : Nat} (hi : i < 21) : (tabI l)[i]? = some (find l i) := by
  unfold tabI
  rw [List.getElem?_map, List.getElem?_range hi]; rfl
theorem lockOf_tab {l : List Pin} (hl : Lk l) : lockOfFrom 0 (tabI l) = l := lockOf_eq hl (by simp [tabI]) fun i hi => tabI_at l hi
theorem tab_set {l : List Pin} (hl : Lk l) {n v : Int} (hn : 1 ≤ n ∧ n ≤ 20) : (tabI l).set n.toNat v = tabI (up n v l) := by
  apply List.ext_getElem?
  intro i
  by_cases hi : i < 21
  · rw [tabI_at _ hi, List.getElem?_set, find_up _ hl]
    split
    · rename_i e
      rw [if_pos (by simp [tabI]; omega), if_pos (by omega)]
    · rw [tabI_at _ hi, if_neg (by omega)]
  · rw [List.getElem?_eq_none (by simp [tabI]; omega), List.getElem?_eq_none (by simp [tabI]; omega)]
/-! ### What the laws of rules say -/
theorem mends_keep {l m : List Pin} {rs : List Rule} (h : mended l rs = .ok m) : brokenErr m rs = 0 ∧ brokenFrom m 0 rs = -1 ∧ mended m rs = .ok m ∧ ∀ p ∈ l, p.ver ≤ find m p.name := by
  obtain ⟨h1, h2, h3, h4, h5, h6, h7, h8⟩ := mended_ok h
  have e : brokenErr m rs = 0 := brokenErr_zero.2 ⟨⟨h4, h5⟩, h2⟩
  refine ⟨e, broken_none h6 0, by rw [mended, if_pos e]; exact mend_keeps h6, fun p hp => ?_⟩
  have := h7 p.name
  rw [find_mem h1.1 hp] at this
  exact this
theorem broken_neg {l : List Pin} {rs : List Rule} (h : brokenFrom l 0 rs < 0) : brokenFrom l 0 rs = -1 ∧ ∀ r ∈ rs, ¬ breaks l r := by
  rcases brokenFrom_spec l rs 0 (by omega) with h1 | ⟨j, r, h1, _⟩
  · exact h1
  · omega
theorem mends_least {l m o : List Pin} {rs : List Rule} (h : mended l rs = .ok m) (ho : brokenErr o rs = 0) (hk : brokenFrom o 0 rs < 0) (hl : ∀ p ∈ l, p.ver ≤ find o p.name) : ∀ p ∈ m, p.ver ≤ find o p.name := by
  obtain ⟨h1, h2, h3, h4, h5, h6, h7, h8⟩ := mended_ok h
  have ho' := (brokenErr_zero.1 ho).1.1
  have := h8 o ho' (broken_neg hk).2 (leL_of_pins h1.1 ho' hl)
  intro p hp
  have := this p.name
  rw [find_mem h4 hp] at this
  exact this
theorem mends_other {l m : List Pin} {rs rs' : List Rule} (h : mended l rs = .ok m) (hs : ∀ r ∈ rs', r ∈ rs) (hlen : rs'.length ≤ 10) : ∃ f, mended l rs' = .ok f ∧ LeL f m ∧ Lk f := by
  obtain ⟨h1, h2, h3, h4, h5, h6, h7, h8⟩ := mended_ok h
  have hr : Rok rs' := fun r hr => h2.2 r (hs r hr)
  obtain ⟨f, hf⟩ := mend_below hr h4 (fun r hr => h6 r (hs r hr)) h5 1981 h1.1 h7 (by have := weight_nonneg h1.1; omega)
  have e : mended l rs' = .ok f := by rw [mended, if_pos (brokenErr_zero.2 ⟨h1, hlen, hr⟩)]; exact hf
  obtain ⟨_, _, _, g4, g5, g6, g7, g8⟩ := mended_ok e
  exact ⟨f, e, g8 m h4 (fun r hr => h6 r (hs r hr)) h7, g4⟩
theorem mends_turned {l m : List Pin} {rs : List Rule} (h : mended l rs = .ok m) : mended l rs.reverse = .ok m := by
  have h2 := (mended_ok h).2.1
  obtain ⟨f, hf, hle, hLf⟩ := mends_other h (rs' := rs.reverse) (by simp) (by simp; omega)
  obtain ⟨g, hg, hle2, hLg⟩ := mends_other hf (rs' := rs) (by simp) (by omega)
  rw [h] at hg
  obtain rfl : m = g := by simpa using hg
  rw [hf, LeL.antisymm hLf hLg hle hle2]
theorem mends_fewer {l m : List Pin} {rs : List Rule} (h : mended l rs = .ok m) (k : Nat) : ∃ f, mended l (rs.take k) = .ok f ∧ ∀ p ∈ f, p.ver ≤ find m p.name := by
  have h2 := (mended_ok h).2.1
  obtain ⟨f, hf, hle, hLf⟩ := mends_other h (rs' := rs.take k) (fun r hr => List.mem_of_mem_take hr) (by simp; omega)
  exact ⟨f, hf, fun p hp => by have := hle p.name; rw [find_mem hLf hp] at this; exact this⟩
theorem mends_same {l m : List Pin} {rs : List Rule} (h : mended l rs = .ok m) : brokenErr l rs = 0 ∧ (brokenFrom l 0 rs = -1 ↔ l = m) := by
  obtain ⟨h1, h2, h3, h4, h5, h6, h7, h8⟩ := mended_ok h
  refine ⟨brokenErr_zero.2 ⟨h1, h2⟩, fun e => ?_, fun e => ?_⟩
  · have := mend_keeps (n := 1980) (broken_neg (l := l) (rs := rs) (by omega)).2
    rw [h3] at this
    simpa using this.symm
  · subst e; exact broken_none h6 0
end Go.Vg
