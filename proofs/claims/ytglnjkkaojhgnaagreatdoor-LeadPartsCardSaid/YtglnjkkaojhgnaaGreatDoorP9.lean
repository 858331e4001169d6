/- Plain laws of steps between locks: no program in sight. -/
import Derived.Test.YtglnjkkaojhgnaaGreatDoorP3b
set_option linter.unusedSimpArgs false
set_option linter.unusedVariables false
namespace Go.Vg
open Go
structure Step where
  kind : Int
  name : Int
  ver : Int
  deriving DecidableEq
def dropOf (b : List Pin) (p : Pin) : Option Step := if find b p.name = 0 then some ⟨2, p.name, 0⟩ else none
def addOf (a : List Pin) (p : Pin) : Option Step := if find a p.name = p.ver then none else if find a p.name = 0 then some ⟨1, p.name, p.ver⟩ else some ⟨3, p.name, p.ver⟩
def drops (a b : List Pin) : List Step := a.filterMap (dropOf b)
def adds (a b : List Pin) : List Step := b.filterMap (addOf a)
def diffs (a b : List Pin) : List Step := drops a b ++ adds a b
def diffErr (a b : List Pin) : Int := if lockCheck a = 0 then lockCheck b else lockCheck a
/-- Without a package. -/
def del (n : Int) (l : List Pin) : List Pin := l.filter fun p => p.name ≠ n
def applied (l : List Pin) (o : Step) : List Pin := if o.kind = 2 then del o.name l else up o.name o.ver l
def badStep (o : Step) : Prop := o.name < 1 ∨ 20 < o.name ∨ (o.kind ≠ 2 ∧ (o.ver < 1 ∨ 99 < o.ver)) ∨ (o.kind = 2 ∧ o.ver ≠ 0)
instance (o : Step) : Decidable (badStep o) := by unfold badStep; infer_instance
def applyErr (l : List Pin) (o : Step) : Int :=
  if lockCheck l ≠ 0 then lockCheck l else
  if o.kind < 1 ∨ 3 < o.kind then 4 else
  if badStep o then 3 else
  if o.kind = 1 ∧ find l o.name ≠ 0 then 6 else
  if o.kind ≠ 1 ∧ find l o.name = 0 then 5 else
  if o.kind = 1 ∧ l.length = 12 then 2 else 0
theorem find_del {l : List Pin} (n m : Int) : find (del n l) m = if m = n then 0 else find l m := by
  induction l with
  | nil => simp [del, find]
  | cons p r ih =>
    unfold del at ih ⊢
    rw [List.filter_cons]
    by_cases h : p.name = n
    · rw [if_neg (by simp [h]), ih]
      by_cases e : m = n
      · rw [if_pos e, if_pos e]
      · rw [if_neg e, if_neg e, find, if_neg (by omega)]
    · rw [if_pos (by simp [h]), find, ih, find]
      by_cases e : p.name = m
      · rw [if_pos e, if_pos e, if_neg (by omega)]
      · rw [if_neg e, if_neg e]
theorem Lk.del {l : List Pin} (h : Lk l) (n : Int) : Lk (del n l) :=
  ⟨fun p hp => h.good p (List.mem_filter.1 hp).1, h.rise.sublist List.filter_sublist⟩
theorem applied_find {l : List Pin} (h : Lk l) (o : Step) (m : Int) (hk : o.kind = 2 → o.ver = 0) : find (applied l o) m = if m = o.name then o.ver else find l m := by
  unfold applied
  split
  · rename_i e; rw [find_del, hk e]
  · rw [find_up m h]
/-- Fewer names, fewer pins. -/
theorem names_len : ∀ {l m : List Pin}, Lk l → Lk m → (∀ p ∈ l, find m p.name ≠ 0) → l.length ≤ m.length := by
  intro l m hl hm h
  have hlk : ∀ {x : List Pin}, Lk x → Lk (x.map fun p => ⟨p.name, 1⟩) := fun hx => ⟨fun p hp => by
    obtain ⟨q, hq, rfl⟩ := List.mem_map.1 hp
    have := hx.name hq
    unfold badPin; simp; omega, by
    rw [List.pairwise_map]; exact hx.rise⟩
  have hf : ∀ (x : List Pin) (n : Int), Lk x → find (x.map fun p => ⟨p.name, 1⟩) n = if find x n = 0 then 0 else 1 := by
    intro x n hx
    induction x with
    | nil => rfl
    | cons p r ih =>
      rw [List.map_cons, find, find]
      by_cases e : p.name = n
      · have := hx.name (p := p) List.mem_cons_self
        rw [if_pos e, if_pos e, if_neg (by omega)]
      · rw [if_neg e, if_neg e, ih hx.tail]
  have := LeL.len (hlk hl) (hlk hm) fun n => by
    rw [hf l n hl, hf m n hm]
    by_cases e : find l n = 0
    · rw [if_pos e]; split <;> omega
    · obtain ⟨p, h1, h2, _⟩ := find_pos e
      have := h p h1
      rw [h2] at this
      rw [if_neg e, if_neg this]
      exact Int.le_refl _
  simpa using this
theorem filterMap_congr' {f g : Pin → Option Step} : ∀ {l : List Pin}, (∀ x ∈ l, g x = f x) → l.filterMap g = l.filterMap f
  | [], _ => rfl
  | x :: r, h => by
    have ih := filterMap_congr' (l := r) fun y hy => h y (List.mem_cons_of_mem _ hy)
    have hx := h x List.mem_cons_self
    cases hf : f x with
    | none => rw [List.filterMap_cons_none hf, List.filterMap_cons_none (hx.trans hf), ih]
    | some s => rw [List.filterMap_cons_some hf, List.filterMap_cons_some (hx.trans hf), ih]
/-- The first hit of a list turned. -/
theorem first_gone {f g : Pin → Option Step} {n : Int} (hn : ∀ q s, f q = some s → s.name = q.name) : ∀ {l : List Pin}, l.Pairwise (fun p q => p.name < q.name) → (∀ q ∈ l, q.name ≠ n → g q = f q) → (∀ q ∈ l, q.name = n → g q = none) →
    ∀ {o : Step} {rest : List Step}, l.filterMap f = o :: rest → o.name = n → l.filterMap g = rest
  | [], _, _, _, o, rest, h, _ => by cases h
  | q :: r, hp, h1, h2, o, rest, h, ho => by
    obtain ⟨hq, hr⟩ := List.pairwise_cons.1 hp
    cases hf : f q with
    | none =>
      rw [List.filterMap_cons_none hf] at h
      have hg : g q = none := by
        by_cases e : q.name = n
        · exact h2 q List.mem_cons_self e
        · rw [h1 q List.mem_cons_self e, hf]
      rw [List.filterMap_cons_none hg]
      exact first_gone hn hr (fun x hx => h1 x (List.mem_cons_of_mem _ hx)) (fun x hx => h2 x (List.mem_cons_of_mem _ hx)) h ho
    | some s =>
      rw [List.filterMap_cons_some hf] at h
      obtain ⟨rfl, rfl⟩ : s = o ∧ r.filterMap f = rest := by simpa using h
      have e := hn q s hf
      rw [List.filterMap_cons_none (h2 q List.mem_cons_self (by omega))]
      exact filterMap_congr' fun x hx => h1 x (List.mem_cons_of_mem _ hx) (by have := hq x hx; omega)
theorem dropOf_name {b : List Pin} (q : Pin) (s : Step) (h : dropOf b q = some s) : s.name = q.name ∧ s.kind = 2 ∧ s.ver = 0 ∧ find b q.name = 0 := by
  unfold dropOf at h
  split at h
  · cases h; rename_i e; exact ⟨rfl, rfl, rfl, e⟩
  · cases h
theorem addOf_name {a : List Pin} (q : Pin) (s : Step) (h : addOf a q = some s) : s.name = q.name ∧ s.ver = q.ver ∧ find a q.name ≠ q.ver ∧ (s.kind = 1 ∧ find a q.name = 0 ∨ s.kind = 3 ∧ find a q.name ≠ 0) := by
  unfold addOf at h
  split at h
  · cases h
  · rename_i e
    split at h
    · cases h; rename_i e2; exact ⟨rfl, rfl, e, .inl ⟨rfl, e2⟩⟩
    · cases h; rename_i e2; exact ⟨rfl, rfl, e, .inr ⟨rfl, e2⟩⟩
theorem drops_nil {a b : List Pin} (h : drops a b = []) : ∀ p ∈ a, find b p.name ≠ 0 := fun p hp e => by
  have := List.filterMap_eq_nil_iff.1 h p hp
  unfold dropOf at this
  rw [if_pos e] at this; cases this
theorem adds_nil {a b : List Pin} (h : adds a b = []) : ∀ p ∈ b, find a p.name = p.ver := fun p hp => by
  have := List.filterMap_eq_nil_iff.1 h p hp
  unfold addOf at this
  split at this
  · assumption
  · split at this <;> cases this
theorem diffs_nil {a b : List Pin} (ha : Lk a) (hb : Lk b) (h : diffs a b = []) : a = b := by
  obtain ⟨h1, h2⟩ := List.append_eq_nil_iff.1 h
  refine ha.ext hb fun n => ?_
  by_cases e : find b n = 0
  · rw [e]
    by_cases e2 : find a n = 0
    · exact e2
    · obtain ⟨p, hp, rfl, _⟩ := find_pos e2
      exact absurd e (drops_nil h1 p hp)
  · obtain ⟨p, hp, rfl, hv⟩ := find_pos e
    rw [adds_nil h2 p hp, hv]
theorem diffs_self (b : List Pin) (hb : Lk b) : diffs b b = [] := by
  refine List.append_eq_nil_iff.2 ⟨List.filterMap_eq_nil_iff.2 fun p hp => ?_, List.filterMap_eq_nil_iff.2 fun p hp => ?_⟩
  · have := hb.name hp
    rw [dropOf, if_neg (by rw [find_mem hb hp]; omega)]
  · rw [addOf, if_pos (find_mem hb hp)]
/-- What the steps are. -/
structure StepOk (a b : List Pin) (o : Step) : Prop where
  name : 1 ≤ o.name ∧ o.name ≤ 20
  ver : o.ver = find b o.name
  differs : find a o.name ≠ find b o.name
  kind : (o.kind = 2 ∧ find b o.name = 0 ∧ find a o.name ≠ 0) ∨ (o.kind = 1 ∧ find a o.name = 0 ∧ find b o.name ≠ 0) ∨ (o.kind = 3 ∧ find a o.name ≠ 0 ∧ find b o.name ≠ 0)
theorem diffs_mem {a b : List Pin} (ha : Lk a) (hb : Lk b) {o : Step} (h : o ∈ diffs a b) : StepOk a b o := by
  rcases List.mem_append.1 h with h | h
  · obtain ⟨p, hp, he⟩ := List.mem_filterMap.1 h
    obtain ⟨h1, h2, h3, h4⟩ := dropOf_name p o he
    have hn := ha.name hp
    have hf := find_mem ha hp
    rw [← h1] at h4 hn hf
    exact ⟨⟨hn.1, hn.2.1⟩, by rw [h3, h4], by rw [hf, h4]; omega, .inl ⟨h2, h4, by rw [hf]; omega⟩⟩
  · obtain ⟨p, hp, he⟩ := List.mem_filterMap.1 h
    obtain ⟨h1, h2, h3, h4⟩ := addOf_name p o he
    have hn := hb.name hp
    have hf := find_mem hb hp
    rw [← h1] at h3 h4 hn hf
    refine ⟨⟨hn.1, hn.2.1⟩, by rw [h2, hf], by rw [hf]; exact h3, ?_⟩
    rcases h4 with ⟨h5, h6⟩ | ⟨h5, h6⟩
    · exact .inr (.inl ⟨h5, h6, by rw [hf]; omega⟩)
    · exact .inr (.inr ⟨h5, h6, by rw [hf]; omega⟩)
theorem StepOk.good {a b : List Pin} (hb : Lk b) {o : Step} (h : StepOk a b o) : ¬ badStep o ∧ 1 ≤ o.kind ∧ o.kind ≤ 3 ∧ (o.kind = 2 → o.ver = 0) ∧ (o.kind ≠ 2 → 1 ≤ o.ver ∧ o.ver ≤ 99) := by
  have h1 := h.name
  have h2 := h.ver
  have h3 := hb.find_range o.name
  unfold badStep
  rcases h.kind with h4 | h4 | h4 <;> omega
theorem StepOk.applied {a b : List Pin} (ha : Lk a) (hb : Lk b) {o : Step} (h : StepOk a b o) : Lk (applied a o) ∧ ∀ m, find (applied a o) m = if m = o.name then find b m else find a m := by
  have hg := h.good hb
  refine ⟨?_, fun m => ?_⟩
  · unfold Vg.applied
    split
    · exact ha.del _
    · rename_i e; exact ha.up h.name (hg.2.2.2.2 e)
  · rw [applied_find ha o m hg.2.2.2.1]
    by_cases e : m = o.name
    · rw [if_pos e, if_pos e, e, h.ver]
    · rw [if_neg e, if_neg e]
/-- One step done, the rest is to be done. -/
theorem diffs_step {a b : List Pin} (ha : Lk a) (hb : Lk b) {o : Step} {rest : List Step} (h : diffs a b = o :: rest) : diffs (applied a o) b = rest := by
  have hok := diffs_mem ha hb (h ▸ List.mem_cons_self : o ∈ diffs a b)
  obtain ⟨hL, hf⟩ := hok.applied ha hb
  unfold diffs at h ⊢
  cases hd : drops a b with
  | nil =>
    rw [hd, List.nil_append] at h
    have h1 : drops (applied a o) b = [] := List.filterMap_eq_nil_iff.2 fun p hp => by
      have hm := hL.name hp
      have := hf p.name
      rw [find_mem hL hp] at this
      rw [dropOf, if_neg]
      intro e
      by_cases e2 : p.name = o.name
      · rw [if_pos e2] at this; omega
      · rw [if_neg e2] at this
        obtain ⟨q, hq, hqn, _⟩ := find_pos (l := a) (n := p.name) (by omega)
        have := drops_nil hd q hq
        rw [hqn] at this; exact this e
    rw [h1, List.nil_append]
    refine first_gone (f := addOf a) (g := addOf (applied a o)) (n := o.name) (fun q s hs => (addOf_name q s hs).1) hb.rise (fun q hq hn => ?_) (fun q hq hn => ?_) h rfl
    · unfold addOf; rw [hf, if_neg hn]
    · unfold addOf; rw [hf, if_pos hn, if_pos (find_mem hb hq)]
  | cons o' r =>
    rw [hd] at h
    obtain ⟨rfl, rfl⟩ : o' = o ∧ r ++ adds a b = rest := by simpa using h
    obtain ⟨p, hp, he⟩ := List.mem_filterMap.1 (hd ▸ List.mem_cons_self : o' ∈ drops a b)
    obtain ⟨h1, h2, h3, h4⟩ := dropOf_name p o' he
    have happ : applied a o' = del o'.name a := by unfold applied; rw [if_pos h2]
    have hdr : drops (applied a o') b = r := by
      have e1 : (del o'.name a).filterMap (dropOf b) = a.filterMap fun q => if q.name ≠ o'.name then dropOf b q else none := by
        unfold del
        generalize a = x
        induction x with
        | nil => rfl
        | cons q x ih =>
          rw [List.filter_cons]
          by_cases e : q.name = o'.name
          · rw [if_neg (by simp [e]), ih, List.filterMap_cons_none (by simp [e])]
          · rw [if_pos (by simp [e])]
            cases hq : dropOf b q with
            | none => rw [List.filterMap_cons_none hq, List.filterMap_cons_none (by simp [e, hq]), ih]
            | some s => rw [List.filterMap_cons_some hq, List.filterMap_cons_some (b := s) (by simp [e, hq]), ih]
      unfold drops
      rw [happ, e1]
      refine first_gone (f := dropOf b) (n := o'.name) (fun q s hs => (dropOf_name q s hs).1) ha.rise (fun q hq hn => ?_) (fun q hq hn => ?_) hd rfl
      · rw [if_pos hn]
      · rw [if_neg (by simp [hn])]
    have had : adds (applied a o') b = adds a b := by
      unfold adds
      refine filterMap_congr' fun q hq => ?_
      have hne : q.name ≠ o'.name := fun e => by
        have := hb.name hq
        rw [← e] at h1
        rw [← h1, find_mem hb hq] at h4; omega
      unfold addOf; rw [hf, if_neg hne]
    rw [hdr, had]
/-- One step is possible. -/
theorem diffs_fits {a b : List Pin} (ha : Lk a) (hb : Lk b) (ha12 : a.length ≤ 12) (hb12 : b.length ≤ 12) {o : Step} {rest : List Step} (h : diffs a b = o :: rest) : applyErr a o = 0 ∧ (applied a o).length ≤ 12 := by
  have hok := diffs_mem ha hb (h ▸ List.mem_cons_self : o ∈ diffs a b)
  obtain ⟨hL, hf⟩ := hok.applied ha hb
  have hg := hok.good hb
  have hlen : (applied a o).length ≤ 12 ∧ (o.kind = 1 → a.length + 1 ≤ (applied a o).length) := by
    rcases hok.kind with ⟨h1, h2, h3⟩ | ⟨h1, h2, h3⟩ | ⟨h1, h2, h3⟩
    · refine ⟨?_, by omega⟩
      unfold applied; rw [if_pos h1]
      have := List.length_filter_le (fun p : Pin => p.name ≠ o.name) a
      unfold del; omega
    · have hdn : drops a b = [] := by
        cases hd : drops a b with
        | nil => rfl
        | cons o' r =>
          obtain ⟨p, hp, he⟩ := List.mem_filterMap.1 (hd ▸ List.mem_cons_self : o' ∈ drops a b)
          have := dropOf_name p o' he
          unfold diffs at h
          rw [hd] at h
          obtain ⟨rfl, _⟩ : o' = o ∧ r ++ adds a b = rest := by simpa using h
          omega
      have h5 := names_len hL hb fun p hp => by
        by_cases e : p.name = o.name
        · rw [e]; exact h3
        · have hm := hL.name hp
          have := hf p.name
          rw [find_mem hL hp, if_neg e] at this
          obtain ⟨q, hq, hqn, _⟩ := find_pos (l := a) (n := p.name) (by omega)
          have := drops_nil hdn q hq
          rw [hqn] at this; exact this
      refine ⟨by omega, fun _ => ?_⟩
      unfold applied; rw [if_neg (by omega)]
      have : ∀ {l : List Pin}, find l o.name = 0 → (∀ p ∈ l, p.ver ≠ 0) → (up o.name o.ver l).length = l.length + 1 := by
        intro l
        induction l with
        | nil => intro _ _; rfl
        | cons p r ih =>
          intro h hv
          rw [find] at h
          have hp := hv p List.mem_cons_self
          by_cases e : p.name = o.name
          · rw [if_pos e] at h; exact absurd h hp
          · rw [if_neg e] at h
            unfold up
            split
            · simp
            · simp [ih h fun q hq => hv q (List.mem_cons_of_mem _ hq)]
      rw [this h2 fun p hp => by have := ha.name hp; omega]
      exact Nat.le_refl _
    · refine ⟨?_, by omega⟩
      have h5 := names_len hL ha fun p hp => by
        by_cases e : p.name = o.name
        · rw [e]; exact h2
        · have hm := hL.name hp
          have := hf p.name
          rw [find_mem hL hp, if_neg e] at this
          omega
      omega
  refine ⟨?_, hlen.1⟩
  unfold applyErr
  rw [if_neg (by simp [lockCheck_zero.2 ⟨ha, ha12⟩]), if_neg (by omega), if_neg hg.1]
  rcases hok.kind with ⟨h1, h2, h3⟩ | ⟨h1, h2, h3⟩ | ⟨h1, h2, h3⟩
  · rw [if_neg (by omega), if_neg (by omega), if_neg (by omega)]
  · rw [if_neg (by omega), if_neg (by omega), if_neg (by have := hlen.2 h1; omega)]
  · rw [if_neg (by omega), if_neg (by omega), if_neg (by omega)]
/-- The lock behind so many steps. -/
def after (a : List Pin) (ops : List Step) : List Pin := ops.foldl applied a
theorem after_all {b : List Pin} (hb : Lk b) (hb12 : b.length ≤ 12) : ∀ (ops : List Step) {a : List Pin}, Lk a → a.length ≤ 12 → diffs a b = ops →
    after a ops = b ∧ ∀ k, k ≤ ops.length → Lk (after a (ops.take k)) ∧ (after a (ops.take k)).length ≤ 12 ∧ diffs (after a (ops.take k)) b = ops.drop k
  | [], a, ha, ha12, h => ⟨diffs_nil ha hb h, fun k hk => by rw [List.take_nil, List.drop_nil]; exact ⟨ha, ha12, h⟩⟩
  | o :: rest, a, ha, ha12, h => by
    have h1 := diffs_step ha hb h
    have h2 := diffs_fits ha hb ha12 hb12 h
    have h3 := ((diffs_mem ha hb (h ▸ List.mem_cons_self : o ∈ diffs a b)).applied ha hb).1
    obtain ⟨h4, h5⟩ := after_all hb hb12 rest h3 h2.2 h1
    refine ⟨h4, fun k hk => ?_⟩
    cases k with
    | zero => exact ⟨ha, ha12, h⟩
    | succ k => exact h5 k (by simpa using hk)
/-- Names of steps are no two alike. -/
theorem diffs_names {a b : List Pin} (ha : Lk a) (hb : Lk b) : ((diffs a b).map Step.name).Nodup := by
  have hsub : ∀ (f : Pin → Option Step), (∀ q s, f q = some s → s.name = q.name) → ∀ {l : List Pin}, l.Pairwise (fun p q => p.name < q.name) → ((l.filterMap f).map Step.name).Nodup ∧ ∀ s ∈ l.filterMap f, ∃ p ∈ l, p.name = s.name := by
    intro f hf l hl
    refine ⟨?_, fun s hs => by obtain ⟨p, hp, he⟩ := List.mem_filterMap.1 hs; exact ⟨p, hp, (hf p s he).symm⟩⟩
    induction l with
    | nil => exact List.nodup_nil
    | cons q r ih =>
      obtain ⟨hq, hr⟩ := List.pairwise_cons.1 hl
      cases h : f q with
      | none => rw [List.filterMap_cons_none h]; exact ih hr
      | some s =>
        rw [List.filterMap_cons_some h, List.map_cons, List.nodup_cons]
        refine ⟨fun hm => ?_, ih hr⟩
        obtain ⟨t, ht, he⟩ := List.mem_map.1 hm
        obtain ⟨p, hp, h2⟩ := List.mem_filterMap.1 ht
        have := hq p hp
        have e1 := hf q s h
        have e2 := hf p t h2
        omega
  unfold diffs
  rw [List.map_append, List.nodup_append]
  refine ⟨(hsub _ (fun q s h => (dropOf_name q s h).1) ha.rise).1, (hsub _ (fun q s h => (addOf_name q s h).1) hb.rise).1, fun x hx y hy => ?_⟩
  rintro rfl
  obtain ⟨s, hs, rfl⟩ := List.mem_map.1 hx
  obtain ⟨t, ht, he⟩ := List.mem_map.1 hy
  obtain ⟨p, hp, h1⟩ := List.mem_filterMap.1 hs
  obtain ⟨q, hq, h2⟩ := List.mem_filterMap.1 ht
  have e1 := dropOf_name p s h1
  have e2 := addOf_name q t h2
  have := hb.name hq
  have h3 := find_mem hb hq
  rw [← e2.1, he, e1.1, e1.2.2.2] at h3
  omega
/-! ### On the way -/
def between (ops : List Step) (l : List Pin) : Int → List Pin → Int
  | k, now => match ops with
    | [] => if now = l then k else -1
    | o :: r => if now = l then k else between r l (k + 1) (applied now o)
theorem between_nil (l : List Pin) (k : Int) (now : List Pin) : between [] l k now = if now = l then k else -1 := by unfold between; rfl
theorem between_cons (o : Step) (r : List Step) (l : List Pin) (k : Int) (now : List Pin) : between (o :: r) l k now = if now = l then k else between r l (k + 1) (applied now o) := by conv => lhs; unfold between
theorem between_spec (l : List Pin) : ∀ (ops : List Step) (k : Int) (now : List Pin), 0 ≤ k → (between ops l k now = -1 ∧ ∀ j, j ≤ ops.length → after now (ops.take j) ≠ l) ∨ ∃ j : Nat, j ≤ ops.length ∧ between ops l k now = k + j ∧ after now (ops.take j) = l ∧ ∀ i, i < j → after now (ops.take i) ≠ l
  | [], k, now, hk => by
    rw [between_nil]
    by_cases e : now = l
    · rw [if_pos e]; exact .inr ⟨0, by simp, by simp, by simpa [after] using e, by omega⟩
    · rw [if_neg e]; exact .inl ⟨rfl, fun j hj => by simpa [after] using e⟩
  | o :: r, k, now, hk => by
    rw [between_cons]
    by_cases e : now = l
    · rw [if_pos e]; exact .inr ⟨0, by simp, by simp, by simpa [after] using e, by omega⟩
    · rw [if_neg e]
      rcases between_spec l r (k + 1) (applied now o) (by omega) with ⟨h1, h2⟩ | ⟨j, h1, h2, h3, h4⟩
      · refine .inl ⟨h1, fun j hj => ?_⟩
        cases j with
        | zero => simpa [after] using e
        | succ j => exact h2 j (by simpa using hj)
      · refine .inr ⟨j + 1, by simpa using h1, by rw [h2]; omega, h3, fun i hi => ?_⟩
        cases i with
        | zero => simpa [after] using e
        | succ i => exact h4 i (by omega)
def btwErr (a b l : List Pin) : Int := if diffErr a b = 0 then lockCheck l else diffErr a b
def btw (a b l : List Pin) : Int := if btwErr a b l = 0 then between (diffs a b) l 0 a else 0
theorem diffErr_zero {a b : List Pin} : diffErr a b = 0 ↔ (Lk a ∧ a.length ≤ 12) ∧ (Lk b ∧ b.length ≤ 12) := by
  unfold diffErr
  rw [← lockCheck_zero, ← lockCheck_zero]
  split <;> rename_i h <;> simp [h]
theorem btwErr_zero {a b l : List Pin} : btwErr a b l = 0 ↔ diffErr a b = 0 ∧ (Lk l ∧ l.length ≤ 12) := by
  unfold btwErr
  rw [← lockCheck_zero]
  split <;> rename_i h <;> simp [h]
/-- No lock on the way is there twice. -/
theorem after_inj {b : List Pin} (hb : Lk b) (hb12 : b.length ≤ 12) {a : List Pin} (ha : Lk a) (ha12 : a.length ≤ 12) {i j : Nat} (hij : i < j) (hj : j ≤ (diffs a b).length) : after a ((diffs a b).take i) ≠ after a ((diffs a b).take j) := fun e => by
  obtain ⟨_, h⟩ := after_all hb hb12 _ ha ha12 rfl
  have h1 := (h i (by omega)).2.2
  have h2 := (h j hj).2.2
  rw [e, h2] at h1
  have := congrArg List.length h1
  simp at this
  omega
theorem between_at {b : List Pin} (hb : Lk b) (hb12 : b.length ≤ 12) {a : List Pin} (ha : Lk a) (ha12 : a.length ≤ 12) {i : Nat} (hi : i ≤ (diffs a b).length) : between (diffs a b) (after a ((diffs a b).take i)) 0 a = i := by
  rcases between_spec (after a ((diffs a b).take i)) (diffs a b) 0 a (by omega) with ⟨_, h2⟩ | ⟨j, h1, h2, h3, h4⟩
  · exact absurd rfl (h2 i hi)
  · rw [h2]
    rcases Nat.lt_trichotomy i j with c | c | c
    · exact absurd rfl (h4 i c)
    · omega
    · exact absurd h3 (after_inj hb hb12 ha ha12 c hi)
theorem between_ends {a b l : List Pin} (hb : Lk b) (hb12 : b.length ≤ 12) (ha : Lk a) (ha12 : a.length ≤ 12) (h : between (diffs a b) l 0 a = -1) : l ≠ a ∧ l ≠ b := by
  rcases between_spec l (diffs a b) 0 a (by omega) with ⟨_, h2⟩ | ⟨j, h1, h2, h3, h4⟩
  · refine ⟨fun e => h2 0 (by omega) (by simpa [after] using e.symm), fun e => ?_⟩
    have := h2 (diffs a b).length (Nat.le_refl _)
    rw [List.take_length, (after_all hb hb12 _ ha ha12 rfl).1] at this
    exact this e.symm
  · omega
/-- A step done can be undone by at most one. -/
theorem applyErr_zero {l : List Pin} {o : Step} (h : applyErr l o = 0) : (Lk l ∧ l.length ≤ 12) ∧ 1 ≤ o.kind ∧ o.kind ≤ 3 ∧ ¬ badStep o ∧ (o.kind = 1 → find l o.name = 0 ∧ l.length < 12) ∧ (o.kind ≠ 1 → find l o.name ≠ 0) := by
  unfold applyErr at h
  split at h
  · omega
  · rename_i h1
    have h1 : lockCheck l = 0 := Decidable.not_not.1 h1
    have h0 := lockCheck_zero.1 h1
    split at h
    · omega
    · split at h
      · omega
      · split at h
        · omega
        · split at h
          · omega
          · split at h
            · omega
            · exact ⟨h0, by omega, by omega, by assumption, fun h => by omega, fun h => by omega⟩
theorem applied_ok {l : List Pin} {o : Step} (h : applyErr l o = 0) : Lk (applied l o) ∧ (applied l o).length ≤ 12 ∧ ∀ m, find (applied l o) m = if m = o.name then o.ver else find l m := by
  obtain ⟨⟨hl, hl12⟩, h1, h2, h3, h4, h5⟩ := applyErr_zero h
  unfold badStep at h3
  have hL : Lk (applied l o) := by
    unfold applied
    split
    · exact hl.del _
    · exact hl.up (by omega) (by omega)
  have hf : ∀ m, find (applied l o) m = if m = o.name then o.ver else find l m := fun m => applied_find hl o m (by omega)
  refine ⟨hL, ?_, hf⟩
  by_cases e : o.kind = 1
  · have : ∀ (l : List Pin), (up o.name o.ver l).length ≤ l.length + 1 := by
      intro l
      induction l with
      | nil => simp [up]
      | cons p r ih =>
        unfold up
        split
        · split <;> simp
        · simp; omega
    have := this l
    have := h4 e
    unfold applied; rw [if_neg (by omega)]; omega
  · have := names_len hL hl fun p hp => by
      have hm := hL.name hp
      have := hf p.name
      rw [find_mem hL hp] at this
      by_cases e2 : p.name = o.name
      · rw [e2]; exact h5 e
      · rw [if_neg e2] at this; omega
    omega
theorem undone {l : List Pin} {o : Step} (h : applyErr l o = 0) : (diffs (applied l o) l).length ≤ 1 := by
  obtain ⟨hL, _, hf⟩ := applied_ok h
  have hl := (applyErr_zero h).1.1
  have hall : ∀ s ∈ diffs (applied l o) l, s.name = o.name := fun s hs => by
    have := (diffs_mem hL hl hs).differs
    rw [hf] at this
    by_cases e : s.name = o.name
    · exact e
    · rw [if_neg e] at this; exact absurd rfl this
  have hnd := diffs_names hL hl
  match hd : diffs (applied l o) l, hall, hnd with
  | [], _, _ => simp
  | [s], _, _ => simp
  | s :: t :: r, hall, hnd =>
    have h1 := hall s List.mem_cons_self
    have h2 := hall t (List.mem_cons_of_mem _ List.mem_cons_self)
    simp at hnd
    exact absurd (h1.trans h2.symm) hnd.1.1
/-! ### The document's answers -/
def countUp : Nat → Int → List Int
  | 0, _ => []
  | k + 1, n => n :: countUp k (n + 1)
theorem countUp_spec {f : Pin → Option Step} {g : Int → Option Step} : ∀ (k : Nat) (n : Int) {l : List Pin}, Lk l → (∀ p ∈ l, n ≤ p.name ∧ p.name < n + k) → (∀ m, n ≤ m → g m = if find l m = 0 then none else f ⟨m, find l m⟩) → (countUp k n).filterMap g = l.filterMap f
  | 0, n, [], _, _, _ => rfl
  | 0, n, p :: r, _, h, _ => by have := h p List.mem_cons_self; omega
  | k + 1, n, [], hl, _, hg => by
    have := countUp_spec (f := f) (g := g) k (n + 1) hl (by simp) fun m hm => hg m (by omega)
    unfold countUp
    rw [List.filterMap_cons_none (by rw [hg n (Int.le_refl n)]; rfl), this]
  | k + 1, n, p :: r, hl, h, hg => by
    have hp := h p List.mem_cons_self
    have hn := hl.name (p := p) List.mem_cons_self
    unfold countUp
    by_cases e : p.name = n
    · have ih := countUp_spec (f := f) (g := g) k (n + 1) hl.tail (fun q hq => by have := hl.head q hq; have := h q (List.mem_cons_of_mem _ hq); omega) fun m hm => by
        have hfm : find (p :: r) m = find r m := by rw [find, if_neg (by omega)]
        rw [hg m (by omega), hfm]
      have hgn := hg n (Int.le_refl n)
      rw [find, if_pos e, if_neg (by omega)] at hgn
      have hpe : (⟨n, p.ver⟩ : Pin) = p := by cases p; simp at e; subst e; rfl
      rw [hpe] at hgn
      cases hf : f p with
      | none => rw [List.filterMap_cons_none (hgn.trans hf), List.filterMap_cons_none hf, ih]
      | some s => rw [List.filterMap_cons_some (hgn.trans hf), List.filterMap_cons_some hf, ih]
    · have ih := countUp_spec (f := f) (g := g) k (n + 1) hl (fun q hq => by
        have := h q hq
        rcases List.mem_cons.1 hq with rfl | hq
        · omega
        · have := hl.head q hq; omega) fun m hm => hg m (by omega)
      have hne : ∀ q ∈ p :: r, q.name ≠ n := fun q hq => by
        rcases List.mem_cons.1 hq with rfl | hq
        · exact e
        · have := hl.head q hq; omega
      rw [List.filterMap_cons_none (by rw [hg n (Int.le_refl n), if_pos (find_none hne)]), ih]
def rDrop (a b : List Pin) (n : Int) : Option Step := if find a n = find b n then none else if find b n = 0 then some ⟨2, n, 0⟩ else none
def rRest (a b : List Pin) (n : Int) : Option Step := if find a n = find b n then none else if find b n = 0 then none else if find a n = 0 then some ⟨1, n, find b n⟩ else some ⟨3, n, find b n⟩
theorem rDrop_all {a b : List Pin} (ha : Lk a) : (countUp 21 0).filterMap (rDrop a b) = drops a b :=
  countUp_spec 21 0 ha (fun p hp => by have := ha.name hp; omega) fun m _ => by
    unfold rDrop dropOf
    by_cases h1 : find a m = 0
    · rw [if_pos h1, h1]; split
      · rfl
      · rw [if_neg (by omega)]
    · rw [if_neg h1]; split
      · rw [if_neg (by simp; omega)]
      · rfl
theorem rRest_all {a b : List Pin} (hb : Lk b) : (countUp 21 0).filterMap (rRest a b) = adds a b :=
  countUp_spec 21 0 hb (fun p hp => by have := hb.name hp; omega) fun m _ => by
    unfold rRest addOf
    by_cases h1 : find b m = 0
    · rw [if_pos h1, if_pos h1]; split <;> rfl
    · rw [if_neg h1, if_neg h1]
theorem tab_applied {l : List Pin} (hl : Lk l) {o : Step} (hn : 1 ≤ o.name ∧ o.name ≤ 20) (hk : o.kind = 2 → o.ver = 0) : (tabI l).set o.name.toNat o.ver = tabI (applied l o) := by
  apply List.ext_getElem?
  intro i
  by_cases hi : i < 21
  · rw [tabI_at _ hi, List.getElem?_set, applied_find hl o _ hk]
    split
    · rename_i e
      rw [if_pos (by simp [tabI]; omega), if_pos (by omega)]
    · rw [tabI_at _ hi, if_neg (by omega)]
  · rw [List.getElem?_eq_none (by simp [tabI]; omega), List.getElem?_eq_none (by simp [tabI]; omega)]
theorem tabI_inj {x y : List Pin} (hx : Lk x) (hy : Lk y) (h : tabI x = tabI y) : x = y := by rw [← lockOf_tab hx, h, lockOf_tab hy]
end Go.Vg
