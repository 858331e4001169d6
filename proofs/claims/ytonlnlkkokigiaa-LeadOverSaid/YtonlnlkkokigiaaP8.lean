/- What is proved here: what a record of a leader keeps. -/
import Derived.Test.YtonlnlkkokigiaaCL5
set_option linter.unusedSimpArgs false
set_option maxRecDepth 100000
set_option linter.unusedVariables false
namespace Go.Vg
open Go Go.Proofs
theorem form_parts {c : Conf} {l : Ldr} (h : ¬ ldrForm c l) : l.goal ≠ l.now ∧ ¬ (l.goal = 0 ∧ l.back = true) ∧ (l.ags.length : Int) = agentsOf c.waves ∧ l.rels[0]? = some c.first := by
  refine ⟨fun q => h (.inl q), fun q => h (.inr (.inl q)), ?_, ?_⟩
  · by_cases q : (l.ags.length : Int) = agentsOf c.waves
    · exact q
    · exact absurd (.inr (.inr (.inl q))) h
  · by_cases q : l.rels[0]? = some c.first
    · exact q
    · exact absurd (.inr (.inr (.inr q))) h
theorem form_of {c : Conf} {l : Ldr} (h1 : l.goal ≠ l.now) (h2 : ¬ (l.goal = 0 ∧ l.back = true)) (h3 : (l.ags.length : Int) = agentsOf c.waves) (h4 : l.rels[0]? = some c.first) : ¬ ldrForm c l := by
  rintro (q | q | q | q)
  · exact h1 q
  · exact h2 q
  · exact q h3
  · exact q h4
theorem new_ok {c : Conf} (h : cfgErr c = 0) : ldrErr c (newLdr c) = 0 := by
  obtain ⟨z1, z2, z3, z4, z5, z6, z7⟩ := cfgErr_zero h
  have hag := (agents_same z7).2
  refine ldrErr_zero.2 ⟨h, by simp [newLdr], by simp [newLdr], ?_, ?_, ?_, ?_⟩
  · refine relsErr_zero.2 fun j r hj => ?_
    cases j with
    | zero => simp [newLdr] at hj; subst hj; exact ⟨z5, z6, by rw [z2]; rfl⟩
    | succ j => simp [newLdr] at hj
  · unfold ldrRange newLdr; simp
  · refine form_of (by simp [newLdr]) (by simp [newLdr]) ?_ rfl
    simp [newLdr]; omega
  · refine knErr_zero.2 fun a ha => ?_
    simp [newLdr] at ha
    obtain ⟨_, rfl⟩ := ha
    exact ⟨by unfold badKn newLdr; simp, by unfold oddKn newLdr; simp⟩
theorem led_zero {c : Conf} {l : Ldr} {r : Recd} (h : ledErr c l r = 0) : ldrErr c l = 0 ∧ recErr r = 0 ∧ ledKind c l r = 0 := by
  unfold ledErr at h
  split at h
  · omega
  · split at h
    · omega
    · exact ⟨by omega, by omega, h⟩
theorem led_cases {c : Conf} {l : Ldr} {r : Recd} (h : ledKind c l r = 0) : (r.kind = 4 ∧ l.rels.length ≠ 6 ∧ r.rel.id = l.rels.length + 1 ∧ brokenErr r.rel.lock c.rules = 0 ∧ broken r.rel.lock c.rules < 0) ∨
    (r.kind = 5 ∧ l.goal = 0 ∧ r.num ≤ l.rels.length ∧ r.num ≠ l.now) ∨ (r.kind = 6 ∧ r.agent < l.ags.length ∧ l.goal ≠ 0 ∧ r.try_ = l.nx ∧ turnOf c l r.agent = true) ∨
    (r.kind = 7 ∧ r.agent < l.ags.length ∧ ∃ a, l.ags[r.agent.toNat]? = some a ∧ a.st = 1 ∧ r.try_ = a.try_) ∨ (r.kind = 8 ∧ l.goal ≠ 0 ∧ l.back = false) ∨ (r.kind = 9 ∧ l.goal ≠ 0 ∧ overOf c l = true) := by
  unfold ledKind at h
  by_cases k4 : r.kind = 4
  · rw [if_pos k4] at h
    split at h
    · omega
    · split at h
      · omega
      · split at h
        · omega
        · split at h
          · omega
          · exact .inl ⟨k4, by assumption, by omega, by omega, by omega⟩
  · rw [if_neg k4] at h
    by_cases k5 : r.kind = 5
    · rw [if_pos k5] at h
      split at h
      · omega
      · split at h
        · omega
        · split at h
          · omega
          · exact .inr (.inl ⟨k5, by omega, by omega, by assumption⟩)
    · rw [if_neg k5] at h
      by_cases k67 : r.kind = 6 ∨ r.kind = 7
      · rw [if_pos k67] at h
        split at h
        · omega
        · by_cases k7 : r.kind = 7
          · rw [if_pos k7] at h
            cases ha : l.ags[r.agent.toNat]? with
            | none => rw [ha] at h; simp at h
            | some a =>
              rw [ha] at h
              simp only at h
              split at h
              · omega
              · exact .inr (.inr (.inr (.inl ⟨k7, by omega, a, rfl, by omega, by omega⟩)))
          · rw [if_neg k7] at h
            split at h
            · omega
            · rename_i w
              refine .inr (.inr (.inl ⟨by omega, by omega, fun q => w (.inl q), ?_, ?_⟩))
              · by_cases q : r.try_ = l.nx
                · exact q
                · exact absurd (.inr (.inl q)) w
              · cases q : turnOf c l r.agent with
                | true => rfl
                | false => exact absurd (.inr (.inr q)) w
      · rw [if_neg k67] at h
        by_cases k8 : r.kind = 8
        · rw [if_pos k8] at h
          split at h
          · omega
          · rename_i w
            refine .inr (.inr (.inr (.inr (.inl ⟨k8, fun q => w (.inl q), ?_⟩))))
            cases q : l.back with
            | false => rfl
            | true => exact absurd (.inr q) w
        · rw [if_neg k8] at h
          by_cases k9 : r.kind = 9
          · rw [if_pos k9] at h
            split at h
            · omega
            · rename_i w
              refine .inr (.inr (.inr (.inr (.inr ⟨k9, fun q => w (.inl q), ?_⟩))))
              cases q : overOf c l with
              | true => rfl
              | false => exact absurd (.inr q) w
          · rw [if_neg k9] at h; omega
theorem kn_mem_set {xs : List Kn} {k : Nat} {x a : Kn} (h : a ∈ xs.set k x) : a = x ∨ a ∈ xs := by
  rcases List.mem_or_eq_of_mem_set h with h | h
  · exact .inr h
  · exact .inl h
/-- A leader stays one. -/
theorem led_ok {c : Conf} {l : Ldr} {r : Recd} (h : ledErr c l r = 0) : ldrErr c (ledNext l r) = 0 := by
  obtain ⟨h1, h2, h3⟩ := led_zero h
  obtain ⟨g1, g2, g3, g4, g5, g6, g7⟩ := ldrErr_zero.1 h1
  obtain ⟨z1, z2, z3, z4⟩ := rec_zero h2
  obtain ⟨f1, f2, f3, f4⟩ := form_parts g6
  have hkn := knErr_zero.1 g7
  have g5' := g5
  unfold ldrRange at g5'
  unfold recRange at z3
  rcases led_cases h3 with ⟨k, w1, w2, w3, w4⟩ | ⟨k, w1, w2, w3⟩ | ⟨k, w1, w2, w3, w4⟩ | ⟨k, w1, a, w2, w3, w4⟩ | ⟨k, w1, w2⟩ | ⟨k, w1, w2⟩
  · have e : ledNext l r = { l with rels := l.rels ++ [r.rel] } := by rw [ledNext, if_pos k]
    rw [e]
    refine ldrErr_zero.2 ⟨g1, by simp, by simp; omega, relsErr_zero.2 fun j x hj => ?_, by unfold ldrRange; simp; omega, form_of f1 f2 f3 ?_, g7⟩
    · rcases Nat.lt_or_ge j l.rels.length with hl | hl
      · rw [List.getElem?_append_left hl] at hj
        exact relsErr_zero.1 g4 j x hj
      · rw [List.getElem?_append_right hl] at hj
        cases hjl : j - l.rels.length with
        | zero => rw [hjl] at hj; simp at hj; subst hj; exact ⟨w3, w4, by rw [w2]; omega⟩
        | succ m => rw [hjl] at hj; simp at hj
    · simp only; rw [List.getElem?_append_left (by omega)]; exact f4
  · have e : ledNext l r = { l with goal := r.num } := by rw [ledNext, if_neg (by omega), if_pos k]
    rw [e]
    refine ldrErr_zero.2 ⟨g1, g2, g3, g4, by unfold ldrRange; simp only; omega, form_of w3 (fun q => by simp only at q; omega) f3 f4, knErr_zero.2 fun a ha => ?_⟩
    obtain ⟨x1, x2⟩ := hkn a ha
    refine ⟨x1, ?_⟩
    unfold oddKn at x2 ⊢
    simp only
    rintro (⟨y1, _⟩ | y)
    · exact x2 (.inl ⟨y1, .inl w1⟩)
    · exact x2 (.inr y)
  · have e : ledNext l r = { l with ags := l.ags.set r.agent.toNat ⟨1, r.try_, l.back⟩, nx := l.nx + 1 } := by rw [ledNext, if_neg (by omega), if_neg (by omega), if_pos k]
    rw [e]
    refine ldrErr_zero.2 ⟨g1, g2, g3, g4, by unfold ldrRange; simp only; omega, form_of f1 f2 (by simpa using f3) f4, knErr_zero.2 fun a ha => ?_⟩
    rcases kn_mem_set ha with rfl | ha
    · refine ⟨by unfold badKn; simp only; omega, ?_⟩
      unfold oddKn
      simp only
      rintro (⟨_, y | y⟩ | ⟨y1, y | y⟩)
      · exact w2 y
      · omega
      · rw [y] at y1; cases y1
      · omega
    · obtain ⟨x1, x2⟩ := hkn a ha
      exact ⟨by unfold badKn at x1 ⊢; simp only; omega, x2⟩
  · have e : ledNext l r = { l with ags := l.ags.set r.agent.toNat (got r a) } := by rw [ledNext, if_neg (by omega), if_neg (by omega), if_neg (by omega), if_pos k, w2]
    rw [e]
    refine ldrErr_zero.2 ⟨g1, g2, g3, g4, g5, form_of f1 f2 (by simpa using f3) f4, knErr_zero.2 fun b hb => ?_⟩
    rcases kn_mem_set hb with rfl | hb
    · obtain ⟨x1, x2⟩ := hkn a (List.mem_of_getElem? w2)
      have hst : (got r a).st = 2 ∨ (got r a).st = 3 := by unfold got; by_cases hg : r.good = true <;> simp [hg]
      have ht : (got r a).try_ = a.try_ := rfl
      have hbk : (got r a).back = a.back := rfl
      refine ⟨by unfold badKn at x1 ⊢; rw [ht]; simp only; omega, ?_⟩
      unfold oddKn at x2 ⊢
      rw [ht, hbk]
      simp only
      rintro (⟨_, y⟩ | ⟨y1, y | y⟩)
      · exact x2 (.inl ⟨by omega, y⟩)
      · exact x2 (.inr ⟨y1, .inl y⟩)
      · omega
    · exact hkn b hb
  · have e : ledNext l r = { l with back := true } := by rw [ledNext, if_neg (by omega), if_neg (by omega), if_neg (by omega), if_neg (by omega), if_pos k]
    rw [e]
    refine ldrErr_zero.2 ⟨g1, g2, g3, g4, g5, form_of f1 (fun q => w1 q.1) f3 f4, knErr_zero.2 fun a ha => ?_⟩
    obtain ⟨x1, x2⟩ := hkn a ha
    refine ⟨x1, ?_⟩
    unfold oddKn at x2 ⊢
    simp only
    rintro (y | ⟨y1, _⟩)
    · exact x2 (.inl y)
    · exact x2 (.inr ⟨y1, .inl w2⟩)
  · have e : ledNext l r = { l with now := (if l.back = false then l.goal else l.now), goal := 0, back := false, ags := l.ags.map fun a => ⟨0, a.try_, false⟩ } := by rw [ledNext, if_neg (by omega), if_neg (by omega), if_neg (by omega), if_neg (by omega), if_neg (by omega)]
    rw [e]
    have hn : 1 ≤ (if l.back = false then l.goal else l.now) ∧ (if l.back = false then l.goal else l.now) ≤ l.rels.length := by split <;> omega
    refine ldrErr_zero.2 ⟨g1, g2, g3, g4, by unfold ldrRange; simp only; omega, form_of (by simp only; omega) (by simp) (by simpa using f3) f4, knErr_zero.2 fun b hb => ?_⟩
    obtain ⟨a, ha, rfl⟩ := List.mem_map.1 hb
    obtain ⟨x1, x2⟩ := hkn a ha
    exact ⟨by unfold badKn at x1 ⊢; simp only; omega, by unfold oddKn; simp⟩
theorem led_rises {c : Conf} {l : Ldr} {r : Recd} (h : ledErr c l r = 0) : l.nx ≤ (ledNext l r).nx ∧ l.rels.length ≤ (ledNext l r).rels.length ∧ (ledNext l r).rels.take l.rels.length = l.rels ∧ ((ledNext l r).now ≠ l.now → r.kind = 9) := by
  obtain ⟨h1, h2, h3⟩ := led_zero h
  rcases led_cases h3 with ⟨k, w1, w2, w3, w4⟩ | ⟨k, w1, w2, w3⟩ | ⟨k, w1, w2, w3, w4⟩ | ⟨k, w1, a, w2, w3, w4⟩ | ⟨k, w1, w2⟩ | ⟨k, w1, w2⟩
  · have e : ledNext l r = { l with rels := l.rels ++ [r.rel] } := by rw [ledNext, if_pos k]
    rw [e]; simp
  · have e : ledNext l r = { l with goal := r.num } := by rw [ledNext, if_neg (by omega), if_pos k]
    rw [e]; simp
  · have e : ledNext l r = { l with ags := l.ags.set r.agent.toNat ⟨1, r.try_, l.back⟩, nx := l.nx + 1 } := by rw [ledNext, if_neg (by omega), if_neg (by omega), if_pos k]
    rw [e]; simp; omega
  · have e : ledNext l r = { l with ags := l.ags.set r.agent.toNat (got r a) } := by rw [ledNext, if_neg (by omega), if_neg (by omega), if_neg (by omega), if_pos k, w2]
    rw [e]; simp
  · have e : ledNext l r = { l with back := true } := by rw [ledNext, if_neg (by omega), if_neg (by omega), if_neg (by omega), if_neg (by omega), if_pos k]
    rw [e]; simp
  · refine ⟨?_, ?_, ?_, fun _ => k⟩
    all_goals (rw [ledNext, if_neg (by omega), if_neg (by omega), if_neg (by omega), if_neg (by omega), if_neg (by omega)]; simp)
/-- Who is told stands in the first wave that isn't through. -/
theorem led_turn {c : Conf} {l : Ldr} {r : Recd} (h : ledErr c l r = 0) (k : r.kind = 6) (hb : l.back = false) : ∃ p, l.ags[r.agent.toNat]? = some p ∧ 0 ≤ r.agent ∧ r.agent < l.ags.length ∧ p.st = 0 ∧ cnt 3 l.ags ≤ c.bud ∧
    ∀ (k : Int) (m : Kn), 0 ≤ k → l.ags[k.toNat]? = some m → waveOf c.waves k < waveOf c.waves r.agent → m.st = 2 ∨ m.st = 3 := by
  obtain ⟨h1, h2, h3⟩ := led_zero h
  obtain ⟨g1, g2, g3, g4, g5, g6, g7⟩ := ldrErr_zero.1 h1
  obtain ⟨z1, z2, z3, z4⟩ := rec_zero h2
  obtain ⟨f1, f2, f3, f4⟩ := form_parts g6
  unfold recRange at z3
  obtain ⟨w1, w2, w3, w4⟩ : r.agent < l.ags.length ∧ l.goal ≠ 0 ∧ r.try_ = l.nx ∧ turnOf c l r.agent = true := by
    rcases led_cases h3 with ⟨k, _⟩ | ⟨k, _⟩ | ⟨k, w⟩ | ⟨k, _⟩ | ⟨k, _⟩ | ⟨k, _⟩
    · omega
    · omega
    · exact w
    · omega
    · omega
    · omega
  obtain ⟨p, hp⟩ : ∃ p, l.ags[r.agent.toNat]? = some p := ⟨_, List.getElem?_eq_getElem (by omega)⟩
  unfold turnOf at w4
  rw [hp] at w4
  simp only [hb, Bool.false_eq_true, if_false, decide_eq_true_eq] at w4
  obtain ⟨y1, y2, y3, y4⟩ := w4
  refine ⟨p, hp, by omega, w1, y2, y4, fun k m hk hm hlt => ?_⟩
  have hwz := waveCheck_zero y1
  have hkl := (List.getElem?_eq_some_iff.1 hm).1
  obtain ⟨N, hN, hIs⟩ : ∃ n : Nat, waveNow c.waves (thr l.ags) = n ∧ IsNow c.waves (thr l.ags) n := by
    obtain ⟨n, hn, hI⟩ := nowFrom_spec (thr l.ags) c.waves 0
    exact ⟨n, by rw [waveNow, thr_len, if_pos y1, hn]; omega, hI⟩
  rw [y3, hN] at hlt
  rcases waveOfFrom_spec k c.waves 0 with ⟨_, x⟩ | ⟨j, v, x1, x2, x3, x4⟩
  · exact absurd ((hwz.2.2.2.1 k).2 ⟨hk, by omega⟩) x
  · have hj : j < N := by unfold waveOf at hlt; omega
    have := hIs.ahead j v x2 hj k x3
    by_cases hst : m.st = 2 ∨ m.st = 3
    · exact hst
    · rw [(notThr hk hm).2 hst] at this; cases this
end Go.Vg
