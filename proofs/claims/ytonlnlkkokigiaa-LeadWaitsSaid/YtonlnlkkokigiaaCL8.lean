/- What is proved here: what a record of a leader keeps; the contract of the law LeadWaits. -/
import Derived.Test.YtonlnlkkokigiaaCL5
import Derived.Test.YtonlnlkkokigiaaV18
set_option linter.unusedSimpArgs false
set_option maxRecDepth 100000
set_option linter.unusedVariables false
namespace Go.Vg
open Go Go.Proofs
theorem form_parts {c : Conf} {l : Ldr} (h : ¬ ldrForm c l) : l.goal ≠ l.now ∧ ¬ (l.goal = 0 ∧ l.back = true) ∧ (l.ags.length : Int) = agentsOf c.waves ∧ l.rels[0]? = some c.first := by
  refine ⟨fun q => h (.inl q), fun q => h (.inr (.inl q)), ?_, ?_⟩
  · by_cases q : (l.ags.length : Int) = agentsOf c.waves
    · exact q
    · exact absurd (.inr (.inr (.inl q))) h
  · by_cases q : l.rels[0]? = some c.first
    · exact q
    · exact absurd (.inr (.inr (.inr q))) h
theorem form_of {c : Conf} {l : Ldr} (h1 : l.goal ≠ l.now) (h2 : ¬ (l.goal = 0 ∧ l.back = true)) (h3 : (l.ags.length : Int) = agentsOf c.waves) (h4 : l.rels[0]? = some c.first) : ¬ ldrForm c l := by
  rintro (q | q | q | q)
  · exact h1 q
  · exact h2 q
  · exact q h3
  · exact q h4
theorem new_ok {c : Conf} (h : cfgErr c = 0) : ldrErr c (newLdr c) = 0 := by
  obtain ⟨z1, z2, z3, z4, z5, z6, z7⟩ := cfgErr_zero h
  have hag := (agents_same z7).2
  refine ldrErr_zero.2 ⟨h, by simp [newLdr], by simp [newLdr], ?_, ?_, ?_, ?_⟩
  · refine relsErr_zero.2 fun j r hj => ?_
    cases j with
    | zero => simp [newLdr] at hj; subst hj; exact ⟨z5, z6, by rw [z2]; rfl⟩
    | succ j => simp [newLdr] at hj
  · unfold ldrRange newLdr; simp
  · refine form_of (by simp [newLdr]) (by simp [newLdr]) ?_ rfl
    simp [newLdr]; omega
  · refine knErr_zero.2 fun a ha => ?_
    simp [newLdr] at ha
    obtain ⟨_, rfl⟩ := ha
    exact ⟨by unfold badKn newLdr; simp, by unfold oddKn newLdr; simp⟩
theorem led_zero {c : Conf} {l : Ldr} {r : Recd} (h : ledErr c l r = 0) : ldrErr c l = 0 ∧ recErr r = 0 ∧ ledKind c l r = 0 := by
  unfold ledErr at h
  split at h
  · omega
  · split at h
    · omega
    · exact ⟨by omega, by omega, h⟩
theorem led_cases {c : Conf} {l : Ldr} {r : Recd} (h : ledKind c l r = 0) : (r.kind = 4 ∧ l.rels.length ≠ 6 ∧ r.rel.id = l.rels.length + 1 ∧ brokenErr r.rel.lock c.rules = 0 ∧ broken r.rel.lock c.rules < 0) ∨
    (r.kind = 5 ∧ l.goal = 0 ∧ r.num ≤ l.rels.length ∧ r.num ≠ l.now) ∨ (r.kind = 6 ∧ r.agent < l.ags.length ∧ l.goal ≠ 0 ∧ r.try_ = l.nx ∧ turnOf c l r.agent = true) ∨
    (r.kind = 7 ∧ r.agent < l.ags.length ∧ ∃ a, l.ags[r.agent.toNat]? = some a ∧ a.st = 1 ∧ r.try_ = a.try_) ∨ (r.kind = 8 ∧ l.goal ≠ 0 ∧ l.back = false) ∨ (r.kind = 9 ∧ l.goal ≠ 0 ∧ overOf c l = true) := by
  unfold ledKind at h
  by_cases k4 : r.kind = 4
  · rw [if_pos k4] at h
    split at h
    · omega
    · split at h
      · omega
      · split at h
        · omega
        · split at h
          · omega
          · exact .inl ⟨k4, by assumption, by omega, by omega, by omega⟩
  · rw [if_neg k4] at h
    by_cases k5 : r.kind = 5
    · rw [if_pos k5] at h
      split at h
      · omega
      · split at h
        · omega
        · split at h
          · omega
          · exact .inr (.inl ⟨k5, by omega, by omega, by assumption⟩)
    · rw [if_neg k5] at h
      by_cases k67 : r.kind = 6 ∨ r.kind = 7
      · rw [if_pos k67] at h
        split at h
        · omega
        · by_cases k7 : r.kind = 7
          · rw [if_pos k7] at h
            cases ha : l.ags[r.agent.toNat]? with
            | none => rw [ha] at h; simp at h
            | some a =>
              rw [ha] at h
              simp only at h
              split at h
              · omega
              · exact .inr (.inr (.inr (.inl ⟨k7, by omega, a, rfl, by omega, by omega⟩)))
          · rw [if_neg k7] at h
            split at h
            · omega
            · rename_i w
              refine .inr (.inr (.inl ⟨by omega, by omega, fun q => w (.inl q), ?_, ?_⟩))
              · by_cases q : r.try_ = l.nx
                · exact q
                · exact absurd (.inr (.inl q)) w
              · cases q : turnOf c l r.agent with
                | true => rfl
                | false => exact absurd (.inr (.inr q)) w
      · rw [if_neg k67] at h
        by_cases k8 : r.kind = 8
        · rw [if_pos k8] at h
          split at h
          · omega
          · rename_i w
            refine .inr (.inr (.inr (.inr (.inl ⟨k8, fun q => w (.inl q), ?_⟩))))
            cases q : l.back with
            | false => rfl
            | true => exact absurd (.inr q) w
        · rw [if_neg k8] at h
          by_cases k9 : r.kind = 9
          · rw [if_pos k9] at h
            split at h
            · omega
            · rename_i w
              refine .inr (.inr (.inr (.inr (.inr ⟨k9, fun q => w (.inl q), ?_⟩))))
              cases q : overOf c l with
              | true => rfl
              | false => exact absurd (.inr q) w
          · rw [if_neg k9] at h; omega
theorem kn_mem_set {xs : List Kn} {k : Nat} {x a : Kn} (h : a ∈ xs.set k x) : a = x ∨ a ∈ xs := by
  rcases List.mem_or_eq_of_mem_set h with h | h
  · exact .inr h
  · exact .inl h
/-- A leader stays one. -/
theorem led_ok {c : Conf} {l : Ldr} {r : Recd} (h : ledErr c l r = 0) : ldrErr c (ledNext l r) = 0 := by
  obtain ⟨h1, h2, h3⟩ := led_zero h
  obtain ⟨g1, g2, g3, g4, g5, g6, g7⟩ := ldrErr_zero.1 h1
  obtain ⟨z1, z2, z3, z4⟩ := rec_zero h2
  obtain ⟨f1, f2, f3, f4⟩ := form_parts g6
  have hkn := knErr_zero.1 g7
  have g5' := g5
  unfold ldrRange at g5'
  unfold recRange at z3
  rcases led_cases h3 with ⟨k, w1, w2, w3, w4⟩ | ⟨k, w1, w2, w3⟩ | ⟨k, w1, w2, w3, w4⟩ | ⟨k, w1, a, w2, w3, w4⟩ | ⟨k, w1, w2⟩ | ⟨k, w1, w2⟩
  · have e : ledNext l r = { l with rels := l.rels ++ [r.rel] } := by rw [ledNext, if_pos k]
    rw [e]
    refine ldrErr_zero.2 ⟨g1, by simp, by simp; omega, relsErr_zero.2 fun j x hj => ?_, by unfold ldrRange; simp; omega, form_of f1 f2 f3 ?_, g7⟩
    · rcases Nat.lt_or_ge j l.rels.length with hl | hl
      · rw [List.getElem?_append_left hl] at hj
        exact relsErr_zero.1 g4 j x hj
      · rw [List.getElem?_append_right hl] at hj
        cases hjl : j - l.rels.length with
        | zero => rw [hjl] at hj; simp at hj; subst hj; exact ⟨w3, w4, by rw [w2]; omega⟩
        | succ m => rw [hjl] at hj; simp at hj
    · simp only; rw [List.getElem?_append_left (by omega)]; exact f4
  · have e : ledNext l r = { l with goal := r.num } := by rw [ledNext, if_neg (by omega), if_pos k]
    rw [e]
    refine ldrErr_zero.2 ⟨g1, g2, g3, g4, by unfold ldrRange; simp only; omega, form_of w3 (fun q => by simp only at q; omega) f3 f4, knErr_zero.2 fun a ha => ?_⟩
    obtain ⟨x1, x2⟩ := hkn a ha
    refine ⟨x1, ?_⟩
    unfold oddKn at x2 ⊢
    simp only
    rintro (⟨y1, _⟩ | y)
    · exact x2 (.inl ⟨y1, .inl w1⟩)
    · exact x2 (.inr y)
  · have e : ledNext l r = { l with ags := l.ags.set r.agent.toNat ⟨1, r.try_, l.back⟩, nx := l.nx + 1 } := by rw [ledNext, if_neg (by omega), if_neg (by omega), if_pos k]
    rw [e]
    refine ldrErr_zero.2 ⟨g1, g2, g3, g4, by unfold ldrRange; simp only; omega, form_of f1 f2 (by simpa using f3) f4, knErr_zero.2 fun a ha => ?_⟩
    rcases kn_mem_set ha with rfl | ha
    · refine ⟨by unfold badKn; simp only; omega, ?_⟩
      unfold oddKn
      simp only
      rintro (⟨_, y | y⟩ | ⟨y1, y | y⟩)
      · exact w2 y
      · omega
      · rw [y] at y1; cases y1
      · omega
    · obtain ⟨x1, x2⟩ := hkn a ha
      exact ⟨by unfold badKn at x1 ⊢; simp only; omega, x2⟩
  · have e : ledNext l r = { l with ags := l.ags.set r.agent.toNat (got r a) } := by rw [ledNext, if_neg (by omega), if_neg (by omega), if_neg (by omega), if_pos k, w2]
    rw [e]
    refine ldrErr_zero.2 ⟨g1, g2, g3, g4, g5, form_of f1 f2 (by simpa using f3) f4, knErr_zero.2 fun b hb => ?_⟩
    rcases kn_mem_set hb with rfl | hb
    · obtain ⟨x1, x2⟩ := hkn a (List.mem_of_getElem? w2)
      have hst : (got r a).st = 2 ∨ (got r a).st = 3 := by unfold got; by_cases hg : r.good = true <;> simp [hg]
      have ht : (got r a).try_ = a.try_ := rfl
      have hbk : (got r a).back = a.back := rfl
      refine ⟨by unfold badKn at x1 ⊢; rw [ht]; simp only; omega, ?_⟩
      unfold oddKn at x2 ⊢
      rw [ht, hbk]
      simp only
      rintro (⟨_, y⟩ | ⟨y1, y | y⟩)
      · exact x2 (.inl ⟨by omega, y⟩)
      · exact x2 (.inr ⟨y1, .inl y⟩)
      · omega
    · exact hkn b hb
  · have e : ledNext l r = { l with back := true } := by rw [ledNext, if_neg (by omega), if_neg (by omega), if_neg (by omega), if_neg (by omega), if_pos k]
    rw [e]
    refine ldrErr_zero.2 ⟨g1, g2, g3, g4, g5, form_of f1 (fun q => w1 q.1) f3 f4, knErr_zero.2 fun a ha => ?_⟩
    obtain ⟨x1, x2⟩ := hkn a ha
    refine ⟨x1, ?_⟩
    unfold oddKn at x2 ⊢
    simp only
    rintro (y | ⟨y1, _⟩)
    · exact x2 (.inl y)
    · exact x2 (.inr ⟨y1, .inl w2⟩)
  · have e : ledNext l r = { l with now := (if l.back = false then l.goal else l.now), goal := 0, back := false, ags := l.ags.map fun a => ⟨0, a.try_, false⟩ } := by rw [ledNext, if_neg (by omega), if_neg (by omega), if_neg (by omega), if_neg (by omega), if_neg (by omega)]
    rw [e]
    have hn : 1 ≤ (if l.back = false then l.goal else l.now) ∧ (if l.back = false then l.goal else l.now) ≤ l.rels.length := by split <;> omega
    refine ldrErr_zero.2 ⟨g1, g2, g3, g4, by unfold ldrRange; simp only; omega, form_of (by simp only; omega) (by simp) (by simpa using f3) f4, knErr_zero.2 fun b hb => ?_⟩
    obtain ⟨a, ha, rfl⟩ := List.mem_map.1 hb
    obtain ⟨x1, x2⟩ := hkn a ha
    exact ⟨by unfold badKn at x1 ⊢; simp only; omega, by unfold oddKn; simp⟩
theorem led_rises {c : Conf} {l : Ldr} {r : Recd} (h : ledErr c l r = 0) : l.nx ≤ (ledNext l r).nx ∧ l.rels.length ≤ (ledNext l r).rels.length ∧ (ledNext l r).rels.take l.rels.length = l.rels ∧ ((ledNext l r).now ≠ l.now → r.kind = 9) := by
  obtain ⟨h1, h2, h3⟩ := led_zero h
  rcases led_cases h3 with ⟨k, w1, w2, w3, w4⟩ | ⟨k, w1, w2, w3⟩ | ⟨k, w1, w2, w3, w4⟩ | ⟨k, w1, a, w2, w3, w4⟩ | ⟨k, w1, w2⟩ | ⟨k, w1, w2⟩
  · have e : ledNext l r = { l with rels := l.rels ++ [r.rel] } := by rw [ledNext, if_pos k]
    rw [e]; simp
  · have e : ledNext l r = { l with goal := r.num } := by rw [ledNext, if_neg (by omega), if_pos k]
    rw [e]; simp
  · have e : ledNext l r = { l with ags := l.ags.set r.agent.toNat ⟨1, r.try_, l.back⟩, nx := l.nx + 1 } := by rw [ledNext, if_neg (by omega), if_neg (by omega), if_pos k]
    rw [e]; simp; omega
  · have e : ledNext l r = { l with ags := l.ags.set r.agent.toNat (got r a) } := by rw [ledNext, if_neg (by omega), if_neg (by omega), if_neg (by omega), if_pos k, w2]
    rw [e]; simp
  · have e : ledNext l r = { l with back := true } := by rw [ledNext, if_neg (by omega), if_neg (by omega), if_neg (by omega), if_neg (by omega), if_pos k]
    rw [e]; simp
  · refine ⟨?_, ?_, ?_, fun _ => k⟩
    all_goals (rw [ledNext, if_neg (by omega), if_neg (by omega), if_neg (by omega), if_neg (by omega), if_neg (by omega)]; simp)
/-- Who is told stands in the first wave that isn't through. -/
theorem led_turn {c : Conf} {l : Ldr} {r : Recd} (h : ledErr c l r = 0) (k : r.kind = 6) (hb : l.back = false) : ∃ p, l.ags[r.agent.toNat]? = some p ∧ 0 ≤ r.agent ∧ r.agent < l.ags.length ∧ p.st = 0 ∧ cnt 3 l.ags ≤ c.bud ∧
    ∀ (k : Int) (m : Kn), 0 ≤ k → l.ags[k.toNat]? = some m → waveOf c.waves k < waveOf c.waves r.agent → m.st = 2 ∨ m.st = 3 := by
  obtain ⟨h1, h2, h3⟩ := led_zero h
  obtain ⟨g1, g2, g3, g4, g5, g6, g7⟩ := ldrErr_zero.1 h1
  obtain ⟨z1, z2, z3, z4⟩ := rec_zero h2
  obtain ⟨f1, f2, f3, f4⟩ := form_parts g6
  unfold recRange at z3
  obtain ⟨w1, w2, w3, w4⟩ : r.agent < l.ags.length ∧ l.goal ≠ 0 ∧ r.try_ = l.nx ∧ turnOf c l r.agent = true := by
    rcases led_cases h3 with ⟨k, _⟩ | ⟨k, _⟩ | ⟨k, w⟩ | ⟨k, _⟩ | ⟨k, _⟩ | ⟨k, _⟩
    · omega
    · omega
    · exact w
    · omega
    · omega
    · omega
  obtain ⟨p, hp⟩ : ∃ p, l.ags[r.agent.toNat]? = some p := ⟨_, List.getElem?_eq_getElem (by omega)⟩
  unfold turnOf at w4
  rw [hp] at w4
  simp only [hb, Bool.false_eq_true, if_false, decide_eq_true_eq] at w4
  obtain ⟨y1, y2, y3, y4⟩ := w4
  refine ⟨p, hp, by omega, w1, y2, y4, fun k m hk hm hlt => ?_⟩
  have hwz := waveCheck_zero y1
  have hkl := (List.getElem?_eq_some_iff.1 hm).1
  obtain ⟨N, hN, hIs⟩ : ∃ n : Nat, waveNow c.waves (thr l.ags) = n ∧ IsNow c.waves (thr l.ags) n := by
    obtain ⟨n, hn, hI⟩ := nowFrom_spec (thr l.ags) c.waves 0
    exact ⟨n, by rw [waveNow, thr_len, if_pos y1, hn]; omega, hI⟩
  rw [y3, hN] at hlt
  rcases waveOfFrom_spec k c.waves 0 with ⟨_, x⟩ | ⟨j, v, x1, x2, x3, x4⟩
  · exact absurd ((hwz.2.2.2.1 k).2 ⟨hk, by omega⟩) x
  · have hj : j < N := by unfold waveOf at hlt; omega
    have := hIs.ahead j v x2 hj k x3
    by_cases hst : m.st = 2 ∨ m.st = 3
    · exact hst
    · rw [(notThr hk hm).2 hst] at this; cases this
section
variable {H : Heap} {c : Conf} {fa ra wa : Option Addr} {fl fc rl rc wl wc : Nat}
theorem cLeadWaits {a : Option Addr} {n k : Nat} {rs : List Recd} (hc : CfgAt H c fa fl ra rl wa wl) (hr : Recs H a n rs) (hnk : n ≤ k) :
    Spec Try.prog 18 [cfgArg c fa fl fc ra rl rc wa wl wc, .slice a n k] H fun v _ => v = .bool true := by
  refine TryvcJ Try.func18 (by kernel_rfl) (by kernel_rfl) _ rfl (fun base K => vc18 c.first.id c.bud fa ra wa fl fc rl rc wl wc a n k base H K) fun base hb => ?_
  intro b
  have hrl := hr.len
  refine (cNewL hc).ldr fun la1 ll1 lc1 ka1 kl1 kc1 H1 e1 _ hA1 => fun b2 => ?_
  refine ⟨cfgErr c ≠ 0, cLed.bool1 fun H2 e2 _ => ⟨fun w => (by cases w), fun _ => ⟨rfl, e2, Iff.rfl⟩⟩, fun _ => cLed.bool1 fun H2 e2 _ => rfl, fun q => ?_⟩
  have q0 : cfgErr c = 0 := Decidable.not_not.1 q
  rw [if_pos q0] at hA1 ⊢
  have hmin : (if 100 < (n : Int) then 100 else (n : Int)) = ((min n 100 : Nat) : Int) := by split <;> omega
  rw [hmin, Int.toNat_natCast]
  refine ⟨by omega, by omega, ?_⟩
  generalize hn' : min n 100 = n' at *
  have hr' : Recs H a n' (rs.take n') := by simpa using hr.sub (l := 0) (m := n') (a' := a) (by omega) (fun _ => by cases a <;> simp [Addr.add])
  refine ⟨fun vs Hc => ∃ (y : Ldr) (la : Option Addr) (ll lc : Nat) (ka : Option Addr) (kl kc : Nat) (d : Bool) (i : Nat), vs = [.bool d, i64 i, ldrArg y la ll lc ka kl kc] ∧ LdrAt Hc y la ll ka kl ∧ ldrErr c y = 0 ∧ i ≤ n', upTo n' 1,
    ⟨newLdr c, la1, ll1, lc1, ka1, kl1, kc1, _, 0, rfl, hA1, new_ok q0, by omega⟩, fun d m a5 n6 c5 n7 n8 b4 a6 n9 c6 n10 H' hN hI => ?_⟩
  obtain ⟨y, ya, yn, yc, yka, ykn, ykc, d', i, hvs, hA, hE, hi⟩ := hI
  obtain ⟨rfl, rfl, ⟨rfl, rfl, rfl⟩, rfl, rfl, rfl, ⟨rfl, rfl, rfl⟩, rfl⟩ : d = d' ∧ m = (i : Int) ∧ (a5 = ya ∧ n6 = yn ∧ c5 = yc) ∧ n7 = y.now ∧ n8 = y.goal ∧ b4 = y.back ∧ (a6 = yka ∧ n9 = ykn ∧ c6 = ykc) ∧ n10 = y.nx := by simpa using hvs
  have hyl := hA.rels.len
  have hya := hA.ags.len
  refine ⟨fun hlt => hr'.recd hN.ext (by omega) hlt fun r ra' rn rc' hm hq => fun b8 => ?_, fun hge => rfl⟩
  refine (cNextL2 (hc.ext hN.ext) hA (hq.ext' hN.ext)).ldr2 fun la2 ll2 lc2 ka2 kl2 kc2 H2 e2 _ hA2 hcap => fun b9 => ⟨fun h => ?_, fun h => ?_⟩
  · rintro _ rfl
    rw [wrap_in (by omega) (by omega)]
    exact ⟨rfl, ⟨y, _, _, _, _, _, _, _, i + 1, rfl, hA.ext e2, hE, by omega⟩, by simp [upTo]; omega⟩
  have h0 : ledErr c y r = 0 := Decidable.not_not.1 h
  have hV : ledV c y r = ledNext y r := by rw [ledV, if_pos h0]
  rw [hV] at hA2 ⊢
  have hok := led_ok h0
  obtain ⟨r1, r2, r3, r4⟩ := led_rises h0
  have hl2 := hA2.rels.len
  have E2 := Ext.trans hN.ext e2
  refine ⟨r.kind = 6 ∧ y.back = false, ⟨fun w => ⟨rfl, fun _ _ h => h, by simp [w]⟩, fun w => ⟨rfl, fun _ _ h => h, fun x => w x.1⟩⟩, fun w => ?_, fun w => ?_⟩
  · obtain ⟨p, t1, t2, t3, t4, t5, t6⟩ := led_turn h0 w.1 w.2
    refine ⟨fun vs Hc => ∃ (d : Bool) (j : Nat), vs = [.bool d, i64 (cnt 3 (y.ags.take j)), i64 j] ∧ j ≤ n9 ∧ Ext H2 Hc, upTo n9 2, ⟨_, 0, rfl, by omega, Ext.refl _⟩, fun d3 n23 n24 H3 hN3 hI3 => ?_⟩
    obtain ⟨d4, j, hvs3, hj, e3⟩ := hI3
    obtain ⟨rfl, rfl, rfl⟩ : d3 = d4 ∧ n23 = cnt 3 (y.ags.take j) ∧ n24 = (j : Int) := by simpa using hvs3
    refine ⟨fun hlt3 => hA.ags.kn (e2.trans e3) (by omega) hlt3 fun z hz => fun b10 => ?_, fun hge3 => ?_⟩
    · have hz' : y.ags[j]? = some z := by rwa [Int.toNat_natCast] at hz
      have hcr := cnt_range 3 (y.ags.take j)
      have hti : (y.ags.take j).length ≤ j := by simp; omega
      have hle9 := hA.ags.le
      have hthr := t6 j z (by omega) hz
      refine ⟨fun z3 => ?_, fun z3 => ?_⟩
      · rintro _ rfl
        rw [wrap_in (by omega) (by omega)]
        refine (cWaveOf (hc.ext (Ext.trans E2 e3)).waves (j : Int)).int1 fun H4 e4 _ => (cWaveOf ((hc.ext (Ext.trans E2 e3)).ext e4).waves r.agent).int1 fun H5 e5 _ => ?_
        refine ⟨fun w5 => ⟨fun w6 => ⟨fun w7 => absurd z3 w7, fun w7 => ?_⟩, fun w6 => ?_⟩, fun w5 => ?_⟩
        all_goals
          rintro _ rfl
          rw [wrap_in (by omega) (by omega)]
          exact ⟨rfl, ⟨d3, j + 1, by rw [cnt_at hz', if_pos z3]; simp, by omega, (e3.trans e4).trans e5⟩, by simp [upTo]; omega⟩
      · refine (cWaveOf (hc.ext (Ext.trans E2 e3)).waves (j : Int)).int1 fun H4 e4 _ => (cWaveOf ((hc.ext (Ext.trans E2 e3)).ext e4).waves r.agent).int1 fun H5 e5 _ => ?_
        refine ⟨fun w5 => ⟨fun w6 => ⟨fun w7 => absurd (hthr w5) (by omega), fun w7 => ?_⟩, fun w6 => ?_⟩, fun w5 => ?_⟩
        all_goals
          rintro _ rfl
          rw [wrap_in (by omega) (by omega)]
          exact ⟨rfl, ⟨d3, j + 1, by rw [cnt_at hz', if_neg z3]; simp, by omega, (e3.trans e4).trans e5⟩, by simp [upTo]; omega⟩
    · rw [List.take_of_length_le (by omega)]
      obtain ⟨b9, o9, r9, z9, ha9, hz9, hr9, hc9⟩ := hA.ags.get t2 (by omega : r.agent < (n9 : Int))
      obtain rfl : p = z9 := by rw [t1] at hz9; exact Option.some.inj hz9
      obtain rfl := hr9
      refine ⟨False, ⟨fun w5 => absurd w5 (by omega), fun w5 => ⟨b9, o9, ha9, t2, by omega, p.st, Heap.cell_next (e2.trans e3) (hc9 0 _ rfl), rfl, fun _ _ h => h, ⟨False.elim, fun w6 => w6 t4⟩⟩⟩, False.elim, fun _ => ?_⟩
      have eX := e3
      refine (cLdrCheck (hc.ext (Ext.trans E2 eX)) (hA2.ext eX)).int1 fun H6 e6 _ => ⟨fun w => absurd hok w, fun _ => ⟨fun w => absurd w (by omega), fun _ => ⟨fun w => absurd w (by omega), fun _ => ⟨by omega, by omega, ?_⟩⟩⟩⟩
      rw [Int.toNat_natCast]
      have hpre : (ledNext y r).rels.take n6 = y.rels := by rw [← hyl]; exact r3
      have hsub : Rels H6 la2 n6 y.rels := by
        have := (hA2.ext (eX.trans e6)).rels.sub (l := 0) (m := n6) (a' := la2) (by omega) (fun _ => by cases la2 <;> simp [Addr.add])
        rw [List.drop_zero, hpre] at this
        exact this
      refine (cEqRelsA hsub (hA.ext ((e2.trans eX).trans e6)).rels).bool1 fun H7 e7 _ => ⟨fun w => by simp at w, fun _ => ⟨fun w2 => ⟨fun w3 => absurd (r4 w2) w3, fun w3 => ?_⟩, fun w2 => ?_⟩⟩
      all_goals
        rintro _ rfl
        rw [wrap_in (by omega) (by omega)]
        exact ⟨rfl, ⟨ledNext y r, la2, ll2, lc2, ka2, kl2, kc2, _, i + 1, rfl, hA2.ext ((eX.trans e6).trans e7), hok, by omega⟩, by simp [upTo]; omega⟩
  · have eX : Ext H2 H2 := Ext.refl _
    refine (cLdrCheck (hc.ext (Ext.trans E2 eX)) (hA2.ext eX)).int1 fun H6 e6 _ => ⟨fun w => absurd hok w, fun _ => ⟨fun w => absurd w (by omega), fun _ => ⟨fun w => absurd w (by omega), fun _ => ⟨by omega, by omega, ?_⟩⟩⟩⟩
    rw [Int.toNat_natCast]
    have hpre : (ledNext y r).rels.take n6 = y.rels := by rw [← hyl]; exact r3
    have hsub : Rels H6 la2 n6 y.rels := by
      have := (hA2.ext (eX.trans e6)).rels.sub (l := 0) (m := n6) (a' := la2) (by omega) (fun _ => by cases la2 <;> simp [Addr.add])
      rw [List.drop_zero, hpre] at this
      exact this
    refine (cEqRelsA hsub (hA.ext ((e2.trans eX).trans e6)).rels).bool1 fun H7 e7 _ => ⟨fun w => by simp at w, fun _ => ⟨fun w2 => ⟨fun w3 => absurd (r4 w2) w3, fun w3 => ?_⟩, fun w2 => ?_⟩⟩
    all_goals
      rintro _ rfl
      rw [wrap_in (by omega) (by omega)]
      exact ⟨rfl, ⟨ledNext y r, la2, ll2, lc2, ka2, kl2, kc2, _, i + 1, rfl, hA2.ext ((eX.trans e6).trans e7), hok, by omega⟩, by simp [upTo]; omega⟩
end
end Go.Vg
