/- What is proved here: the contracts of the functions of agents, of the document's, and of the law AgentReplays. -/
import Derived.Test.YtglnjkkaojhgnaaGreatDoorC6
import Derived.Test.YtglnjkkaojhgnaaGreatDoorC10
import Derived.Test.YtglnjkkaojhgnaaGreatDoorC10d
import Derived.Test.YtglnjkkaojhgnaaGreatDoorV6
set_option linter.unusedSimpArgs false
set_option maxRecDepth 100000
set_option linter.unusedVariables false
namespace Go.Vg
open Go Go.Proofs
section
variable {H : Heap} {a ga : Option Addr} {l c gl gc : Nat} {x : Agt}
theorem cAgtCheck (hp : Pins H a l x.lock) (hg : Pins H ga gl x.goal.lock) : Spec Tryz.prog 76 [agtArg x a l c ga gl gc] H fun v _ => v = i64 (agtErr x) := by
  refine TryzvcJ Tryz.func76 (by kernel_rfl) (by kernel_rfl) _ rfl (fun base K => vc67 a ga l c gl gc x.at_ x.try_ x.goal.id x.going x.good base H K) fun base hb => ?_
  have hgl := hg.len
  have hnr : noRel x.goal ↔ x.goal.id = 0 ∧ gl = 0 := by unfold noRel; rw [len_zero hgl]
  intro b
  refine (cLockCheck hp).int1 fun H1 e1 _ => ⟨fun h => by rw [agtErr, if_pos h], fun h => ?_⟩
  refine ⟨x.at_ < 1 ∨ 6 < x.at_ ∨ x.try_ < 0 ∨ 200 < x.try_, ?_, fun h2 => by rw [agtErr, if_neg h, if_pos h2], fun h2 => ⟨fun hgo => ?_, fun hgo => ?_⟩⟩
  · repeat' (first | exact ⟨rfl, fun _ _ h => h, by omega⟩ | intro _ | refine ⟨?_, ?_⟩)
  · refine ⟨x.try_ = 0 ∨ x.good = true, ⟨fun _ => ⟨rfl, fun _ _ h => h, by grind⟩, fun _ => ⟨rfl, fun _ _ h => h, by grind⟩⟩, fun h3 => by rw [agtErr, if_neg h, if_neg h2, if_pos hgo, if_pos h3], fun h3 => (cNoteRelease (hg.ext' e1) x.goal.id).int1 fun H2 _ _ => ?_⟩
    rw [agtErr, if_neg h, if_neg h2, if_pos hgo, if_neg h3]
  · refine ⟨¬ (x.goal.id = 0 ∧ gl = 0), ⟨fun _ => ⟨rfl, fun _ _ h => h, by grind⟩, fun _ => ⟨rfl, fun _ _ h => h, by grind⟩⟩, fun h3 => ?_, fun h3 => ?_⟩
    · rw [agtErr, if_neg h, if_neg h2, if_neg (by simp [hgo]), if_neg (by rw [hnr]; exact h3)]
    · rw [agtErr, if_neg h, if_neg h2, if_neg (by simp [hgo]), if_pos (by rw [hnr]; exact Decidable.not_not.1 h3)]
theorem cLeft (hp : Pins H a l x.lock) (hg : Pins H ga gl x.goal.lock) : Spec Tryz.prog 41 [agtArg x a l c ga gl gc] H fun v H' => ∃ a n c, v = .tuple #[.slice a n c, i64 (agtErr x)] ∧ Steps H' a n (if agtErr x = 0 then agtLeft x else []) := by
  refine TryzvcJ Tryz.func41 (by kernel_rfl) (by kernel_rfl) _ rfl (fun base K => vc70 a ga l c gl gc x.at_ x.try_ x.goal.id x.going x.good base H K) fun base hb => ?_
  intro b
  refine (cAgtCheck hp hg).int1 fun H1 e1 _ => ⟨fun h => ?_, fun h => ?_⟩
  · rw [if_neg h]; exact ⟨none, 0, 0, rfl, Sl.nil⟩
  have h := Decidable.not_not.1 h
  rw [h, if_pos rfl]
  refine ⟨fun hgo => ⟨none, 0, 0, rfl, ?_⟩, fun hgo => ?_⟩
  · rw [agtLeft, if_neg (by simp [hgo])]; exact Sl.nil
  · have hz : diffErr x.lock x.goal.lock = 0 := diffErr_zero.2 ⟨(agtErr_zero h).1, agt_goal h⟩
    refine (cDiff (hp.ext' e1) (hg.ext' e1)).sl2 fun a2 n2 c2 H2 e2 _ hD => ?_
    rw [if_pos hz] at hD
    rw [hz]
    refine ⟨_, _, _, rfl, ?_⟩
    rw [agtLeft, if_pos (by simpa using hgo)]; exact hD
theorem pins_small (h : agtErr x = 0) : x.lock.length ≤ 12 ∧ x.goal.lock.length ≤ 12 := ⟨(agtErr_zero h).1.2, (agt_goal h).2⟩
theorem Fresh.pins {H H' : Heap} {a : Option Addr} {n c : Nat} {xs : List Pin} (h : Fresh H H' 80 2 a n c (xs.flatMap pinCells)) : Pins H' a n xs := Sl.ext REnc.mono (h.sl_new pinCells_len (by omega)) newOf_ext
/-- A call that yields an agent. -/
theorem Spec.agt1 {P : Program} {f : FuncId} {args : List Value} {H : Heap} {x : Agt} (h : Spec P f args H fun v H' => ∃ a n c ga gn gc, v = agtArg x a n c ga gn gc ∧ Pins H' a n x.lock ∧ Pins H' ga gn x.goal.lock) {base : Nat}
    {G : Option Addr → Nat → Nat → Int → Int → Bool → Int → Option Addr → Nat → Nat → Bool → Heap → Prop} (hG : ∀ a n c ga gn gc H', Ext H H' → Next base H H' → Pins H' a n x.lock → Pins H' ga gn x.goal.lock → G a n c x.at_ x.try_ x.going x.goal.id ga gn gc x.good H') :
    Spec P f args H fun v H' => ∃ (a : Option Addr) (n c : Nat) (n2 n3 : Int) (b : Bool) (n4 : Int) (a2 : Option Addr) (n5 c1 : Nat) (b3 : Bool), v = .agg #[.slice a n c, .int .i64 n2, .int .i64 n3, .bool b, .int .i64 n4, .slice a2 n5 c1, .bool b3] ∧ (Next base H H' → G a n c n2 n3 b n4 a2 n5 c1 b3 H') :=
  h.mono fun v H' ex hv => by
    obtain ⟨a, n, c, ga, gn, gc, h1, h2, h3⟩ := hv
    exact ⟨a, n, c, _, _, _, _, ga, gn, gc, _, h1, fun hN => hG a n c ga gn gc H' ex hN h2 h3⟩
theorem cAgtCopy (hp : Pins H a l x.lock) (hg : Pins H ga gl x.goal.lock) (h : agtErr x = 0) : Spec Tryz.prog 44 [agtArg x a l c ga gl gc] H fun v H' => ∃ a n c ga gn gc, v = agtArg x a n c ga gn gc ∧ Pins H' a n x.lock ∧ Pins H' ga gn x.goal.lock := by
  refine TryzvcJ Tryz.func44 (by kernel_rfl) (by kernel_rfl) _ rfl (fun base K => vc125 a ga l c gl gc x.at_ x.try_ x.goal.id x.going x.good base H K) fun base hb => ?_
  have hs := pins_small h
  have h1 := hp.len
  have h2 := hg.len
  intro b b1
  refine (cCloneJ hp (by omega)).mono fun v H1 e1 hv => ?_
  obtain ⟨a2, n2, c2, rfl, hF⟩ := hv
  refine ⟨a2, n2, c2, rfl, fun _ => (cCloneJ (hg.ext' e1) (by omega)).mono fun v H2 e2 hv => ?_⟩
  obtain ⟨a3, n3, c3, rfl, hF3⟩ := hv
  exact ⟨a3, n3, c3, rfl, fun _ => ⟨_, _, _, _, _, _, rfl, hF.pins.ext' e2, hF3.pins⟩⟩
end
theorem cNew {H : Heap} {a : Option Addr} {l c : Nat} {r : Rls} (hp : Pins H a l r.lock) : Spec Tryz.prog 40 [.agg #[.int .i64 r.id, .slice a l c]] H fun v H' => ∃ a n c ga gn gc, v = .tuple #[agtArg (if relErr r = 0 then newAgt r else noAgt) a n c ga gn gc, i64 (relErr r)] ∧ Pins H' a n (if relErr r = 0 then newAgt r else noAgt).lock ∧ Pins H' ga gn (if relErr r = 0 then newAgt r else noAgt).goal.lock := by
  refine TryzvcJ Tryz.func40 (by kernel_rfl) (by kernel_rfl) _ rfl (fun base K => vc71 r.id a l c base H K) fun base hb => ?_
  intro b b1
  refine (cNoteRelease hp r.id).int1 fun H1 e1 _ => ⟨fun h => ?_, fun h => ?_⟩
  · rw [if_neg h]; exact ⟨none, 0, 0, none, 0, 0, rfl, Sl.nil, Sl.nil⟩
  have h := Decidable.not_not.1 h
  have h : relErr r = 0 := h
  rw [if_pos h, h]
  have h12 := (relErr_zero h).2.2
  have hl := hp.len
  refine (cCloneJ (hp.ext' e1) (by omega)).mono fun v H2 e2 hv => ?_
  obtain ⟨a2, n2, c2, rfl, hF⟩ := hv
  exact ⟨a2, n2, c2, rfl, fun _ => ⟨_, _, _, none, 0, 0, rfl, hF.pins, Sl.nil⟩⟩
section
variable {H : Heap} {a ga a' ga' : Option Addr} {l c gl gc l' c' gl' gc' : Nat} {x y : Agt}
theorem cAgtSame (hp : Pins H a l x.lock) (hg : Pins H ga gl x.goal.lock) (hp' : Pins H a' l' y.lock) (hg' : Pins H ga' gl' y.goal.lock) : Spec Tryz.prog 25 [agtArg x a l c ga gl gc, agtArg y a' l' c' ga' gl' gc'] H fun v _ => v = .bool (decide (x = y)) := by
  refine TryzvcJ Tryz.func25 (by kernel_rfl) (by kernel_rfl) _ rfl (fun base K => vc75 a ga a' ga' l c gl gc l' c' gl' gc' x.at_ x.try_ x.goal.id y.at_ y.try_ y.goal.id x.going x.good y.going y.good base H K) fun base hb => ?_
  have hgo : x.goal = y.goal ↔ (⟨x.goal.id, x.goal.lock⟩ : Rls) = ⟨y.goal.id, y.goal.lock⟩ := Iff.rfl
  intro b b1
  refine ⟨x = y, (cEqPins hp hp').bool1 fun H1 e1 _ => ⟨fun q1 => ⟨fun q2 => ⟨fun q3 => ⟨_, eqBool, fun q4 => ⟨_, eqBool, fun q5 => (cAlike (hg.ext' e1) (hg'.ext' e1) _ _).bool1 fun H2 e2 _ => ⟨rfl, e1.trans e2, ?_⟩, fun q5 => ⟨rfl, e1, fun h => q5 (by simp [h])⟩⟩, fun q4 => ⟨rfl, e1, fun h => q4 (by simp [h])⟩⟩, fun q3 => ⟨rfl, e1, fun h => q3 (by rw [h])⟩⟩, fun q2 => ⟨rfl, e1, fun h => q2 (by rw [h])⟩⟩, fun q1 => ⟨rfl, e1, fun h => by simp [h] at q1⟩⟩, ?_⟩
  · rw [agt_eq, decide_eq_true_eq, ← hgo]
    simp only [beq_iff_eq] at q4 q5
    have q1 : x.lock = y.lock := by simpa using q1
    simp [q1, q2, q3, q4, q5]
  · congr 1
    exact decide_eq_decide.2 Iff.rfl
end
end Go.Vg
set_option linter.unusedSimpArgs false
set_option maxRecDepth 100000
set_option linter.unusedVariables false
namespace Go.Vg
open Go Go.Proofs
section
variable {H : Heap} {a ga ra : Option Addr} {l c gl gc rl rc : Nat} {x : Agt} {r : Recd}
theorem left_cases (x : Agt) : agtLeft x = [] ∨ ∃ o q, agtLeft x = o :: q := by
  cases agtLeft x with
  | nil => exact .inl rfl
  | cons o q => exact .inr ⟨o, q, rfl⟩
theorem left_fits (h : agtErr x = 0) {o : Step} {q : List Step} (hl : agtLeft x = o :: q) : applyErr x.lock o = 0 := by
  unfold agtLeft at hl
  split at hl
  · have h1 := (agtErr_zero h).1
    have h2 := agt_goal h
    exact (diffs_fits h1.1 h2.1 h1.2 h2.2 hl).1
  · cases hl
theorem cNext (hp : Pins H a l x.lock) (hg : Pins H ga gl x.goal.lock) (hr : Pins H ra rl r.rel.lock) :
    Spec Tryz.prog 23 [agtArg x a l c ga gl gc, recArg r ra rl rc] H fun v H' => ∃ a n c ga gn gc, v = .tuple #[agtArg (nextV x r) a n c ga gn gc, i64 (nextErr x r)] ∧ Pins H' a n (nextV x r).lock ∧ Pins H' ga gn (nextV x r).goal.lock := by
  refine TryzvcJ Tryz.func23 (by kernel_rfl) (by kernel_rfl) _ rfl (fun base K => vc69 a ga ra l c gl gc rl rc x.at_ x.try_ x.goal.id r.kind r.agent r.try_ r.num r.rel.id x.going x.good r.good base H K) fun base hb => ?_
  have bad : ∀ {e : Int} {H' : Heap}, nextErr x r = e → e ≠ 0 → ∃ a n c ga gn gc, Value.tuple #[.agg #[.slice none 0 0, .int .i64 0, .int .i64 0, .bool false, .int .i64 0, .slice none 0 0, .bool false], .int .i64 e] = .tuple #[agtArg (nextV x r) a n c ga gn gc, i64 (nextErr x r)] ∧ Pins H' a n (nextV x r).lock ∧ Pins H' ga gn (nextV x r).goal.lock := fun he h0 => by
    have : nextV x r = noAgt := by rw [nextV, if_neg (by omega)]
    rw [this, he]; exact ⟨none, 0, 0, none, 0, 0, rfl, Sl.nil, Sl.nil⟩
  intro b b1 b2
  refine (cLeft hp hg).sl2 fun a1 n1 c1 H1 e1 _ hD => ⟨fun h => bad (by rw [nextErr, if_pos h]) h, fun h => (cRecCheck (hr.ext' e1)).int1 fun H2 e2 _ => ⟨fun h2 => bad (by rw [nextErr, if_neg h, if_pos h2]) h2, fun h2 => ?_⟩⟩
  have h0 : agtErr x = 0 := Decidable.not_not.1 h
  rw [if_pos h0] at hD
  have hDl := hD.len
  have hnil : agtLeft x = [] ↔ n1 = 0 := by rw [← hDl]; exact List.length_eq_zero_iff.symm
  have good : ∀ {X : Agt} {H' : Heap} {a n c ga gn gc}, nextErr x r = 0 → agtNext x r = X → Pins H' a n X.lock → Pins H' ga gn X.goal.lock → ∃ a' n' c' ga' gn' gc', Value.tuple #[agtArg X a n c ga gn gc, .int .i64 0] = .tuple #[agtArg (nextV x r) a' n' c' ga' gn' gc', i64 (nextErr x r)] ∧ Pins H' a' n' (nextV x r).lock ∧ Pins H' ga' gn' (nextV x r).goal.lock := fun he hX p1 p2 => by
    have : nextV x r = agtNext x r := by rw [nextV, if_pos he]
    rw [this, he, hX]; exact ⟨_, _, _, _, _, _, rfl, p1, p2⟩
  refine (cAgtCopy ((hp.ext' e1).ext' e2) ((hg.ext' e1).ext' e2) h0).agt1 fun a3 n3 c3 ga3 gn3 gc3 H3 e3 _ p3 g3 => ⟨fun k1 => ⟨fun ht => ?_, fun ht => ?_⟩, fun k1 => ?_⟩
  · exact bad (by rw [nextErr, if_neg h, if_neg h2, if_pos k1, if_pos ht]) (by omega)
  · have hr12 : r.rel.lock.length ≤ 12 := by
      have : recErr r = 0 := Decidable.not_not.1 h2
      unfold recErr at this
      split at this
      · omega
      · split at this
        · omega
        · split at this
          · omega
          · rw [if_pos (.inl k1)] at this
            exact (relErr_zero this).2.2
    have hrl := hr.len
    refine (cCloneJ (((hr.ext' e1).ext' e2).ext' e3) (by omega)).mono fun v H4 e4 hv => ?_
    obtain ⟨a5, n5, c5, rfl, hF⟩ := hv
    exact ⟨a5, n5, c5, rfl, fun _ => good (X := ⟨x.lock, x.at_, r.try_, true, r.rel, false⟩) (by rw [nextErr, if_neg h, if_neg h2, if_pos k1, if_neg ht]) (by rw [agtNext, if_pos k1]) (p3.ext' e4) hF.pins⟩
  have late : (x.going = false ∨ r.try_ ≠ x.try_ ∨ (r.kind = 2 ∧ agtLeft x = []) ∨ (r.kind = 3 ∧ agtLeft x ≠ [])) → (r.kind = 2 ∨ r.kind = 3) → nextErr x r = 7 := fun hl hk => by
    rw [nextErr, if_neg h, if_neg h2, if_neg k1, if_neg (by omega), if_pos hl]
  have fine : ¬ (x.going = false ∨ r.try_ ≠ x.try_ ∨ (r.kind = 2 ∧ agtLeft x = []) ∨ (r.kind = 3 ∧ agtLeft x ≠ [])) → (r.kind = 2 ∨ r.kind = 3) → nextErr x r = 0 := fun hl hk => by
    rw [nextErr, if_neg h, if_neg h2, if_neg k1, if_neg (by omega), if_neg hl]
  have step : r.kind = 2 → nextErr x r = 0 → agtLeft x ≠ [] → ∃ (b : Nat) (o : Nat), a1 = some ⟨b, o, none⟩ ∧ Int.ofNat 0 ≤ 0 ∧ 0 < (n1 : Int) ∧ ∃ (n n9 n10 : Int), (H3.cell b (o + 0 * 3) = some (.int .i64 n) ∧ H3.cell b (o + 0 * 3 + 1) = some (.int .i64 n9) ∧ H3.cell b (o + 0 * 3 + 2) = some (.int .i64 n10) ∧ True) ∧
      Spec Tryz.prog 46 [.slice a3 n3 c3, .agg #[.int .i64 n, .int .i64 n9, .int .i64 n10]] H3 fun v H' => ∃ (a : Option Addr) (n c : Nat) (n11 : Int), v = .tuple #[.slice a n c, .int .i64 n11] ∧ (Vg.Next base H3 H' → ∃ a' n' c' ga' gn' gc', Value.tuple #[.agg #[.slice a n c, .int .i64 x.at_, .int .i64 x.try_, .bool x.going, .int .i64 x.goal.id, .slice ga3 gn3 gc3, .bool x.good], .int .i64 n11] = .tuple #[agtArg (nextV x r) a' n' c' ga' gn' gc', i64 (nextErr x r)] ∧ Pins H' a' n' (nextV x r).lock ∧ Pins H' ga' gn' (nextV x r).goal.lock) := fun hk he hne => by
    obtain ⟨o, q, hl⟩ := (left_cases x).resolve_left hne
    rw [hl] at hD
    have hpos : 0 < n1 := by
      rcases Nat.eq_zero_or_pos n1 with hz | hz
      · exact absurd (hnil.2 hz) hne
      · exact hz
    refine hD.step (k := 0) (Ext.trans e2 e3) (by omega) (by omega) fun o' ho' => ?_
    obtain rfl : o = o' := by simpa using ho'
    have f1 := left_fits h0 hl
    refine (cApply p3 o.kind o.name o.ver).sl2 fun a5 n5 c5 H5 e5 _ hA => ?_
    have f1' : applyErr x.lock ⟨o.kind, o.name, o.ver⟩ = 0 := f1
    rw [if_pos f1'] at hA
    rw [f1']
    exact good (X := ⟨applied x.lock o, x.at_, x.try_, x.going, x.goal, x.good⟩) he (by rw [agtNext, if_neg k1, if_pos hk, hl]) hA (g3.ext' e5)
  have done : r.kind = 3 → nextErr x r = 0 → ∃ a' n' c' ga' gn' gc', Value.tuple #[.agg #[.slice a3 n3 c3, .int .i64 x.goal.id, .int .i64 x.try_, .bool false, .int .i64 0, .slice none 0 0, .bool r.good], .int .i64 0] = .tuple #[agtArg (nextV x r) a' n' c' ga' gn' gc', i64 (nextErr x r)] ∧ Pins H3 a' n' (nextV x r).lock ∧ Pins H3 ga' gn' (nextV x r).goal.lock := fun hk he =>
    good (X := ⟨x.lock, x.goal.id, x.try_, false, ⟨0, []⟩, r.good⟩) he (by rw [agtNext, if_neg k1, if_neg (by omega)]) p3 Sl.nil
  have leaf : ∀ {b5 : Bool}, x.going ≠ false → r.try_ = x.try_ → (r.kind = 2 ∨ r.kind = 3) → b5 = (decide (0 < (n1 : Int)) != decide (r.kind = 2)) → ((x.going = false ∨ r.try_ ≠ x.try_ ∨ (r.kind = 2 ∧ agtLeft x = []) ∨ (r.kind = 3 ∧ agtLeft x ≠ [])) ↔ b5 = true) := fun q1 q2 q3 q4 => by
    subst q4
    simp only [ne_eq, hnil]
    have q5 : ∀ p q : Bool, ((p != q) = true) ↔ ¬ (p = true ↔ q = true) := by decide
    rw [q5]
    simp only [decide_eq_true_eq]
    constructor
    · rintro (q | q | q | q)
      · exact absurd q q1
      · exact absurd q2 q
      · omega
      · omega
    · intro q
      by_cases hk : r.kind = 2
      · exact .inr (.inr (.inl ⟨hk, by omega⟩))
      · exact .inr (.inr (.inr ⟨by omega, by omega⟩))
  refine ⟨fun k2 => ⟨fun _ => ⟨_, ⟨fun q => ⟨rfl, fun _ _ h => h, .inl q⟩, fun q => ⟨fun q2 => ⟨rfl, fun _ _ h => h, .inr (.inl q2)⟩, fun q2 => ⟨_, neqBool, rfl, fun _ _ h => h, leaf q (Decidable.not_not.1 q2) (.inl k2) rfl⟩⟩⟩, fun hl => bad (late hl (.inl k2)) (by omega), fun hl => ⟨fun _ => step k2 (fine hl (.inl k2)) (fun hn => hl (.inr (.inr (.inl ⟨k2, hn⟩)))), fun h' => absurd k2 h'⟩⟩, fun h' => absurd k2 h'⟩, fun k2 => ⟨fun k3 => ?_, fun k3 => ?_⟩⟩
  · refine ⟨_, ⟨fun q => ⟨rfl, fun _ _ h => h, .inl q⟩, fun q => ⟨fun q2 => ⟨rfl, fun _ _ h => h, .inr (.inl q2)⟩, fun q2 => ⟨_, neqBool, rfl, fun _ _ h => h, leaf q (Decidable.not_not.1 q2) (.inr k3) rfl⟩⟩⟩, fun hl => bad (late hl (.inr k3)) (by omega), fun hl => ⟨fun h' => absurd h' k2, fun _ => ?_⟩⟩
    have hd := done k3 (fine hl (.inr k3))
    exact ⟨hd, hd, hd, hd⟩
  · exact bad (by rw [nextErr, if_neg h, if_neg h2, if_neg k1, if_pos ⟨k2, k3⟩]) (by omega)
/-! ### The document's -/
end
end Go.Vg
set_option linter.unusedSimpArgs false
set_option maxRecDepth 100000
set_option linter.unusedVariables false
namespace Go.Vg
open Go Go.Proofs
theorem cReplay {H : Heap} {a a' : Option Addr} {l c l' c' : Nat} {f : Rls} {rs : List Recd} (hp : Pins H a l f.lock) (hr : Recs H a' l' rs) :
    Spec Tryz.prog 20 [.agg #[.int .i64 f.id, .slice a l c], .slice a' l' c'] H fun v H' => ∃ a n c ga gn gc, v = .tuple #[agtArg (okA (agtReplay f rs)) a n c ga gn gc, i64 (errOf (agtReplay f rs))] ∧ Pins H' a n (okA (agtReplay f rs)).lock ∧ Pins H' ga gn (okA (agtReplay f rs)).goal.lock := by
  refine TryzvcJ Tryz.func20 (by kernel_rfl) (by kernel_rfl) _ rfl (fun base K => vc63 f.id a a' l c l' c' base H K) fun base hb => ?_
  have hrl := hr.len
  have bad : ∀ {e : Int} {H' : Heap}, agtReplay f rs = .error e → ∃ a n c ga gn gc, Value.tuple #[.agg #[.slice none 0 0, .int .i64 0, .int .i64 0, .bool false, .int .i64 0, .slice none 0 0, .bool false], .int .i64 e] = .tuple #[agtArg (okA (agtReplay f rs)) a n c ga gn gc, i64 (errOf (agtReplay f rs))] ∧ Pins H' a n (okA (agtReplay f rs)).lock ∧ Pins H' ga gn (okA (agtReplay f rs)).goal.lock := fun he => by
    rw [he]; exact ⟨none, 0, 0, none, 0, 0, rfl, Sl.nil, Sl.nil⟩
  intro b b'
  refine (cNew hp).agt fun a1 n1 c1 ga1 gn1 gc1 H1 e1 _ p1 g1 => fun b2 => ⟨fun h => bad (by rw [agtReplay, if_pos h]), fun h => ⟨fun h200 => bad (by rw [agtReplay, if_neg h, if_pos (by omega)]), fun h200 => ?_⟩⟩
  rw [if_pos (Decidable.not_not.1 h)] at p1 g1 ⊢
  have hW : agtReplay f rs = replayFrom (newAgt f) rs := by rw [agtReplay, if_neg h, if_neg (by omega)]
  rw [hW] at bad ⊢
  refine ⟨fun vs Hc => ∃ (y : Agt) (a : Option Addr) (n c : Nat) (ga : Option Addr) (gn gc : Nat) (d e : Int) (w : Value) (k : Nat), vs = [i64 d, i64 e, i64 k, w, agtArg y a n c ga gn gc] ∧ Pins Hc a n y.lock ∧ Pins Hc ga gn y.goal.lock ∧ k ≤ l' ∧ replayFrom y (rs.drop k) = replayFrom (newAgt f) rs, upTo l' 2,
    ⟨newAgt f, a1, n1, c1, ga1, gn1, gc1, 0, _, _, 0, rfl, p1, g1, by omega, rfl⟩, fun d e m a6 n8 c3 n9 n10 b0 n11 a7 n12 c4 b3 a8 n13 c5 n14 n15 b4 n16 a9 n17 c6 b5 H' hN hI => ?_⟩
  obtain ⟨y, ya, yn, yc, yga, ygn, ygc, d', e', w, k, hvs, hP, hG, hk, hI⟩ := hI
  obtain ⟨rfl, rfl, rfl, rfl, ⟨rfl, rfl, rfl⟩, rfl, rfl, rfl, rfl, ⟨rfl, rfl, rfl⟩, rfl⟩ : d = d' ∧ e = e' ∧ m = (k : Int) ∧ Value.agg #[.slice a6 n8 c3, .int .i64 n9, .int .i64 n10, .bool b0, .int .i64 n11, .slice a7 n12 c4, .bool b3] = w ∧ (a8 = ya ∧ n13 = yn ∧ c5 = yc) ∧ n14 = y.at_ ∧ n15 = y.try_ ∧ b4 = y.going ∧ n16 = y.goal.id ∧ (a9 = yga ∧ n17 = ygn ∧ c6 = ygc) ∧ b5 = y.good := by simpa using hvs
  refine ⟨fun hlt => hr.recd hN.ext (by omega) hlt fun r ra rn rc hm hq => fun b8 => ?_, fun hge => ?_⟩
  · rw [Int.toNat_natCast] at hm
    rw [drop_at hm, replayFrom] at hI
    refine (cNext hP hG (hq.ext' hN.ext)).agt fun a2 n2 c2 ga2 gn2 gc2 H2 e2 _ p2 g2 => ⟨fun h => ?_, fun h => ?_⟩
    · rw [if_neg h] at hI
      exact bad hI.symm
    · have h0 : nextErr y r = 0 := Decidable.not_not.1 h
      rw [if_pos h0] at hI
      have hV : nextV y r = agtNext y r := by rw [nextV, if_pos h0]
      rw [hV] at p2 g2 ⊢
      rintro q rfl
      rw [wrap_in (by omega) (by omega)]
      exact ⟨rfl, ⟨agtNext y r, a2, n2, c2, ga2, gn2, gc2, _, _, _, k + 1, rfl, p2, g2, by omega, hI⟩, by simp [upTo]; omega⟩
  · rw [drop_all hrl (by omega), replayFrom] at hI
    rw [← hI]
    exact ⟨_, _, _, _, _, _, rfl, hP, hG⟩
/-! ### A closed fact -/
theorem sl_of_boxR {α : Type} {R : Rep α} {sz : Nat} {H : Heap} {g : Nat} {ty : TypeId} {rs : List (List Value)} {xs : List α} {n : Nat} (h : H g = some (boxKB ty rs.flatten)) (hw : ∀ r ∈ rs, r.length = sz) (ha : AllR R H rs xs) (hn : rs.length = n) (hle : (n : Int) ≤ 9223372036854775807) : Sl R sz H (some ⟨g, 0, none⟩) n xs :=
  Sl.of_has (rows := rs) (Has.of_box h rfl hw hn hle) ha.len fun i r x hr hx => ha.get hr hx
def f1 : Rls := ⟨1, [⟨1, 1⟩]⟩
def f2 : Rls := ⟨2, [⟨2, 1⟩]⟩
def rB : Recd := ⟨1, 0, 3, 0, false, f2⟩
def rS : Recd := ⟨2, 0, 3, 0, false, ⟨0, []⟩⟩
def rD : Recd := ⟨3, 0, 3, 0, true, ⟨0, []⟩⟩
def g5 : Agt := ⟨[], 1, 3, true, f2, false⟩
def g7 : Agt := ⟨[⟨2, 1⟩], 2, 3, false, ⟨0, []⟩, true⟩
theorem gone5 : agtReplay f1 [rB, rS] = .ok g5 := by rfl
theorem gone7 : agtReplay f1 [rB, rS, rS, rD] = .ok g7 := by rfl
theorem cGone {H : Heap} : Spec Tryz.prog 21 [] H fun v _ => v = .bool true := by
  refine TryzvcJ Tryz.func21 (by kernel_rfl) (by kernel_rfl) _ rfl (fun base K => vc65 base H K) fun base hb => ?_
  intro g H1 hN1 _ hg b g1 H2 hN2 _ hg1 b1 b2
  have q1 : Pins H2 (some ⟨g, 0, none⟩) 1 f1.lock := sl_of_boxE pinCells_len (xs := [⟨1, 1⟩]) (hN2.ext _ _ hg) rfl (by decide)
  have q2 : Pins H2 (some ⟨g1, 0, none⟩) 1 f2.lock := sl_of_boxE pinCells_len (xs := [⟨2, 1⟩]) hg1 rfl (by decide)
  refine (cNew (r := f1) q1).agt fun a3 n3 c3 ga3 gn3 gc3 H3 e3 _ p3 g3 => fun b5 => ?_
  rw [if_pos (show relErr f1 = 0 by decide)] at p3 g3 ⊢
  intro k4 H4 hN4 _ hk4
  have r4 : Recs H4 (some ⟨k4, 0, none⟩) 2 [rB, rS] := sl_of_boxR (rs := [recVal rB (some ⟨g1, 0, none⟩) 1 1, recVal rS none 0 0]) hk4 (by simp [recVal]) ⟨⟨_, _, _, rfl, (q2.ext' e3).ext' hN4.ext⟩, ⟨none, 0, 0, rfl, Sl.nil⟩, trivial⟩ rfl (by decide)
  refine (cReplay (f := f1) ((q1.ext' e3).ext' hN4.ext) r4).agt fun a5 n5 c5 ga5 gn5 gc5 H5 e5 _ p5 g5' => fun b8 => ?_
  rw [gone5] at p5 g5' ⊢
  refine (cLeft (x := g5) p5 g5').sl2 fun a6 n6 c6 H6 e6 _ hD => ?_
  rw [show agtErr g5 = 0 from by decide] at hD ⊢
  rw [if_pos rfl] at hD
  intro k7 H7 hN7 _ hk7
  have q27 : Pins H7 (some ⟨g1, 0, none⟩) 1 f2.lock := ((((q2.ext' e3).ext' hN4.ext).ext' e5).ext' e6).ext' hN7.ext
  have r7 : Recs H7 (some ⟨k7, 0, none⟩) 4 [rB, rS, rS, rD] := sl_of_boxR (rs := [recVal rB (some ⟨g1, 0, none⟩) 1 1, recVal rS none 0 0, recVal rS none 0 0, recVal rD none 0 0]) hk7 (by simp [recVal]) ⟨⟨_, _, _, rfl, q27⟩, ⟨none, 0, 0, rfl, Sl.nil⟩, ⟨none, 0, 0, rfl, Sl.nil⟩, ⟨none, 0, 0, rfl, Sl.nil⟩, trivial⟩ rfl (by decide)
  refine (cReplay (f := f1) (((((q1.ext' e3).ext' hN4.ext).ext' e5).ext' e6).ext' hN7.ext) r7).agt fun a8 n8 c8 ga8 gn8 gc8 H8 e8 _ p8 g8 => fun b11 => ?_
  rw [gone7] at p8 g8 ⊢
  have h5 : (n5 : Int) = 0 := by have := p5.len; simp [okA, g5] at this; omega
  have h6 : (n6 : Int) = 1 := by
    have := hD.len
    rw [show agtLeft g5 = [⟨1, 2, 1⟩] from by decide] at this
    simp at this; omega
  refine ⟨True, ⟨fun _ => ⟨fun _ => ⟨fun _ => ⟨fun _ => ⟨fun _ => ⟨fun _ => ⟨fun _ => ⟨fun _ => ⟨fun _ => ⟨fun _ => ⟨fun _ => ?_, fun h => by cases h⟩, fun h => absurd rfl h⟩, fun h => absurd rfl h⟩, fun h => absurd h6 h⟩, fun h => absurd h5 h⟩, fun h => by cases h⟩, fun h => absurd rfl h⟩, fun h => absurd rfl h⟩, fun h => absurd rfl h⟩, fun h => absurd rfl h⟩, fun h => absurd (by decide) h⟩, by simp⟩
  exact (cEqPins p8 (q27.ext' e8)).bool1 fun H9 e9 _ => ⟨rfl, e9, by simp [okA, g7, f2]⟩
end Go.Vg
