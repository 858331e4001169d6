/- What is proved here: the contract of the law AgentParts. -/
import Derived.Test.YtglnjkkaojhgnaaGreatDoorZ4
import Derived.Test.YtglnjkkaojhgnaaGreatDoorC6b
set_option linter.unusedSimpArgs false
set_option linter.unusedVariables false
set_option maxRecDepth 100000
namespace Go.Vg
open Go Go.Proofs
theorem replayFrom_app {w : Agt} : ∀ {l m : List Recd} {a : Agt}, replayFrom a (l ++ m) = .ok w → ∃ u, replayFrom a l = .ok u ∧ replayFrom u m = .ok w
  | [], m, a, h => ⟨a, rfl, h⟩
  | r :: q, m, a, h => by
    have h : replayFrom a (r :: (q ++ m)) = .ok w := h
    unfold replayFrom at h
    split at h
    · rename_i hr
      obtain ⟨u, h1, h2⟩ := replayFrom_app h
      refine ⟨u, ?_, h2⟩
      conv => lhs; unfold replayFrom
      rw [if_pos hr]; exact h1
    · cases h
theorem replayFrom_errs {w : Agt} : ∀ {l : List Recd} {a : Agt}, replayFrom a l = .ok w → ∀ r ∈ l, recErr r = 0
  | [], a, h, r, hr => by cases hr
  | x :: q, a, h, r, hr => by
    unfold replayFrom at h
    split at h
    · rename_i hx
      rcases List.mem_cons.1 hr with rfl | hr
      · unfold nextErr at hx
        split at hx
        · omega
        · split at hx
          · omega
          · omega
      · exact replayFrom_errs h r hr
    · cases h
theorem agtReplay_parts {f : Rls} {l : List Recd} {w : Agt} (h : agtReplay f l = .ok w) (m : Nat) : (∀ r ∈ l, recErr r = 0) ∧ l.length ≤ 200 ∧ ∃ u, agtReplay f (l.take m) = .ok u ∧ replayFrom u (l.drop m) = .ok w := by
  unfold agtReplay at h
  split at h
  · cases h
  · rename_i hf
    split at h
    · cases h
    · rename_i hl
      refine ⟨replayFrom_errs h, by omega, ?_⟩
      rw [← List.take_append_drop m l] at h
      obtain ⟨u, h1, h2⟩ := replayFrom_app h
      refine ⟨u, ?_, h2⟩
      unfold agtReplay
      rw [if_neg hf, if_neg (by rw [List.length_take]; omega)]; exact h1
section
variable {H : Heap} (hL : Lb H)
include hL
set_option maxHeartbeats 1000000 in
theorem cAgentParts {ra a : Option Addr} {rl rc l c : Nat} {f : Rls} {xs : List Recd} {k : Int} (hf : Pins H ra rl f.lock) (hx : Recs H a l xs) (hlc : l ≤ c) : Spec Tryz.prog 4 [.agg #[.int .i64 f.id, .slice ra rl rc], .slice a l c, .int .i64 k] H fun v _ => v = .bool true := by
  refine TryzvcJ Tryz.func4 (by kernel_rfl) (by kernel_rfl) _ rfl (fun base K => vz4 f.id ra rl rc a l c k base H K) fun base hb => fun b => ?_
  have hl := hx.len
  have hle := hx.le
  refine (cReplay (c := rc) (c' := c) hf hx).agt fun a1 n1 c1 g1 gn1 gc1 H1 e1 hN1 hp1 hg1 => fun b3 => ?_
  refine ⟨¬ errOf (agtReplay f xs) = 0, cGone.bool1 fun H2 e2 hN2 => ⟨fun h => (by cases h), fun _ => ⟨rfl, e2, Iff.rfl⟩⟩, fun _ => cGone.bool1 fun H2 e2 hN2 => rfl, fun hz => ?_⟩
  have hz := Decidable.not_not.1 hz
  obtain ⟨w, hw⟩ : ∃ w, agtReplay f xs = .ok w := by
    cases hr : agtReplay f xs with
    | ok w => exact ⟨w, rfl⟩
    | error e =>
      exfalso
      rw [hr] at hz
      have hz : e = 0 := hz
      subst hz
      unfold agtReplay at hr
      split at hr
      · rename_i h0; injection hr with hr; exact h0 hr
      · split at hr
        · injection hr with hr; cases hr
        · have key : ∀ {rs : List Recd} {y : Agt}, replayFrom y rs = .error 0 → False := by
            intro rs
            induction rs with
            | nil => intro y h; cases h
            | cons r q ih =>
              intro y h
              unfold replayFrom at h
              split at h
              · exact ih h
              · rename_i h0; injection h with h; exact h0 h
          exact key hr
  rw [hw] at hp1 hg1 ⊢
  have hl200 := (agtReplay_parts hw 0).2.1
  have hp1 : Pins H1 a1 n1 w.lock := hp1
  have hg1 : Pins H1 g1 gn1 w.goal.lock := hg1
  rintro q rfl
  rw [wrap_in (by omega) (by omega)]
  have hrg := atP_range k (n := (l : Int) + 1) (by omega)
  refine (cAt k ((l : Int) + 1) (by omega) (by omega)).int1 fun H2 e2 hN2 => ?_
  generalize atP k ((l : Int) + 1) = m at hrg
  obtain ⟨mn, rfl⟩ : ∃ mn : Nat, m = (mn : Int) := ⟨m.toNat, by omega⟩
  rw [Int.toNat_natCast]
  have e02 := Ext.trans e1 e2
  obtain ⟨herr, _, u, hu, hrest⟩ := agtReplay_parts hw mn
  have htake : Recs H2 a mn (xs.take mn) := by
    have := (hx.ext' e02).sub (l := 0) (m := mn) (a' := a) (by omega) (fun _ => by cases a <;> simp [Addr.add])
    rwa [List.drop_zero] at this
  have hrp := cReplay (c := rc) (c' := c) (hf.ext' e02) htake
  rw [hu] at hrp
  refine ⟨by omega, by omega, ?_, fun b4 => ?_⟩
  · refine (hrp).agt fun a7 n7 c7 g8 gn8 gc8 H3 e3 hN3 hp3 hg3 => fun b6 => ⟨fun h => absurd rfl h, fun _ => ⟨by omega, by omega, hlc, fun a' ha' => ?_⟩⟩
    have hp3 : Pins H3 a7 n7 u.lock := hp3
    have hg3 : Pins H3 g8 gn8 u.goal.lock := hg3
    have e03 := Ext.trans e02 e3
    have hrestR : Recs H3 a' (l - mn) (xs.drop mn) := by
      have := (hx.ext' e03).sub (l := mn) (m := l - mn) (a' := a') (by omega) (fun h => ha' (by omega))
      rwa [List.take_of_length_le (by rw [List.length_drop]; omega)] at this
    refine ⟨fun vs H' => ∃ (b1 : Bool) (e : Int) (j : Nat) (y : Agt) (a5 : Option Addr) (n5 c5 : Nat) (g5 : Option Addr) (gn5 gc5 : Nat), vs = [.bool b1, i64 e, i64 j, agtArg y a5 n5 c5 g5 gn5 gc5] ∧ j ≤ l - mn ∧ Pins H' a5 n5 y.lock ∧ Pins H' g5 gn5 y.goal.lock ∧ Ext H3 H' ∧ replayFrom y ((xs.drop mn).drop j) = .ok w,
      upTo (l - mn) 2, ⟨false, 0, 0, u, a7, n7, c7, g8, gn8, gc8, rfl, by omega, hp3, hg3, Ext.refl _, hrest⟩, fun b7 n13 n14 a12 n15 c5 n16 n17 b8 n18 a13 n19 c6 b9 H4 hN4 hI => ?_⟩
    obtain ⟨b1, e, j, y, a5, n5, c5', g5, gn5, gc5, hvs, hj, hpy, hgy, hE, hP⟩ := hI
    obtain ⟨rfl, rfl, rfl, ⟨rfl, rfl, rfl⟩, rfl, rfl, rfl, rfl, ⟨rfl, rfl, rfl⟩, rfl⟩ : b7 = b1 ∧ n13 = e ∧ n14 = (j : Int) ∧ (a12 = a5 ∧ n15 = n5 ∧ c5 = c5') ∧ n16 = y.at_ ∧ n17 = y.try_ ∧ b8 = y.going ∧ n18 = y.goal.id ∧ (a13 = g5 ∧ n19 = gn5 ∧ c6 = gc5) ∧ b9 = y.good := by simpa using hvs
    refine ⟨fun hlt => ?_, fun hge => ?_⟩
    · refine hrestR.recd hE (by omega) hlt fun r qa qn qc hr hrp' => fun b6 => ?_
      rw [Int.toNat_natCast] at hr
      rw [drop_at hr] at hP
      have hrec : nextErr y r = 0 ∧ replayFrom (agtNext y r) ((xs.drop mn).drop (j + 1)) = .ok w := by
        unfold replayFrom at hP
        split at hP
        · exact ⟨by assumption, hP⟩
        · cases hP
      refine (cNext (x := y) (r := r) hpy hgy (hrp'.ext' hE)).agt fun a8 n8 c8 g9 gn9 gc9 H5 e5 hN5 hp5 hg5 => ⟨fun h => absurd hrec.1 h, fun _ => ?_⟩
      have hv : nextV y r = agtNext y r := by unfold nextV; rw [if_pos hrec.1]
      rw [hv] at hp5 hg5 ⊢
      rintro q rfl
      rw [wrap_in (by omega) (by omega)]
      exact ⟨rfl, ⟨_, _, j + 1, agtNext y r, a8, n8, c8, g9, gn9, gc9, rfl, by omega, hp5, hg5, Ext.trans hE e5, hrec.2⟩, by simp [upTo]; omega⟩
    · have hjl : j = l - mn := by omega
      rw [hjl, List.drop_of_length_le (by rw [List.length_drop]; omega)] at hP
      obtain rfl : y = w := Except.ok.inj hP
      have e04 := Ext.trans e03 hE
      refine (cOnDisk (hL.ext e04) (c := c) (hx.ext' e04)).mono fun v H5 e5 hv => ?_
      obtain ⟨a17, n20, c17, rfl, hR⟩ := hv
      refine ⟨a17, n20, c17, _, rfl, fun hN5 => ⟨True, ?_, by simp⟩⟩
      have e15 : Ext H1 H5 := Ext.trans (Ext.trans (Ext.trans e2 e3) hE) e5
      refine (cAgtSame (x := y) (y := y) (hpy.ext' e5) (hgy.ext' e5) (hp1.ext' e15) (hg1.ext' e15)).bool1 fun H6 e6 hN6 => ⟨fun _ => ⟨fun _ => ⟨rfl, e6, trivial⟩, fun hok => ?_⟩, fun h => by simp at h⟩
      have hall := onGot_all herr (by simpa using hok)
      rw [hall] at hR
      refine (cEqRecs (c := c17) (c' := c) (Recs.ext' hR e6) (hx.ext' (Ext.trans (Ext.trans e04 e5) e6))).bool1 fun H7 e7 hN7 => ⟨rfl, Ext.trans e6 e7, by simp⟩
  · refine (hrp).agt fun a7 n7 c7 g8 gn8 gc8 H3 e3 hN3 hp3 hg3 => ⟨fun h => absurd rfl h, fun _ => ⟨by omega, by omega, hlc, fun a' ha' => ?_⟩⟩
    have hp3 : Pins H3 a7 n7 u.lock := hp3
    have hg3 : Pins H3 g8 gn8 u.goal.lock := hg3
    have e03 := Ext.trans e02 e3
    have hrestR : Recs H3 a' (l - mn) (xs.drop mn) := by
      have := (hx.ext' e03).sub (l := mn) (m := l - mn) (a' := a') (by omega) (fun h => ha' (by omega))
      rwa [List.take_of_length_le (by rw [List.length_drop]; omega)] at this
    refine ⟨fun vs H' => ∃ (b1 : Bool) (e : Int) (j : Nat) (y : Agt) (a5 : Option Addr) (n5 c5 : Nat) (g5 : Option Addr) (gn5 gc5 : Nat), vs = [.bool b1, i64 e, i64 j, agtArg y a5 n5 c5 g5 gn5 gc5] ∧ j ≤ l - mn ∧ Pins H' a5 n5 y.lock ∧ Pins H' g5 gn5 y.goal.lock ∧ Ext H3 H' ∧ replayFrom y ((xs.drop mn).drop j) = .ok w,
      upTo (l - mn) 2, ⟨false, 0, 0, u, a7, n7, c7, g8, gn8, gc8, rfl, by omega, hp3, hg3, Ext.refl _, hrest⟩, fun b7 n13 n14 a12 n15 c5 n16 n17 b8 n18 a13 n19 c6 b9 H4 hN4 hI => ?_⟩
    obtain ⟨b1, e, j, y, a5, n5, c5', g5, gn5, gc5, hvs, hj, hpy, hgy, hE, hP⟩ := hI
    obtain ⟨rfl, rfl, rfl, ⟨rfl, rfl, rfl⟩, rfl, rfl, rfl, rfl, ⟨rfl, rfl, rfl⟩, rfl⟩ : b7 = b1 ∧ n13 = e ∧ n14 = (j : Int) ∧ (a12 = a5 ∧ n15 = n5 ∧ c5 = c5') ∧ n16 = y.at_ ∧ n17 = y.try_ ∧ b8 = y.going ∧ n18 = y.goal.id ∧ (a13 = g5 ∧ n19 = gn5 ∧ c6 = gc5) ∧ b9 = y.good := by simpa using hvs
    refine ⟨fun hlt => ?_, fun hge => ?_⟩
    · refine hrestR.recd hE (by omega) hlt fun r qa qn qc hr hrp' => fun b6 => ?_
      rw [Int.toNat_natCast] at hr
      rw [drop_at hr] at hP
      have hrec : nextErr y r = 0 ∧ replayFrom (agtNext y r) ((xs.drop mn).drop (j + 1)) = .ok w := by
        unfold replayFrom at hP
        split at hP
        · exact ⟨by assumption, hP⟩
        · cases hP
      refine (cNext (x := y) (r := r) hpy hgy (hrp'.ext' hE)).agt fun a8 n8 c8 g9 gn9 gc9 H5 e5 hN5 hp5 hg5 => ⟨fun h => absurd hrec.1 h, fun _ => ?_⟩
      have hv : nextV y r = agtNext y r := by unfold nextV; rw [if_pos hrec.1]
      rw [hv] at hp5 hg5 ⊢
      rintro q rfl
      rw [wrap_in (by omega) (by omega)]
      exact ⟨rfl, ⟨_, _, j + 1, agtNext y r, a8, n8, c8, g9, gn9, gc9, rfl, by omega, hp5, hg5, Ext.trans hE e5, hrec.2⟩, by simp [upTo]; omega⟩
    · have hjl : j = l - mn := by omega
      rw [hjl, List.drop_of_length_le (by rw [List.length_drop]; omega)] at hP
      obtain rfl : y = w := Except.ok.inj hP
      have e04 := Ext.trans e03 hE
      refine (cOnDisk (hL.ext e04) (c := c) (hx.ext' e04)).mono fun v H5 e5 hv => ?_
      obtain ⟨a17, n20, c17, rfl, hR⟩ := hv
      refine ⟨a17, n20, c17, _, rfl, fun hN5 => ⟨True, ?_, by simp⟩⟩
      have e15 : Ext H1 H5 := Ext.trans (Ext.trans (Ext.trans e2 e3) hE) e5
      refine (cAgtSame (x := y) (y := y) (hpy.ext' e5) (hgy.ext' e5) (hp1.ext' e15) (hg1.ext' e15)).bool1 fun H6 e6 hN6 => ⟨fun _ => ⟨fun _ => ⟨rfl, e6, trivial⟩, fun hok => ?_⟩, fun h => by simp at h⟩
      have hall := onGot_all herr (by simpa using hok)
      rw [hall] at hR
      refine (cEqRecs (c := c17) (c' := c) (Recs.ext' hR e6) (hx.ext' (Ext.trans (Ext.trans e04 e5) e6))).bool1 fun H7 e7 hN7 => ⟨rfl, Ext.trans e6 e7, by simp⟩
end
end Go.Vg
