/- What is proved here: the contract of the law LeadParts. -/
import Derived.Test.YtglnjkkaojhgnaaGreatDoorZ4
import Derived.Test.YtglnjkkaojhgnaaGreatDoorZ1c
import Derived.Test.YtglnjkkaojhgnaaGreatDoorCL9
set_option linter.unusedSimpArgs false
set_option linter.unusedVariables false
set_option maxRecDepth 100000
namespace Go.Vg
open Go Go.Proofs
theorem ledFrom_app {c : Conf} {w : Ldr} : ∀ {l m : List Recd} {a : Ldr}, ledFrom c a (l ++ m) = .ok w → ∃ u, ledFrom c a l = .ok u ∧ ledFrom c u m = .ok w
  | [], m, a, h => ⟨a, rfl, h⟩
  | r :: q, m, a, h => by
    have h : ledFrom c a (r :: (q ++ m)) = .ok w := h
    unfold ledFrom at h
    split at h
    · rename_i hr
      obtain ⟨u, h1, h2⟩ := ledFrom_app h
      refine ⟨u, ?_, h2⟩
      conv => lhs; unfold ledFrom
      rw [if_pos hr]; exact h1
    · cases h
theorem ledFrom_errs {c : Conf} {w : Ldr} : ∀ {l : List Recd} {a : Ldr}, ledFrom c a l = .ok w → ∀ r ∈ l, recErr r = 0
  | [], a, h, r, hr => by cases hr
  | x :: q, a, h, r, hr => by
    unfold ledFrom at h
    split at h
    · rename_i hx
      rcases List.mem_cons.1 hr with rfl | hr
      · unfold ledErr at hx
        split at hx
        · omega
        · split at hx
          · omega
          · omega
      · exact ledFrom_errs h r hr
    · cases h
theorem ledReplay_parts {c : Conf} {l : List Recd} {w : Ldr} (h : ledReplay c l = .ok w) (m : Nat) : (∀ r ∈ l, recErr r = 0) ∧ l.length ≤ 200 ∧ ∃ u, ledReplay c (l.take m) = .ok u ∧ ledFrom c u (l.drop m) = .ok w := by
  unfold ledReplay at h
  split at h
  · cases h
  · rename_i hf
    split at h
    · cases h
    · rename_i hl
      refine ⟨ledFrom_errs h, by omega, ?_⟩
      rw [← List.take_append_drop m l] at h
      obtain ⟨u, h1, h2⟩ := ledFrom_app h
      refine ⟨u, ?_, h2⟩
      unfold ledReplay
      rw [if_neg hf, if_neg (by rw [List.length_take]; omega)]; exact h1
section
variable {H : Heap} (hL : Lb H)
include hL
set_option maxHeartbeats 1000000 in
theorem cLeadParts {fa ra wa a : Option Addr} {fl fc rl rc wl wc l c : Nat} {cf : Conf} {xs : List Recd} {k : Int} (hc : CfgAt H cf fa fl ra rl wa wl) (hx : Recs H a l xs) (hlc : l ≤ c) : Spec Tryz.prog 5 [cfgArg cf fa fl fc ra rl rc wa wl wc, .slice a l c, .int .i64 k] H fun v _ => v = .bool true := by
  refine TryzvcJ Tryz.func5 (by kernel_rfl) (by kernel_rfl) _ rfl (fun base K => vz5 cf.first.id cf.bud fa ra wa fl fc rl rc wl wc a l c k base H K) fun base hb => fun b => ?_
  have hl := hx.len
  have hle := hx.le
  refine (cReplayL (fc := fc) (rc := rc) (wc := wc) hc hx).ldr fun a1 n1 c1 g1 gn1 gc1 H1 e1 hN1 hA1 => fun b3 => ?_
  refine ⟨¬ errOf (ledReplay cf xs) = 0, cLed.bool1 fun H2 e2 hN2 => ⟨fun h => (by cases h), fun _ => ⟨rfl, e2, Iff.rfl⟩⟩, fun _ => cLed.bool1 fun H2 e2 hN2 => rfl, fun hz => ?_⟩
  have hz := Decidable.not_not.1 hz
  obtain ⟨w, hw⟩ : ∃ w, ledReplay cf xs = .ok w := by
    cases hr : ledReplay cf xs with
    | ok w => exact ⟨w, rfl⟩
    | error e =>
      exfalso
      rw [hr] at hz
      have hz : e = 0 := hz
      subst hz
      unfold ledReplay at hr
      split at hr
      · rename_i h0; injection hr with hr; exact h0 hr
      · split at hr
        · injection hr with hr; cases hr
        · have key : ∀ {rs : List Recd} {y : Ldr}, ledFrom cf y rs = .error 0 → False := by
            intro rs
            induction rs with
            | nil => intro y h; cases h
            | cons r q ih =>
              intro y h
              unfold ledFrom at h
              split at h
              · exact ih h
              · rename_i h0; injection h with h; exact h0 h
          exact key hr
  rw [hw] at hA1 ⊢
  have hl200 := (ledReplay_parts hw 0).2.1
  have hA1 : LdrAt H1 w a1 n1 g1 gn1 := hA1
  rintro q rfl
  rw [wrap_in (by omega) (by omega)]
  have hrg := atP_range k (n := (l : Int) + 1) (by omega)
  refine (cAt k ((l : Int) + 1) (by omega) (by omega)).int1 fun H2 e2 hN2 => ?_
  generalize atP k ((l : Int) + 1) = m at hrg
  obtain ⟨mn, rfl⟩ : ∃ mn : Nat, m = (mn : Int) := ⟨m.toNat, by omega⟩
  rw [Int.toNat_natCast]
  have e02 := Ext.trans e1 e2
  obtain ⟨herr, _, u, hu, hrest⟩ := ledReplay_parts hw mn
  have htake : Recs H2 a mn (xs.take mn) := by
    have := (hx.ext' e02).sub (l := 0) (m := mn) (a' := a) (by omega) (fun _ => by cases a <;> simp [Addr.add])
    rwa [List.drop_zero] at this
  have hrp := cReplayL (fc := fc) (rc := rc) (wc := wc) (k := c) (hc.ext e02) htake
  rw [hu] at hrp
  refine ⟨by omega, by omega, ?_, fun b4 => ?_⟩
  · refine (hrp).ldr fun a7 n7 c7 g8 gn8 gc8 H3 e3 hN3 hA3 => fun b6 => ⟨fun h => absurd rfl h, fun _ => ⟨by omega, by omega, hlc, fun a' ha' => ?_⟩⟩
    have hA3 : LdrAt H3 u a7 n7 g8 gn8 := hA3
    have e03 := Ext.trans e02 e3
    have hrestR : Recs H3 a' (l - mn) (xs.drop mn) := by
      have := (hx.ext' e03).sub (l := mn) (m := l - mn) (a' := a') (by omega) (fun h => ha' (by omega))
      rwa [List.take_of_length_le (by rw [List.length_drop]; omega)] at this
    refine ⟨fun vs H' => ∃ (b1 : Bool) (e : Int) (j : Nat) (y : Ldr) (a5 : Option Addr) (n5 c5 : Nat) (g5 : Option Addr) (gn5 gc5 : Nat), vs = [.bool b1, i64 e, i64 j, ldrArg y a5 n5 c5 g5 gn5 gc5] ∧ j ≤ l - mn ∧ LdrAt H' y a5 n5 g5 gn5 ∧ Ext H3 H' ∧ ledFrom cf y ((xs.drop mn).drop j) = .ok w,
      upTo (l - mn) 2, ⟨false, 0, 0, u, a7, n7, c7, g8, gn8, gc8, rfl, by omega, hA3, Ext.refl _, hrest⟩, fun b7 n13 n14 a12 n15 c5 n16 n17 b8 a13 n19 c6 n20 H4 hN4 hI => ?_⟩
    obtain ⟨b1, e, j, y, a5, n5, c5', g5, gn5, gc5, hvs, hj, hAy, hE, hP⟩ := hI
    obtain ⟨rfl, rfl, rfl, ⟨rfl, rfl, rfl⟩, rfl, rfl, rfl, ⟨rfl, rfl, rfl⟩, rfl⟩ : b7 = b1 ∧ n13 = e ∧ n14 = (j : Int) ∧ (a12 = a5 ∧ n15 = n5 ∧ c5 = c5') ∧ n16 = y.now ∧ n17 = y.goal ∧ b8 = y.back ∧ (a13 = g5 ∧ n19 = gn5 ∧ c6 = gc5) ∧ n20 = y.nx := by simpa using hvs
    refine ⟨fun hlt => ?_, fun hge => ?_⟩
    · refine hrestR.recd hE (by omega) hlt fun r qa qn qc hr hrp' => fun b6 => ?_
      rw [Int.toNat_natCast] at hr
      rw [drop_at hr] at hP
      have hrec : ledErr cf y r = 0 ∧ ledFrom cf (ledNext y r) ((xs.drop mn).drop (j + 1)) = .ok w := by
        unfold ledFrom at hP
        split at hP
        · exact ⟨by assumption, hP⟩
        · cases hP
      refine (cNextL (c := cf) (l := y) (r := r) (hc.ext (Ext.trans e03 hE)) hAy (hrp'.ext' hE)).ldr fun a8 n8 c8 g9 gn9 gc9 H5 e5 hN5 hA5 => ⟨fun h => absurd hrec.1 h, fun _ => ?_⟩
      have hv : ledV cf y r = ledNext y r := by unfold ledV; rw [if_pos hrec.1]
      rw [hv] at hA5 ⊢
      rintro q rfl
      rw [wrap_in (by omega) (by omega)]
      exact ⟨rfl, ⟨_, _, j + 1, ledNext y r, a8, n8, c8, g9, gn9, gc9, rfl, by omega, hA5, Ext.trans hE e5, hrec.2⟩, by simp [upTo]; omega⟩
    · have hjl : j = l - mn := by omega
      rw [hjl, List.drop_of_length_le (by rw [List.length_drop]; omega)] at hP
      obtain rfl : y = w := Except.ok.inj hP
      have e04 := Ext.trans e03 hE
      refine (cOnDisk (hL.ext e04) (c := c) (hx.ext' e04)).mono fun v H5 e5 hv => ?_
      obtain ⟨a17, n20, c17, rfl, hR⟩ := hv
      refine ⟨a17, n20, c17, _, rfl, fun hN5 => ⟨True, ?_, by simp⟩⟩
      have e15 : Ext H1 H5 := Ext.trans (Ext.trans (Ext.trans e2 e3) hE) e5
      refine (cLdrSame (x := y) (y := y) (hAy.ext e5) (hA1.ext e15)).bool1 fun H6 e6 hN6 => ⟨fun _ => ⟨fun _ => ⟨rfl, e6, trivial⟩, fun hok => ?_⟩, fun h => by simp at h⟩
      have hall := onGot_all herr (by simpa using hok)
      rw [hall] at hR
      refine (cEqRecs (c := c17) (c' := c) (Recs.ext' hR e6) (hx.ext' (Ext.trans (Ext.trans e04 e5) e6))).bool1 fun H7 e7 hN7 => ⟨rfl, Ext.trans e6 e7, by simp⟩
  · refine (hrp).ldr fun a7 n7 c7 g8 gn8 gc8 H3 e3 hN3 hA3 => ⟨fun h => absurd rfl h, fun _ => ⟨by omega, by omega, hlc, fun a' ha' => ?_⟩⟩
    have hA3 : LdrAt H3 u a7 n7 g8 gn8 := hA3
    have e03 := Ext.trans e02 e3
    have hrestR : Recs H3 a' (l - mn) (xs.drop mn) := by
      have := (hx.ext' e03).sub (l := mn) (m := l - mn) (a' := a') (by omega) (fun h => ha' (by omega))
      rwa [List.take_of_length_le (by rw [List.length_drop]; omega)] at this
    refine ⟨fun vs H' => ∃ (b1 : Bool) (e : Int) (j : Nat) (y : Ldr) (a5 : Option Addr) (n5 c5 : Nat) (g5 : Option Addr) (gn5 gc5 : Nat), vs = [.bool b1, i64 e, i64 j, ldrArg y a5 n5 c5 g5 gn5 gc5] ∧ j ≤ l - mn ∧ LdrAt H' y a5 n5 g5 gn5 ∧ Ext H3 H' ∧ ledFrom cf y ((xs.drop mn).drop j) = .ok w,
      upTo (l - mn) 2, ⟨false, 0, 0, u, a7, n7, c7, g8, gn8, gc8, rfl, by omega, hA3, Ext.refl _, hrest⟩, fun b7 n13 n14 a12 n15 c5 n16 n17 b8 a13 n19 c6 n20 H4 hN4 hI => ?_⟩
    obtain ⟨b1, e, j, y, a5, n5, c5', g5, gn5, gc5, hvs, hj, hAy, hE, hP⟩ := hI
    obtain ⟨rfl, rfl, rfl, ⟨rfl, rfl, rfl⟩, rfl, rfl, rfl, ⟨rfl, rfl, rfl⟩, rfl⟩ : b7 = b1 ∧ n13 = e ∧ n14 = (j : Int) ∧ (a12 = a5 ∧ n15 = n5 ∧ c5 = c5') ∧ n16 = y.now ∧ n17 = y.goal ∧ b8 = y.back ∧ (a13 = g5 ∧ n19 = gn5 ∧ c6 = gc5) ∧ n20 = y.nx := by simpa using hvs
    refine ⟨fun hlt => ?_, fun hge => ?_⟩
    · refine hrestR.recd hE (by omega) hlt fun r qa qn qc hr hrp' => fun b6 => ?_
      rw [Int.toNat_natCast] at hr
      rw [drop_at hr] at hP
      have hrec : ledErr cf y r = 0 ∧ ledFrom cf (ledNext y r) ((xs.drop mn).drop (j + 1)) = .ok w := by
        unfold ledFrom at hP
        split at hP
        · exact ⟨by assumption, hP⟩
        · cases hP
      refine (cNextL (c := cf) (l := y) (r := r) (hc.ext (Ext.trans e03 hE)) hAy (hrp'.ext' hE)).ldr fun a8 n8 c8 g9 gn9 gc9 H5 e5 hN5 hA5 => ⟨fun h => absurd hrec.1 h, fun _ => ?_⟩
      have hv : ledV cf y r = ledNext y r := by unfold ledV; rw [if_pos hrec.1]
      rw [hv] at hA5 ⊢
      rintro q rfl
      rw [wrap_in (by omega) (by omega)]
      exact ⟨rfl, ⟨_, _, j + 1, ledNext y r, a8, n8, c8, g9, gn9, gc9, rfl, by omega, hA5, Ext.trans hE e5, hrec.2⟩, by simp [upTo]; omega⟩
    · have hjl : j = l - mn := by omega
      rw [hjl, List.drop_of_length_le (by rw [List.length_drop]; omega)] at hP
      obtain rfl : y = w := Except.ok.inj hP
      have e04 := Ext.trans e03 hE
      refine (cOnDisk (hL.ext e04) (c := c) (hx.ext' e04)).mono fun v H5 e5 hv => ?_
      obtain ⟨a17, n20, c17, rfl, hR⟩ := hv
      refine ⟨a17, n20, c17, _, rfl, fun hN5 => ⟨True, ?_, by simp⟩⟩
      have e15 : Ext H1 H5 := Ext.trans (Ext.trans (Ext.trans e2 e3) hE) e5
      refine (cLdrSame (x := y) (y := y) (hAy.ext e5) (hA1.ext e15)).bool1 fun H6 e6 hN6 => ⟨fun _ => ⟨fun _ => ⟨rfl, e6, trivial⟩, fun hok => ?_⟩, fun h => by simp at h⟩
      have hall := onGot_all herr (by simpa using hok)
      rw [hall] at hR
      refine (cEqRecs (c := c17) (c' := c) (Recs.ext' hR e6) (hx.ext' (Ext.trans (Ext.trans e04 e5) e6))).bool1 fun H7 e7 hN7 => ⟨rfl, Ext.trans e6 e7, by simp⟩
end
end Go.Vg
