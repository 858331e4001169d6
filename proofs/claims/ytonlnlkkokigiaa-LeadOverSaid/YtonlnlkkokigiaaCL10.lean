/- What is proved here: the contract of the law LeadOver. -/
import Derived.Test.YtonlnlkkokigiaaP17
import Derived.Test.YtonlnlkkokigiaaV17
set_option linter.unusedSimpArgs false
set_option maxRecDepth 100000
set_option linter.unusedVariables false
namespace Go.Vg
open Go Go.Proofs
theorem goal_split {P Q K X : Prop} {b : Bool} (h1 : ¬ P → b = true) (h2 : ¬ Q → b = false) (hX : X) :
    (¬ P → (b = false → K) ∧ (¬ b = false → (¬ Q → (b = true → K) ∧ (b = false → X)) ∧ (¬ ¬ Q → X))) ∧ (¬ ¬ P → (¬ Q → (b = true → K) ∧ (b = false → X)) ∧ (¬ ¬ Q → X)) := by
  have k1 : ¬ Q → (b = true → K) ∧ (b = false → X) := fun w => ⟨fun q => (by rw [h2 w] at q; cases q), fun _ => hX⟩
  exact ⟨fun w => ⟨fun q => (by rw [h1 w] at q; cases q), fun _ => ⟨k1, fun _ => hX⟩⟩, fun _ => ⟨k1, fun _ => hX⟩⟩
section
variable {H : Heap} {c : Conf} {l : Ldr} {fa ra wa la ka : Option Addr} {fl fc rl rc wl wc ll lc kl kc : Nat}
theorem cLeadOver (hc : CfgAt H c fa fl ra rl wa wl) (h : LdrAt H l la ll ka kl) : Spec Try.prog 17 [cfgArg c fa fl fc ra rl rc wa wl wc, ldrArg l la ll lc ka kl kc] H fun v _ => v = .bool true := by
  refine Tryvc Try.func17 (by kernel_rfl) (by kernel_rfl) _ rfl (fun base K => vc17 c.first.id c.bud fa ra wa fl fc rl rc wl wc la ka ll lc kl kc l.now l.goal l.nx l.back base H K) fun base hb => ?_
  intro b b1
  have hkl := h.ags.len
  refine cLed.bool1 fun H1 e1 _ => ⟨fun w => (by cases w), fun _ => (cLdrCheck (hc.ext e1) (h.ext e1)).int1 fun H2 e2 _ => ⟨fun _ => cLed.bool1 fun H3 e3 _ => rfl, fun q => ?_⟩⟩
  have q0 : ldrErr c l = 0 := Decidable.not_not.1 q
  refine ⟨fun _ => cLed.bool1 fun H3 e3 _ => rfl, fun hg => ⟨fun _ => cLed.bool1 fun H3 e3 _ => rfl, fun hx => ?_⟩⟩
  have h6 := ags_six q0
  rintro b2 _ rfl _ rfl
  rw [wrap_in (n := 2 * (kl : Int)) (by omega) (by omega), wrap_in (by omega) (by omega)]
  refine ⟨fun vs Hc => ∃ (y : Ldr) (ya : Option Addr) (yn yc : Nat) (yka : Option Addr) (ykn ykc : Nat) (d : Bool) (n : Nat), vs = [.bool d, i64 n, cfgArg c fa fl fc ra rl rc wa wl wc, ldrArg y ya yn yc yka ykn ykc] ∧ LdrAt Hc y ya yn yka ykn ∧ Round c l n y,
    upTo (2 * kl + 3) 1, ⟨l, la, ll, lc, ka, kl, kc, _, 0, rfl, h.ext (Ext.trans e1 e2), Round.zero q0 (by omega)⟩, ?_⟩
  intro b3 n n1 a n2 c' a1 n3 c1 a2 n4 c2 n5 a3 n6 c3 n7 n8 b4 a4 n9 c4 n10 H3 hN3 hI
  obtain ⟨y, ya, yn, yc, yka, ykn, ykc, d, i, hvs, hA, hR⟩ := hI
  obtain ⟨rfl, rfl, ⟨rfl, ⟨rfl, rfl, rfl⟩, ⟨rfl, rfl, rfl⟩, ⟨rfl, rfl, rfl⟩, rfl⟩, ⟨rfl, rfl, rfl⟩, rfl, rfl, rfl, ⟨rfl, rfl, rfl⟩, rfl⟩ :
    d = b3 ∧ (i : Int) = n ∧ (c.first.id = n1 ∧ (fa = a ∧ fl = n2 ∧ fc = c') ∧ (ra = a1 ∧ rl = n3 ∧ rc = c1) ∧ (wa = a2 ∧ wl = n4 ∧ wc = c2) ∧ c.bud = n5) ∧ (ya = a3 ∧ yn = n6 ∧ yc = c3) ∧ y.now = n7 ∧ y.goal = n8 ∧ y.back = b4 ∧ (yka = a4 ∧ ykn = n9 ∧ ykc = c4) ∧ y.nx = n10 := by simpa using hvs.symm
  have hyl := hA.ags.len
  have hlen := hR.len
  refine ⟨fun hlt => ?_, fun hge => absurd hge (by have := hR.few; have := rounds_pos y; omega)⟩
  refine ⟨fun vs Hc => ∃ (xa : Option Addr) (xn xc : Nat) (xka : Option Addr) (xkn xkc : Nat) (d : Bool) (j : Nat), vs = [.bool d, i64 j, cfgArg c fa fl fc ra rl rc wa wl wc, ldrArg (heard y j) xa xn xc xka xkn xkc] ∧ LdrAt Hc (heard y j) xa xn xka xkn ∧ ldrErr c (heard y j) = 0 ∧ Ext H3 Hc ∧ j ≤ ykn,
    upTo ykn 1, ⟨ya, yn, yc, yka, ykn, ykc, _, 0, by rw [heard_zero]; rfl, by rw [heard_zero]; exact hA, by rw [heard_zero]; exact hR.ok, Ext.refl _, by omega⟩, ?_⟩
  intro b5 n11 n12 a8 n13 c5 a9 n14 c6 a10 n15 c7 n16 a11 n17 c8 n18 n19 b6 a12 n20 c9 n21 H4 hN4 hI4
  obtain ⟨xa, xn, xc, xka, xkn, xkc, d2, j, hvs4, hA4, hE4, e4, hj⟩ := hI4
  obtain ⟨rfl, rfl, ⟨rfl, ⟨rfl, rfl, rfl⟩, ⟨rfl, rfl, rfl⟩, ⟨rfl, rfl, rfl⟩, rfl⟩, ⟨rfl, rfl, rfl⟩, rfl, rfl, rfl, ⟨rfl, rfl, rfl⟩, rfl⟩ :
    d2 = b5 ∧ (j : Int) = n11 ∧ (c.first.id = n12 ∧ (fa = a8 ∧ fl = n13 ∧ fc = c5) ∧ (ra = a9 ∧ rl = n14 ∧ rc = c6) ∧ (wa = a10 ∧ wl = n15 ∧ wc = c7) ∧ c.bud = n16) ∧ (xa = a11 ∧ xn = n17 ∧ xc = c8) ∧ (heard y j).now = n18 ∧ (heard y j).goal = n19 ∧ (heard y j).back = b6 ∧ (xka = a12 ∧ xkn = n20 ∧ xkc = c9) ∧ (heard y j).nx = n21 := by simpa using hvs4.symm
  have hc4 := hc.ext hN4.ext
  refine ⟨fun hlt4 => hA.ags.kn e4 (by omega) hlt4 fun z hz => fun b7 => ?_, fun hge4 => ?_⟩
  · rw [Int.toNat_natCast] at hz
    refine ⟨fun h1 => fun b8 => ?_, fun h1 => ?_⟩
    · obtain ⟨g1, g2⟩ := heard_got hE4 hz h1
      refine (cNextL (c := c) (l := heard y j) (r := uGot j z.try_) hc4 hA4 Sl.nil).ldr fun la1 ll1 lc1 ka1 kl1 kc1 H5 e5 _ hA5 => fun b9 => ⟨fun _ => ⟨fun w => absurd w (by simp [g1]), fun _ => ?_⟩, fun w => absurd g1 w⟩
      have hV : ledV c (heard y j) (uGot j z.try_) = heard y (j + 1) := by rw [ledV, if_pos g1, g2]
      rw [hV] at hA5 ⊢
      rintro _ rfl
      rw [wrap_in (by omega) (by omega)]
      exact ⟨rfl, ⟨la1, ll1, lc1, ka1, kl1, kc1, _, j + 1, rfl, hA5, by have := led_ok g1; rwa [g2] at this, e4.trans e5, by omega⟩, by simp [upTo]; omega⟩
    · have hS := heard_stay hz h1
      rintro _ rfl
      rw [wrap_in (by omega) (by omega)]
      exact ⟨rfl, ⟨xa, xn, xc, xka, xkn, xkc, _, j + 1, by rw [hS]; rfl, by rw [hS]; exact hA4, by rw [hS]; exact hE4, e4, by omega⟩, by simp [upTo]; omega⟩
  obtain ⟨hR2, hnt⟩ := hR.heard (j := j) (by omega) hE4
  generalize heard y j = y2 at *
  have hxl := hA4.ags.len
  have hy6 := (ags_six hR2.ok).1
  have hg2 : y2.goal ≠ 0 := by rw [hR2.goal]; exact hg
  refine ⟨fun vs Hc => ∃ (z : Ldr) (za : Option Addr) (zn zc : Nat) (zka : Option Addr) (zkn zkc : Nat) (d m : Bool) (k : Nat), vs = [.bool d, .bool m, i64 k, cfgArg c fa fl fc ra rl rc wa wl wc, ldrArg z za zn zc zka zkn zkc] ∧ LdrAt Hc z za zn zka zkn ∧ Asked c y2 k m z ∧ k ≤ xkn,
    upTo xkn 2, ⟨y2, xa, xn, xc, xka, xkn, xkc, _, _, 0, rfl, hA4, Asked.zero hR2.ok hR2.nx, by omega⟩, ?_⟩
  intro b10 b11 n22 n23 a16 n24 c10 a17 n25 c11 a18 n26 c12 n27 a19 n28 c13 n29 n30 b12 a20 n31 c14 n32 H5 hN5 hI5
  obtain ⟨z, za, zn, zc, zka, zkn, zkc, d3, m, k, hvs5, hA5, hQ, hk⟩ := hI5
  obtain ⟨rfl, rfl, rfl, ⟨rfl, ⟨rfl, rfl, rfl⟩, ⟨rfl, rfl, rfl⟩, ⟨rfl, rfl, rfl⟩, rfl⟩, ⟨rfl, rfl, rfl⟩, rfl, rfl, rfl, ⟨rfl, rfl, rfl⟩, rfl⟩ :
    d3 = b10 ∧ m = b11 ∧ (k : Int) = n22 ∧ (c.first.id = n23 ∧ (fa = a16 ∧ fl = n24 ∧ fc = c10) ∧ (ra = a17 ∧ rl = n25 ∧ rc = c11) ∧ (wa = a18 ∧ wl = n26 ∧ wc = c12) ∧ c.bud = n27) ∧ (za = a19 ∧ zn = n28 ∧ zc = c13) ∧ z.now = n29 ∧ z.goal = n30 ∧ z.back = b12 ∧ (zka = a20 ∧ zkn = n31 ∧ zkc = c14) ∧ z.nx = n32 := by simpa using hvs5.symm
  have hc5 := hc.ext hN5.ext
  have hzl := hQ.len
  have hgz : z.goal ≠ 0 := by rw [hQ.goal]; exact hg2
  refine ⟨fun hlt5 => ?_, fun hge5 => ?_⟩
  · obtain ⟨t1, t2, t3⟩ := turn_goal hQ.ok hgz (k := k) (by omega)
    refine (cTurnL hc5 hA5 (k : Int)).turn fun a21 n33 c15 H6 e6 _ _ => fun b13 => ⟨fun w => absurd t1 w, fun _ => ?_⟩
    rw [t2, t3]
    refine goal_split (fun w => ?_) (fun w => ?_) ⟨fun ht => fun b14 => ?_, fun ht => ?_⟩
    · unfold goalOf at w; cases hzb : z.back with
      | true => rfl
      | false => rw [hzb, if_neg (by decide)] at w; exact absurd rfl w
    · unfold goalOf at w; cases hzb : z.back with
      | false => rfl
      | true => rw [hzb, if_pos rfl] at w; exact absurd rfl w
    · obtain ⟨s1, s2⟩ := hQ.move hg2 (by omega) ht
      refine (cNextL (c := c) (l := z) (r := uSend k z.nx) (hc5.ext e6) (hA5.ext e6) Sl.nil).ldr fun la1 ll1 lc1 ka1 kl1 kc1 H7 e7 _ hA7 => fun b15 => ⟨fun _ => ⟨fun w => absurd w (by simp [s1]), fun _ => ?_⟩, fun w => absurd s1 w⟩
      have hV : ledV c z (uSend k z.nx) = ledNext z (uSend k z.nx) := by rw [ledV, if_pos s1]
      rw [hV] at hA7 ⊢
      rintro _ rfl
      rw [wrap_in (by omega) (by omega)]
      exact ⟨rfl, ⟨ledNext z (uSend k z.nx), la1, ll1, lc1, ka1, kl1, kc1, _, _, k + 1, rfl, hA7, s2, by omega⟩, by simp [upTo]; omega⟩
    · rintro _ rfl
      rw [wrap_in (by omega) (by omega)]
      exact ⟨rfl, ⟨z, za, zn, zc, zka, zkn, zkc, _, _, k + 1, rfl, hA5.ext e6, hQ.skip ht, by omega⟩, by simp [upTo]; omega⟩
  have hke : k = y2.ags.length := by omega
  rw [hke] at hQ
  have o1 : overErr c z = 0 := by unfold overErr; rw [if_neg (by rw [hQ.ok]; decide), if_neg hgz]
  have o2 : overT c z = overOf c z := by unfold overT; rw [if_pos o1]
  refine (cOverL hc5 hA5).over fun H6 e6 _ => ⟨fun w => absurd o1 w, fun _ => ?_⟩
  rw [o2]
  cases ho : overOf c z with
  | true =>
    refine ⟨fun _ => ⟨fun w => absurd (hQ.over ho) (by simp [w]), fun _ => ⟨fun _ => fun b14 => ?_, fun w => (by cases w)⟩⟩, fun w => (by cases w)⟩
    obtain ⟨s1, s2, s3⟩ := end_ok hQ.ok hgz ho
    refine (cNextL (c := c) (l := z) (r := uEnd) (hc5.ext e6) (hA5.ext e6) Sl.nil).ldr fun la1 ll1 lc1 ka1 kl1 kc1 H7 e7 _ hA7 => fun b15 => ?_
    have hV : ledV c z uEnd = ledNext z uEnd := by rw [ledV, if_pos s1]
    rw [hV, s2, s3]
    refine ⟨fun _ => ⟨fun _ => ⟨fun _ => ?_, fun w => absurd rfl w⟩, fun w => absurd w (by simp [s1])⟩, fun w => absurd s1 w⟩
    have z1 : z.goal = l.goal := by rw [hQ.goal, hR2.goal]
    have z2 : z.now = l.now := by rw [hQ.now, hR2.now]
    rw [z1, z2]
    cases hzb : z.back with
    | true => exact ⟨fun _ => ⟨fun _ => rfl, fun w => absurd rfl w⟩, fun w => (by cases w)⟩
    | false => exact ⟨fun w => (by cases w), fun _ => ⟨fun _ => by simp, fun w => absurd rfl w⟩⟩
  | false =>
    refine ⟨fun w => (by cases w), fun _ => ⟨fun w => (by cases w), fun _ => ?_⟩⟩
    cases m with
    | true =>
      refine ⟨fun w => (by cases w), fun _ => ?_⟩
      rintro _ rfl
      rw [wrap_in (by omega) (by omega)]
      exact ⟨rfl, ⟨z, za, zn, zc, zka, zkn, zkc, _, i + 1, rfl, hA5.ext e6, hR2.moved hQ⟩, by simp [upTo]; omega⟩
    | false =>
      refine ⟨fun _ => ⟨fun hzb => ?_, fun hzb => ?_⟩, fun w => absurd rfl w⟩
      · refine (cAnyTold (hA5.ext e6).ags).bool1 fun H7 e7 _ => ⟨fun _ => fun b14 => ?_, fun w => absurd (hQ.none hnt rfl) w⟩
        obtain ⟨s1, s2⟩ := hR2.turned hQ hg hzb
        refine (cNextL (c := c) (l := z) (r := uBack) ((hc5.ext e6).ext e7) ((hA5.ext e6).ext e7) Sl.nil).ldr fun la1 ll1 lc1 ka1 kl1 kc1 H8 e8 _ hA8 => fun b15 => ⟨fun _ => ⟨fun w => absurd w (by simp [s1]), fun _ => ?_⟩, fun w => absurd s1 w⟩
        have hV : ledV c z uBack = ledNext z uBack := by rw [ledV, if_pos s1]
        rw [hV] at hA8 ⊢
        rintro _ rfl
        rw [wrap_in (by omega) (by omega)]
        exact ⟨rfl, ⟨ledNext z uBack, la1, ll1, lc1, ka1, kl1, kc1, _, i + 1, rfl, hA8, s2⟩, by simp [upTo]; omega⟩
      · have := hQ.rest hnt rfl (by simpa using hzb)
        rw [ho] at this; cases this
end
end Go.Vg
