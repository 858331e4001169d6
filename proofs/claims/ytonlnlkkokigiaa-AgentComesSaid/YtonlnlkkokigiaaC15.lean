/- What is proved here: the contract of the law AgentComes. -/
import Derived.Test.YtonlnlkkokigiaaC6
import Derived.Test.YtonlnlkkokigiaaV15
set_option linter.unusedSimpArgs false
set_option maxRecDepth 100000
set_option linter.unusedVariables false
namespace Go.Vg
open Go Go.Proofs
theorem noRel0 : noRel ⟨0, []⟩ := by simp [noRel]
theorem rec1_ok {t : Int} {r : Rls} (hr : relErr r = 0) (h1 : 1 ≤ t) (h2 : t ≤ 200) : recErr ⟨1, 0, t, 0, false, r⟩ = 0 := by
  unfold recErr
  rw [if_neg (by simp), if_neg (by unfold recForm; simp), if_neg (by unfold recRange; simp; omega)]
  simp [hr]
theorem rec2_ok {t : Int} (h1 : 1 ≤ t) (h2 : t ≤ 200) : recErr ⟨2, 0, t, 0, false, ⟨0, []⟩⟩ = 0 := by
  unfold recErr
  rw [if_neg (by simp), if_neg (by unfold recForm; simp [noRel0]), if_neg (by unfold recRange; simp; omega)]
  simp
theorem rec3_ok {t : Int} {g : Bool} (h1 : 1 ≤ t) (h2 : t ≤ 200) : recErr ⟨3, 0, t, 0, g, ⟨0, []⟩⟩ = 0 := by
  unfold recErr
  rw [if_neg (by simp), if_neg (by unfold recForm; simp [noRel0]), if_neg (by unfold recRange; simp; omega)]
  simp
theorem begins {x : Agt} {t : Int} {r : Rls} (hx : agtErr x = 0) (hr : relErr r = 0) (h1 : x.try_ < t) (h2 : t ≤ 200) : nextErr x ⟨1, 0, t, 0, false, r⟩ = 0 ∧ agtErr ⟨x.lock, x.at_, t, true, r, false⟩ = 0 := by
  obtain ⟨z1, z2, z3, z4, z5, _, _⟩ := agtErr_zero hx
  refine ⟨?_, ?_⟩
  · unfold nextErr
    rw [if_neg (by omega), if_neg (by rw [rec1_ok hr (by omega) h2]; omega), if_pos rfl, if_neg (by simp; omega)]
  · unfold agtErr
    have hl := lockCheck_zero.2 z1
    simp only [hl]
    rw [if_neg (by simp), if_neg (by omega), if_pos trivial, if_neg (by simp; omega), hr]
/-- Where an agent is on its way there. -/
structure Goes (x : Agt) (t : Int) (r : Rls) (y : Agt) : Prop where
  ok : agtErr y = 0
  try_ : y.try_ = t
  going : y.going = true
  at_ : y.at_ = x.at_
  goal : y.goal = r
  good : y.good = false
theorem Goes.late3 {x y : Agt} {t : Int} {r : Rls} {g : Bool} (h : Goes x t r y) (h1 : 1 ≤ t) (h2 : t ≤ 200) (hl : agtLeft y ≠ []) : nextErr y ⟨3, 0, t, 0, g, ⟨0, []⟩⟩ = 7 := by
  unfold nextErr
  rw [if_neg (by rw [h.ok]; omega), if_neg (by rw [rec3_ok h1 h2]; omega), if_neg (by simp), if_neg (by simp), if_pos (.inr (.inr (.inr ⟨rfl, hl⟩)))]
theorem Goes.late2 {x y : Agt} {t : Int} {r : Rls} (h : Goes x t r y) (h1 : 1 ≤ t) (h2 : t ≤ 200) (hl : agtLeft y = []) : nextErr y ⟨2, 0, t, 0, false, ⟨0, []⟩⟩ = 7 := by
  unfold nextErr
  rw [if_neg (by rw [h.ok]; omega), if_neg (by rw [rec2_ok h1 h2]; omega), if_neg (by simp), if_neg (by simp), if_pos (.inr (.inr (.inl ⟨rfl, hl⟩)))]
theorem Goes.elder {x y : Agt} {t t' : Int} {r o : Rls} (h : Goes x t r y) (h1 : t' ≤ t) : nextErr y ⟨1, 0, t', 0, false, o⟩ ≠ 0 := fun hz => by
  unfold nextErr at hz
  rw [if_neg (by rw [h.ok]; omega)] at hz
  split at hz
  · rename_i h3; exact h3 hz
  · rw [if_pos rfl, if_pos (by rw [h.try_]; exact h1)] at hz; omega
theorem Goes.step {x y : Agt} {t : Int} {r : Rls} (h : Goes x t r y) (h1 : 1 ≤ t) (h2 : t ≤ 200) {o : Step} {q : List Step} (hl : agtLeft y = o :: q) :
    nextErr y ⟨2, 0, t, 0, false, ⟨0, []⟩⟩ = 0 ∧ Goes x t r (agtNext y ⟨2, 0, t, 0, false, ⟨0, []⟩⟩) ∧ agtLeft (agtNext y ⟨2, 0, t, 0, false, ⟨0, []⟩⟩) = q := by
  obtain ⟨z1, z2, z3, z4, z5, z6, z7⟩ := agtErr_zero h.ok
  have hg := agt_goal h.ok
  have hd : diffs y.lock y.goal.lock = o :: q := by rw [← hl, agtLeft, if_pos h.going]
  have hf := diffs_fits z1.1 hg.1 z1.2 hg.2 hd
  have ho := applied_ok hf.1
  have hN : agtNext y ⟨2, 0, t, 0, false, ⟨0, []⟩⟩ = ⟨applied y.lock o, y.at_, y.try_, y.going, y.goal, y.good⟩ := by
    rw [agtNext, if_neg (by simp), if_pos rfl, hl]
  refine ⟨?_, ?_, ?_⟩
  · unfold nextErr
    rw [if_neg (by rw [h.ok]; omega), if_neg (by rw [rec2_ok h1 h2]; omega), if_neg (by simp), if_neg (by simp), if_neg]
    rintro (w | w | w | w)
    · rw [h.going] at w; cases w
    · exact w h.try_.symm
    · rw [hl] at w; cases w.2
    · have := w.1; simp at this
  · rw [hN]
    refine ⟨?_, h.try_, h.going, h.at_, h.goal, h.good⟩
    unfold agtErr
    simp only [lockCheck_zero.2 ⟨ho.1, ho.2.1⟩]
    have z8 := z6 h.going
    rw [if_neg (by simp), if_neg (by omega), if_pos h.going, if_neg (by rw [h.good]; simp; exact z8.1), z8.2.2]
  · rw [hN, agtLeft, if_pos h.going]
    exact diffs_step z1.1 hg.1 hd
theorem Goes.there {x y : Agt} {t : Int} {r : Rls} (h : Goes x t r y) (h1 : 1 ≤ t) (h2 : t ≤ 200) (hl : agtLeft y = []) :
    nextErr y ⟨3, 0, t, 0, true, ⟨0, []⟩⟩ = 0 ∧ agtNext y ⟨3, 0, t, 0, true, ⟨0, []⟩⟩ = ⟨r.lock, r.id, t, false, ⟨0, []⟩, true⟩ ∧ agtErr ⟨r.lock, r.id, t, false, ⟨0, []⟩, true⟩ = 0 := by
  obtain ⟨z1, z2, z3, z4, z5, z6, z7⟩ := agtErr_zero h.ok
  have hg := agt_goal h.ok
  have hr0 := (z6 h.going).2.2
  rw [h.goal] at hg hr0
  have hd : y.lock = r.lock := diffs_nil z1.1 hg.1 (by rw [← h.goal, ← hl, agtLeft, if_pos h.going])
  refine ⟨?_, ?_, ?_⟩
  · unfold nextErr
    rw [if_neg (by rw [h.ok]; omega), if_neg (by rw [rec3_ok h1 h2]; omega), if_neg (by simp), if_neg (by simp), if_neg]
    rintro (w | w | w | w)
    · rw [h.going] at w; cases w
    · exact w h.try_.symm
    · have := w.1; simp at this
    · exact w.2 hl
  · rw [agtNext, if_neg (by simp), if_neg (by simp), hd, h.goal, h.try_]
  · unfold agtErr
    have hz := relErr_zero hr0
    simp only [lockCheck_zero.2 hz.2]
    rw [if_neg (by simp), if_neg (by omega), if_neg (by simp), if_pos noRel0]
theorem cAgentComes {H : Heap} {a ga ra oa : Option Addr} {l c gl gc rl rc ol oc : Nat} {x : Agt} {r o : Rls} (k : Int) (hp : Pins H a l x.lock) (hg : Pins H ga gl x.goal.lock) (hr : Pins H ra rl r.lock) (ho : Pins H oa ol o.lock) :
    Spec Try.prog 15 [agtArg x a l c ga gl gc, .agg #[.int .i64 r.id, .slice ra rl rc], .agg #[.int .i64 o.id, .slice oa ol oc], i64 k] H fun v _ => v = .bool true := by
  refine TryvcJ Try.func15 (by kernel_rfl) (by kernel_rfl) _ rfl (fun base K => vc15 a ga ra oa l c gl gc rl rc ol oc x.at_ x.try_ x.goal.id r.id o.id k x.going x.good base H K) fun base hb => ?_
  intro b b1 b2
  refine ⟨agtErr x ≠ 0 ∨ x.try_ = 200 ∨ relErr r ≠ 0, ?_, fun _ => cGone.bool1 fun H1 e1 _ => rfl, fun hφ => ?_⟩
  · refine cGone.bool1 fun H1 e1 _ => ⟨fun h => (by cases h), fun _ => (cAgtCheck (hp.ext' e1) (hg.ext' e1)).int1 fun H2 e2 _ => ⟨fun h => ⟨rfl, Ext.trans e1 e2, .inl h⟩, fun h => ⟨fun h2 => ⟨rfl, Ext.trans e1 e2, .inr (.inl h2)⟩, fun h2 => (cNoteRelease ((hr.ext' e1).ext' e2) r.id).int1 fun H3 e3 _ => ⟨rfl, Ext.trans (Ext.trans e1 e2) e3, ?_⟩⟩⟩⟩
    exact ⟨fun q => by rcases q with q | q | q; exact absurd q h; exact absurd q h2; exact q, fun q => .inr (.inr q)⟩
  have hx0 : agtErr x = 0 := by omega
  have hr0 : relErr r = 0 := by omega
  obtain ⟨z1, z2, z3, z4, z5, z6, z7⟩ := agtErr_zero hx0
  rintro _ rfl _ rfl
  rw [wrap_in (by omega) (by omega), wrap_in (by omega) (by omega)]
  have hat := atP_range k (n := 200 - x.try_) (by omega)
  refine (cAt k (200 - x.try_) (by omega) (by omega)).int1 fun H1 e1 _ => ?_
  rintro _ rfl
  rw [wrap_in (by omega) (by omega)]
  generalize ht : x.try_ + 1 + atP k (200 - x.try_) = t at hat ⊢
  have t1 : x.try_ < t := by omega
  have t2 : t ≤ 200 := by omega
  obtain ⟨f1, f2⟩ := begins hx0 hr0 t1 t2
  refine (cNext (r := ⟨1, 0, t, 0, false, r⟩) (hp.ext' e1) (hg.ext' e1) (hr.ext' e1)).agt fun a2 n2 c2 ga2 gn2 gc2 H2 e2 _ p2 g2 => fun b5 => ?_
  have hV : nextV x ⟨1, 0, t, 0, false, r⟩ = ⟨x.lock, x.at_, t, true, r, false⟩ := by rw [nextV, if_pos f1, agtNext, if_pos rfl]
  rw [f1]
  rw [hV] at p2 g2 ⊢
  refine ⟨fun h => absurd rfl h, fun _ => (cLeft (x := ⟨x.lock, x.at_, t, true, r, false⟩) p2 g2).sl2 fun a3 n3 c3 H3 e3 _ hD => ?_⟩
  rw [f2] at hD ⊢
  rw [if_pos rfl] at hD
  have hn3 := hD.len
  have hle3 := hD.le
  refine ⟨fun h => absurd rfl h, fun _ => ?_⟩
  generalize hds : agtLeft ⟨x.lock, x.at_, t, true, r, false⟩ = ds at hn3
  have hG0 : Goes x t r ⟨x.lock, x.at_, t, true, r, false⟩ := ⟨f2, rfl, rfl, rfl, rfl, rfl⟩
  refine ⟨fun vs Hc => ∃ (y : Agt) (a : Option Addr) (n c : Nat) (ga : Option Addr) (gn gc : Nat) (d : Bool) (e : Int) (i : Nat), vs = [.bool d, i64 e, i64 i, agtArg y a n c ga gn gc] ∧ Pins Hc a n y.lock ∧ Pins Hc ga gn y.goal.lock ∧ i ≤ n3 ∧ Goes x t r y ∧ agtLeft y = ds.drop i, upTo n3 2,
    ⟨_, a2, n2, c2, ga2, gn2, gc2, _, _, 0, rfl, p2.ext' e3, g2.ext' e3, by omega, hG0, hds⟩, fun d e m a6 n8 c4 n9 n10 b0 n11 a7 n12 c5 b3 H' hN hI => ?_⟩
  obtain ⟨y, ya, yn, yc, yga, ygn, ygc, d', e', i, hvs, hP, hQ, hi, hG, hL⟩ := hI
  obtain ⟨rfl, rfl, rfl, ⟨rfl, rfl, rfl⟩, rfl, rfl, rfl, rfl, ⟨rfl, rfl, rfl⟩, rfl⟩ : d = d' ∧ e = e' ∧ m = (i : Int) ∧ (a6 = ya ∧ n8 = yn ∧ c4 = yc) ∧ n9 = y.at_ ∧ n10 = y.try_ ∧ b0 = y.going ∧ n11 = y.goal.id ∧ (a7 = yga ∧ n12 = ygn ∧ c5 = ygc) ∧ b3 = y.good := by simpa using hvs
  refine ⟨fun hlt => ?_, fun hge => ?_⟩
  · have hi3 : i < ds.length := by omega
    obtain ⟨o1, ho1⟩ : ∃ o1, ds[i]? = some o1 := ⟨_, List.getElem?_eq_getElem hi3⟩
    rw [drop_at ho1] at hL
    have hne : agtLeft y ≠ [] := by rw [hL]; simp
    refine (cNext (r := ⟨3, 0, t, 0, false, ⟨0, []⟩⟩) hP hQ Sl.nil).agt fun a8 n13 c8 ga8 gn8 gc8 H5 e5 _ _ _ => fun b11 => ?_
    rw [hG.late3 (by omega) t2 hne]
    refine ⟨fun h => absurd rfl h, fun _ => ?_⟩
    have hat2 := atP_range (i : Int) (n := t) (by omega)
    obtain ⟨s1, s2, s3⟩ := hG.step (by omega) t2 hL
    have hVs : nextV y ⟨2, 0, t, 0, false, ⟨0, []⟩⟩ = agtNext y ⟨2, 0, t, 0, false, ⟨0, []⟩⟩ := by rw [nextV, if_pos s1]
    refine ⟨(cAt (i : Int) t (by omega) (by omega)).int1 fun H6 e6 _ => ?_, fun b12 => (cAt (i : Int) t (by omega) (by omega)).int1 fun H6 e6 _ => ?_⟩
    all_goals
      rintro _ rfl
      rw [wrap_in (by omega) (by omega)]
      try refine ⟨?_, fun b12 => ?_⟩
    all_goals
      refine (cNext (r := ⟨1, 0, 1 + atP (i : Int) t, 0, false, o⟩) ((hP.ext' e5).ext' e6) ((hQ.ext' e5).ext' e6) (((ho.ext' hN.ext).ext' e5).ext' e6)).agt fun a9 n14 c9 ga9 gn9 gc9 H7 e7 _ _ _ => ?_
      try intro b14
      refine ⟨fun h => absurd h (hG.elder (by omega)), fun _ => (cNext (r := ⟨2, 0, t, 0, false, ⟨0, []⟩⟩) (((hP.ext' e5).ext' e6).ext' e7) (((hQ.ext' e5).ext' e6).ext' e7) Sl.nil).agt fun a10 n15 c10 ga10 gn10 gc10 H8 e8 _ p8 g8 => ?_⟩
      rw [s1]
      rw [hVs] at p8 g8 ⊢
      refine ⟨False, ⟨fun h => absurd rfl h, fun _ => (cAgtCheck p8 g8).int1 fun H9 e9 _ => ?_⟩, fun h => h.elim, fun _ => ?_⟩
      · rw [s2.ok]
        exact ⟨fun h => absurd rfl h, fun _ => ⟨rfl, e9, ⟨False.elim, fun h => h s2.at_⟩⟩⟩
      · rintro _ rfl
        rw [wrap_in (by omega) (by omega)]
        exact ⟨rfl, ⟨_, a10, n15, c10, ga10, gn10, gc10, _, _, i + 1, rfl, p8, g8, by omega, s2, s3⟩, by simp [upTo]; omega⟩
  · have hL0 : agtLeft y = [] := by rw [hL]; exact List.drop_eq_nil_of_le (by omega)
    refine (cNext (r := ⟨2, 0, t, 0, false, ⟨0, []⟩⟩) hP hQ Sl.nil).agt fun a8 n13 c8 ga8 gn8 gc8 H5 e5 _ _ _ => fun b11 => ?_
    rw [hG.late2 (by omega) t2 hL0]
    obtain ⟨s1, s2, s3⟩ := hG.there (by omega) t2 hL0
    have hVs : nextV y ⟨3, 0, t, 0, true, ⟨0, []⟩⟩ = ⟨r.lock, r.id, t, false, ⟨0, []⟩, true⟩ := by rw [nextV, if_pos s1, s2]
    refine ⟨fun h => absurd rfl h, fun _ => (cNext (r := ⟨3, 0, t, 0, true, ⟨0, []⟩⟩) (hP.ext' e5) (hQ.ext' e5) Sl.nil).agt fun a9 n14 c9 ga9 gn9 gc9 H6 e6 _ p6 g6 => fun b14 => ?_⟩
    rw [s1]
    rw [hVs] at p6 g6 ⊢
    refine ⟨True, ⟨fun _ => (cAgtCheck (x := ⟨r.lock, r.id, t, false, ⟨0, []⟩, true⟩) p6 g6).int1 fun H7 e7 _ => ?_, fun h => absurd rfl h⟩, by simp⟩
    rw [s3]
    refine ⟨fun _ => ⟨fun _ => ⟨fun _ => ⟨fun _ => (cEqPins (p6.ext' e7) ((((hr.ext' hN.ext).ext' e5).ext' e6).ext' e7)).bool1 fun H8 e8 _ => ⟨rfl, Ext.trans e7 e8, by simp⟩, fun h => absurd rfl h⟩, fun h => by cases h⟩, fun h => absurd rfl h⟩, fun h => absurd rfl h⟩
end Go.Vg
