/- What is proved here: the contract of the law LeadSays. -/
import Derived.Test.YtonlnlkkokigiaaCL5
import Derived.Test.YtonlnlkkokigiaaV21
set_option linter.unusedSimpArgs false
set_option maxRecDepth 100000
set_option linter.unusedVariables false
namespace Go.Vg
open Go Go.Proofs
theorem neqB {xo yo : Operand} {a b : Bool} : RunsTo Try.prog (binRun .neq 4 xo yo (.bool a) (.bool b)) (.bool (a != b)) := by
  intro w
  have hg : (eqGuard .neq 4 xo yo (.bool a) (.bool b)).run Try.prog w = .ok () w := by simp [eqGuard]
  simp only [binRun, Sem.run_bind, hg, Result.andThen_ok]
  have := run_equal_bool w 4 a b Try.underlying4
  simp [binOp, this]
  cases a <;> cases b <;> rfl
section
variable {H : Heap} {c : Conf} {fa ra wa : Option Addr} {fl fc rl rc wl wc : Nat} {l m : Ldr} {la ka la' ka' : Option Addr} {ll lc kl kc ll' lc' kl' kc' : Nat}
theorem cLeadSays (hc : CfgAt H c fa fl ra rl wa wl) (h : LdrAt H l la ll ka kl) (hm : LdrAt H m la' ll' ka' kl') (k : Int) :
    Spec Try.prog 21 [cfgArg c fa fl fc ra rl rc wa wl wc, ldrArg l la ll lc ka kl kc, i64 k, ldrArg m la' ll' lc' ka' kl' kc'] H fun v _ => v = .bool true := by
  refine TryvcJ Try.func21 (by kernel_rfl) (by kernel_rfl) _ rfl (fun base K => vc21 c.first.id c.bud fa ra wa fl fc rl rc wl wc la ka ll lc kl kc l.now l.goal l.nx l.back k la' ka' ll' lc' kl' kc' m.now m.goal m.nx m.back base H K) fun base hb => ?_
  intro b b1 b2
  have hkl := h.ags.len
  refine (cNewL hc).ldr fun la1 ll1 lc1 ka1 kl1 kc1 H1 e1 _ hA1 => fun b4 => ?_
  refine (cTurnL (hc.ext e1) (h.ext e1) k).turn fun a3 n7 c2 H2 e2 _ hp2 => fun b6 => ?_
  have E2 := e1.trans e2
  refine (cOverL (hc.ext E2) (h.ext E2)).over fun H3 e3 _ => ?_
  have E3 := E2.trans e3
  refine (cRefConfig (hc.ext E3)).int1 fun H4 e4 _ => ?_
  have E4 := E3.trans e4
  refine (cRefLdrCheck (hc.ext E4) (h.ext E4)).int1 fun H5 e5 _ => fun b8 => ?_
  have E5 := E4.trans e5
  have D5 : Ext H2 H5 := (e3.trans e4).trans e5
  refine ⟨fun q => (cFreshL (hc.ext E5) q).ldr1 fun la6 ll6 lc6 ka6 kl6 kc6 H6 e6 _ hF6 => ?_, fun q => ?_⟩
  all_goals
    first
    | have hF : LdrAt H6 (if cfgErr c = 0 then newLdr c else noLdr) la6 ll6 ka6 kl6 := by rw [if_pos q]; exact hF6
      have hX : (if cfgErr c = 0 then newLdr c else noLdr) = newLdr c := if_pos q
      have e6' := e6
    | have hF : LdrAt H5 (if cfgErr c = 0 then newLdr c else noLdr) none 0 none 0 := by rw [if_neg q]; exact ⟨Sl.nil, Sl.nil⟩
      have hX : (if cfgErr c = 0 then newLdr c else noLdr) = noLdr := if_neg q
      have e6' := Ext.refl H5
    have E6 := E5.trans e6'
    have D6 := D5.trans e6'
    refine (cAgents (hc.ext E6)).int1 fun H7 e7 _ => cLed.bool1 fun H8 e8 _ => ⟨fun w => (by cases w), fun _ => ?_⟩
    have e68 := e7.trans e8
    have E8 := E6.trans e68
    refine (cConfig (hc.ext E8)).int1 fun H9 e9 _ => ⟨fun w => absurd rfl w, fun _ => ?_⟩
    have E9 := E8.trans e9
    refine (cLdrCheck (hc.ext E9) (h.ext E9)).int1 fun H10 e10 _ => ⟨fun w => absurd rfl w, fun _ => ?_⟩
    have E10 := E9.trans e10
    refine (cLdrSame (h.ext E10) (hm.ext E10)).bool1 fun H11 e11 _ => ?_
    have E11 := E10.trans e11
    refine (cRefLdrSame (h.ext E11) (hm.ext E11)).bool1 fun H12 e12 _ => ⟨_, neqB, fun w => (by simp at w), fun _ => ⟨fun w => absurd rfl w, fun _ => ?_⟩⟩
    have E12 := E11.trans e12
    have e612 : Ext _ H12 := (((e68.trans e9).trans e10).trans e11).trans e12
    have D12 := D6.trans e612
    have F12 : Ext H1 H12 := e2.trans D12
    rw [hX] at hA1 hF ⊢
    refine (cRefLdrSame (hA1.ext F12) (hF.ext e612)).bool1 fun H13 e13 _ => ⟨fun w => (by simp at w), fun _ => ?_⟩
    have E13 := E12.trans e13
    refine (cRefAgents (hc.ext E13)).int1 fun H14 e14 _ => ?_
    have E14 := E13.trans e14
    have D14 := (D12.trans e13).trans e14
    have hsp := agentsOf_spec c.waves
    refine ⟨fun w => ⟨fun w2 => absurd w2 (by omega), fun w2 => (cRefAgents (hc.ext E14)).int1 fun H15 e15 _ => ⟨fun w3 => absurd w3 (by omega), fun w3 => ?_⟩⟩, fun w => ?_⟩
  all_goals
    first
    | have EZ := E14.trans e15
      have DZ := D14.trans e15
    | have EZ := E14
      have DZ := D14
    refine ⟨ldrErr c l = 0 ∧ l.goal = 0, ⟨fun w => ⟨rfl, fun _ _ h => h, by simp [w]⟩, fun w => ⟨rfl, fun _ _ h => h, by simp [w]⟩⟩, fun p1 => ?_, fun p1 => ?_⟩
  all_goals
    first
    | have hO7 : overErr c l = 7 := by rw [overErr, if_neg (by omega), if_pos p1.2]
      have hOT : overT c l = false := by rw [overT, if_neg (by omega)]
      refine ⟨False, ⟨fun w => absurd hO7 w, fun _ => ⟨fun _ => ⟨fun w => (by rw [hOT] at w; cases w), fun _ => ⟨fun w => absurd w (by decide), fun _ => ⟨rfl, fun _ _ h => h, fun h => h⟩⟩⟩, fun w => absurd (by decide) w⟩⟩, False.elim, fun _ => ?_⟩
    | have hO7 : overErr c l = ldrErr c l := by
        by_cases w : ldrErr c l = 0
        · rw [overErr, if_neg (by omega), if_neg (fun w2 => p1 ⟨w, w2⟩), w]
        · rw [overErr, if_pos w]
      have hOT : ldrErr c l = 0 → overT c l = overOf c l := fun w => by rw [overT, if_pos (by omega)]
      have hOF : ldrErr c l ≠ 0 → overT c l = false := fun w => by rw [overT, if_neg (by omega)]
      refine ⟨False, ⟨fun w => absurd hO7 w, fun _ => ⟨fun w => ⟨fun w2 => (by rw [hOF w] at w2; cases w2), fun _ => ⟨fun w2 => absurd w2 w, fun _ => ⟨rfl, fun _ _ h => h, fun h => h⟩⟩⟩, fun w => ⟨fun w2 => (cRefOver (hc.ext EZ) (h.ext EZ) w2).bool1 fun H16 e16 _ => ⟨_, neqB, rfl, e16, by rw [hOT w2]; simp⟩, fun w2 => absurd w2 w⟩⟩⟩, False.elim, fun _ => ?_⟩
  all_goals
    refine (cRefLdrCheck (hc.ext EZ) (h.ext EZ)).int1 fun H16 e16 _ => ?_
    have E16 := EZ.trans e16
    have hp := hp2.ext' (DZ.trans e16)
    have tE : ∀ {e : Int}, turnErr c l k = e → e ≠ 0 → turnT c l k = false ∧ turnRel c l k = ⟨0, []⟩ := fun he h0 => ⟨by rw [turnT, if_neg (by omega)], by rw [turnRel, if_neg (by omega)]⟩
    refine ⟨ldrErr c l = 0 ∧ (k < 0 ∨ (kl : Int) ≤ k), ⟨fun w => ⟨fun w2 => ⟨rfl, fun _ _ h => h, by simp [w, w2]⟩, fun w2 => ⟨rfl, fun _ _ h => h, by simp [w, w2]⟩⟩, fun w => ⟨rfl, fun _ _ h => h, by simp [w]⟩⟩, fun p2 => ?_, fun p2 => ?_⟩
    · have hT5 : turnErr c l k = 5 := by rw [turnErr, if_neg (by omega), if_pos (by omega)]
      obtain ⟨x1, x2⟩ := tE hT5 (by decide)
      refine ⟨False, ⟨fun w => absurd w (by decide), fun _ => ⟨rfl, fun _ _ h => h, fun h => h⟩⟩, False.elim, fun _ => ⟨fun _ => ⟨True, ⟨fun _ => ⟨fun _ => (cRefAlike hp Sl.nil _ _).bool1 fun H17 e17 _ => ⟨rfl, e17, by rw [x2]; simp⟩, fun w => absurd x1 w⟩, fun w => absurd hT5 w⟩, by simp⟩, fun w => absurd (by decide) w⟩⟩
    · refine ⟨ldrErr c l = 0 ∧ l.goal = 0, ⟨fun w => ⟨rfl, fun _ _ h => h, by simp [w]⟩, fun w => ⟨rfl, fun _ _ h => h, by simp [w]⟩⟩, fun p3 => ?_, fun p3 => ⟨fun p4 => ?_, fun p4 => ?_⟩⟩
      · have hT7 : turnErr c l k = 7 := by rw [turnErr, if_neg (by omega), if_neg (by omega), if_pos p3.2]
        obtain ⟨x1, x2⟩ := tE hT7 (by decide)
        exact ⟨fun _ => ⟨True, ⟨fun _ => ⟨fun _ => (cRefAlike hp Sl.nil _ _).bool1 fun H17 e17 _ => ⟨rfl, e17, by rw [x2]; simp⟩, fun w => absurd x1 w⟩, fun w => absurd hT7 w⟩, by simp⟩, fun w => absurd (by decide) w⟩
      · have hTe : turnErr c l k = ldrErr c l := by rw [turnErr, if_pos p4]
        obtain ⟨x1, x2⟩ := tE hTe p4
        exact ⟨True, ⟨fun _ => ⟨fun _ => (cRefAlike hp Sl.nil _ _).bool1 fun H17 e17 _ => ⟨rfl, e17, by rw [x2]; simp⟩, fun w => absurd x1 w⟩, fun w => absurd hTe w⟩, by simp⟩
      · have p0 : ldrErr c l = 0 := Decidable.not_not.1 p4
        have hg : l.goal ≠ 0 := fun w => p3 ⟨p0, w⟩
        have hT0 : turnErr c l k = 0 := by rw [turnErr, if_neg (by omega), if_neg (by omega), if_neg hg]
        have hT1 : turnT c l k = turnOf c l k := by rw [turnT, if_pos hT0]
        refine ⟨fun _ => (cRefTurn (hc.ext E16) (h.ext E16) p0 (k := k) (by omega) (by omega)).bool1 fun H17 e17 _ => ⟨_, eqBool, fun _ => ?_, fun w => absurd (by rw [hT1]; simp) w⟩, fun w => absurd hT0 w⟩
        refine (cGoalOf (c := c) (h.ext (E16.trans e17)) p0 hg).mono fun v H18 e18 hv => ?_
        obtain ⟨a9, n9, c9, x, rfl, hx, hpx⟩ := hv
        refine ⟨_, a9, n9, c9, rfl, fun _ => (cRefAlike ((hp.ext' e17).ext' e18) hpx _ _).bool1 fun H19 e19 _ => ?_⟩
        have hT2 : turnRel c l k = x := by rw [turnRel, if_pos hT0, hx]; rfl
        rw [hT2]; simp
end
end Go.Vg
