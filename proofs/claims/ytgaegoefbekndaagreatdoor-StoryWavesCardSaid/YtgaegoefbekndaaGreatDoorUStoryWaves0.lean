/- What is proved here: a part of the proof of the law StoryWaves: what a contract is, how it comes of a condition, contracts of the functions that are reached, the plain laws. -/
import Derived.Test.YtgaegoefbekndaaGreatDoorU13
set_option linter.unusedSimpArgs false
set_option linter.unusedVariables false
set_option maxRecDepth 100000
namespace Go.Vg
open Go Go.Proofs
set_option maxHeartbeats 1000000 in
theorem cPlayedb {H : Heap} (hL : Lb H) {c : Conf} {fa ra wa : O} {fl fc rl rc wl wc : Nat} (hc : CfgAt H c fa fl ra rl wa wl) {l : List Hap} {a : O} {n cc : Nat} (hx : Haps H a n l) (hcap : n <= cc) {q : Nat}
  (hok : ∀ {H' : Heap} {w : Wld} {L : Ldr} {A : List Agt} {la ka xa : O} {ll lc kl kc xn xc : Nat}, Ext H H'->Sto c w L A->LdrAt H' L la ll ka kl->Sl RAgt 7 H' xa xn A->Spec Tryz.prog 48 [ldrArg L la ll lc ka kl kc, .slice xa xn xc, .pointer (some ⟨q, 0, none⟩)] H' fun v _ => v = .bool true) :
  Spec Tryz.prog 45 [cfgArg c fa fl fc ra rl rc wa wl wc, .slice a n cc, .func (.func 48) #[] #[.pointer (some ⟨q, 0, none⟩)]] H fun v H' => ∃ p w, v = .tuple #[wldArg w p, .bool true]/\ WldAt H' w p/\ w = (if cfgErr c = 0 then playW c l else noWld) := by
 refine TryzvcK Tryz.func45 (by kernel_rfl) (by kernel_rfl) _ rfl (fun base K => vk45b c.first.id c.bud fa ra wa fl fc rl rc wl wc a n cc q base H K) fun base hb => fun b b1 => ?_
 have hNW := cNewW (fc := fc) (rc := rc) (wc := wc) hc
 by_cases h : cfgErr c = 0
 case neg =>
  rw [show newW c = noWld from by unfold newW; rw [if_neg h]] at hNW
  exact hNW.wldE fun p H1 e1 hN1 hw => fun b4 => ⟨fun _ => ⟨p, noWld, rfl, hw, by rw [if_neg h]⟩, fun h2 => absurd h h2⟩
 rw [h, show newW c = freshWld c from by unfold newW; rw [if_pos h]] at hNW
 refine hNW.wldE fun p0 Hs e0 hN0 hw0 => fun b4 => ⟨fun h2 => absurd rfl h2, fun _ => ?_⟩
 have hln := hx.len
 have hnle := hx.le
 generalize hNN : (if 90 < (n : Int) then (90 : Int) else (n : Int)) = NN
 have hNb : 0 <= NN/\ NN <= (n : Int) := by rw [← hNN]; split <;> omega
 have hN90 : l.take NN.toNat = l.take 90 := by
  by_cases h9 : 90 < (n : Int)
  ·rw [if_pos h9] at hNN; rw [← hNN]; rfl
  ·rw [if_neg h9] at hNN; rw [← hNN, List.take_of_length_le (by omega), List.take_of_length_le (by omega)]
 obtain ⟨N, rfl⟩ : ∃ N : Nat, NN = N := ⟨NN.toNat, by omega⟩
 rw [Int.toNat_natCast] at hN90
 have hx0 := Sl.ext RHap.mono hx e0
 have hL0 := hL.ext e0
 refine ⟨by omega, by omega, fun m vs H' => ∃ (d : Bool) (i : Nat) (y : Wld) (q : WA) (L : Ldr) (A : List Agt), vs = [.bool d, i64 i, wldArg noWld noWA, wldArg y q]/\ m = N - i/\ i <= N/\ WldAt H' y q/\ Sto c y L A/\ (wRunFrom (freshWld c) (l.take N)).1 = (wRunFrom y ((l.take N).drop i)).1/\ Ext Hs H', N, ⟨false, 0, freshWld c, p0, _, _, rfl, rfl, by omega, hw0, Sto.fresh h, rfl, Ext.refl _⟩, ?_⟩
 intro m d n15 n10 a11 l11 c11 a12 l12 c12 a13 l13 c13 n14 a15 l15 c15 n16 n17 b18 a19 l19 c19 n1A a1B l1B c1B a1C l1C c1C b1D a1E l1E c1E a1F l1F c1F n20 a21 l21 c21 a22 l22 c22 a23 l23 c23 n24 a25 l25 c25 n26 n27 b28 a29 l29 c29 n2A a2B l2B c2B a2C l2C c2C b2D a2E l2E c2E a2F l2F c2F H' hNx hI
 obtain ⟨d', i, y, q, L, A, hvs, rfl, hi, hwy, hS, hrun, eH⟩ := hI
 simp only [List.cons.injEq, Value.slice.injEq, Value.int.injEq, true_and, Value.agg.injEq, Array.mk.injEq, Value.bool.injEq, and_true] at hvs
 obtain ⟨rfl, rfl, ⟨rfl, ⟨rfl, rfl, rfl⟩, ⟨rfl, rfl, rfl⟩, ⟨rfl, rfl, rfl⟩, rfl, ⟨rfl, rfl, rfl⟩, rfl, rfl, rfl, ⟨rfl, rfl, rfl⟩, rfl, ⟨rfl, rfl, rfl⟩, ⟨rfl, rfl, rfl⟩, rfl, ⟨rfl, rfl, rfl⟩, rfl, rfl, rfl⟩, rfl, ⟨rfl, rfl, rfl⟩, ⟨rfl, rfl, rfl⟩, ⟨rfl, rfl, rfl⟩, rfl, ⟨rfl, rfl, rfl⟩, rfl, rfl, rfl, ⟨rfl, rfl, rfl⟩, rfl, ⟨rfl, rfl, rfl⟩, ⟨rfl, rfl, rfl⟩, rfl, ⟨rfl, rfl, rfl⟩, rfl, rfl, rfl⟩ := hvs
 have hRy := hS.right
 have nxt : ∀ {r : Int}, r = IntKind.wrap .i64 ((i : Int) + 1)->r = ((i + 1 : Nat) : Int) := fun hr => by rw [hr, wrap_in (by omega) (by omega)]; rfl
 refine ⟨fun hlt => ?_, fun hge => ?_⟩
 ·have hin : i < N := by have := hlt; rw [Int.toNat_natCast] at this; omega
  obtain ⟨b8, o8, r8, x, ha, hxi, ⟨ax, lx, cx, rfl, hpx⟩, hc8⟩ := (Sl.ext RHap.mono hx0 eH).get (k := (i : Int)) (by omega) (by omega)
  have hdrop : (l.take N).drop i = x :: (l.take N).drop (i + 1) := by
   rw [Int.toNat_natCast] at hxi
   exact drop_at (by rw [List.getElem?_take, if_pos hin]; exact hxi)
  rw [hdrop] at hrun
  refine ⟨b8, o8, ha, by omega, hlt, _, _, _, _, _, _, _, ⟨hc8 0 _ rfl, hc8 1 _ rfl, hc8 2 _ rfl, hc8 3 _ rfl, hc8 4 _ rfl, trivial⟩, fun b10 => ?_⟩
  have hDo := cDo (c := cx) (hL0.ext eH) hwy hpx
  rw [show wDo y x = wHap y x from by unfold wDo; rw [if_neg (by rw [wldErr_zero.2 hRy]; simp)]] at hDo
  cases hh : wHap y x with
  | error e =>
   rw [hh] at hDo
   rw [wRun_err hh] at hrun
   exact hDo.wldE fun p1 H1 e1 hN1 hw1 => fun b13 => ⟨fun h0 => absurd h0 (wHap_err hh), fun _ => fun r hr => ⟨rfl, N - (i + 1), by omega, d, i + 1, y, q, L, A, by rw [nxt hr], rfl, by omega, hwy.ext e1, hS, hrun, Ext.trans eH e1⟩⟩
  | ok z =>
   have hDo' : Spec Tryz.prog 27 [wldArg y q, hapArg x ax lx cx] H' fun v H'' => ∃ p', v = .tuple #[wldArg z p', i64 0]/\ WldAt H'' z p' := by rw [hh] at hDo; exact hDo
   rw [wRun_ok hh] at hrun
   obtain ⟨L', A', hS'⟩ := hS.hap hh
   refine hDo'.wldE fun p1 H1 e1 hN1 hw1 => fun b13 => ⟨fun _ => ?_, fun h0 => absurd rfl h0⟩
   refine (cAll ((hL0.ext eH).ext e1) hw1 hS'.logs).mono fun v H3 e3 hv => ?_
   obtain ⟨la, ll, lc, ka, kl, kc, xa, xn, xc, rfl, hLd, hA⟩ := hv
   refine ⟨_, _, _, _, _, _, _, _, _, _, _, _, _, _, rfl, fun hN3 => fun b18 => ⟨False, ⟨fun h => (by cases h), fun _ => (hok (Ext.trans e0 (Ext.trans eH (Ext.trans e1 e3))) hS' hLd hA).bool1 fun H4 e4 hN4 => ⟨rfl, e4, by simp⟩⟩, fun h => h.elim, fun _ => fun r hr => ⟨rfl, N - (i + 1), by omega, d, i + 1, z, p1, L', A', by rw [nxt hr], rfl, by omega, hw1.ext e3, hS', hrun, Ext.trans eH (Ext.trans e1 e3)⟩⟩⟩
 ·have hip : i = N := by have := hge; rw [Int.toNat_natCast] at this; omega
  refine (cLogs (hL0.ext eH) hwy hS.logs).bool1 fun H1 e1 hN1 => ⟨q, y, rfl, hwy.ext e1, ?_⟩
  rw [if_pos h]
  rw [List.drop_eq_nil_of_le (by rw [List.length_take]; omega)] at hrun
  unfold playW
  rw [← hN90, hrun]
  rfl
open Go Go.Proofs
theorem cWaves {H : Heap} {c : Conf} {w : Wld} {L : Ldr} {A : List Agt} {la ka xa : O} {ll lc kl kc xn xc q : Nat} {wa : O} {wl wc : Nat} (hq : H.cell q 3 = some (.slice wa wl wc)) (hW : Waves H wa wl c.waves) (hS : Sto c w L A) (hLd : LdrAt H L la ll ka kl) (hA : Sl RAgt 7 H xa xn A) :
  Spec Tryz.prog 48 [ldrArg L la ll lc ka kl kc, .slice xa xn xc, .pointer (some ⟨q, 0, none⟩)] H fun v _ => v = .bool true := by
 refine TryzvcK Tryz.func48 (by kernel_rfl) (by kernel_rfl) _ rfl (fun base K => vk48 L.now L.goal L.nx L.back la ka ll lc kl kc xa xn xc q base H K) fun base hb => fun b => ?_
 have hkl := hLd.ags.len
 have hkle := hLd.ags.le
 have hAl := hA.len
 have hAle := hA.le
 have hAA := hS.logs.ags.2
 have hal := hS.logs.alen
 refine ⟨L.goal = 0 ∨ L.back = true, ⟨fun h => ⟨rfl, subH, .inl h⟩, fun h => ⟨rfl, subH, ⟨fun hh => hh.resolve_left h, .inr⟩⟩⟩, fun hφ => rfl, fun hφ => ?_⟩
 have hg : L.goal ≠ 0 := fun h => hφ (.inl h)
 have hbk : L.back = false := by cases h : L.back with
  | false => rfl
  | true => exact absurd (.inr h) hφ
 refine ⟨fun m vs H' => ∃ (d : Bool) (i : Nat), vs = [.bool d, i64 i]/\ m = xn - i/\ i <= xn/\ Ext H H', xn, ⟨false, 0, rfl, rfl, by omega, Ext.refl _⟩, fun m d n H' hN' hI => ?_⟩
 obtain ⟨d', i, hvs, rfl, hi, eH⟩ := hI
 obtain ⟨rfl, rfl⟩ : d = d'/\ n = (i : Int) := by simpa using hvs
 refine ⟨fun hlt => ?_, fun hge => rfl⟩
 have nxt : ∀ {r : Int}, r = IntKind.wrap .i64 ((i : Int) + 1)->r = ((i + 1 : Nat) : Int) := fun hr => by rw [hr, wrap_in (by omega) (by omega)]; rfl
 obtain ⟨b7, o7, r7, x7, ha7, hx7, ⟨ya, yn, yc, za, zn, zc, rfl, hp7, hq7⟩, hc7⟩ := (Sl.ext ragt_mono hA eH).get (k := (i : Int)) (by omega) hlt
 refine ⟨b7, o7, ha7, by omega, hlt, _, _, _, _, _, _, _, _, _, _, _, ⟨hc7 0 _ rfl, hc7 1 _ rfl, hc7 2 _ rfl, hc7 3 _ rfl, hc7 4 _ rfl, hc7 5 _ rfl, hc7 6 _ rfl, trivial⟩, fun b8 => ?_⟩
 refine ⟨¬ ((x7.going = true/\ x7.goal.id = L.goal) ∨ x7.at_ = L.goal), ⟨fun h => ⟨fun h1 => ⟨rfl, subH, fun hh => hh (.inl ⟨h, h1⟩)⟩, fun h1 => ⟨rfl, subH, ⟨fun hh h2 => hh (.inr h2), fun hh => fun h2 => h2.elim (fun h3 => h1 h3.2) hh⟩⟩⟩, fun h => ⟨rfl, subH, ⟨fun hh h2 => hh (.inr h2), fun hh => fun h2 => h2.elim (fun h3 => by rw [h] at h3; cases h3.1) hh⟩⟩⟩, fun hno => fun r hr => ⟨rfl, xn - (i + 1), by omega, d, i + 1, by rw [nxt hr], rfl, by omega, eH⟩, fun hno => ?_⟩
 have hnew := Decidable.not_not.1 hno
 rw [Int.toNat_natCast] at hx7
 have hsw : ∀ (o : Nat) (b : Kn), L.ags[o]? = some b->waveOf c.waves o < waveOf c.waves i->(b.st = 2 ∨ b.st = 3)/\ ∀ a', A[o]? = some a'->a'.at_ = L.goal := fun o b hb hlt => story_waves hS.inv hg hbk hx7 hnew hb hlt
 refine ⟨fun m vs H' => ∃ (d : Bool) (j : Nat), vs = [.bool d, i64 j]/\ m = kl - j/\ j <= kl/\ Ext H H', kl, ⟨d, 0, rfl, rfl, by omega, eH⟩, fun m2 d2 n2 H2 hN2 hI2 => ?_⟩
 obtain ⟨d3, j, hvs2, rfl, hj, eH2⟩ := hI2
 obtain ⟨rfl, rfl⟩ : d2 = d3/\ n2 = (j : Int) := by simpa using hvs2
 have nx2 : ∀ {r : Int}, r = IntKind.wrap .i64 ((j : Int) + 1)->j < kl->r = ((j + 1 : Nat) : Int) := fun hr hj => by rw [hr, wrap_in (by omega) (by omega)]; rfl
 refine ⟨fun hlt2 => ?_, fun hge => fun r hr => ⟨rfl, xn - (i + 1), by omega, d2, i + 1, by rw [nxt hr], rfl, by omega, eH2⟩⟩
 obtain ⟨b6, o6, r6, x6, ha6, hx6, hr6, hc6⟩ := (hLd.ext eH2).ags.get (k := (j : Int)) (by omega) hlt2
 obtain rfl := hr6
 rw [Int.toNat_natCast] at hx6
 refine ⟨b6, o6, ha6, by omega, hlt2, _, _, _, ⟨hc6 0 _ rfl, hc6 1 _ rfl, hc6 2 _ rfl, trivial⟩, fun b9 => ⟨wa, wl, wc, Heap.cell_next eH2 hq, wa, wl, wc, Heap.cell_next eH2 hq, ?_⟩⟩
 have hW2 := Sl.ext (RSl.mono RInt.mono) hW eH2
 refine (cWaveOf (c := wc) hW2 (j : Int)).int1 fun H3 e3 hN3 => (cWaveOf (c := wc) (Sl.ext (RSl.mono RInt.mono) hW2 e3) (i : Int)).int1 fun H4 e4 hN4 => ⟨fun hw => ?_, fun _ => fun r hr => ⟨rfl, kl - (j + 1), by omega, d2, j + 1, by rw [nx2 hr (by omega)], rfl, by omega, Ext.trans eH2 (Ext.trans e3 e4)⟩⟩
 obtain ⟨s1, s2⟩ := hsw j x6 hx6 hw
 obtain ⟨b5, o5, r5, x5, ha5, hx5, ⟨ya5, yn5, yc5, za5, zn5, zc5, rfl, _, _⟩, hc5⟩ := (Sl.ext ragt_mono hA (Ext.trans eH2 (Ext.trans e3 e4))).get (k := (j : Int)) (by omega) (by omega)
 rw [Int.toNat_natCast] at hx5
 have h5 := s2 x5 hx5
 have fin : ∃ (b o : Nat), xa = some ⟨b, o, none⟩/\ 0 <= (j : Int)/\ (j : Int) < (xn : Int)/\ ∃ n : Int, H4.cell b (o + (j : Int).toNat * 7 + 1) = some (.int .i64 n)/\ n = L.goal := ⟨b5, o5, ha5, by omega, by omega, _, hc5 1 _ rfl, h5⟩
 obtain ⟨b4, o4, q1, q2, q3, n4, q4, q5⟩ := fin
 refine ⟨fun hn2 => ⟨fun hn3 => ?_, fun _ => ⟨b4, o4, q1, q2, q3, n4, q4, fun h => absurd q5 h, fun _ => fun r hr => ⟨rfl, kl - (j + 1), by omega, d2, j + 1, by rw [nx2 hr (by omega)], rfl, by omega, Ext.trans eH2 (Ext.trans e3 e4)⟩⟩⟩, fun _ => ⟨b4, o4, q1, q2, q3, n4, q4, fun h => absurd q5 h, fun _ => fun r hr => ⟨rfl, kl - (j + 1), by omega, d2, j + 1, by rw [nx2 hr (by omega)], rfl, by omega, Ext.trans eH2 (Ext.trans e3 e4)⟩⟩⟩
 exact absurd s1 (fun h => h.elim hn2 hn3)
theorem cStoryWaves {H : Heap} (hL : Lb H) {c : Conf} {fa ra wa : O} {fl fc rl rc wl wc : Nat} (hc : CfgAt H c fa fl ra rl wa wl) {l : List Hap} {a : O} {n cc : Nat} (hx : Haps H a n l) (hcap : n <= cc) :
  Spec Tryz.prog 12 [cfgArg c fa fl fc ra rl rc wa wl wc, .slice a n cc] H fun v _ => v = .bool true := by
 refine TryzvcK Tryz.func12 (by kernel_rfl) (by kernel_rfl) _ rfl (fun base K => vk12 c.first.id c.bud fa ra wa fl fc rl rc wl wc a n cc base H K) fun base hb => fun b => ⟨rfl, fun Hl hl hk => ?_⟩
 have hq : Hl.cell b 3 = some (.slice wa wl wc) := by unfold Heap.cell; rw [hk.1]; rfl
 refine (cPlayedb (q := b) (hL.ext hl.ext) (hc.ext hl.ext) (Sl.ext RHap.mono hx hl.ext) hcap fun e hS hLd hA => cWaves (Heap.cell_next e hq) (Sl.ext (RSl.mono RInt.mono) (hc.ext hl.ext).waves e) hS hLd hA).mono fun v H1 e1 hv => ?_
 obtain ⟨p, w, rfl, hw, hwe⟩ := hv
 refine ⟨_, _, _, _, _, _, _, _, _, _, _, _, _, _, _, _, _, _, _, _, _, _, _, _, _, _, _, _, _, _, _, _, _, _, _, rfl, fun H2 hN2 hkeep => fun b4 => ⟨True, (cTold (hL.ext hN2.ext)).bool1 fun H3 e3 hN3 => ⟨fun _ => ⟨rfl, e3, by simp⟩, fun h => (by cases h)⟩, true_bool⟩⟩
end Go.Vg
