/- What is proved here: a part of the proof of the law StoryIll: what a contract is, how it comes of a condition, contracts of the functions that are reached, the plain laws. -/
import Derived.Test.YtgaegoefbekndaaGreatDoorU13
set_option linter.unusedSimpArgs false
set_option linter.unusedVariables false
set_option maxRecDepth 100000
namespace Go.Vg
open Go Go.Proofs
set_option maxHeartbeats 1000000 in
theorem cPlayedc {H : Heap} (hL : Lb H) {c : Conf} {fa ra wa : O} {fl fc rl rc wl wc : Nat} (hc : CfgAt H c fa fl ra rl wa wl) {l : List Hap} {a : O} {n cc : Nat} (hx : Haps H a n l) (hcap : n <= cc) {q r : Nat}
  (hok : ∀ {H' : Heap} {w : Wld} {L : Ldr} {A : List Agt} {la ka xa : O} {ll lc kl kc xn xc : Nat}, Ext H H'->Sto c w L A->LdrAt H' L la ll ka kl->Sl RAgt 7 H' xa xn A->Spec Tryz.prog 50 [ldrArg L la ll lc ka kl kc, .slice xa xn xc, .pointer (some ⟨q, 0, none⟩), .pointer (some ⟨r, 0, none⟩)] H' fun v _ => v = .bool true) :
  Spec Tryz.prog 45 [cfgArg c fa fl fc ra rl rc wa wl wc, .slice a n cc, .func (.func 50) #[] #[.pointer (some ⟨q, 0, none⟩), .pointer (some ⟨r, 0, none⟩)]] H fun v H' => ∃ p w, v = .tuple #[wldArg w p, .bool true]/\ WldAt H' w p/\ w = (if cfgErr c = 0 then playW c l else noWld) := by
 refine TryzvcK Tryz.func45 (by kernel_rfl) (by kernel_rfl) _ rfl (fun base K => vk45c c.first.id c.bud fa ra wa fl fc rl rc wl wc a n cc q r base H K) fun base hb => fun b b1 => ?_
 have hNW := cNewW (fc := fc) (rc := rc) (wc := wc) hc
 by_cases h : cfgErr c = 0
 case neg =>
  rw [show newW c = noWld from by unfold newW; rw [if_neg h]] at hNW
  exact hNW.wldE fun p H1 e1 hN1 hw => fun b4 => ⟨fun _ => ⟨p, noWld, rfl, hw, by rw [if_neg h]⟩, fun h2 => absurd h h2⟩
 rw [h, show newW c = freshWld c from by unfold newW; rw [if_pos h]] at hNW
 refine hNW.wldE fun p0 Hs e0 hN0 hw0 => fun b4 => ⟨fun h2 => absurd rfl h2, fun _ => ?_⟩
 have hln := hx.len
 have hnle := hx.le
 generalize hNN : (if 90 < (n : Int) then (90 : Int) else (n : Int)) = NN
 have hNb : 0 <= NN/\ NN <= (n : Int) := by rw [← hNN]; split <;> omega
 have hN90 : l.take NN.toNat = l.take 90 := by
  by_cases h9 : 90 < (n : Int)
  ·rw [if_pos h9] at hNN; rw [← hNN]; rfl
  ·rw [if_neg h9] at hNN; rw [← hNN, List.take_of_length_le (by omega), List.take_of_length_le (by omega)]
 obtain ⟨N, rfl⟩ : ∃ N : Nat, NN = N := ⟨NN.toNat, by omega⟩
 rw [Int.toNat_natCast] at hN90
 have hx0 := Sl.ext RHap.mono hx e0
 have hL0 := hL.ext e0
 refine ⟨by omega, by omega, fun m vs H' => ∃ (d : Bool) (i : Nat) (y : Wld) (q : WA) (L : Ldr) (A : List Agt), vs = [.bool d, i64 i, wldArg noWld noWA, wldArg y q]/\ m = N - i/\ i <= N/\ WldAt H' y q/\ Sto c y L A/\ (wRunFrom (freshWld c) (l.take N)).1 = (wRunFrom y ((l.take N).drop i)).1/\ Ext Hs H', N, ⟨false, 0, freshWld c, p0, _, _, rfl, rfl, by omega, hw0, Sto.fresh h, rfl, Ext.refl _⟩, ?_⟩
 intro m d n15 n10 a11 l11 c11 a12 l12 c12 a13 l13 c13 n14 a15 l15 c15 n16 n17 b18 a19 l19 c19 n1A a1B l1B c1B a1C l1C c1C b1D a1E l1E c1E a1F l1F c1F n20 a21 l21 c21 a22 l22 c22 a23 l23 c23 n24 a25 l25 c25 n26 n27 b28 a29 l29 c29 n2A a2B l2B c2B a2C l2C c2C b2D a2E l2E c2E a2F l2F c2F H' hNx hI
 obtain ⟨d', i, y, q, L, A, hvs, rfl, hi, hwy, hS, hrun, eH⟩ := hI
 simp only [List.cons.injEq, Value.slice.injEq, Value.int.injEq, true_and, Value.agg.injEq, Array.mk.injEq, Value.bool.injEq, and_true] at hvs
 obtain ⟨rfl, rfl, ⟨rfl, ⟨rfl, rfl, rfl⟩, ⟨rfl, rfl, rfl⟩, ⟨rfl, rfl, rfl⟩, rfl, ⟨rfl, rfl, rfl⟩, rfl, rfl, rfl, ⟨rfl, rfl, rfl⟩, rfl, ⟨rfl, rfl, rfl⟩, ⟨rfl, rfl, rfl⟩, rfl, ⟨rfl, rfl, rfl⟩, rfl, rfl, rfl⟩, rfl, ⟨rfl, rfl, rfl⟩, ⟨rfl, rfl, rfl⟩, ⟨rfl, rfl, rfl⟩, rfl, ⟨rfl, rfl, rfl⟩, rfl, rfl, rfl, ⟨rfl, rfl, rfl⟩, rfl, ⟨rfl, rfl, rfl⟩, ⟨rfl, rfl, rfl⟩, rfl, ⟨rfl, rfl, rfl⟩, rfl, rfl, rfl⟩ := hvs
 have hRy := hS.right
 have nxt : ∀ {r : Int}, r = IntKind.wrap .i64 ((i : Int) + 1)->r = ((i + 1 : Nat) : Int) := fun hr => by rw [hr, wrap_in (by omega) (by omega)]; rfl
 refine ⟨fun hlt => ?_, fun hge => ?_⟩
 ·have hin : i < N := by have := hlt; rw [Int.toNat_natCast] at this; omega
  obtain ⟨b8, o8, r8, x, ha, hxi, ⟨ax, lx, cx, rfl, hpx⟩, hc8⟩ := (Sl.ext RHap.mono hx0 eH).get (k := (i : Int)) (by omega) (by omega)
  have hdrop : (l.take N).drop i = x :: (l.take N).drop (i + 1) := by
   rw [Int.toNat_natCast] at hxi
   exact drop_at (by rw [List.getElem?_take, if_pos hin]; exact hxi)
  rw [hdrop] at hrun
  refine ⟨b8, o8, ha, by omega, hlt, _, _, _, _, _, _, _, ⟨hc8 0 _ rfl, hc8 1 _ rfl, hc8 2 _ rfl, hc8 3 _ rfl, hc8 4 _ rfl, trivial⟩, fun b10 => ?_⟩
  have hDo := cDo (c := cx) (hL0.ext eH) hwy hpx
  rw [show wDo y x = wHap y x from by unfold wDo; rw [if_neg (by rw [wldErr_zero.2 hRy]; simp)]] at hDo
  cases hh : wHap y x with
  | error e =>
   rw [hh] at hDo
   rw [wRun_err hh] at hrun
   exact hDo.wldE fun p1 H1 e1 hN1 hw1 => fun b13 => ⟨fun h0 => absurd h0 (wHap_err hh), fun _ => fun r hr => ⟨rfl, N - (i + 1), by omega, d, i + 1, y, q, L, A, by rw [nxt hr], rfl, by omega, hwy.ext e1, hS, hrun, Ext.trans eH e1⟩⟩
  | ok z =>
   have hDo' : Spec Tryz.prog 27 [wldArg y q, hapArg x ax lx cx] H' fun v H'' => ∃ p', v = .tuple #[wldArg z p', i64 0]/\ WldAt H'' z p' := by rw [hh] at hDo; exact hDo
   rw [wRun_ok hh] at hrun
   obtain ⟨L', A', hS'⟩ := hS.hap hh
   refine hDo'.wldE fun p1 H1 e1 hN1 hw1 => fun b13 => ⟨fun _ => ?_, fun h0 => absurd rfl h0⟩
   refine (cAll ((hL0.ext eH).ext e1) hw1 hS'.logs).mono fun v H3 e3 hv => ?_
   obtain ⟨la, ll, lc, ka, kl, kc, xa, xn, xc, rfl, hLd, hA⟩ := hv
   refine ⟨_, _, _, _, _, _, _, _, _, _, _, _, _, _, rfl, fun hN3 => fun b18 => ⟨False, ⟨fun h => (by cases h), fun _ => (hok (Ext.trans e0 (Ext.trans eH (Ext.trans e1 e3))) hS' hLd hA).bool1 fun H4 e4 hN4 => ⟨rfl, e4, by simp⟩⟩, fun h => h.elim, fun _ => fun r hr => ⟨rfl, N - (i + 1), by omega, d, i + 1, z, p1, L', A', by rw [nxt hr], rfl, by omega, hw1.ext e3, hS', hrun, Ext.trans eH (Ext.trans e1 e3)⟩⟩⟩
 ·have hip : i = N := by have := hge; rw [Int.toNat_natCast] at this; omega
  refine (cLogs (hL0.ext eH) hwy hS.logs).bool1 fun H1 e1 hN1 => ⟨q, y, rfl, hwy.ext e1, ?_⟩
  rw [if_pos h]
  rw [List.drop_eq_nil_of_le (by rw [List.length_take]; omega)] at hrun
  unfold playW
  rw [← hN90, hrun]
  rfl
open Go Go.Proofs
theorem notFine_iff {L : Ldr} {A : List Agt} {i : Nat} {a : Agt} {b : Kn} (ha : A[i]? = some a) (hb : L.ags[i]? = some b) : notFine L A i = true ↔ (a.going = true ∨ a.at_ = L.goal)/\ b.st ≠ 2 := by
 unfold notFine
 rw [ha, hb]
 exact decide_eq_true_iff
theorem cIll50 {H : Heap} {c : Conf} {w : Wld} {L : Ldr} {A : List Agt} {la ka xa : O} {ll lc kl kc xn xc q r : Nat} {most : Int} (hq : H.cell q 4 = some (.int .i64 c.bud)) (hr : H.cell r 0 = some (.int .i64 most)) (hm : ∀ w ∈ c.waves, (w.length : Int) <= most) (h0 : 0 <= most) (h1 : most <= 1000)
  (hS : Sto c w L A) (hLd : LdrAt H L la ll ka kl) (hA : Sl RAgt 7 H xa xn A) :
  Spec Tryz.prog 50 [ldrArg L la ll lc ka kl kc, .slice xa xn xc, .pointer (some ⟨q, 0, none⟩), .pointer (some ⟨r, 0, none⟩)] H fun v _ => v = .bool true := by
 refine TryzvcK Tryz.func50 (by kernel_rfl) (by kernel_rfl) _ rfl (fun base K => vk50 L.now L.goal L.nx L.back la ka ll lc kl kc xa xn xc q r base H K) fun base hb => fun b => ?_
 have hkl := hLd.ags.len
 have hkle := hLd.ags.le
 have hAl := hA.len
 have hAle := hA.le
 have hAA := hS.logs.ags.2
 have hal := hS.logs.alen
 refine ⟨L.goal = 0 ∨ L.back = true, ⟨fun h => ⟨rfl, subH, .inl h⟩, fun h => ⟨rfl, subH, ⟨fun hh => hh.resolve_left h, .inr⟩⟩⟩, fun hφ => rfl, fun hφ => ?_⟩
 have hg : L.goal ≠ 0 := fun h => hφ (.inl h)
 have hbk : L.back = false := by cases h : L.back with
  | false => rfl
  | true => exact absurd (.inr h) hφ
 have hill := story_ill hS.inv hg hbk hm h0
 have hbd : 0 <= c.bud/\ c.bud <= 3 := by
  have := cfgErr_zero hS.right.cfg
  rw [hS.cfg] at this; exact ⟨this.2.2.1, this.2.2.2.1⟩
 refine ⟨fun m vs H' => ∃ (i : Nat), vs = [i64 ((List.range i).countP (notFine L A) : Nat), i64 i]/\ m = xn - i/\ i <= xn/\ Ext H H', xn, ⟨0, rfl, rfl, by omega, Ext.refl _⟩, fun m n1 n H' hN' hI => ?_⟩
 obtain ⟨i, hvs, rfl, hi, eH⟩ := hI
 obtain ⟨rfl, rfl⟩ : n1 = ((List.range i).countP (notFine L A) : Nat)/\ n = (i : Int) := by simpa using hvs
 have hcnt : (List.range i).countP (notFine L A) <= i := by have := List.countP_le_length (p := notFine L A) (l := List.range i); rw [List.length_range] at this; exact this
 refine ⟨fun hlt => ?_, fun hge => ?_⟩
 ·have nxt : ∀ {r : Int}, r = IntKind.wrap .i64 ((i : Int) + 1)->r = ((i + 1 : Nat) : Int) := fun hr => by rw [hr, wrap_in (by omega) (by omega)]; rfl
  have hstep : (List.range (i + 1)).countP (notFine L A) = (List.range i).countP (notFine L A) + if notFine L A i = true then 1 else 0 := by
   rw [List.range_succ, List.countP_append, List.countP_singleton]
  obtain ⟨b7, o7, r7, x7, ha7, hx7, ⟨ya, yn, yc, za, zn, zc, rfl, hp7, hq7⟩, hc7⟩ := (Sl.ext ragt_mono hA eH).get (k := (i : Int)) (by omega) hlt
  obtain ⟨b6, o6, r6, x6, ha6, hx6, hr6, hc6⟩ := (hLd.ext eH).ags.get (k := (i : Int)) (by omega) (by omega)
  obtain rfl := hr6
  rw [Int.toNat_natCast] at hx7 hx6
  have hnf := notFine_iff hx7 hx6
  refine ⟨b7, o7, ha7, by omega, hlt, _, _, _, _, _, _, _, _, _, _, _, ⟨hc7 0 _ rfl, hc7 1 _ rfl, hc7 2 _ rfl, hc7 3 _ rfl, hc7 4 _ rfl, hc7 5 _ rfl, hc7 6 _ rfl, trivial⟩, fun b8 => ?_⟩
  refine ⟨notFine L A i = true, ⟨fun hgo => ⟨b6, o6, ha6, by omega, by omega, _, hc6 0 _ rfl, rfl, subH, ⟨fun h => (hnf.1 h).2, fun h => hnf.2 ⟨.inl hgo, h⟩⟩⟩, fun hgo => ⟨fun hat => ⟨b6, o6, ha6, by omega, by omega, _, hc6 0 _ rfl, rfl, subH, ⟨fun h => (hnf.1 h).2, fun h => hnf.2 ⟨.inr hat, h⟩⟩⟩, fun hat => ⟨rfl, subH, fun h => ((hnf.1 h).1.elim (fun h => by rw [hgo] at h; cases h) hat)⟩⟩⟩, fun hφ => fun r2 hr2 => fun r3 hr3 => ⟨rfl, xn - (i + 1), by omega, i + 1, ?_, rfl, by omega, eH⟩, fun hφ => fun r2 hr2 => ⟨rfl, xn - (i + 1), by omega, i + 1, ?_, rfl, by omega, eH⟩⟩
  ·rw [hstep, if_pos hφ, nxt hr3, hr2, wrap_in (by omega) (by omega)]; rfl
  ·rw [hstep, if_neg hφ, nxt hr2]; rfl
 ·have hix : i = xn := by omega
  refine ⟨_, Heap.cell_next eH hq, _, Heap.cell_next eH hr, fun r2 hr2 => ?_⟩
  show Value.bool _ = Value.bool _
  congr 1
  refine decide_eq_true ?_
  rw [hr2, wrap_in (by omega) (by omega), hix, ← hAl]
  exact hill
theorem cStoryIll {H : Heap} (hL : Lb H) {c : Conf} {fa ra wa : O} {fl fc rl rc wl wc : Nat} (hc : CfgAt H c fa fl ra rl wa wl) (hwc : wl <= wc) {l : List Hap} {a : O} {n cc : Nat} (hx : Haps H a n l) (hcap : n <= cc) :
  Spec Tryz.prog 13 [cfgArg c fa fl fc ra rl rc wa wl wc, .slice a n cc] H fun v _ => v = .bool true := by
 refine TryzvcK Tryz.func13 (by kernel_rfl) (by kernel_rfl) _ rfl (fun base K => vk13 c.first.id c.bud fa ra wa fl fc rl rc wl wc a n cc base H K) fun base hb => fun b b1 => ?_
 have hwl := hc.waves.len
 have hwle := hc.waves.le
 generalize hNN : (if 20 < (wl : Int) then (20 : Int) else (wl : Int)) = NN
 have hNb : 0 <= NN/\ NN <= (wl : Int) := by rw [← hNN]; split <;> omega
 have hN20 : wl <= 20->NN = wl := fun h => by rw [← hNN, if_neg (by omega)]
 obtain ⟨N, rfl⟩ : ∃ N : Nat, NN = N := ⟨NN.toNat, by omega⟩
 refine ⟨by omega, by omega, fun m vs H' => ∃ (i : Nat) (z : Int), vs = [i64 i, .agg #[i64 z]]/\ m = N - i/\ i <= N/\ 0 <= z/\ (∀ x ∈ c.waves.take i, (x.length : Int) <= z)/\ (z = 0 ∨ ∃ x ∈ c.waves, z = x.length)/\ Ext H H', N, ⟨0, 0, rfl, rfl, by omega, by omega, by simp, .inl rfl, Ext.refl _⟩, fun m n1 z1 H' hN' hI => ?_⟩
 obtain ⟨i, z, hvs, rfl, hi, hz0, hz1, hz2, eH⟩ := hI
 obtain ⟨rfl, rfl⟩ : n1 = (i : Int)/\ z1 = z := by simpa using hvs
 refine ⟨fun hlt => ?_, fun hge => ⟨rfl, fun Hl hl hk => ?_⟩⟩
 ·have hin : i < N := by have := hlt; rw [Int.toNat_natCast] at this; omega
  obtain ⟨b7, o7, r7, x7, ha7, hx7, ⟨ya, yn, yc, rfl, hS7⟩, hc7⟩ := ((hc.ext eH).waves).get (k := (i : Int)) (by omega) (by omega)
  rw [Int.toNat_natCast] at hx7
  have hyl := hS7.len
  refine ⟨b7, o7, ha7, by omega, hlt, _, _, _, hc7 0 _ rfl, fun r2 hr2 => ⟨rfl, N - (i + 1), by omega, i + 1, (if (yn : Int) > z1 then (yn : Int) else z1), ?_, rfl, by omega, by split <;> omega, fun x hx => ?_, ?_, eH⟩⟩
  ·rw [hr2, wrap_in (by omega) (by omega)]; rfl
  ·rw [take_at hx7, List.mem_append] at hx
   rcases hx with hx | hx
   ·have := hz1 x hx
    split <;> omega
   ·simp only [List.mem_singleton] at hx
    subst hx
    split <;> omega
  ·split
   ·exact .inr ⟨x7, List.mem_of_getElem? hx7, by omega⟩
   ·exact hz2
 ·have hip : i = N := by have := hge; rw [Int.toNat_natCast] at this; omega
  obtain ⟨k1, k2, _⟩ := hk
  have hq : Hl.cell b 4 = some (.int .i64 c.bud) := by unfold Heap.cell; rw [k1]; rfl
  have hr : Hl.cell b1 0 = some (.int .i64 z1) := by unfold Heap.cell; rw [k2]; rfl
  have eL := Ext.trans eH hl.ext
  refine (cPlayedc (q := b) (r := b1) (hL.ext eL) (hc.ext eL) (Sl.ext RHap.mono hx eL) hcap fun e hS hLd hA => ?_).mono fun v H1 e1 hv => ?_
  ·have hcf : cfgErr c = 0 := by have := hS.right.cfg; rw [hS.cfg] at this; exact this
   obtain ⟨s1, s2⟩ := waves_small (cfgErr_zero hcf).2.2.2.2.2.2
   have hNw : N = c.waves.length := by have := hN20 (by omega); omega
   refine cIll50 (Heap.cell_next e hq) (Heap.cell_next e hr) (fun x hx => hz1 x ?_) hz0 ?_ hS hLd hA
   ·rw [hip, hNw, List.take_length]; exact hx
   ·rcases hz2 with h | ⟨x, hx, h⟩
    ·omega
    ·have := s2 x hx; omega
  ·obtain ⟨p, w, rfl, hw, hwe⟩ := hv
   refine ⟨_, _, _, _, _, _, _, _, _, _, _, _, _, _, _, _, _, _, _, _, _, _, _, _, _, _, _, _, _, _, _, _, _, _, _, rfl, fun H2 hN2 hkeep => fun b4 => ⟨True, (cTold ((hL.ext eH).ext hN2.ext)).bool1 fun H3 e3 hN3 => ⟨fun _ => ⟨rfl, e3, by simp⟩, fun h => (by cases h)⟩, true_bool⟩⟩
open Go Go.Proofs
open Go.ChangeShapes Go.WideShapes Go.ChangeAt Go.RowKit
section
variable {HH : Type} {enc : TypeId × Value->HH} {w : World} {base : Nat} {spare : Nat->Bool} {held : Bool}
def RConfC : Rep Conf := fun H r x => ∃ fa fl fc ra rl rc wa wl wc, r = [i64 x.first.id, .slice fa fl fc, .slice ra rl rc, .slice wa wl wc, i64 x.bud]/\ CfgAt H x fa fl ra rl wa wl/\ wl <= wc
theorem reads_confC : ReadsAs enc Tryz.prog w base spare held 28 RConfC := fun fuel cs x h => by
 have c3 : Tryz.prog.cellsOf 3 = 1 := by kernel_rfl
 have c41 : Tryz.prog.cellsOf 25 = 1 := by kernel_rfl
 have c27 : Tryz.prog.cellsOf 26 = 1 := by kernel_rfl
 have c59 : Tryz.prog.cellsOf 24 = 2 := by kernel_rfl
 have c101 : Tryz.prog.cellsOf 28 = 5 := by kernel_rfl
 have hl := structLen Tryz.underlying28 h
 rw [c101] at hl
 obtain ⟨r, fa, fl, fc, h0, hp⟩ := fieldStruct Tryz.underlying28 h (i := 0) rfl reads_rel c59 rfl
 obtain ⟨ra, rl, rc, rs, h1, hr⟩ := fieldSl Tryz.underlying28 h (i := 1) rfl reads_rules c41 rfl
 obtain ⟨wa, wl, wc, ws, h2, hw, hle⟩ := fieldSlC Tryz.underlying28 h (i := 2) rfl (reads_sliceC Tryz.underlying26 reads_waves) c27 rfl
 obtain ⟨bd, h3, _⟩ := fieldInt Tryz.underlying28 h (i := 3) rfl Tryz.underlying3 c3 rfl
 refine ⟨⟨r, rs, ws, bd⟩, fa, fl, fc, ra, rl, rc, wa, wl, wc, ?_, ⟨hp, hr, hw⟩, hle⟩
 match cs, hl with
 | [x0, x1, x2, x3, x4], _ =>
  simp at h0 h1 h2 h3
  obtain ⟨rfl, rfl⟩ := h0
  subst h1 h2 h3
  rfl
end
end Go.Vg
