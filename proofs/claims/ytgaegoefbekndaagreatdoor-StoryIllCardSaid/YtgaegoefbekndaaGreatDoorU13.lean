/- What is proved here: a part of the proof of laws of this seat: what a contract is, how it comes of a condition, contracts of the functions that are reached, the plain laws. -/
import Derived.Test.YtgaegoefbekndaaGreatDoorU12
import Derived.Test.YtgaegoefbekndaaGreatDoorCards
import Derived.Test.YtgaegoefbekndaaGreatDoorTie
import Derived.Deep.DeepHandedRow
import Derived.JoinedCond
import Derived.Lay
import Derived.MakeChecks
import Derived.SevenTiedAt
import Derived.Stop.LaidErr
set_option linter.unusedSimpArgs false
set_option linter.unusedVariables false
set_option maxRecDepth 100000
namespace Go.Vg
open Go Go.Proofs
def newW (c : Conf) : Wld := if cfgErr c = 0 then freshWld c else noWld
theorem conf_sizes {c : Conf} (h : cfgErr c = 0) : (c.first.lock.length <= 100000/\ c.rules.length <= 100000/\ c.waves.length <= 100000/\ ∀ x ∈ c.waves, x.length <= 100000)/\ 1 <= agentsOf c.waves/\ agentsOf c.waves <= 6 := by
 obtain ⟨c1, c2, c3, c4, c5, c6, c7⟩ := cfgErr_zero h
 obtain ⟨b1, b2, b3⟩ := brokenErr_zero.1 c5
 obtain ⟨w1, w2⟩ := waves_small c7
 have w3 := (waveCheck_zero c7)
 have r := relErr_zero c1
 refine ⟨⟨by omega, by omega, by omega, fun x hx => by have := w2 x hx; omega⟩, w3.1, w3.2.1⟩
theorem cNewW {H : Heap} {c : Conf} {fa ra wa : O} {fl fc rl rc wl wc : Nat} (hc : CfgAt H c fa fl ra rl wa wl) :
  Spec Tryz.prog 26 [cfgArg c fa fl fc ra rl rc wa wl wc] H fun v H' => ∃ p', v = .tuple #[wldArg (newW c) p', i64 (cfgErr c)]/\ WldAt H' (newW c) p' := by
 refine TryzvcK Tryz.func26 (by kernel_rfl) (by kernel_rfl) _ rfl (fun base K => vk26 c.first.id c.bud fa ra wa fl fc rl rc wl wc base H K) fun base hb => fun b b' => ?_
 have hNL := cNewL (fc := fc) (rc := rc) (wc := wc) hc
 by_cases h : cfgErr c = 0
 case neg =>
  have hE : newW c = noWld := by unfold newW; rw [if_neg h]
  rw [hE]
  refine hNL.ldr fun la ll lc ka kl kc H1 e1 hN1 hA => fun b1 => ⟨fun h => ?_, fun h2 => absurd h h2⟩
  exact ⟨noWA, rfl, WldAt.zero⟩
 case pos =>
  have hE : newW c = freshWld c := by unfold newW; rw [if_pos h]
  rw [hE, h]
  rw [if_pos h, h] at hNL
  refine hNL.ldr fun la ll lc ka kl kc H1 e1 hN1 hA => fun b1 => ⟨fun h2 => absurd rfl h2, fun _ => ?_⟩
  obtain ⟨⟨s1, s2, s3, s4⟩, g1, g2⟩ := conf_sizes h
  refine ⟨?_, fun b2 => ?_⟩
  all_goals
   refine Spec.cfg1 (cConfigC (hc.ext e1) (by rw [← hc.pins.len]; exact s1) (by rw [← hc.rules.len]; exact s2) (by rw [← hc.waves.len]; exact s3) s4) fun fa' fl' fc' ra' rl' rc' wa' wl' wc' H2 e2 hN2 hC => ?_
   first
    | refine fun (b3 : Nat) => (cAgents ((hc.ext e1).ext e2)).int1 fun H3 e3 hN3 => ?_
    | refine (cAgents ((hc.ext e1).ext e2)).int1 fun H3 e3 hN3 => ?_
   have hq : relErr c.first = 0 := (cfgErr_zero h).1
   obtain ⟨N, hNn⟩ : ∃ N : Nat, N = (agentsOf c.waves).toNat := ⟨_, rfl⟩
   have hP : Parts H3 ⟨c, ⟨newLdr c, dsk0, true⟩, [], []⟩ ⟨fa', fl', fc', ra', rl', rc', wa', wl', wc', la, ll, lc, ka, kl, kc, none, 0, 0, none, 0, 0, none, 0, 0, none, 0, 0⟩ := ⟨hC.ext e3, (hA.ext e2).ext e3, DskAt.zero, Sl.nil⟩
   refine ⟨fun m vs H' => ∃ (k : Nat) (a : O) (ca : Nat) (rows : List (List Value)) (G : Heap), vs = [.int .i64 k, wldArg ⟨c, ⟨newLdr c, dsk0, true⟩, List.replicate k (freshNod c.first), []⟩ ⟨fa', fl', fc', ra', rl', rc', wa', wl', wc', la, ll, lc, ka, kl, kc, none, 0, 0, none, 0, 0, a, k, ca, none, 0, 0⟩]/\ m = N - k/\ k <= N/\ OwnSl RNod 10 58 base G H' a k ca rows (List.replicate k (freshNod c.first))/\ Ext H3 G, N, ⟨0, none, 0, [], H3, rfl, rfl, by omega, OwnSl.zero (Ext.refl _), Ext.refl _⟩, ?_⟩
   intro m n12 n13 a9 n14 c5 a10 n15 c6 a11 n16 c7 n17 a12 n18 c8 n19 n20 b3 a13 n21 c9 n22 a14 n23 c10 a15 n24 c11 b4 a16 n25 c12 a17 n26 c13 H' hNx hI
   obtain ⟨k, a, ca, rows, G, hvs, rfl, hkN, hO, eG⟩ := hI
   simp only [List.cons.injEq, Value.slice.injEq, Value.int.injEq, true_and, Value.agg.injEq, Array.mk.injEq, Value.bool.injEq, and_true] at hvs
   obtain ⟨rfl, rfl, ⟨rfl, rfl, rfl⟩, ⟨rfl, rfl, rfl⟩, ⟨rfl, rfl, rfl⟩, rfl, ⟨rfl, rfl, rfl⟩, rfl, rfl, rfl, ⟨rfl, rfl, rfl⟩, rfl, ⟨rfl, rfl, rfl⟩, ⟨rfl, rfl, rfl⟩, rfl, ⟨rfl, rfl, rfl⟩, rfl, rfl, rfl⟩ := hvs
   obtain ⟨k, hk⟩ : ∃ k, k = n25 := ⟨_, rfl⟩
   subst hk
   refine ⟨fun hlt => ?_, fun hge => ?_⟩
   ·have hpG : Pins G fa fl c.first.lock := (((hc.pins.ext' e1).ext' e2).ext' e3).ext' eG
    have hcN := cNew (c := fc) (r := c.first) hpG
    rw [if_pos hq, hq] at hcN
    refine (hcN.grown hO.sub).mono fun v H4 e4 hv => ?_
    obtain ⟨G1, g1, xa, xl, xc, ga, gl, gc, rfl, q1, q2⟩ := hv
    have hO' := hO.grown RNod.mono g1
    refine ⟨_, _, _, _, _, _, _, _, _, _, _, _, rfl, fun hN4 => fun b7 b8 => ⟨rows.flatten, hO'.row, by omega, by omega, fun a' c' H5 hg hr r hrr => ⟨rfl, N - (k + 1), by omega, k + 1, a', c', rows ++ [nodCells (freshNod c.first) ⟨xa, xl, xc, ga, gl, gc, none, 0, 0, none, 0, 0⟩], G1, ?_, rfl, by omega, ?_, Ext.trans eG g1.ext⟩⟩⟩
    ·rw [hrr, wrap_small (by omega) (by omega)]; rfl
    ·have hrep : List.replicate (k + 1) (freshNod c.first) = List.replicate k (freshNod c.first) ++ [freshNod c.first] := List.replicate_succ'
     rw [hrep]
     refine hO'.grew hg (rows' := [nodCells (freshNod c.first) ⟨xa, xl, xc, ga, gl, gc, none, 0, 0, none, 0, 0⟩]) (ys := [freshNod c.first]) (by rw [List.flatten_singleton]; exact hr) (by simp) ⟨⟨_, rfl, q1, q2, DskAt.zero⟩, trivial⟩
   ·have hkk : k = N := by omega
    subst hkk
    have hP' := (hP.ext eG).ext hO.sub
    refine ⟨⟨a9, n14, c5, a10, n15, c6, a11, n16, c7, a12, n18, c8, a13, n21, c9, none, 0, 0, none, 0, 0, a16, _, c12, none, 0, 0⟩, rfl, ⟨hP'.cfg, hP'.ldr, hP'.dsk, ?_, hP'.mail⟩⟩
    show Nods H' _ _ (List.replicate (agentsOf c.waves).toNat (freshNod c.first))
    rw [← hNn]
    exact hO.sl RNod.mono (by omega)
def errIdx (f : Int->Bool) : Int->List Int->Int
 | _, [] => -1
 | i, x :: r => if f x = true then i else errIdx f (i + 1) r
theorem errIdx_any (f : Int->Bool) : ∀ (l : List Int) (i : Int), 0 <= i->(0 <= errIdx f i l ↔ l.any f = true)
 | [], i, _ => by simp [errIdx]
 | x :: r, i, h => by
  unfold errIdx
  split
  ·rename_i e; simp [h, e]
  ·rename_i e; rw [errIdx_any f r (i + 1) (by omega)]; simp [e]
theorem cNon {H : Heap} (e : Int) : Spec Tryz.prog 74 [.int .i64 e] H fun v _ => v = .bool (decide (¬e = 0)) := by
 refine TryzvcK Tryz.func74 (by kernel_rfl) (by kernel_rfl) _ rfl (fun base K => vk74 e base H K) fun base hb => ?_
 rfl
theorem drop_errs {xs : List Int} {k : Nat} {x : Int} (h : xs[k]? = some x) : xs.drop k = x :: xs.drop (k + 1) := by
 obtain ⟨hk, h⟩ := List.getElem?_eq_some_iff.1 h
 rw [List.drop_eq_getElem_cons hk, h]
theorem cAnyNon {H : Heap} {a : O} {l c : Nat} {xs : List Int} (hx : Sl RInt 1 H a l xs) : Spec Tryz.prog 73 [.slice a l c, .func (.func 74) #[] #[]] H fun v _ => v = .bool (xs.any fun e => decide (¬e = 0)) := by
 have h98 : Spec Tryz.prog 98 [.slice a l c, .func (.func 74) #[] #[]] H fun v _ => v = i64 (errIdx (fun e => decide (¬e = 0)) 0 xs) := by
  refine TryzvcK Tryz.func98 (by kernel_rfl) (by kernel_rfl) _ rfl (fun base K => vk98a a l c base H K) fun base hb => ?_
  have hl := hx.len
  have hle := hx.le
  refine ⟨fun m vs _ => ∃ (d : Int) (k : Nat), vs = [i64 d, i64 k]/\ m = l - k/\ k <= l/\ errIdx (fun e => decide (¬e = 0)) k (xs.drop k) = errIdx (fun e => decide (¬e = 0)) 0 xs, l, ⟨0, 0, rfl, rfl, by omega, rfl⟩, fun m d n H' hN hI => ?_⟩
  obtain ⟨d', k, hvs, rfl, hk, hI⟩ := hI
  obtain ⟨rfl, rfl⟩ : d = d'/\ n = (k : Int) := by simpa using hvs
  refine ⟨fun hlt => ?_, fun hge => ?_⟩
  ·obtain ⟨b, o, r, x, ha, hxk, hr, hcell⟩ := hx.get (k := (k : Int)) (by omega) hlt
   obtain rfl := hr
   refine ⟨b, o, ha, by omega, hlt, _, Heap.cell_next hN.ext (hcell 0 _ rfl), ?_⟩
   have hx2 : xs[k]? = some x := by simpa using hxk
   have hdr := drop_errs hx2
   rw [hdr, errIdx] at hI
   refine (cNon x).bool1 fun H2 e2 _ => ⟨fun he => ?_, fun he => fun r hr => ⟨l - (k + 1), by omega, d, k + 1, ?_, rfl, by omega, ?_⟩⟩
   ·rw [if_pos he] at hI
    rw [hI]
   ·rw [hr, wrap_in (by omega) (by omega)]; rfl
   ·rw [if_neg (by rw [he]; simp)] at hI
    exact hI
  ·have hkk : k = l := by omega
   rw [List.drop_eq_nil_of_le (by omega)] at hI
   rw [← hI]; rfl
 refine TryzvcK Tryz.func73 (by kernel_rfl) (by kernel_rfl) _ rfl (fun base K => vk73a a l c base H K) fun base hb => ?_
 refine h98.int1 fun H1 e1 hN1 => ?_
 have := errIdx_any (fun e => decide (¬e = 0)) xs 0 (by omega)
 show Value.bool _ = Value.bool _
 congr 1
 cases hq : (xs.any fun e => decide (¬e = 0)) with
 | true => exact decide_eq_true (this.2 hq)
 | false => exact decide_eq_false fun h0 => by rw [this.1 h0] at hq; cases hq
open Go Go.Proofs
theorem true_bool : Value.bool (@decide True (Classical.propDecidable True)) = .bool true := by simp
theorem Spec.wldE {P : Program} {f : FuncId} {args : List Value} {H : Heap} {w : Wld} {e : Int} (h : Spec P f args H fun v H' => ∃ p, v = .tuple #[wldArg w p, i64 e]/\ WldAt H' w p) {base : Nat}
  {G : Int->O->Nat->Nat->O->Nat->Nat->O->Nat->Nat->Int->O->Nat->Nat->Int->Int->Bool->O->Nat->Nat->Int->O->Nat->Nat->O->Nat->Nat->Bool->O->Nat->Nat->O->Nat->Nat->Int->Heap->Prop} (hG : ∀ (p : WA)  H', Ext H H'->Vg.Next base H H'->WldAt H' w p->G w.c.first.id p.fa p.fl p.fc p.ra p.rl p.rc p.wa p.wl p.wc w.c.bud p.la p.ll p.lc w.h.l.now w.h.l.goal w.h.l.back p.ka p.kl p.kc w.h.l.nx p.sa p.sl p.sc p.ta p.tl p.tc w.h.up p.na p.nl p.nc p.ma p.ml p.mc e H') :
  Spec P f args H fun v H' => ∃ (n1 : Int) (a2 : O) (l2 c2 : Nat) (a3 : O) (l3 c3 : Nat) (a4 : O) (l4 c4 : Nat) (n5 : Int) (a6 : O) (l6 c6 : Nat) (n7 : Int) (n8 : Int) (b9 : Bool) (a10 : O) (l10 c10 : Nat) (n11 : Int) (a12 : O) (l12 c12 : Nat) (a13 : O) (l13 c13 : Nat) (b14 : Bool) (a15 : O) (l15 c15 : Nat) (a16 : O) (l16 c16 : Nat) (e1 : Int), v = .tuple #[.agg #[.int .i64 n1, .slice a2 l2 c2, .slice a3 l3 c3, .slice a4 l4 c4, .int .i64 n5, .slice a6 l6 c6, .int .i64 n7, .int .i64 n8, .bool b9, .slice a10 l10 c10, .int .i64 n11, .slice a12 l12 c12, .slice a13 l13 c13, .bool b14, .slice a15 l15 c15, .slice a16 l16 c16], .int .i64 e1]/\ (Vg.Next base H H'->G n1 a2 l2 c2 a3 l3 c3 a4 l4 c4 n5 a6 l6 c6 n7 n8 b9 a10 l10 c10 n11 a12 l12 c12 a13 l13 c13 b14 a15 l15 c15 a16 l16 c16 e1 H') :=
 h.mono fun v H' ex hv => by
  obtain ⟨p, rfl, h1⟩ := hv
  exact ⟨_, _, _, _, _, _, _, _, _, _, _, _, _, _, _, _, _, _, _, _, _, _, _, _, _, _, _, _, _, _, _, _, _, _, _, rfl, fun hN => hG p  H' ex hN h1⟩
open Go Go.Proofs
theorem ragt_mono : RAgt.Mono := fun H H' r x e h => by
 obtain ⟨a, n, c, ga, gn, gc, rfl, h1, h2⟩ := h
 exact ⟨a, n, c, ga, gn, gc, rfl, h1.ext' e, h2.ext' e⟩
theorem Logs.sto {w : Wld} {L : Ldr} {A : List Agt} (h : Logs w L A) : stoL w = .ok L/\ ∀ (k : Nat) (a : Agt), A[k]? = some a->stoA w k = .ok a := by
 have h0 := h.ok
 refine ⟨by unfold stoL; rw [if_neg (by omega)]; exact h.hl, fun k a ha => ?_⟩
 have hk := (List.getElem?_eq_some_iff.1 ha).1
 have hl := h.alen
 obtain ⟨n, hn⟩ : ∃ n, w.n[k]? = some n := ⟨_, List.getElem?_eq_getElem (by omega)⟩
 unfold stoA
 rw [if_neg (by omega), if_neg (by omega), Int.toNat_natCast, hn]
 exact (h.nd k n a hn ha).2.1
theorem right_n {H : Heap} {w : Wld} {p : WA} (hw : WldAt H w p) (hR : WRight w) : (p.nl : Int) <= 6 := by
 have h1 := hw.nod.len
 have h2 := hR.len
 have h3 := (waveCheck_zero (cfgErr_zero hR.cfg).2.2.2.2.2.2).2.1
 omega
theorem cAll {H : Heap} (hL : Lb H) {w : Wld} {p : WA} (hw : WldAt H w p) {L : Ldr} {A : List Agt} (hg : Logs w L A) :
  Spec Tryz.prog 133 [wldArg w p] H fun v H' => ∃ la ll lc ka kl kc xa xn xc, v = .tuple #[ldrArg L la ll lc ka kl kc, .slice xa xn xc, .bool true]/\ LdrAt H' L la ll ka kl/\ Sl RAgt 7 H' xa xn A := by
 refine TryzvcN Tryz.func133 (by kernel_rfl) (by kernel_rfl) _ rfl (fun base K => vk133 w.c.first.id w.c.bud p.fa p.ra p.wa p.fl p.fc p.rl p.rc p.wl p.wc w.h.l.now w.h.l.goal w.h.l.nx w.h.l.back p.la p.ka p.ll p.lc p.kl p.kc p.sa p.ta p.sl p.sc p.tl p.tc w.h.up p.na p.ma p.nl p.nc p.ml p.mc base H K) fun base hb => fun b b1 => ?_
 have hR := wldErr_zero.1 hg.ok
 refine (cRecover hL hw.dsk).mono fun v H1 e1 hv => ?_
 obtain ⟨a1, n1, c1, a2, n2, c2, a3, n3, c3, G0, rows0, rfl, hD, hS⟩ := hv
 refine ⟨_, _, _, _, _, _, _, _, _, _, rfl, fun hN1 => fun b2 => ?_⟩
 have hz := (wldErr_disks hg.ok).1
 have hRs := hS.sl RRec.mono (by omega) hN1
 rw [if_pos hz] at hRs
 rw [hz]
 have hrep := cReplayL (fc := p.fc) (rc := p.rc) (wc := p.wc) (k := c3) (hw.cfg.ext e1) hRs
 rw [hg.hl] at hrep
 refine hrep.ldr fun la ll lc ka kl kc H2 e2 hN2 hLd => fun b4 => ?_
 have hL2 := (hL.ext e1).ext e2
 have hw2 := (hw.ext e1).ext e2
 have hnl := hw.nod.len
 have hal := hg.alen
 have h6 := right_n hw hR
 refine ⟨fun m vs H' => ∃ (d : Bool) (xa : O) (i xc : Nat) (rows : List (List Value)) (G : Heap), vs = [.slice none 0 0, .bool d, .slice xa i xc, .int .i64 i, .agg #[.slice none 0 0, .int .i64 0, .int .i64 0, .bool false, .slice none 0 0, .int .i64 0]]/\ m = p.nl - i/\ i <= p.nl/\ OwnSl RAgt 7 46 base G H' xa i xc rows (A.take i)/\ Ext H2 G, p.nl, ⟨false, none, 0, 0, [], H2, rfl, rfl, by omega, OwnSl.zero (Ext.refl _), Ext.refl _⟩, ?_⟩
 intro m a7 n10 c5 b5 a8 n11 c6 n12 a9 n13 c7 n14 n15 b6 a10 n16 c8 n17 H' hNx hI
 obtain ⟨d, xa, i, xc, rows, G, hvs, rfl, hi, hO, eG⟩ := hI
 simp only [List.cons.injEq, Value.slice.injEq, Value.int.injEq, true_and, Value.agg.injEq, Array.mk.injEq, Value.bool.injEq, and_true] at hvs
 obtain ⟨⟨rfl, rfl, rfl⟩, rfl, ⟨rfl, rfl, rfl⟩, rfl, ⟨rfl, rfl, rfl⟩, rfl, rfl, rfl, ⟨rfl, rfl, rfl⟩, rfl⟩ := hvs
 obtain ⟨i, hi2⟩ : ∃ i, i = n11 := ⟨_, rfl⟩
 subst hi2
 refine ⟨fun hlt => ?_, fun hge => ?_⟩
 ·have hin : i < p.nl := by omega
  obtain ⟨b7, o7, r7, x7, ha7, hx7, ⟨q7, rfl, hq7⟩, hc7⟩ := (hw2.ext eG).nod.get (k := (i : Int)) (by omega) hlt
  have c7' : ∀ j v, (nodCells x7 q7)[j]? = some v->H'.cell b7 (o7 + (i : Int).toNat * 10 + j) = some v := fun j v hj => Heap.cell_next hO.sub (hc7 j v hj)
  refine ⟨b7, o7, ha7, by omega, hlt, _, _, _, _, _, _, _, _, _, _, _, _, _, _, _, _, _, _, ⟨c7' 0 _ rfl, c7' 1 _ rfl, c7' 2 _ rfl, c7' 3 _ rfl, c7' 4 _ rfl, c7' 5 _ rfl, c7' 6 _ rfl, c7' 7 _ rfl, c7' 8 _ rfl, c7' 9 _ rfl, trivial⟩, fun b11 => ?_⟩
  rw [Int.toNat_natCast] at hx7
  obtain ⟨a, ha⟩ : ∃ a, A[i]? = some a := ⟨_, List.getElem?_eq_getElem (by omega)⟩
  obtain ⟨f1, f2, f3⟩ := hg.nd i x7 a hx7 ha
  have hz1 := (wldErr_disks hg.ok).2 i x7 hx7
  refine ((cRecover (hL2.ext eG) hq7.dsk).grown hO.sub).mono fun v H3 e3 hv => ?_
  obtain ⟨G1, g1, y1, m1, k1, y2, m2, k2, y3, m3, k3, Gx, rowsx, rfl, hD1, hS1⟩ := hv
  refine ⟨_, _, _, _, _, _, _, _, _, _, rfl, fun hN3 => fun b12 => ?_⟩
  have hN1' : Vg.Next base G G1 := ⟨g1.ext, fun z kz hz hn => hN3.fresh z kz (g1.sub z kz hz) (g1.away z kz hz hn)⟩
  have hR1 := hS1.sl RRec.mono (by omega) hN1'
  rw [if_pos hz1] at hR1
  rw [hz1]
  have hrp := cReplay (c := p.fc) (c' := k3) (((hw2.ext eG).ext g1.ext).cfg.pins) hR1
  rw [f2] at hrp
  refine (hrp.grown g1.sub).mono fun v H4 e4 hv => ?_
  obtain ⟨G2, g2, ya, yl, yc, za, zl, zc, rfl, hp, hq⟩ := hv
  refine ⟨_, _, _, _, _, _, _, _, _, _, _, _, rfl, fun hN4 => fun b15 => ⟨fun h => absurd rfl h, fun _ => ⟨fun h => absurd rfl h, fun _ => fun b16 => ?_⟩⟩⟩
  have hO' := hO.grown ragt_mono (g1.trans g2)
  refine ⟨rows.flatten, hO'.row, by omega, by omega, fun a' c' H5 hgr hr r hrr => ⟨rfl, p.nl - (i + 1), by omega, b5, a', i + 1, c', rows ++ [[.slice ya yl yc, i64 a.at_, i64 a.try_, .bool a.going, i64 a.goal.id, .slice za zl zc, .bool a.good]], G2, ?_, rfl, by omega, ?_, Ext.trans eG (g1.trans g2).ext⟩⟩
  ·rw [hrr, wrap_in (by omega) (by omega)]; rfl
  ·rw [take_at ha]
   exact hO'.grew hgr (rows' := [[.slice ya yl yc, i64 a.at_, i64 a.try_, .bool a.going, i64 a.goal.id, .slice za zl zc, .bool a.good]]) (ys := [a]) (by rw [List.flatten_singleton]; exact hr) (by simp) ⟨⟨_, _, _, _, _, _, rfl, hp, hq⟩, trivial⟩
 ·have hip : i = p.nl := by omega
  have hs := hO.sl ragt_mono (by omega)
  rw [List.take_of_length_le (by omega)] at hs
  exact ⟨fun _ => ⟨la, ll, lc, ka, kl, kc, a8, i, c6, rfl, (hLd.ext eG).ext hO.sub, hs⟩, fun h => absurd rfl h⟩
theorem cLogs {H : Heap} (hL : Lb H) {w : Wld} {p : WA} (hw : WldAt H w p) {L : Ldr} {A : List Agt} (hg : Logs w L A) : Spec Tryz.prog 134 [wldArg w p] H fun v _ => v = .bool true := by
 refine TryzvcK Tryz.func134 (by kernel_rfl) (by kernel_rfl) _ rfl (fun base K => vk134 w.c.first.id w.c.bud p.fa p.ra p.wa p.fl p.fc p.rl p.rc p.wl p.wc w.h.l.now w.h.l.goal w.h.l.nx w.h.l.back p.la p.ka p.ll p.lc p.kl p.kc p.sa p.ta p.sl p.sc p.tl p.tc w.h.up p.na p.ma p.nl p.nc p.ml p.mc base H K) fun base hb => fun b => ?_
 obtain ⟨st1, st2⟩ := hg.sto
 refine (cAll hL hw hg).mono fun v H1 e1 hv => ?_
 obtain ⟨la, ll, lc, ka, kl, kc, xa, xn, xc, rfl, hLd, hA⟩ := hv
 refine ⟨_, _, _, _, _, _, _, _, _, _, _, _, _, _, rfl, fun hN1 => fun b3 => ?_⟩
 have hSL := cStoryLeader (hL.ext e1) (hw.ext e1)
 rw [st1] at hSL
 refine hSL.ldr fun la2 ll2 lc2 ka2 kl2 kc2 H2 e2 hN2 hA2 => fun b5 => ?_
 refine ⟨False, ⟨fun h => (by cases h), fun _ => ⟨fun h => absurd rfl h, fun _ => (cLdrSame (hLd.ext e2) hA2).bool1 fun H3 e3 hN3 => ⟨rfl, e3, ⟨fun h => h.elim, fun h => ?_⟩⟩⟩⟩, fun h => h.elim, fun _ => ?_⟩
 ·exact of_decide_eq_false h rfl
 have hAl := hA.len
 have hAle := hA.le
 refine ⟨fun m vs H' => ∃ (d : Bool) (i : Nat), vs = [.bool d, i64 i]/\ m = xn - i/\ i <= xn/\ Ext H2 H', xn, ⟨false, 0, rfl, rfl, by omega, Ext.refl _⟩, fun m d n H' hN' hI => ?_⟩
 obtain ⟨d', i, hvs, rfl, hi, eH⟩ := hI
 obtain ⟨rfl, rfl⟩ : d = d'/\ n = (i : Int) := by simpa using hvs
 refine ⟨fun hlt => ?_, fun hge => rfl⟩
 obtain ⟨b7, o7, r7, x7, ha7, hx7, ⟨ya, yn, yc, za, zn, zc, rfl, hp7, hq7⟩, hc7⟩ := (Sl.ext ragt_mono (Sl.ext ragt_mono hA e2) eH).get (k := (i : Int)) (by omega) hlt
 refine ⟨b7, o7, ha7, by omega, hlt, _, _, _, _, _, _, _, _, _, _, _, ⟨hc7 0 _ rfl, hc7 1 _ rfl, hc7 2 _ rfl, hc7 3 _ rfl, hc7 4 _ rfl, hc7 5 _ rfl, hc7 6 _ rfl, trivial⟩, fun b10 => ?_⟩
 rw [Int.toNat_natCast] at hx7
 have hSA := cStoryAgent (((hL.ext e1).ext e2).ext eH) (((hw.ext e1).ext e2).ext eH) (i : Int)
 rw [st2 i x7 hx7] at hSA
 refine hSA.agt fun ua ul uc va vl vc H3 e3 hN3 hp hq => fun b13 => ⟨False, ⟨fun h => absurd rfl h, fun _ => (cAgtSame (hp7.ext' e3) (hq7.ext' e3) hp hq).bool1 fun H4 e4 hN4 => ⟨rfl, e4, ⟨fun h => h.elim, fun h => ?_⟩⟩⟩, fun h => h.elim, fun _ => fun r hr => ⟨rfl, xn - (i + 1), by omega, d, i + 1, ?_, rfl, by omega, Ext.trans eH e3⟩⟩
 ·exact of_decide_eq_false h rfl
 ·rw [hr, wrap_in (by omega) (by omega)]; rfl
open Go Go.Proofs
theorem rhap_mono : RHap.Mono := fun H H' r x e h => by
 obtain ⟨a, l, c, rfl, hp⟩ := h
 exact ⟨a, l, c, rfl, hp.ext' e⟩
theorem RHap.mono : RHap.Mono := rhap_mono
open Go Go.Proofs
theorem fresh_right {c : Conf} (h : cfgErr c = 0) : WRight (freshWld c) := by
 have hw := (waveCheck_zero (cfgErr_zero h).2.2.2.2.2.2)
 obtain ⟨e1, e2, e3, e4⟩ := DOk.nil.err
 have hlog : ∀ up, logOf dsk0 up = .ok [] := fun up => logOf_zero.2 ⟨e1, fun _ => e4, by rw [e2]; cases up <;> rfl⟩
 refine ⟨h, ?_, rfl, fun m hm => (by cases hm), hedErr_zero.1 ?_, fun n hn => nodErr_zero.1 ?_⟩
 ·show ((List.replicate (agentsOf c.waves).toNat (freshNod c.first)).length : Int) = agentsOf c.waves
  rw [List.length_replicate]; omega
 ·show hedErr c ⟨newLdr c, dsk0, true⟩ = 0
  unfold hedErr
  rw [hlog]
  have : ledReplay c [] = .ok (newLdr c) := by unfold ledReplay; rw [if_neg (by omega), if_neg (by simp)]; rfl
  dsimp only
  rw [this]
  dsimp only
  rw [if_pos rfl]
 ·obtain rfl := List.eq_of_mem_replicate hn
  show nodErr c.first ⟨newAgt c.first, dsk0, true⟩ = 0
  unfold nodErr
  rw [hlog]
  have hr := (cfgErr_zero h).1
  have : agtReplay c.first [] = .ok (newAgt c.first) := by unfold agtReplay; rw [if_neg (by omega), if_neg (by simp)]; rfl
  dsimp only
  rw [this]
  dsimp only
  rw [if_pos rfl]
def toldS : Skl := (sRunFrom (freshSkl cS) tellS).1
theorem tell_said : (sRunFrom (freshSkl cS) tellS).2 = [0, 0, 0, 0, 0, 0, 0] := by decide +kernel
theorem tell_led : (match ledReplay cS toldS.rs with | .ok l => decide (l.goal = 2) && decide ((l.ags[1]?.map Kn.st) = some 1) | .error _ => false) = true := by decide +kernel
theorem tell_agt : (match toldS.n[1]? with | none => false | some n => match agtReplay cS.first n.rs with | .ok a => a.going && decide (a.try_ = 1) && decide (find a.lock 1 = 2) && decide (find a.lock 2 = 0) | .error _ => false) = true := by decide +kernel
theorem cS_ok : cfgErr cS = 0 := by decide +kernel
theorem told_rel : SRel 7 (wRunFrom (freshWld cS) tellS).1 toldS/\ (wRunFrom (freshWld cS) tellS).2 = [0, 0, 0, 0, 0, 0, 0] := by
 obtain ⟨h1, h2⟩ := SRel.run (l := tellS) (fresh_rel cS) (by decide)
 exact ⟨h1, h2.trans tell_said⟩
theorem told_run : runErr (freshWld cS) tellS = 0 := by
 unfold runErr
 rw [if_neg (by rw [wldErr_zero.2 (fresh_right cS_ok)]; simp), if_neg (by decide)]
theorem sto_of {b : Nat} {w : Wld} {s : Skl} (h : SRel b w s) (hw : WRight w) : stoL w = ledReplay s.c s.rs := by
 unfold stoL
 rw [if_neg (by rw [wldErr_zero.2 hw]; simp), h.d.err.2.1, h.c]
theorem stoA_of {b : Nat} {w : Wld} {s : Skl} (h : SRel b w s) (hw : WRight w) {k : Nat} {q : SNod} (hq : s.n[k]? = some q) : stoA w k = agtReplay s.c.first q.rs := by
 obtain ⟨n, hn⟩ : ∃ n, w.n[k]? = some n := ⟨_, List.getElem?_eq_getElem (by rw [h.n]; exact (List.getElem?_eq_some_iff.1 hq).1)⟩
 unfold stoA
 rw [if_neg (by rw [wldErr_zero.2 hw]; simp), if_neg (by omega), Int.toNat_natCast, hn]
 dsimp only
 rw [(h.at_ k n q hn hq).d.err.2.1, h.c]
theorem told_c : toldS.c = cS := by kernel_rfl
theorem told_led : ∃ l, stoL (wRunFrom (freshWld cS) tellS).1 = .ok l/\ l.goal = 2/\ ∃ a, l.ags[1]? = some a/\ a.st = 1 := by
 have hw := (fresh_right cS_ok).run (l := tellS)
 have h := tell_led
 rw [sto_of told_rel.1 hw, told_c]
 cases hl : ledReplay cS toldS.rs with
 | error e => rw [hl] at h; cases h
 | ok l =>
  rw [hl] at h
  simp only [Bool.and_eq_true, decide_eq_true_eq] at h
  refine ⟨l, rfl, h.1, ?_⟩
  cases ha : l.ags[1]? with
  | none => rw [ha] at h; cases h.2
  | some a => rw [ha] at h; exact ⟨a, rfl, by simpa using h.2⟩
theorem told_agt : ∃ a, stoA (wRunFrom (freshWld cS) tellS).1 1 = .ok a/\ a.going = true/\ a.try_ = 1/\ find a.lock 1 = 2/\ find a.lock 2 = 0 := by
 have hw := (fresh_right cS_ok).run (l := tellS)
 have h := tell_agt
 cases hn : toldS.n[1]? with
 | none => rw [hn] at h; cases h
 | some n =>
  rw [hn] at h
  dsimp only at h
  have hs := stoA_of told_rel.1 hw hn
  rw [told_c] at hs
  have hs : stoA (wRunFrom (freshWld cS) tellS).1 1 = agtReplay cS.first n.rs := hs
  rw [hs]
  cases hl : agtReplay cS.first n.rs with
  | error e => rw [hl] at h; cases h
  | ok a =>
   rw [hl] at h
   simp only [Bool.and_eq_true, decide_eq_true_eq] at h
   exact ⟨a, rfl, h.1.1.1, h.1.1.2, h.1.2, h.2⟩
open Go Go.Proofs
theorem cTold {H : Heap} (hL : Lb H) : Spec Tryz.prog 20 [] H fun v _ => v = .bool true := by
 refine TryzvcK Tryz.func20 (by kernel_rfl) (by kernel_rfl) _ rfl (fun base K => vk20 base H K) fun base hb => ?_
 refine cSmall.mono fun v H1 e1 hv => ?_
 obtain ⟨a, n, c, a1, n1, c1, a2, n2, c2, rfl, hC⟩ := hv
 refine ⟨_, _, _, _, _, _, _, _, _, _, _, rfl, fun hN1 => ?_⟩
 have hNW := cNewW (fc := c) (rc := c1) (wc := c2) hC
 rw [cS_ok, show newW cS = freshWld cS from by unfold newW; rw [if_pos cS_ok]] at hNW
 refine hNW.mono fun v H2 e2 hv => ?_
 obtain ⟨p, rfl, hW⟩ := hv
 refine ⟨_, _, _, _, _, _, _, _, _, _, _, _, _, _, _, _, _, _, _, _, _, _, _, _, _, _, _, _, _, _, _, _, _, _, _, rfl, fun hN2 => fun b2 => ?_⟩
 refine cSecond.mono fun v H3 e3 hv => ?_
 obtain ⟨sa, sn, sc, rfl, hS⟩ := hv
 refine ⟨_, _, _, _, rfl, fun hN3 => fun g H4 hN4 hgn hg => ?_⟩
 have e4 := hN4.ext
 have hL4 : Lb H4 := (((hL.ext e1).ext e2).ext e3).ext e4
 have hH : Haps H4 (some ⟨g, 0, none⟩) 7 tellS := sl_of_rows (rs := [hapCells ⟨1, 0, 0, false, s2.lock⟩ sa sn sc, hapCells ⟨2, 0, 2, false, []⟩ none 0 0, hapCells ⟨3, 1, 0, false, []⟩ none 0 0, hapCells ⟨9, 0, 0, false, []⟩ none 0 0, hapCells ⟨7, 1, 0, false, []⟩ none 0 0, hapCells ⟨12, 1, 0, false, []⟩ none 0 0, hapCells ⟨12, -1, 0, false, []⟩ none 0 0]) hg (by simp) ⟨⟨_, _, _, rfl, hS.ext' e4⟩, ⟨_, _, _, rfl, Sl.nil⟩, ⟨_, _, _, rfl, Sl.nil⟩, ⟨_, _, _, rfl, Sl.nil⟩, ⟨_, _, _, rfl, Sl.nil⟩, ⟨_, _, _, rfl, Sl.nil⟩, ⟨_, _, _, rfl, Sl.nil⟩, trivial⟩ rfl (by decide)
 have hRun := cRun (c := 7) hL4 ((hW.ext e3).ext e4) hH
 rw [told_run, show ranW (freshWld cS) tellS = (wRunFrom (freshWld cS) tellS).1 from by unfold ranW; rw [if_pos told_run], show ranS (freshWld cS) tellS = [0, 0, 0, 0, 0, 0, 0] from by unfold ranS; rw [if_pos told_run]; exact told_rel.2] at hRun
 obtain ⟨l, hl, hl1, kn, hl2, hl3⟩ := told_led
 obtain ⟨ag, hag, ha1, ha2, ha3, ha4⟩ := told_agt
 generalize (wRunFrom (freshWld cS) tellS).1 = w at *
 refine hRun.mono fun v H5 e5 hv => ?_
 obtain ⟨p2, ra, rn, rc, rfl, hW2, hRS, _⟩ := hv
 refine ⟨_, _, _, _, _, _, _, _, _, _, _, _, _, _, _, _, _, _, _, _, _, _, _, _, _, _, _, _, _, _, _, _, _, _, _, _, _, _, rfl, fun hN5 => ?_⟩
 have hSL := cStoryLeader (hL4.ext e5) hW2
 rw [hl] at hSL
 refine hSL.ldr fun la ll lc ka kl kc H6 e6 hN6 hA => fun b5 => ?_
 have hSA := cStoryAgent ((hL4.ext e5).ext e6) (hW2.ext e6) 1
 rw [hag] at hSA
 refine hSA.agt fun xa xl xc ga gl gc H7 e7 hN7 hp hq => fun b8 => ⟨True, ⟨fun _ => ⟨fun _ => ⟨fun _ => ⟨fun _ => ?_, fun h => absurd rfl h⟩, fun h => absurd rfl h⟩, fun h => absurd rfl h⟩, fun h => absurd rfl h⟩, ?_⟩
 ·refine (cAnyNon (c := rc) ((Sl.ext RInt.mono hRS e6).ext RInt.mono e7)).bool1 fun H8 e8 hN8 => ⟨fun _ => ⟨fun _ => ?_, fun h => absurd hl1 h⟩, fun h => absurd rfl h⟩
  have hkl : l.ags.length = kl := hA.ags.len
  have h1k : 1 < l.ags.length := (List.getElem?_eq_some_iff.1 hl2).1
  have hA8 : Kns H8 ka kl l.ags := ((hA.ags.ext' e7).ext' e8)
  obtain ⟨b3, o, r, x, ha, hx, hr, hcell⟩ := hA8.get (k := 1) (by omega) (by omega)
  have hxk : x = kn := by
   have hx : l.ags[1]? = some x := hx
   rw [hl2] at hx; exact (Option.some.inj hx).symm
  subst hxk
  obtain rfl := hr
  refine ⟨b3, o, ha, by decide, by omega, _, hcell 0 _ rfl, fun _ => ⟨fun _ => ⟨fun _ => ?_, fun h => absurd ha2 h⟩, fun h => ?_⟩, fun h => absurd hl3 h⟩
  ·refine (cFind (c := xc) (hp.ext' e8) 1).int1 fun H9 e9 hN9 => ⟨fun _ => ?_, fun h => absurd ha3 h⟩
   refine (cFind (c := xc) ((hp.ext' e8).ext' e9) 2).int1 fun H10 e10 hN10 => ⟨rfl, fun b k hb => e10 b k (e9 b k (e8 b k hb)), ⟨fun _ => ha4, fun _ => trivial⟩⟩
  ·rw [show (okA (Except.ok (ε := Int) ag)).going = ag.going from rfl, ha1] at h; cases h
 ·show Value.bool _ = Value.bool _
  simp
end Go.Vg
namespace Go.Proofs.YtgaegoefbekndaaGreatDoor
open Go Go.Proofs Go.Vg
theorem noHandle {W : World} (h : laidMetH Tryz.prog Rows.storySaysRow.laid W) : laidMet Tryz.prog Rows.storySaysRow.laid W := by
 rw [MakeChecks.laidMetH_plain _ _ _ (by kernel_rfl)] at h
 exact h
theorem var_heap {P : Program} {W : World} {name : String} {g : Nat} {cs : Array Value} (hg : P.globalNamed name = some g) (h : W.var? P name = some cs) : ∃ t fr, W.heap[g]? = some (.cells cs t fr) := by
 unfold World.var? at h
 rw [hg] at h
 simp only [Option.bind_some] at h
 split at h
 ·rename_i c t fr hc
  obtain rfl := Option.some.inj h
  exact ⟨t, fr, hc⟩
 ·cases h
theorem sentinel_row (u : TypeId) (h : Tryz.prog.typeName? 3 u = some ("*" ++ "errors.errorString")) : u = 334 :=
 typeName_ptr_named (nm := "errors.errorString") (by kernel_rfl) (by kernel_rfl) (by decide) u h
theorem lb_of_laid {W : World} (hL0 : laidMetH Tryz.prog Rows.storySaysRow.laid W) (hsh : W.ShapedOpen Tryz.prog) : Lb (heapOf W) := by
 have hL : laidMet Tryz.prog Rows.storySaysRow.laid W := noHandle hL0
 have h3 := hL.tail.tail
 have h5 := h3.tail.tail
 have h6 := h5.tail
 have hT := Lib.tabIs_of_head (k := .u64) (zs := Lib.pow10Tab) (g := 5) (t := 328) (e := 301) (n := 20) (by kernel_rfl) (by kernel_rfl) Tryz.underlying328 Tryz.underlying301 (by kernel_rfl) (by kernel_rfl) h3
 have hstar : "*" ++ "errors.errorString" = "*errors.errorString" := by decide
 obtain ⟨ar, sr, hvr, -, -, -⟩ := laid_sentinel (g := 2) h5 (by kernel_rfl) (by kernel_rfl) Tryz.underlying263 (fun u h => sentinel_row u (by rw [hstar]; exact h)) Tryz.underlying334 Tryz.underlying336 rfl rfl Tryz.underlying9 (by kernel_rfl) (by kernel_rfl)
 obtain ⟨aq, sq, hvs, -, -, -⟩ := laid_sentinel (g := 1) h6 (by kernel_rfl) (by kernel_rfl) Tryz.underlying263 (fun u h => sentinel_row u (by rw [hstar]; exact h)) Tryz.underlying334 Tryz.underlying336 rfl rfl Tryz.underlying9 (by kernel_rfl) (by kernel_rfl)
 obtain ⟨m, hm⟩ := Go.Proofs.cell_of_shapedOpen_int (zero := #[.int .i64 0]) (g := 0) (t := 3) hsh (of_decide_eq_true (by kernel_rfl)) (by kernel_rfl) rfl (by kernel_rfl) (by kernel_rfl) Tryz.underlying3
 refine ⟨⟨m, (heapOf_cell hm).2⟩, ?_, ?_, ?_⟩
 ·obtain ⟨t, fr, h⟩ := var_heap (g := 1) (by kernel_rfl) hvs
  exact ⟨_, _, by unfold Heap.cell heapOf; rw [h]; rfl⟩
 ·obtain ⟨t, fr, h⟩ := var_heap (g := 2) (by kernel_rfl) hvr
  exact ⟨_, _, by unfold Heap.cell heapOf; rw [h]; rfl⟩
 ·obtain ⟨t, fr, h⟩ := var_heap (g := 5) (by kernel_rfl) hT
  refine ⟨_, by unfold heapOf; rw [h], by simp, fun j z hj => ?_⟩
  simp [hj]
theorem laidOutT : laidOutB Tryz.pinned.checked.prog = true := by kernel_rfl
theorem mapsRowedT : mapsRowed Tryz.pinned.checked.prog = true := by kernel_rfl
theorem heardT : Tryz.pinned.checked.prog.stopsHeard = true := by kernel_rfl
theorem keysT : Tryz.pinned.checked.prog.plainKeys = Rows.storySaysRow.plainKeys := by kernel_rfl
theorem mainT : Tryz.pinned.checked.prog.mainIs = some (Rows.storySaysCard.stood.harness.1, Rows.storySaysCard.stood.harness.2.toList) := by kernel_rfl
noncomputable def laidWorld (os : Os) : World := World.laidAll Tryz.prog os Rows.storySaysRow.laid
theorem laid_os (os : Os) : (laidWorld os).os = os := World.laidAll_os _ _ _
theorem laid_met (os : Os) (args : Array Value) : laidMetH Tryz.prog Rows.storySaysRow.laid ((laidWorld os).forCall (fun _ _ => 0) ⟨#[], args, []⟩).memory := by
 rw [MakeChecks.laidMetH_plain _ _ _ (by kernel_rfl)]
 exact laidMet_laidAll _ (by kernel_rfl) (by kernel_rfl)
end Go.Proofs.YtgaegoefbekndaaGreatDoor
