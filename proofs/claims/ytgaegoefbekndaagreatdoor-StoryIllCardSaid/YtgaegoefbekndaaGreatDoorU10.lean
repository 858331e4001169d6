/- What is proved here: a part of the proof of laws of this seat: what a contract is, how it comes of a condition, contracts of the functions that are reached, the plain laws. -/
import Derived.Test.YtgaegoefbekndaaGreatDoorU9
set_option linter.unusedSimpArgs false
set_option linter.unusedVariables false
set_option maxRecDepth 100000
namespace Go.Vg
open Go Go.Proofs
structure NA where
 xa : O
 xl : Nat
 xc : Nat
 ga : O
 gl : Nat
 gc : Nat
 ua : O
 ul : Nat
 uc : Nat
 va : O
 vl : Nat
 vc : Nat
abbrev nodCells (x : Nod) (q : NA) : List Value := [.slice q.xa q.xl q.xc, .int .i64 x.a.at_, .int .i64 x.a.try_, .bool x.a.going, .int .i64 x.a.goal.id, .slice q.ga q.gl q.gc, .bool x.a.good, .slice q.ua q.ul q.uc, .slice q.va q.vl q.vc, .bool x.up]
structure NodAt (H : Heap) (x : Nod) (q : NA) : Prop where
 lock : Pins H q.xa q.xl x.a.lock
 goal : Pins H q.ga q.gl x.a.goal.lock
 dsk : DskAt H x.d q.ua q.ul q.uc q.va q.vl q.vc
theorem NodAt.ext {H H' : Heap} {x : Nod} {q : NA} (h : NodAt H x q) (e : Ext H H') : NodAt H' x q := ⟨h.lock.ext' e, h.goal.ext' e, h.dsk.ext e⟩
def RNod : Rep Nod := fun H r x => ∃ q, r = nodCells x q/\ NodAt H x q
theorem RNod.mono : RNod.Mono := fun H H' r x e ⟨q, h1, h2⟩ => ⟨q, h1, h2.ext e⟩
abbrev Nods (H : Heap) (a : O) (n : Nat) (l : List Nod) : Prop := Sl RNod 10 H a n l
structure WA where
 fa : O
 fl : Nat
 fc : Nat
 ra : O
 rl : Nat
 rc : Nat
 wa : O
 wl : Nat
 wc : Nat
 la : O
 ll : Nat
 lc : Nat
 ka : O
 kl : Nat
 kc : Nat
 sa : O
 sl : Nat
 sc : Nat
 ta : O
 tl : Nat
 tc : Nat
 na : O
 nl : Nat
 nc : Nat
 ma : O
 ml : Nat
 mc : Nat
abbrev wldCells (w : Wld) (p : WA) : List Value := [.int .i64 w.c.first.id, .slice p.fa p.fl p.fc, .slice p.ra p.rl p.rc, .slice p.wa p.wl p.wc, .int .i64 w.c.bud, .slice p.la p.ll p.lc, .int .i64 w.h.l.now, .int .i64 w.h.l.goal, .bool w.h.l.back, .slice p.ka p.kl p.kc, .int .i64 w.h.l.nx, .slice p.sa p.sl p.sc, .slice p.ta p.tl p.tc, .bool w.h.up, .slice p.na p.nl p.nc, .slice p.ma p.ml p.mc]
abbrev wldArg (w : Wld) (p : WA) : Value := .agg #[.int .i64 w.c.first.id, .slice p.fa p.fl p.fc, .slice p.ra p.rl p.rc, .slice p.wa p.wl p.wc, .int .i64 w.c.bud, .slice p.la p.ll p.lc, .int .i64 w.h.l.now, .int .i64 w.h.l.goal, .bool w.h.l.back, .slice p.ka p.kl p.kc, .int .i64 w.h.l.nx, .slice p.sa p.sl p.sc, .slice p.ta p.tl p.tc, .bool w.h.up, .slice p.na p.nl p.nc, .slice p.ma p.ml p.mc]
abbrev nodArg (x : Nod) (q : NA) : Value := .agg #[.slice q.xa q.xl q.xc, .int .i64 x.a.at_, .int .i64 x.a.try_, .bool x.a.going, .int .i64 x.a.goal.id, .slice q.ga q.gl q.gc, .bool x.a.good, .slice q.ua q.ul q.uc, .slice q.va q.vl q.vc, .bool x.up]
structure WldAt (H : Heap) (w : Wld) (p : WA) : Prop where
 cfg : CfgAt H w.c p.fa p.fl p.ra p.rl p.wa p.wl
 ldr : LdrAt H w.h.l p.la p.ll p.ka p.kl
 dsk : DskAt H w.h.d p.sa p.sl p.sc p.ta p.tl p.tc
 nod : Nods H p.na p.nl w.n
 mail : Mails H p.ma p.ml w.m
theorem WldAt.ext {H H' : Heap} {w : Wld} {p : WA} (h : WldAt H w p) (e : Ext H H') : WldAt H' w p := ⟨h.cfg.ext e, h.ldr.ext e, h.dsk.ext e, h.nod.ext RNod.mono e, Sl.ext RMail.mono h.mail e⟩
theorem Sl.node {H H' : Heap} {a : O} {n : Nat} {xs : List Nod} (h : Nods H a n xs) (e : Ext H H') {k : Int} (h0 : 0 <= k) (h1 : k < n)
  {F : O->Nat->Nat->Int->Int->Bool->Int->O->Nat->Nat->Bool->O->Nat->Nat->O->Nat->Nat->Bool->Prop}
  (hF : ∀ x q, xs[k.toNat]? = some x->NodAt H x q->F q.xa q.xl q.xc x.a.at_ x.a.try_ x.a.going x.a.goal.id q.ga q.gl q.gc x.a.good q.ua q.ul q.uc q.va q.vl q.vc x.up) :
  ∃ (b o : Nat), a = some ⟨b, o, none⟩/\ 0 <= k/\ k < n/\ ∃ (a : O) (n2 c : Nat) (n3 n4 : Int) (b2 : Bool) (n5 : Int) (a1 : O) (n6 c1 : Nat) (b3 : Bool) (a2 : O) (n7 c2 : Nat) (a3 : O) (n8 c3 : Nat) (b4 : Bool),
   (H'.cell b (o + k.toNat * 10) = some (.slice a n2 c)/\ H'.cell b (o + k.toNat * 10 + 1) = some (.int .i64 n3)/\ H'.cell b (o + k.toNat * 10 + 2) = some (.int .i64 n4)/\ H'.cell b (o + k.toNat * 10 + 3) = some (.bool b2)/\ H'.cell b (o + k.toNat * 10 + 4) = some (.int .i64 n5)/\ H'.cell b (o + k.toNat * 10 + 5) = some (.slice a1 n6 c1)/\ H'.cell b (o + k.toNat * 10 + 6) = some (.bool b3)/\ H'.cell b (o + k.toNat * 10 + 7) = some (.slice a2 n7 c2)/\ H'.cell b (o + k.toNat * 10 + 8) = some (.slice a3 n8 c3)/\ H'.cell b (o + k.toNat * 10 + 9) = some (.bool b4)/\ True)/\ F a n2 c n3 n4 b2 n5 a1 n6 c1 b3 a2 n7 c2 a3 n8 c3 b4 := by
 obtain ⟨b, o, r, x, ha, hx, hr, hc⟩ := h.get h0 h1
 obtain ⟨q, rfl, hq⟩ := hr
 have g : ∀ j v, (nodCells x q)[j]? = some v->H'.cell b (o + k.toNat * 10 + j) = some v := fun j v hj => Heap.cell_next e (hc j v hj)
 exact ⟨b, o, ha, h0, h1, _, _, _, _, _, _, _, _, _, _, _, _, _, _, _, _, _, _, ⟨g 0 _ rfl, g 1 _ rfl, g 2 _ rfl, g 3 _ rfl, g 4 _ rfl, g 5 _ rfl, g 6 _ rfl, g 7 _ rfl, g 8 _ rfl, g 9 _ rfl, trivial⟩, hF x q hx hq⟩
def lgErr (d : Dsk) (up : Bool) : Int := if dskErr d ≠ 0 then dskErr d else if up = true/\ d.wait ≠ [] then 4 else 0
theorem logOf_lg {d : Dsk} {up : Bool} : logOf d up = if lgErr d up ≠ 0 then .error (lgErr d up) else .ok (if up = true then dskRecs d else []) := by
 unfold logOf lgErr
 by_cases h : dskErr d ≠ 0
 ·rw [if_pos h, if_pos h, if_pos h]
 ·rw [if_neg h, if_neg h]
  by_cases h2 : up = true/\ d.wait ≠ []
  ·rw [if_pos h2, if_pos h2, if_pos (by omega)]
  ·rw [if_neg h2, if_neg h2, if_neg (show ¬ (0 : Int) ≠ 0 by simp)]
section
variable {H : Heap} (hL : Lb H)
include hL
theorem cLog {sa ta : O} {sl sc tl tc : Nat} {d : Dsk} (hd : DskAt H d sa sl sc ta tl tc) (up : Bool) : Spec Tryz.prog 189 [dskArg sa sl sc ta tl tc, .bool up] H fun v H' => ∃ a n c, v = .tuple #[.slice a n c, i64 (lgErr d up)]/\ Recs H' a n (if lgErr d up = 0 then dskRecs d else []) := by
 refine TryzvcJ Tryz.func189 (by kernel_rfl) (by kernel_rfl) _ rfl (fun base K => vx189 sa ta sl sc tl tc up base H K) fun base hb => fun b => ?_
 refine (cRecover hL hd).mono fun v H1 e1 hv => ?_
 obtain ⟨a1, n1, c1, a2, n2, c2, a3, n3, c3, G, rows, hv, hD, hS⟩ := hv
 refine ⟨_, _, _, _, _, _, _, _, _, _, hv, fun hN1 => fun b1 => ?_⟩
 have hw := hd.wait.len
 have hR := hS.sl RRec.mono (by omega) hN1
 have hwl : d.wait ≠ [] ↔ 0 < tl := by rw [← hw, List.length_pos_iff]
 refine ⟨dskErr d = 0/\ up = true/\ 0 < tl, ⟨fun h0 => ⟨fun hu => ⟨rfl, subH, ⟨fun h => by have := h.2.2; omega, fun h => ⟨h0, hu, by omega⟩⟩⟩, fun hu => ⟨rfl, subH, fun h => by have := h.2.1; rw [hu] at this; cases this⟩⟩, fun h0 => ⟨rfl, subH, fun h => h0 h.1⟩⟩, fun h => ?_, fun h => ?_⟩
 ·have e : lgErr d up = 4 := by unfold lgErr; rw [if_neg (by omega), if_pos ⟨h.2.1, hwl.2 h.2.2⟩]
  rw [e]
  exact ⟨none, 0, 0, rfl, Sl.nil⟩
 ·have e : lgErr d up = dskErr d := by
   unfold lgErr
   by_cases h0 : dskErr d = 0
   ·rw [if_neg (by omega), if_neg (fun h2 => h ⟨h0, h2.1, hwl.1 h2.2⟩), h0]
   ·rw [if_pos h0]
  rw [e]
  exact ⟨_, _, _, rfl, hR⟩
theorem cCheckHead {w : Wld} {p : WA} (hw : WldAt H w p) : Spec Tryz.prog 105 [wldArg w p] H fun v _ => v = i64 (hedErr w.c w.h) := by
 refine TryzvcJ Tryz.func105 (by kernel_rfl) (by kernel_rfl) _ rfl (fun base K => vx105 w.c.first.id w.c.bud p.fa p.ra p.wa p.fl p.fc p.rl p.rc p.wl p.wc w.h.l.now w.h.l.goal w.h.l.nx w.h.l.back p.la p.ka p.ll p.lc p.kl p.kc p.sa p.ta p.sl p.sc p.tl p.tc w.h.up p.na p.ma p.nl p.nc p.ml p.mc base H K) fun base hb => fun b => ?_
 refine (cLog hL hw.dsk w.h.up).sl2 fun a n c H1 e1 hN1 hR => ⟨fun h => ?_, fun h => ?_⟩
 ·unfold hedErr
  rw [logOf_lg, if_pos h]
 have h := Decidable.not_not.1 h
 rw [if_pos h] at hR
 have tailH : ∀ {H2 : Heap} {Ow : List Bx} {la : O} {ll lc : Nat} {ka : O} {kl kc : Nat} (e2 : Ext H1 H2) (l : List Recd), l = (if w.h.up = true then dskRecs w.h.d else [])->LdrAt H2 (okLd (ledReplay w.c l)) la ll ka kl->
   ∃ (φ : Prop), ((errOf (ledReplay w.c l) = 0->Spec Tryz.prog 36 [ldrArg (okLd (ledReplay w.c l)) la ll lc ka kl kc, ldrArg w.h.l p.la p.ll p.lc p.ka p.kl p.kc] H2 fun v H' => ∃ b3 : Bool, v = .bool b3/\ (Next base H2 H'->Ow = Ow/\ SubH H2 H'/\ (φ ↔ b3 = false)))/\ (¬errOf (ledReplay w.c l) = 0->Ow = Ow/\ SubH H2 H2/\ ¬φ))/\ (φ->i64 4 = i64 (hedErr w.c w.h))/\ (¬φ->i64 (errOf (ledReplay w.c l)) = i64 (hedErr w.c w.h)) := by
  intro H2 Ow la ll lc ka kl kc e2 l hl hLd
  refine ⟨errOf (ledReplay w.c l) = 0/\ okLd (ledReplay w.c l) ≠ w.h.l, ⟨fun h0 => (cLdrSame hLd ((hw.ldr.ext e1).ext e2)).bool1 fun H3 e3 _ => ⟨rfl, e3, ?_⟩, fun h0 => ⟨rfl, subH, fun h => h0 h.1⟩⟩, fun hφ => ?_, fun hφ => ?_⟩
  ·rw [decide_eq_false_iff_not]
   exact ⟨fun h => h.2, fun h => ⟨h0, h⟩⟩
  ·have hE : hedErr w.c w.h = 4 := by
    unfold hedErr
    rw [logOf_lg, if_neg (by omega), ← hl]
    dsimp only
    cases hr : ledReplay w.c l with
    | error e => rw [hr] at hφ; exact absurd hφ.1 (ledReplay_err hr)
    | ok x => rw [hr] at hφ; exact if_neg hφ.2
   rw [hE]
  ·have hE : hedErr w.c w.h = errOf (ledReplay w.c l) := by
    unfold hedErr
    rw [logOf_lg, if_neg (by omega), ← hl]
    dsimp only
    cases hr : ledReplay w.c l with
    | error e => rfl
    | ok x => rw [hr] at hφ; exact if_pos (Decidable.byContradiction fun hn => hφ ⟨rfl, hn⟩)
   rw [hE]
 refine ⟨fun hu => ?_, fun hu => ?_⟩
 ·refine (cReplayL (rs := []) (hw.cfg.ext e1) Sl.nil).ldr fun la ll lc ka kl kc H2 e2 hN2 hLd => fun b2 => ?_
  exact tailH e2 [] (by rw [hu]; rfl) hLd
 ·refine (cReplayL (hw.cfg.ext e1) hR).ldr fun la ll lc ka kl kc H2 e2 hN2 hLd => fun b2 => ?_
  exact tailH e2 _ (by rw [if_pos (by simpa using hu)]) hLd
theorem cCheckNode {w : Wld} {p : WA} (hw : WldAt H w p) {x : Nod} {q : NA} (hx : NodAt H x q) : Spec Tryz.prog 106 [wldArg w p, nodArg x q] H fun v _ => v = i64 (nodErr w.c.first x) := by
 refine TryzvcJ Tryz.func106 (by kernel_rfl) (by kernel_rfl) _ rfl (fun base K => vx106 w.c.first.id w.c.bud p.fa p.ra p.wa p.fl p.fc p.rl p.rc p.wl p.wc w.h.l.now w.h.l.goal w.h.l.nx w.h.l.back p.la p.ka p.ll p.lc p.kl p.kc p.sa p.ta p.sl p.sc p.tl p.tc w.h.up p.na p.ma p.nl p.nc p.ml p.mc x.a.at_ x.a.try_ x.a.goal.id x.a.going x.a.good q.xa q.ga q.xl q.xc q.gl q.gc q.ua q.va q.ul q.uc q.vl q.vc x.up base H K) fun base hb => fun b b' => ?_
 refine (cLog hL hx.dsk x.up).sl2 fun a n c H1 e1 hN1 hR => ⟨fun h => ?_, fun h => ?_⟩
 ·unfold nodErr
  rw [logOf_lg, if_pos h]
 have h := Decidable.not_not.1 h
 rw [if_pos h] at hR
 have tailN : ∀ {H2 : Heap} {Ow : List Bx} {ya : O} {yl yc : Nat} {za : O} {zl zc : Nat} (e2 : Ext H1 H2) (l : List Recd), l = (if x.up = true then dskRecs x.d else [])->Pins H2 ya yl (okA (agtReplay w.c.first l)).lock->Pins H2 za zl (okA (agtReplay w.c.first l)).goal.lock->
   ∃ (φ : Prop), ((errOf (agtReplay w.c.first l) = 0->Spec Tryz.prog 38 [agtArg (okA (agtReplay w.c.first l)) ya yl yc za zl zc, agtArg x.a q.xa q.xl q.xc q.ga q.gl q.gc] H2 fun v H' => ∃ b3 : Bool, v = .bool b3/\ (Next base H2 H'->Ow = Ow/\ SubH H2 H'/\ (φ ↔ b3 = false)))/\ (¬errOf (agtReplay w.c.first l) = 0->Ow = Ow/\ SubH H2 H2/\ ¬φ))/\ (φ->i64 4 = i64 (nodErr w.c.first x))/\ (¬φ->i64 (errOf (agtReplay w.c.first l)) = i64 (nodErr w.c.first x)) := by
  intro H2 Ow ya yl yc za zl zc e2 l hl hA hB
  refine ⟨errOf (agtReplay w.c.first l) = 0/\ okA (agtReplay w.c.first l) ≠ x.a, ⟨fun h0 => (cAgtSame hA hB ((hx.lock.ext' e1).ext' e2) ((hx.goal.ext' e1).ext' e2)).bool1 fun H3 e3 _ => ⟨rfl, e3, ?_⟩, fun h0 => ⟨rfl, subH, fun h => h0 h.1⟩⟩, fun hφ => ?_, fun hφ => ?_⟩
  ·rw [decide_eq_false_iff_not]
   exact ⟨fun h => h.2, fun h => ⟨h0, h⟩⟩
  ·have hE : nodErr w.c.first x = 4 := by
    unfold nodErr
    rw [logOf_lg, if_neg (by omega), ← hl]
    dsimp only
    cases hr : agtReplay w.c.first l with
    | error e => rw [hr] at hφ; exact absurd hφ.1 (agtReplay_err hr)
    | ok x => rw [hr] at hφ; exact if_neg hφ.2
   rw [hE]
  ·have hE : nodErr w.c.first x = errOf (agtReplay w.c.first l) := by
    unfold nodErr
    rw [logOf_lg, if_neg (by omega), ← hl]
    dsimp only
    cases hr : agtReplay w.c.first l with
    | error e => rfl
    | ok x => rw [hr] at hφ; exact if_pos (Decidable.byContradiction fun hn => hφ ⟨rfl, hn⟩)
   rw [hE]
 refine ⟨fun hu => ?_, fun hu => ?_⟩
 ·refine (cReplay (rs := []) (hw.cfg.pins.ext' e1) Sl.nil).agt fun ya yl yc za zl zc H2 e2 hN2 hA hB => fun b2 => ?_
  exact tailN e2 [] (by rw [hu]; rfl) hA hB
 ·refine (cReplay (hw.cfg.pins.ext' e1) hR).agt fun ya yl yc za zl zc H2 e2 hN2 hA hB => fun b2 => ?_
  exact tailN e2 _ (by rw [if_pos (by simpa using hu)]) hA hB
end
open Go Go.Proofs
theorem wldErr_tail {w : Wld} (h1 : cfgErr w.c = 0) (h2 : (w.n.length : Int) = agentsOf w.c.waves) (h3 : mailsCheck w.m = 0) (h4 : farMail w.n.length w.m = false) : wldErr w = if hedErr w.c w.h ≠ 0 then hedErr w.c w.h else nodsErr w.c.first w.n := by
 unfold wldErr
 rw [if_neg (by omega), if_neg (by omega), if_neg (by omega), if_neg (by rw [h4]; simp)]
def mlIdx (f : Mail->Bool) : Int->List Mail->Int
 | _, [] => -1
 | i, x :: r => if f x = true then i else mlIdx f (i + 1) r
theorem mlIdx_any (f : Mail->Bool) : ∀ (l : List Mail) (i : Int), 0 <= i->(0 <= mlIdx f i l ↔ l.any f = true)
 | [], i, _ => by simp [mlIdx]
 | x :: r, i, h => by
  unfold mlIdx
  split
  ·rename_i e; simp [h, e]
  ·rename_i e; rw [mlIdx_any f r (i + 1) (by omega)]; simp [e]
theorem cFar1 {H : Heap} {p : Nat} {na : O} {nn nc : Nat} (hp : H.cell p 14 = some (.slice na nn nc)) (m : Mail) (a : O) (l c : Nat) : Spec Tryz.prog 104 [mailArg m a l c, .pointer (some ⟨p, 0, none⟩)] H fun v _ => v = .bool (decide ((nn : Int) <= m.agent)) := by
 refine TryzvcJ Tryz.func104 (by kernel_rfl) (by kernel_rfl) _ rfl (fun base K => vx104 m.agent m.try_ m.rel.id m.rep m.good a l c p base H K) fun base hb => fun b => ⟨_, _, _, hp, ?_⟩
 rfl
theorem cFar {H : Heap} {a : O} {l c : Nat} {ms : List Mail} (hx : Mails H a l ms) {p : Nat} {na : O} {nn nc : Nat} (hp : H.cell p 14 = some (.slice na nn nc)) : Spec Tryz.prog 103 [.slice a l c, .func (.func 104) #[] #[.pointer (some ⟨p, 0, none⟩)]] H fun r _ => r = .bool (farMail nn ms) := by
 have h188 : Spec Tryz.prog 188 [.slice a l c, .func (.func 104) #[] #[.pointer (some ⟨p, 0, none⟩)]] H fun r _ => r = i64 (mlIdx (fun m => decide ((nn : Int) <= m.agent)) 0 ms) := by
  refine TryzvcJ Tryz.func188 (by kernel_rfl) (by kernel_rfl) _ rfl (fun base K => vx188 a l c p base H K) fun base hb => ?_
  have hle := hx.le
  refine ⟨fun vs _ => ∃ (d : Int) (k : Nat), vs = [i64 d, i64 k]/\ k <= l/\ mlIdx (fun m => decide ((nn : Int) <= m.agent)) k (ms.drop k) = mlIdx (fun m => decide ((nn : Int) <= m.agent)) 0 ms, upTo l 1, ⟨0, 0, rfl, by omega, rfl⟩, fun d n H' hN hI => ?_⟩
  obtain ⟨d', k, hvs, hk, hI⟩ := hI
  obtain ⟨rfl, rfl⟩ : d = d'/\ n = (k : Int) := by simpa using hvs
  refine ⟨fun hlt => hx.mail hN.ext (by omega) hlt fun y ya yn yc hy hyp => (cFar1 (Heap.cell_next hN.ext hp) y ya yn yc).bool1 fun H2 e2 _ => ⟨fun he => ?_, fun he => ?_⟩, fun hge => ?_⟩
  ·rw [Int.toNat_natCast] at hy
   rw [drop_at hy, mlIdx, if_pos he] at hI
   rw [hI]
  ·rw [Int.toNat_natCast] at hy
   rw [drop_at hy, mlIdx, if_neg (by rw [he]; simp)] at hI
   rintro r rfl
   rw [wrap_in (by omega) (by omega)]
   exact ⟨⟨d, k + 1, rfl, by omega, hI⟩, by simp [upTo]; omega⟩
  ·rw [drop_all hx.len (by omega), mlIdx] at hI; rw [hI]
 refine TryzvcJ Tryz.func103 (by kernel_rfl) (by kernel_rfl) _ rfl (fun base K => vx103 a l c p base H K) fun base hb => ?_
 refine h188.int1 fun H' _ _ => ?_
 have := mlIdx_any (fun m => decide ((nn : Int) <= m.agent)) ms 0 (by omega)
 unfold farMail
 congr 1
 cases hany : ms.any (fun m => decide ((nn : Int) <= m.agent))
 ·rw [decide_eq_false (by rw [this, hany]; simp)]
 ·rw [decide_eq_true (this.2 hany)]
section
variable {H : Heap} (hL : Lb H)
include hL
theorem cCheck {w : Wld} {p : WA} (hw : WldAt H w p) : Spec Tryz.prog 31 [wldArg w p] H fun v _ => v = i64 (wldErr w) := by
 refine TryzvcJ Tryz.func31 (by kernel_rfl) (by kernel_rfl) _ rfl (fun base K => vx31 w.c.first.id w.c.bud p.fa p.ra p.wa p.fl p.fc p.rl p.rc p.wl p.wc w.h.l.now w.h.l.goal w.h.l.nx w.h.l.back p.la p.ka p.ll p.lc p.kl p.kc p.sa p.ta p.sl p.sc p.tl p.tc w.h.up p.na p.ma p.nl p.nc p.ml p.mc base H K) fun base hb => fun b => ?_
 have hnl := hw.nod.len
 have hle := hw.nod.le
 refine (cConfig hw.cfg).int1 fun H1 e1 hN1 => ⟨fun h1 => ?_, fun h1 => ?_⟩
 ·rw [wldErr, if_pos h1]
 have h1 := Decidable.not_not.1 h1
 refine (cAgents (hw.cfg.ext e1)).int1 fun H2 e2 hN2 => ⟨fun h2 => ?_, fun h2 => ?_⟩
 ·rw [wldErr, if_neg (by omega), if_pos (by omega)]
 have h2 := Decidable.not_not.1 h2
 refine (cWayCheck (Sl.ext RMail.mono hw.mail (Ext.trans e1 e2))).int1 fun H3 e3 hN3 => ⟨fun h3 => ?_, fun h3 => ?_⟩
 ·rw [wldErr, if_neg (by omega), if_neg (by omega), if_pos h3]
 have h3 := Decidable.not_not.1 h3
 have e13 := Ext.trans (Ext.trans e1 e2) e3
 refine ⟨rfl, fun Hl hNl hbx => ?_⟩
 refine (cFar (p := b) (na := p.na) (nn := p.nl) (nc := p.nc) (Sl.ext RMail.mono hw.mail (Ext.trans e13 hNl.ext)) (by unfold Heap.cell; rw [hbx.1]; rfl)).mono fun v H4 e4 hv => ?_
 refine ⟨_, hv, fun H5 hN5 _ => ⟨fun h4 => ?_, fun h4 => ?_⟩⟩
 ·rw [wldErr, if_neg (by omega), if_neg (by omega), if_neg (by omega), if_pos (by rw [hnl]; exact h4)]
 have e15 := Ext.trans e13 hN5.ext
 have hT := wldErr_tail h1 (by omega) h3 (by rw [hnl]; exact h4)
 refine (cCheckHead (hL.ext e15) (hw.ext e15)).int1 fun H6 e6 hN6 => ⟨fun h5 => ?_, fun h5 => ?_⟩
 ·rw [hT, if_pos h5]
 rw [if_neg h5] at hT
 refine ⟨fun vs _ => ∃ (d : Int) (k : Nat), vs = [i64 d, i64 k]/\ k <= p.nl/\ nodsErr w.c.first (w.n.drop k) = nodsErr w.c.first w.n, upTo p.nl 1, ⟨0, 0, rfl, by omega, rfl⟩, fun d n H7 hN7 hI => ?_⟩
 obtain ⟨d', k, hvs, hk, hI⟩ := hI
 obtain ⟨rfl, rfl⟩ : d = d'/\ n = (k : Int) := by simpa using hvs
 refine ⟨fun hlt => hw.nod.node hN7.ext (by omega) hlt fun x q hx hq => fun b3 => ?_, fun hge => ?_⟩
 ·rw [Int.toNat_natCast] at hx
  rw [drop_at hx, nodsErr] at hI
  refine (cCheckNode (hL.ext hN7.ext) (hw.ext hN7.ext) (hq.ext hN7.ext)).int1 fun H8 e8 _ => ⟨fun h6 => ?_, fun h6 => ?_⟩
  ·rw [hT, ← hI, if_pos h6]
  ·rw [if_neg h6] at hI
   rintro r rfl
   rw [wrap_in (by omega) (by omega)]
   exact ⟨rfl, ⟨d, k + 1, rfl, by omega, hI⟩, by simp [upTo]; omega⟩
 ·rw [hT, ← hI, drop_all hnl (by omega), nodsErr]
end
open Go Go.Proofs
theorem Sl.nodeD {H H' : Heap} {a : O} {n : Nat} {xs : List Nod} (h : Nods H a n xs) (e : Ext H H') {k : Int} (h0 : 0 <= k) (h1 : k < n) {F : O->Nat->Nat->O->Nat->Nat->Prop}
  (hF : ∀ x q, xs[k.toNat]? = some x->NodAt H x q->F q.ua q.ul q.uc q.va q.vl q.vc) :
  ∃ (b o : Nat), a = some ⟨b, o, none⟩/\ 0 <= k/\ k < n/\ ∃ (a2 : O) (n7 c2 : Nat) (a3 : O) (n8 c3 : Nat),
   (H'.cell b (o + k.toNat * 10 + 7) = some (.slice a2 n7 c2)/\ H'.cell b (o + k.toNat * 10 + 7 + 1) = some (.slice a3 n8 c3)/\ True)/\ F a2 n7 c2 a3 n8 c3 := by
 obtain ⟨b, o, r, x, ha, hx, hr, hc⟩ := h.get h0 h1
 obtain ⟨q, rfl, hq⟩ := hr
 have g : ∀ j v, (nodCells x q)[j]? = some v->H'.cell b (o + k.toNat * 10 + j) = some v := fun j v hj => Heap.cell_next e (hc j v hj)
 exact ⟨b, o, ha, h0, h1, _, _, _, _, _, _, ⟨g 7 _ rfl, g 8 _ rfl, trivial⟩, hF x q hx hq⟩
def stoL (w : Wld) : Except Int Ldr := if wldErr w ≠ 0 then .error (wldErr w) else ledReplay w.c (dskRecs w.h.d)
def stoA (w : Wld) (k : Int) : Except Int Agt := if wldErr w ≠ 0 then .error (wldErr w) else if k < 0 then .error 5 else match w.n[k.toNat]? with
 | none => .error 5
 | some n => agtReplay w.c.first (dskRecs n.d)
theorem lgErr_zero {d : Dsk} {up : Bool} (h : lgErr d up = 0) : dskErr d = 0 := by
 unfold lgErr at h
 split at h
 ·omega
 ·omega
theorem nodsErr_mem {f : Rls} : ∀ {ns : List Nod} {k : Nat} {n : Nod}, nodsErr f ns = 0->ns[k]? = some n->nodErr f n = 0
 | [], _, _, _, h => by simp at h
 | x :: q, k, n, h0, h => by
  unfold nodsErr at h0
  split at h0
  ·omega
  ·cases k with
   | zero => simp at h; subst h; omega
   | succ k => exact nodsErr_mem h0 (by simpa using h)
theorem wldErr_disks {w : Wld} (h : wldErr w = 0) : dskErr w.h.d = 0/\ ∀ (k : Nat) (n : Nod), w.n[k]? = some n->dskErr n.d = 0 := by
 have key : hedErr w.c w.h = 0/\ nodsErr w.c.first w.n = 0 := by
  unfold wldErr at h
  split at h
  ·omega
  ·split at h
   ·omega
   ·split at h
    ·omega
    ·split at h
     ·omega
     ·split at h
      ·omega
      ·exact ⟨by omega, h⟩
 refine ⟨?_, fun k n hn => ?_⟩
 ·have := key.1
  unfold hedErr at this
  rw [logOf_lg] at this
  by_cases hz : lgErr w.h.d w.h.up = 0
  ·exact lgErr_zero hz
  ·rw [if_pos hz] at this; exact absurd this hz
 ·have := nodsErr_mem key.2 hn
  unfold nodErr at this
  rw [logOf_lg] at this
  by_cases hz : lgErr n.d n.up = 0
  ·exact lgErr_zero hz
  ·rw [if_pos hz] at this; exact absurd this hz
section
variable {H : Heap} (hL : Lb H)
include hL
theorem cStoryLeader {w : Wld} {p : WA} (hw : WldAt H w p) : Spec Tryz.prog 17 [wldArg w p] H fun v H' => ∃ la ll lc ka kl kc, v = .tuple #[ldrArg (okLd (stoL w)) la ll lc ka kl kc, i64 (errOf (stoL w))]/\ LdrAt H' (okLd (stoL w)) la ll ka kl := by
 refine TryzvcJ Tryz.func17 (by kernel_rfl) (by kernel_rfl) _ rfl (fun base K => vx17 w.c.first.id w.c.bud p.fa p.ra p.wa p.fl p.fc p.rl p.rc p.wl p.wc w.h.l.now w.h.l.goal w.h.l.nx w.h.l.back p.la p.ka p.ll p.lc p.kl p.kc p.sa p.ta p.sl p.sc p.tl p.tc w.h.up p.na p.ma p.nl p.nc p.ml p.mc base H K) fun base hb => fun b b' => ?_
 refine (cCheck hL hw).int1 fun H1 e1 hN1 => ⟨fun h => ?_, fun h => ?_⟩
 ·have e : stoL w = .error (wldErr w) := by unfold stoL; rw [if_pos h]
  rw [e]
  exact ⟨none, 0, 0, none, 0, 0, rfl, ⟨Sl.nil, Sl.nil⟩⟩
 have h := Decidable.not_not.1 h
 have e : stoL w = ledReplay w.c (dskRecs w.h.d) := by unfold stoL; rw [if_neg (by omega)]
 rw [e]
 refine (cRecover (hL.ext e1) (hw.dsk.ext e1)).mono fun v H2 e2 hv => ?_
 obtain ⟨a1, n1, c1, a2, n2, c2, a3, n3, c3, G, rows, hv, hD, hS⟩ := hv
 refine ⟨_, _, _, _, _, _, _, _, _, _, hv, fun hN2 => fun b2 => ?_⟩
 have hR := hS.sl RRec.mono (by omega) hN2
 rw [if_pos (wldErr_disks h).1] at hR
 refine (cReplayL (hw.cfg.ext (Ext.trans e1 e2)) hR).ldr fun la ll lc ka kl kc H3 e3 hN3 hLd => ?_
 exact ⟨la, ll, lc, ka, kl, kc, rfl, hLd⟩
theorem cStoryAgent {w : Wld} {p : WA} (hw : WldAt H w p) (k : Int) : Spec Tryz.prog 18 [wldArg w p, .int .i64 k] H fun v H' => ∃ a n c ga gn gc, v = .tuple #[agtArg (okA (stoA w k)) a n c ga gn gc, i64 (errOf (stoA w k))]/\ Pins H' a n (okA (stoA w k)).lock/\ Pins H' ga gn (okA (stoA w k)).goal.lock := by
 refine TryzvcJ Tryz.func18 (by kernel_rfl) (by kernel_rfl) _ rfl (fun base K => vx18 w.c.first.id w.c.bud p.fa p.ra p.wa p.fl p.fc p.rl p.rc p.wl p.wc w.h.l.now w.h.l.goal w.h.l.nx w.h.l.back p.la p.ka p.ll p.lc p.kl p.kc p.sa p.ta p.sl p.sc p.tl p.tc w.h.up p.na p.ma p.nl p.nc p.ml p.mc k base H K) fun base hb => fun b b' => ?_
 have hnl := hw.nod.len
 refine (cCheck hL hw).int1 fun H1 e1 hN1 => ⟨fun h => ?_, fun h => ?_⟩
 ·have e : stoA w k = .error (wldErr w) := by unfold stoA; rw [if_pos h]
  rw [e]
  exact ⟨none, 0, 0, none, 0, 0, rfl, Sl.nil, Sl.nil⟩
 have h := Decidable.not_not.1 h
 refine ⟨k < 0 ∨ (p.nl : Int) <= k, ⟨fun h0 => ⟨rfl, subH, .inl h0⟩, fun h0 => ⟨rfl, subH, ⟨fun h => h.resolve_left h0, fun h => .inr h⟩⟩⟩, fun h2 => ?_, fun h2 => ?_⟩
 ·have e : stoA w k = .error 5 := by
   unfold stoA
   rw [if_neg (by omega)]
   by_cases h0 : k < 0
   ·rw [if_pos h0]
   ·rw [if_neg h0, List.getElem?_eq_none (by omega)]
  rw [e]
  exact ⟨none, 0, 0, none, 0, 0, rfl, Sl.nil, Sl.nil⟩
 ·refine hw.nod.nodeD e1 (by omega) (by omega) fun x q hx hq => ?_
  have e : stoA w k = agtReplay w.c.first (dskRecs x.d) := by
   unfold stoA
   rw [if_neg (by omega), if_neg (by omega), hx]
  rw [e]
  refine (cRecover (hL.ext e1) (hq.dsk.ext e1)).mono fun v H2 e2 hv => ?_
  obtain ⟨a1, n1, c1, a2, n2, c2, a3, n3, c3, G, rows, hv, hD, hS⟩ := hv
  refine ⟨_, _, _, _, _, _, _, _, _, _, hv, fun hN2 => fun b2 => ?_⟩
  have hR := hS.sl RRec.mono (by omega) hN2
  rw [if_pos ((wldErr_disks h).2 _ x hx)] at hR
  refine (cReplay (hw.cfg.pins.ext' (Ext.trans e1 e2)) hR).agt fun ya yl yc za zl zc H3 e3 hN3 hA hB => ?_
  exact ⟨ya, yl, yc, za, zl, zc, rfl, hA, hB⟩
end
open Go Go.Proofs
open Go.Value renaming int → I, slice → S, bool → B, agg → A, tuple → T, pointer → P, string → Str
open Go.IntKind renaming i64 → Z, wrap → W
open Go.Addr renaming mk → D
open Go.Vg.Bx renaming mk → J
open Go.Vg renaming Next → X, Spec → Y, SpecO → YO
open Go.Vg.Heap renaming cell → C
open Int renaming toNat → N
theorem vk26 (id bud : Int) (fa ra wa : O) (fl fc rl rc wl wc : Nat) (base : Nat) (H : Heap) (K : KT) :
 (fV TryzMutsK Tryz.f26 base H [.v (A #[I Z id, S fa fl fc, S ra rl rc, S wa wl wc, I Z bud])] [] K) = (
 (fun w6:LV=>∀ a b:Nat,Y Tryz.prog 86 w6 H fun c d =>∃ e g h i j k l m n o,(fun w5:LL=>∃ p,c = T #[A #[S e g h,I Z i,I Z j,B k,S l m n,I Z o],I Z p]/\ (X base H d->∀ q:Nat,(¬p = 0->K (T #[A #[I Z 0,S none 0 0,S none 0 0,S none 0 0,I Z 0,S none 0 0,I Z 0,I Z 0,B false,S none 0 0,I Z 0,S none 0 0,S none 0 0,B false,S none 0 0,S none 0 0],I Z p]) [] d)/\ (¬¬p = 0->(Y Tryz.prog 87 w6 d fun r s =>∃ t u v w x y z a1 b1 c1 d1,r = A #[I Z t,S u v w,S x y z,S a1 b1 c1,I Z d1]/\ (X base d s->∀ e1:Nat,Y Tryz.prog 88 w6 s fun f1 g1 =>∃ h1,f1 = I Z h1/\ (X base s g1->∃ (i1:NI) (j1:Nat),i1 j1 [I Z 0,A #[I Z t,S u v w,S x y z,S a1 b1 c1,I Z d1,S e g h,I Z i,I Z j,B k,S l m n,I Z o,S none 0 0,S none 0 0,B true,S none 0 0,S none 0 0]] g1/\ ∀ (k1:Nat) (l1 m1:Int) (n1:O) (o1 p1:Nat) (q1:O) (r1 s1:Nat) (t1:O) (u1 v1:Nat) (w1:Int) (x1:O) (y1 z1:Nat) (a2 b2:Int) (c2:Bool) (d2:O) (e2 f2:Nat) (g2:Int) (h2:O) (i2 j2:Nat) (k2:O) (l2 m2:Nat) (n2:Bool) (o2:O) (p2 q2:Nat) (r2:O) (s2 t2:Nat) (u2:Heap),(fun w3:AV=>X base H u2->i1 k1 [I Z l1,A w3] u2->(l1 < h1->Y Tryz.prog 89 [A #[I Z id,S fa fl fc]] u2 fun v2 w2 =>∃ x2 y2 z2 a3 b3 c3 d3 e3 f3 g3 h3 i3,v2 = T #[A #[S x2 y2 z2,I Z a3,I Z b3,B c3,I Z d3,S e3 f3 g3,B h3],I Z i3]/\ (X base u2 w2->∀ j3 k3:Nat,∃ l3:List Value,Row base w2 58 10 o2 p2 q2 l3/\ (p2 + 1) * 144 <= 140737488355328/\ p2 + 1 <= 9223372036854775807/\ ∀ (m3:O) (n3:Nat) (o3:Heap),Grew base w2 o3 o2 q2 m3 n3 (p2 + 1)->Row base o3 58 10 m3 (p2 + 1) n3 (l3 ++ [S x2 y2 z2,I Z a3,I Z b3,B c3,I Z d3,S e3 f3 g3,B h3,S none 0 0,S none 0 0,B true])->∀ p3:Int,p3 = W Z (l1 + 1)->w5 = w5/\ ∃ q3:Nat,q3 < k1/\ i1 q3 [I Z p3,A #[I Z m1,S n1 o1 p1,S q1 r1 s1,S t1 u1 v1,I Z w1,S x1 y1 z1,I Z a2,I Z b2,B c2,S d2 e2 f2,I Z g2,S h2 i2 j2,S k2 l2 m2,B n2,S m3 (p2 + 1) n3,S r2 s2 t2]] o3))/\ (¬l1 < h1->K (T #[A w3,I Z 0]) [] u2)) #[I Z m1,S n1 o1 p1,S q1 r1 s1,S t1 u1 v1,I Z w1,S x1 y1 z1,I Z a2,I Z b2,B c2,S d2 e2 f2,I Z g2,S h2 i2 j2,S k2 l2 m2,B n2,S o2 p2 q2,S r2 s2 t2])))/\ ∀ r:Nat,Y Tryz.prog 87 w6 d fun s t =>∃ u v w x y z a1 b1 c1 d1 e1,s =
 A #[I Z u,S v w x,S y z a1,S b1 c1 d1,I Z e1]/\ (X base d t->Y Tryz.prog 88 w6 t fun f1 g1 =>∃ h1,f1 = I Z h1/\ (X base t g1->∃ (i1:NI) (j1:Nat),i1 j1 [I Z 0,A #[I Z u,S v w x,S y z a1,S b1 c1 d1,I Z e1,S e g h,I Z i,I Z j,B k,S l m n,I Z o,S none 0 0,S none 0 0,B true,S none 0 0,S none 0 0]] g1/\ ∀ (k1:Nat) (l1 m1:Int) (n1:O) (o1 p1:Nat) (q1:O) (r1 s1:Nat) (t1:O) (u1 v1:Nat) (w1:Int) (x1:O) (y1 z1:Nat) (a2 b2:Int) (c2:Bool) (d2:O) (e2 f2:Nat) (g2:Int) (h2:O) (i2 j2:Nat) (k2:O) (l2 m2:Nat) (n2:Bool) (o2:O) (p2 q2:Nat) (r2:O) (s2 t2:Nat) (u2:Heap),(fun w4:AV=>X base H u2->i1 k1 [I Z l1,A w4] u2->(l1 < h1->Y Tryz.prog 89 [A #[I Z id,S fa fl fc]] u2 fun v2 w2 =>∃ x2 y2 z2 a3 b3 c3 d3 e3 f3 g3 h3 i3,v2 = T #[A #[S x2 y2 z2,I Z a3,I Z b3,B c3,I Z d3,S e3 f3 g3,B h3],I Z i3]/\ (X base u2 w2->∀ j3 k3:Nat,∃ l3:List Value,Row base w2 58 10 o2 p2 q2 l3/\ (p2 + 1) * 144 <= 140737488355328/\ p2 + 1 <= 9223372036854775807/\ ∀ (m3:O) (n3:Nat) (o3:Heap),Grew base w2 o3 o2 q2 m3 n3 (p2 + 1)->Row base o3 58 10 m3 (p2 + 1) n3 (l3 ++ [S x2 y2 z2,I Z a3,I Z b3,B c3,I Z d3,S e3 f3 g3,B h3,S none 0 0,S none 0 0,B true])->∀ p3:Int,p3 = W Z (l1 + 1)->w5 = w5/\ ∃ q3:Nat,q3 < k1/\ i1 q3 [I Z p3,A #[I Z m1,S n1 o1 p1,S q1 r1 s1,S t1 u1 v1,I Z w1,S x1 y1 z1,I Z a2,I Z b2,B c2,S d2 e2 f2,I Z g2,S h2 i2 j2,S k2 l2 m2,B n2,S m3 (p2 + 1) n3,S r2 s2 t2]] o3))/\ (¬l1 < h1->K (T #[A w4,I Z 0]) [] u2)) #[I Z m1,S n1 o1 p1,S q1 r1 s1,S t1 u1 v1,I Z w1,S x1 y1 z1,I Z a2,I Z b2,B c2,S d2 e2 f2,I Z g2,S h2 i2 j2,S k2 l2 m2,B n2,S o2 p2 q2,S r2 s2 t2]))))) [[I Z id,S fa fl fc,S ra rl rc,S wa wl wc,I Z bud],[I Z 0,S none 0 0,S none 0 0,S none 0 0,I Z 0,S none 0 0,I Z 0,I Z 0,B false,S none 0 0,I Z 0,S none 0 0,S none 0 0,B false,S none 0 0,S none 0 0],[S e g h,I Z i,I Z j,B k,S l m n,I Z o]]) [A #[I Z id,S fa fl fc,S ra rl rc,S wa wl wc,I Z bud]]) := by kernel_rfl
theorem vk74 (e : Int) (base : Nat) (H : Heap) (K : KT) :
 (fV TryzMutsK Tryz.f74 base H [.v (I Z e)] [] K) = (
 K (B (decide ¬e = 0)) [] H) := by kernel_rfl
theorem vk98a (a : O) (l c : Nat) (base : Nat) (H : Heap) (K : KT) :
 (fV TryzMutsK Tryz.f98 base H [.v (S a l c), .v (.func (.func 74) #[] #[])] [] K) = (
 ∃ (b:NI) (d:Nat),b d [I Z 0,I Z 0] H/\ ∀ (e:Nat) (g h:Int) (i:Heap),X base H i->b e [I Z g,I Z h] i->(h < (l:Int)->∃ j k,a = some (D j k none)/\ 0 <= h/\ h < (l:Int)/\ ∃ m,C i j (k + N h * 1) = some (I Z m)/\ Y Tryz.prog 74 [I Z m] i fun n o =>∃ p,n = B p/\ (X base i o->(p = true->K (I Z h) [] o)/\ (p = false->∀ q:Int,q = W Z (h + 1)->∃ r:Nat,r < e/\ b r [I Z g,I Z q] o)))/\ (¬h < (l:Int)->K (I Z (-1)) [] i)) := by kernel_rfl
theorem vk73a (a : O) (l c : Nat) (base : Nat) (H : Heap) (K : KT) :
 (fV TryzMutsK Tryz.f73 base H [.v (S a l c), .v (.func (.func 74) #[] #[])] [] K) = (
 Y Tryz.prog 98 [S a l c,Value.func (Fn.func 74) #[] #[]] H fun b d =>∃ e,b = I Z e/\ (X base H d->K (B (decide (0 <= e))) [] d)) := by kernel_rfl
theorem vk20  (base : Nat) (H : Heap) (K : KT) :
 (fV TryzMutsK Tryz.f20 base H [] [] K) = (
 Y Tryz.prog 71 [] H fun a b =>∃ c d e g h i j k l m n,a = A #[I Z c,S d e g,S h i j,S k l m,I Z n]/\ (X base H b->Y Tryz.prog 26 [A #[I Z c,S d e g,S h i j,S k l m,I Z n]] b fun o p =>∃ (q:Int) (r:O) (s t:Nat) (u:O) (v w:Nat) (x:O) (y z:Nat) (a1:Int) (b1:O) (c1 d1:Nat) (e1 f1:Int) (g1:Bool) (h1:O) (i1 j1:Nat) (k1:Int) (l1:O) (m1 n1:Nat) (o1:O) (p1 q1:Nat) (r1:Bool) (s1:O) (t1 u1:Nat) (v1:O) (w1 x1:Nat),(fun w6:AV=>∃ y1,o = T #[A w6,I Z y1]/\ (X base b p->∀ z1:Nat,Y Tryz.prog 72 [] p fun a2 b2 =>∃ c2 d2 e2 f2,a2 = A #[I Z c2,S d2 e2 f2]/\ (X base p b2->∀ (g2:Nat) (h2:Heap),X base b2 h2->b2 g2 = none->h2 g2 = some (boxKB 62 [I Z 1,I Z 0,I Z 0,B false,S d2 e2 f2,I Z 2,I Z 0,I Z 2,B false,S none 0 0,I Z 3,I Z 1,I Z 0,B false,S none 0 0,I Z 9,I Z 0,I Z 0,B false,S none 0 0,I Z 7,I Z 1,I Z 0,B false,S none 0 0,I Z 12,I Z 1,I Z 0,B false,S none 0 0,I Z 12,I Z (-1),I Z 0,B false,S none 0 0])->Y Tryz.prog 39 [A w6,S (some (D g2 0 none)) 7 7] h2 fun i2 j2 =>∃ k2 l2 m2 n2 o2 p2 q2 r2 s2 t2 u2 v2 w2 x2 y2 z2 a3 b3 c3 d3 e3 f3 g3 h3 i3 j3 k3 l3 m3 n3 o3 p3 q3 r3 s3 t3 u3 v3,i2 = T #[A #[I Z k2,S l2 m2 n2,S o2 p2 q2,S r2 s2 t2,I Z u2,S v2 w2 x2,I Z y2,I Z z2,B a3,S b3 c3 d3,I Z e3,S f3 g3 h3,S i3 j3 k3,B l3,S m3 n3 o3,S p3 q3 r3],S s3 t3 u3,I Z v3]/\ (X base h2 j2->Y Tryz.prog 17 [A #[I Z k2,S l2 m2 n2,S o2 p2 q2,S r2 s2 t2,I Z u2,S v2 w2 x2,I Z y2,I Z z2,B a3,S b3 c3 d3,I Z e3,S f3 g3 h3,S i3 j3 k3,B l3,S m3 n3 o3,S p3 q3 r3]] j2 fun w3 x3 =>∃ y3 z3 a4 b4 c4 d4 e4 f4 g4 h4 i4,w3 = T #[A #[S y3 z3 a4,I Z b4,I Z c4,B d4,S e4 f4 g4,I Z h4],I Z i4]/\ (X base j2 x3->∀ j4:Nat,Y Tryz.prog 18 [A #[I Z k2,S l2 m2 n2,S o2 p2 q2,S r2 s2 t2,I Z u2,S v2 w2 x2,I Z y2,I Z z2,B a3,S b3 c3 d3,I Z e3,S f3 g3 h3,S i3 j3 k3,B l3,S m3 n3 o3,S p3 q3 r3],I Z 1] x3 fun k4 l4 =>∃ m4 n4 o4 p4 q4 r4 s4 t4 u4 v4 w4 x4,k4 = T #[A #[S m4 n4 o4,I Z p4,I Z q4,B r4,I Z s4,S t4 u4 v4,B w4],I Z x4]/\ (X base x3 l4->∀ y4:Nat,(fun w5:LB=>∃ z4:Prop,((y1 = 0->(v3 = 0->(i4 = 0->(x4 = 0->Y Tryz.prog 73 [S s3 t3 u3,Value.func (Fn.func 74) #[] #[]] l4
 fun a5 b5 =>∃ c5,a5 = B c5/\ (X base l4 b5->(c5 = false->(c4 = 2->∃ d5 e5,e4 = some (D d5 e5 none)/\ Int.ofNat 0 <= 1/\ 1 < (f4:Int)/\ ∃ f5,C b5 d5 (e5 + 1 * 3) = some (I Z f5)/\ (f5 = 1->(r4 = true->(q4 = 1->Y Tryz.prog 75 [S m4 n4 o4,I Z 1] b5 fun g5 h5 =>∃ i5,g5 = I Z i5/\ (X base b5 h5->(i5 = 2->Y Tryz.prog 75 [S m4 n4 o4,I Z 2] h5 fun j5 k5 =>∃ l5,j5 = I Z l5/\ (X base h5 k5->w5 = w5/\ SubH l4 k5/\ (z4↔l5 = 0)))/\ (¬i5 = 2->w5 = w5/\ SubH l4 h5/\ ¬z4)))/\ (¬q4 = 1->w5 = w5/\ SubH l4 b5/\ ¬z4))/\ (r4 = false->w5 = w5/\ SubH l4 b5/\ ¬z4))/\ (¬f5 = 1->w5 = w5/\ SubH l4 b5/\ ¬z4))/\ (¬c4 = 2->w5 = w5/\ SubH l4 b5/\ ¬z4))/\ (¬c5 = false->w5 = w5/\ SubH l4 b5/\ ¬z4)))/\ (¬x4 = 0->w5 = w5/\ SubH l4 l4/\ ¬z4))/\ (¬i4 = 0->w5 = w5/\ SubH l4 l4/\ ¬z4))/\ (¬v3 = 0->w5 = w5/\ SubH l4 l4/\ ¬z4))/\ (¬y1 = 0->w5 = w5/\ SubH l4 l4/\ ¬z4))/\ K (B (@decide z4 (Classical.propDecidable z4))) [] l4) [J z1 false 41 [I Z k2,S l2 m2 n2,S o2 p2 q2,S r2 s2 t2,I Z u2,S v2 w2 x2,I Z y2,I Z z2,B a3,S b3 c3 d3,I Z e3,S f3 g3 h3,S i3 j3 k3,B l3,S m3 n3 o3,S p3 q3 r3],J j4 false 32 [S y3 z3 a4,I Z b4,I Z c4,B d4,S e4 f4 g4,I Z h4],J y4 false 46 [S m4 n4 o4,I Z p4,I Z q4,B r4,I Z s4,S t4 u4 v4,B w4]])))))) #[I Z q,S r s t,S u v w,S x y z,I Z a1,S b1 c1 d1,I Z e1,I Z f1,B g1,S h1 i1 j1,I Z k1,S l1 m1 n1,S o1 p1 q1,B r1,S s1 t1 u1,S v1 w1 x1])) := by kernel_rfl
open Go Go.Proofs
theorem vx219 (sa ta : O) (sl sc tl tc : Nat) (kd ag rt n rid : Int) (rg : Bool) (qa : O) (ql qc : Nat) (base : Nat) (H : Heap) (K : KT) :
 (fV TryzMutsJ Tryz.f219 base H [.v (A #[S sa sl sc, S ta tl tc]), .v (A #[I Z kd, I Z ag, I Z rt, I Z n, B rg, I Z rid, S qa ql qc])] [] K) = (
 ∀ a b c:Nat,Y Tryz.prog 243 [A #[S sa sl sc,S ta tl tc],A #[I Z kd,I Z ag,I Z rt,I Z n,B rg,I Z rid,S qa ql qc]] H fun d e =>∃ g h i j k l m,d = T #[A #[S g h i,S j k l],I Z m]/\ (X base H e->(¬m = 0->K (T #[A #[S none 0 0,S none 0 0],I Z m]) [] e)/\ (¬¬m = 0->Y Tryz.prog 244 [A #[S g h i,S j k l]] e fun o p =>∃ q r s t u v w,o = T #[A #[S q r s,S t u v],I Z w]/\ (X base e p->K (T #[A #[S q r s,S t u v],I Z w]) [] p)))) := by kernel_rfl
theorem vx176 (b : Nat) (id bud : Int) (fa ra wa : O) (fl fc rl rc wl wc : Nat) (now goal nx : Int) (back : Bool) (la ka : O) (ll lc kl kc : Nat) (sa ta : O) (sl sc tl tc : Nat) (up : Bool) (na ma : O) (nl nc ml mc : Nat) (kd ag rt n rid : Int) (rg : Bool) (qa : O) (ql qc : Nat) (base : Nat) (H : Heap) (K : KT) :
 (fV TryzMutsJ Tryz.f176 base H [.loc 0 0, .v (A #[I Z kd, I Z ag, I Z rt, I Z n, B rg, I Z rid, S qa ql qc])] [⟨b, false, 41, [I Z id, S fa fl fc, S ra rl rc, S wa wl wc, I Z bud, S la ll lc, I Z now, I Z goal, B back, S ka kl kc, I Z nx, S sa sl sc, S ta tl tc, B up, S na nl nc, S ma ml mc]⟩] K) = (
 (fun w8:AV=>(fun w7:AV=>(fun w6:AV=>(fun w5:LL=>∀ a:Nat,(Y Tryz.prog 144 [A w8,A w7,A w6] H fun c d =>∃ e g h i j k l m o p q,c = T #[A #[S e g h,I Z i,I Z j,B k,S l m o,I Z p],I Z q]/\ (X base H d->∀ r:Nat,(¬q = 0->K (I Z q) w5 d)/\ (¬¬q = 0->(Y Tryz.prog 219 [A #[S sa sl sc,S ta tl tc],A w6] d fun s t =>∃ u v w x y z,(fun w1:LL=>∃ a1,s = T #[A #[S u v w,S x y z],I Z a1]/\ (X base d t->∀ b1:Nat,(a1 = 0->K (I Z a1) w1 t/\ K (I Z a1) w1 t)/\ (¬a1 = 0->K (I Z a1) w5 t))) [[I Z id,S fa fl fc,S ra rl rc,S wa wl wc,I Z bud,S e g h,I Z i,I Z j,B k,S l m o,I Z p,S u v w,S x y z,B up,S na nl nc,S ma ml mc]])/\ ∀ s:Nat,Y Tryz.prog 219 [A #[S sa sl sc,S ta tl tc],A w6] d fun t u =>∃ v w x y z a1,(fun w2:LL=>∃ b1,t = T #[A #[S v w x,S y z a1],I Z b1]/\ (X base d u->(b1 = 0->K (I Z b1) w2 u/\ K (I Z b1) w2 u)/\ (¬b1 = 0->K (I Z b1) w5 u))) [[I Z id,S fa fl fc,S ra rl rc,S wa wl wc,I Z bud,S e g h,I Z i,I Z j,B k,S l m o,I Z p,S v w x,S y z a1,B up,S na nl nc,S ma ml mc]])))/\ ∀ c:Nat,Y Tryz.prog 144 [A w8,A w7,A w6] H fun d e =>∃ g h i j k l m o p q r,d = T #[A #[S g h i,I Z j,I Z k,B l,S m o p,I Z q],I Z r]/\ (X base H e->(¬r = 0->K (I Z r) w5 e)/\ (¬¬r = 0->(Y Tryz.prog 219 [A #[S sa sl sc,S ta tl tc],A w6] e fun s t =>∃ u v w x y z,(fun w3:LL=>∃ a1,s = T #[A #[S u v w,S x y z],I Z a1]/\ (X base e t->∀ b1:Nat,(a1 = 0->K (I Z a1) w3 t/\ K (I Z a1) w3 t)/\ (¬a1 = 0->K (I Z a1) w5 t))) [[I Z id,S fa fl fc,S ra rl rc,S wa wl wc,I Z bud,S g h i,I Z j,I Z k,B l,S m o p,I Z q,S u v w,S x y z,B up,S na nl nc,S ma ml mc]])/\ ∀ s:Nat,Y Tryz.prog 219 [A #[S sa sl sc,S ta tl tc],A w6] e fun t u =>∃ v w x y z a1,(fun w4:LL=>∃ b1,t = T #[A #[S v w x,S y z a1],I Z b1]/\ (X base e u->(b1 = 0->K (I Z b1) w4 u/\ K (I Z b1) w4 u)/\ (¬b1 = 0->K (I Z b1) w5 u))) [[I Z id,S fa fl fc,S ra rl rc,S wa wl wc,I Z bud,S g h i,I Z j,I Z k,B l,S m o p,I Z q,S v w x,S y z a1,B up,S na nl nc,S ma ml mc]]))) [[I Z id,S fa fl fc,S ra rl rc,S wa wl wc,I Z bud,S la ll lc,I Z now,I Z goal,B back,S ka kl kc,I Z nx,S sa sl sc,S ta tl tc,B up,S na nl nc,S ma ml mc]]) #[I Z
 kd,I Z ag,I Z rt,I Z n,B rg,I Z rid,S qa ql qc]) #[S la ll lc,I Z now,I Z goal,B back,S ka kl kc,I Z nx]) #[I Z id,S fa fl fc,S ra rl rc,S wa wl wc,I Z bud]) := by kernel_rfl
theorem vx221 (b : Nat) (id bud : Int) (fa ra wa : O) (fl fc rl rc wl wc : Nat) (now goal nx : Int) (back : Bool) (la ka : O) (ll lc kl kc : Nat) (sa ta : O) (sl sc tl tc : Nat) (up : Bool) (na ma : O) (nl nc ml mc : Nat) (mg mt mid : Int) (mr mgd : Bool) (pa : O) (pl pc : Nat) (base : Nat) (H : Heap) (K : KT) :
 (fV TryzMutsJ Tryz.f221 base H [.loc 0 0, .v (A #[I Z mg, I Z mt, B mr, B mgd, I Z mid, S pa pl pc])] [⟨b, false, 41, [I Z id, S fa fl fc, S ra rl rc, S wa wl wc, I Z bud, S la ll lc, I Z now, I Z goal, B back, S ka kl kc, I Z nx, S sa sl sc, S ta tl tc, B up, S na nl nc, S ma ml mc]⟩] K) = (
 ∀ a:Nat,Y Tryz.prog 245 [S ma ml mc,A #[I Z mg,I Z mt,B mr,B mgd,I Z mid,S pa pl pc]] H fun c d =>∃ e g h i,c = T #[S e g h,I Z i]/\ (X base H d->(i = 0->K (T #[]) [[I Z id,S fa fl fc,S ra rl rc,S wa wl wc,I Z bud,S la ll lc,I Z now,I Z goal,B back,S ka kl kc,I Z nx,S sa sl sc,S ta tl tc,B up,S na nl nc,S e g h]] d)/\ (¬i = 0->K (T #[]) [[I Z id,S fa fl fc,S ra rl rc,S wa wl wc,I Z bud,S la ll lc,I Z now,I Z goal,B back,S ka kl kc,I Z nx,S sa sl sc,S ta tl tc,B up,S na nl nc,S ma ml mc]] d))) := by kernel_rfl
theorem vx180 (b : Nat) (id bud : Int) (fa ra wa : O) (fl fc rl rc wl wc : Nat) (now goal nx : Int) (back : Bool) (la ka : O) (ll lc kl kc : Nat) (sa ta : O) (sl sc tl tc : Nat) (up : Bool) (na ma : O) (nl nc ml mc : Nat) (k : Int) (base : Nat) (H : Heap) (K : KT) :
 (fV TryzMutsJ Tryz.f180 base H [.loc 0 0, .v (I Z k)] [⟨b, false, 41, [I Z id, S fa fl fc, S ra rl rc, S wa wl wc, I Z bud, S la ll lc, I Z now, I Z goal, B back, S ka kl kc, I Z nx, S sa sl sc, S ta tl tc, B up, S na nl nc, S ma ml mc]⟩] K) = (
 ∃ a c,na = some (D a c none)/\ 0 <= k/\ k < (nl:Int)/\ ∃ (d:O) (e g:Nat) (h i:Int) (j:Bool) (l:Int) (m:O) (n o:Nat) (p:Bool),(C H a (c + N k * 10) = some (S d e g)/\ C H a (c + N k * 10 + 1) = some (I Z h)/\ C H a (c + N k * 10 + 2) = some (I Z i)/\ C H a (c + N k * 10 + 3) = some (B j)/\ C H a (c + N k * 10 + 4) = some (I Z l)/\ C H a (c + N k * 10 + 5) = some (S m n o)/\ C H a (c + N k * 10 + 6) = some (B p)/\ True)/\ ∀ q:Nat,YO Tryz.prog 221 [P (some (D b 0 none)),A #[I Z k,I Z i,B true,B p,I Z 0,S none 0 0]] [J b false 41 [I Z id,S fa fl fc,S ra rl rc,S wa wl wc,I Z bud,S la ll lc,I Z now,I Z goal,B back,S ka kl kc,I Z nx,S sa sl sc,S ta tl tc,B up,S na nl nc,S ma ml mc]] H fun r s t =>r = T #[]/\ ∃ (u:Int) (v:O) (w x:Nat) (y:O) (z a1:Nat) (b1:O) (c1 d1:Nat) (e1:Int) (f1:O) (g1 h1:Nat) (i1 j1:Int) (k1:Bool) (l1:O) (m1 n1:Nat) (o1:Int) (p1:O) (q1 r1:Nat) (s1:O) (t1 u1:Nat) (v1:Bool) (w1:O) (x1 y1:Nat) (z1:O) (a2 b2:Nat),(fun w2:LL=>s = w2/\ (X base H t->K (T #[]) w2 t)) [[I Z u,S v w x,S y z a1,S b1 c1 d1,I Z e1,S f1 g1 h1,I Z i1,I Z j1,B k1,S l1 m1 n1,I Z o1,S p1 q1 r1,S s1 t1 u1,B v1,S w1 x1 y1,S z1 a2 b2]]) := by kernel_rfl
theorem vx177 (b : Nat) (id bud : Int) (fa ra wa : O) (fl fc rl rc wl wc : Nat) (now goal nx : Int) (back : Bool) (la ka : O) (ll lc kl kc : Nat) (sa ta : O) (sl sc tl tc : Nat) (up : Bool) (na ma : O) (nl nc ml mc : Nat) (hk hg hn : Int) (hgd : Bool) (ha : O) (hl hc : Nat) (base : Nat) (H : Heap) (K : KT) :
 (fV TryzMutsJ Tryz.f177 base H [.loc 0 0, .v (A #[I Z hk, I Z hg, I Z hn, B hgd, S ha hl hc])] [⟨b, false, 41, [I Z id, S fa fl fc, S ra rl rc, S wa wl wc, I Z bud, S la ll lc, I Z now, I Z goal, B back, S ka kl kc, I Z nx, S sa sl sc, S ta tl tc, B up, S na nl nc, S ma ml mc]⟩] K) = (
 (fun w11:LV=>(fun w10:LV=>(fun w9:LV=>∀ a:Nat,(Y Tryz.prog 220 w10 H fun c d =>∃ e g h i j k,c = T #[B e,A #[I Z g,S h i j],I Z k]/\ (X base H d->∀ l:Nat,(¬k = 0->K (I Z k) [w9] d)/\ (¬¬k = 0->(hk = 4->∃ m n,ka = some (D m n none)/\ 0 <= hg/\ hg < (kl:Int)/\ ∃ (o p:Int) (q:Bool),(C d m (n + N hg * 3) = some (I Z o)/\ C d m (n + N hg * 3 + 1) = some (I Z p)/\ C d m (n + N hg * 3 + 2) = some (B q)/\ True)/\ ∀ r:Nat,(¬o = 1->K (I Z 7) [w9] d)/\ (¬¬o = 1->∃ s,RunsTo Tryz.prog (binRun BinOp.neq 4 (Operand.tmp 54) (Operand.tmp 60) (B q) (B back)) (B s)/\ (s = true->K (I Z 7) [w9] d)/\ (¬s = true->YO Tryz.prog 221 [P (some (D b 0 none)),A #[I Z hg,I Z p,B false,B false,I Z g,S h i j]] [J b false 41 w9] d fun t u v =>t = T #[]/\ ∃ (w:Int) (x:O) (y z:Nat) (a1:O) (b1 c1:Nat) (d1:O) (e1 f1:Nat) (g1:Int) (h1:O) (i1 j1:Nat) (k1 l1:Int) (m1:Bool) (n1:O) (o1 p1:Nat) (q1:Int) (r1:O) (s1 t1:Nat) (u1:O) (v1 w1:Nat) (x1:Bool) (y1:O) (z1 a2:Nat) (b2:O) (c2 d2:Nat),(fun w3:LL=>u = w3/\ (X base d v->K (I Z 0) w3 v)) [[I Z w,S x y z,S a1 b1 c1,S d1 e1 f1,I Z g1,S h1 i1 j1,I Z k1,I Z l1,B m1,S n1 o1 p1,I Z q1,S r1 s1 t1,S u1 v1 w1,B x1,S y1 z1 a2,S b2 c2 d2]])))/\ (¬hk = 4->YO Tryz.prog 176 w11 [J b false 41 w9] d fun m n o =>∃ p,m = I Z p/\ ∃ (q:Int) (r:O) (s t:Nat) (u:O) (v w:Nat) (x:O) (y z:Nat) (a1:Int) (b1:O) (c1 d1:Nat) (e1 f1:Int) (g1:Bool) (h1:O) (i1 j1:Nat) (k1:Int) (l1:O) (m1 n1:Nat) (o1:O) (p1 q1:Nat) (r1:Bool) (s1:O) (t1 u1:Nat) (v1:O) (w1 x1:Nat),(fun w5:LV=>n = [w5]/\ (X base d o->(¬p = 0->K (I Z p) [w5] o)/\ (¬¬p = 0->YO Tryz.prog 221 [P (some (D b 0 none)),A #[I Z hg,I Z nx,B false,B false,I Z g,S h i j]] [J b false 41 w5] o fun y1 z1 a2 =>y1 = T #[]/\ ∃ (b2:Int) (c2:O) (d2 e2:Nat) (f2:O) (g2 h2:Nat) (i2:O) (j2 k2:Nat) (l2:Int) (m2:O) (n2 o2:Nat) (p2 q2:Int) (r2:Bool) (s2:O) (t2 u2:Nat) (v2:Int) (w2:O) (x2 y2:Nat) (z2:O) (a3 b3:Nat) (c3:Bool) (d3:O) (e3 f3:Nat) (g3:O) (h3 i3:Nat),(fun w4:LL=>z1 = w4/\ (X base o a2->K (I Z 0) w4 a2)) [[I Z b2,S c2 d2 e2,S f2 g2 h2,S i2 j2 k2,I Z l2,S m2 n2 o2,I Z p2,I Z q2,B r2,S s2 t2 u2,I Z v2,S w2
 x2 y2,S z2 a3 b3,B c3,S d3 e3 f3,S g3 h3 i3]]))) [I Z q,S r s t,S u v w,S x y z,I Z a1,S b1 c1 d1,I Z e1,I Z f1,B g1,S h1 i1 j1,I Z k1,S l1 m1 n1,S o1 p1 q1,B r1,S s1 t1 u1,S v1 w1 x1]))))/\ ∀ c:Nat,Y Tryz.prog 220 w10 H fun d e =>∃ g h i j k l,d = T #[B g,A #[I Z h,S i j k],I Z l]/\ (X base H e->(¬l = 0->K (I Z l) [w9] e)/\ (¬¬l = 0->(hk = 4->∃ m n,ka = some (D m n none)/\ 0 <= hg/\ hg < (kl:Int)/\ ∃ (o p:Int) (q:Bool),(C e m (n + N hg * 3) = some (I Z o)/\ C e m (n + N hg * 3 + 1) = some (I Z p)/\ C e m (n + N hg * 3 + 2) = some (B q)/\ True)/\ ∀ r:Nat,(¬o = 1->K (I Z 7) [w9] e)/\ (¬¬o = 1->∃ s,RunsTo Tryz.prog (binRun BinOp.neq 4 (Operand.tmp 54) (Operand.tmp 60) (B q) (B back)) (B s)/\ (s = true->K (I Z 7) [w9] e)/\ (¬s = true->YO Tryz.prog 221 [P (some (D b 0 none)),A #[I Z hg,I Z p,B false,B false,I Z h,S i j k]] [J b false 41 w9] e fun t u v =>t = T #[]/\ ∃ (w:Int) (x:O) (y z:Nat) (a1:O) (b1 c1:Nat) (d1:O) (e1 f1:Nat) (g1:Int) (h1:O) (i1 j1:Nat) (k1 l1:Int) (m1:Bool) (n1:O) (o1 p1:Nat) (q1:Int) (r1:O) (s1 t1:Nat) (u1:O) (v1 w1:Nat) (x1:Bool) (y1:O) (z1 a2:Nat) (b2:O) (c2 d2:Nat),(fun w6:LL=>u = w6/\ (X base e v->K (I Z 0) w6 v)) [[I Z w,S x y z,S a1 b1 c1,S d1 e1 f1,I Z g1,S h1 i1 j1,I Z k1,I Z l1,B m1,S n1 o1 p1,I Z q1,S r1 s1 t1,S u1 v1 w1,B x1,S y1 z1 a2,S b2 c2 d2]])))/\ (¬hk = 4->YO Tryz.prog 176 w11 [J b false 41 w9] e fun m n o =>∃ p,m = I Z p/\ ∃ (q:Int) (r:O) (s t:Nat) (u:O) (v w:Nat) (x:O) (y z:Nat) (a1:Int) (b1:O) (c1 d1:Nat) (e1 f1:Int) (g1:Bool) (h1:O) (i1 j1:Nat) (k1:Int) (l1:O) (m1 n1:Nat) (o1:O) (p1 q1:Nat) (r1:Bool) (s1:O) (t1 u1:Nat) (v1:O) (w1 x1:Nat),(fun w8:LV=>n = [w8]/\ (X base e o->(¬p = 0->K (I Z p) [w8] o)/\ (¬¬p = 0->YO Tryz.prog 221 [P (some (D b 0 none)),A #[I Z hg,I Z nx,B false,B false,I Z h,S i j k]] [J b false 41 w8] o fun y1 z1 a2 =>y1 = T #[]/\ ∃ (b2:Int) (c2:O) (d2 e2:Nat) (f2:O) (g2 h2:Nat) (i2:O) (j2 k2:Nat) (l2:Int) (m2:O) (n2 o2:Nat) (p2 q2:Int) (r2:Bool) (s2:O) (t2 u2:Nat) (v2:Int) (w2:O) (x2 y2:Nat) (z2:O) (a3 b3:Nat) (c3:Bool) (d3:O) (e3 f3:Nat) (g3:O) (h3 i3:Nat),(fun
 w7:LL=>z1 = w7/\ (X base o a2->K (I Z 0) w7 a2)) [[I Z b2,S c2 d2 e2,S f2 g2 h2,S i2 j2 k2,I Z l2,S m2 n2 o2,I Z p2,I Z q2,B r2,S s2 t2 u2,I Z v2,S w2 x2 y2,S z2 a3 b3,B c3,S d3 e3 f3,S g3 h3 i3]]))) [I Z q,S r s t,S u v w,S x y z,I Z a1,S b1 c1 d1,I Z e1,I Z f1,B g1,S h1 i1 j1,I Z k1,S l1 m1 n1,S o1 p1 q1,B r1,S s1 t1 u1,S v1 w1 x1])))) [I Z id,S fa fl fc,S ra rl rc,S wa wl wc,I Z bud,S la ll lc,I Z now,I Z goal,B back,S ka kl kc,I Z nx,S sa sl sc,S ta tl tc,B up,S na nl nc,S ma ml mc]) [A #[I Z id,S fa fl fc,S ra rl rc,S wa wl wc,I Z bud],A #[S la ll lc,I Z now,I Z goal,B back,S ka kl kc,I Z nx],I Z hg]) [P (some (D b 0 none)),A #[I Z 6,I Z hg,I Z nx,I Z 0,B false,I Z 0,S none 0 0]]) := by kernel_rfl
open Go Go.Proofs
theorem Spec.frame {P : Program} {f : FuncId} {args : List Value} {G H : Heap} {Q : Value->Heap->Prop} (h : Spec P f args G Q) (e : Ext G H) :
  Spec P f args H fun v H' => ∃ G', Ext G G'/\ Ext G' H'/\ (∀ x k, G' x = some k->G x = none->H x = none)/\ Q v G' := fun w hw hb => by
 refine (h w (hw.sub e) ⟨fun x hx => (by cases hx), fun x hx => (by cases hx), by simp⟩).mono fun en w' he => ?_
 obtain ⟨v, css, G', h1, h2, hB, hs, hbx, hN, hQ⟩ := he
 have hnew : ∀ x k, G' x = some k->G x = none->H x = none := fun x k hx hn => by
  have h0 := hN.fresh x k hx hn
  cases hh : H x with
  | none => rfl
  | some k' => have := hw.lt hh; omega
 refine ⟨v, css, H.plus G', h1, h2, hB, fun x k hx => ?_, ⟨fun y hy => (by cases css <;> cases hy), fun y hy => (by cases css <;> cases hy), by cases css <;> simp [setAll]⟩, ⟨plus_left, fun x k hx hn => ?_⟩, G', hN.ext, plus_right fun x k hx k' hh => ?_, hnew, hQ⟩
 ·unfold Heap.plus at hx
  cases hh : H x with
  | some k' =>
   rw [hh] at hx
   obtain rfl := Option.some.inj hx
   rw [hB.block x (hw.lt hh) (by simp)]
   exact hw x _ hh
  | none => rw [hh] at hx; exact hs x k hx
 ·unfold Heap.plus at hx
  rw [hn] at hx
  cases hg : G x with
  | none => exact hN.fresh x k hx hg
  | some k' => rw [e x k' hg] at hn; cases hn
 ·cases hg : G x with
  | none => rw [hnew x k hx hg] at hh; cases hh
  | some k0 =>
   have a1 := hN.ext x k0 hg
   have a2 := e x k0 hg
   rw [hx] at a1
   rw [hh] at a2
   rw [Option.some.inj a2, ← Option.some.inj a1]
open Go Go.Proofs
theorem SpecO.frame {P : Program} {f : FuncId} {args : List Value} {own : List Bx} {G H : Heap} {Q : Value->List (List Value)->Heap->Prop} (h : SpecO P f args own G Q) (e : Ext G H) :
  SpecO P f args own H fun v css H' => ∃ G', Ext G G'/\ Ext G' H'/\ Ext H H'/\ (∀ x k, G' x = some k->G x = none->H x = none)/\ Q v css G' := fun w hw hb => by
 have hid : ∀ x ∈ own, G x.b = none := fun x hx => by
  cases hg : G x.b with
  | none => rfl
  | some k => have := hb.hid x hx; rw [e _ k hg] at this; cases this
 refine (h w (hw.sub e) ⟨hb.ok, hid, hb.apart⟩).mono fun en w' he => ?_
 obtain ⟨v, css, G', h1, h2, hB, hs, hbx, hN, hQ⟩ := he
 have hnew : ∀ x k, G' x = some k->G x = none->H x = none := fun x k hx hn => by
  have h0 := hN.fresh x k hx hn
  cases hh : H x with
  | none => rfl
  | some k' => have := hw.lt hh; omega
 have hown : ∀ x k, H x = some k->x ∉ own.map Bx.b := fun x k hx hm => by
  obtain ⟨y, hy, rfl⟩ := List.mem_map.1 hm
  rw [hb.hid y hy] at hx; cases hx
 have hsetb : ∀ y ∈ setAll own css, y.b ∈ own.map Bx.b := by
  have key : ∀ (xs : List Bx) (cs : List (List Value)), ∀ y ∈ setAll xs cs, y.b ∈ xs.map Bx.b := by
   intro xs
   induction xs with
   | nil => intro cs y hy; cases cs <;> cases hy
   | cons x r ih =>
    intro cs y hy
    cases cs with
    | nil => cases hy
    | cons c cs =>
     rcases List.mem_cons.1 hy with rfl | hy
     ·simp [Bx.set]
     ·exact List.mem_cons_of_mem _ (ih cs y hy)
  exact key own css
 refine ⟨v, css, H.plus G', h1, h2, hB, fun x k hx => ?_, ⟨hbx.ok, fun y hy => ?_, hbx.apart⟩, ⟨plus_left, fun x k hx hn => ?_⟩, G', hN.ext, plus_right fun x k hx k' hh => ?_, plus_left, hnew, hQ⟩
 ·unfold Heap.plus at hx
  cases hh : H x with
  | some k' =>
   rw [hh] at hx
   obtain rfl := Option.some.inj hx
   rw [hB.block x (hw.lt hh) (hown x _ hh)]
   exact hw x _ hh
  | none => rw [hh] at hx; exact hs x k hx
 ·have h3 := hbx.hid y hy
  obtain ⟨z, hz, hzy⟩ := List.mem_map.1 (hsetb y hy)
  have h4 := hb.hid z hz
  rw [hzy] at h4
  unfold Heap.plus
  rw [h4]; exact h3
 ·unfold Heap.plus at hx
  rw [hn] at hx
  cases hg : G x with
  | none => exact hN.fresh x k hx hg
  | some k' => rw [e x k' hg] at hn; cases hn
 ·cases hg : G x with
  | none => rw [hnew x k hx hg] at hh; cases hh
  | some k0 =>
   have a1 := hN.ext x k0 hg
   have a2 := e x k0 hg
   rw [hx] at a1
   rw [hh] at a2
   rw [Option.some.inj a2, ← Option.some.inj a1]
def lookB (own : List Bx) (x : Nat) : Option KB := (own.find? fun y => y.b == x).map fun y => boxKB y.ty y.cs
def seenBy (own : List Bx) (a : Nat) (H : Heap) : Heap := fun x => if x = a then none else match H x with | some k => some k | none => lookB own x
def unseen (own : List Bx) (H : Heap) : Heap := fun x => match lookB own x with | some _ => none | none => H x
theorem lookB_mem {own : List Bx} {x : Nat} {k : KB} (h : lookB own x = some k) : ∃ y ∈ own, y.b = x/\ k = boxKB y.ty y.cs := by
 unfold lookB at h
 cases hf : own.find? (fun y => y.b == x) with
 | none => rw [hf] at h; cases h
 | some y =>
  rw [hf] at h
  have := List.find?_some hf
  exact ⟨y, List.mem_of_find?_eq_some hf, by simpa using this, (Option.some.inj h).symm⟩
theorem lookB_none {own : List Bx} {x : Nat} (h : lookB own x = none) : ∀ y ∈ own, y.b ≠ x := fun y hy e => by
 unfold lookB at h
 rw [Option.map_eq_none_iff, List.find?_eq_none] at h
 exact h y hy (by simpa using e)
theorem lookB_of {own : List Bx} (hn : (own.map Bx.b).Nodup) {y : Bx} (hy : y ∈ own) : lookB own y.b = some (boxKB y.ty y.cs) := by
 cases h : lookB own y.b with
 | none => exact absurd rfl (lookB_none h y hy)
 | some k =>
  obtain ⟨z, hz, hzb, rfl⟩ := lookB_mem h
  have : z = y := by
   have key : ∀ (l : List Bx), (l.map Bx.b).Nodup->z ∈ l->y ∈ l->z = y := by
    intro l
    induction l with
    | nil => intro _ h; cases h
    | cons x r ih =>
     intro hn hz hy
     rw [List.map_cons, List.nodup_cons] at hn
     rcases List.mem_cons.1 hz with e1 | hz
     ·rcases List.mem_cons.1 hy with e2 | hy
      ·rw [e1, e2]
      ·exact absurd (List.mem_map_of_mem (f := Bx.b) hy) (by rw [← hzb, e1]; exact hn.1)
     ·rcases List.mem_cons.1 hy with e2 | hy
      ·exact absurd (List.mem_map_of_mem (f := Bx.b) hz) (by rw [hzb, e2]; exact hn.1)
      ·exact ih hn.2 hz hy
   exact key own hn hz hy
  rw [this]
theorem seenBy_ext {own : List Bx} {a : Nat} {H : Heap} (h : H a = none) : Ext H (seenBy own a H) := fun x k hx => by
 unfold seenBy
 rw [if_neg (fun e => by rw [e, h] at hx; cases hx), hx]
theorem unseen_sub {own : List Bx} {H : Heap} : Ext (unseen own H) H := fun x k h => by
 unfold unseen at h
 split at h
 ·cases h
 ·exact h
theorem box_sees {y : Bx} {w : World} (h : y.ok w) (hm : y.map = false) : (boxKB y.ty y.cs).sees w.heap[y.b]? := by
 unfold Bx.ok at h
 rw [hm] at h
 exact ⟨_, _, h, by simp [boxKB], fun _ => rfl, fun j v hj => by simpa [boxKB] using hj⟩
theorem sees_box {y : Bx} {w : World} (h : (boxKB y.ty y.cs).sees w.heap[y.b]?) (hm : y.map = false) : y.ok w := by
 obtain ⟨cur, fr, h1, h2, h3, h4⟩ := h
 unfold Bx.ok
 rw [hm]
 show w.heap[y.b]? = some (.cells y.cs.toArray y.ty (0, 0))
 rw [h1, h3 rfl]
 have e : cur = y.cs.toArray := by
  apply Array.ext
  ·rw [h2]; simp [boxKB]
  ·intro j hj1 hj2
   have := h4 j (y.cs[j]'(by simpa using hj2)) (by simp [boxKB])
   rw [Array.getElem?_eq_getElem hj1] at this
   simpa using Option.some.inj this
 rw [e]; rfl
def patchW (own : List Bx) (w0 w : World) : World := { w0 with heap := Array.ofFn (n := w0.heap.size) fun k => if own.any (fun y => y.b == k.val) then (w.heap[k.val]?).getD w0.heap[k] else w0.heap[k] }
theorem patch_size {own : List Bx} {w0 w : World} : (patchW own w0 w).heap.size = w0.heap.size := by simp [patchW]
theorem patch_other {own : List Bx} {w0 w : World} {k : Nat} (h : ∀ y ∈ own, y.b ≠ k) : (patchW own w0 w).heap[k]? = w0.heap[k]? := by
 have hf : own.any (fun y => y.b == k) = false := by
  rw [List.any_eq_false]; intro y hy; simpa using h y hy
 rcases Nat.lt_or_ge k w0.heap.size with hk | hk
 ·rw [Array.getElem?_eq_getElem (by rw [patch_size]; exact hk), Array.getElem?_eq_getElem hk]
  simp only [patchW, Array.getElem_ofFn, hf, Bool.false_eq_true, if_false]
  rfl
 ·rw [Array.getElem?_eq_none (by rw [patch_size]; exact hk), Array.getElem?_eq_none hk]
theorem patch_box {own : List Bx} {w0 w : World} {k : Nat} {y : Bx} (hy : y ∈ own) (hb : y.b = k) (hk : k < w0.heap.size) (hle : w0.heap.size <= w.heap.size) : (patchW own w0 w).heap[k]? = w.heap[k]? := by
 have hf : own.any (fun y => y.b == k) = true := List.any_eq_true.2 ⟨y, hy, by simpa using hb⟩
 rw [Array.getElem?_eq_getElem (by rw [patch_size]; exact hk), Array.getElem?_eq_getElem (Nat.lt_of_lt_of_le hk hle)]
 simp only [patchW, Array.getElem_ofFn, hf, if_true]
 rw [Array.getElem?_eq_getElem (Nat.lt_of_lt_of_le hk hle)]; rfl
theorem local_run {P : Program} {muts : Muts} (hin : InlOk P muts) {C : Cfg} {w0 : World} {own0 : List Nat} {own : List Bx} {H : Heap} {w : World} (hw : StW C w0 own0 own H w) {i : Nat} {X : Bx} (hX : own[i]? = some X) (hm : ∀ y ∈ own, y.map = false)
  {g : FuncId} {pre : List SV} (hwf : ∀ s ∈ pre, SV.wf 1 s) {R : Nat->Prop} (hR : ∀ y ∈ own, ¬ R y.b) {post : Value->List Value->Heap->Prop}
  (h : ∀ H0, ∃ q, muts.inl C.base H0 g pre [X] (seenBy own X.b H) (fun s own1 H1 => ∃ cs', own1[0]? = some (X.set cs')/\ (∀ x k, seenBy own X.b H x = some k->¬ R x->H1 x = some k)/\ post (s.val own1) cs' H1) = some q/\ q) :
  Calls P g (pre.map (SV.val [X])).toArray w fun e w' => ∃ v cs' H1, e = .returned v/\ post v cs' H1/\ (∀ x k, seenBy own X.b H x = some k->¬ R x->H1 x = some k)/\ H1 X.b = none/\ StW C w0 own0 (own.set i (X.set cs')) (unseen own H1) w' := by
 have hXm := List.mem_of_getElem? hX
 have hle : w0.heap.size <= w.heap.size := hw.below.size
 have hHX : H X.b = none := hw.boxes.hid X hXm
 have hC0 : ∀ y ∈ own, C.H0 y.b = none := fun y hy => by
  cases hc : C.H0 y.b with
  | none => rfl
  | some k => have := hw.boxes.hid y hy; rw [hw.next.ext _ k hc] at this; cases this
 let H0p : Heap := fun x => match C.H0 x with | some k => some k | none => if x < C.base/\ x ≠ X.b then lookB own x else none
 obtain ⟨q, hq, hqq⟩ := h H0p
 obtain ⟨_, hcall⟩ := hin _ _ _ _ _ _ _ _ hq
 let C' : Cfg := { C with H0 := H0p }
 have hH0p : ∀ x k, H0p x = some k->C.H0 x = some k ∨ (C.H0 x = none/\ x < C.base/\ x ≠ X.b/\ lookB own x = some k) := fun x k hx => by
  simp only [H0p] at hx
  cases hc : C.H0 x with
  | some k' => rw [hc] at hx; exact .inl hx
  | none =>
   rw [hc] at hx
   simp only at hx
   split at hx
   ·rename_i hcond; exact .inr ⟨rfl, hcond.1, hcond.2, hx⟩
   ·cases hx
 have hseen : Sees (seenBy own X.b H) w := fun x k hx => by
  unfold seenBy at hx
  split at hx
  ·cases hx
  ·split at hx
   ·rename_i k' hk
    obtain rfl := Option.some.inj hx
    exact hw.sees x _ hk
   ·obtain ⟨y, hy, rfl, rfl⟩ := lookB_mem hx
    exact box_sees (hw.boxes.ok y hy) (hm y hy)
 have hst : StW C' (patchW own w0 w) own0 [X] (seenBy own X.b H) w := by
  refine ⟨hseen, ⟨fun y hy => ?_, fun y hy => ?_, by simp⟩, fun y hy => ?_, ⟨hw.below.os, hw.below.tape, hw.below.output, by rw [patch_size]; exact hle, fun k hk hn => ?_⟩, ⟨fun x k hx => ?_, fun x k hx hn => ?_⟩, ?_, fun x k hx => ?_⟩
  ·obtain rfl : y = X := by simpa using hy
   exact hw.boxes.ok _ hXm
  ·obtain rfl : y = X := by simpa using hy
   unfold seenBy; rw [if_pos rfl]
  ·obtain rfl : y = X := by simpa using hy
   exact hw.locs _ hXm
  ·rw [patch_size] at hk
   by_cases hb : ∃ y ∈ own, y.b = k
   ·obtain ⟨y, hy, hyb⟩ := hb
    rw [patch_box hy hyb hk hle]
   ·rw [patch_other fun y hy e => hb ⟨y, hy, e⟩]
    exact hw.below.block k hk hn
  ·rcases hH0p x k hx with hx | ⟨hc, hlt, hne, hx⟩
   ·exact seenBy_ext hHX x k (hw.next.ext x k hx)
   ·unfold seenBy
    rw [if_neg hne]
    obtain ⟨y, hy, rfl, rfl⟩ := lookB_mem hx
    rw [hw.boxes.hid y hy]; exact hx
  ·have hn' : C.H0 x = none := by
    cases hc : C.H0 x with
    | none => rfl
    | some k' => have hn : H0p x = none := hn; simp only [H0p, hc] at hn; cases hn
   unfold seenBy at hx
   split at hx
   ·cases hx
   ·rename_i hne
    split at hx
    ·rename_i k' hk
     exact hw.next.fresh x _ hk hn'
    ·rcases Nat.lt_or_ge x C.base with hlt | hge
     ·have hn : H0p x = none := hn
      simp only [H0p, hn', if_pos (And.intro hlt hne)] at hn
      rw [hn] at hx; cases hx
     ·exact hge
  ·show C.base = _
   rw [patch_size]; exact hw.base
  ·rcases hH0p x k hx with hx | ⟨hc, hlt, hne, hx⟩
   ·have hno : ∀ y ∈ own, y.b ≠ x := fun y hy e => by rw [← e, hC0 y hy] at hx; cases hx
    rw [patch_other hno]
    exact hw.seen0 x k hx
   ·obtain ⟨y, hy, rfl, rfl⟩ := lookB_mem hx
    rw [patch_box hy rfl (by rw [← hw.base]; exact hlt) hle]
    exact box_sees (hw.boxes.ok y hy) (hm y hy)
 refine (hcall hqq C' (patchW own w0 w) own0 w rfl rfl hst hwf).mono fun e w' he => ?_
 obtain ⟨v, own1, H1, rfl, hf, hext, hw'⟩ := he
 obtain ⟨cs', h0, hkeep, hpost⟩ := hf
 have h0m := List.mem_of_getElem? h0
 have hH1X : H1 X.b = none := by simpa [Bx.set] using hw'.boxes.hid _ h0m
 refine ⟨v, cs', H1, rfl, hpost, hkeep, hH1X, ?_⟩
 have hXl := (List.getElem?_eq_some_iff.1 hX).1
 have hmem : ∀ y ∈ own.set i (X.set cs'), y = X.set cs' ∨ (y ∈ own/\ y.b ≠ X.b) := fun y hy => by
  obtain ⟨j, hj⟩ := List.mem_iff_getElem?.1 hy
  rw [List.getElem?_set] at hj
  split at hj
  ·rename_i e
   subst e
   first | rw [if_pos hXl] at hj | skip
   exact .inl (Option.some.inj hj).symm
  ·rename_i hne
   have hym := List.mem_of_getElem? hj
   refine .inr ⟨hym, fun e => hne ?_⟩
   have hnd := hw.boxes.apart
   have hj1 : (own.map Bx.b)[j]? = some X.b := by rw [List.getElem?_map, hj]; simp [e]
   have hi1 : (own.map Bx.b)[i]? = some X.b := by rw [List.getElem?_map, hX]; rfl
   obtain ⟨hjl, hj2⟩ := List.getElem?_eq_some_iff.1 hj1
   obtain ⟨hil, hi2⟩ := List.getElem?_eq_some_iff.1 hi1
   have hpw := List.pairwise_iff_getElem.1 hnd
   rcases Nat.lt_trichotomy i j with c | c | c
   ·exact absurd (hi2.trans hj2.symm) (hpw i j hil hjl c)
   ·exact c
   ·exact absurd (hj2.trans hi2.symm) (hpw j i hjl hil c)
 have hbs : (own.set i (X.set cs')).map Bx.b = own.map Bx.b := by
  apply List.ext_getElem?
  intro j
  rw [List.getElem?_map, List.getElem?_set, List.getElem?_map]
  split
  ·rename_i e
   subst e
   first | rw [if_pos hXl] | skip
   rw [hX]; rfl
  ·rfl
 refine ⟨fun x k hx => hw'.sees x k (unseen_sub x k hx), ⟨fun y hy => ?_, fun y hy => ?_, by rw [hbs]; exact hw.boxes.apart⟩, fun y hy => ?_, ⟨hw'.below.os, hw'.below.tape, hw'.below.output, by have := hw'.below.size; rw [patch_size] at this; exact this, fun k hk hn => ?_⟩, ⟨fun x k hx => ?_, fun x k hx hn => ?_⟩, hw.base, hw.seen0⟩
 ·rcases hmem y hy with rfl | ⟨hy, hne⟩
  ·exact hw'.boxes.ok _ h0m
  ·have h1 : seenBy own X.b H y.b = some (boxKB y.ty y.cs) := by
    unfold seenBy
    rw [if_neg hne, hw.boxes.hid y hy]
    exact lookB_of hw.boxes.apart hy
   exact sees_box (hw'.sees _ _ (hkeep _ _ h1 (hR y hy))) (hm y hy)
 ·have hy' : ∃ z ∈ own, z.b = y.b := by
   rcases hmem y hy with rfl | ⟨hy, _⟩
   ·exact ⟨X, hXm, rfl⟩
   ·exact ⟨y, hy, rfl⟩
  obtain ⟨z, hz, hzy⟩ := hy'
  unfold unseen
  rw [← hzy, lookB_of hw.boxes.apart hz]
 ·rcases hmem y hy with rfl | ⟨hy, _⟩
  ·exact hw.locs X hXm
  ·exact hw.locs y hy
 ·have h1 := hw'.below.block k (by rw [patch_size]; exact hk) hn
  rw [h1]
  by_cases hb : ∃ y ∈ own, y.b = k
  ·obtain ⟨y, hy, hyb⟩ := hb
   rw [patch_box hy hyb hk hle]
   exact hw.below.block k hk hn
  ·rw [patch_other fun y hy e => hb ⟨y, hy, e⟩]
 ·have hno : lookB own x = none := by
   cases hl : lookB own x with
   | none => rfl
   | some k' =>
    obtain ⟨y, hy, rfl, _⟩ := lookB_mem hl
    rw [hC0 y hy] at hx; cases hx
  unfold unseen
  rw [hno]
  refine hw'.next.ext x k ?_
  show H0p x = some k
  simp only [H0p, hx]
 ·unfold unseen at hx
  split at hx
  ·cases hx
  ·rename_i hl
   refine hw'.next.fresh x k hx ?_
   show H0p x = none
   simp only [H0p, hn, hl, ite_self]
theorem local_run0 {P : Program} {muts : Muts} (hin : InlOk P muts) {C : Cfg} {w0 : World} {own0 : List Nat} {own : List Bx} {H : Heap} {w : World} (hw : StW C w0 own0 own H w) (hm : ∀ y ∈ own, y.map = false)
  {g : FuncId} {pre : List SV} (hwf : ∀ s ∈ pre, SV.wf 0 s) {R : Nat->Prop} (hR : ∀ y ∈ own, ¬ R y.b) {post : Value->Heap->Prop}
  (h : ∀ H0, ∃ q, muts.inl C.base H0 g pre [] (seenBy own w.heap.size H) (fun s own1 H1 => (∀ x k, seenBy own w.heap.size H x = some k->¬ R x->H1 x = some k)/\ post (s.val own1) H1) = some q/\ q) :
  Calls P g (pre.map (SV.val [])).toArray w fun e w' => ∃ v H1, e = .returned v/\ post v H1/\ (∀ x k, seenBy own w.heap.size H x = some k->¬ R x->H1 x = some k)/\ StW C w0 own0 own (unseen own H1) w' := by
 have hle : w0.heap.size <= w.heap.size := hw.below.size
 have hlt : ∀ y ∈ own, y.b ≠ w.heap.size := fun y hy e => by have := Bx.ok_lt (hw.boxes.ok y hy); omega
 have hHX : H w.heap.size = none := by
  cases hh : H w.heap.size with
  | none => rfl
  | some k => have := hw.sees.lt hh; omega
 have hC0 : ∀ y ∈ own, C.H0 y.b = none := fun y hy => by
  cases hc : C.H0 y.b with
  | none => rfl
  | some k => have := hw.boxes.hid y hy; rw [hw.next.ext _ k hc] at this; cases this
 let H0p : Heap := fun x => match C.H0 x with | some k => some k | none => if x < C.base then lookB own x else none
 obtain ⟨q, hq, hqq⟩ := h H0p
 obtain ⟨_, hcall⟩ := hin _ _ _ _ _ _ _ _ hq
 let C' : Cfg := { C with H0 := H0p }
 have hH0p : ∀ x k, H0p x = some k->C.H0 x = some k ∨ (C.H0 x = none/\ x < C.base/\ lookB own x = some k) := fun x k hx => by
  simp only [H0p] at hx
  cases hc : C.H0 x with
  | some k' => rw [hc] at hx; exact .inl hx
  | none =>
   rw [hc] at hx
   simp only at hx
   split at hx
   ·rename_i hcond; exact .inr ⟨rfl, hcond, hx⟩
   ·cases hx
 have hseen : Sees (seenBy own w.heap.size H) w := fun x k hx => by
  unfold seenBy at hx
  split at hx
  ·cases hx
  ·split at hx
   ·rename_i k' hk
    obtain rfl := Option.some.inj hx
    exact hw.sees x _ hk
   ·obtain ⟨y, hy, rfl, rfl⟩ := lookB_mem hx
    exact box_sees (hw.boxes.ok y hy) (hm y hy)
 have hst : StW C' (patchW own w0 w) own0 [] (seenBy own w.heap.size H) w := by
  refine ⟨hseen, ⟨fun y hy => (by cases hy), fun y hy => (by cases hy), by simp⟩, fun y hy => (by cases hy), ⟨hw.below.os, hw.below.tape, hw.below.output, by rw [patch_size]; exact hle, fun k hk hn => ?_⟩, ⟨fun x k hx => ?_, fun x k hx hn => ?_⟩, ?_, fun x k hx => ?_⟩
  ·rw [patch_size] at hk
   by_cases hb : ∃ y ∈ own, y.b = k
   ·obtain ⟨y, hy, hyb⟩ := hb
    rw [patch_box hy hyb hk hle]
   ·rw [patch_other fun y hy e => hb ⟨y, hy, e⟩]
    exact hw.below.block k hk hn
  ·rcases hH0p x k hx with hx | ⟨hc, hlt', hx⟩
   ·exact seenBy_ext hHX x k (hw.next.ext x k hx)
   ·unfold seenBy
    obtain ⟨y, hy, rfl, rfl⟩ := lookB_mem hx
    rw [if_neg (hlt y hy), hw.boxes.hid y hy]; exact hx
  ·have hn' : C.H0 x = none := by
    cases hc : C.H0 x with
    | none => rfl
    | some k' => have hn : H0p x = none := hn; simp only [H0p, hc] at hn; cases hn
   unfold seenBy at hx
   split at hx
   ·cases hx
   ·split at hx
    ·rename_i k' hk
     exact hw.next.fresh x _ hk hn'
    ·rcases Nat.lt_or_ge x C.base with hlt' | hge
     ·have hn : H0p x = none := hn
      simp only [H0p, hn', if_pos hlt'] at hn
      rw [hn] at hx; cases hx
     ·exact hge
  ·show C.base = _
   rw [patch_size]; exact hw.base
  ·rcases hH0p x k hx with hx | ⟨hc, hlt', hx⟩
   ·have hno : ∀ y ∈ own, y.b ≠ x := fun y hy e => by rw [← e, hC0 y hy] at hx; cases hx
    rw [patch_other hno]
    exact hw.seen0 x k hx
   ·obtain ⟨y, hy, rfl, rfl⟩ := lookB_mem hx
    rw [patch_box hy rfl (by rw [← hw.base]; exact hlt') hle]
    exact box_sees (hw.boxes.ok y hy) (hm y hy)
 refine (hcall hqq C' (patchW own w0 w) own0 w rfl rfl hst hwf).mono fun e w' he => ?_
 obtain ⟨v, own1, H1, rfl, hf, hext, hw'⟩ := he
 obtain ⟨hkeep, hpost⟩ := hf
 refine ⟨v, H1, rfl, hpost, hkeep, fun x k hx => hw'.sees x k (unseen_sub x k hx), ⟨fun y hy => ?_, fun y hy => ?_, hw.boxes.apart⟩, hw.locs, ⟨hw'.below.os, hw'.below.tape, hw'.below.output, by have := hw'.below.size; rw [patch_size] at this; exact this, fun k hk hn => ?_⟩, ⟨fun x k hx => ?_, fun x k hx hn => ?_⟩, hw.base, hw.seen0⟩
 ·have h1 : seenBy own w.heap.size H y.b = some (boxKB y.ty y.cs) := by
   unfold seenBy
   rw [if_neg (hlt y hy), hw.boxes.hid y hy]
   exact lookB_of hw.boxes.apart hy
  exact sees_box (hw'.sees _ _ (hkeep _ _ h1 (hR y hy))) (hm y hy)
 ·unfold unseen
  rw [lookB_of hw.boxes.apart hy]
 ·have h1 := hw'.below.block k (by rw [patch_size]; exact hk) hn
  rw [h1]
  by_cases hb : ∃ y ∈ own, y.b = k
  ·obtain ⟨y, hy, hyb⟩ := hb
   rw [patch_box hy hyb hk hle]
   exact hw.below.block k hk hn
  ·rw [patch_other fun y hy e => hb ⟨y, hy, e⟩]
 ·have hno : lookB own x = none := by
   cases hl : lookB own x with
   | none => rfl
   | some k' =>
    obtain ⟨y, hy, rfl, _⟩ := lookB_mem hl
    rw [hC0 y hy] at hx; cases hx
  unfold unseen
  rw [hno]
  refine hw'.next.ext x k ?_
  show H0p x = some k
  simp only [H0p, hx]
 ·unfold unseen at hx
  split at hx
  ·cases hx
  ·rename_i hl
   refine hw'.next.fresh x k hx ?_
   show H0p x = none
   simp only [H0p, hn, hl, ite_self]
theorem unseen_keep {own : List Bx} {H H1 : Heap} {a : Nat} (hid : ∀ y ∈ own, H y.b = none) (ha : H a = none) {x : Nat} {k : KB} (hx : H x = some k) (h : seenBy own a H x = some k->H1 x = some k) : unseen own H1 x = some k := by
 unfold unseen
 cases hl : lookB own x with
 | some k' =>
  obtain ⟨y, hy, rfl, _⟩ := lookB_mem hl
  rw [hid y hy] at hx; cases hx
 | none => exact h (seenBy_ext ha x k hx)
open Go Go.Proofs
structure Parts (H : Heap) (w : Wld) (p : WA) : Prop where
 cfg : CfgAt H w.c p.fa p.fl p.ra p.rl p.wa p.wl
 ldr : LdrAt H w.h.l p.la p.ll p.ka p.kl
 dsk : DskAt H w.h.d p.sa p.sl p.sc p.ta p.tl p.tc
 mail : Mails H p.ma p.ml w.m
theorem Parts.ext {H H' : Heap} {w : Wld} {p : WA} (h : Parts H w p) (e : Ext H H') : Parts H' w p := ⟨h.cfg.ext e, h.ldr.ext e, h.dsk.ext e, Sl.ext RMail.mono h.mail e⟩
def Out (w : Wld) (p : WA) (x : Except Int Wld) (v : Value) (css : List (List Value)) (G' : Heap) : Prop :=
 ∃ p' : WA, v = i64 (errOf x)/\ css = [wldCells (orSame w x) p']/\ Parts G' (orSame w x) p'/\ p'.na = p.na/\ p'.nl = p.nl/\ p'.nc = p.nc/\ (orSame w x).n = w.n
def POut (w : Wld) (p : WA) (y : Wld) (v : Value) (css : List (List Value)) (G' : Heap) : Prop :=
 ∃ p' : WA, v = .tuple #[]/\ css = [wldCells y p']/\ Parts G' y p'/\ p'.na = p.na/\ p'.nl = p.nl/\ p'.nc = p.nc/\ y.n = w.n
theorem Out.bad {w : Wld} {p : WA} {G' : Heap} {x : Except Int Wld} {e : Int} (hx : x = .error e) (h : Parts G' w p) : Out w p x (i64 e) [wldCells w p] G' := by
 subst hx
 exact ⟨p, rfl, rfl, h, rfl, rfl, rfl, rfl⟩
theorem wld16 {css : List (List Value)} {w : Wld} {p : WA} (hc : css = [wldCells w p]) {F : Int->O->Nat->Nat->O->Nat->Nat->O->Nat->Nat->Int->O->Nat->Nat->Int->Int->Bool->O->Nat->Nat->Int->O->Nat->Nat->O->Nat->Nat->Bool->O->Nat->Nat->O->Nat->Nat->Prop} (h : F w.c.first.id p.fa p.fl p.fc p.ra p.rl p.rc p.wa p.wl p.wc w.c.bud p.la p.ll p.lc w.h.l.now w.h.l.goal w.h.l.back p.ka p.kl p.kc w.h.l.nx p.sa p.sl p.sc p.ta p.tl p.tc w.h.up p.na p.nl p.nc p.ma p.ml p.mc) :
  ∃ i1 : Int, ∃ a2 : O, ∃ l2 : Nat, ∃ c2 : Nat, ∃ a3 : O, ∃ l3 : Nat, ∃ c3 : Nat, ∃ a4 : O, ∃ l4 : Nat, ∃ c4 : Nat, ∃ i5 : Int, ∃ a6 : O, ∃ l6 : Nat, ∃ c6 : Nat, ∃ i7 : Int, ∃ i8 : Int, ∃ b9 : Bool, ∃ a10 : O, ∃ l10 : Nat, ∃ c10 : Nat, ∃ i11 : Int, ∃ a12 : O, ∃ l12 : Nat, ∃ c12 : Nat, ∃ a13 : O, ∃ l13 : Nat, ∃ c13 : Nat, ∃ b14 : Bool, ∃ a15 : O, ∃ l15 : Nat, ∃ c15 : Nat, ∃ a16 : O, ∃ l16 : Nat, ∃ c16 : Nat, css = [[.int .i64 i1, .slice a2 l2 c2, .slice a3 l3 c3, .slice a4 l4 c4, .int .i64 i5, .slice a6 l6 c6, .int .i64 i7, .int .i64 i8, .bool b9, .slice a10 l10 c10, .int .i64 i11, .slice a12 l12 c12, .slice a13 l13 c13, .bool b14, .slice a15 l15 c15, .slice a16 l16 c16]]/\ F i1 a2 l2 c2 a3 l3 c3 a4 l4 c4 i5 a6 l6 c6 i7 i8 b9 a10 l10 c10 i11 a12 l12 c12 a13 l13 c13 b14 a15 l15 c15 a16 l16 c16 :=
 ⟨_, _, _, _, _, _, _, _, _, _, _, _, _, _, _, _, _, _, _, _, _, _, _, _, _, _, _, _, _, _, _, _, _, _, hc, h⟩
theorem dskPut_err {d : Dsk} {r : Recd} {e : Int} (h : dskPut d r = .error e) : e ≠ 0 := by
 rintro rfl
 unfold dskPut at h
 split at h
 ·split at h
  ·split at h
   ·cases h
   ·cases h
  ·rename_i h1; injection h with h; exact h1 h
 ·rename_i h1; injection h with h; exact h1 h
theorem dskSync_err {d : Dsk} {e : Int} (h : dskSync d = .error e) : e ≠ 0 := by
 rintro rfl
 unfold dskSync at h
 split at h
 ·split at h
  ·cases h
  ·rename_i h1; injection h with h; exact h1 h
 ·rename_i h1; injection h with h; exact h1 h
theorem dskSafe_err {d : Dsk} {r : Recd} {e : Int} (h : dskSafe d r = .error e) : e ≠ 0 := by
 unfold dskSafe at h
 cases hp : dskPut d r with
 | error e' =>
  rw [hp] at h
  injection h with h
  exact h ▸ dskPut_err hp
 | ok x => rw [hp] at h; exact dskSync_err h
theorem wLead_err {w : Wld} {r : Recd} {e : Int} (h : wLead w r = .error e) : e ≠ 0 := by
 unfold wLead at h
 split at h
 ·rename_i hn; injection h with h; exact h ▸ hn
 ·cases hd : dskSafe w.h.d r with
  | error e' =>
   rw [hd] at h
   injection h with h
   exact h ▸ dskSafe_err hd
  | ok d => rw [hd] at h; cases h
theorem Spec.dskS {P : Program} {f : FuncId} {args : List Value} {H : Heap} {d : Dsk} {e : Int} (h : Spec P f args H fun v H' => ∃ sa sl sc ta tl tc, v = .tuple #[dskArg sa sl sc ta tl tc, i64 e]/\ DskAt H' d sa sl sc ta tl tc) {base : Nat} {G : O->Nat->Nat->O->Nat->Nat->Int->Heap->Prop}
  (hG : ∀ sa sn sc wa wn wc H', Ext H H'->Vg.Next base H H'->DskAt H' d sa sn sc wa wn wc->G sa sn sc wa wn wc e H') :
  Spec P f args H fun v H' => ∃ (sa : O) (sn sc : Nat) (wa : O) (wn wc : Nat) (e : Int), v = .tuple #[.agg #[.slice sa sn sc, .slice wa wn wc], .int .i64 e]/\ (Vg.Next base H H'->G sa sn sc wa wn wc e H') :=
 h.mono fun v H' ex hv => by
  obtain ⟨sa, sn, sc, wa, wn, wc, h1, h2⟩ := hv
  exact ⟨_, _, _, _, _, _, _, h1, fun hN => hG _ _ _ _ _ _ H' ex hN h2⟩
section
variable {H : Heap} (hL : Lb H)
include hL
theorem cSafe {sa ta qa : O} {sl sc tl tc ql qc : Nat} {d : Dsk} {r : Recd} (hd : DskAt H d sa sl sc ta tl tc) (hr : Pins H qa ql r.rel.lock) : Spec Tryz.prog 219 [dskArg sa sl sc ta tl tc, recArg r qa ql qc] H fun v H' => ∃ sa sl sc ta tl tc, v = .tuple #[dskArg sa sl sc ta tl tc, i64 (errOf (dskSafe d r))]/\ DskAt H' (dskGet (dskSafe d r)) sa sl sc ta tl tc := by
 refine TryzvcJ Tryz.func219 (by kernel_rfl) (by kernel_rfl) _ rfl (fun base K => vx219 sa ta sl sc tl tc r.kind r.agent r.try_ r.num r.rel.id r.good qa ql qc base H K) fun base hb => fun b b' b'' => ?_
 refine (cPut hL hd hr).dsk fun a n c a1 n1 c1 H1 e1 hN1 hD => ⟨fun h => ?_, fun h => ?_⟩
 ·cases hp : dskPut d r with
  | ok x => rw [hp] at h; exact absurd rfl h
  | error e =>
   have : dskSafe d r = .error e := by unfold dskSafe; rw [hp]
   rw [this]
   exact ⟨none, 0, 0, none, 0, 0, rfl, DskAt.zero⟩
 ·cases hp : dskPut d r with
  | error e => rw [hp] at h; exact absurd (Decidable.not_not.1 h) (dskPut_err hp)
  | ok x =>
   rw [hp] at hD
   have : dskSafe d r = dskSync x := by unfold dskSafe; rw [hp]
   rw [this]
   refine (cSync (hL.ext e1) (DskAt.ext hD newOf_ext)).dsk fun a2 n2 c2 a3 n3 c3 H2 e2 hN2 hD2 => ?_
   exact ⟨_, _, _, _, _, _, rfl, hD2.ext newOf_ext⟩
theorem cLeads {w : Wld} {p : WA} (hw : Parts H w p) {r : Recd} {qa : O} {ql qc : Nat} (hr : Pins H qa ql r.rel.lock) (b : Nat) : SpecO Tryz.prog 176 [.pointer (some ⟨b, 0, none⟩), recArg r qa ql qc] [⟨b, false, 41, wldCells w p⟩] H (Out w p (wLead w r)) := by
 refine TryzvcO Tryz.func176 (by kernel_rfl) (own := [⟨b, false, 41, wldCells w p⟩]) (args := [.loc 0 0, .v (recArg r qa ql qc)]) (by kernel_rfl) (by intro s hs; simp at hs; rcases hs with rfl | rfl <;> simp [SV.wf]) _ (fun base K => vx176 b w.c.first.id w.c.bud p.fa p.ra p.wa p.fl p.fc p.rl p.rc p.wl p.wc w.h.l.now w.h.l.goal w.h.l.nx w.h.l.back p.la p.ka p.ll p.lc p.kl p.kc p.sa p.ta p.sl p.sc p.tl p.tc w.h.up p.na p.ma p.nl p.nc p.ml p.mc r.kind r.agent r.try_ r.num r.rel.id r.good qa ql qc base H K) fun base hb => fun b1 => ?_
 have bad : ∀ {H' : Heap}, Ext H H'->ledErr w.c w.h.l r ≠ 0->Out w p (wLead w r) (i64 (ledErr w.c w.h.l r)) [wldCells w p] H' := fun e h => Out.bad (by unfold wLead; rw [if_pos h]) (hw.ext e)
 have good : ∀ {H1 H2 : Heap} (e1 : Ext H H1) (e2 : Ext H1 H2) {la ka : O} {ll lc kl kc : Nat} {sa ta : O} {sl sc tl tc : Nat}, ledErr w.c w.h.l r = 0->LdrAt H1 (ledV w.c w.h.l r) la ll ka kl->DskAt H2 (dskGet (dskSafe w.h.d r)) sa sl sc ta tl tc->
   (errOf (dskSafe w.h.d r) = 0->Out w p (wLead w r) (i64 (errOf (dskSafe w.h.d r))) [[.int .i64 w.c.first.id, .slice p.fa p.fl p.fc, .slice p.ra p.rl p.rc, .slice p.wa p.wl p.wc, .int .i64 w.c.bud, .slice la ll lc, .int .i64 (ledV w.c w.h.l r).now, .int .i64 (ledV w.c w.h.l r).goal, .bool (ledV w.c w.h.l r).back, .slice ka kl kc, .int .i64 (ledV w.c w.h.l r).nx, .slice sa sl sc, .slice ta tl tc, .bool w.h.up, .slice p.na p.nl p.nc, .slice p.ma p.ml p.mc]] H2) /\ 
   (¬errOf (dskSafe w.h.d r) = 0->Out w p (wLead w r) (i64 (errOf (dskSafe w.h.d r))) [wldCells w p] H2) := by
  intro H1 H2 e1 e2 la ka ll lc kl kc sa ta sl sc tl tc h hA hD
  have hV : ledV w.c w.h.l r = ledNext w.h.l r := by unfold ledV; rw [if_pos h]
  rw [hV] at hA ⊢
  cases hd : dskSafe w.h.d r with
  | error e =>
   have hX : wLead w r = .error e := by unfold wLead; rw [if_neg (by omega), hd]
   refine ⟨fun h0 => absurd h0 (dskSafe_err hd), fun _ => ?_⟩
   exact Out.bad hX (hw.ext (Ext.trans e1 e2))
  | ok d =>
   have hX : wLead w r = .ok { w with h := ⟨ledNext w.h.l r, d, w.h.up⟩ } := by unfold wLead; rw [if_neg (by omega), hd]
   refine ⟨fun _ => ?_, fun h0 => absurd rfl h0⟩
   rw [hd] at hD
   rw [hX]
   exact ⟨{ p with la := la, ll := ll, lc := lc, ka := ka, kl := kl, kc := kc, sa := sa, sl := sl, sc := sc, ta := ta, tl := tl, tc := tc }, rfl, rfl, ⟨(hw.ext (Ext.trans e1 e2)).cfg, hA.ext e2, hD, (hw.ext (Ext.trans e1 e2)).mail⟩, rfl, rfl, rfl, rfl⟩
 refine ⟨?_, fun b2 => ?_⟩
 ·refine (cNextL hw.cfg hw.ldr hr).ldr fun la ll lc ka kl kc H1 e1 hN1 hA => fun b3 => ⟨fun h => bad e1 h, fun h => ⟨?_, fun b4 => ?_⟩⟩
  ·refine Spec.dskS (cSafe (hL.ext e1) (hw.dsk.ext e1) (hr.ext' e1)) fun sa sl sc ta tl tc H2 e2 hN2 hD => fun b5 => ?_
   obtain ⟨g1, g2⟩ := good e1 e2 (lc := lc) (kc := kc) (Decidable.not_not.1 h) hA hD
   exact ⟨fun h0 => ⟨g1 h0, g1 h0⟩, g2⟩
  ·refine Spec.dskS (cSafe (hL.ext e1) (hw.dsk.ext e1) (hr.ext' e1)) fun sa sl sc ta tl tc H2 e2 hN2 hD => ?_
   obtain ⟨g1, g2⟩ := good e1 e2 (lc := lc) (kc := kc) (Decidable.not_not.1 h) hA hD
   exact ⟨fun h0 => ⟨g1 h0, g1 h0⟩, g2⟩
 ·refine (cNextL hw.cfg hw.ldr hr).ldr fun la ll lc ka kl kc H1 e1 hN1 hA => ⟨fun h => bad e1 h, fun h => ⟨?_, fun b4 => ?_⟩⟩
  ·refine Spec.dskS (cSafe (hL.ext e1) (hw.dsk.ext e1) (hr.ext' e1)) fun sa sl sc ta tl tc H2 e2 hN2 hD => fun b5 => ?_
   obtain ⟨g1, g2⟩ := good e1 e2 (lc := lc) (kc := kc) (Decidable.not_not.1 h) hA hD
   exact ⟨fun h0 => ⟨g1 h0, g1 h0⟩, g2⟩
  ·refine Spec.dskS (cSafe (hL.ext e1) (hw.dsk.ext e1) (hr.ext' e1)) fun sa sl sc ta tl tc H2 e2 hN2 hD => ?_
   obtain ⟨g1, g2⟩ := good e1 e2 (lc := lc) (kc := kc) (Decidable.not_not.1 h) hA hD
   exact ⟨fun h0 => ⟨g1 h0, g1 h0⟩, g2⟩
end
theorem cPost {H : Heap} {w : Wld} {p : WA} (hw : Parts H w p) {m : Mail} {a : O} {l c : Nat} (hm : Pins H a l m.rel.lock) (b : Nat) : SpecO Tryz.prog 221 [.pointer (some ⟨b, 0, none⟩), mailArg m a l c] [⟨b, false, 41, wldCells w p⟩] H (POut w p (wPost w m)) := by
 refine TryzvcO Tryz.func221 (by kernel_rfl) (own := [⟨b, false, 41, wldCells w p⟩]) (args := [.loc 0 0, .v (mailArg m a l c)]) (by kernel_rfl) (by intro s hs; simp at hs; rcases hs with rfl | rfl <;> simp [SV.wf]) _ (fun base K => vx221 b w.c.first.id w.c.bud p.fa p.ra p.wa p.fl p.fc p.rl p.rc p.wl p.wc w.h.l.now w.h.l.goal w.h.l.nx w.h.l.back p.la p.ka p.ll p.lc p.kl p.kc p.sa p.ta p.sl p.sc p.tl p.tc w.h.up p.na p.ma p.nl p.nc p.ml p.mc m.agent m.try_ m.rel.id m.rep m.good a l c base H K) fun base hb => fun b1 => ?_
 refine (cSend hw.mail m hm).sl2 fun a1 n1 c1 H1 e1 hN1 hS => ⟨fun h => ?_, fun h => ?_⟩
 ·rw [if_pos h] at hS
  have hX : wPost w m = { w with m := sent w.m m } := by unfold wPost; rw [if_pos h]
  rw [hX]
  exact ⟨{ p with ma := a1, ml := n1, mc := c1 }, rfl, rfl, ⟨(hw.ext e1).cfg, (hw.ext e1).ldr, (hw.ext e1).dsk, hS.2⟩, rfl, rfl, rfl, rfl⟩
 ·have hX : wPost w m = w := by unfold wPost; rw [if_neg h]
  rw [hX]
  exact ⟨p, rfl, rfl, hw.ext e1, rfl, rfl, rfl, rfl⟩
structure Grown (G H G' H' : Heap) : Prop where
 ext : Ext G G'
 sub : Ext G' H'
 keep : Ext H H'
 away : ∀ x k, G' x = some k->G x = none->H x = none
theorem Grown.trans {G H G' H' G'' H'' : Heap} (h : Grown G H G' H') (k : Grown G' H' G'' H'') : Grown G H G'' H'' := ⟨Ext.trans h.ext k.ext, k.sub, Ext.trans h.keep k.keep, fun x y hx hn => by
 cases hg : G' x with
 | some z => exact h.away x z hg hn
 | none =>
  have h1 := k.away x y hx hg
  cases hh : H x with
  | none => rfl
  | some z => rw [h.keep x z hh] at h1; cases h1⟩
theorem SpecO.grown {P : Program} {f : FuncId} {args : List Value} {own : List Bx} {G H : Heap} {Q : Value->List (List Value)->Heap->Prop} (h : SpecO P f args own G Q) (e : Ext G H) :
  SpecO P f args own H fun v css H' => ∃ G', Grown G H G' H'/\ Q v css G' := (h.frame e).mono fun v css H' _ ⟨G', h1, h2, h3, h4, h5⟩ => ⟨G', ⟨h1, h2, h3, h4⟩, h5⟩
theorem Spec.grown {P : Program} {f : FuncId} {args : List Value} {G H : Heap} {Q : Value->Heap->Prop} (h : Spec P f args G Q) (e : Ext G H) :
  Spec P f args H fun v H' => ∃ G', Grown G H G' H'/\ Q v G' := (h.frame e).mono fun v H' e' ⟨G', h1, h2, h4, h5⟩ => ⟨G', ⟨h1, h2, e', h4⟩, h5⟩
theorem Sl.nodeA {H H' : Heap} {a : O} {n : Nat} {xs : List Nod} (h : Nods H a n xs) (e : Ext H H') {k : Int} (h0 : 0 <= k) (h1 : k < n) {F : O->Nat->Nat->Int->Int->Bool->Int->O->Nat->Nat->Bool->Prop}
  (hF : ∀ x q, xs[k.toNat]? = some x->NodAt H x q->F q.xa q.xl q.xc x.a.at_ x.a.try_ x.a.going x.a.goal.id q.ga q.gl q.gc x.a.good) :
  ∃ (b o : Nat), a = some ⟨b, o, none⟩/\ 0 <= k/\ k < n/\ ∃ (a : O) (n2 c : Nat) (n3 n4 : Int) (b2 : Bool) (n5 : Int) (a1 : O) (n6 c1 : Nat) (b3 : Bool),
   (H'.cell b (o + k.toNat * 10) = some (.slice a n2 c)/\ H'.cell b (o + k.toNat * 10 + 1) = some (.int .i64 n3)/\ H'.cell b (o + k.toNat * 10 + 2) = some (.int .i64 n4)/\ H'.cell b (o + k.toNat * 10 + 3) = some (.bool b2)/\ H'.cell b (o + k.toNat * 10 + 4) = some (.int .i64 n5)/\ H'.cell b (o + k.toNat * 10 + 5) = some (.slice a1 n6 c1)/\ H'.cell b (o + k.toNat * 10 + 6) = some (.bool b3)/\ True)/\ F a n2 c n3 n4 b2 n5 a1 n6 c1 b3 := by
 obtain ⟨b, o, r, x, ha, hx, hr, hc⟩ := h.get h0 h1
 obtain ⟨q, rfl, hq⟩ := hr
 have g : ∀ j v, (nodCells x q)[j]? = some v->H'.cell b (o + k.toNat * 10 + j) = some v := fun j v hj => Heap.cell_next e (hc j v hj)
 exact ⟨b, o, ha, h0, h1, _, _, _, _, _, _, _, _, _, _, _, ⟨g 0 _ rfl, g 1 _ rfl, g 2 _ rfl, g 3 _ rfl, g 4 _ rfl, g 5 _ rfl, g 6 _ rfl, trivial⟩, hF x q hx hq⟩
theorem cReport {G H : Heap} (e : Ext G H) {w : Wld} {p : WA} (hw : Parts G w p) (hn : Nods H p.na p.nl w.n) {k : Int} (h0 : 0 <= k) (h1 : k < p.nl) (b : Nat) : SpecO Tryz.prog 180 [.pointer (some ⟨b, 0, none⟩), .int .i64 k] [⟨b, false, 41, wldCells w p⟩] H fun v css H' => ∃ G', Grown G H G' H'/\ POut w p (wReport w k.toNat) v css G' := by
 refine TryzvcO Tryz.func180 (by kernel_rfl) (own := [⟨b, false, 41, wldCells w p⟩]) (args := [.loc 0 0, .v (.int .i64 k)]) (by kernel_rfl) (by intro s hs; simp at hs; rcases hs with rfl | rfl <;> simp [SV.wf]) _ (fun base K => vx180 b w.c.first.id w.c.bud p.fa p.ra p.wa p.fl p.fc p.rl p.rc p.wl p.wc w.h.l.now w.h.l.goal w.h.l.nx w.h.l.back p.la p.ka p.ll p.lc p.kl p.kc p.sa p.ta p.sl p.sc p.tl p.tc w.h.up p.na p.ma p.nl p.nc p.ml p.mc k base H K) fun base hb => ?_
 refine hn.nodeA (Ext.refl _) h0 h1 fun x q hx hq => fun b1 => ?_
 have hX : wReport w k.toNat = wPost w (repMail k.toNat x.a) := by unfold wReport; rw [hx]
 have hm : repMail k.toNat x.a = ⟨k, x.a.try_, true, x.a.good, ⟨0, []⟩⟩ := by unfold repMail; rw [Int.toNat_of_nonneg h0]
 rw [hX, hm]
 refine ((cPost hw (m := ⟨k, x.a.try_, true, x.a.good, ⟨0, []⟩⟩) (a := none) (l := 0) (c := 0) Sl.nil b).grown e).mono fun v css H1 e1 hv => ?_
 obtain ⟨G', hG, p', hv, hcss, hP, n1, n2, n3, n4⟩ := hv
 exact ⟨hv, wld16 hcss fun _ => ⟨G', hG, p', hv ▸ rfl, rfl, hP, n1, n2, n3, n4⟩⟩
section
variable {H : Heap} (hL : Lb H)
include hL
theorem cTell {w : Wld} {p : WA} (hw : Parts H w p) {x : Hap} {a : O} {l c : Nat} (b : Nat) : SpecO Tryz.prog 177 [.pointer (some ⟨b, 0, none⟩), .agg #[.int .i64 x.kind, .int .i64 x.agent, .int .i64 x.num, .bool x.good, .slice a l c]] [⟨b, false, 41, wldCells w p⟩] H (Out w p (wTell w x)) := by
 refine TryzvcO Tryz.func177 (by kernel_rfl) (own := [⟨b, false, 41, wldCells w p⟩]) (args := [.loc 0 0, .v (.agg #[.int .i64 x.kind, .int .i64 x.agent, .int .i64 x.num, .bool x.good, .slice a l c])]) (by kernel_rfl) (by intro s hs; simp at hs; rcases hs with rfl | rfl <;> simp [SV.wf]) _ (fun base K => vx177 b w.c.first.id w.c.bud p.fa p.ra p.wa p.fl p.fc p.rl p.rc p.wl p.wc w.h.l.now w.h.l.goal w.h.l.nx w.h.l.back p.la p.ka p.ll p.lc p.kl p.kc p.sa p.ta p.sl p.sc p.tl p.tc w.h.up p.na p.ma p.nl p.nc p.ml p.mc x.kind x.agent x.num x.good a l c base H K) fun base hb => fun b1 => ?_
 have hkl := hw.ldr.ags.len
 have posted : ∀ {y : Wld} {p1 : WA} {H1 : Heap} (m : Mail) {qa : O} {ql qc : Nat}, Parts H1 y p1->Pins H1 qa ql m.rel.lock->p1.na = p.na/\ p1.nl = p.nl/\ p1.nc = p.nc->y.n = w.n->wTell w x = .ok (wPost y m)->
   SpecO Tryz.prog 221 [.pointer (some ⟨b, 0, none⟩), mailArg m qa ql qc] [⟨b, false, 41, wldCells y p1⟩] H1 fun v css H' => v = .tuple #[]/\ Out w p (wTell w x) (i64 0) css H' := by
  intro y p1 H1 m qa ql qc hy hq hp1 hyn hT
  refine (cPost hy hq b).mono fun v css H2 e2 hv => ?_
  obtain ⟨p', hv, hcss, hP, n1, n2, n3, n4⟩ := hv
  rw [hT]
  exact ⟨hv, p', rfl, hcss, hP, n1.trans hp1.1, n2.trans hp1.2.1, n3.trans hp1.2.2, n4.trans hyn⟩
 have tail : ∀ {H1 : Heap} (e1 : Ext H H1) {qa : O} {ql : Nat}, turnErr w.c w.h.l x.agent = 0->Pins H1 qa ql (turnRel w.c w.h.l x.agent).lock->∀ a1, w.h.l.ags[x.agent.toNat]? = some a1->x.kind = 4->
   (¬a1.st = 1->Out w p (wTell w x) (i64 7) [wldCells w p] H1)/\ ((a1.back != w.h.l.back) = true->Out w p (wTell w x) (i64 7) [wldCells w p] H1)/\ (a1.st = 1->¬(a1.back != w.h.l.back) = true->wTell w x = .ok (wPost w ⟨x.agent, a1.try_, false, false, turnRel w.c w.h.l x.agent⟩)) := by
  intro H1 e1 qa ql hT hq a1 ha hk
  have hE : wTell w x = if a1.st ≠ 1 ∨ a1.back ≠ w.h.l.back then .error 7 else .ok (wPost w ⟨x.agent, a1.try_, false, false, turnRel w.c w.h.l x.agent⟩) := by
   unfold wTell
   rw [if_neg (by omega), if_pos hk, ha]
  refine ⟨fun h => Out.bad (by rw [hE, if_pos (.inl h)]) (hw.ext e1), fun h => Out.bad (by rw [hE, if_pos (.inr (by simpa using h))]) (hw.ext e1), fun h1 h2 => by rw [hE, if_neg (by rintro (h | h); exact h h1; exact h2 (by simpa using h))]⟩
 have bad : ∀ {H1 : Heap} (e1 : Ext H H1), ¬turnErr w.c w.h.l x.agent = 0->Out w p (wTell w x) (i64 (turnErr w.c w.h.l x.agent)) [wldCells w p] H1 := fun e1 h => Out.bad (by unfold wTell; rw [if_pos h]) (hw.ext e1)
 have rng : turnErr w.c w.h.l x.agent = 0->0 <= x.agent/\ x.agent < p.kl/\ ∃ a1, w.h.l.ags[x.agent.toNat]? = some a1 := fun h => by
  obtain ⟨_, h1, h2, _⟩ := turnErr_zero h
  exact ⟨h1, by omega, _, List.getElem?_eq_getElem (by omega)⟩
 refine ⟨(cTurnL hw.cfg hw.ldr x.agent).turn fun qa ql qc H1 e1 hN1 hq => fun b3 => ⟨fun h => bad e1 h, fun h => ?_⟩, fun b2 => (cTurnL hw.cfg hw.ldr x.agent).turn fun qa ql qc H1 e1 hN1 hq => ⟨fun h => bad e1 h, fun h => ?_⟩⟩
 all_goals
  have hT := Decidable.not_not.1 h
  obtain ⟨k0, k1, _, _⟩ := rng hT
  refine ⟨fun hk => hw.ldr.ags.kn e1 k0 k1 fun a2 ha2 => fun b4 => ?_, fun hk => ?_⟩
  ·obtain ⟨t1, t2, t3⟩ := tail e1 hT hq a2 ha2 hk
   refine ⟨t1, fun h1 => ⟨_, neqBool, t2, fun h2 => ?_⟩⟩
   have hE := t3 (Decidable.not_not.1 h1) h2
   refine (posted ⟨x.agent, a2.try_, false, false, turnRel w.c w.h.l x.agent⟩ (hw.ext e1) hq ⟨rfl, rfl, rfl⟩ rfl hE).mono fun v css H2 e2 hv => ?_
   obtain ⟨hv, hO⟩ := hv
   have hO' := hO
   obtain ⟨p', _, hcss, _⟩ := hO
   rw [hcss] at hO'
   exact ⟨hv, wld16 hcss fun _ => hO'⟩
  ·have hLd := cLeads (hL.ext e1) (hw.ext e1) (r := ⟨6, x.agent, w.h.l.nx, 0, false, ⟨0, []⟩⟩) (qa := none) (ql := 0) (qc := 0) Sl.nil b
   cases hl : wLead w ⟨6, x.agent, w.h.l.nx, 0, false, ⟨0, []⟩⟩ with
   | error e =>
    rw [hl] at hLd
    refine hLd.mono fun v css H2 e2 hv => ?_
    obtain ⟨p1, rfl, hcss, hP, n1, n2, n3, n4⟩ := hv
    have hE : wTell w x = .error e := by unfold wTell; rw [if_neg (by omega), if_neg hk, hl]
    refine ⟨_, rfl, wld16 hcss fun hN2 => ⟨fun h0 => ?_, fun h0 => absurd (Decidable.not_not.1 h0) (wLead_err hl)⟩⟩
    rw [hE]
    exact ⟨p1, rfl, rfl, hP, n1, n2, n3, rfl⟩
   | ok y =>
    rw [hl] at hLd
    refine hLd.mono fun v css H2 e2 hv => ?_
    obtain ⟨p1, rfl, hcss, hP, n1, n2, n3, n4⟩ := hv
    have hE : wTell w x = .ok (wPost y ⟨x.agent, w.h.l.nx, false, false, turnRel w.c w.h.l x.agent⟩) := by unfold wTell; rw [if_neg (by omega), if_neg hk, hl]
    refine ⟨_, rfl, wld16 hcss fun hN2 => ⟨fun h0 => absurd rfl h0, fun h0 => ?_⟩⟩
    refine (posted (y := y) (p1 := p1) ⟨x.agent, w.h.l.nx, false, false, turnRel w.c w.h.l x.agent⟩ hP (hq.ext' e2) ⟨n1, n2, n3⟩ n4 hE).mono fun v css H3 e3 hv => ?_
    obtain ⟨hv, hO⟩ := hv
    have hO' := hO
    obtain ⟨p', _, hcss, _⟩ := hO
    rw [hcss] at hO'
    exact ⟨hv, wld16 hcss fun _ => hO'⟩
end
open Go
theorem AllR.set {α : Type} {R : Rep α} {H : Heap} {r : List Value} {x : α} (h : R H r x) : ∀ {rs : List (List Value)} {xs : List α} {k : Nat}, AllR R H rs xs->AllR R H (rs.set k r) (xs.set k x)
 | [], [], _, _ => trivial
 | _ :: _, _ :: _, 0, k => ⟨h, k.2⟩
 | _ :: _, _ :: _, _ + 1, k => ⟨k.1, AllR.set h k.2⟩
theorem rows_setk {sz : Nat} {rows : List (List Value)} {k : Nat} {r : List Value} (hr : rows[k]? = some r) (hw : ∀ x ∈ rows, x.length = sz) {off : Nat} {vs : List Value} (ho : off + vs.length <= sz) :
  setRange rows.flatten (k * sz + off) vs = (rows.set k (setRange r off vs)).flatten := by
 obtain ⟨hk, hrk⟩ := List.getElem?_eq_some_iff.1 hr
 have hsplit : rows = rows.take k ++ r :: rows.drop (k + 1) := by
  rw [← hrk, ← List.drop_eq_getElem_cons hk, List.take_append_drop]
 have hw1 : ∀ x ∈ rows.take k, x.length = sz := fun x hx => hw x (List.mem_of_mem_take hx)
 have hlen : (rows.take k).length = k := by rw [List.length_take]; omega
 have h1 := rows_set (sz := sz) (rs := rows.take k) (r := r) (ss := rows.drop (k + 1)) hw1 (hw r (List.mem_of_getElem? hr)) (k := off) (vs := vs) ho
 rw [hlen, ← hsplit] at h1
 rw [h1, List.set_eq_take_append_cons_drop, if_pos hk]
section
variable {α : Type} {R : Rep α} {sz : Nat} {e : TypeId} {base : Nat} {G H H' : Heap} {a : O} {n c : Nat} {rows : List (List Value)} {xs : List α}
theorem OwnSl.put (h : OwnSl R sz e base G H a n c rows xs) {k : Nat} {r : List Value} (hr : rows[k]? = some r) {off o : Nat} {vs : List Value} (ho : off + vs.length <= sz) (hoo : o = k * sz + off) {b : Nat} {kb : KB} (ha : a = some ⟨b, 0, none⟩) (hc : c ≠ 0) (hb : H b = some kb)
  (hu : Upd H b o kb vs H') {y : α} (hy : R G (setRange r off vs) y) : OwnSl R sz e base G H' a n c (rows.set k (setRange r off vs)) (xs.set k y) := by
 subst hoo
 have hk := (List.getElem?_eq_some_iff.1 hr).1
 have hle : k * sz + off + vs.length <= rows.flatten.length := by
  rw [flat_wid h.wid]
  have : (k + 1) * sz <= rows.length * sz := Nat.mul_le_mul_right _ hk
  rw [Nat.succ_mul] at this; omega
 refine ⟨?_, fun x hx => ?_, AllR.set hy h.all, fun x kx hx => ?_, h.clear⟩
 ·rw [← rows_setk hr h.wid ho]
  exact h.row.upd ha hc hb hle hu
 ·rcases List.mem_or_eq_of_mem_set hx with hx | rfl
  ·exact h.wid x hx
  ·rw [setRange_length]; exact h.wid r (List.mem_of_getElem? hr)
 ·rw [hu.there x (fun e => by rw [e, h.clear hc b ha] at hx; cases hx)]
  exact h.sub x kx hx
end
theorem setRange_full {r vs : List Value} (h : r.length = vs.length) : setRange r 0 vs = vs := by
 rw [setRange_eq _ _ _ (by omega)]
 simp [h]
open Go Go.Proofs
structure OwnW (base : Nat) (G H : Heap) (w : Wld) (p : WA) (rows : List (List Value)) : Prop where
 parts : Parts G w p
 nod : OwnSl RNod 10 58 base G H p.na p.nl p.nc rows w.n
theorem OwnW.at_ {base : Nat} {G H : Heap} {w : Wld} {p : WA} {rows : List (List Value)} (h : OwnW base G H w p rows) : WldAt H w p :=
 ⟨(h.parts.ext h.nod.sub).cfg, (h.parts.ext h.nod.sub).ldr, (h.parts.ext h.nod.sub).dsk, h.nod.sl RNod.mono (by omega), (h.parts.ext h.nod.sub).mail⟩
theorem OwnW.ext {base : Nat} {G H H' : Heap} {w : Wld} {p : WA} {rows : List (List Value)} (h : OwnW base G H w p rows) (e : Ext H H') : OwnW base G H' w p rows := ⟨h.parts, h.nod.ext e⟩
theorem OwnW.grown {base : Nat} {G H G' H' : Heap} {w : Wld} {p : WA} {rows : List (List Value)} (h : OwnW base G H w p rows) (g : Grown G H G' H') : OwnW base G' H' w p rows :=
 ⟨h.parts.ext g.ext, h.nod.row.ext g.keep, h.nod.wid, h.nod.all.mono RNod.mono g.ext, g.sub, fun hc b hb => by
  cases hg : G' b with
  | none => rfl
  | some k =>
   have h1 := g.away b k hg (h.nod.clear hc b hb)
   obtain ⟨b', k', h2, h3⟩ := h.nod.block hc
   rw [hb] at h2; simp at h2; subst h2
   rw [h1] at h3; cases h3⟩
theorem OwnW.be {base : Nat} {G H : Heap} {w w' : Wld} {p p' : WA} {rows : List (List Value)} (h : OwnW base G H w p rows) (hp : Parts G w' p') (h1 : p'.na = p.na) (h2 : p'.nl = p.nl) (h3 : p'.nc = p.nc) (hn : w'.n = w.n) : OwnW base G H w' p' rows :=
 ⟨hp, by rw [h1, h2, h3, hn]; exact h.nod⟩
abbrev hapArg (x : Hap) (a : O) (l c : Nat) : Value := .agg #[.int .i64 x.kind, .int .i64 x.agent, .int .i64 x.num, .bool x.good, .slice a l c]
structure HapPre (base : Nat) (G H : Heap) (w : Wld) (p : WA) (rows : List (List Value)) (x : Hap) (a : O) (l : Nat) : Prop where
 lb : Lb G
 ok : wldErr w = 0
 own : OwnW base G H w p rows
 lock : Pins G a l x.lock
structure OwnPost (base : Nat) (G H : Heap) (p : WA) (w' : Wld) (p' : WA) (G' : Heap) (rows' : List (List Value)) (H' : Heap) : Prop where
 ext : Ext G G'
 away : ∀ y k, G' y = some k->G y = none->H y = none
 own : OwnW base G' H' w' p' rows'
 keep : ∀ y k, H y = some k->(p.nc = 0 ∨ p.na ≠ some ⟨y, 0, none⟩)->H' y = some k
 still : ∀ y, H y ≠ none->H' y ≠ none
 same : p'.na = p.na/\ p'.nl = p.nl/\ p'.nc = p.nc
theorem OwnPost.start {base : Nat} {G H : Heap} {w : Wld} {p : WA} {rows : List (List Value)} (h : OwnW base G H w p rows) : OwnPost base G H p w p G rows H := ⟨Ext.refl _, fun y k h1 h2 => (by rw [h1] at h2; cases h2), h, fun _ _ h _ => h, fun _ h => h, rfl, rfl, rfl⟩
theorem OwnPost.grown {base : Nat} {G H : Heap} {p : WA} {w : Wld} {p' : WA} {G' H' G'' H'' : Heap} {rows : List (List Value)} (h : OwnPost base G H p w p' G' rows H') (g : Grown G' H' G'' H'') : OwnPost base G H p w p' G'' rows H'' :=
 ⟨Ext.trans h.ext g.ext, fun y k hy hn => by
  cases hg : G' y with
  | some z => exact h.away y z hg hn
  | none =>
   have h1 := g.away y k hy hg
   cases hh : H y with
   | none => rfl
   | some z => exact absurd h1 (h.still y (by rw [hh]; simp)), h.own.grown g, fun y k hy hc => g.keep y k (h.keep y k hy hc), fun y hy => by
  have h1 := h.still y hy
  cases hh : H' y with
  | none => exact absurd hh h1
  | some k => rw [g.keep y k hh]; simp, h.same⟩
theorem OwnPost.be {base : Nat} {G H : Heap} {p : WA} {w w' : Wld} {p' p'' : WA} {G' H' : Heap} {rows : List (List Value)} (h : OwnPost base G H p w p' G' rows H') (hp : Parts G' w' p'') (h1 : p''.na = p'.na) (h2 : p''.nl = p'.nl) (h3 : p''.nc = p'.nc) (hn : w'.n = w.n) : OwnPost base G H p w' p'' G' rows H' :=
 ⟨h.ext, h.away, h.own.be hp h1 h2 h3 hn, h.keep, h.still, h1.trans h.same.1, h2.trans h.same.2.1, h3.trans h.same.2.2⟩
theorem RNod.setA {G : Heap} {x : Nod} {q : NA} (h : NodAt G x q) {a : Agt} {xa ga : O} {xl xc gl gc : Nat} (h1 : Pins G xa xl a.lock) (h2 : Pins G ga gl a.goal.lock) :
  RNod G (setRange (nodCells x q) 0 [.slice xa xl xc, .int .i64 a.at_, .int .i64 a.try_, .bool a.going, .int .i64 a.goal.id, .slice ga gl gc, .bool a.good]) { x with a := a } :=
 ⟨{ q with xa := xa, xl := xl, xc := xc, ga := ga, gl := gl, gc := gc }, rfl, h1, h2, h.dsk⟩
theorem RNod.setD {G : Heap} {x : Nod} {q : NA} (h : NodAt G x q) {d : Dsk} {ua va : O} {ul uc vl vc : Nat} (h1 : DskAt G d ua ul uc va vl vc) :
  RNod G (setRange (nodCells x q) 7 [.slice ua ul uc, .slice va vl vc]) { x with d := d } :=
 ⟨{ q with ua := ua, ul := ul, uc := uc, va := va, vl := vl, vc := vc }, rfl, h.lock, h.goal, h1⟩
theorem OwnW.node {base : Nat} {G H : Heap} {w : Wld} {p : WA} {rows : List (List Value)} (h : OwnW base G H w p rows) {k : Nat} {n : Nod} (hn : w.n[k]? = some n) :
  ∃ (b : Nat) (kb : KB) (q : NA), p.na = some ⟨b, 0, none⟩/\ base <= b/\ p.nc ≠ 0/\ H b = some kb/\ kb.free = true/\ k < p.nl/\ k * 10 + 10 <= kb.size/\ rows[k]? = some (nodCells n q)/\ NodAt G n q/\ ∀ j v, (nodCells n q)[j]? = some v->H.cell b (k * 10 + j) = some v := by
 obtain ⟨r1, r2⟩ := h.nod.rlen (by omega)
 have hk := (List.getElem?_eq_some_iff.1 hn).1
 obtain ⟨b, kb, h1, h2, h3, h4, h5, h6, h7⟩ := h.nod.row.block (by omega)
 have hrow : rows[k]? = some (rows[k]'(by omega)) := List.getElem?_eq_getElem (by omega)
 obtain ⟨q, hq, hat⟩ := h.nod.all.get hrow hn
 have hle : p.nl <= p.nc := h.nod.row.2.1
 refine ⟨b, kb, q, h1, h2, h3, h4, h5, by omega, by rw [h6]; omega, by rw [hrow, hq], hat, fun j v hj => ?_⟩
 have hjl := (List.getElem?_eq_some_iff.1 hj).1
 have hj10 : j < 10 := by simpa using hjl
 unfold Heap.cell
 rw [h4]
 refine h7 _ _ ?_
 have hs : rows = rows.take k ++ nodCells n q :: rows.drop (k + 1) := by
  rw [← hq, ← List.drop_eq_getElem_cons (by omega), List.take_append_drop]
 have hl : (rows.take k).flatten.length = k * 10 := by
  rw [flat_wid (sz := 10) fun r hr => h.nod.wid r (List.mem_of_mem_take hr), List.length_take]
  congr 1; omega
 rw [hs, List.flatten_append, List.getElem?_append_right (by omega), hl, show k * 10 + j - k * 10 = j from by omega, List.flatten_cons, List.getElem?_append_left (by simpa using hjl)]
 exact hj
theorem OwnPost.put {base : Nat} {G H : Heap} {p : WA} {w : Wld} {p' : WA} {G' H' H'' : Heap} {rows : List (List Value)} (h : OwnPost base G H p w p' G' rows H') {k : Nat} {r : List Value} (hr : rows[k]? = some r) {off o : Nat} {vs : List Value} (ho : off + vs.length <= 10) (hoo : o = k * 10 + off) {b : Nat} {kb : KB} (ha : p'.na = some ⟨b, 0, none⟩) (hc : p'.nc ≠ 0) (hb : H' b = some kb)
  (hu : Upd H' b o kb vs H'') {y : Nod} (hy : RNod G' (setRange r off vs) y) : OwnPost base G H p { w with n := w.n.set k y } p' G' (rows.set k (setRange r off vs)) H'' := by
 have hO := h.own.nod.put hr ho hoo ha hc hb hu hy
 refine ⟨h.ext, h.away, ⟨⟨h.own.parts.cfg, h.own.parts.ldr, h.own.parts.dsk, h.own.parts.mail⟩, hO⟩, fun x k hx hxc => ?_, fun x hx => ?_, h.same⟩
 ·have hne : x ≠ b := fun e => by
   subst e
   rcases hxc with h0 | h0
   ·exact hc (h.same.2.2.trans h0)
   ·exact h0 (h.same.1.symm.trans ha)
  rw [hu.there x hne]; exact h.keep x k hx hxc
 ·by_cases e : x = b
  ·subst e; rw [hu.here]; simp
  ·rw [hu.there x e]; exact h.still x hx
open Go Go.Proofs
theorem vx218 (g o : Nat) (kd ag rt n rid : Int) (rg : Bool) (qa : O) (ql qc : Nat) (base : Nat) (H0 : Heap) (H : Heap) (f : SV->List Bx->Heap->Prop) :
 (codeI ⟨Tryz.prog, Tryz.f218.ntmps, ⟨TryzListK, TryzSum, true⟩, base, H0⟩ Tryz.f218 [.v (.pointer (some ⟨g, o, none⟩)), .v (A #[I Z kd, I Z ag, I Z rt, I Z n, B rg, I Z rid, S qa ql qc])] [] H f) = (
 ∀ a:Nat,∃ (b:O) (c d:Nat) (e h:Int) (i:Bool) (j:Int) (k:O) (l m:Nat) (p:Bool),(fun w8:LV=>(C H g o = some (S b c d)/\ C H g (o + 1) = some (I Z e)/\ C H g (o + 2) = some (I Z h)/\ C H g (o + 3) = some (B i)/\ C H g (o + 4) = some (I Z j)/\ C H g (o + 5) = some (S k l m)/\ C H g (o + 6) = some (B p)/\ True)/\ (Y Tryz.prog 145 w8 H fun q r =>∃ s t u v w x y z a1 b1 c1 d1,q = T #[A #[S s t u,I Z v,I Z w,B x,I Z y,S z a1 b1,B c1],I Z d1]/\ (X base H r->∀ e1:Nat,(¬d1 = 0->f (SV.v (I Z d1)) [J a false 126 [I Z kd,I Z ag,I Z rt,I Z n,B rg,I Z rid,S qa ql qc],J e1 false 46 [S s t u,I Z v,I Z w,B x,I Z y,S z a1 b1,B c1]] r)/\ (¬¬d1 = 0->∃ (f1:O) (g1 h1:Nat) (i1:O) (j1 k1:Nat),(fun w4:LV=>(C r g (o + 7) = some (S f1 g1 h1)/\ C r g (o + 7 + 1) = some (S i1 j1 k1)/\ True)/\ (Y Tryz.prog 219 w4 r fun l1 m1 =>∃ n1 o1 p1 q1 r1 s1 t1,l1 = T #[A #[S n1 o1 p1,S q1 r1 s1],I Z t1]/\ (X base r m1->∀ u1:Nat,(fun w2:LB=>(t1 = 0->(∃ v1:KB,m1 g = some v1/\ KB.free v1 = true/\ base <= g/\ o + 7 <= KB.size v1/\ ∀ w1:Heap,Upd m1 g o v1 [S s t u,I Z v,I Z w,B x,I Z y,S z a1 b1,B c1] w1->∃ x1:KB,w1 g = some x1/\ KB.free x1 = true/\ base <= g/\ o + 7 + 2 <= KB.size x1/\ ∀ y1:Heap,Upd w1 g (o + 7) x1 [S n1 o1 p1,S q1 r1 s1] y1->f (SV.v (I Z t1)) w2 y1)/\ ∃ v1:KB,m1 g = some v1/\ KB.free v1 = true/\ base <= g/\ o + 7 <= KB.size v1/\ ∀ w1:Heap,Upd m1 g o v1 [S s t u,I Z v,I Z w,B x,I Z y,S z a1 b1,B c1] w1->∃ x1:KB,w1 g = some x1/\ KB.free x1 = true/\ base <= g/\ o + 7 + 2 <= KB.size x1/\ ∀ y1:Heap,Upd w1 g (o + 7) x1 [S n1 o1 p1,S q1 r1 s1] y1->f (SV.v (I Z t1)) w2 y1)/\ (¬t1 = 0->f (SV.v (I Z t1)) w2 m1)) [J a false 126 [I Z kd,I Z ag,I Z rt,I Z n,B rg,I Z rid,S qa ql qc],J e1 false 46 [S s t u,I Z v,I Z w,B x,I Z y,S z a1 b1,B c1],J u1 false 35 [S n1 o1 p1,S q1 r1 s1]]))/\ ∀ l1:Nat,Y Tryz.prog 219 w4 r fun m1 n1 =>∃ o1 p1 q1 r1 s1 t1,(fun w3:LB=>∃ u1,m1 = T #[A #[S o1 p1 q1,S r1 s1 t1],I Z u1]/\ (X base r n1->(u1 = 0->(∃ v1:KB,n1 g = some v1/\ KB.free v1 = true/\ base <= g/\ o + 7 <= KB.size v1/\ ∀ w1:Heap,Upd n1 g o v1 [S s t u,I Z v,I Z w,B x,I Z y,S z a1 b1,B c1] w1->∃ x1:KB,w1 g = some
 x1/\ KB.free x1 = true/\ base <= g/\ o + 7 + 2 <= KB.size x1/\ ∀ y1:Heap,Upd w1 g (o + 7) x1 [S o1 p1 q1,S r1 s1 t1] y1->f (SV.v (I Z u1)) w3 y1)/\ ∃ v1:KB,n1 g = some v1/\ KB.free v1 = true/\ base <= g/\ o + 7 <= KB.size v1/\ ∀ w1:Heap,Upd n1 g o v1 [S s t u,I Z v,I Z w,B x,I Z y,S z a1 b1,B c1] w1->∃ x1:KB,w1 g = some x1/\ KB.free x1 = true/\ base <= g/\ o + 7 + 2 <= KB.size x1/\ ∀ y1:Heap,Upd w1 g (o + 7) x1 [S o1 p1 q1,S r1 s1 t1] y1->f (SV.v (I Z u1)) w3 y1)/\ (¬u1 = 0->f (SV.v (I Z u1)) w3 n1))) [J a false 126 [I Z kd,I Z ag,I Z rt,I Z n,B rg,I Z rid,S qa ql qc],J e1 false 46 [S s t u,I Z v,I Z w,B x,I Z y,S z a1 b1,B c1],J l1 false 35 [S o1 p1 q1,S r1 s1 t1]]) [A #[S f1 g1 h1,S i1 j1 k1],A #[I Z kd,I Z ag,I Z rt,I Z n,B rg,I Z rid,S qa ql qc]])))/\ ∀ q:Nat,Y Tryz.prog 145 w8 H fun r s =>∃ t u v w x y z a1 b1 c1 d1 e1,r = T #[A #[S t u v,I Z w,I Z x,B y,I Z z,S a1 b1 c1,B d1],I Z e1]/\ (X base H s->(¬e1 = 0->f (SV.v (I Z e1)) [J a false 126 [I Z kd,I Z ag,I Z rt,I Z n,B rg,I Z rid,S qa ql qc],J q false 46 [S t u v,I Z w,I Z x,B y,I Z z,S a1 b1 c1,B d1]] s)/\ (¬¬e1 = 0->∃ (f1:O) (g1 h1:Nat) (i1:O) (j1 k1:Nat),(fun w7:LV=>(C s g (o + 7) = some (S f1 g1 h1)/\ C s g (o + 7 + 1) = some (S i1 j1 k1)/\ True)/\ (Y Tryz.prog 219 w7 s fun l1 m1 =>∃ n1 o1 p1 q1 r1 s1 t1,l1 = T #[A #[S n1 o1 p1,S q1 r1 s1],I Z t1]/\ (X base s m1->∀ u1:Nat,(fun w5:LB=>(t1 = 0->(∃ v1:KB,m1 g = some v1/\ KB.free v1 = true/\ base <= g/\ o + 7 <= KB.size v1/\ ∀ w1:Heap,Upd m1 g o v1 [S t u v,I Z w,I Z x,B y,I Z z,S a1 b1 c1,B d1] w1->∃ x1:KB,w1 g = some x1/\ KB.free x1 = true/\ base <= g/\ o + 7 + 2 <= KB.size x1/\ ∀ y1:Heap,Upd w1 g (o + 7) x1 [S n1 o1 p1,S q1 r1 s1] y1->f (SV.v (I Z t1)) w5 y1)/\ ∃ v1:KB,m1 g = some v1/\ KB.free v1 = true/\ base <= g/\ o + 7 <= KB.size v1/\ ∀ w1:Heap,Upd m1 g o v1 [S t u v,I Z w,I Z x,B y,I Z z,S a1 b1 c1,B d1] w1->∃ x1:KB,w1 g = some x1/\ KB.free x1 = true/\ base <= g/\ o + 7 + 2 <= KB.size x1/\ ∀ y1:Heap,Upd w1 g (o + 7) x1 [S n1 o1 p1,S q1 r1 s1] y1->f (SV.v (I Z t1)) w5 y1)/\ (¬t1 = 0->f (SV.v (I Z t1)) w5 m1)) [J a false 126 [I Z kd,I Z ag,I Z rt,I Z n,B rg,I
 Z rid,S qa ql qc],J q false 46 [S t u v,I Z w,I Z x,B y,I Z z,S a1 b1 c1,B d1],J u1 false 35 [S n1 o1 p1,S q1 r1 s1]]))/\ ∀ l1:Nat,Y Tryz.prog 219 w7 s fun m1 n1 =>∃ o1 p1 q1 r1 s1 t1,(fun w6:LB=>∃ u1,m1 = T #[A #[S o1 p1 q1,S r1 s1 t1],I Z u1]/\ (X base s n1->(u1 = 0->(∃ v1:KB,n1 g = some v1/\ KB.free v1 = true/\ base <= g/\ o + 7 <= KB.size v1/\ ∀ w1:Heap,Upd n1 g o v1 [S t u v,I Z w,I Z x,B y,I Z z,S a1 b1 c1,B d1] w1->∃ x1:KB,w1 g = some x1/\ KB.free x1 = true/\ base <= g/\ o + 7 + 2 <= KB.size x1/\ ∀ y1:Heap,Upd w1 g (o + 7) x1 [S o1 p1 q1,S r1 s1 t1] y1->f (SV.v (I Z u1)) w6 y1)/\ ∃ v1:KB,n1 g = some v1/\ KB.free v1 = true/\ base <= g/\ o + 7 <= KB.size v1/\ ∀ w1:Heap,Upd n1 g o v1 [S t u v,I Z w,I Z x,B y,I Z z,S a1 b1 c1,B d1] w1->∃ x1:KB,w1 g = some x1/\ KB.free x1 = true/\ base <= g/\ o + 7 + 2 <= KB.size x1/\ ∀ y1:Heap,Upd w1 g (o + 7) x1 [S o1 p1 q1,S r1 s1 t1] y1->f (SV.v (I Z u1)) w6 y1)/\ (¬u1 = 0->f (SV.v (I Z u1)) w6 n1))) [J a false 126 [I Z kd,I Z ag,I Z rt,I Z n,B rg,I Z rid,S qa ql qc],J q false 46 [S t u v,I Z w,I Z x,B y,I Z z,S a1 b1 c1,B d1],J l1 false 35 [S o1 p1 q1,S r1 s1 t1]]) [A #[S f1 g1 h1,S i1 j1 k1],A #[I Z kd,I Z ag,I Z rt,I Z n,B rg,I Z rid,S qa ql qc]]))) [A #[S b c d,I Z e,I Z h,B i,I Z j,S k l m,B p],A #[I Z kd,I Z ag,I Z rt,I Z n,B rg,I Z rid,S qa ql qc]]) := by kernel_rfl
open Go Go.Proofs
def nodOr (n : Nod) : Except Int Nod->Nod
 | .ok y => y
 | .error _ => n
structure DoesPre (base : Nat) (G H : Heap) (n : Nod) (q : NA) (r : Recd) (qa : O) (ql b o : Nat) (kb : KB) : Prop where
 lb : Lb G
 sub : Ext G H
 clear : G b = none
 nod : NodAt G n q
 rel : Pins G qa ql r.rel.lock
 at_ : H b = some kb
 free : kb.free = true
 own : base <= b
 room : o + 10 <= kb.size
 cells : ∀ j v, (nodCells n q)[j]? = some v->kb.cells (o + j) = some v
structure DoesPost (G H : Heap) (n : Nod) (q : NA) (r : Recd) (b o : Nat) (kb : KB) (e : Int) (n' : Nod) (q' : NA) (kb' : KB) (G' H' : Heap) : Prop where
 ext : Ext G G'
 sub : Ext G' H'
 away : ∀ x k, G' x = some k->G x = none->H x = none
 nod : NodAt G' n' q'
 at_ : H' b = some kb'
 ty : kb'.ty = kb.ty
 size : kb'.size = kb.size
 free : kb'.free = true
 cells : ∀ j v, (nodCells n' q')[j]? = some v->kb'.cells (o + j) = some v
 rest : ∀ j, (j < o ∨ o + 10 <= j)->kb'.cells j = kb.cells j
 keep : ∀ x k, x ≠ b->H x = some k->H' x = some k
 err : e = errOf (nDoes n r)
 res : n' = nodOr n (nDoes n r)
theorem node_upd {kc : Nat->Option Value} {o : Nat} {A D x : List Value} (hA : A.length = 7) (hD : D.length = 2) (hx : x.length = 10) (h9 : ∀ v, x[9]? = some v->kc (o + 9) = some v) (hA' : x.take 7 = A) (hD' : (x.drop 7).take 2 = D) : ∀ j v, x[j]? = some v->updCells (updCells kc o A) (o + 7) D (o + j) = some v := fun j v hj => by
 have hjl := (List.getElem?_eq_some_iff.1 hj).1
 unfold updCells
 by_cases h1 : j < 7
 ·rw [if_neg (by omega), if_pos (by omega), show o + j - o = j from by omega, ← hA', List.getElem?_take, if_pos h1]
  exact hj
 by_cases h2 : j < 9
 ·rw [if_pos (by omega), show o + j - (o + 7) = j - 7 from by omega, ← hD', List.getElem?_take, if_pos (by omega), List.getElem?_drop, show 7 + (j - 7) = j from by omega]
  exact hj
 ·obtain rfl : j = 9 := by omega
  rw [if_neg (by omega), if_neg (by omega)]
  exact h9 v hj
theorem does_in {base : Nat} {H0 G H : Heap} {n : Nod} {q : NA} {r : Recd} {qa : O} {ql qc b o : Nat} {kb : KB} (h : DoesPre base G H n q r qa ql b o kb) {f : SV->List Bx->Heap->Prop}
  (hf : ∀ e n' q' kb' G' H' own1, DoesPost G H n q r b o kb e n' q' kb' G' H'->f (.v (.int .i64 e)) own1 H') :
  codeI ⟨Tryz.prog, Tryz.f218.ntmps, ⟨TryzListK, TryzSum, true⟩, base, H0⟩ Tryz.f218 [.v (.pointer (some ⟨b, o, none⟩)), .v (recArg r qa ql qc)] [] H f := by
 rw [vx218]
 have c : ∀ j v, (nodCells n q)[j]? = some v->H.cell b (o + j) = some v := fun j v hj => by unfold Heap.cell; rw [h.at_]; exact h.cells j v hj
 have still : ∀ {G1 H1 : Heap}, Grown G H G1 H1->DoesPost G H n q r b o kb (errOf (nDoes n r)) n q kb G1 H1 ∨ ∃ y, nDoes n r = .ok y := fun {G1 H1} g => by
  cases hd : nDoes n r with
  | ok y => exact .inr ⟨y, rfl⟩
  | error e => exact .inl ⟨g.ext, g.sub, g.away, h.nod.ext g.ext, g.keep _ _ h.at_, rfl, rfl, h.free, h.cells, fun _ _ => rfl, fun x k _ hx => g.keep x k hx, by rw [hd], by rw [hd]; rfl⟩
 have out : ∀ {G2 H2 : Heap}, Grown G H G2 H2->G2 b = none := fun {G2 H2} g => by
  cases hg : G2 b with
  | none => rfl
  | some k => have := g.away b k hg h.clear; rw [h.at_] at this; cases this
 refine fun b1 => ⟨_, _, _, _, _, _, _, _, _, _, _, ⟨c 0 _ rfl, c 1 _ rfl, c 2 _ rfl, c 3 _ rfl, c 4 _ rfl, c 5 _ rfl, c 6 _ rfl, trivial⟩, ?_, fun b3 => ?_⟩
 all_goals
  refine ((cNext (r := r) h.nod.lock h.nod.goal h.rel).grown h.sub).mono fun v H1 e1 hv => ?_
  obtain ⟨G1, g1, a1, n1, c1, ga1, gn1, gc1, rfl, p1, p2⟩ := hv
  refine ⟨_, _, _, _, _, _, _, _, _, _, _, _, rfl, fun hN1 => ?_⟩
  try intro b5
  refine ⟨fun he => ?_, fun he => ?_⟩
  ·have hX : nDoes n r = .error (nextErr n.a r) := by unfold nDoes; rw [if_pos he]
   rcases still g1 with hp | ⟨y, hy⟩
   ·rw [hX] at hp; exact hf _ _ _ _ _ _ _ hp
   ·rw [hX] at hy; cases hy
  ·have he := Decidable.not_not.1 he
   have hV : nextV n.a r = agtNext n.a r := by unfold nextV; rw [if_pos he]
   rw [hV] at p1 p2 ⊢
   have c' : ∀ j v, (nodCells n q)[j]? = some v->H1.cell b (o + j) = some v := fun j v hj => Heap.cell_next g1.keep (c j v hj)
   refine ⟨_, _, _, _, _, _, ⟨c' 7 _ rfl, c' 8 _ rfl, trivial⟩, ?_, fun b6 => ?_⟩
   all_goals
    refine ((cSafe (h.lb.ext g1.ext) (h.nod.dsk.ext g1.ext) (h.rel.ext' g1.ext)).grown g1.sub).mono fun v H2 e2 hv => ?_
    obtain ⟨G2, g2, sa, sl, sc, ta, tl, tc, rfl, hD⟩ := hv
    have g12 := g1.trans g2
    refine ⟨_, _, _, _, _, _, _, rfl, fun hN2 => ?_⟩
    try intro b7
    refine ⟨fun h0 => ?_, fun h0 => ?_⟩
    ·cases hd : dskSafe n.d r with
     | error e => rw [hd] at h0; exact absurd h0 (dskSafe_err hd)
     | ok d =>
      rw [hd] at hD
      have hX : nDoes n r = .ok ⟨agtNext n.a r, d, n.up⟩ := by unfold nDoes; rw [if_neg (by omega), hd]
      have fin : ∀ own1, ∃ (k : KB), H2 b = some k/\ KB.free k = true/\ base <= b/\ o + 7 <= KB.size k/\ ∀ (H' : Heap), Upd H2 b o k [.slice a1 n1 c1, .int .i64 (agtNext n.a r).at_, .int .i64 (agtNext n.a r).try_, .bool (agtNext n.a r).going, .int .i64 (agtNext n.a r).goal.id, .slice ga1 gn1 gc1, .bool (agtNext n.a r).good] H'->
        ∃ (k : KB), H' b = some k/\ KB.free k = true/\ base <= b/\ o + 7 + 2 <= KB.size k/\ ∀ (H'_2 : Heap), Upd H' b (o + 7) k [.slice sa sl sc, .slice ta tl tc] H'_2->f (SV.v (.int .i64 (errOf (Except.ok (ε := Int) d)))) own1 H'_2 := fun own1 => by
       refine ⟨kb, g12.keep _ _ h.at_, h.free, h.own, by have := h.room; omega, fun H3 hu3 => ⟨_, hu3.here, h.free, h.own, by have := h.room; show o + 7 + 2 <= kb.size; omega, fun H4 hu4 => ?_⟩⟩
       refine hf _ ⟨agtNext n.a r, d, n.up⟩ { q with xa := a1, xl := n1, xc := c1, ga := ga1, gl := gn1, gc := gc1, ua := sa, ul := sl, uc := sc, va := ta, vl := tl, vc := tc } _ G2 H4 own1 ⟨g12.ext, fun x k hx => ?_, g12.away, ⟨p1.ext' g2.ext, p2.ext' g2.ext, hD⟩, hu4.here, rfl, rfl, h.free, ?_, fun j hj => ?_, fun x k hne hx => ?_, by rw [hX]; rfl, by rw [hX]; rfl⟩
       ·have hne : x ≠ b := fun e => by rw [e, out g12] at hx; cases hx
        rw [hu4.there x hne, hu3.there x hne]; exact g12.sub x k hx
       ·exact node_upd rfl rfl rfl (fun v hv => h.cells 9 v hv) rfl rfl
       ·show updCells (updCells kb.cells o _) (o + 7) _ j = kb.cells j
        unfold updCells
        simp only [List.length_cons, List.length_nil]
        rw [if_neg (by omega), if_neg (by omega)]
       ·rw [hu4.there x hne, hu3.there x hne]; exact g12.keep x k hx
      exact ⟨fin _, fin _⟩
    ·cases hd : dskSafe n.d r with
     | ok d => rw [hd] at h0; exact absurd rfl h0
     | error e =>
      have hX : nDoes n r = .error e := by unfold nDoes; rw [if_neg (by omega), hd]
      rcases still g12 with hp | ⟨y, hy⟩
      ·rw [hX] at hp; exact hf _ _ _ _ _ _ _ hp
      ·rw [hX] at hy; cases hy
def noMaps (own : List Bx) : Bool := own.all fun y => !y.map
def doesP (base : Nat) (own : List Bx) (H : Heap) (f : SV->List Bx->Heap->Prop) (b o : Nat) (v : Value) : Prop :=
 ∃ (G : Heap) (n : Nod) (q : NA) (r : Recd) (qa : O) (ql qc : Nat) (kb : KB), (v = recArg r qa ql qc/\ noMaps own = true)/\ DoesPre base G H n q r qa ql b o kb /\ 
  ∀ (e : Int) (n' : Nod) (q' : NA) (kb' : KB) (G' H' : Heap), DoesPost G H n q r b o kb e n' q' kb' G' H'->f (.v (.int .i64 e)) own H'
noncomputable def TryzInS : InlFn := inlOf Tryz.prog TryzListK [(218, Tryz.f218)] TryzSum
theorem TryzinS (j : Bool) : InlOk Tryz.prog ⟨TryzListK, TryzInS, j⟩ := inl_ok (TryzsumK true) Tryzmixed fun p hp => by
 simp only [List.mem_cons, List.not_mem_nil, or_false] at hp
 subst hp
 exact ⟨Tryz.func218, body_some (by kernel_rfl), ops_ok (by kernel_rfl), by decide⟩
noncomputable def TryzSumS : InlFn := fun base H0 g pre own H f =>
 if g = 218 then (match pre with
  | [.v (.pointer (some ⟨b, o, none⟩)), .v v] => some (doesP base own H f b o v)
  | _ => none)
 else TryzSum base H0 g pre own H f
theorem TryzsumS (j : Bool) : InlOk Tryz.prog ⟨TryzListK, TryzSumS, j⟩ := by
 intro base H0 g pre own H f p hp
 unfold TryzSumS at hp
 dsimp only at hp
 split at hp
 ·rename_i e
  subst e
  split at hp
  ·rename_i b o v
   obtain rfl := Option.some.inj hp
   refine ⟨by show TryzListK.contains 218 = true; decide, fun h C w0 own0 w hbase hH0 hw hwf => ?_⟩
   subst hbase hH0
   obtain ⟨G, n, q, r, qa, ql, qc, kb, ⟨rfl, hnm⟩, hpre, hf⟩ := h
   have hm : ∀ y ∈ own, y.map = false := fun y hy => by
    have := List.all_eq_true.1 hnm y hy
    simpa using this
   have hid := hw.boxes.hid
   have hfr : H w.heap.size = none := by
    cases hh : H w.heap.size with
    | none => rfl
    | some k => have := hw.sees.lt hh; omega
   have hbox : ∀ y ∈ own, y.b ≠ b := fun y hy e => by have := hid y hy; rw [e, hpre.at_] at this; cases this
   have hpre' : DoesPre C.base G (seenBy own w.heap.size H) n q r qa ql b o kb := ⟨hpre.lb, Ext.trans hpre.sub (seenBy_ext hfr), hpre.clear, hpre.nod, hpre.rel, seenBy_ext hfr _ _ hpre.at_, hpre.free, hpre.own, hpre.room, hpre.cells⟩
   have hrun := local_run0 (TryzinS true) hw hm (g := 218) (pre := [.v (.pointer (some ⟨b, o, none⟩)), .v (recArg r qa ql qc)]) (by intro s hs; simp at hs; rcases hs with rfl | rfl <;> trivial) (R := fun x => x = b) (fun y hy => hbox y hy)
    (post := fun v H1 => ∃ (e : Int) (n' : Nod) (q' : NA) (kb' : KB) (G' : Heap), v = .int .i64 e/\ DoesPost G (seenBy own w.heap.size H) n q r b o kb e n' q' kb' G' H1) (fun H0 => by
     refine ⟨_, rfl, ?_⟩
     refine does_in hpre' fun e n' q' kb' G' H1 own1 hp => ⟨fun x k hx hne => hp.keep x k hne hx, e, n', q', kb', G', rfl, hp⟩)
   refine hrun.mono fun e w' he => ?_
   obtain ⟨v, H1, rfl, ⟨e, n', q', kb', G', rfl, hp⟩, hkeep, hst⟩ := he
   refine ⟨_, own, unseen own H1, rfl, hf e n' q' kb' G' _ ⟨hp.ext, fun x k hx => ?_, fun x k hx hn => ?_, hp.nod, ?_, hp.ty, hp.size, hp.free, hp.cells, hp.rest, fun x k hne hx => unseen_keep hid hfr hx fun hs => hkeep x k hs hne, hp.err, hp.res⟩, OwnExt.refl _, hst⟩
   ·unfold unseen
    cases hl : lookB own x with
    | none => exact hp.sub x k hx
    | some k' =>
     exfalso
     obtain ⟨y, hy, rfl, _⟩ := lookB_mem hl
     cases hg : G y.b with
     | some k2 => have := hpre.sub _ _ hg; rw [hid y hy] at this; cases this
     | none =>
      have h1 := hp.away _ _ hx hg
      unfold seenBy at h1
      rw [if_neg (fun e => by have := Bx.ok_lt (hw.boxes.ok y hy); omega), hid y hy] at h1
      rw [hl] at h1; cases h1
   ·have h1 := hp.away x k hx hn
    unfold seenBy at h1
    split at h1
    ·rename_i e; rw [e]; exact hfr
    ·split at h1
     ·cases h1
     ·rename_i hh; exact hh
   ·unfold unseen
    cases hl : lookB own b with
    | none => exact hp.at_
    | some k' =>
     exfalso
     obtain ⟨y, hy, hyb, _⟩ := lookB_mem hl
     exact hbox y hy hyb
  ·cases hp
 ·exact TryzsumK j base H0 g pre own H f p hp
end Go.Vg
