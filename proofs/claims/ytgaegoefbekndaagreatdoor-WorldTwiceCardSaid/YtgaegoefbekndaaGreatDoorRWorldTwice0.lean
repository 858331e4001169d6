/- What is proved here: a part of the proof of the law WorldTwice: what a contract is, how it comes of a condition, contracts of the functions that are reached, the plain laws. -/
import Derived.Test.YtgaegoefbekndaaGreatDoorR12
set_option linter.unusedSimpArgs false
set_option linter.unusedVariables false
set_option maxRecDepth 100000
namespace Go.Vg
open Go Go.Proofs
open Go.Value renaming int → I, slice → S, bool → B, agg → A, tuple → T, pointer → P, string → Str
open Go.IntKind renaming i64 → Z, wrap → W
open Go.Addr renaming mk → D
open Go.Vg.Bx renaming mk → J
open Go.Vg renaming Next → X, Spec → Y, SpecO → YO
open Go.Vg.Heap renaming cell → C
open Int renaming toNat → N
theorem vk5 (id bud : Int) (fa ra wa : O) (fl fc rl rc wl wc : Nat) (now goal nx : Int) (back : Bool) (la ka : O) (ll lc kl kc : Nat) (sa ta : O) (sl sc tl tc : Nat) (up : Bool) (na ma : O) (nl nc ml mc : Nat) (k : Int) (base : Nat) (H : Heap) (K : KT) :
 (fV TryzMutsK Tryz.f5 base H [.v (A #[I Z id, S fa fl fc, S ra rl rc, S wa wl wc, I Z bud, S la ll lc, I Z now, I Z goal, B back, S ka kl kc, I Z nx, S sa sl sc, S ta tl tc, B up, S na nl nc, S ma ml mc]), .v (I Z k)] [] K) = (
 ∀ a:Nat,(fun w7:LB=>∃ b:Prop,(Y Tryz.prog 30 [] H fun c d =>∃ e,c = B e/\ (X base H d->(e = false->w7 = w7/\ SubH H d/\ b)/\ (¬e = false->Y Tryz.prog 31 [A #[I Z id,S fa fl fc,S ra rl rc,S wa wl wc,I Z bud,S la ll lc,I Z now,I Z goal,B back,S ka kl kc,I Z nx,S sa sl sc,S ta tl tc,B up,S na nl nc,S ma ml mc]] d fun g h =>∃ i,g = I Z i/\ (X base d h->(¬i = 0->w7 = w7/\ SubH H h/\ b)/\ (¬¬i = 0->w7 = w7/\ SubH H h/\ (b↔(ml:Int) = 0))))))/\ (b->Y Tryz.prog 30 [] H fun c d =>∃ e,c = B e/\ (X base H d->K (B e) [] d))/\ (¬b->Y Tryz.prog 35 [I Z k,I Z (ml:Int)] H fun c d =>∃ e,c = I Z e/\ (X base H d->Y Tryz.prog 27 [A #[I Z id,S fa fl fc,S ra rl rc,S wa wl wc,I Z bud,S la ll lc,I Z now,I Z goal,B back,S ka kl kc,I Z nx,S sa sl sc,S ta tl tc,B up,S na nl nc,S ma ml mc],A #[I Z 10,I Z 0,I Z e,B false,S none 0 0]] d fun g h =>∃ i j l m n o p q r s t u v w x y z a1 b1 c1 d1 e1 f1 g1 h1 i1 j1 k1 l1 m1 n1 o1 p1 q1 r1,g = T #[A #[I Z i,S j l m,S n o p,S q r s,I Z t,S u v w,I Z x,I Z y,B z,S a1 b1 c1,I Z d1,S e1 f1 g1,S h1 i1 j1,B k1,S l1 m1 n1,S o1 p1 q1],I Z r1]/\ (X base d h->∀ s1:Nat,(¬r1 = 0->K (B true) [] h)/\ (¬¬r1 = 0->Y Tryz.prog 27 [A #[I Z i,S j l m,S n o p,S q r s,I Z t,S u v w,I Z x,I Z y,B z,S a1 b1 c1,I Z d1,S e1 f1 g1,S h1 i1 j1,B k1,S l1 m1 n1,S o1 p1 q1],A #[I Z 10,I Z 0,I Z e,B false,S none 0 0]] h fun t1 u1 =>∃ v1 w1 x1 y1 z1 a2 b2 c2 d2 e2 f2 g2 h2 i2 j2 k2 l2 m2 n2 o2 p2 q2 r2 s2 t2 u2 v2 w2 x2 y2 z2 a3 b3 c3,(fun w6:LL=>∃ d3,t1 = T #[A #[I Z v1,S w1 x1 y1,S z1 a2 b2,S c2 d2 e2,I Z f2,S g2 h2 i2,I Z j2,I Z k2,B l2,S m2 n2 o2,I Z p2,S q2 r2 s2,S t2 u2 v2,B w2,S x2 y2 z2,S a3 b3 c3],I Z d3]/\ (X base h u1->∀ e3:Nat,(fun w5:LB=>∃ f3:Prop,((¬d3 = 0->w5 = w5/\ SubH u1 u1/\ f3)/\ (¬¬d3 = 0->Y Tryz.prog 36 [A #[S u v w,I Z x,I Z y,B z,S a1 b1 c1,I Z d1],A #[S g2 h2 i2,I Z j2,I Z k2,B l2,S m2 n2 o2,I Z p2]] u1 fun g3 h3 =>∃ i3,g3 = B i3/\ (X base u1 h3->(i3 = false->w5 = w5/\ SubH u1 h3/\ f3)/\ (¬i3 = false->Y Tryz.prog 37 [A #[S e1 f1 g1,S h1 i1 j1],A #[S q2 r2 s2,S t2 u2 v2]] h3 fun j3 k3 =>∃ l3,j3 = B l3/\ (X base h3 k3->w5 = w5/\ SubH u1
 k3/\ (f3↔l3 = false))))))/\ (f3->K (B false) [] u1)/\ (¬f3->∃ (g3:NI) (h3:Nat),g3 h3 [B false,I Z 0] u1/\ ∀ (i3:Nat) (j3:Bool) (k3:Int) (l3:Heap),X base H l3->g3 i3 [B j3,I Z k3] l3->(k3 < (m1:Int)->∃ m3 n3,l1 = some (D m3 n3 none)/\ 0 <= k3/\ k3 < (m1:Int)/\ ∃ (o3:O) (p3 q3:Nat) (r3 s3:Int) (t3:Bool) (u3:Int) (v3:O) (w3 x3:Nat) (y3:Bool),(C l3 m3 (n3 + N k3 * 10) = some (S o3 p3 q3)/\ C l3 m3 (n3 + N k3 * 10 + 1) = some (I Z r3)/\ C l3 m3 (n3 + N k3 * 10 + 2) = some (I Z s3)/\ C l3 m3 (n3 + N k3 * 10 + 3) = some (B t3)/\ C l3 m3 (n3 + N k3 * 10 + 4) = some (I Z u3)/\ C l3 m3 (n3 + N k3 * 10 + 5) = some (S v3 w3 x3)/\ C l3 m3 (n3 + N k3 * 10 + 6) = some (B y3)/\ True)/\ ∃ z3 a4,x2 = some (D z3 a4 none)/\ 0 <= k3/\ k3 < (y2:Int)/\ ∃ (b4:O) (c4 d4:Nat) (e4 f4:Int) (g4:Bool) (h4:Int) (i4:O) (j4 k4:Nat) (l4:Bool),(C l3 z3 (a4 + N k3 * 10) = some (S b4 c4 d4)/\ C l3 z3 (a4 + N k3 * 10 + 1) = some (I Z e4)/\ C l3 z3 (a4 + N k3 * 10 + 2) = some (I Z f4)/\ C l3 z3 (a4 + N k3 * 10 + 3) = some (B g4)/\ C l3 z3 (a4 + N k3 * 10 + 4) = some (I Z h4)/\ C l3 z3 (a4 + N k3 * 10 + 5) = some (S i4 j4 k4)/\ C l3 z3 (a4 + N k3 * 10 + 6) = some (B l4)/\ True)/\ Y Tryz.prog 38 [A #[S o3 p3 q3,I Z r3,I Z s3,B t3,I Z u3,S v3 w3 x3,B y3],A #[S b4 c4 d4,I Z e4,I Z f4,B g4,I Z h4,S i4 j4 k4,B l4]] l3 fun m4 n4 =>∃ o4,m4 = B o4/\ (X base l3 n4->(o4 = false->K (B false) [] n4)/\ (¬o4 = false->∃ p4 q4,l1 = some (D p4 q4 none)/\ 0 <= k3/\ k3 < (m1:Int)/\ ∃ (r4:O) (s4 t4:Nat) (u4:O) (v4 w4:Nat),(C n4 p4 (q4 + N k3 * 10 + 7) = some (S r4 s4 t4)/\ C n4 p4 (q4 + N k3 * 10 + 7 + 1) = some (S u4 v4 w4)/\ True)/\ ∃ x4 y4,x2 = some (D x4 y4 none)/\ 0 <= k3/\ k3 < (y2:Int)/\ ∃ (z4:O) (a5 b5:Nat) (c5:O) (d5 e5:Nat),(C n4 x4 (y4 + N k3 * 10 + 7) = some (S z4 a5 b5)/\ C n4 x4 (y4 + N k3 * 10 + 7 + 1) = some (S c5 d5 e5)/\ True)/\ Y Tryz.prog 37 [A #[S r4 s4 t4,S u4 v4 w4],A #[S z4 a5 b5,S c5 d5 e5]] n4 fun f5 g5 =>∃ h5,f5 = B h5/\ (X base n4 g5->(h5 = false->K (B false) [] g5)/\ (¬h5 = false->∀ i5:Int,i5 = W Z (k3 + 1)->w6 = w6/\ ∃ j5:Nat,j5 < i3/\ g3 j5 [B j3,I Z i5] g5)))))/\ (¬k3 < (m1:Int)->K (B true) [] l3)))
 [J a false 41 [I Z id,S fa fl fc,S ra rl rc,S wa wl wc,I Z bud,S la ll lc,I Z now,I Z goal,B back,S ka kl kc,I Z nx,S sa sl sc,S ta tl tc,B up,S na nl nc,S ma ml mc],J s1 false 41 [I Z i,S j l m,S n o p,S q r s,I Z t,S u v w,I Z x,I Z y,B z,S a1 b1 c1,I Z d1,S e1 f1 g1,S h1 i1 j1,B k1,S l1 m1 n1,S o1 p1 q1],J e3 false 41 [I Z v1,S w1 x1 y1,S z1 a2 b2,S c2 d2 e2,I Z f2,S g2 h2 i2,I Z j2,I Z k2,B l2,S m2 n2 o2,I Z p2,S q2 r2 s2,S t2 u2 v2,B w2,S x2 y2 z2,S a3 b3 c3]])) [[I Z id,S fa fl fc,S ra rl rc,S wa wl wc,I Z bud,S la ll lc,I Z now,I Z goal,B back,S ka kl kc,I Z nx,S sa sl sc,S ta tl tc,B up,S na nl nc,S ma ml mc],[I Z i,S j l m,S n o p,S q r s,I Z t,S u v w,I Z x,I Z y,B z,S a1 b1 c1,I Z d1,S e1 f1 g1,S h1 i1 j1,B k1,S l1 m1 n1,S o1 p1 q1],[I Z v1,S w1 x1 y1,S z1 a2 b2,S c2 d2 e2,I Z f2,S g2 h2 i2,I Z j2,I Z k2,B l2,S m2 n2 o2,I Z p2,S q2 r2 s2,S t2 u2 v2,B w2,S x2 y2 z2,S a3 b3 c3]]))))) [J a false 41 [I Z id,S fa fl fc,S ra rl rc,S wa wl wc,I Z bud,S la ll lc,I Z now,I Z goal,B back,S ka kl kc,I Z nx,S sa sl sc,S ta tl tc,B up,S na nl nc,S ma ml mc]]) := by kernel_rfl
open Go Go.Proofs
theorem doE {w : Wld} (x : Hap) (h : WRight w) : wDo w x = wHap w x := by unfold wDo; rw [if_neg (by rw [wldErr_zero.2 h]; simp)]
theorem cWorldTwice {H : Heap} (hL : Lb H) {w : Wld} {p : WA} (hw : WldAt H w p) (k : Int) : Spec Tryz.prog 5 [wldArg w p, .int .i64 k] H fun v _ => v = .bool true := by
 refine TryzvcK Tryz.func5 (by kernel_rfl) (by kernel_rfl) _ rfl (fun base K => vk5 w.c.first.id w.c.bud p.fa p.ra p.wa p.fl p.fc p.rl p.rc p.wl p.wc w.h.l.now w.h.l.goal w.h.l.nx w.h.l.back p.la p.ka p.ll p.lc p.kl p.kc p.sa p.ta p.sl p.sc p.tl p.tc w.h.up p.na p.ma p.nl p.nc p.ml p.mc k base H K) fun base hb => fun b => ?_
 have hml := hw.mail.len
 have hmle := hw.mail.le
 refine ⟨¬wldErr w = 0 ∨ (p.ml : Int) = 0, (cRolled hL).bool1 fun H1 e1 hN1 => ⟨fun h => (by cases h), fun _ => (cCheck (hL.ext e1) (hw.ext e1)).int1 fun H2 e2 hN2 => ⟨fun h => ⟨rfl, Ext.trans e1 e2, .inl h⟩, fun h => ⟨rfl, Ext.trans e1 e2, ⟨fun h' => h'.resolve_left h, .inr⟩⟩⟩⟩, fun hφ => (cRolled hL).bool1 fun H1 e1 hN1 => rfl, fun hφ => ?_⟩
 have h0 : wldErr w = 0 := Decidable.byContradiction fun h => hφ (.inl h)
 have hm0 : ¬ (p.ml : Int) = 0 := fun h => hφ (.inr h)
 have hR := wldErr_zero.1 h0
 refine (cAt k _ (by omega) (by omega)).int1 fun H1 e1 hN1 => ?_
 generalize atP k (p.ml : Int) = j
 have hDo := cDo (x := hTwice j) (a := none) (l := 0) (c := 0) (hL.ext e1) (hw.ext e1) Sl.nil
 rw [doE _ hR] at hDo
 refine hDo.wldE fun p1 H2 e2 hN2 hw1 => fun b3 => ⟨fun h => rfl, fun h => ?_⟩
 obtain ⟨x, hx⟩ : ∃ x, wHap w (hTwice j) = .ok x := by
  cases hh : wHap w (hTwice j) with
  | ok x => exact ⟨x, rfl⟩
  | error e => rw [hh] at h; exact absurd (wHap_err hh) h
 rw [hx] at hw1 ⊢
 obtain ⟨y, hy, hyh, hyn⟩ := twice_same hR hx
 have hDo2 := cDo (x := hTwice j) (a := none) (l := 0) (c := 0) ((hL.ext e1).ext e2) hw1 Sl.nil
 rw [doE _ (show WRight (okW (.ok x)) from (hR.hap hx).ok), show okW (.ok x) = x from rfl, hy] at hDo2
 refine hDo2.wldE fun p2 H3 e3 hN3 hw2 => fun b6 => ?_
 have hw1' := hw1.ext e3
 refine ⟨False, ⟨fun h => absurd rfl h, fun _ => (cLdrSame hw1'.ldr hw2.ldr).bool1 fun H4 e4 hN4 => ⟨fun h => ?_, fun _ => (cDiskSame (hw1'.dsk.ext e4) (hw2.dsk.ext e4)).bool1 fun H5 e5 hN5 => ⟨rfl, Ext.trans e4 e5, ⟨fun h => h.elim, fun h => ?_⟩⟩⟩⟩, fun h => h.elim, fun _ => ?_⟩
 ·rw [decide_eq_true (show (okW (.ok x)).h.l = (okW (.ok y)).h.l from by show x.h.l = y.h.l; rw [hyh])] at h; cases h
 ·rw [decide_eq_true (show (okW (.ok x)).h.d = (okW (.ok y)).h.d from by show x.h.d = y.h.d; rw [hyh])] at h; cases h
 have hnl : p1.nl = p2.nl := by
  have h1 := hw1.nod.len
  have h2 := hw2.nod.len
  have h1 : x.n.length = p1.nl := h1
  have h2 : y.n.length = p2.nl := h2
  rw [hyn] at h2; omega
 have hnle := hw1.nod.le
 refine ⟨fun m vs H' => ∃ (d : Bool) (i : Nat), vs = [.bool d, i64 i]/\ m = p1.nl - i/\ i <= p1.nl/\ Ext H3 H', p1.nl, ⟨false, 0, rfl, rfl, by omega, Ext.refl _⟩, fun m d n H' hN' hI => ?_⟩
 obtain ⟨d', i, hvs, rfl, hi, eH⟩ := hI
 obtain ⟨rfl, rfl⟩ : d = d'/\ n = (i : Int) := by simpa using hvs
 refine ⟨fun hlt => ?_, fun hge => rfl⟩
 obtain ⟨b7, o7, r7, x7, ha7, hx7, ⟨q7, rfl, hq7⟩, hc7⟩ := (hw1'.ext eH).nod.get (k := (i : Int)) (by omega) hlt
 obtain ⟨b8, o8, r8, x8, ha8, hx8, ⟨q8, rfl, hq8⟩, hc8⟩ := (hw2.ext eH).nod.get (k := (i : Int)) (by omega) (by omega)
 obtain rfl : x7 = x8 := by
  have h7 : x.n[(i : Int).toNat]? = some x7 := hx7
  have h8 : y.n[(i : Int).toNat]? = some x8 := hx8
  rw [hyn, h7] at h8; exact Option.some.inj h8
 refine ⟨b7, o7, ha7, by omega, hlt, _, _, _, _, _, _, _, _, _, _, _, ⟨hc7 0 _ rfl, hc7 1 _ rfl, hc7 2 _ rfl, hc7 3 _ rfl, hc7 4 _ rfl, hc7 5 _ rfl, hc7 6 _ rfl, trivial⟩, b8, o8, ha8, by omega, by omega, _, _, _, _, _, _, _, _, _, _, _, ⟨hc8 0 _ rfl, hc8 1 _ rfl, hc8 2 _ rfl, hc8 3 _ rfl, hc8 4 _ rfl, hc8 5 _ rfl, hc8 6 _ rfl, trivial⟩, ?_⟩
 refine (cAgtSame hq7.lock hq7.goal hq8.lock hq8.goal).bool1 fun H5 e5 hN5 => ⟨fun h => ?_, fun _ => ?_⟩
 ·rw [decide_eq_true rfl] at h; cases h
 have c7 : ∀ j v, (nodCells x7 q7)[j]? = some v->H5.cell b7 (o7 + (i : Int).toNat * 10 + j) = some v := fun j v hj => Heap.cell_next e5 (hc7 j v hj)
 have c8 : ∀ j v, (nodCells x7 q8)[j]? = some v->H5.cell b8 (o8 + (i : Int).toNat * 10 + j) = some v := fun j v hj => Heap.cell_next e5 (hc8 j v hj)
 refine ⟨b7, o7, ha7, by omega, hlt, _, _, _, _, _, _, ⟨c7 7 _ rfl, c7 8 _ rfl, trivial⟩, b8, o8, ha8, by omega, by omega, _, _, _, _, _, _, ⟨c8 7 _ rfl, c8 8 _ rfl, trivial⟩, ?_⟩
 refine (cDiskSame (hq7.dsk.ext e5) (hq8.dsk.ext e5)).bool1 fun H6 e6 hN6 => ⟨fun h => ?_, fun _ => fun r hr => ⟨rfl, p1.nl - (i + 1), by omega, d, i + 1, ?_, rfl, by omega, Ext.trans eH (Ext.trans e5 e6)⟩⟩
 ·rw [decide_eq_true rfl] at h; cases h
 ·rw [hr, wrap_in (by omega) (by omega)]; rfl
end Go.Vg
