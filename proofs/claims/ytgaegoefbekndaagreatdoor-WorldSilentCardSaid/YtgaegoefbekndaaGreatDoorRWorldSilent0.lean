/- What is proved here: a part of the proof of the law WorldSilent: what a contract is, how it comes of a condition, contracts of the functions that are reached, the plain laws. -/
import Derived.Test.YtgaegoefbekndaaGreatDoorR12
set_option linter.unusedSimpArgs false
set_option linter.unusedVariables false
set_option maxRecDepth 100000
namespace Go.Vg
open Go Go.Proofs
open Go.Value renaming int → I, slice → S, bool → B, agg → A, tuple → T, pointer → P, string → Str
open Go.IntKind renaming i64 → Z, wrap → W
open Go.Addr renaming mk → D
open Go.Vg.Bx renaming mk → J
open Go.Vg renaming Next → X, Spec → Y, SpecO → YO
open Go.Vg.Heap renaming cell → C
open Int renaming toNat → N
theorem vk6 (id bud : Int) (fa ra wa : O) (fl fc rl rc wl wc : Nat) (now goal nx : Int) (back : Bool) (la ka : O) (ll lc kl kc : Nat) (sa ta : O) (sl sc tl tc : Nat) (up : Bool) (na ma : O) (nl nc ml mc : Nat) (ha : O) (hl hc : Nat) (base : Nat) (H : Heap) (K : KT) :
 (fV TryzMutsK Tryz.f6 base H [.v (A #[I Z id, S fa fl fc, S ra rl rc, S wa wl wc, I Z bud, S la ll lc, I Z now, I Z goal, B back, S ka kl kc, I Z nx, S sa sl sc, S ta tl tc, B up, S na nl nc, S ma ml mc]), .v (S ha hl hc)] [] K) = (
 (fun w12:LV=>∀ a:Nat,(fun w11:LB=>∃ b:Prop,(Y Tryz.prog 30 [] H fun c d =>∃ e,c = B e/\ (X base H d->(e = false->w11 = w11/\ SubH H d/\ b)/\ (¬e = false->Y Tryz.prog 31 [A #[I Z id,S fa fl fc,S ra rl rc,S wa wl wc,I Z bud,S la ll lc,I Z now,I Z goal,B back,S ka kl kc,I Z nx,S sa sl sc,S ta tl tc,B up,S na nl nc,S ma ml mc]] d fun g h =>∃ i,g = I Z i/\ (X base d h->w11 = w11/\ SubH H h/\ (b↔¬i = 0)))))/\ (b->Y Tryz.prog 30 [] H fun c d =>∃ e,c = B e/\ (X base H d->K (B e) [] d))/\ (¬b->(up = true->Y Tryz.prog 27 [A #[I Z id,S fa fl fc,S ra rl rc,S wa wl wc,I Z bud,S la ll lc,I Z now,I Z goal,B back,S ka kl kc,I Z nx,S sa sl sc,S ta tl tc,B up,S na nl nc,S ma ml mc],A #[I Z 12,I Z (-1),I Z 0,B false,S none 0 0]] H fun c d =>∃ e g h i j k l m n o p q r s t u v w x y z a1 b1 c1 d1 e1 f1 g1,(fun w8:LV=>∃ h1 i1 j1 k1 l1 m1,(fun w7:LL=>∃ n1,c = T #[A #[I Z e,S g h i,S j k l,S m n o,I Z p,S q r s,I Z t,I Z u,B v,S w x y,I Z z,S a1 b1 c1,S d1 e1 f1,B g1,S h1 i1 j1,S k1 l1 m1],I Z n1]/\ (X base H d->∀ o1:Nat,(¬n1 = 0->K (B false) [] d)/\ (¬¬n1 = 0->∀ p1:Nat,(0 <= if 20 < (hl:Int) then 20 else (hl:Int))/\ (if 20 < (hl:Int) then 20 else (hl:Int)) <= (hc:Int)/\ ∃ (q1:NI) (r1:Nat),q1 r1 [B false,I Z 0,A #[I Z e,S g h i,S j k l,S m n o,I Z p,S q r s,I Z t,I Z u,B v,S w x y,I Z z,S a1 b1 c1,S d1 e1 f1,B g1,S h1 i1 j1,S k1 l1 m1]] d/\ ∀ (s1:Nat) (t1:Bool) (u1 v1:Int) (w1:O) (x1 y1:Nat) (z1:O) (a2 b2:Nat) (c2:O) (d2 e2:Nat) (f2:Int) (g2:O) (h2 i2:Nat) (j2 k2:Int) (l2:Bool) (m2:O) (n2 o2:Nat) (p2:Int) (q2:O) (r2 s2:Nat) (t2:O) (u2 v2:Nat) (w2:Bool) (x2:O) (y2 z2:Nat) (a3:O) (b3 c3:Nat) (d3:Heap),X base H d3->q1 s1 [B t1,I Z u1,A #[I Z v1,S w1 x1 y1,S z1 a2 b2,S c2 d2 e2,I Z f2,S g2 h2 i2,I Z j2,I Z k2,B l2,S m2 n2 o2,I Z p2,S q2 r2 s2,S t2 u2 v2,B w2,S x2 y2 z2,S a3 b3 c3]] d3->(u1 < (↑(N (if 20 < (hl:Int) then 20 else (hl:Int))) : Int)->∃ e3 f3,ha = some (D e3 f3 none)/\ 0 <= u1/\ u1 < (↑(N (if 20 < (hl:Int) then 20 else (hl:Int))) : Int)/\ ∃ (g3 h3 i3:Int) (j3:Bool) (k3:O) (l3 m3:Nat),(C d3 e3 (f3 + N u1 * 5) = some (I Z g3)/\ C d3 e3 (f3 +
 N u1 * 5 + 1) = some (I Z h3)/\ C d3 e3 (f3 + N u1 * 5 + 2) = some (I Z i3)/\ C d3 e3 (f3 + N u1 * 5 + 3) = some (B j3)/\ C d3 e3 (f3 + N u1 * 5 + 4) = some (S k3 l3 m3)/\ True)/\ ∀ n3:Nat,(fun w6:LB=>∃ o3:Prop,((g3 = 13->w6 = w6/\ SubH d3 d3/\ (o3↔h3 < 0))/\ (¬g3 = 13->w6 = w6/\ SubH d3 d3/\ ¬o3))/\ (o3->∀ p3:Int,p3 = W Z (u1 + 1)->w7 = w7/\ ∃ q3:Nat,q3 < s1/\ q1 q3 [B t1,I Z p3,A #[I Z v1,S w1 x1 y1,S z1 a2 b2,S c2 d2 e2,I Z f2,S g2 h2 i2,I Z j2,I Z k2,B l2,S m2 n2 o2,I Z p2,S q2 r2 s2,S t2 u2 v2,B w2,S x2 y2 z2,S a3 b3 c3]] d3)/\ (¬o3->Y Tryz.prog 27 [A #[I Z v1,S w1 x1 y1,S z1 a2 b2,S c2 d2 e2,I Z f2,S g2 h2 i2,I Z j2,I Z k2,B l2,S m2 n2 o2,I Z p2,S q2 r2 s2,S t2 u2 v2,B w2,S x2 y2 z2,S a3 b3 c3],A #[I Z g3,I Z h3,I Z i3,B j3,S k3 l3 m3]] d3 fun p3 q3 =>∃ r3 s3 t3 u3 v3 w3 x3 y3 z3 a4 b4 c4 d4 e4 f4 g4 h4 i4 j4 k4 l4 m4 n4 o4 p4 q4 r4 s4 t4 u4 v4 w4 x4 y4 z4,p3 = T #[A #[I Z r3,S s3 t3 u3,S v3 w3 x3,S y3 z3 a4,I Z b4,S c4 d4 e4,I Z f4,I Z g4,B h4,S i4 j4 k4,I Z l4,S m4 n4 o4,S p4 q4 r4,B s4,S t4 u4 v4,S w4 x4 y4],I Z z4]/\ (X base d3 q3->∀ a5:Nat,(fun w5:LB=>(¬z4 = 0->∀ b5:Int,b5 = W Z (u1 + 1)->w7 = w7/\ ∃ c5:Nat,c5 < s1/\ q1 c5 [B t1,I Z b5,A #[I Z v1,S w1 x1 y1,S z1 a2 b2,S c2 d2 e2,I Z f2,S g2 h2 i2,I Z j2,I Z k2,B l2,S m2 n2 o2,I Z p2,S q2 r2 s2,S t2 u2 v2,B w2,S x2 y2 z2,S a3 b3 c3]] q3)/\ (¬¬z4 = 0->∃ b5:Prop,((s4 = true->w5 = w5/\ SubH q3 q3/\ b5)/\ (s4 = false->Y Tryz.prog 37 [A #[S m4 n4 o4,S p4 q4 r4],A #[S a1 b1 c1,S d1 e1 f1]] q3 fun c5 d5 =>∃ e5,c5 = B e5/\ (X base q3 d5->(e5 = false->w5 = w5/\ SubH q3 d5/\ b5)/\ (¬e5 = false->Y Tryz.prog 36 [A #[S c4 d4 e4,I Z f4,I Z g4,B h4,S i4 j4 k4,I Z l4],A #[S q r s,I Z t,I Z u,B v,S w x y,I Z z]] d5 fun f5 g5 =>∃ h5,f5 = B h5/\ (X base d5 g5->w5 = w5/\ SubH q3 g5/\ (b5↔h5 = false))))))/\ (b5->K (B false) [] q3)/\ (¬b5->∃ c5:Prop,(((b3:Int) < (x4:Int)->∃ d5 e5,w4 = some (D d5 e5 none)/\ 0 <= (b3:Int)/\ (b3:Int) < (x4:Int)/\ ∃ f5,C q3 d5 (e5 + N (b3:Int) * 6 + 2) = some (B f5)/\ w5 = w5/\ SubH q3 q3/\ (c5↔f5 = false))/\ (¬(b3:Int) < (x4:Int)->w5 = w5/\ SubH q3 q3/\ ¬c5))/\ (c5->K (B false) [] q3)/\ (¬c5->∀
 d5:Int,d5 = W Z (u1 + 1)->w7 = w7/\ ∃ e5:Nat,e5 < s1/\ q1 e5 [B t1,I Z d5,A #[I Z r3,S s3 t3 u3,S v3 w3 x3,S y3 z3 a4,I Z b4,S c4 d4 e4,I Z f4,I Z g4,B h4,S i4 j4 k4,I Z l4,S m4 n4 o4,S p4 q4 r4,B s4,S t4 u4 v4,S w4 x4 y4]] q3)))) [J a false 41 [I Z v1,S w1 x1 y1,S z1 a2 b2,S c2 d2 e2,I Z f2,S g2 h2 i2,I Z j2,I Z k2,B l2,S m2 n2 o2,I Z p2,S q2 r2 s2,S t2 u2 v2,B w2,S x2 y2 z2,S a3 b3 c3],J o1 false 41 [I Z e,S g h i,S j k l,S m n o,I Z p,S q r s,I Z t,I Z u,B v,S w x y,I Z z,S a1 b1 c1,S d1 e1 f1,B g1,S h1 i1 j1,S k1 l1 m1],J p1 false 37 w8,J n3 false 62 [I Z g3,I Z h3,I Z i3,B j3,S k3 l3 m3],J a5 false 41 [I Z r3,S s3 t3 u3,S v3 w3 x3,S y3 z3 a4,I Z b4,S c4 d4 e4,I Z f4,I Z g4,B h4,S i4 j4 k4,I Z l4,S m4 n4 o4,S p4 q4 r4,B s4,S t4 u4 v4,S w4 x4 y4]]))) [J a false 41 [I Z v1,S w1 x1 y1,S z1 a2 b2,S c2 d2 e2,I Z f2,S g2 h2 i2,I Z j2,I Z k2,B l2,S m2 n2 o2,I Z p2,S q2 r2 s2,S t2 u2 v2,B w2,S x2 y2 z2,S a3 b3 c3],J o1 false 41 [I Z e,S g h i,S j k l,S m n o,I Z p,S q r s,I Z t,I Z u,B v,S w x y,I Z z,S a1 b1 c1,S d1 e1 f1,B g1,S h1 i1 j1,S k1 l1 m1],J p1 false 37 w8,J n3 false 62 [I Z g3,I Z h3,I Z i3,B j3,S k3 l3 m3]])/\ (¬u1 < (↑(N (if 20 < (hl:Int) then 20 else (hl:Int))) : Int)->K (B true) [] d3)))) [[I Z e,S g h i,S j k l,S m n o,I Z p,S q r s,I Z t,I Z u,B v,S w x y,I Z z,S a1 b1 c1,S d1 e1 f1,B g1,S h1 i1 j1,S k1 l1 m1],w8]) [S q r s,I Z t,I Z u,B v,S w x y,I Z z,S a1 b1 c1,S d1 e1 f1,B g1])/\ (up = false->∀ c:Nat,(0 <= if 20 < (hl:Int) then 20 else (hl:Int))/\ (if 20 < (hl:Int) then 20 else (hl:Int)) <= (hc:Int)/\ ∃ (d:NI) (e:Nat),d e [B false,I Z 0,A #[I Z id,S fa fl fc,S ra rl rc,S wa wl wc,I Z bud,S la ll lc,I Z now,I Z goal,B back,S ka kl kc,I Z nx,S sa sl sc,S ta tl tc,B up,S na nl nc,S ma ml mc]] H/\ ∀ (g:Nat) (h:Bool) (i j:Int) (k:O) (l m:Nat) (n:O) (o p:Nat) (q:O) (r s:Nat) (t:Int) (u:O) (v w:Nat) (x y:Int) (z:Bool) (a1:O) (b1 c1:Nat) (d1:Int) (e1:O) (f1 g1:Nat) (h1:O) (i1 j1:Nat) (k1:Bool) (l1:O) (m1 n1:Nat) (o1:O) (p1 q1:Nat) (r1:Heap),X base H r1->d g [B h,I Z i,A #[I Z
 j,S k l m,S n o p,S q r s,I Z t,S u v w,I Z x,I Z y,B z,S a1 b1 c1,I Z d1,S e1 f1 g1,S h1 i1 j1,B k1,S l1 m1 n1,S o1 p1 q1]] r1->(i < (↑(N (if 20 < (hl:Int) then 20 else (hl:Int))) : Int)->∃ s1 t1,ha = some (D s1 t1 none)/\ 0 <= i/\ i < (↑(N (if 20 < (hl:Int) then 20 else (hl:Int))) : Int)/\ ∃ (u1 v1 w1:Int) (x1:Bool) (y1:O) (z1 a2:Nat),(C r1 s1 (t1 + N i * 5) = some (I Z u1)/\ C r1 s1 (t1 + N i * 5 + 1) = some (I Z v1)/\ C r1 s1 (t1 + N i * 5 + 2) = some (I Z w1)/\ C r1 s1 (t1 + N i * 5 + 3) = some (B x1)/\ C r1 s1 (t1 + N i * 5 + 4) = some (S y1 z1 a2)/\ True)/\ ∀ b2:Nat,(fun w10:LB=>∃ c2:Prop,((u1 = 13->w10 = w10/\ SubH r1 r1/\ (c2↔v1 < 0))/\ (¬u1 = 13->w10 = w10/\ SubH r1 r1/\ ¬c2))/\ (c2->∀ d2:Int,d2 = W Z (i + 1)->[w12] = [w12]/\ ∃ e2:Nat,e2 < g/\ d e2 [B h,I Z d2,A #[I Z j,S k l m,S n o p,S q r s,I Z t,S u v w,I Z x,I Z y,B z,S a1 b1 c1,I Z d1,S e1 f1 g1,S h1 i1 j1,B k1,S l1 m1 n1,S o1 p1 q1]] r1)/\ (¬c2->Y Tryz.prog 27 [A #[I Z j,S k l m,S n o p,S q r s,I Z t,S u v w,I Z x,I Z y,B z,S a1 b1 c1,I Z d1,S e1 f1 g1,S h1 i1 j1,B k1,S l1 m1 n1,S o1 p1 q1],A #[I Z u1,I Z v1,I Z w1,B x1,S y1 z1 a2]] r1 fun d2 e2 =>∃ f2 g2 h2 i2 j2 k2 l2 m2 n2 o2 p2 q2 r2 s2 t2 u2 v2 w2 x2 y2 z2 a3 b3 c3 d3 e3 f3 g3 h3 i3 j3 k3 l3 m3 n3,d2 = T #[A #[I Z f2,S g2 h2 i2,S j2 k2 l2,S m2 n2 o2,I Z p2,S q2 r2 s2,I Z t2,I Z u2,B v2,S w2 x2 y2,I Z z2,S a3 b3 c3,S d3 e3 f3,B g3,S h3 i3 j3,S k3 l3 m3],I Z n3]/\ (X base r1 e2->∀ o3:Nat,(fun w9:LB=>(¬n3 = 0->∀ p3:Int,p3 = W Z (i + 1)->[w12] = [w12]/\ ∃ q3:Nat,q3 < g/\ d q3 [B h,I Z p3,A #[I Z j,S k l m,S n o p,S q r s,I Z t,S u v w,I Z x,I Z y,B z,S a1 b1 c1,I Z d1,S e1 f1 g1,S h1 i1 j1,B k1,S l1 m1 n1,S o1 p1 q1]] e2)/\ (¬¬n3 = 0->∃ p3:Prop,((g3 = true->w9 = w9/\ SubH e2 e2/\ p3)/\ (g3 = false->Y Tryz.prog 37 [A #[S a3 b3 c3,S d3 e3 f3],A #[S sa sl sc,S ta tl tc]] e2 fun q3 r3 =>∃ s3,q3 = B s3/\ (X base e2 r3->(s3 = false->w9 = w9/\ SubH e2 r3/\ p3)/\ (¬s3 = false->Y Tryz.prog 36 [A #[S q2 r2 s2,I Z t2,I Z u2,B v2,S w2 x2 y2,I Z z2],A #[S la ll lc,I Z now,I Z goal,B back,S ka kl kc,I Z nx]] r3 fun t3 u3 =>∃ v3,t3 = B
 v3/\ (X base r3 u3->w9 = w9/\ SubH e2 u3/\ (p3↔v3 = false))))))/\ (p3->K (B false) [] e2)/\ (¬p3->∃ q3:Prop,(((p1:Int) < (l3:Int)->∃ r3 s3,k3 = some (D r3 s3 none)/\ 0 <= (p1:Int)/\ (p1:Int) < (l3:Int)/\ ∃ t3,C e2 r3 (s3 + N (p1:Int) * 6 + 2) = some (B t3)/\ w9 = w9/\ SubH e2 e2/\ (q3↔t3 = false))/\ (¬(p1:Int) < (l3:Int)->w9 = w9/\ SubH e2 e2/\ ¬q3))/\ (q3->K (B false) [] e2)/\ (¬q3->∀ r3:Int,r3 = W Z (i + 1)->[w12] = [w12]/\ ∃ s3:Nat,s3 < g/\ d s3 [B h,I Z r3,A #[I Z f2,S g2 h2 i2,S j2 k2 l2,S m2 n2 o2,I Z p2,S q2 r2 s2,I Z t2,I Z u2,B v2,S w2 x2 y2,I Z z2,S a3 b3 c3,S d3 e3 f3,B g3,S h3 i3 j3,S k3 l3 m3]] e2)))) [J a false 41 [I Z j,S k l m,S n o p,S q r s,I Z t,S u v w,I Z x,I Z y,B z,S a1 b1 c1,I Z d1,S e1 f1 g1,S h1 i1 j1,B k1,S l1 m1 n1,S o1 p1 q1],J c false 37 w12,J b2 false 62 [I Z u1,I Z v1,I Z w1,B x1,S y1 z1 a2],J o3 false 41 [I Z f2,S g2 h2 i2,S j2 k2 l2,S m2 n2 o2,I Z p2,S q2 r2 s2,I Z t2,I Z u2,B v2,S w2 x2 y2,I Z z2,S a3 b3 c3,S d3 e3 f3,B g3,S h3 i3 j3,S k3 l3 m3]]))) [J a false 41 [I Z j,S k l m,S n o p,S q r s,I Z t,S u v w,I Z x,I Z y,B z,S a1 b1 c1,I Z d1,S e1 f1 g1,S h1 i1 j1,B k1,S l1 m1 n1,S o1 p1 q1],J c false 37 w12,J b2 false 62 [I Z u1,I Z v1,I Z w1,B x1,S y1 z1 a2]])/\ (¬i < (↑(N (if 20 < (hl:Int) then 20 else (hl:Int))) : Int)->K (B true) [] r1)))) [J a false 41 [I Z id,S fa fl fc,S ra rl rc,S wa wl wc,I Z bud,S la ll lc,I Z now,I Z goal,B back,S ka kl kc,I Z nx,S sa sl sc,S ta tl tc,B up,S na nl nc,S ma ml mc]]) [S la ll lc,I Z now,I Z goal,B back,S ka kl kc,I Z nx,S sa sl sc,S ta tl tc,B up]) := by kernel_rfl
open Go
theorem silent {w y : Wld} {x : Hap} (hu : w.h.up = false) (hx : ¬ (x.kind = 13/\ x.agent < 0)) (hy : wHap w x = .ok y) : y.h = w.h/\ ∀ m, y.m[w.m.length]? = some m->m.rep = true := by
 have hlong : ∀ m, ¬ w.m[w.m.length]? = some m := fun m e => by have := (List.getElem?_eq_some_iff.1 e).1; omega
 have hpost : ∀ (w' : Wld) (k : Nat), (wReport w' k).h = w'.h/\ ((wReport w' k).m = w'.m ∨ ∃ m, m.rep = true/\ (wReport w' k).m = w'.m ++ [m]) := fun w' k => by
  unfold wReport
  split
  ·exact ⟨rfl, .inl rfl⟩
  ·rename_i n hn
   unfold wPost
   split
   ·refine ⟨rfl, ?_⟩
    show sent w'.m _ = w'.m ∨ _
    unfold sent
    split
    ·exact .inr ⟨_, rfl, rfl⟩
    ·exact .inl rfl
   ·exact ⟨rfl, .inl rfl⟩
 have hrep : ∀ (l : List Mail) (k : Nat) (w' : Wld), l.length <= w.m.length->w'.m = l->∀ m, (wReport w' k).m[w.m.length]? = some m->m.rep = true := fun l k w' hl hw m hm => by
  rcases (hpost w' k).2 with e | ⟨m', e1, e2⟩
  ·rw [e, hw] at hm
   have := (List.getElem?_eq_some_iff.1 hm).1; omega
  ·rw [e2, hw] at hm
   by_cases e : l.length = w.m.length
   ·rw [List.getElem?_append_right (by omega), e, Nat.sub_self] at hm
    obtain rfl := Option.some.inj hm
    exact e1
   ·have := (List.getElem?_eq_some_iff.1 hm).1
    simp at this; omega
 unfold wHap at hy
 split at hy
 ·unfold wHear at hy
  split at hy
  ·cases hy
  ·have hl := left_len (l := w.m) (k := x.num) (tw := decide (x.kind = 10))
   generalize took w.m x.num = m at *
   split at hy
   ·cases hy
   ·rename_i n hn
    split at hy
    ·cases hy
    ·rename_i hup
     dsimp only at hy
     split at hy
     ·rename_i hr; exact absurd (.inl ⟨hr, hu⟩) hup
     ·split at hy
      ·obtain rfl := Except.ok.inj hy
       exact ⟨(hpost _ _).1, hrep _ _ _ hl rfl⟩
      ·have hxx := Except.ok.inj hy
       rcases orSame_ok hxx with e | ⟨_, rfl⟩
       ·obtain ⟨n0, n', hn0, hn', rfl⟩ := wDoes_ok e
        refine ⟨rfl, fun m' hm => ?_⟩
        have := (List.getElem?_eq_some_iff.1 hm).1
        simp only at this; omega
       ·refine ⟨rfl, fun m' hm => ?_⟩
        have := (List.getElem?_eq_some_iff.1 hm).1
        simp only at this; omega
 ·split at hy
  ·split at hy
   ·cases hy
   ·obtain rfl := Except.ok.inj hy
    have hl := left_len (l := w.m) (k := x.num) (tw := false)
    refine ⟨rfl, fun m' hm => ?_⟩
    have := (List.getElem?_eq_some_iff.1 hm).1
    simp only at this; omega
  ·split at hy
   ·first | cases hy | (rw [if_pos hu] at hy; cases hy)
   ·split at hy
    ·cases hy
    ·split at hy
     ·cases hy
     ·split at hy
      ·first | cases hy | (rw [if_pos hu] at hy; cases hy)
      ·split at hy
       ·rename_i hk
        unfold wPower at hy
        split at hy
        ·rename_i hneg
         split at hy
         ·cases hy
         ·rename_i hnu
          rw [hu] at hnu
          have : x.kind = 13 := by simpa using hnu
          exact absurd ⟨this, hneg⟩ hx
        ·split at hy
         ·cases hy
         ·split at hy
          ·cases hy
          ·split at hy
           ·cases hy
           ·split at hy
            ·cases hy
            ·obtain rfl := Except.ok.inj hy
             exact ⟨rfl, fun m hm => absurd hm (hlong m)⟩
       ·split at hy
        ·cases hy
        ·rename_i n hn
         split at hy
         ·cases hy
         ·split at hy
          ·unfold wStep at hy
           split at hy
           ·cases hy
           ·split at hy
            ·cases hy
            ·split at hy
             ·obtain ⟨n0, n', hn0, hn', rfl⟩ := wDoes_ok hy
              exact ⟨rfl, fun m hm => absurd hm (hlong m)⟩
             ·split at hy
              ·cases hy
              ·rename_i z hz
               obtain rfl := Except.ok.inj hy
               obtain ⟨n0, n', hn0, hn', rfl⟩ := wDoes_ok hz
               exact ⟨(hpost _ _).1, hrep _ _ _ (Nat.le_refl _) rfl⟩
          ·split at hy
           ·cases hy
           ·obtain rfl := Except.ok.inj hy
            exact ⟨(hpost _ _).1, hrep _ _ _ (Nat.le_refl _) rfl⟩
open Go Go.Proofs
theorem doE {w : Wld} (x : Hap) (h : WRight w) : wDo w x = wHap w x := by unfold wDo; rw [if_neg (by rw [wldErr_zero.2 h]; simp)]
open Go Go.Proofs
set_option maxHeartbeats 1000000 in
theorem cWorldSilent {H : Heap} (hL : Lb H) {w : Wld} {p : WA} (hw : WldAt H w p) {l : List Hap} {a : O} {n c : Nat} (hx : Haps H a n l) (hc : n <= c) :
  Spec Tryz.prog 6 [wldArg w p, .slice a n c] H fun v _ => v = .bool true := by
 refine TryzvcK Tryz.func6 (by kernel_rfl) (by kernel_rfl) _ rfl (fun base K => vk6 w.c.first.id w.c.bud p.fa p.ra p.wa p.fl p.fc p.rl p.rc p.wl p.wc w.h.l.now w.h.l.goal w.h.l.nx w.h.l.back p.la p.ka p.ll p.lc p.kl p.kc p.sa p.ta p.sl p.sc p.tl p.tc w.h.up p.na p.ma p.nl p.nc p.ml p.mc a n c base H K) fun base hb => fun b => ?_
 refine ⟨¬wldErr w = 0, (cRolled hL).bool1 fun H1 e1 hN1 => ⟨fun h => (by cases h), fun _ => (cCheck (hL.ext e1) (hw.ext e1)).int1 fun H2 e2 hN2 => ⟨rfl, Ext.trans e1 e2, Iff.rfl⟩⟩, fun hφ => (cRolled hL).bool1 fun H1 e1 hN1 => rfl, fun hφ => ?_⟩
 have h0 := Decidable.not_not.1 hφ
 have hR := wldErr_zero.1 h0
 refine ⟨fun hu => ?_, fun hu => ?_⟩
 ·obtain ⟨w0, h1, hu0, h4⟩ := stands_head hR hu (k := -1) (by omega)
  have hD1 : wDo w (hCrash (-1)) = .ok w0 := (doE _ hR).trans h1
  have hDo := cDo (x := hCrash (-1)) (a := none) (l := 0) (c := 0) hL hw Sl.nil
  have hDo' : Spec Tryz.prog 27 [wldArg w p, hapArg (hCrash (-1)) none 0 0] H fun v H'' => ∃ p', v = .tuple #[wldArg w0 p', i64 0]/\ WldAt H'' w0 p' := by rw [hD1] at hDo; exact hDo
  refine hDo'.wldE fun p0 Hs e0 hN0 hw0 => fun b3 => ⟨fun h => absurd rfl h, fun _ => fun b4 => ?_⟩
  have hR0 := (hR.hap h1).ok
  have hL0 := hL.ext e0
  have hx0 := Sl.ext RHap.mono hx e0
  generalize hNN : (if 20 < (n : Int) then (20 : Int) else (n : Int)) = NN
  have hNb : 0 <= NN/\ NN <= (n : Int) := by rw [← hNN]; split <;> omega
  obtain ⟨N, rfl⟩ : ∃ N : Nat, NN = N := ⟨NN.toNat, by omega⟩
  refine ⟨by omega, by omega, fun m vs H' => ∃ (d : Bool) (i : Nat) (y : Wld) (q : WA), vs = [.bool d, i64 i, wldArg y q]/\ m = N - i/\ i <= N/\ WldAt H' y q/\ WRight y/\ y.h = w0.h/\ Ext Hs H', N, ⟨false, 0, w0, p0, rfl, rfl, by omega, hw0, hR0, rfl, Ext.refl _⟩, ?_⟩
  intro m d n15 n16 a11 n17 c9 a12 n18 c10 a13 n19 c11 n20 a14 n21 c12 n22 n23 b6 a15 n24 c13 n25 a16 n26 c14 a17 n27 c15 b7 a18 n28 c16 a19 n29 c17 H' hNx hI
  obtain ⟨d', i, y, q, hvs, rfl, hi, hwy, hRy, hyh, eH⟩ := hI
  simp only [List.cons.injEq, Value.slice.injEq, Value.int.injEq, true_and, Value.agg.injEq, Array.mk.injEq, Value.bool.injEq, and_true] at hvs
  obtain ⟨rfl, rfl, rfl, ⟨rfl, rfl, rfl⟩, ⟨rfl, rfl, rfl⟩, ⟨rfl, rfl, rfl⟩, rfl, ⟨rfl, rfl, rfl⟩, rfl, rfl, rfl, ⟨rfl, rfl, rfl⟩, rfl, ⟨rfl, rfl, rfl⟩, ⟨rfl, rfl, rfl⟩, rfl, ⟨rfl, rfl, rfl⟩, rfl, rfl, rfl⟩ := hvs
  have hln := hx0.len
  have hnle := hx0.le
  refine ⟨fun hlt => ?_, fun hge => rfl⟩
  have hin : i < N := by have := hlt; rw [Int.toNat_natCast] at this; omega
  obtain ⟨b8, o8, r8, x, ha, hxi, ⟨ax, lx, cx, rfl, hpx⟩, hc8⟩ := (Sl.ext RHap.mono hx0 eH).get (k := (i : Int)) (by omega) (by omega)
  have nxt : ∀ {r : Int}, r = IntKind.wrap .i64 ((i : Int) + 1)->r = ((i + 1 : Nat) : Int) := fun hr => by rw [hr, wrap_in (by omega) (by omega)]; rfl
  refine ⟨b8, o8, ha, by omega, hlt, _, _, _, _, _, _, _, ⟨hc8 0 _ rfl, hc8 1 _ rfl, hc8 2 _ rfl, hc8 3 _ rfl, hc8 4 _ rfl, trivial⟩, fun b10 => ⟨x.kind = 13/\ x.agent < 0, ⟨fun h => ⟨rfl, subH, ⟨fun hh => hh.2, fun hh => ⟨h, hh⟩⟩⟩, fun h => ⟨rfl, subH, fun hh => h hh.1⟩⟩, fun hφ => fun r hr => ⟨rfl, N - (i + 1), by omega, d, i + 1, y, q, by rw [nxt hr], rfl, by omega, hwy, hRy, hyh, eH⟩, fun hφ => ?_⟩⟩
  have hDo := cDo (c := cx) (hL0.ext eH) hwy hpx
  rw [doE _ hRy] at hDo
  cases hh : wHap y x with
  | error e =>
   rw [hh] at hDo
   exact hDo.wldE fun p1 H1 e1 hN1 hw1 => fun b13 => ⟨fun _ => fun r hr => ⟨rfl, N - (i + 1), by omega, d, i + 1, y, q, by rw [nxt hr], rfl, by omega, hwy.ext e1, hRy, hyh, Ext.trans eH e1⟩, fun h => absurd (wHap_err hh) h⟩
  | ok z =>
   have hDo' : Spec Tryz.prog 27 [wldArg y q, hapArg x ax lx cx] H' fun v H'' => ∃ p', v = .tuple #[wldArg z p', i64 0]/\ WldAt H'' z p' := by rw [hh] at hDo; exact hDo
   obtain ⟨hs1, hs2⟩ := silent (by rw [hyh]; exact hu0) hφ hh
   refine hDo'.wldE fun p1 H1 e1 hN1 hw1 => fun b13 => ⟨fun h => absurd rfl h, fun _ => ⟨False, ⟨fun h => ?_, fun _ => (cDiskSame hw1.dsk (hw0.dsk.ext (Ext.trans eH e1))).bool1 fun H2 e2 hN2 => ⟨fun h => ?_, fun _ => (cLdrSame (hw1.ldr.ext e2) ((hw0.ldr.ext (Ext.trans eH e1)).ext e2)).bool1 fun H3 e3 hN3 => ⟨rfl, Ext.trans e2 e3, ⟨fun h => h.elim, fun h => ?_⟩⟩⟩⟩, fun h => h.elim, fun _ => ?_⟩⟩
   ·rw [hs1, hyh, hu0] at h; cases h
   ·rw [decide_eq_true (show z.h.d = w0.h.d from by rw [hs1, hyh])] at h; cases h
   ·rw [decide_eq_true (show z.h.l = w0.h.l from by rw [hs1, hyh])] at h; cases h
   ·refine ⟨False, ⟨fun hm => ?_, fun hm => ⟨rfl, subH, fun h => h⟩⟩, fun h => h.elim, fun _ => fun r hr => ⟨rfl, N - (i + 1), by omega, d, i + 1, z, p1, by rw [nxt hr], rfl, by omega, hw1, (hRy.hap hh).ok, hs1.trans hyh, Ext.trans eH e1⟩⟩
    obtain ⟨b9, o9, r9, mm, ha9, hm9, ⟨ga, gl, gc, rfl, hg9⟩, hc9⟩ := hw1.mail.get (k := (q.ml : Int)) (by omega) hm
    have hyl := hwy.mail.len
    refine ⟨b9, o9, ha9, by omega, hm, _, hc9 2 _ rfl, rfl, subH, ⟨fun h => h.elim, fun h => ?_⟩⟩
    have := hs2 mm (by rw [hyl]; exact hm9)
    rw [h] at this; cases this
 ·intro b3
  have hw0 := hw
  have hR0 := hR
  have hL0 := hL
  have hx0 := hx
  have hu0 := hu
  generalize hNN : (if 20 < (n : Int) then (20 : Int) else (n : Int)) = NN
  have hNb : 0 <= NN/\ NN <= (n : Int) := by rw [← hNN]; split <;> omega
  obtain ⟨N, rfl⟩ : ∃ N : Nat, NN = N := ⟨NN.toNat, by omega⟩
  refine ⟨by omega, by omega, fun m vs H' => ∃ (d : Bool) (i : Nat) (y : Wld) (q : WA), vs = [.bool d, i64 i, wldArg y q]/\ m = N - i/\ i <= N/\ WldAt H' y q/\ WRight y/\ y.h = w.h/\ Ext H H', N, ⟨false, 0, w, p, rfl, rfl, by omega, hw, hR0, rfl, Ext.refl _⟩, ?_⟩
  intro m d n15 n16 a11 n17 c9 a12 n18 c10 a13 n19 c11 n20 a14 n21 c12 n22 n23 b6 a15 n24 c13 n25 a16 n26 c14 a17 n27 c15 b7 a18 n28 c16 a19 n29 c17 H' hNx hI
  obtain ⟨d', i, y, q, hvs, rfl, hi, hwy, hRy, hyh, eH⟩ := hI
  simp only [List.cons.injEq, Value.slice.injEq, Value.int.injEq, true_and, Value.agg.injEq, Array.mk.injEq, Value.bool.injEq, and_true] at hvs
  obtain ⟨rfl, rfl, rfl, ⟨rfl, rfl, rfl⟩, ⟨rfl, rfl, rfl⟩, ⟨rfl, rfl, rfl⟩, rfl, ⟨rfl, rfl, rfl⟩, rfl, rfl, rfl, ⟨rfl, rfl, rfl⟩, rfl, ⟨rfl, rfl, rfl⟩, ⟨rfl, rfl, rfl⟩, rfl, ⟨rfl, rfl, rfl⟩, rfl, rfl, rfl⟩ := hvs
  have hln := hx0.len
  have hnle := hx0.le
  refine ⟨fun hlt => ?_, fun hge => rfl⟩
  have hin : i < N := by have := hlt; rw [Int.toNat_natCast] at this; omega
  obtain ⟨b8, o8, r8, x, ha, hxi, ⟨ax, lx, cx, rfl, hpx⟩, hc8⟩ := (Sl.ext RHap.mono hx0 eH).get (k := (i : Int)) (by omega) (by omega)
  have nxt : ∀ {r : Int}, r = IntKind.wrap .i64 ((i : Int) + 1)->r = ((i + 1 : Nat) : Int) := fun hr => by rw [hr, wrap_in (by omega) (by omega)]; rfl
  refine ⟨b8, o8, ha, by omega, hlt, _, _, _, _, _, _, _, ⟨hc8 0 _ rfl, hc8 1 _ rfl, hc8 2 _ rfl, hc8 3 _ rfl, hc8 4 _ rfl, trivial⟩, fun b10 => ⟨x.kind = 13/\ x.agent < 0, ⟨fun h => ⟨rfl, subH, ⟨fun hh => hh.2, fun hh => ⟨h, hh⟩⟩⟩, fun h => ⟨rfl, subH, fun hh => h hh.1⟩⟩, fun hφ => fun r hr => ⟨rfl, N - (i + 1), by omega, d, i + 1, y, q, by rw [nxt hr], rfl, by omega, hwy, hRy, hyh, eH⟩, fun hφ => ?_⟩⟩
  have hDo := cDo (c := cx) (hL0.ext eH) hwy hpx
  rw [doE _ hRy] at hDo
  cases hh : wHap y x with
  | error e =>
   rw [hh] at hDo
   exact hDo.wldE fun p1 H1 e1 hN1 hw1 => fun b13 => ⟨fun _ => fun r hr => ⟨rfl, N - (i + 1), by omega, d, i + 1, y, q, by rw [nxt hr], rfl, by omega, hwy.ext e1, hRy, hyh, Ext.trans eH e1⟩, fun h => absurd (wHap_err hh) h⟩
  | ok z =>
   have hDo' : Spec Tryz.prog 27 [wldArg y q, hapArg x ax lx cx] H' fun v H'' => ∃ p', v = .tuple #[wldArg z p', i64 0]/\ WldAt H'' z p' := by rw [hh] at hDo; exact hDo
   obtain ⟨hs1, hs2⟩ := silent (by rw [hyh]; exact hu0) hφ hh
   refine hDo'.wldE fun p1 H1 e1 hN1 hw1 => fun b13 => ⟨fun h => absurd rfl h, fun _ => ⟨False, ⟨fun h => ?_, fun _ => (cDiskSame hw1.dsk (hw.dsk.ext (Ext.trans eH e1))).bool1 fun H2 e2 hN2 => ⟨fun h => ?_, fun _ => (cLdrSame (hw1.ldr.ext e2) ((hw.ldr.ext (Ext.trans eH e1)).ext e2)).bool1 fun H3 e3 hN3 => ⟨rfl, Ext.trans e2 e3, ⟨fun h => h.elim, fun h => ?_⟩⟩⟩⟩, fun h => h.elim, fun _ => ?_⟩⟩
   ·rw [hs1, hyh, hu0] at h; cases h
   ·rw [decide_eq_true (show z.h.d = w.h.d from by rw [hs1, hyh])] at h; cases h
   ·rw [decide_eq_true (show z.h.l = w.h.l from by rw [hs1, hyh])] at h; cases h
   ·refine ⟨False, ⟨fun hm => ?_, fun hm => ⟨rfl, subH, fun h => h⟩⟩, fun h => h.elim, fun _ => fun r hr => ⟨rfl, N - (i + 1), by omega, d, i + 1, z, p1, by rw [nxt hr], rfl, by omega, hw1, (hRy.hap hh).ok, hs1.trans hyh, Ext.trans eH e1⟩⟩
    obtain ⟨b9, o9, r9, mm, ha9, hm9, ⟨ga, gl, gc, rfl, hg9⟩, hc9⟩ := hw1.mail.get (k := (q.ml : Int)) (by omega) hm
    have hyl := hwy.mail.len
    refine ⟨b9, o9, ha9, by omega, hm, _, hc9 2 _ rfl, rfl, subH, ⟨fun h => h.elim, fun h => ?_⟩⟩
    have := hs2 mm (by rw [hyl]; exact hm9)
    rw [h] at this; cases this
end Go.Vg
