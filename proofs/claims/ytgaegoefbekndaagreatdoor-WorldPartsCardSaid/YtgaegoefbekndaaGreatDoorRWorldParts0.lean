/- What is proved here: a part of the proof of the law WorldParts: what a contract is, how it comes of a condition, contracts of the functions that are reached, the plain laws. -/
import Derived.Test.YtgaegoefbekndaaGreatDoorR12
set_option linter.unusedSimpArgs false
set_option linter.unusedVariables false
set_option maxRecDepth 100000
namespace Go.Vg
open Go Go.Proofs
open Go.Value renaming int → I, slice → S, bool → B, agg → A, tuple → T, pointer → P, string → Str
open Go.IntKind renaming i64 → Z, wrap → W
open Go.Addr renaming mk → D
open Go.Vg.Bx renaming mk → J
open Go.Vg renaming Next → X, Spec → Y, SpecO → YO
open Go.Vg.Heap renaming cell → C
open Int renaming toNat → N
theorem vk7 (id bud : Int) (fa ra wa : O) (fl fc rl rc wl wc : Nat) (now goal nx : Int) (back : Bool) (la ka : O) (ll lc kl kc : Nat) (sa ta : O) (sl sc tl tc : Nat) (up : Bool) (na ma : O) (nl nc ml mc : Nat) (ha : O) (hl hc : Nat) (k : Int) (base : Nat) (H : Heap) (K : KT) :
 (fV TryzMutsK Tryz.f7 base H [.v (A #[I Z id, S fa fl fc, S ra rl rc, S wa wl wc, I Z bud, S la ll lc, I Z now, I Z goal, B back, S ka kl kc, I Z nx, S sa sl sc, S ta tl tc, B up, S na nl nc, S ma ml mc]), .v (S ha hl hc), .v (I Z k)] [] K) = (
 ∀ a:Nat,Y Tryz.prog 39 [A #[I Z id,S fa fl fc,S ra rl rc,S wa wl wc,I Z bud,S la ll lc,I Z now,I Z goal,B back,S ka kl kc,I Z nx,S sa sl sc,S ta tl tc,B up,S na nl nc,S ma ml mc],S ha hl hc] H fun b c =>∃ d e g h i j l m n o p q r s t u v w x y z a1 b1 c1 d1 e1 f1 g1 h1 i1 j1 k1 l1 m1 n1 o1 p1 q1,b = T #[A #[I Z d,S e g h,S i j l,S m n o,I Z p,S q r s,I Z t,I Z u,B v,S w x y,I Z z,S a1 b1 c1,S d1 e1 f1,B g1,S h1 i1 j1,S k1 l1 m1],S n1 o1 p1,I Z q1]/\ (X base H c->∀ r1:Nat,(fun w12:LB=>∃ s1:Prop,(Y Tryz.prog 30 [] c fun t1 u1 =>∃ v1,t1 = B v1/\ (X base c u1->(v1 = false->w12 = w12/\ SubH c u1/\ s1)/\ (¬v1 = false->w12 = w12/\ SubH c u1/\ (s1↔¬q1 = 0))))/\ (s1->Y Tryz.prog 30 [] c fun t1 u1 =>∃ v1,t1 = B v1/\ (X base c u1->K (B v1) [] u1))/\ (¬s1->∀ t1:Int,t1 = W Z ((hl:Int) + 1)->Y Tryz.prog 35 [I Z k,I Z t1] c fun u1 v1 =>∃ w1,(fun w11:LV=>u1 = I Z w1/\ (X base c v1->0 <= w1/\ w1 <= (hc:Int)/\ (Y Tryz.prog 39 w11 v1 fun x1 y1 =>∃ z1 a2 b2 c2 d2 e2 f2 g2 h2 i2 j2 k2 l2 m2 n2 o2 p2 q2 r2 s2 t2 u2 v2 w2 x2 y2 z2 a3 b3 c3 d3 e3 f3 g3 h3 i3 j3 k3,x1 = T #[A #[I Z z1,S a2 b2 c2,S d2 e2 f2,S g2 h2 i2,I Z j2,S k2 l2 m2,I Z n2,I Z o2,B p2,S q2 r2 s2,I Z t2,S u2 v2 w2,S x2 y2 z2,B a3,S b3 c3 d3,S e3 f3 g3],S h3 i3 j3,I Z k3]/\ (X base v1 y1->∀ l3:Nat,0 <= w1/\ w1 <= (hl:Int)/\ hl <= hc/\ ∀ m3:O,(fun w7:LV=>(w1 < (hc:Int)->m3 = Option.map (fun n3 =>Addr.add n3 (N w1 * 5)) ha)->(Y Tryz.prog 39 w7 y1 fun n3 o3 =>∃ p3 q3 r3 s3 t3 u3 v3 w3 x3 y3 z3 a4 b4 c4 d4 e4 f4 g4 h4 i4 j4 k4 l4 m4 n4 o4 p4 q4 r4 s4 t4 u4 v4 w4 x4 y4 z4 a5,n3 = T #[A #[I Z p3,S q3 r3 s3,S t3 u3 v3,S w3 x3 y3,I Z z3,S a4 b4 c4,I Z d4,I Z e4,B f4,S g4 h4 i4,I Z j4,S k4 l4 m4,S n4 o4 p4,B q4,S r4 s4 t4,S u4 v4 w4],S x4 y4 z4,I Z a5]/\ (X base y1 o3->∀ b5:Nat,(fun w5:LB=>∃ c5:Prop,((k3 = 0->(a5 = 0->Y Tryz.prog 32 [A #[I Z d,S e g h,S i j l,S m n o,I Z p,S q r s,I Z t,I Z u,B v,S w x y,I Z z,S a1 b1 c1,S d1 e1 f1,B g1,S h1 i1 j1,S k1 l1 m1],A #[I Z p3,S q3 r3 s3,S t3 u3 v3,S w3 x3 y3,I Z z3,S a4 b4 c4,I Z d4,I Z e4,B f4,S g4 h4 i4,I Z j4,S k4 l4 m4,S n4 o4 p4,B q4,S r4 s4
 t4,S u4 v4 w4]] o3 fun d5 e5 =>∃ f5,d5 = B f5/\ (X base o3 e5->(f5 = true->∀ (g5:Nat) (h5:Heap),X base e5 h5->e5 g5 = none->h5 g5 = some (boxKB 76 [S h3 i3 j3,S x4 y4 z4])->Y Tryz.prog 41 [S (some (D g5 0 none)) 2 2] h5 fun i5 j5 =>∃ k5 l5 m5,i5 = S k5 l5 m5/\ (X base h5 j5->Y Tryz.prog 40 [S n1 o1 p1,S k5 l5 m5] j5 fun n5 o5 =>∃ p5,n5 = B p5/\ (X base j5 o5->w5 = w5/\ SubH o3 o5/\ (c5↔p5 = true))))/\ (f5 = false->w5 = w5/\ SubH o3 e5/\ ¬c5)))/\ (¬a5 = 0->w5 = w5/\ SubH o3 o3/\ ¬c5))/\ (¬k3 = 0->w5 = w5/\ SubH o3 o3/\ ¬c5))/\ K (B (@decide c5 (Classical.propDecidable c5))) [] o3) [J a false 41 [I Z id,S fa fl fc,S ra rl rc,S wa wl wc,I Z bud,S la ll lc,I Z now,I Z goal,B back,S ka kl kc,I Z nx,S sa sl sc,S ta tl tc,B up,S na nl nc,S ma ml mc],J r1 false 41 [I Z d,S e g h,S i j l,S m n o,I Z p,S q r s,I Z t,I Z u,B v,S w x y,I Z z,S a1 b1 c1,S d1 e1 f1,B g1,S h1 i1 j1,S k1 l1 m1],J l3 false 41 [I Z z1,S a2 b2 c2,S d2 e2 f2,S g2 h2 i2,I Z j2,S k2 l2 m2,I Z n2,I Z o2,B p2,S q2 r2 s2,I Z t2,S u2 v2 w2,S x2 y2 z2,B a3,S b3 c3 d3,S e3 f3 g3],J b5 false 41 [I Z p3,S q3 r3 s3,S t3 u3 v3,S w3 x3 y3,I Z z3,S a4 b4 c4,I Z d4,I Z e4,B f4,S g4 h4 i4,I Z j4,S k4 l4 m4,S n4 o4 p4,B q4,S r4 s4 t4,S u4 v4 w4]]))/\ ∀ n3:Nat,Y Tryz.prog 39 w7 y1 fun o3 p3 =>∃ q3 r3 s3 t3 u3 v3 w3 x3 y3 z3 a4 b4 c4 d4 e4 f4 g4 h4 i4 j4 k4 l4 m4 n4 o4 p4 q4 r4 s4 t4 u4 v4 w4 x4,(fun w6:LB=>∃ y4 z4 a5 b5,o3 = T #[A #[I Z q3,S r3 s3 t3,S u3 v3 w3,S x3 y3 z3,I Z a4,S b4 c4 d4,I Z e4,I Z f4,B g4,S h4 i4 j4,I Z k4,S l4 m4 n4,S o4 p4 q4,B r4,S s4 t4 u4,S v4 w4 x4],S y4 z4 a5,I Z b5]/\ (X base y1 p3->∃ c5:Prop,((k3 = 0->(b5 = 0->Y Tryz.prog 32 [A #[I Z d,S e g h,S i j l,S m n o,I Z p,S q r s,I Z t,I Z u,B v,S w x y,I Z z,S a1 b1 c1,S d1 e1 f1,B g1,S h1 i1 j1,S k1 l1 m1],A #[I Z q3,S r3 s3 t3,S u3 v3 w3,S x3 y3 z3,I Z a4,S b4 c4 d4,I Z e4,I Z f4,B g4,S h4 i4 j4,I Z k4,S l4 m4 n4,S o4 p4 q4,B r4,S s4 t4 u4,S v4 w4 x4]] p3 fun d5 e5 =>∃ f5,d5 = B f5/\ (X base p3 e5->(f5 = true->∀ (g5:Nat) (h5:Heap),X base e5 h5->e5 g5 = none->h5 g5 = some (boxKB 76 [S h3 i3 j3,S y4 z4
 a5])->Y Tryz.prog 41 [S (some (D g5 0 none)) 2 2] h5 fun i5 j5 =>∃ k5 l5 m5,i5 = S k5 l5 m5/\ (X base h5 j5->Y Tryz.prog 40 [S n1 o1 p1,S k5 l5 m5] j5 fun n5 o5 =>∃ p5,n5 = B p5/\ (X base j5 o5->w6 = w6/\ SubH p3 o5/\ (c5↔p5 = true))))/\ (f5 = false->w6 = w6/\ SubH p3 e5/\ ¬c5)))/\ (¬b5 = 0->w6 = w6/\ SubH p3 p3/\ ¬c5))/\ (¬k3 = 0->w6 = w6/\ SubH p3 p3/\ ¬c5))/\ K (B (@decide c5 (Classical.propDecidable c5))) [] p3)) [J a false 41 [I Z id,S fa fl fc,S ra rl rc,S wa wl wc,I Z bud,S la ll lc,I Z now,I Z goal,B back,S ka kl kc,I Z nx,S sa sl sc,S ta tl tc,B up,S na nl nc,S ma ml mc],J r1 false 41 [I Z d,S e g h,S i j l,S m n o,I Z p,S q r s,I Z t,I Z u,B v,S w x y,I Z z,S a1 b1 c1,S d1 e1 f1,B g1,S h1 i1 j1,S k1 l1 m1],J l3 false 41 [I Z z1,S a2 b2 c2,S d2 e2 f2,S g2 h2 i2,I Z j2,S k2 l2 m2,I Z n2,I Z o2,B p2,S q2 r2 s2,I Z t2,S u2 v2 w2,S x2 y2 z2,B a3,S b3 c3 d3,S e3 f3 g3],J n3 false 41 [I Z q3,S r3 s3 t3,S u3 v3 w3,S x3 y3 z3,I Z a4,S b4 c4 d4,I Z e4,I Z f4,B g4,S h4 i4 j4,I Z k4,S l4 m4 n4,S o4 p4 q4,B r4,S s4 t4 u4,S v4 w4 x4]]) [A #[I Z z1,S a2 b2 c2,S d2 e2 f2,S g2 h2 i2,I Z j2,S k2 l2 m2,I Z n2,I Z o2,B p2,S q2 r2 s2,I Z t2,S u2 v2 w2,S x2 y2 z2,B a3,S b3 c3 d3,S e3 f3 g3],S m3 (hl - N w1) (hc - N w1)]))/\ ∀ x1:Nat,Y Tryz.prog 39 w11 v1 fun y1 z1 =>∃ a2 b2 c2 d2 e2 f2 g2 h2 i2 j2 k2 l2 m2 n2 o2 p2 q2 r2 s2 t2 u2 v2 w2 x2 y2 z2 a3 b3 c3 d3 e3 f3 g3 h3 i3 j3 k3 l3,y1 = T #[A #[I Z a2,S b2 c2 d2,S e2 f2 g2,S h2 i2 j2,I Z k2,S l2 m2 n2,I Z o2,I Z p2,B q2,S r2 s2 t2,I Z u2,S v2 w2 x2,S y2 z2 a3,B b3,S c3 d3 e3,S f3 g3 h3],S i3 j3 k3,I Z l3]/\ (X base v1 z1->0 <= w1/\ w1 <= (hl:Int)/\ hl <= hc/\ ∀ m3:O,(fun w10:LV=>(w1 < (hc:Int)->m3 = Option.map (fun n3 =>Addr.add n3 (N w1 * 5)) ha)->(Y Tryz.prog 39 w10 z1 fun n3 o3 =>∃ p3 q3 r3 s3 t3 u3 v3 w3 x3 y3 z3 a4 b4 c4 d4 e4 f4 g4 h4 i4 j4 k4 l4 m4 n4 o4 p4 q4 r4 s4 t4 u4 v4 w4 x4 y4 z4 a5,n3 = T #[A #[I Z p3,S q3 r3 s3,S t3 u3 v3,S w3 x3 y3,I Z z3,S a4 b4 c4,I Z d4,I Z e4,B f4,S g4 h4 i4,I Z j4,S k4 l4 m4,S n4 o4 p4,B q4,S r4 s4 t4,S u4 v4 w4],S x4 y4 z4,I Z a5]/\ (X base z1
 o3->∀ b5:Nat,(fun w8:LB=>∃ c5:Prop,((l3 = 0->(a5 = 0->Y Tryz.prog 32 [A #[I Z d,S e g h,S i j l,S m n o,I Z p,S q r s,I Z t,I Z u,B v,S w x y,I Z z,S a1 b1 c1,S d1 e1 f1,B g1,S h1 i1 j1,S k1 l1 m1],A #[I Z p3,S q3 r3 s3,S t3 u3 v3,S w3 x3 y3,I Z z3,S a4 b4 c4,I Z d4,I Z e4,B f4,S g4 h4 i4,I Z j4,S k4 l4 m4,S n4 o4 p4,B q4,S r4 s4 t4,S u4 v4 w4]] o3 fun d5 e5 =>∃ f5,d5 = B f5/\ (X base o3 e5->(f5 = true->∀ (g5:Nat) (h5:Heap),X base e5 h5->e5 g5 = none->h5 g5 = some (boxKB 76 [S i3 j3 k3,S x4 y4 z4])->Y Tryz.prog 41 [S (some (D g5 0 none)) 2 2] h5 fun i5 j5 =>∃ k5 l5 m5,i5 = S k5 l5 m5/\ (X base h5 j5->Y Tryz.prog 40 [S n1 o1 p1,S k5 l5 m5] j5 fun n5 o5 =>∃ p5,n5 = B p5/\ (X base j5 o5->w8 = w8/\ SubH o3 o5/\ (c5↔p5 = true))))/\ (f5 = false->w8 = w8/\ SubH o3 e5/\ ¬c5)))/\ (¬a5 = 0->w8 = w8/\ SubH o3 o3/\ ¬c5))/\ (¬l3 = 0->w8 = w8/\ SubH o3 o3/\ ¬c5))/\ K (B (@decide c5 (Classical.propDecidable c5))) [] o3) [J a false 41 [I Z id,S fa fl fc,S ra rl rc,S wa wl wc,I Z bud,S la ll lc,I Z now,I Z goal,B back,S ka kl kc,I Z nx,S sa sl sc,S ta tl tc,B up,S na nl nc,S ma ml mc],J r1 false 41 [I Z d,S e g h,S i j l,S m n o,I Z p,S q r s,I Z t,I Z u,B v,S w x y,I Z z,S a1 b1 c1,S d1 e1 f1,B g1,S h1 i1 j1,S k1 l1 m1],J x1 false 41 [I Z a2,S b2 c2 d2,S e2 f2 g2,S h2 i2 j2,I Z k2,S l2 m2 n2,I Z o2,I Z p2,B q2,S r2 s2 t2,I Z u2,S v2 w2 x2,S y2 z2 a3,B b3,S c3 d3 e3,S f3 g3 h3],J b5 false 41 [I Z p3,S q3 r3 s3,S t3 u3 v3,S w3 x3 y3,I Z z3,S a4 b4 c4,I Z d4,I Z e4,B f4,S g4 h4 i4,I Z j4,S k4 l4 m4,S n4 o4 p4,B q4,S r4 s4 t4,S u4 v4 w4]]))/\ ∀ n3:Nat,Y Tryz.prog 39 w10 z1 fun o3 p3 =>∃ q3 r3 s3 t3 u3 v3 w3 x3 y3 z3 a4 b4 c4 d4 e4 f4 g4 h4 i4 j4 k4 l4 m4 n4 o4 p4 q4 r4 s4 t4 u4 v4 w4 x4,(fun w9:LB=>∃ y4 z4 a5 b5,o3 = T #[A #[I Z q3,S r3 s3 t3,S u3 v3 w3,S x3 y3 z3,I Z a4,S b4 c4 d4,I Z e4,I Z f4,B g4,S h4 i4 j4,I Z k4,S l4 m4 n4,S o4 p4 q4,B r4,S s4 t4 u4,S v4 w4 x4],S y4 z4 a5,I Z b5]/\ (X base z1 p3->∃ c5:Prop,((l3 = 0->(b5 = 0->Y Tryz.prog 32 [A #[I Z d,S e g h,S i j l,S m n o,I Z p,S q r s,I Z t,I Z u,B v,S w x y,I Z z,S a1 b1 c1,S d1
 e1 f1,B g1,S h1 i1 j1,S k1 l1 m1],A #[I Z q3,S r3 s3 t3,S u3 v3 w3,S x3 y3 z3,I Z a4,S b4 c4 d4,I Z e4,I Z f4,B g4,S h4 i4 j4,I Z k4,S l4 m4 n4,S o4 p4 q4,B r4,S s4 t4 u4,S v4 w4 x4]] p3 fun d5 e5 =>∃ f5,d5 = B f5/\ (X base p3 e5->(f5 = true->∀ (g5:Nat) (h5:Heap),X base e5 h5->e5 g5 = none->h5 g5 = some (boxKB 76 [S i3 j3 k3,S y4 z4 a5])->Y Tryz.prog 41 [S (some (D g5 0 none)) 2 2] h5 fun i5 j5 =>∃ k5 l5 m5,i5 = S k5 l5 m5/\ (X base h5 j5->Y Tryz.prog 40 [S n1 o1 p1,S k5 l5 m5] j5 fun n5 o5 =>∃ p5,n5 = B p5/\ (X base j5 o5->w9 = w9/\ SubH p3 o5/\ (c5↔p5 = true))))/\ (f5 = false->w9 = w9/\ SubH p3 e5/\ ¬c5)))/\ (¬b5 = 0->w9 = w9/\ SubH p3 p3/\ ¬c5))/\ (¬l3 = 0->w9 = w9/\ SubH p3 p3/\ ¬c5))/\ K (B (@decide c5 (Classical.propDecidable c5))) [] p3)) [J a false 41 [I Z id,S fa fl fc,S ra rl rc,S wa wl wc,I Z bud,S la ll lc,I Z now,I Z goal,B back,S ka kl kc,I Z nx,S sa sl sc,S ta tl tc,B up,S na nl nc,S ma ml mc],J r1 false 41 [I Z d,S e g h,S i j l,S m n o,I Z p,S q r s,I Z t,I Z u,B v,S w x y,I Z z,S a1 b1 c1,S d1 e1 f1,B g1,S h1 i1 j1,S k1 l1 m1],J x1 false 41 [I Z a2,S b2 c2 d2,S e2 f2 g2,S h2 i2 j2,I Z k2,S l2 m2 n2,I Z o2,I Z p2,B q2,S r2 s2 t2,I Z u2,S v2 w2 x2,S y2 z2 a3,B b3,S c3 d3 e3,S f3 g3 h3],J n3 false 41 [I Z q3,S r3 s3 t3,S u3 v3 w3,S x3 y3 z3,I Z a4,S b4 c4 d4,I Z e4,I Z f4,B g4,S h4 i4 j4,I Z k4,S l4 m4 n4,S o4 p4 q4,B r4,S s4 t4 u4,S v4 w4 x4]]) [A #[I Z a2,S b2 c2 d2,S e2 f2 g2,S h2 i2 j2,I Z k2,S l2 m2 n2,I Z o2,I Z p2,B q2,S r2 s2 t2,I Z u2,S v2 w2 x2,S y2 z2 a3,B b3,S c3 d3 e3,S f3 g3 h3],S m3 (hl - N w1) (hc - N w1)]))) [A #[I Z id,S fa fl fc,S ra rl rc,S wa wl wc,I Z bud,S la ll lc,I Z now,I Z goal,B back,S ka kl kc,I Z nx,S sa sl sc,S ta tl tc,B up,S na nl nc,S ma ml mc],S ha (N w1) hc])) [J a false 41 [I Z id,S fa fl fc,S ra rl rc,S wa wl wc,I Z bud,S la ll lc,I Z now,I Z goal,B back,S ka kl kc,I Z nx,S sa sl sc,S ta tl tc,B up,S na nl nc,S ma ml mc],J r1 false 41 [I Z d,S e g h,S i j l,S m n o,I Z p,S q r s,I Z t,I Z u,B v,S w x y,I Z z,S a1 b1 c1,S d1 e1 f1,B g1,S h1 i1 j1,S k1 l1
 m1]])) := by kernel_rfl
open Go Go.Proofs
theorem vx108 (a a' : O) (l c l' c' : Nat) (base : Nat) (H : Heap) (K : KT) :
 (fV TryzMutsJ Tryz.f108 base H [.v (S a l c), .v (S a' l' c')] [] K) = (
 Y Tryz.prog 109 [S a l c,S a' l' c'] H fun b d =>∃ e,b = B e/\ (X base H d->K (B e) [] d)) := by kernel_rfl
theorem vx107a (a a' : O) (l c l' c' : Nat) (base : Nat) (H : Heap) (K : KT) :
 (fV TryzMutsJ Tryz.f107 base H [.v (S a l c), .v (S a' l' c'), .v (.func (.func 108) #[] #[])] [] K) = (
 (¬(l:Int) = (l':Int)->K (B false) [] H)/\ (¬¬(l:Int) = (l':Int)->∃ (b:LI) (d:LM),b [B false,I Z 0] H/\ ∀ (e:Bool) (g:Int) (h:Heap),X base H h->b [B e,I Z g] h->(g < (l:Int)->∃ i j,a = some (D i j none)/\ 0 <= g/\ g < (l:Int)/\ ∃ k m n,C h i (j + N g * 1) = some (S k m n)/\ ∃ o p,a' = some (D o p none)/\ 0 <= g/\ g < (l':Int)/\ ∃ q r s,C h o (p + N g * 1) = some (S q r s)/\ Y Tryz.prog 108 [S k m n,S q r s] h fun t u =>∃ v,t = B v/\ (X base h u->(v = false->K (B false) [] u)/\ (¬v = false->∀ w:Int,w = W Z (g + 1)->b [B e,I Z w] u/\ d [B e,I Z w] < d [B e,I Z g])))/\ (¬g < (l:Int)->K (B true) [] h))) := by kernel_rfl
theorem vx109 (a a' : O) (l c l' c' : Nat) (base : Nat) (H : Heap) (K : KT) :
 (fV TryzMutsJ Tryz.f109 base H [.v (S a l c), .v (S a' l' c')] [] K) = (
 (¬(l:Int) = (l':Int)->K (B false) [] H)/\ (¬¬(l:Int) = (l':Int)->∃ (b:LI) (d:LM),b [B false,I Z 0] H/\ ∀ (e:Bool) (g:Int) (h:Heap),X base H h->b [B e,I Z g] h->(g < (l:Int)->∃ i j,a = some (D i j none)/\ 0 <= g/\ g < (l:Int)/\ ∃ k,C h i (j + N g * 1) = some (I Z k)/\ ∃ m n,a' = some (D m n none)/\ 0 <= g/\ g < (l':Int)/\ ∃ o,C h m (n + N g * 1) = some (I Z o)/\ (¬k = o->K (B false) [] h)/\ (¬¬k = o->∀ p:Int,p = W Z (g + 1)->b [B e,I Z p] h/\ d [B e,I Z p] < d [B e,I Z g]))/\ (¬g < (l:Int)->K (B true) [] h))) := by kernel_rfl
theorem vx110 (a a' : O) (l c l' c' : Nat) (base : Nat) (H : Heap) (K : KT) :
 (fV TryzMutsJ Tryz.f110 base H [.v (S a l c), .v (S a' l' c')] [] K) = (
 (¬(l:Int) = (l':Int)->K (B false) [] H)/\ (¬¬(l:Int) = (l':Int)->∃ (b:LI) (d:LM),b [B false,I Z 0] H/\ ∀ (e:Bool) (g:Int) (h:Heap),X base H h->b [B e,I Z g] h->(g < (l:Int)->∃ i j,a = some (D i j none)/\ 0 <= g/\ g < (l:Int)/\ ∃ k m n o:Int,(C h i (j + N g * 4) = some (I Z k)/\ C h i (j + N g * 4 + 1) = some (I Z m)/\ C h i (j + N g * 4 + 2) = some (I Z n)/\ C h i (j + N g * 4 + 3) = some (I Z o)/\ True)/\ ∃ p q,a' = some (D p q none)/\ 0 <= g/\ g < (l':Int)/\ ∃ r s t u:Int,(C h p (q + N g * 4) = some (I Z r)/\ C h p (q + N g * 4 + 1) = some (I Z s)/\ C h p (q + N g * 4 + 2) = some (I Z t)/\ C h p (q + N g * 4 + 3) = some (I Z u)/\ True)/\ ∃ v,RunsTo Tryz.prog (binRun BinOp.neq 152 (Operand.tmp 19) (Operand.tmp 23) (A #[I Z k,I Z m,I Z n,I Z o]) (A #[I Z r,I Z s,I Z t,I Z u])) (B v)/\ (v = true->K (B false) [] h)/\ (¬v = true->∀ w:Int,w = W Z (g + 1)->b [B e,I Z w] h/\ d [B e,I Z w] < d [B e,I Z g]))/\ (¬g < (l:Int)->K (B true) [] h))) := by kernel_rfl
theorem vx112 (aat tr gid : Int) (going good : Bool) (xa ga : O) (xl xc gl gc : Nat) (ua va : O) (ul uc vl vc : Nat) (nup : Bool) (aat' tr' gid' : Int) (going' good' : Bool) (xa' ga' : O) (xl' xc' gl' gc' : Nat) (ua' va' : O) (ul' uc' vl' vc' : Nat) (nup' : Bool) (base : Nat) (H : Heap) (K : KT) :
 (fV TryzMutsJ Tryz.f112 base H [.v (A #[S xa xl xc, I Z aat, I Z tr, B going, I Z gid, S ga gl gc, B good, S ua ul uc, S va vl vc, B nup]), .v (A #[S xa' xl' xc', I Z aat', I Z tr', B going', I Z gid', S ga' gl' gc', B good', S ua' ul' uc', S va' vl' vc', B nup'])] [] K) = (
 ∀ a b:Nat,(fun w1:LB=>∃ c:Prop,(∃ d,RunsTo Tryz.prog (binRun BinOp.eql 4 (Operand.tmp 6) (Operand.tmp 8) (B nup) (B nup')) (B d)/\ (d = true->Y Tryz.prog 38 [A #[S xa xl xc,I Z aat,I Z tr,B going,I Z gid,S ga gl gc,B good],A #[S xa' xl' xc',I Z aat',I Z tr',B going',I Z gid',S ga' gl' gc',B good']] H fun e g =>∃ h,e = B h/\ (X base H g->(h = true->Y Tryz.prog 37 [A #[S ua ul uc,S va vl vc],A #[S ua' ul' uc',S va' vl' vc']] g fun i j =>∃ k,i = B k/\ (X base g j->w1 = w1/\ SubH H j/\ (c↔k = true)))/\ (h = false->w1 = w1/\ SubH H g/\ ¬c)))/\ (¬d = true->w1 = w1/\ SubH H H/\ ¬c))/\ K (B (@decide c (Classical.propDecidable c))) [] H) [J a false 58 [S xa xl xc,I Z aat,I Z tr,B going,I Z gid,S ga gl gc,B good,S ua ul uc,S va vl vc,B nup],J b false 58 [S xa' xl' xc',I Z aat',I Z tr',B going',I Z gid',S ga' gl' gc',B good',S ua' ul' uc',S va' vl' vc',B nup']]) := by kernel_rfl
theorem vx111a (a a' : O) (l c l' c' : Nat) (base : Nat) (H : Heap) (K : KT) :
 (fV TryzMutsJ Tryz.f111 base H [.v (S a l c), .v (S a' l' c'), .v (.func (.func 112) #[] #[])] [] K) = (
 (¬(l:Int) = (l':Int)->K (B false) [] H)/\ (¬¬(l:Int) = (l':Int)->∃ (b:LI) (d:LM),b [B false,I Z 0] H/\ ∀ (e:Bool) (g:Int) (h:Heap),X base H h->b [B e,I Z g] h->(g < (l:Int)->∃ i j,a = some (D i j none)/\ 0 <= g/\ g < (l:Int)/\ ∃ (k:O) (m n:Nat) (o p:Int) (q:Bool) (r:Int) (s:O) (t u:Nat) (v:Bool) (w:O) (x y:Nat) (z:O) (a1 b1:Nat) (c1:Bool),(C h i (j + N g * 10) = some (S k m n)/\ C h i (j + N g * 10 + 1) = some (I Z o)/\ C h i (j + N g * 10 + 2) = some (I Z p)/\ C h i (j + N g * 10 + 3) = some (B q)/\ C h i (j + N g * 10 + 4) = some (I Z r)/\ C h i (j + N g * 10 + 5) = some (S s t u)/\ C h i (j + N g * 10 + 6) = some (B v)/\ C h i (j + N g * 10 + 7) = some (S w x y)/\ C h i (j + N g * 10 + 8) = some (S z a1 b1)/\ C h i (j + N g * 10 + 9) = some (B c1)/\ True)/\ ∀ d1:Nat,∃ e1 f1,a' = some (D e1 f1 none)/\ 0 <= g/\ g < (l':Int)/\ ∃ (g1:O) (h1 i1:Nat) (j1 k1:Int) (l1:Bool) (m1:Int) (n1:O) (o1 p1:Nat) (q1:Bool) (r1:O) (s1 t1:Nat) (u1:O) (v1 w1:Nat) (x1:Bool),(C h e1 (f1 + N g * 10) = some (S g1 h1 i1)/\ C h e1 (f1 + N g * 10 + 1) = some (I Z j1)/\ C h e1 (f1 + N g * 10 + 2) = some (I Z k1)/\ C h e1 (f1 + N g * 10 + 3) = some (B l1)/\ C h e1 (f1 + N g * 10 + 4) = some (I Z m1)/\ C h e1 (f1 + N g * 10 + 5) = some (S n1 o1 p1)/\ C h e1 (f1 + N g * 10 + 6) = some (B q1)/\ C h e1 (f1 + N g * 10 + 7) = some (S r1 s1 t1)/\ C h e1 (f1 + N g * 10 + 8) = some (S u1 v1 w1)/\ C h e1 (f1 + N g * 10 + 9) = some (B x1)/\ True)/\ ∀ y1:Nat,Y Tryz.prog 112 [A #[S k m n,I Z o,I Z p,B q,I Z r,S s t u,B v,S w x y,S z a1 b1,B c1],A #[S g1 h1 i1,I Z j1,I Z k1,B l1,I Z m1,S n1 o1 p1,B q1,S r1 s1 t1,S u1 v1 w1,B x1]] h fun z1 a2 =>∃ b2,z1 = B b2/\ (X base h a2->(b2 = false->K (B false) [] a2)/\ (¬b2 = false->∀ c2:Int,c2 = W Z (g + 1)->b [B e,I Z c2] a2/\ d [B e,I Z c2] < d [B e,I Z g])))/\ (¬g < (l:Int)->K (B true) [] h))) := by kernel_rfl
theorem vx32 (id bud : Int) (fa ra wa : O) (fl fc rl rc wl wc : Nat) (now goal nx : Int) (back : Bool) (la ka : O) (ll lc kl kc : Nat) (sa ta : O) (sl sc tl tc : Nat) (up : Bool) (na ma : O) (nl nc ml mc : Nat) (id' bud' : Int) (fa' ra' wa' : O) (fl' fc' rl' rc' wl' wc' : Nat) (now' goal' nx' : Int) (back' : Bool) (la' ka' : O) (ll' lc' kl' kc' : Nat) (sa' ta' : O) (sl' sc' tl' tc' : Nat) (up' : Bool) (na' ma' : O) (nl' nc' ml' mc' : Nat) (base : Nat) (H : Heap) (K : KT) :
 (fV TryzMutsJ Tryz.f32 base H [.v (A #[I Z id, S fa fl fc, S ra rl rc, S wa wl wc, I Z bud, S la ll lc, I Z now, I Z goal, B back, S ka kl kc, I Z nx, S sa sl sc, S ta tl tc, B up, S na nl nc, S ma ml mc]), .v (A #[I Z id', S fa' fl' fc', S ra' rl' rc', S wa' wl' wc', I Z bud', S la' ll' lc', I Z now', I Z goal', B back', S ka' kl' kc', I Z nx', S sa' sl' sc', S ta' tl' tc', B up', S na' nl' nc', S ma' ml' mc'])] [] K) = (
 ∀ a b:Nat,(fun w1:LB=>Y Tryz.prog 107 [S wa wl wc,S wa' wl' wc',Value.func (Fn.func 108) #[] #[]] H fun c d =>∃ e,c = B e/\ (X base H d->∃ g:Prop,((id = id'->Y Tryz.prog 47 [S fa fl fc,S fa' fl' fc'] d fun h i =>∃ j,h = B j/\ (X base d i->w1 = w1/\ SubH d i/\ (g↔j = true)))/\ (¬id = id'->w1 = w1/\ SubH d d/\ ¬g))/\ ∃ h:Prop,((e = true->(g->Y Tryz.prog 110 [S ra rl rc,S ra' rl' rc'] d fun i j =>∃ k,i = B k/\ (X base d j->(k = true->(bud = bud'->∃ l,RunsTo Tryz.prog (binRun BinOp.eql 4 (Operand.tmp 59) (Operand.tmp 62) (B up) (B up')) (B l)/\ (l = true->Y Tryz.prog 36 [A #[S la ll lc,I Z now,I Z goal,B back,S ka kl kc,I Z nx],A #[S la' ll' lc',I Z now',I Z goal',B back',S ka' kl' kc',I Z nx']] j fun m n =>∃ o,m = B o/\ (X base j n->(o = true->Y Tryz.prog 37 [A #[S sa sl sc,S ta tl tc],A #[S sa' sl' sc',S ta' tl' tc']] n fun p q =>∃ r,p = B r/\ (X base n q->(r = true->Y Tryz.prog 44 [S ma ml mc,S ma' ml' mc'] q fun s t =>∃ u,s = B u/\ (X base q t->(u = true->Y Tryz.prog 111 [S na nl nc,S na' nl' nc',Value.func (Fn.func 112) #[] #[]] t fun v w =>∃ x,v = B x/\ (X base t w->w1 = w1/\ SubH d w/\ (h↔x = true)))/\ (u = false->w1 = w1/\ SubH d t/\ ¬h)))/\ (r = false->w1 = w1/\ SubH d q/\ ¬h)))/\ (o = false->w1 = w1/\ SubH d n/\ ¬h)))/\ (¬l = true->w1 = w1/\ SubH d j/\ ¬h))/\ (¬bud = bud'->w1 = w1/\ SubH d j/\ ¬h))/\ (k = false->w1 = w1/\ SubH d j/\ ¬h)))/\ (¬g->w1 = w1/\ SubH d d/\ ¬h))/\ (e = false->w1 = w1/\ SubH d d/\ ¬h))/\ K (B (@decide h (Classical.propDecidable h))) [] d)) [J a false 41 [I Z id,S fa fl fc,S ra rl rc,S wa wl wc,I Z bud,S la ll lc,I Z now,I Z goal,B back,S ka kl kc,I Z nx,S sa sl sc,S ta tl tc,B up,S na nl nc,S ma ml mc],J b false 41 [I Z id',S fa' fl' fc',S ra' rl' rc',S wa' wl' wc',I Z bud',S la' ll' lc',I Z now',I Z goal',B back',S ka' kl' kc',I Z nx',S sa' sl' sc',S ta' tl' tc',B up',S na' nl' nc',S ma' ml' mc']]) := by kernel_rfl
open Go Go.Proofs
theorem neq152 {xo yo : Operand} (p q : Rule) : RunsTo Tryz.prog (binRun .neq 152 xo yo (.agg #[.int .i64 p.name, .int .i64 p.ver, .int .i64 p.wth, .int .i64 p.least]) (.agg #[.int .i64 q.name, .int .i64 q.ver, .int .i64 q.wth, .int .i64 q.least])) (.bool (!(p.name == q.name && p.ver == q.ver && p.wth == q.wth && p.least == q.least))) := by
 intro w
 have u3 := Tryz.underlying3
 have a3 := Tryz.isAgg3
 have z3 := Tryz.sizeOf3
 have hS : Tryz.prog.underlying 152 = some (.struct (Tryz.prog.fieldsOf 152)) := by kernel_rfl
 have hp : Tryz.prog.stoodInHeld 152 = false := by kernel_rfl
 have hm : Tryz.prog.eqGuardType Tryz.prog.depth 152 = false := by kernel_rfl
 have he : (Op.equalIn 10000 152 (.agg #[.int .i64 p.name, .int .i64 p.ver, .int .i64 p.wth, .int .i64 p.least]) (.agg #[.int .i64 q.name, .int .i64 q.ver, .int .i64 q.wth, .int .i64 q.least])).run Tryz.prog w = .ok (p.name == q.name && p.ver == q.ver && p.wth == q.wth && p.least == q.least) w := by
  rw [show (10000 : Nat) = 9999 + 1 from rfl, run_equalIn_agg w 9999 152 _ _ hS hp]
  simp only [Program.fieldsOf, Tryz.underlying152]
  go_simp
  by_cases h1 : p.name = q.name <;> by_cases h2 : p.ver = q.ver <;> by_cases h3 : p.wth = q.wth <;> by_cases h4 : p.least = q.least <;> simp [h1, h2, h3, h4]
 simp only [binRun, Sem.run_bind, run_eqGuard_agg w _ 152 _ _ _ _ hm, Result.andThen_ok, run_neq_struct, he]
theorem cEqRules {H : Heap} {a a' : O} {l c l' c' : Nat} {xs ys : List Rule} (hx : Rules H a l xs) (hy : Rules H a' l' ys) : Spec Tryz.prog 110 [.slice a l c, .slice a' l' c'] H fun v _ => v = .bool (decide (xs = ys)) := by
 refine TryzvcJ Tryz.func110 (by kernel_rfl) (by kernel_rfl) _ rfl (fun base K => vx110 a a' l c l' c' base H K) fun base hb => ?_
 have hxl := hx.len
 have hyl := hy.len
 have hle := hx.le
 refine ⟨fun hne => ?_, fun he => ?_⟩
 ·rw [decide_eq_false]; rintro rfl; omega
 refine ⟨fun vs _ => ∃ (b : Bool) (k : Nat), vs = [.bool b, i64 k]/\ k <= l/\ (xs.drop k = ys.drop k ↔ xs = ys), upTo l 1, ⟨false, 0, rfl, by omega, by simp⟩, fun b n H' hN hI => ?_⟩
 obtain ⟨b', k, hvs, hk, hI⟩ := hI
 obtain ⟨rfl, rfl⟩ : b = b'/\ n = (k : Int) := by simpa using hvs
 refine ⟨fun hlt => hx.rule hN.ext (by omega) hlt fun p hp => hy.rule hN.ext (by omega) (by omega) fun q hq => ⟨_, neq152 p q, fun h => ?_, fun h => ?_⟩, fun hge => ?_⟩
 ·rw [Int.toNat_natCast] at hp hq
  rw [drop_at hp, drop_at hq] at hI
  rw [decide_eq_false]
  intro e
  obtain ⟨rfl, _⟩ := List.cons.inj (hI.2 e)
  simp at h
 ·rw [Int.toNat_natCast] at hp hq
  rw [drop_at hp, drop_at hq] at hI
  have hpq : p = q := by cases p; cases q; simp at h ⊢; exact ⟨h.1.1.1, h.1.1.2, h.1.2, h.2⟩
  rintro r rfl
  rw [wrap_in (by omega) (by omega)]
  exact ⟨⟨b, k + 1, rfl, by omega, by rw [← hI]; simp [hpq]⟩, by simp [upTo]; omega⟩
 ·rw [decide_eq_true]
  exact hI.1 (by rw [drop_all hxl (by omega), drop_all hyl (by omega)])
theorem cEqInts109 {H : Heap} {a a' : O} {l c l' c' : Nat} {xs ys : List Int} (hx : Sl RInt 1 H a l xs) (hy : Sl RInt 1 H a' l' ys) : Spec Tryz.prog 109 [.slice a l c, .slice a' l' c'] H fun v _ => v = .bool (decide (xs = ys)) := by
 refine TryzvcJ Tryz.func109 (by kernel_rfl) (by kernel_rfl) _ rfl (fun base K => vx109 a a' l c l' c' base H K) fun base hb => ?_
 have hxl := hx.len
 have hyl := hy.len
 have hle := hx.le
 refine ⟨fun hne => ?_, fun he => ?_⟩
 ·rw [decide_eq_false]; rintro rfl; omega
 refine ⟨fun vs _ => ∃ (b : Bool) (k : Nat), vs = [.bool b, i64 k]/\ k <= l/\ (xs.drop k = ys.drop k ↔ xs = ys), upTo l 1, ⟨false, 0, rfl, by omega, by simp⟩, fun b n H' hN hI => ?_⟩
 obtain ⟨b', k, hvs, hk, hI⟩ := hI
 obtain ⟨rfl, rfl⟩ : b = b'/\ n = (k : Int) := by simpa using hvs
 refine ⟨fun hlt => ?_, fun hge => ?_⟩
 ·obtain ⟨b1, o1, r1, p, ha, hp, hr, hc⟩ := hx.get (k := (k : Int)) (by omega) hlt
  obtain ⟨b2, o2, r2, q, ha', hq, hr', hc'⟩ := hy.get (k := (k : Int)) (by omega) (by omega)
  cases hr
  cases hr'
  refine ⟨b1, o1, ha, by omega, hlt, p, Heap.cell_next hN.ext (hc 0 _ rfl), b2, o2, ha', by omega, by omega, q, Heap.cell_next hN.ext (hc' 0 _ rfl), fun h => ?_, fun h => ?_⟩
  ·rw [Int.toNat_natCast] at hp hq
   rw [drop_at hp, drop_at hq] at hI
   rw [decide_eq_false]
   intro e
   exact h (List.cons.inj (hI.2 e)).1
  ·rw [Int.toNat_natCast] at hp hq
   rw [drop_at hp, drop_at hq] at hI
   have hpq : p = q := Decidable.not_not.1 h
   rintro r rfl
   rw [wrap_in (by omega) (by omega)]
   exact ⟨⟨b, k + 1, rfl, by omega, by rw [← hI]; simp [hpq]⟩, by simp [upTo]; omega⟩
 ·rw [decide_eq_true]
  exact hI.1 (by rw [drop_all hxl (by omega), drop_all hyl (by omega)])
theorem cEqInts108 {H : Heap} {a a' : O} {l c l' c' : Nat} {xs ys : List Int} (hx : Sl RInt 1 H a l xs) (hy : Sl RInt 1 H a' l' ys) : Spec Tryz.prog 108 [.slice a l c, .slice a' l' c'] H fun v _ => v = .bool (decide (xs = ys)) := by
 refine TryzvcJ Tryz.func108 (by kernel_rfl) (by kernel_rfl) _ rfl (fun base K => vx108 a a' l c l' c' base H K) fun base hb => ?_
 exact (cEqInts109 hx hy).bool1 fun H' _ _ => rfl
theorem cEqWavesA {H : Heap} {a a' : O} {l c l' c' : Nat} {xs ys : List (List Int)} (hx : Waves H a l xs) (hy : Waves H a' l' ys) : Spec Tryz.prog 107 [.slice a l c, .slice a' l' c', .func (.func 108) #[] #[]] H fun v _ => v = .bool (decide (xs = ys)) := by
 refine TryzvcJ Tryz.func107 (by kernel_rfl) (by kernel_rfl) _ rfl (fun base K => vx107a a a' l c l' c' base H K) fun base hb => ?_
 have hxl := hx.len
 have hyl := hy.len
 have hle := hx.le
 refine ⟨fun hne => ?_, fun he => ?_⟩
 ·rw [decide_eq_false]; rintro rfl; omega
 refine ⟨fun vs _ => ∃ (b : Bool) (k : Nat), vs = [.bool b, i64 k]/\ k <= l/\ (xs.drop k = ys.drop k ↔ xs = ys), upTo l 1, ⟨false, 0, rfl, by omega, by simp⟩, fun b n H' hN hI => ?_⟩
 obtain ⟨b', k, hvs, hk, hI⟩ := hI
 obtain ⟨rfl, rfl⟩ : b = b'/\ n = (k : Int) := by simpa using hvs
 refine ⟨fun hlt => hx.slice hN.ext (by omega) hlt fun m a1 n1 c1 hm hp => hy.slice hN.ext (by omega) (by omega) fun m' a2 n2 c2 hm' hq => (cEqInts108 (Sl.ext RInt.mono hp hN.ext) (Sl.ext RInt.mono hq hN.ext)).bool1 fun H2 e2 _ => ⟨fun h => ?_, fun h => ?_⟩, fun hge => ?_⟩
 ·rw [Int.toNat_natCast] at hm hm'
  rw [drop_at hm, drop_at hm'] at hI
  rw [decide_eq_false]
  intro e
  exact absurd (List.cons.inj (hI.2 e)).1 (of_decide_eq_false h)
 ·rw [Int.toNat_natCast] at hm hm'
  rw [drop_at hm, drop_at hm'] at hI
  have hpq : m = m' := by simpa using h
  rintro r rfl
  rw [wrap_in (by omega) (by omega)]
  exact ⟨⟨b, k + 1, rfl, by omega, by rw [← hI]; simp [hpq]⟩, by simp [upTo]; omega⟩
 ·rw [decide_eq_true]
  exact hI.1 (by rw [drop_all hxl (by omega), drop_all hyl (by omega)])
theorem nod_eq {x y : Nod} : x = y ↔ x.up = y.up/\ x.a = y.a/\ x.d = y.d := by cases x; cases y; simp; exact ⟨fun h => ⟨h.2.2, h.1, h.2.1⟩, fun h => ⟨h.2.1, h.2.2, h.1⟩⟩
theorem cNodEqA {H : Heap} {x y : Nod} {q q' : NA} (hx : NodAt H x q) (hy : NodAt H y q') : Spec Tryz.prog 112 [nodArg x q, nodArg y q'] H fun v _ => v = .bool (decide (x = y)) := by
 refine TryzvcJ Tryz.func112 (by kernel_rfl) (by kernel_rfl) _ rfl (fun base K => vx112 x.a.at_ x.a.try_ x.a.goal.id x.a.going x.a.good q.xa q.ga q.xl q.xc q.gl q.gc q.ua q.va q.ul q.uc q.vl q.vc x.up y.a.at_ y.a.try_ y.a.goal.id y.a.going y.a.good q'.xa q'.ga q'.xl q'.xc q'.gl q'.gc q'.ua q'.va q'.ul q'.uc q'.vl q'.vc y.up base H K) fun base hb => fun b b' => ?_
 refine ⟨x = y, ⟨_, eqBool, fun h => (cAgtSame hx.lock hx.goal hy.lock hy.goal).bool1 fun H1 e1 _ => ⟨fun h1 => (cDiskSame (hx.dsk.ext e1) (hy.dsk.ext e1)).bool1 fun H2 e2 _ => ⟨rfl, Ext.trans e1 e2, ?_⟩, fun h1 => ⟨rfl, e1, ?_⟩⟩, fun h => ⟨rfl, subH, ?_⟩⟩, ?_⟩
 ·rw [nod_eq]; simp at h h1 ⊢; simp [h, h1]
 ·rw [nod_eq]; simp at h1; simp [h1]
 ·rw [nod_eq]; simp at h; simp [h]
 ·show Value.bool _ = Value.bool _
  rw [decC]
theorem cEqNodsA {H : Heap} {a a' : O} {l c l' c' : Nat} {xs ys : List Nod} (hx : Nods H a l xs) (hy : Nods H a' l' ys) : Spec Tryz.prog 111 [.slice a l c, .slice a' l' c', .func (.func 112) #[] #[]] H fun v _ => v = .bool (decide (xs = ys)) := by
 refine TryzvcJ Tryz.func111 (by kernel_rfl) (by kernel_rfl) _ rfl (fun base K => vx111a a a' l c l' c' base H K) fun base hb => ?_
 have hxl := hx.len
 have hyl := hy.len
 have hle := hx.le
 refine ⟨fun hne => ?_, fun he => ?_⟩
 ·rw [decide_eq_false]; rintro rfl; omega
 refine ⟨fun vs _ => ∃ (b : Bool) (k : Nat), vs = [.bool b, i64 k]/\ k <= l/\ (xs.drop k = ys.drop k ↔ xs = ys), upTo l 1, ⟨false, 0, rfl, by omega, by simp⟩, fun b n H' hN hI => ?_⟩
 obtain ⟨b', k, hvs, hk, hI⟩ := hI
 obtain ⟨rfl, rfl⟩ : b = b'/\ n = (k : Int) := by simpa using hvs
 refine ⟨fun hlt => hx.node hN.ext (by omega) hlt fun m q1 hm hp => fun b5 => hy.node hN.ext (by omega) (by omega) fun m' q2 hm' hq => fun b10 => (cNodEqA (hp.ext hN.ext) (hq.ext hN.ext)).bool1 fun H2 e2 _ => ⟨fun h => ?_, fun h => ?_⟩, fun hge => ?_⟩
 ·rw [Int.toNat_natCast] at hm hm'
  rw [drop_at hm, drop_at hm'] at hI
  rw [decide_eq_false]
  intro e
  exact absurd (List.cons.inj (hI.2 e)).1 (of_decide_eq_false h)
 ·rw [Int.toNat_natCast] at hm hm'
  rw [drop_at hm, drop_at hm'] at hI
  have hpq : m = m' := by simpa using h
  rintro r rfl
  rw [wrap_in (by omega) (by omega)]
  exact ⟨⟨b, k + 1, rfl, by omega, by rw [← hI]; simp [hpq]⟩, by simp [upTo]; omega⟩
 ·rw [decide_eq_true]
  exact hI.1 (by rw [drop_all hxl (by omega), drop_all hyl (by omega)])
open Go Go.Proofs
theorem conf_eq {c c' : Conf} : c = c' ↔ (c.first.id = c'.first.id/\ c.first.lock = c'.first.lock)/\ c.rules = c'.rules/\ c.bud = c'.bud/\ c.waves = c'.waves := by
 obtain ⟨⟨a, b⟩, d, e, f⟩ := c
 obtain ⟨⟨a', b'⟩, d', e', f'⟩ := c'
 simp only [Conf.mk.injEq, Rls.mk.injEq]
 constructor <;> (intro h; simp [h])
theorem wld_eq {w w' : Wld} : w = w' ↔ w.c = w'.c/\ w.h.up = w'.h.up/\ w.h.l = w'.h.l/\ w.h.d = w'.h.d/\ w.m = w'.m/\ w.n = w'.n := by
 obtain ⟨c, ⟨a, b, d⟩, n, m⟩ := w
 obtain ⟨c', ⟨a', b', d'⟩, n', m'⟩ := w'
 simp only [Wld.mk.injEq, Hed.mk.injEq]
 constructor <;> (intro h; simp [h])
section
variable {H : Heap} {w w' : Wld} {p p' : WA}
theorem cWldSame (hw : WldAt H w p) (hw' : WldAt H w' p') : Spec Tryz.prog 32 [wldArg w p, wldArg w' p'] H fun v _ => v = .bool (@decide (w = w') (Classical.propDecidable _)) := by
 refine TryzvcJ Tryz.func32 (by kernel_rfl) (by kernel_rfl) _ rfl (fun base K => vx32 w.c.first.id w.c.bud p.fa p.ra p.wa p.fl p.fc p.rl p.rc p.wl p.wc w.h.l.now w.h.l.goal w.h.l.nx w.h.l.back p.la p.ka p.ll p.lc p.kl p.kc p.sa p.ta p.sl p.sc p.tl p.tc w.h.up p.na p.ma p.nl p.nc p.ml p.mc w'.c.first.id w'.c.bud p'.fa p'.ra p'.wa p'.fl p'.fc p'.rl p'.rc p'.wl p'.wc w'.h.l.now w'.h.l.goal w'.h.l.nx w'.h.l.back p'.la p'.ka p'.ll p'.lc p'.kl p'.kc p'.sa p'.ta p'.sl p'.sc p'.tl p'.tc w'.h.up p'.na p'.ma p'.nl p'.nc p'.ml p'.mc base H K) fun base hb => fun b b' => ?_
 refine (cEqWavesA hw.cfg.waves hw'.cfg.waves).bool1 fun H0 e0 _ => ?_
 have hw := hw.ext e0
 have hw' := hw'.ext e0
 refine ⟨w.c.first.id = w'.c.first.id/\ w.c.first.lock = w'.c.first.lock, ⟨fun h0 => (cEqPins hw.cfg.pins hw'.cfg.pins).bool1 fun H1 e1 _ => ⟨rfl, e1, by simp [h0]⟩, fun h0 => ⟨rfl, subH, by simp [h0]⟩⟩, w = w', ⟨fun hA => ⟨fun hB => (cEqRules hw.cfg.rules hw'.cfg.rules).bool1 fun H1 e1 _ => ⟨fun h1 => ⟨fun hbud => ⟨_, eqBool, fun h2 => (cLdrSame (hw.ext e1).ldr (hw'.ext e1).ldr).bool1 fun H2 e2 _ => ?_, fun h2 => ⟨rfl, e1, ?_⟩⟩, fun hbud => ⟨rfl, e1, ?_⟩⟩, fun h1 => ⟨rfl, e1, ?_⟩⟩, fun hB => ⟨rfl, subH, ?_⟩⟩, fun hA => ⟨rfl, subH, ?_⟩⟩, rfl⟩
 ·have E2 := Ext.trans e1 e2
  have hc : w.c = w'.c := by rw [conf_eq]; simp at hA h1; exact ⟨hB, h1, hbud, hA⟩
  refine ⟨fun h3 => (cDiskSame (hw.ext E2).dsk (hw'.ext E2).dsk).bool1 fun H3 e3 _ => ?_, fun h3 => ⟨rfl, E2, ?_⟩⟩
  ·have E3 := Ext.trans E2 e3
   refine ⟨fun h4 => (cSame (hw.ext E3).mail (hw'.ext E3).mail).bool1 fun H4 e4 _ => ?_, fun h4 => ⟨rfl, E3, ?_⟩⟩
   ·have E4 := Ext.trans E3 e4
    refine ⟨fun h5 => (cEqNodsA (hw.ext E4).nod (hw'.ext E4).nod).bool1 fun H5 e5 _ => ⟨rfl, Ext.trans E4 e5, ?_⟩, fun h5 => ⟨rfl, E4, ?_⟩⟩
    ·rw [wld_eq]; simp at h2 h3 h4 h5; simp [hc, h2, h3, h4, h5]
    ·rw [wld_eq]; simp at h5; simp [h5]
   ·rw [wld_eq]; simp at h4; simp [h4]
  ·rw [wld_eq]; simp at h3; simp [h3]
 ·rw [wld_eq]; simp at h2; simp [h2]
 ·rw [wld_eq, conf_eq]; simp [hbud]
 ·rw [wld_eq, conf_eq]; simp at h1; simp [h1]
 ·rw [wld_eq, conf_eq]; exact fun h => hB h.1.1
 ·rw [wld_eq, conf_eq]; simp at hA; exact fun h => hA h.1.2.2.2
end
open Go Go.Proofs
theorem cEqErr {H : Heap} {a a' : O} {l c l' c' : Nat} {xs ys : List Int} (hx : Sl RInt 1 H a l xs) (hy : Sl RInt 1 H a' l' ys) : Spec Tryz.prog 40 [.slice a l c, .slice a' l' c'] H fun v _ => v = .bool (decide (xs = ys)) := by
 refine TryzvcJ Tryz.func40 (by kernel_rfl) (by kernel_rfl) _ rfl (fun base K => vk40 a a' l c l' c' base H K) fun base hb => ?_
 have hxl := hx.len
 have hyl := hy.len
 have hle := hx.le
 refine ⟨fun hne => ?_, fun he => ?_⟩
 ·rw [decide_eq_false]; rintro rfl; omega
 refine ⟨fun vs _ => ∃ (b : Bool) (k : Nat), vs = [.bool b, i64 k]/\ k <= l/\ (xs.drop k = ys.drop k ↔ xs = ys), upTo l 1, ⟨false, 0, rfl, by omega, by simp⟩, fun b n H' hN hI => ?_⟩
 obtain ⟨b', k, hvs, hk, hI⟩ := hI
 obtain ⟨rfl, rfl⟩ : b = b'/\ n = (k : Int) := by simpa using hvs
 refine ⟨fun hlt => ?_, fun hge => ?_⟩
 ·obtain ⟨b1, o1, r1, p, ha, hp, hr, hc⟩ := hx.get (k := (k : Int)) (by omega) hlt
  obtain ⟨b2, o2, r2, q, ha', hq, hr', hc'⟩ := hy.get (k := (k : Int)) (by omega) (by omega)
  cases hr
  cases hr'
  refine ⟨b1, o1, ha, by omega, hlt, p, Heap.cell_next hN.ext (hc 0 _ rfl), b2, o2, ha', by omega, by omega, q, Heap.cell_next hN.ext (hc' 0 _ rfl), fun h => ?_, fun h => ?_⟩
  ·rw [Int.toNat_natCast] at hp hq
   rw [drop_at hp, drop_at hq] at hI
   rw [decide_eq_false]
   intro e
   exact h (List.cons.inj (hI.2 e)).1
  ·rw [Int.toNat_natCast] at hp hq
   rw [drop_at hp, drop_at hq] at hI
   have hpq : p = q := Decidable.not_not.1 h
   rintro r rfl
   rw [wrap_in (by omega) (by omega)]
   exact ⟨⟨b, k + 1, rfl, by omega, by rw [← hI]; simp [hpq]⟩, by simp [upTo]; omega⟩
 ·rw [decide_eq_true]
  exact hI.1 (by rw [drop_all hxl (by omega), drop_all hyl (by omega)])
theorem runErr_zero {w : Wld} {l : List Hap} : runErr w l = 0 ↔ wldErr w = 0/\ l.length <= 150 := by
 unfold runErr
 constructor
 ·intro h
  split at h
  ·omega
  ·split at h
   ·omega
   ·omega
 ·rintro ⟨h1, h2⟩
  rw [if_neg (by omega), if_neg (by omega)]
theorem cRun0 {H : Heap} (hL : Lb H) {w : Wld} {p : WA} (hw : WldAt H w p) {l : List Hap} {a : O} {n c : Nat} (hx : Haps H a n l) (h0 : runErr w l = 0) :
  Spec Tryz.prog 39 [wldArg w p, .slice a n c] H fun v H' => ∃ p' s sn sc, v = .tuple #[wldArg (wRunFrom w l).1 p', .slice s sn sc, i64 0]/\ WldAt H' (wRunFrom w l).1 p'/\ Sl RInt 1 H' s sn (wRunFrom w l).2/\ sn <= sc := by
 have h := cRun (c := c) hL hw hx
 rw [h0, show ranW w l = (wRunFrom w l).1 from by unfold ranW; rw [if_pos h0], show ranS w l = (wRunFrom w l).2 from by unfold ranS; rw [if_pos h0]] at h
 exact h
theorem cWorldParts {H : Heap} (hL : Lb H) {w : Wld} {p : WA} (hw : WldAt H w p) {l : List Hap} {a : O} {n c : Nat} (hx : Haps H a n l) (hc : n <= c) (k : Int) :
  Spec Tryz.prog 7 [wldArg w p, .slice a n c, .int .i64 k] H fun v _ => v = .bool true := by
 refine TryzvcK Tryz.func7 (by kernel_rfl) (by kernel_rfl) _ rfl (fun base K => vk7 w.c.first.id w.c.bud p.fa p.ra p.wa p.fl p.fc p.rl p.rc p.wl p.wc w.h.l.now w.h.l.goal w.h.l.nx w.h.l.back p.la p.ka p.ll p.lc p.kl p.kc p.sa p.ta p.sl p.sc p.tl p.tc w.h.up p.na p.ma p.nl p.nc p.ml p.mc a n c k base H K) fun base hb => fun b => ?_
 by_cases h0 : runErr w l = 0
 case neg =>
  exact (cRun (c := c) hL hw hx).wldR fun p1 s1 sn1 sc1 H1 e1 hN1 hw1 hs1 hc1 => fun b3 => ⟨True, (cRolled (hL.ext e1)).bool1 fun H2 e2 hN2 => ⟨fun h => (by cases h), fun _ => ⟨rfl, e2, ⟨fun _ => h0, fun _ => trivial⟩⟩⟩, fun _ => (cRolled (hL.ext e1)).bool1 fun H2 e2 hN2 => rfl, fun h => absurd trivial h⟩
 obtain ⟨hz, hlen⟩ := runErr_zero.1 h0
 have hR := wldErr_zero.1 hz
 have hln := hx.len
 have hrange := atP_range (n := (n : Int) + 1) k (by omega)
 obtain ⟨m, hm⟩ : ∃ m : Nat, atP k ((n : Int) + 1) = m := ⟨(atP k ((n : Int) + 1)).toNat, by omega⟩
 rw [hm] at hrange
 have r1 : runErr w (l.take m) = 0 := runErr_zero.2 ⟨hz, by rw [List.length_take]; omega⟩
 have r2 : runErr (wRunFrom w (l.take m)).1 (l.drop m) = 0 := runErr_zero.2 ⟨wldErr_zero.2 hR.run, by rw [List.length_drop]; omega⟩
 have hrun : wRunFrom w l = ((wRunFrom (wRunFrom w (l.take m)).1 (l.drop m)).1, (wRunFrom w (l.take m)).2 ++ (wRunFrom (wRunFrom w (l.take m)).1 (l.drop m)).2) := by
  have := wRun_app (l := l.take m) (m := l.drop m) (w := w)
  rw [List.take_append_drop] at this
  exact this
 have hl1 : (wRunFrom w (l.take m)).2.length <= 200 := by rw [wRun_len, List.length_take]; omega
 have hl2 : (wRunFrom (wRunFrom w (l.take m)).1 (l.drop m)).2.length <= 200 := by rw [wRun_len, List.length_drop]; omega
 obtain ⟨y, z, S, T, hA, hB, hC, hl1, hl2⟩ : ∃ (y z : Wld) (S T : List Int),
   (∀ {H : Heap} {p : WA} {a : O} {c : Nat}, Lb H->WldAt H w p->Haps H a m (l.take m)->Spec Tryz.prog 39 [wldArg w p, .slice a m c] H fun v H' => ∃ p' s sn sc, v = .tuple #[wldArg y p', .slice s sn sc, i64 0]/\ WldAt H' y p'/\ Sl RInt 1 H' s sn S/\ sn <= sc) /\ 
   (∀ {H : Heap} {p : WA} {a : O} {c : Nat}, Lb H->WldAt H y p->Haps H a (n - m) (l.drop m)->Spec Tryz.prog 39 [wldArg y p, .slice a (n - m) c] H fun v H' => ∃ p' s sn sc, v = .tuple #[wldArg z p', .slice s sn sc, i64 0]/\ WldAt H' z p'/\ Sl RInt 1 H' s sn T/\ sn <= sc) /\ 
   (Spec Tryz.prog 39 [wldArg w p, .slice a n c] H fun v H' => ∃ p' s sn sc, v = .tuple #[wldArg z p', .slice s sn sc, i64 0]/\ WldAt H' z p'/\ Sl RInt 1 H' s sn (S ++ T)/\ sn <= sc)/\ S.length <= 200/\ T.length <= 200 :=
  ⟨_, _, _, _, fun h1 h2 h3 => cRun0 h1 h2 h3 r1, fun h1 h2 h3 => cRun0 h1 h2 h3 r2, by have := cRun0 (c := c) hL hw hx h0; rw [hrun] at this; exact this, hl1, hl2⟩
 refine hC.wldR fun p1 s1 sn1 sc1 H1 e1 hN1 hw1 hs1 hc1 => fun b3 => ?_
 refine ⟨False, (cRolled (hL.ext e1)).bool1 fun H2 e2 hN2 => ⟨fun h => (by cases h), fun _ => ⟨rfl, e2, by simp⟩⟩, fun h => h.elim, fun _ => ?_⟩
 intro r hr
 obtain rfl : r = (n : Int) + 1 := by rw [hr, wrap_in (by omega) (by omega)]
 refine (cAt k _ (by omega) (by omega)).int1 fun H2 e2 hN2 => ?_
 rw [hm]
 have hx2 := Sl.ext RHap.mono (Sl.ext RHap.mono hx e1) e2
 have hpre : Haps H2 a m (l.take m) := by
  have := hx2.sub (l := 0) (m := m) (a' := a) (by omega) (fun _ => by cases a <;> simp [Addr.add])
  simpa using this
 have hsuf : ∀ {H' : Heap} {a' : O}, Ext H2 H'->((m : Int) < (c : Int)->a' = a.map fun ad => ad.add ((m : Int).toNat * 5))->Haps H' a' (n - m) (l.drop m) := fun e ha => by
  have := (Sl.ext RHap.mono hx2 e).sub (l := m) (m := n - m) (a' := _) (by omega) (fun h => ha (by omega))
  rw [List.take_of_length_le (by rw [List.length_drop]; omega)] at this
  exact this
 have hL2 := (hL.ext e1).ext e2
 refine ⟨by omega, by omega, ?_, fun b4 => ?_⟩
 all_goals
  refine (hA (c := c) hL2 ((hw.ext e1).ext e2) hpre).wldR fun p2 s2 sn2 sc2 H3 e3 hN3 hw2 hs2 hc2 => ?_
  try intro b5
  refine ⟨by omega, by omega, hc, fun a' ha' => ⟨?_, fun b6 => ?_⟩⟩
  all_goals
   refine (hB (c := c - (m : Int).toNat) (hL2.ext e3) hw2 (hsuf e3 ha')).wldR fun p3 s3 sn3 sc3 H4 e4 hN4 hw3 hs3 hc3 => ?_
   try intro b7
   refine ⟨True, ⟨fun _ => ⟨fun _ => ?_, fun h => absurd rfl h⟩, fun h => absurd rfl h⟩, true_bool⟩
   refine (cWldSame (((hw1.ext e2).ext e3).ext e4) hw3).bool1 fun H5 e5 hN5 => ⟨fun _ => fun g H6 hN6 hgn hg => ?_, fun h => ?_⟩
   ·have e6 := hN6.ext
    have hP : Sl (RSl RInt 1) 1 H6 (some ⟨g, 0, none⟩) 2 [S, T] := sl_of_rows (rs := [[.slice s2 sn2 sc2], [.slice s3 sn3 sc3]]) hg (by simp) ⟨⟨_, _, _, rfl, Sl.ext RInt.mono (Sl.ext RInt.mono (Sl.ext RInt.mono hs2 e4) e5) e6⟩, ⟨_, _, _, rfl, Sl.ext RInt.mono (Sl.ext RInt.mono hs3 e5) e6⟩, trivial⟩ rfl (by decide)
    refine (cConcatE (c := 2) hP (by omega) (by simp only [List.flatten_cons, List.flatten_nil, List.append_nil, List.length_append]; omega)).mono fun v H7 e7 hv => ?_
    obtain ⟨ra, rn, rc, rfl, _, hRR⟩ := hv
    refine ⟨_, _, _, rfl, fun hN7 => ?_⟩
    simp only [List.flatten_cons, List.flatten_nil, List.append_nil] at hRR
    refine (cEqErr (Sl.ext RInt.mono (Sl.ext RInt.mono (Sl.ext RInt.mono (Sl.ext RInt.mono (Sl.ext RInt.mono (Sl.ext RInt.mono hs1 e2) e3) e4) e5) e6) e7) hRR).bool1 fun H8 e8 hN8 => ⟨rfl, Ext.trans e5 (Ext.trans e6 (Ext.trans e7 e8)), ⟨fun _ => decide_eq_true rfl, fun _ => trivial⟩⟩
   ·rw [of_dec rfl] at h; cases h
end Go.Vg
