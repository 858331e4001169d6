/- What is proved here: a part of the proof of the law WorldStands: what a contract is, how it comes of a condition, contracts of the functions that are reached, the plain laws. -/
import Derived.Test.YtgaegoefbekndaaGreatDoorR12
set_option linter.unusedSimpArgs false
set_option linter.unusedVariables false
set_option maxRecDepth 100000
namespace Go.Vg
open Go Go.Proofs
open Go.Value renaming int → I, slice → S, bool → B, agg → A, tuple → T, pointer → P, string → Str
open Go.IntKind renaming i64 → Z, wrap → W
open Go.Addr renaming mk → D
open Go.Vg.Bx renaming mk → J
open Go.Vg renaming Next → X, Spec → Y, SpecO → YO
open Go.Vg.Heap renaming cell → C
open Int renaming toNat → N
theorem vk10 (id bud : Int) (fa ra wa : O) (fl fc rl rc wl wc : Nat) (now goal nx : Int) (back : Bool) (la ka : O) (ll lc kl kc : Nat) (sa ta : O) (sl sc tl tc : Nat) (up : Bool) (na ma : O) (nl nc ml mc : Nat) (k : Int) (base : Nat) (H : Heap) (K : KT) :
 (fV TryzMutsK Tryz.f10 base H [.v (A #[I Z id, S fa fl fc, S ra rl rc, S wa wl wc, I Z bud, S la ll lc, I Z now, I Z goal, B back, S ka kl kc, I Z nx, S sa sl sc, S ta tl tc, B up, S na nl nc, S ma ml mc]), .v (I Z k)] [] K) = (
 ∀ a:Nat,(fun w8:LB=>∃ b:Prop,(Y Tryz.prog 30 [] H fun c d =>∃ e,c = B e/\ (X base H d->(e = false->w8 = w8/\ SubH H d/\ b)/\ (¬e = false->Y Tryz.prog 31 [A #[I Z id,S fa fl fc,S ra rl rc,S wa wl wc,I Z bud,S la ll lc,I Z now,I Z goal,B back,S ka kl kc,I Z nx,S sa sl sc,S ta tl tc,B up,S na nl nc,S ma ml mc]] d fun g h =>∃ i,g = I Z i/\ (X base d h->w8 = w8/\ SubH H h/\ (b↔¬i = 0)))))/\ (b->Y Tryz.prog 30 [] H fun c d =>∃ e,c = B e/\ (X base H d->K (B e) [] d))/\ (¬b->∀ c:Int,c = W Z ((nl:Int) + 1)->Y Tryz.prog 35 [I Z k,I Z c] H fun d e =>∃ g,d = I Z g/\ (X base H e->∀ h:Int,(fun w7:LV=>h = W Z (g - 1)->(0 <= h->∃ i j,na = some (D i j none)/\ 0 <= h/\ h < (nl:Int)/\ ∃ l,C e i (j + N h * 10 + 9) = some (B l)/\ (l = false->K (B true) [] e)/\ (¬l = false->Y Tryz.prog 27 w7 e fun m n =>∃ o p q r s t u v w x y z a1 b1 c1 d1 e1 f1 g1 h1 i1 j1 k1 l1 m1 n1 o1 p1 q1 r1 s1 t1 u1 v1 w1,m = T #[A #[I Z o,S p q r,S s t u,S v w x,I Z y,S z a1 b1,I Z c1,I Z d1,B e1,S f1 g1 h1,I Z i1,S j1 k1 l1,S m1 n1 o1,B p1,S q1 r1 s1,S t1 u1 v1],I Z w1]/\ (X base e n->∀ x1:Nat,(fun w4:LB=>∃ y1:Prop,((¬w1 = 0->w4 = w4/\ SubH n n/\ y1)/\ (¬¬w1 = 0->Y Tryz.prog 32 [A #[I Z o,S p q r,S s t u,S v w x,I Z y,S z a1 b1,I Z c1,I Z d1,B e1,S f1 g1 h1,I Z i1,S j1 k1 l1,S m1 n1 o1,B p1,S q1 r1 s1,S t1 u1 v1],A #[I Z id,S fa fl fc,S ra rl rc,S wa wl wc,I Z bud,S la ll lc,I Z now,I Z goal,B back,S ka kl kc,I Z nx,S sa sl sc,S ta tl tc,B up,S na nl nc,S ma ml mc]] n fun z1 a2 =>∃ b2,z1 = B b2/\ (X base n a2->w4 = w4/\ SubH n a2/\ (y1↔b2 = true))))/\ (y1->K (B false) [] n)/\ (¬y1->Y Tryz.prog 27 [A #[I Z o,S p q r,S s t u,S v w x,I Z y,S z a1 b1,I Z c1,I Z d1,B e1,S f1 g1 h1,I Z i1,S j1 k1 l1,S m1 n1 o1,B p1,S q1 r1 s1,S t1 u1 v1],A #[I Z 13,I Z h,I Z 0,B false,S none 0 0]] n fun z1 a2 =>∃ b2 c2 d2 e2 f2 g2 h2 i2 j2 k2 l2 m2 n2 o2 p2 q2 r2 s2 t2 u2 v2 w2 x2 y2 z2 a3 b3 c3 d3 e3 f3 g3 h3 i3 j3,z1 = T #[A #[I Z b2,S c2 d2 e2,S f2 g2 h2,S i2 j2 k2,I Z l2,S m2 n2 o2,I Z p2,I Z q2,B r2,S s2 t2 u2,I Z v2,S w2 x2 y2,S z2 a3 b3,B c3,S d3 e3 f3,S g3 h3 i3],I Z j3]/\ (X base n a2->∀ k3:Nat,(fun
 w3:LB=>∃ l3:Prop,((j3 = 0->Y Tryz.prog 32 [A #[I Z b2,S c2 d2 e2,S f2 g2 h2,S i2 j2 k2,I Z l2,S m2 n2 o2,I Z p2,I Z q2,B r2,S s2 t2 u2,I Z v2,S w2 x2 y2,S z2 a3 b3,B c3,S d3 e3 f3,S g3 h3 i3],A #[I Z id,S fa fl fc,S ra rl rc,S wa wl wc,I Z bud,S la ll lc,I Z now,I Z goal,B back,S ka kl kc,I Z nx,S sa sl sc,S ta tl tc,B up,S na nl nc,S ma ml mc]] a2 fun m3 n3 =>∃ o3,m3 = B o3/\ (X base a2 n3->w3 = w3/\ SubH a2 n3/\ (l3↔o3 = true)))/\ (¬j3 = 0->w3 = w3/\ SubH a2 a2/\ ¬l3))/\ K (B (@decide l3 (Classical.propDecidable l3))) [] a2) [J a false 41 [I Z id,S fa fl fc,S ra rl rc,S wa wl wc,I Z bud,S la ll lc,I Z now,I Z goal,B back,S ka kl kc,I Z nx,S sa sl sc,S ta tl tc,B up,S na nl nc,S ma ml mc],J x1 false 41 [I Z o,S p q r,S s t u,S v w x,I Z y,S z a1 b1,I Z c1,I Z d1,B e1,S f1 g1 h1,I Z i1,S j1 k1 l1,S m1 n1 o1,B p1,S q1 r1 s1,S t1 u1 v1],J k3 false 41 [I Z b2,S c2 d2 e2,S f2 g2 h2,S i2 j2 k2,I Z l2,S m2 n2 o2,I Z p2,I Z q2,B r2,S s2 t2 u2,I Z v2,S w2 x2 y2,S z2 a3 b3,B c3,S d3 e3 f3,S g3 h3 i3]]))) [J a false 41 [I Z id,S fa fl fc,S ra rl rc,S wa wl wc,I Z bud,S la ll lc,I Z now,I Z goal,B back,S ka kl kc,I Z nx,S sa sl sc,S ta tl tc,B up,S na nl nc,S ma ml mc],J x1 false 41 [I Z o,S p q r,S s t u,S v w x,I Z y,S z a1 b1,I Z c1,I Z d1,B e1,S f1 g1 h1,I Z i1,S j1 k1 l1,S m1 n1 o1,B p1,S q1 r1 s1,S t1 u1 v1]])))/\ (¬0 <= h->(up = false->K (B true) [] e)/\ (¬up = false->Y Tryz.prog 27 w7 e fun i j =>∃ l m n o p q r s t u v w x y z a1 b1 c1 d1 e1 f1 g1 h1 i1 j1 k1 l1 m1 n1 o1 p1 q1 r1 s1 t1,i = T #[A #[I Z l,S m n o,S p q r,S s t u,I Z v,S w x y,I Z z,I Z a1,B b1,S c1 d1 e1,I Z f1,S g1 h1 i1,S j1 k1 l1,B m1,S n1 o1 p1,S q1 r1 s1],I Z t1]/\ (X base e j->∀ u1:Nat,(fun w6:LB=>∃ v1:Prop,((¬t1 = 0->w6 = w6/\ SubH j j/\ v1)/\ (¬¬t1 = 0->Y Tryz.prog 32 [A #[I Z l,S m n o,S p q r,S s t u,I Z v,S w x y,I Z z,I Z a1,B b1,S c1 d1 e1,I Z f1,S g1 h1 i1,S j1 k1 l1,B m1,S n1 o1 p1,S q1 r1 s1],A #[I Z id,S fa fl fc,S ra rl rc,S wa wl wc,I Z bud,S la ll lc,I Z now,I Z goal,B back,S ka kl kc,I Z nx,S sa sl sc,S ta tl tc,B up,S
 na nl nc,S ma ml mc]] j fun w1 x1 =>∃ y1,w1 = B y1/\ (X base j x1->w6 = w6/\ SubH j x1/\ (v1↔y1 = true))))/\ (v1->K (B false) [] j)/\ (¬v1->Y Tryz.prog 27 [A #[I Z l,S m n o,S p q r,S s t u,I Z v,S w x y,I Z z,I Z a1,B b1,S c1 d1 e1,I Z f1,S g1 h1 i1,S j1 k1 l1,B m1,S n1 o1 p1,S q1 r1 s1],A #[I Z 13,I Z h,I Z 0,B false,S none 0 0]] j fun w1 x1 =>∃ y1 z1 a2 b2 c2 d2 e2 f2 g2 h2 i2 j2 k2 l2 m2 n2 o2 p2 q2 r2 s2 t2 u2 v2 w2 x2 y2 z2 a3 b3 c3 d3 e3 f3 g3,w1 = T #[A #[I Z y1,S z1 a2 b2,S c2 d2 e2,S f2 g2 h2,I Z i2,S j2 k2 l2,I Z m2,I Z n2,B o2,S p2 q2 r2,I Z s2,S t2 u2 v2,S w2 x2 y2,B z2,S a3 b3 c3,S d3 e3 f3],I Z g3]/\ (X base j x1->∀ h3:Nat,(fun w5:LB=>∃ i3:Prop,((g3 = 0->Y Tryz.prog 32 [A #[I Z y1,S z1 a2 b2,S c2 d2 e2,S f2 g2 h2,I Z i2,S j2 k2 l2,I Z m2,I Z n2,B o2,S p2 q2 r2,I Z s2,S t2 u2 v2,S w2 x2 y2,B z2,S a3 b3 c3,S d3 e3 f3],A #[I Z id,S fa fl fc,S ra rl rc,S wa wl wc,I Z bud,S la ll lc,I Z now,I Z goal,B back,S ka kl kc,I Z nx,S sa sl sc,S ta tl tc,B up,S na nl nc,S ma ml mc]] x1 fun j3 k3 =>∃ l3,j3 = B l3/\ (X base x1 k3->w5 = w5/\ SubH x1 k3/\ (i3↔l3 = true)))/\ (¬g3 = 0->w5 = w5/\ SubH x1 x1/\ ¬i3))/\ K (B (@decide i3 (Classical.propDecidable i3))) [] x1) [J a false 41 [I Z id,S fa fl fc,S ra rl rc,S wa wl wc,I Z bud,S la ll lc,I Z now,I Z goal,B back,S ka kl kc,I Z nx,S sa sl sc,S ta tl tc,B up,S na nl nc,S ma ml mc],J u1 false 41 [I Z l,S m n o,S p q r,S s t u,I Z v,S w x y,I Z z,I Z a1,B b1,S c1 d1 e1,I Z f1,S g1 h1 i1,S j1 k1 l1,B m1,S n1 o1 p1,S q1 r1 s1],J h3 false 41 [I Z y1,S z1 a2 b2,S c2 d2 e2,S f2 g2 h2,I Z i2,S j2 k2 l2,I Z m2,I Z n2,B o2,S p2 q2 r2,I Z s2,S t2 u2 v2,S w2 x2 y2,B z2,S a3 b3 c3,S d3 e3 f3]]))) [J a false 41 [I Z id,S fa fl fc,S ra rl rc,S wa wl wc,I Z bud,S la ll lc,I Z now,I Z goal,B back,S ka kl kc,I Z nx,S sa sl sc,S ta tl tc,B up,S na nl nc,S ma ml mc],J u1 false 41 [I Z l,S m n o,S p q r,S s t u,I Z v,S w x y,I Z z,I Z a1,B b1,S c1 d1 e1,I Z f1,S g1 h1 i1,S j1 k1 l1,B m1,S n1 o1 p1,S q1 r1 s1]])))) [A #[I Z id,S fa fl fc,S ra rl rc,S wa wl wc,I Z bud,S la ll
 lc,I Z now,I Z goal,B back,S ka kl kc,I Z nx,S sa sl sc,S ta tl tc,B up,S na nl nc,S ma ml mc],A #[I Z 12,I Z h,I Z 0,B false,S none 0 0]]))) [J a false 41 [I Z id,S fa fl fc,S ra rl rc,S wa wl wc,I Z bud,S la ll lc,I Z now,I Z goal,B back,S ka kl kc,I Z nx,S sa sl sc,S ta tl tc,B up,S na nl nc,S ma ml mc]]) := by kernel_rfl
open Go Go.Proofs
theorem vx108 (a a' : O) (l c l' c' : Nat) (base : Nat) (H : Heap) (K : KT) :
 (fV TryzMutsJ Tryz.f108 base H [.v (S a l c), .v (S a' l' c')] [] K) = (
 Y Tryz.prog 109 [S a l c,S a' l' c'] H fun b d =>∃ e,b = B e/\ (X base H d->K (B e) [] d)) := by kernel_rfl
theorem vx107a (a a' : O) (l c l' c' : Nat) (base : Nat) (H : Heap) (K : KT) :
 (fV TryzMutsJ Tryz.f107 base H [.v (S a l c), .v (S a' l' c'), .v (.func (.func 108) #[] #[])] [] K) = (
 (¬(l:Int) = (l':Int)->K (B false) [] H)/\ (¬¬(l:Int) = (l':Int)->∃ (b:LI) (d:LM),b [B false,I Z 0] H/\ ∀ (e:Bool) (g:Int) (h:Heap),X base H h->b [B e,I Z g] h->(g < (l:Int)->∃ i j,a = some (D i j none)/\ 0 <= g/\ g < (l:Int)/\ ∃ k m n,C h i (j + N g * 1) = some (S k m n)/\ ∃ o p,a' = some (D o p none)/\ 0 <= g/\ g < (l':Int)/\ ∃ q r s,C h o (p + N g * 1) = some (S q r s)/\ Y Tryz.prog 108 [S k m n,S q r s] h fun t u =>∃ v,t = B v/\ (X base h u->(v = false->K (B false) [] u)/\ (¬v = false->∀ w:Int,w = W Z (g + 1)->b [B e,I Z w] u/\ d [B e,I Z w] < d [B e,I Z g])))/\ (¬g < (l:Int)->K (B true) [] h))) := by kernel_rfl
theorem vx109 (a a' : O) (l c l' c' : Nat) (base : Nat) (H : Heap) (K : KT) :
 (fV TryzMutsJ Tryz.f109 base H [.v (S a l c), .v (S a' l' c')] [] K) = (
 (¬(l:Int) = (l':Int)->K (B false) [] H)/\ (¬¬(l:Int) = (l':Int)->∃ (b:LI) (d:LM),b [B false,I Z 0] H/\ ∀ (e:Bool) (g:Int) (h:Heap),X base H h->b [B e,I Z g] h->(g < (l:Int)->∃ i j,a = some (D i j none)/\ 0 <= g/\ g < (l:Int)/\ ∃ k,C h i (j + N g * 1) = some (I Z k)/\ ∃ m n,a' = some (D m n none)/\ 0 <= g/\ g < (l':Int)/\ ∃ o,C h m (n + N g * 1) = some (I Z o)/\ (¬k = o->K (B false) [] h)/\ (¬¬k = o->∀ p:Int,p = W Z (g + 1)->b [B e,I Z p] h/\ d [B e,I Z p] < d [B e,I Z g]))/\ (¬g < (l:Int)->K (B true) [] h))) := by kernel_rfl
theorem vx110 (a a' : O) (l c l' c' : Nat) (base : Nat) (H : Heap) (K : KT) :
 (fV TryzMutsJ Tryz.f110 base H [.v (S a l c), .v (S a' l' c')] [] K) = (
 (¬(l:Int) = (l':Int)->K (B false) [] H)/\ (¬¬(l:Int) = (l':Int)->∃ (b:LI) (d:LM),b [B false,I Z 0] H/\ ∀ (e:Bool) (g:Int) (h:Heap),X base H h->b [B e,I Z g] h->(g < (l:Int)->∃ i j,a = some (D i j none)/\ 0 <= g/\ g < (l:Int)/\ ∃ k m n o:Int,(C h i (j + N g * 4) = some (I Z k)/\ C h i (j + N g * 4 + 1) = some (I Z m)/\ C h i (j + N g * 4 + 2) = some (I Z n)/\ C h i (j + N g * 4 + 3) = some (I Z o)/\ True)/\ ∃ p q,a' = some (D p q none)/\ 0 <= g/\ g < (l':Int)/\ ∃ r s t u:Int,(C h p (q + N g * 4) = some (I Z r)/\ C h p (q + N g * 4 + 1) = some (I Z s)/\ C h p (q + N g * 4 + 2) = some (I Z t)/\ C h p (q + N g * 4 + 3) = some (I Z u)/\ True)/\ ∃ v,RunsTo Tryz.prog (binRun BinOp.neq 152 (Operand.tmp 19) (Operand.tmp 23) (A #[I Z k,I Z m,I Z n,I Z o]) (A #[I Z r,I Z s,I Z t,I Z u])) (B v)/\ (v = true->K (B false) [] h)/\ (¬v = true->∀ w:Int,w = W Z (g + 1)->b [B e,I Z w] h/\ d [B e,I Z w] < d [B e,I Z g]))/\ (¬g < (l:Int)->K (B true) [] h))) := by kernel_rfl
theorem vx112 (aat tr gid : Int) (going good : Bool) (xa ga : O) (xl xc gl gc : Nat) (ua va : O) (ul uc vl vc : Nat) (nup : Bool) (aat' tr' gid' : Int) (going' good' : Bool) (xa' ga' : O) (xl' xc' gl' gc' : Nat) (ua' va' : O) (ul' uc' vl' vc' : Nat) (nup' : Bool) (base : Nat) (H : Heap) (K : KT) :
 (fV TryzMutsJ Tryz.f112 base H [.v (A #[S xa xl xc, I Z aat, I Z tr, B going, I Z gid, S ga gl gc, B good, S ua ul uc, S va vl vc, B nup]), .v (A #[S xa' xl' xc', I Z aat', I Z tr', B going', I Z gid', S ga' gl' gc', B good', S ua' ul' uc', S va' vl' vc', B nup'])] [] K) = (
 ∀ a b:Nat,(fun w1:LB=>∃ c:Prop,(∃ d,RunsTo Tryz.prog (binRun BinOp.eql 4 (Operand.tmp 6) (Operand.tmp 8) (B nup) (B nup')) (B d)/\ (d = true->Y Tryz.prog 38 [A #[S xa xl xc,I Z aat,I Z tr,B going,I Z gid,S ga gl gc,B good],A #[S xa' xl' xc',I Z aat',I Z tr',B going',I Z gid',S ga' gl' gc',B good']] H fun e g =>∃ h,e = B h/\ (X base H g->(h = true->Y Tryz.prog 37 [A #[S ua ul uc,S va vl vc],A #[S ua' ul' uc',S va' vl' vc']] g fun i j =>∃ k,i = B k/\ (X base g j->w1 = w1/\ SubH H j/\ (c↔k = true)))/\ (h = false->w1 = w1/\ SubH H g/\ ¬c)))/\ (¬d = true->w1 = w1/\ SubH H H/\ ¬c))/\ K (B (@decide c (Classical.propDecidable c))) [] H) [J a false 58 [S xa xl xc,I Z aat,I Z tr,B going,I Z gid,S ga gl gc,B good,S ua ul uc,S va vl vc,B nup],J b false 58 [S xa' xl' xc',I Z aat',I Z tr',B going',I Z gid',S ga' gl' gc',B good',S ua' ul' uc',S va' vl' vc',B nup']]) := by kernel_rfl
theorem vx111a (a a' : O) (l c l' c' : Nat) (base : Nat) (H : Heap) (K : KT) :
 (fV TryzMutsJ Tryz.f111 base H [.v (S a l c), .v (S a' l' c'), .v (.func (.func 112) #[] #[])] [] K) = (
 (¬(l:Int) = (l':Int)->K (B false) [] H)/\ (¬¬(l:Int) = (l':Int)->∃ (b:LI) (d:LM),b [B false,I Z 0] H/\ ∀ (e:Bool) (g:Int) (h:Heap),X base H h->b [B e,I Z g] h->(g < (l:Int)->∃ i j,a = some (D i j none)/\ 0 <= g/\ g < (l:Int)/\ ∃ (k:O) (m n:Nat) (o p:Int) (q:Bool) (r:Int) (s:O) (t u:Nat) (v:Bool) (w:O) (x y:Nat) (z:O) (a1 b1:Nat) (c1:Bool),(C h i (j + N g * 10) = some (S k m n)/\ C h i (j + N g * 10 + 1) = some (I Z o)/\ C h i (j + N g * 10 + 2) = some (I Z p)/\ C h i (j + N g * 10 + 3) = some (B q)/\ C h i (j + N g * 10 + 4) = some (I Z r)/\ C h i (j + N g * 10 + 5) = some (S s t u)/\ C h i (j + N g * 10 + 6) = some (B v)/\ C h i (j + N g * 10 + 7) = some (S w x y)/\ C h i (j + N g * 10 + 8) = some (S z a1 b1)/\ C h i (j + N g * 10 + 9) = some (B c1)/\ True)/\ ∀ d1:Nat,∃ e1 f1,a' = some (D e1 f1 none)/\ 0 <= g/\ g < (l':Int)/\ ∃ (g1:O) (h1 i1:Nat) (j1 k1:Int) (l1:Bool) (m1:Int) (n1:O) (o1 p1:Nat) (q1:Bool) (r1:O) (s1 t1:Nat) (u1:O) (v1 w1:Nat) (x1:Bool),(C h e1 (f1 + N g * 10) = some (S g1 h1 i1)/\ C h e1 (f1 + N g * 10 + 1) = some (I Z j1)/\ C h e1 (f1 + N g * 10 + 2) = some (I Z k1)/\ C h e1 (f1 + N g * 10 + 3) = some (B l1)/\ C h e1 (f1 + N g * 10 + 4) = some (I Z m1)/\ C h e1 (f1 + N g * 10 + 5) = some (S n1 o1 p1)/\ C h e1 (f1 + N g * 10 + 6) = some (B q1)/\ C h e1 (f1 + N g * 10 + 7) = some (S r1 s1 t1)/\ C h e1 (f1 + N g * 10 + 8) = some (S u1 v1 w1)/\ C h e1 (f1 + N g * 10 + 9) = some (B x1)/\ True)/\ ∀ y1:Nat,Y Tryz.prog 112 [A #[S k m n,I Z o,I Z p,B q,I Z r,S s t u,B v,S w x y,S z a1 b1,B c1],A #[S g1 h1 i1,I Z j1,I Z k1,B l1,I Z m1,S n1 o1 p1,B q1,S r1 s1 t1,S u1 v1 w1,B x1]] h fun z1 a2 =>∃ b2,z1 = B b2/\ (X base h a2->(b2 = false->K (B false) [] a2)/\ (¬b2 = false->∀ c2:Int,c2 = W Z (g + 1)->b [B e,I Z c2] a2/\ d [B e,I Z c2] < d [B e,I Z g])))/\ (¬g < (l:Int)->K (B true) [] h))) := by kernel_rfl
theorem vx32 (id bud : Int) (fa ra wa : O) (fl fc rl rc wl wc : Nat) (now goal nx : Int) (back : Bool) (la ka : O) (ll lc kl kc : Nat) (sa ta : O) (sl sc tl tc : Nat) (up : Bool) (na ma : O) (nl nc ml mc : Nat) (id' bud' : Int) (fa' ra' wa' : O) (fl' fc' rl' rc' wl' wc' : Nat) (now' goal' nx' : Int) (back' : Bool) (la' ka' : O) (ll' lc' kl' kc' : Nat) (sa' ta' : O) (sl' sc' tl' tc' : Nat) (up' : Bool) (na' ma' : O) (nl' nc' ml' mc' : Nat) (base : Nat) (H : Heap) (K : KT) :
 (fV TryzMutsJ Tryz.f32 base H [.v (A #[I Z id, S fa fl fc, S ra rl rc, S wa wl wc, I Z bud, S la ll lc, I Z now, I Z goal, B back, S ka kl kc, I Z nx, S sa sl sc, S ta tl tc, B up, S na nl nc, S ma ml mc]), .v (A #[I Z id', S fa' fl' fc', S ra' rl' rc', S wa' wl' wc', I Z bud', S la' ll' lc', I Z now', I Z goal', B back', S ka' kl' kc', I Z nx', S sa' sl' sc', S ta' tl' tc', B up', S na' nl' nc', S ma' ml' mc'])] [] K) = (
 ∀ a b:Nat,(fun w1:LB=>Y Tryz.prog 107 [S wa wl wc,S wa' wl' wc',Value.func (Fn.func 108) #[] #[]] H fun c d =>∃ e,c = B e/\ (X base H d->∃ g:Prop,((id = id'->Y Tryz.prog 47 [S fa fl fc,S fa' fl' fc'] d fun h i =>∃ j,h = B j/\ (X base d i->w1 = w1/\ SubH d i/\ (g↔j = true)))/\ (¬id = id'->w1 = w1/\ SubH d d/\ ¬g))/\ ∃ h:Prop,((e = true->(g->Y Tryz.prog 110 [S ra rl rc,S ra' rl' rc'] d fun i j =>∃ k,i = B k/\ (X base d j->(k = true->(bud = bud'->∃ l,RunsTo Tryz.prog (binRun BinOp.eql 4 (Operand.tmp 59) (Operand.tmp 62) (B up) (B up')) (B l)/\ (l = true->Y Tryz.prog 36 [A #[S la ll lc,I Z now,I Z goal,B back,S ka kl kc,I Z nx],A #[S la' ll' lc',I Z now',I Z goal',B back',S ka' kl' kc',I Z nx']] j fun m n =>∃ o,m = B o/\ (X base j n->(o = true->Y Tryz.prog 37 [A #[S sa sl sc,S ta tl tc],A #[S sa' sl' sc',S ta' tl' tc']] n fun p q =>∃ r,p = B r/\ (X base n q->(r = true->Y Tryz.prog 44 [S ma ml mc,S ma' ml' mc'] q fun s t =>∃ u,s = B u/\ (X base q t->(u = true->Y Tryz.prog 111 [S na nl nc,S na' nl' nc',Value.func (Fn.func 112) #[] #[]] t fun v w =>∃ x,v = B x/\ (X base t w->w1 = w1/\ SubH d w/\ (h↔x = true)))/\ (u = false->w1 = w1/\ SubH d t/\ ¬h)))/\ (r = false->w1 = w1/\ SubH d q/\ ¬h)))/\ (o = false->w1 = w1/\ SubH d n/\ ¬h)))/\ (¬l = true->w1 = w1/\ SubH d j/\ ¬h))/\ (¬bud = bud'->w1 = w1/\ SubH d j/\ ¬h))/\ (k = false->w1 = w1/\ SubH d j/\ ¬h)))/\ (¬g->w1 = w1/\ SubH d d/\ ¬h))/\ (e = false->w1 = w1/\ SubH d d/\ ¬h))/\ K (B (@decide h (Classical.propDecidable h))) [] d)) [J a false 41 [I Z id,S fa fl fc,S ra rl rc,S wa wl wc,I Z bud,S la ll lc,I Z now,I Z goal,B back,S ka kl kc,I Z nx,S sa sl sc,S ta tl tc,B up,S na nl nc,S ma ml mc],J b false 41 [I Z id',S fa' fl' fc',S ra' rl' rc',S wa' wl' wc',I Z bud',S la' ll' lc',I Z now',I Z goal',B back',S ka' kl' kc',I Z nx',S sa' sl' sc',S ta' tl' tc',B up',S na' nl' nc',S ma' ml' mc']]) := by kernel_rfl
open Go Go.Proofs
theorem neq152 {xo yo : Operand} (p q : Rule) : RunsTo Tryz.prog (binRun .neq 152 xo yo (.agg #[.int .i64 p.name, .int .i64 p.ver, .int .i64 p.wth, .int .i64 p.least]) (.agg #[.int .i64 q.name, .int .i64 q.ver, .int .i64 q.wth, .int .i64 q.least])) (.bool (!(p.name == q.name && p.ver == q.ver && p.wth == q.wth && p.least == q.least))) := by
 intro w
 have u3 := Tryz.underlying3
 have a3 := Tryz.isAgg3
 have z3 := Tryz.sizeOf3
 have hS : Tryz.prog.underlying 152 = some (.struct (Tryz.prog.fieldsOf 152)) := by kernel_rfl
 have hp : Tryz.prog.stoodInHeld 152 = false := by kernel_rfl
 have hm : Tryz.prog.eqGuardType Tryz.prog.depth 152 = false := by kernel_rfl
 have he : (Op.equalIn 10000 152 (.agg #[.int .i64 p.name, .int .i64 p.ver, .int .i64 p.wth, .int .i64 p.least]) (.agg #[.int .i64 q.name, .int .i64 q.ver, .int .i64 q.wth, .int .i64 q.least])).run Tryz.prog w = .ok (p.name == q.name && p.ver == q.ver && p.wth == q.wth && p.least == q.least) w := by
  rw [show (10000 : Nat) = 9999 + 1 from rfl, run_equalIn_agg w 9999 152 _ _ hS hp]
  simp only [Program.fieldsOf, Tryz.underlying152]
  go_simp
  by_cases h1 : p.name = q.name <;> by_cases h2 : p.ver = q.ver <;> by_cases h3 : p.wth = q.wth <;> by_cases h4 : p.least = q.least <;> simp [h1, h2, h3, h4]
 simp only [binRun, Sem.run_bind, run_eqGuard_agg w _ 152 _ _ _ _ hm, Result.andThen_ok, run_neq_struct, he]
theorem cEqRules {H : Heap} {a a' : O} {l c l' c' : Nat} {xs ys : List Rule} (hx : Rules H a l xs) (hy : Rules H a' l' ys) : Spec Tryz.prog 110 [.slice a l c, .slice a' l' c'] H fun v _ => v = .bool (decide (xs = ys)) := by
 refine TryzvcJ Tryz.func110 (by kernel_rfl) (by kernel_rfl) _ rfl (fun base K => vx110 a a' l c l' c' base H K) fun base hb => ?_
 have hxl := hx.len
 have hyl := hy.len
 have hle := hx.le
 refine ⟨fun hne => ?_, fun he => ?_⟩
 ·rw [decide_eq_false]; rintro rfl; omega
 refine ⟨fun vs _ => ∃ (b : Bool) (k : Nat), vs = [.bool b, i64 k]/\ k <= l/\ (xs.drop k = ys.drop k ↔ xs = ys), upTo l 1, ⟨false, 0, rfl, by omega, by simp⟩, fun b n H' hN hI => ?_⟩
 obtain ⟨b', k, hvs, hk, hI⟩ := hI
 obtain ⟨rfl, rfl⟩ : b = b'/\ n = (k : Int) := by simpa using hvs
 refine ⟨fun hlt => hx.rule hN.ext (by omega) hlt fun p hp => hy.rule hN.ext (by omega) (by omega) fun q hq => ⟨_, neq152 p q, fun h => ?_, fun h => ?_⟩, fun hge => ?_⟩
 ·rw [Int.toNat_natCast] at hp hq
  rw [drop_at hp, drop_at hq] at hI
  rw [decide_eq_false]
  intro e
  obtain ⟨rfl, _⟩ := List.cons.inj (hI.2 e)
  simp at h
 ·rw [Int.toNat_natCast] at hp hq
  rw [drop_at hp, drop_at hq] at hI
  have hpq : p = q := by cases p; cases q; simp at h ⊢; exact ⟨h.1.1.1, h.1.1.2, h.1.2, h.2⟩
  rintro r rfl
  rw [wrap_in (by omega) (by omega)]
  exact ⟨⟨b, k + 1, rfl, by omega, by rw [← hI]; simp [hpq]⟩, by simp [upTo]; omega⟩
 ·rw [decide_eq_true]
  exact hI.1 (by rw [drop_all hxl (by omega), drop_all hyl (by omega)])
theorem cEqInts109 {H : Heap} {a a' : O} {l c l' c' : Nat} {xs ys : List Int} (hx : Sl RInt 1 H a l xs) (hy : Sl RInt 1 H a' l' ys) : Spec Tryz.prog 109 [.slice a l c, .slice a' l' c'] H fun v _ => v = .bool (decide (xs = ys)) := by
 refine TryzvcJ Tryz.func109 (by kernel_rfl) (by kernel_rfl) _ rfl (fun base K => vx109 a a' l c l' c' base H K) fun base hb => ?_
 have hxl := hx.len
 have hyl := hy.len
 have hle := hx.le
 refine ⟨fun hne => ?_, fun he => ?_⟩
 ·rw [decide_eq_false]; rintro rfl; omega
 refine ⟨fun vs _ => ∃ (b : Bool) (k : Nat), vs = [.bool b, i64 k]/\ k <= l/\ (xs.drop k = ys.drop k ↔ xs = ys), upTo l 1, ⟨false, 0, rfl, by omega, by simp⟩, fun b n H' hN hI => ?_⟩
 obtain ⟨b', k, hvs, hk, hI⟩ := hI
 obtain ⟨rfl, rfl⟩ : b = b'/\ n = (k : Int) := by simpa using hvs
 refine ⟨fun hlt => ?_, fun hge => ?_⟩
 ·obtain ⟨b1, o1, r1, p, ha, hp, hr, hc⟩ := hx.get (k := (k : Int)) (by omega) hlt
  obtain ⟨b2, o2, r2, q, ha', hq, hr', hc'⟩ := hy.get (k := (k : Int)) (by omega) (by omega)
  cases hr
  cases hr'
  refine ⟨b1, o1, ha, by omega, hlt, p, Heap.cell_next hN.ext (hc 0 _ rfl), b2, o2, ha', by omega, by omega, q, Heap.cell_next hN.ext (hc' 0 _ rfl), fun h => ?_, fun h => ?_⟩
  ·rw [Int.toNat_natCast] at hp hq
   rw [drop_at hp, drop_at hq] at hI
   rw [decide_eq_false]
   intro e
   exact h (List.cons.inj (hI.2 e)).1
  ·rw [Int.toNat_natCast] at hp hq
   rw [drop_at hp, drop_at hq] at hI
   have hpq : p = q := Decidable.not_not.1 h
   rintro r rfl
   rw [wrap_in (by omega) (by omega)]
   exact ⟨⟨b, k + 1, rfl, by omega, by rw [← hI]; simp [hpq]⟩, by simp [upTo]; omega⟩
 ·rw [decide_eq_true]
  exact hI.1 (by rw [drop_all hxl (by omega), drop_all hyl (by omega)])
theorem cEqInts108 {H : Heap} {a a' : O} {l c l' c' : Nat} {xs ys : List Int} (hx : Sl RInt 1 H a l xs) (hy : Sl RInt 1 H a' l' ys) : Spec Tryz.prog 108 [.slice a l c, .slice a' l' c'] H fun v _ => v = .bool (decide (xs = ys)) := by
 refine TryzvcJ Tryz.func108 (by kernel_rfl) (by kernel_rfl) _ rfl (fun base K => vx108 a a' l c l' c' base H K) fun base hb => ?_
 exact (cEqInts109 hx hy).bool1 fun H' _ _ => rfl
theorem cEqWavesA {H : Heap} {a a' : O} {l c l' c' : Nat} {xs ys : List (List Int)} (hx : Waves H a l xs) (hy : Waves H a' l' ys) : Spec Tryz.prog 107 [.slice a l c, .slice a' l' c', .func (.func 108) #[] #[]] H fun v _ => v = .bool (decide (xs = ys)) := by
 refine TryzvcJ Tryz.func107 (by kernel_rfl) (by kernel_rfl) _ rfl (fun base K => vx107a a a' l c l' c' base H K) fun base hb => ?_
 have hxl := hx.len
 have hyl := hy.len
 have hle := hx.le
 refine ⟨fun hne => ?_, fun he => ?_⟩
 ·rw [decide_eq_false]; rintro rfl; omega
 refine ⟨fun vs _ => ∃ (b : Bool) (k : Nat), vs = [.bool b, i64 k]/\ k <= l/\ (xs.drop k = ys.drop k ↔ xs = ys), upTo l 1, ⟨false, 0, rfl, by omega, by simp⟩, fun b n H' hN hI => ?_⟩
 obtain ⟨b', k, hvs, hk, hI⟩ := hI
 obtain ⟨rfl, rfl⟩ : b = b'/\ n = (k : Int) := by simpa using hvs
 refine ⟨fun hlt => hx.slice hN.ext (by omega) hlt fun m a1 n1 c1 hm hp => hy.slice hN.ext (by omega) (by omega) fun m' a2 n2 c2 hm' hq => (cEqInts108 (Sl.ext RInt.mono hp hN.ext) (Sl.ext RInt.mono hq hN.ext)).bool1 fun H2 e2 _ => ⟨fun h => ?_, fun h => ?_⟩, fun hge => ?_⟩
 ·rw [Int.toNat_natCast] at hm hm'
  rw [drop_at hm, drop_at hm'] at hI
  rw [decide_eq_false]
  intro e
  exact absurd (List.cons.inj (hI.2 e)).1 (of_decide_eq_false h)
 ·rw [Int.toNat_natCast] at hm hm'
  rw [drop_at hm, drop_at hm'] at hI
  have hpq : m = m' := by simpa using h
  rintro r rfl
  rw [wrap_in (by omega) (by omega)]
  exact ⟨⟨b, k + 1, rfl, by omega, by rw [← hI]; simp [hpq]⟩, by simp [upTo]; omega⟩
 ·rw [decide_eq_true]
  exact hI.1 (by rw [drop_all hxl (by omega), drop_all hyl (by omega)])
theorem nod_eq {x y : Nod} : x = y ↔ x.up = y.up/\ x.a = y.a/\ x.d = y.d := by cases x; cases y; simp; exact ⟨fun h => ⟨h.2.2, h.1, h.2.1⟩, fun h => ⟨h.2.1, h.2.2, h.1⟩⟩
theorem cNodEqA {H : Heap} {x y : Nod} {q q' : NA} (hx : NodAt H x q) (hy : NodAt H y q') : Spec Tryz.prog 112 [nodArg x q, nodArg y q'] H fun v _ => v = .bool (decide (x = y)) := by
 refine TryzvcJ Tryz.func112 (by kernel_rfl) (by kernel_rfl) _ rfl (fun base K => vx112 x.a.at_ x.a.try_ x.a.goal.id x.a.going x.a.good q.xa q.ga q.xl q.xc q.gl q.gc q.ua q.va q.ul q.uc q.vl q.vc x.up y.a.at_ y.a.try_ y.a.goal.id y.a.going y.a.good q'.xa q'.ga q'.xl q'.xc q'.gl q'.gc q'.ua q'.va q'.ul q'.uc q'.vl q'.vc y.up base H K) fun base hb => fun b b' => ?_
 refine ⟨x = y, ⟨_, eqBool, fun h => (cAgtSame hx.lock hx.goal hy.lock hy.goal).bool1 fun H1 e1 _ => ⟨fun h1 => (cDiskSame (hx.dsk.ext e1) (hy.dsk.ext e1)).bool1 fun H2 e2 _ => ⟨rfl, Ext.trans e1 e2, ?_⟩, fun h1 => ⟨rfl, e1, ?_⟩⟩, fun h => ⟨rfl, subH, ?_⟩⟩, ?_⟩
 ·rw [nod_eq]; simp at h h1 ⊢; simp [h, h1]
 ·rw [nod_eq]; simp at h1; simp [h1]
 ·rw [nod_eq]; simp at h; simp [h]
 ·show Value.bool _ = Value.bool _
  rw [decC]
theorem cEqNodsA {H : Heap} {a a' : O} {l c l' c' : Nat} {xs ys : List Nod} (hx : Nods H a l xs) (hy : Nods H a' l' ys) : Spec Tryz.prog 111 [.slice a l c, .slice a' l' c', .func (.func 112) #[] #[]] H fun v _ => v = .bool (decide (xs = ys)) := by
 refine TryzvcJ Tryz.func111 (by kernel_rfl) (by kernel_rfl) _ rfl (fun base K => vx111a a a' l c l' c' base H K) fun base hb => ?_
 have hxl := hx.len
 have hyl := hy.len
 have hle := hx.le
 refine ⟨fun hne => ?_, fun he => ?_⟩
 ·rw [decide_eq_false]; rintro rfl; omega
 refine ⟨fun vs _ => ∃ (b : Bool) (k : Nat), vs = [.bool b, i64 k]/\ k <= l/\ (xs.drop k = ys.drop k ↔ xs = ys), upTo l 1, ⟨false, 0, rfl, by omega, by simp⟩, fun b n H' hN hI => ?_⟩
 obtain ⟨b', k, hvs, hk, hI⟩ := hI
 obtain ⟨rfl, rfl⟩ : b = b'/\ n = (k : Int) := by simpa using hvs
 refine ⟨fun hlt => hx.node hN.ext (by omega) hlt fun m q1 hm hp => fun b5 => hy.node hN.ext (by omega) (by omega) fun m' q2 hm' hq => fun b10 => (cNodEqA (hp.ext hN.ext) (hq.ext hN.ext)).bool1 fun H2 e2 _ => ⟨fun h => ?_, fun h => ?_⟩, fun hge => ?_⟩
 ·rw [Int.toNat_natCast] at hm hm'
  rw [drop_at hm, drop_at hm'] at hI
  rw [decide_eq_false]
  intro e
  exact absurd (List.cons.inj (hI.2 e)).1 (of_decide_eq_false h)
 ·rw [Int.toNat_natCast] at hm hm'
  rw [drop_at hm, drop_at hm'] at hI
  have hpq : m = m' := by simpa using h
  rintro r rfl
  rw [wrap_in (by omega) (by omega)]
  exact ⟨⟨b, k + 1, rfl, by omega, by rw [← hI]; simp [hpq]⟩, by simp [upTo]; omega⟩
 ·rw [decide_eq_true]
  exact hI.1 (by rw [drop_all hxl (by omega), drop_all hyl (by omega)])
open Go Go.Proofs
theorem conf_eq {c c' : Conf} : c = c' ↔ (c.first.id = c'.first.id/\ c.first.lock = c'.first.lock)/\ c.rules = c'.rules/\ c.bud = c'.bud/\ c.waves = c'.waves := by
 obtain ⟨⟨a, b⟩, d, e, f⟩ := c
 obtain ⟨⟨a', b'⟩, d', e', f'⟩ := c'
 simp only [Conf.mk.injEq, Rls.mk.injEq]
 constructor <;> (intro h; simp [h])
theorem wld_eq {w w' : Wld} : w = w' ↔ w.c = w'.c/\ w.h.up = w'.h.up/\ w.h.l = w'.h.l/\ w.h.d = w'.h.d/\ w.m = w'.m/\ w.n = w'.n := by
 obtain ⟨c, ⟨a, b, d⟩, n, m⟩ := w
 obtain ⟨c', ⟨a', b', d'⟩, n', m'⟩ := w'
 simp only [Wld.mk.injEq, Hed.mk.injEq]
 constructor <;> (intro h; simp [h])
section
variable {H : Heap} {w w' : Wld} {p p' : WA}
theorem cWldSame (hw : WldAt H w p) (hw' : WldAt H w' p') : Spec Tryz.prog 32 [wldArg w p, wldArg w' p'] H fun v _ => v = .bool (@decide (w = w') (Classical.propDecidable _)) := by
 refine TryzvcJ Tryz.func32 (by kernel_rfl) (by kernel_rfl) _ rfl (fun base K => vx32 w.c.first.id w.c.bud p.fa p.ra p.wa p.fl p.fc p.rl p.rc p.wl p.wc w.h.l.now w.h.l.goal w.h.l.nx w.h.l.back p.la p.ka p.ll p.lc p.kl p.kc p.sa p.ta p.sl p.sc p.tl p.tc w.h.up p.na p.ma p.nl p.nc p.ml p.mc w'.c.first.id w'.c.bud p'.fa p'.ra p'.wa p'.fl p'.fc p'.rl p'.rc p'.wl p'.wc w'.h.l.now w'.h.l.goal w'.h.l.nx w'.h.l.back p'.la p'.ka p'.ll p'.lc p'.kl p'.kc p'.sa p'.ta p'.sl p'.sc p'.tl p'.tc w'.h.up p'.na p'.ma p'.nl p'.nc p'.ml p'.mc base H K) fun base hb => fun b b' => ?_
 refine (cEqWavesA hw.cfg.waves hw'.cfg.waves).bool1 fun H0 e0 _ => ?_
 have hw := hw.ext e0
 have hw' := hw'.ext e0
 refine ⟨w.c.first.id = w'.c.first.id/\ w.c.first.lock = w'.c.first.lock, ⟨fun h0 => (cEqPins hw.cfg.pins hw'.cfg.pins).bool1 fun H1 e1 _ => ⟨rfl, e1, by simp [h0]⟩, fun h0 => ⟨rfl, subH, by simp [h0]⟩⟩, w = w', ⟨fun hA => ⟨fun hB => (cEqRules hw.cfg.rules hw'.cfg.rules).bool1 fun H1 e1 _ => ⟨fun h1 => ⟨fun hbud => ⟨_, eqBool, fun h2 => (cLdrSame (hw.ext e1).ldr (hw'.ext e1).ldr).bool1 fun H2 e2 _ => ?_, fun h2 => ⟨rfl, e1, ?_⟩⟩, fun hbud => ⟨rfl, e1, ?_⟩⟩, fun h1 => ⟨rfl, e1, ?_⟩⟩, fun hB => ⟨rfl, subH, ?_⟩⟩, fun hA => ⟨rfl, subH, ?_⟩⟩, rfl⟩
 ·have E2 := Ext.trans e1 e2
  have hc : w.c = w'.c := by rw [conf_eq]; simp at hA h1; exact ⟨hB, h1, hbud, hA⟩
  refine ⟨fun h3 => (cDiskSame (hw.ext E2).dsk (hw'.ext E2).dsk).bool1 fun H3 e3 _ => ?_, fun h3 => ⟨rfl, E2, ?_⟩⟩
  ·have E3 := Ext.trans E2 e3
   refine ⟨fun h4 => (cSame (hw.ext E3).mail (hw'.ext E3).mail).bool1 fun H4 e4 _ => ?_, fun h4 => ⟨rfl, E3, ?_⟩⟩
   ·have E4 := Ext.trans E3 e4
    refine ⟨fun h5 => (cEqNodsA (hw.ext E4).nod (hw'.ext E4).nod).bool1 fun H5 e5 _ => ⟨rfl, Ext.trans E4 e5, ?_⟩, fun h5 => ⟨rfl, E4, ?_⟩⟩
    ·rw [wld_eq]; simp at h2 h3 h4 h5; simp [hc, h2, h3, h4, h5]
    ·rw [wld_eq]; simp at h5; simp [h5]
   ·rw [wld_eq]; simp at h4; simp [h4]
  ·rw [wld_eq]; simp at h3; simp [h3]
 ·rw [wld_eq]; simp at h2; simp [h2]
 ·rw [wld_eq, conf_eq]; simp [hbud]
 ·rw [wld_eq, conf_eq]; simp at h1; simp [h1]
 ·rw [wld_eq, conf_eq]; exact fun h => hB h.1.1
 ·rw [wld_eq, conf_eq]; simp at hA; exact fun h => hA h.1.2.2.2
end
open Go Go.Proofs
theorem right_six {H : Heap} {w : Wld} {p : WA} (hw : WldAt H w p) (hR : WRight w) : (p.nl : Int) <= 6/\ w.n.length = p.nl := by
 have h1 := hw.nod.len
 have h2 := hR.len
 have h3 := (waveCheck_zero (cfgErr_zero hR.cfg).2.2.2.2.2.2).2.1
 exact ⟨by omega, h1⟩
theorem cWorldStands {H : Heap} (hL : Lb H) {w : Wld} {p : WA} (hw : WldAt H w p) (k : Int) : Spec Tryz.prog 10 [wldArg w p, .int .i64 k] H fun v _ => v = .bool true := by
 refine TryzvcK Tryz.func10 (by kernel_rfl) (by kernel_rfl) _ rfl (fun base K => vk10 w.c.first.id w.c.bud p.fa p.ra p.wa p.fl p.fc p.rl p.rc p.wl p.wc w.h.l.now w.h.l.goal w.h.l.nx w.h.l.back p.la p.ka p.ll p.lc p.kl p.kc p.sa p.ta p.sl p.sc p.tl p.tc w.h.up p.na p.ma p.nl p.nc p.ml p.mc k base H K) fun base hb => fun b => ?_
 refine ⟨¬wldErr w = 0, (cRolled hL).bool1 fun H1 e1 hN1 => ⟨fun h => (by cases h), fun _ => (cCheck (hL.ext e1) (hw.ext e1)).int1 fun H2 e2 hN2 => ⟨rfl, Ext.trans e1 e2, Iff.rfl⟩⟩, fun hφ => (cRolled hL).bool1 fun H1 e1 hN1 => rfl, fun hφ => ?_⟩
 have h0 := Decidable.not_not.1 hφ
 have hR := wldErr_zero.1 h0
 obtain ⟨h6, hnl⟩ := right_six hw hR
 intro r hr
 obtain rfl : r = (p.nl : Int) + 1 := by rw [hr, wrap_in (by omega) (by omega)]
 refine (cAt k _ (by omega) (by omega)).int1 fun H1 e1 hN1 => ?_
 have hrange := atP_range (n := (p.nl : Int) + 1) k (by omega)
 intro j hj
 have hj : j = atP k ((p.nl : Int) + 1) - 1 := by rw [hj, wrap_in (by omega) (by omega)]
 have hDoE : ∀ {w : Wld} (x : Hap), WRight w->wDo w x = wHap w x := fun x h => by unfold wDo; rw [if_neg (by rw [wldErr_zero.2 h]; simp)]
 refine ⟨fun hj0 => ?_, fun hj0 => ?_⟩
 ·obtain ⟨b3, o, r, x, ha, hx, ⟨q, rfl, hq⟩, hc⟩ := (hw.ext e1).nod.get hj0 (by omega)
  refine ⟨b3, o, ha, hj0, by omega, _, hc 9 _ rfl, fun hu => rfl, fun hu => ?_⟩
  have hu : x.up = true := by simpa using hu
  obtain ⟨y, n', h1, h2, h3, h4⟩ := stands_node hR hx hu
  have hjn : ((j.toNat : Nat) : Int) = j := by omega
  rw [hjn] at h1 h4
  have hD1 : wDo w (hCrash j) = .ok y := (hDoE _ hR).trans h1
  have hD2 : wDo y (hBoot j) = .ok w := (hDoE _ (hR.hap h1).ok).trans h4
  have hne : y ≠ w := fun e => by
   rw [e, hx] at h2
   obtain rfl := Option.some.inj h2
   rw [hu] at h3; cases h3
  ·have hDo := cDo (x := hCrash j) (a := none) (l := 0) (c := 0) (hL.ext e1) (hw.ext e1) Sl.nil
   rw [hD1] at hDo
   refine hDo.wldE fun p1 H2 e2 hN2 hw1 => fun b5 => ⟨False, ⟨fun h => absurd rfl h, fun _ => (cWldSame hw1 ((hw.ext e1).ext e2)).bool1 fun H3 e3 hN3 => ⟨rfl, e3, ?_⟩⟩, fun h => h.elim, fun _ => ?_⟩
   ·exact ⟨fun h => h.elim, fun h => absurd (dec_of h) hne⟩
   have hDo2 := cDo (x := hBoot j) (a := none) (l := 0) (c := 0) ((hL.ext e1).ext e2) hw1 Sl.nil
   rw [show okW (Except.ok (ε := Int) y) = y from rfl, hD2] at hDo2
   refine hDo2.wldE fun p2 H3 e3 hN3 hw2 => fun b6 => ⟨True, ⟨fun _ => (cWldSame hw2 (((hw.ext e1).ext e2).ext e3)).bool1 fun H4 e4 hN4 => ⟨rfl, e4, ⟨fun _ => of_dec rfl, fun _ => trivial⟩⟩, fun h => absurd rfl h⟩, true_bool⟩
 ·refine ⟨fun hu => rfl, fun hu => ?_⟩
  have hu : w.h.up = true := by simpa using hu
  obtain ⟨y, h1, h3, h4⟩ := stands_head hR hu (k := j) (by omega)
  have hD1 : wDo w (hCrash j) = .ok y := (hDoE _ hR).trans h1
  have hD2 : wDo y (hBoot j) = .ok w := (hDoE _ (hR.hap h1).ok).trans h4
  have hne : y ≠ w := fun e => by
   rw [e, hu] at h3; cases h3
  ·have hDo := cDo (x := hCrash j) (a := none) (l := 0) (c := 0) (hL.ext e1) (hw.ext e1) Sl.nil
   rw [hD1] at hDo
   refine hDo.wldE fun p1 H2 e2 hN2 hw1 => fun b5 => ⟨False, ⟨fun h => absurd rfl h, fun _ => (cWldSame hw1 ((hw.ext e1).ext e2)).bool1 fun H3 e3 hN3 => ⟨rfl, e3, ?_⟩⟩, fun h => h.elim, fun _ => ?_⟩
   ·exact ⟨fun h => h.elim, fun h => absurd (dec_of h) hne⟩
   have hDo2 := cDo (x := hBoot j) (a := none) (l := 0) (c := 0) ((hL.ext e1).ext e2) hw1 Sl.nil
   rw [show okW (Except.ok (ε := Int) y) = y from rfl, hD2] at hDo2
   refine hDo2.wldE fun p2 H3 e3 hN3 hw2 => fun b6 => ⟨True, ⟨fun _ => (cWldSame hw2 (((hw.ext e1).ext e2).ext e3)).bool1 fun H4 e4 hN4 => ⟨rfl, e4, ⟨fun _ => of_dec rfl, fun _ => trivial⟩⟩, fun h => absurd rfl h⟩, true_bool⟩
end Go.Vg
