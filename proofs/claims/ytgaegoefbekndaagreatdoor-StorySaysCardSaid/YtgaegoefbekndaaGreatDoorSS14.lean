/- What is proved here: a part of the proof of laws of this seat: what a contract is, how it comes of a condition, contracts of the functions that are reached, the plain laws. -/
import Derived.Test.YtgaegoefbekndaaGreatDoorSS13
import Derived.Test.YtgaegoefbekndaaGreatDoorRows
import Derived.ChangeSame
import Derived.OpenShut
import Derived.ProofKit
import Derived.ChangeArms
import Derived.ChangeOld
import Derived.ChangeSlices
import Derived.ChangeStays
set_option linter.unusedSimpArgs false
set_option linter.unusedVariables false
set_option maxRecDepth 100000
namespace Go.Vg
open Go Go.Proofs
open Go.Value renaming int → I, slice → S, bool → B, agg → A, tuple → T, pointer → P, string → Str
open Go.IntKind renaming i64 → Z, wrap → W
open Go.Addr renaming mk → D
open Go.Vg.Bx renaming mk → J
open Go.Vg renaming Next → X, Spec → Y, SpecO → YO
open Go.Vg.Heap renaming cell → C
open Int renaming toNat → N
theorem vx91(b:Nat)(id bud:Int)(fa ra wa:O)(fl fc rl rc wl wc:Nat)(now goal nx:Int)(back:Bool)(la ka:O)(ll lc kl kc:Nat)(sa ta:O)(sl sc tl tc:Nat)(up:Bool)(na ma:O)(nl nc ml mc:Nat)(hk hg hn:Int)(hgd:Bool)(ha:O)(hl hc:Nat)(base:Nat)(H0:Heap)(H:Heap)(f:SV->List Bx->Heap->Prop):
 (codeI ⟨Tryz.prog,Tryz.f91.ntmps,⟨TryzListT,TryzSumT,true⟩,base,H0⟩ Tryz.f91 [.loc 0 0,.v (A #[I Z hk,I Z hg,I Z hn,B hgd,S ha hl hc])] [⟨b,false,41,[I Z id,S fa fl fc,S ra rl rc,S wa wl wc,I Z bud,S la ll lc,I Z now,I Z goal,B back,S ka kl kc,I Z nx,S sa sl sc,S ta tl tc,B up,S na nl nc,S ma ml mc]⟩] H f)=(
 (fun w46:LV=>(fun w45:LV=>(fun w44:AV=>(fun w43:AV=>(fun w42:AV=>(fun w41:AV=>(fun w40:LV=>∀a:Nat,(fun w39:LB=>∃c:Prop,((hk=9->w39=w39/\SubH H H/\(c↔hk=9))/\(¬hk=9->w39=w39/\SubH H H/\(c↔hk=10)))/\(c->∃(d:Wld)(e:WA)(g:Heap)(h:List (List Value))(i:Hap)(j:O)(k l:Nat),(41=41/\w40=wldCells d e/\A #[I Z hk,I Z hg,I Z hn,B hgd,S ha hl hc]=A #[I Z (Hap.kind i),I Z (Hap.agent i),I Z (Hap.num i),B (Hap.good i),S j k l]/\true=true)/\HapPre base g H d e h i j k/\d=d/\∀(m:Int)(n:Wld)(o:WA)(p:Heap)(q:List (List Value))(r:Heap),RunPost (wHear d i) base g H d e m n o p q r->f (SV.v (I Z m)) [J b false 41 (wldCells n o),J a false 62 [I Z hk,I Z hg,I Z hn,B hgd,S ha hl hc]] r)/\(¬c->(hk=11->(Y Tryz.prog 175 [S ma ml mc,I Z hn,B false] H fun d e=>∃g h i j k l m n o p q r,d=T #[S g h i,A #[I Z j,I Z k,B l,B m,I Z n,S o p q],I Z r]/\(X base H e->∀s:Nat,(r=0->f (SV.v (I Z r)) [J b false 41 [I Z id,S fa fl fc,S ra rl rc,S wa wl wc,I Z bud,S la ll lc,I Z now,I Z goal,B back,S ka kl kc,I Z nx,S sa sl sc,S ta tl tc,B
 up,S na nl nc,S g h i],J a false 62 [I Z hk,I Z hg,I Z hn,B hgd,S ha hl hc],J s false 74 [I Z j,I Z k,B l,B m,I Z n,S o p q]] e)/\(¬r=0->f (SV.v (I Z r)) [J b false 41 w40,J a false 62 [I Z hk,I Z hg,I Z hn,B hgd,S ha hl hc],J s false 74 [I Z j,I Z k,B l,B m,I Z n,S o p q]] e)))/\∀d:Nat,Y Tryz.prog 175 [S ma ml mc,I Z hn,B false] H fun e g=>∃h i j k l m n o p q r s,e=T #[S h i j,A #[I Z k,I Z l,B m,B n,I Z o,S p q r],I Z s]/\(X base H g->(s=0->f (SV.v (I Z s)) [J b false 41 [I Z id,S fa fl fc,S ra rl rc,S wa wl wc,I Z bud,S la ll lc,I Z now,I Z goal,B back,S ka kl kc,I Z nx,S sa sl sc,S ta tl tc,B up,S na nl nc,S h i j],J a false 62 [I Z hk,I Z hg,I Z hn,B hgd,S ha hl hc],J d false 74 [I Z k,I Z l,B m,B n,I Z o,S p q r]] g)/\(¬s=0->f (SV.v (I Z s)) [J b false 41 w40,J a false 62 [I Z hk,I Z hg,I Z hn,B hgd,S ha hl hc],J d false 74 [I Z k,I Z l,B m,B n,I Z o,S p q r]] g)))/\(¬hk=11->∃d:Prop,((hk=1->w39=w39/\SubH H H/\(d↔hk=1))/\(¬hk=1->(hk=2->w39=w39/\SubH H H/\(d↔hk=2))/\(¬hk=2->(hk=5->w39=w39/\SubH H H/\(d↔hk=5))/\(¬hk=5->w39=w39/\SubH H H/\(d↔hk=6)))))/\(d->(up=false->f (SV.v (I Z 7)) w39 H)/\(¬up=false->∀e:Int,(fun w26:AV=>e=W Z ((ll:Int)+1)->∀g:Nat,(∃h:List Value,mapSet (I Z 1) (A w26) []=some h/\(∃i:List Value,mapSet (I Z 2) (A w42) h=some i/\(∃j:List Value,mapSet (I Z 5) (A w43) i=some j/\∃k:List Value,mapSet (I Z 6) (A w44) j=some k/\∃(l m n o:Int)(p:Bool)(q:Int)(r:O)(s t:Nat)(u:Bool),mapGet (A w41) (I Z hk) k=some (A #[I Z l,I Z m,I Z n,I Z o,B p,I Z q,S r s t],u)/\YO Tryz.prog 176 [P (some (D b 0 none)),A #[I Z l,I Z m,I Z n,I Z o,B p,I Z q,S r s t]] [J b false 41 w40] H fun v w x=>∃y,v=I Z y/\∃(z:Int)(a1:O)(b1 c1:Nat)(d1:O)(e1 f1:Nat)(g1:O)(h1 i1:Nat)(j1:Int)(k1:O)(l1 m1:Nat)(n1 o1:Int)(p1:Bool)(q1:O)(r1 s1:Nat)(t1:Int)(u1:O)(v1 w1:Nat)(x1:O)(y1 z1:Nat)(a2:Bool)(b2:O)(c2 d2:Nat)(e2:O)(f2 g2:Nat),(fun w2:LV=>w=[w2]/\(X base H x->f (SV.v (I Z y)) [J b false 41 w2,J a false 62 [I Z hk,I Z hg,I Z hn,B
 hgd,S ha hl hc],J g true 217 k] x)) [I Z z,S a1 b1 c1,S d1 e1 f1,S g1 h1 i1,I Z j1,S k1 l1 m1,I Z n1,I Z o1,B p1,S q1 r1 s1,I Z t1,S u1 v1 w1,S x1 y1 z1,B a2,S b2 c2 d2,S e2 f2 g2])/\∃j:List Value,mapSet (I Z 6) (A w44) i=some j/\∃k:List Value,mapSet (I Z 5) (A w43) j=some k/\∃(l m n o:Int)(p:Bool)(q:Int)(r:O)(s t:Nat)(u:Bool),mapGet (A w41) (I Z hk) k=some (A #[I Z l,I Z m,I Z n,I Z o,B p,I Z q,S r s t],u)/\YO Tryz.prog 176 [P (some (D b 0 none)),A #[I Z l,I Z m,I Z n,I Z o,B p,I Z q,S r s t]] [J b false 41 w40] H fun v w x=>∃y,v=I Z y/\∃(z:Int)(a1:O)(b1 c1:Nat)(d1:O)(e1 f1:Nat)(g1:O)(h1 i1:Nat)(j1:Int)(k1:O)(l1 m1:Nat)(n1 o1:Int)(p1:Bool)(q1:O)(r1 s1:Nat)(t1:Int)(u1:O)(v1 w1:Nat)(x1:O)(y1 z1:Nat)(a2:Bool)(b2:O)(c2 d2:Nat)(e2:O)(f2 g2:Nat),(fun w3:LV=>w=[w3]/\(X base H x->f (SV.v (I Z y)) [J b false 41 w3,J a false 62 [I Z hk,I Z hg,I Z hn,B hgd,S ha hl hc],J g true 217 k] x)) [I Z z,S a1 b1 c1,S d1 e1 f1,S g1 h1 i1,I Z j1,S k1 l1 m1,I Z n1,I Z o1,B p1,S q1 r1 s1,I Z t1,S u1 v1 w1,S x1 y1 z1,B a2,S b2 c2 d2,S e2 f2 g2])/\(∃i:List Value,mapSet (I Z 5) (A w43) h=some i/\(∃j:List Value,mapSet (I Z 2) (A w42) i=some j/\∃k:List Value,mapSet (I Z 6) (A w44) j=some k/\∃(l m n o:Int)(p:Bool)(q:Int)(r:O)(s t:Nat)(u:Bool),mapGet (A w41) (I Z hk) k=some (A #[I Z l,I Z m,I Z n,I Z o,B p,I Z q,S r s t],u)/\YO Tryz.prog 176 [P (some (D b 0 none)),A #[I Z l,I Z m,I Z n,I Z o,B p,I Z q,S r s t]] [J b false 41 w40] H fun v w x=>∃y,v=I Z y/\∃(z:Int)(a1:O)(b1 c1:Nat)(d1:O)(e1 f1:Nat)(g1:O)(h1 i1:Nat)(j1:Int)(k1:O)(l1 m1:Nat)(n1 o1:Int)(p1:Bool)(q1:O)(r1 s1:Nat)(t1:Int)(u1:O)(v1 w1:Nat)(x1:O)(y1 z1:Nat)(a2:Bool)(b2:O)(c2 d2:Nat)(e2:O)(f2 g2:Nat),(fun w4:LV=>w=[w4]/\(X base H x->f (SV.v (I Z y)) [J b false 41 w4,J a false 62 [I Z hk,I Z hg,I Z hn,B hgd,S ha hl hc],J g true 217 k] x)) [I Z z,S a1 b1 c1,S d1 e1 f1,S g1 h1 i1,I Z j1,S k1 l1 m1,I Z n1,I Z o1,B p1,S q1 r1 s1,I Z t1,S u1 v1 w1,S x1 y1 z1,B a2,S b2 c2
 d2,S e2 f2 g2])/\∃j:List Value,mapSet (I Z 6) (A w44) i=some j/\∃k:List Value,mapSet (I Z 2) (A w42) j=some k/\∃(l m n o:Int)(p:Bool)(q:Int)(r:O)(s t:Nat)(u:Bool),mapGet (A w41) (I Z hk) k=some (A #[I Z l,I Z m,I Z n,I Z o,B p,I Z q,S r s t],u)/\YO Tryz.prog 176 [P (some (D b 0 none)),A #[I Z l,I Z m,I Z n,I Z o,B p,I Z q,S r s t]] [J b false 41 w40] H fun v w x=>∃y,v=I Z y/\∃(z:Int)(a1:O)(b1 c1:Nat)(d1:O)(e1 f1:Nat)(g1:O)(h1 i1:Nat)(j1:Int)(k1:O)(l1 m1:Nat)(n1 o1:Int)(p1:Bool)(q1:O)(r1 s1:Nat)(t1:Int)(u1:O)(v1 w1:Nat)(x1:O)(y1 z1:Nat)(a2:Bool)(b2:O)(c2 d2:Nat)(e2:O)(f2 g2:Nat),(fun w5:LV=>w=[w5]/\(X base H x->f (SV.v (I Z y)) [J b false 41 w5,J a false 62 [I Z hk,I Z hg,I Z hn,B hgd,S ha hl hc],J g true 217 k] x)) [I Z z,S a1 b1 c1,S d1 e1 f1,S g1 h1 i1,I Z j1,S k1 l1 m1,I Z n1,I Z o1,B p1,S q1 r1 s1,I Z t1,S u1 v1 w1,S x1 y1 z1,B a2,S b2 c2 d2,S e2 f2 g2])/\∃i:List Value,mapSet (I Z 6) (A w44) h=some i/\(∃j:List Value,mapSet (I Z 2) (A w42) i=some j/\∃k:List Value,mapSet (I Z 5) (A w43) j=some k/\∃(l m n o:Int)(p:Bool)(q:Int)(r:O)(s t:Nat)(u:Bool),mapGet (A w41) (I Z hk) k=some (A #[I Z l,I Z m,I Z n,I Z o,B p,I Z q,S r s t],u)/\YO Tryz.prog 176 [P (some (D b 0 none)),A #[I Z l,I Z m,I Z n,I Z o,B p,I Z q,S r s t]] [J b false 41 w40] H fun v w x=>∃y,v=I Z y/\∃(z:Int)(a1:O)(b1 c1:Nat)(d1:O)(e1 f1:Nat)(g1:O)(h1 i1:Nat)(j1:Int)(k1:O)(l1 m1:Nat)(n1 o1:Int)(p1:Bool)(q1:O)(r1 s1:Nat)(t1:Int)(u1:O)(v1 w1:Nat)(x1:O)(y1 z1:Nat)(a2:Bool)(b2:O)(c2 d2:Nat)(e2:O)(f2 g2:Nat),(fun w6:LV=>w=[w6]/\(X base H x->f (SV.v (I Z y)) [J b false 41 w6,J a false 62 [I Z hk,I Z hg,I Z hn,B hgd,S ha hl hc],J g true 217 k] x)) [I Z z,S a1 b1 c1,S d1 e1 f1,S g1 h1 i1,I Z j1,S k1 l1 m1,I Z n1,I Z o1,B p1,S q1 r1 s1,I Z t1,S u1 v1 w1,S x1 y1 z1,B a2,S b2 c2 d2,S e2 f2 g2])/\∃j:List Value,mapSet (I Z 5) (A w43) i=some j/\∃k:List Value,mapSet (I Z 2) (A w42) j=some k/\∃(l m n o:Int)(p:Bool)(q:Int)(r:O)(s t:Nat)
 (u:Bool),mapGet (A w41) (I Z hk) k=some (A #[I Z l,I Z m,I Z n,I Z o,B p,I Z q,S r s t],u)/\YO Tryz.prog 176 [P (some (D b 0 none)),A #[I Z l,I Z m,I Z n,I Z o,B p,I Z q,S r s t]] [J b false 41 w40] H fun v w x=>∃y,v=I Z y/\∃(z:Int)(a1:O)(b1 c1:Nat)(d1:O)(e1 f1:Nat)(g1:O)(h1 i1:Nat)(j1:Int)(k1:O)(l1 m1:Nat)(n1 o1:Int)(p1:Bool)(q1:O)(r1 s1:Nat)(t1:Int)(u1:O)(v1 w1:Nat)(x1:O)(y1 z1:Nat)(a2:Bool)(b2:O)(c2 d2:Nat)(e2:O)(f2 g2:Nat),(fun w7:LV=>w=[w7]/\(X base H x->f (SV.v (I Z y)) [J b false 41 w7,J a false 62 [I Z hk,I Z hg,I Z hn,B hgd,S ha hl hc],J g true 217 k] x)) [I Z z,S a1 b1 c1,S d1 e1 f1,S g1 h1 i1,I Z j1,S k1 l1 m1,I Z n1,I Z o1,B p1,S q1 r1 s1,I Z t1,S u1 v1 w1,S x1 y1 z1,B a2,S b2 c2 d2,S e2 f2 g2])/\(∃h:List Value,mapSet (I Z 2) (A w42) []=some h/\(∃i:List Value,mapSet (I Z 1) (A w26) h=some i/\(∃j:List Value,mapSet (I Z 5) (A w43) i=some j/\∃k:List Value,mapSet (I Z 6) (A w44) j=some k/\∃(l m n o:Int)(p:Bool)(q:Int)(r:O)(s t:Nat)(u:Bool),mapGet (A w41) (I Z hk) k=some (A #[I Z l,I Z m,I Z n,I Z o,B p,I Z q,S r s t],u)/\YO Tryz.prog 176 [P (some (D b 0 none)),A #[I Z l,I Z m,I Z n,I Z o,B p,I Z q,S r s t]] [J b false 41 w40] H fun v w x=>∃y,v=I Z y/\∃(z:Int)(a1:O)(b1 c1:Nat)(d1:O)(e1 f1:Nat)(g1:O)(h1 i1:Nat)(j1:Int)(k1:O)(l1 m1:Nat)(n1 o1:Int)(p1:Bool)(q1:O)(r1 s1:Nat)(t1:Int)(u1:O)(v1 w1:Nat)(x1:O)(y1 z1:Nat)(a2:Bool)(b2:O)(c2 d2:Nat)(e2:O)(f2 g2:Nat),(fun w8:LV=>w=[w8]/\(X base H x->f (SV.v (I Z y)) [J b false 41 w8,J a false 62 [I Z hk,I Z hg,I Z hn,B hgd,S ha hl hc],J g true 217 k] x)) [I Z z,S a1 b1 c1,S d1 e1 f1,S g1 h1 i1,I Z j1,S k1 l1 m1,I Z n1,I Z o1,B p1,S q1 r1 s1,I Z t1,S u1 v1 w1,S x1 y1 z1,B a2,S b2 c2 d2,S e2 f2 g2])/\∃j:List Value,mapSet (I Z 6) (A w44) i=some j/\∃k:List Value,mapSet (I Z 5) (A w43) j=some k/\∃(l m n o:Int)(p:Bool)(q:Int)(r:O)(s t:Nat)(u:Bool),mapGet (A w41) (I Z hk) k=some (A #[I Z l,I Z m,I Z n,I Z o,B p,I Z q,S r s t],u)/\YO Tryz.prog 176 [P
 (some (D b 0 none)),A #[I Z l,I Z m,I Z n,I Z o,B p,I Z q,S r s t]] [J b false 41 w40] H fun v w x=>∃y,v=I Z y/\∃(z:Int)(a1:O)(b1 c1:Nat)(d1:O)(e1 f1:Nat)(g1:O)(h1 i1:Nat)(j1:Int)(k1:O)(l1 m1:Nat)(n1 o1:Int)(p1:Bool)(q1:O)(r1 s1:Nat)(t1:Int)(u1:O)(v1 w1:Nat)(x1:O)(y1 z1:Nat)(a2:Bool)(b2:O)(c2 d2:Nat)(e2:O)(f2 g2:Nat),(fun w9:LV=>w=[w9]/\(X base H x->f (SV.v (I Z y)) [J b false 41 w9,J a false 62 [I Z hk,I Z hg,I Z hn,B hgd,S ha hl hc],J g true 217 k] x)) [I Z z,S a1 b1 c1,S d1 e1 f1,S g1 h1 i1,I Z j1,S k1 l1 m1,I Z n1,I Z o1,B p1,S q1 r1 s1,I Z t1,S u1 v1 w1,S x1 y1 z1,B a2,S b2 c2 d2,S e2 f2 g2])/\(∃i:List Value,mapSet (I Z 5) (A w43) h=some i/\(∃j:List Value,mapSet (I Z 1) (A w26) i=some j/\∃k:List Value,mapSet (I Z 6) (A w44) j=some k/\∃(l m n o:Int)(p:Bool)(q:Int)(r:O)(s t:Nat)(u:Bool),mapGet (A w41) (I Z hk) k=some (A #[I Z l,I Z m,I Z n,I Z o,B p,I Z q,S r s t],u)/\YO Tryz.prog 176 [P (some (D b 0 none)),A #[I Z l,I Z m,I Z n,I Z o,B p,I Z q,S r s t]] [J b false 41 w40] H fun v w x=>∃y,v=I Z y/\∃(z:Int)(a1:O)(b1 c1:Nat)(d1:O)(e1 f1:Nat)(g1:O)(h1 i1:Nat)(j1:Int)(k1:O)(l1 m1:Nat)(n1 o1:Int)(p1:Bool)(q1:O)(r1 s1:Nat)(t1:Int)(u1:O)(v1 w1:Nat)(x1:O)(y1 z1:Nat)(a2:Bool)(b2:O)(c2 d2:Nat)(e2:O)(f2 g2:Nat),(fun w10:LV=>w=[w10]/\(X base H x->f (SV.v (I Z y)) [J b false 41 w10,J a false 62 [I Z hk,I Z hg,I Z hn,B hgd,S ha hl hc],J g true 217 k] x)) [I Z z,S a1 b1 c1,S d1 e1 f1,S g1 h1 i1,I Z j1,S k1 l1 m1,I Z n1,I Z o1,B p1,S q1 r1 s1,I Z t1,S u1 v1 w1,S x1 y1 z1,B a2,S b2 c2 d2,S e2 f2 g2])/\∃j:List Value,mapSet (I Z 6) (A w44) i=some j/\∃k:List Value,mapSet (I Z 1) (A w26) j=some k/\∃(l m n o:Int)(p:Bool)(q:Int)(r:O)(s t:Nat)(u:Bool),mapGet (A w41) (I Z hk) k=some (A #[I Z l,I Z m,I Z n,I Z o,B p,I Z q,S r s t],u)/\YO Tryz.prog 176 [P (some (D b 0 none)),A #[I Z l,I Z m,I Z n,I Z o,B p,I Z q,S r s t]] [J b false 41 w40] H fun v w x=>∃y,v=I Z y/\∃(z:Int)(a1:O)(b1 c1:Nat)(d1:O)(e1 f1:Nat)
 (g1:O) (h1 i1:Nat) (j1:Int) (k1:O) (l1 m1:Nat) (n1 o1:Int) (p1:Bool) (q1:O) (r1 s1:Nat) (t1:Int) (u1:O) (v1 w1:Nat) (x1:O) (y1 z1:Nat) (a2:Bool) (b2:O) (c2 d2:Nat) (e2:O) (f2 g2:Nat),(fun w11:LV=>w=[w11]/\(X base H x->f (SV.v (I Z y)) [J b false 41 w11,J a false 62 [I Z hk,I Z hg,I Z hn,B hgd,S ha hl hc],J g true 217 k] x)) [I Z z,S a1 b1 c1,S d1 e1 f1,S g1 h1 i1,I Z j1,S k1 l1 m1,I Z n1,I Z o1,B p1,S q1 r1 s1,I Z t1,S u1 v1 w1,S x1 y1 z1,B a2,S b2 c2 d2,S e2 f2 g2])/\∃i:List Value,mapSet (I Z 6) (A w44) h=some i/\(∃j:List Value,mapSet (I Z 1) (A w26) i=some j/\∃k:List Value,mapSet (I Z 5) (A w43) j=some k/\∃(l m n o:Int)(p:Bool)(q:Int)(r:O)(s t:Nat)(u:Bool),mapGet (A w41) (I Z hk) k=some (A #[I Z l,I Z m,I Z n,I Z o,B p,I Z q,S r s t],u)/\YO Tryz.prog 176 [P (some (D b 0 none)),A #[I Z l,I Z m,I Z n,I Z o,B p,I Z q,S r s t]] [J b false 41 w40] H fun v w x=>∃y,v=I Z y/\∃(z:Int)(a1:O)(b1 c1:Nat)(d1:O)(e1 f1:Nat)(g1:O)(h1 i1:Nat)(j1:Int)(k1:O)(l1 m1:Nat)(n1 o1:Int)(p1:Bool)(q1:O)(r1 s1:Nat)(t1:Int)(u1:O)(v1 w1:Nat)(x1:O)(y1 z1:Nat)(a2:Bool)(b2:O)(c2 d2:Nat)(e2:O)(f2 g2:Nat),(fun w12:LV=>w=[w12]/\(X base H x->f (SV.v (I Z y)) [J b false 41 w12,J a false 62 [I Z hk,I Z hg,I Z hn,B hgd,S ha hl hc],J g true 217 k] x)) [I Z z,S a1 b1 c1,S d1 e1 f1,S g1 h1 i1,I Z j1,S k1 l1 m1,I Z n1,I Z o1,B p1,S q1 r1 s1,I Z t1,S u1 v1 w1,S x1 y1 z1,B a2,S b2 c2 d2,S e2 f2 g2])/\∃j:List Value,mapSet (I Z 5) (A w43) i=some j/\∃k:List Value,mapSet (I Z 1) (A w26) j=some k/\∃(l m n o:Int)(p:Bool)(q:Int)(r:O)(s t:Nat)(u:Bool),mapGet (A w41) (I Z hk) k=some (A #[I Z l,I Z m,I Z n,I Z o,B p,I Z q,S r s t],u)/\YO Tryz.prog 176 [P (some (D b 0 none)),A #[I Z l,I Z m,I Z n,I Z o,B p,I Z q,S r s t]] [J b false 41 w40] H fun v w x=>∃y,v=I Z y/\∃(z:Int)(a1:O)(b1 c1:Nat)(d1:O)(e1 f1:Nat)(g1:O)(h1 i1:Nat)(j1:Int)(k1:O)(l1 m1:Nat)(n1 o1:Int)(p1:Bool)(q1:O)(r1 s1:Nat)(t1:Int)(u1:O)(v1 w1:Nat)(x1:O)(y1 z1:Nat)(a2:Bool)(b2:O)(c2
 d2:Nat) (e2:O) (f2 g2:Nat),(fun w13:LV=>w=[w13]/\(X base H x->f (SV.v (I Z y)) [J b false 41 w13,J a false 62 [I Z hk,I Z hg,I Z hn,B hgd,S ha hl hc],J g true 217 k] x)) [I Z z,S a1 b1 c1,S d1 e1 f1,S g1 h1 i1,I Z j1,S k1 l1 m1,I Z n1,I Z o1,B p1,S q1 r1 s1,I Z t1,S u1 v1 w1,S x1 y1 z1,B a2,S b2 c2 d2,S e2 f2 g2])/\(∃h:List Value,mapSet (I Z 5) (A w43) []=some h/\(∃i:List Value,mapSet (I Z 1) (A w26) h=some i/\(∃j:List Value,mapSet (I Z 2) (A w42) i=some j/\∃k:List Value,mapSet (I Z 6) (A w44) j=some k/\∃(l m n o:Int)(p:Bool)(q:Int)(r:O)(s t:Nat)(u:Bool),mapGet (A w41) (I Z hk) k=some (A #[I Z l,I Z m,I Z n,I Z o,B p,I Z q,S r s t],u)/\YO Tryz.prog 176 [P (some (D b 0 none)),A #[I Z l,I Z m,I Z n,I Z o,B p,I Z q,S r s t]] [J b false 41 w40] H fun v w x=>∃y,v=I Z y/\∃(z:Int)(a1:O)(b1 c1:Nat)(d1:O)(e1 f1:Nat)(g1:O)(h1 i1:Nat)(j1:Int)(k1:O)(l1 m1:Nat)(n1 o1:Int)(p1:Bool)(q1:O)(r1 s1:Nat)(t1:Int)(u1:O)(v1 w1:Nat)(x1:O)(y1 z1:Nat)(a2:Bool)(b2:O)(c2 d2:Nat)(e2:O)(f2 g2:Nat),(fun w14:LV=>w=[w14]/\(X base H x->f (SV.v (I Z y)) [J b false 41 w14,J a false 62 [I Z hk,I Z hg,I Z hn,B hgd,S ha hl hc],J g true 217 k] x)) [I Z z,S a1 b1 c1,S d1 e1 f1,S g1 h1 i1,I Z j1,S k1 l1 m1,I Z n1,I Z o1,B p1,S q1 r1 s1,I Z t1,S u1 v1 w1,S x1 y1 z1,B a2,S b2 c2 d2,S e2 f2 g2])/\∃j:List Value,mapSet (I Z 6) (A w44) i=some j/\∃k:List Value,mapSet (I Z 2) (A w42) j=some k/\∃(l m n o:Int)(p:Bool)(q:Int)(r:O)(s t:Nat)(u:Bool),mapGet (A w41) (I Z hk) k=some (A #[I Z l,I Z m,I Z n,I Z o,B p,I Z q,S r s t],u)/\YO Tryz.prog 176 [P (some (D b 0 none)),A #[I Z l,I Z m,I Z n,I Z o,B p,I Z q,S r s t]] [J b false 41 w40] H fun v w x=>∃y,v=I Z y/\∃(z:Int)(a1:O)(b1 c1:Nat)(d1:O)(e1 f1:Nat)(g1:O)(h1 i1:Nat)(j1:Int)(k1:O)(l1 m1:Nat)(n1 o1:Int)(p1:Bool)(q1:O)(r1 s1:Nat)(t1:Int)(u1:O)(v1 w1:Nat)(x1:O)(y1 z1:Nat)(a2:Bool)(b2:O)(c2 d2:Nat)(e2:O)(f2 g2:Nat),(fun w15:LV=>w=[w15]/\(X base H x->f (SV.v (I Z y)) [J b false 41 w15,J a false 62
 [I Z hk,I Z hg,I Z hn,B hgd,S ha hl hc],J g true 217 k] x)) [I Z z,S a1 b1 c1,S d1 e1 f1,S g1 h1 i1,I Z j1,S k1 l1 m1,I Z n1,I Z o1,B p1,S q1 r1 s1,I Z t1,S u1 v1 w1,S x1 y1 z1,B a2,S b2 c2 d2,S e2 f2 g2])/\(∃i:List Value,mapSet (I Z 2) (A w42) h=some i/\(∃j:List Value,mapSet (I Z 1) (A w26) i=some j/\∃k:List Value,mapSet (I Z 6) (A w44) j=some k/\∃(l m n o:Int)(p:Bool)(q:Int)(r:O)(s t:Nat)(u:Bool),mapGet (A w41) (I Z hk) k=some (A #[I Z l,I Z m,I Z n,I Z o,B p,I Z q,S r s t],u)/\YO Tryz.prog 176 [P (some (D b 0 none)),A #[I Z l,I Z m,I Z n,I Z o,B p,I Z q,S r s t]] [J b false 41 w40] H fun v w x=>∃y,v=I Z y/\∃(z:Int)(a1:O)(b1 c1:Nat)(d1:O)(e1 f1:Nat)(g1:O)(h1 i1:Nat)(j1:Int)(k1:O)(l1 m1:Nat)(n1 o1:Int)(p1:Bool)(q1:O)(r1 s1:Nat)(t1:Int)(u1:O)(v1 w1:Nat)(x1:O)(y1 z1:Nat)(a2:Bool)(b2:O)(c2 d2:Nat)(e2:O)(f2 g2:Nat),(fun w16:LV=>w=[w16]/\(X base H x->f (SV.v (I Z y)) [J b false 41 w16,J a false 62 [I Z hk,I Z hg,I Z hn,B hgd,S ha hl hc],J g true 217 k] x)) [I Z z,S a1 b1 c1,S d1 e1 f1,S g1 h1 i1,I Z j1,S k1 l1 m1,I Z n1,I Z o1,B p1,S q1 r1 s1,I Z t1,S u1 v1 w1,S x1 y1 z1,B a2,S b2 c2 d2,S e2 f2 g2])/\∃j:List Value,mapSet (I Z 6) (A w44) i=some j/\∃k:List Value,mapSet (I Z 1) (A w26) j=some k/\∃(l m n o:Int)(p:Bool)(q:Int)(r:O)(s t:Nat)(u:Bool),mapGet (A w41) (I Z hk) k=some (A #[I Z l,I Z m,I Z n,I Z o,B p,I Z q,S r s t],u)/\YO Tryz.prog 176 [P (some (D b 0 none)),A #[I Z l,I Z m,I Z n,I Z o,B p,I Z q,S r s t]] [J b false 41 w40] H fun v w x=>∃y,v=I Z y/\∃(z:Int)(a1:O)(b1 c1:Nat)(d1:O)(e1 f1:Nat)(g1:O)(h1 i1:Nat)(j1:Int)(k1:O)(l1 m1:Nat)(n1 o1:Int)(p1:Bool)(q1:O)(r1 s1:Nat)(t1:Int)(u1:O)(v1 w1:Nat)(x1:O)(y1 z1:Nat)(a2:Bool)(b2:O)(c2 d2:Nat)(e2:O)(f2 g2:Nat),(fun w17:LV=>w=[w17]/\(X base H x->f (SV.v (I Z y)) [J b false 41 w17,J a false 62 [I Z hk,I Z hg,I Z hn,B hgd,S ha hl hc],J g true 217 k] x)) [I Z z,S a1 b1 c1,S d1 e1 f1,S g1 h1 i1,I Z j1,S k1 l1 m1,I Z n1,I Z o1,B p1,S q1 r1 s1,I Z t1,S u1
 v1 w1,S x1 y1 z1,B a2,S b2 c2 d2,S e2 f2 g2])/\∃i:List Value,mapSet (I Z 6) (A w44) h=some i/\(∃j:List Value,mapSet (I Z 1) (A w26) i=some j/\∃k:List Value,mapSet (I Z 2) (A w42) j=some k/\∃(l m n o:Int)(p:Bool)(q:Int)(r:O)(s t:Nat)(u:Bool),mapGet (A w41) (I Z hk) k=some (A #[I Z l,I Z m,I Z n,I Z o,B p,I Z q,S r s t],u)/\YO Tryz.prog 176 [P (some (D b 0 none)),A #[I Z l,I Z m,I Z n,I Z o,B p,I Z q,S r s t]] [J b false 41 w40] H fun v w x=>∃y,v=I Z y/\∃(z:Int)(a1:O)(b1 c1:Nat)(d1:O)(e1 f1:Nat)(g1:O)(h1 i1:Nat)(j1:Int)(k1:O)(l1 m1:Nat)(n1 o1:Int)(p1:Bool)(q1:O)(r1 s1:Nat)(t1:Int)(u1:O)(v1 w1:Nat)(x1:O)(y1 z1:Nat)(a2:Bool)(b2:O)(c2 d2:Nat)(e2:O)(f2 g2:Nat),(fun w18:LV=>w=[w18]/\(X base H x->f (SV.v (I Z y)) [J b false 41 w18,J a false 62 [I Z hk,I Z hg,I Z hn,B hgd,S ha hl hc],J g true 217 k] x)) [I Z z,S a1 b1 c1,S d1 e1 f1,S g1 h1 i1,I Z j1,S k1 l1 m1,I Z n1,I Z o1,B p1,S q1 r1 s1,I Z t1,S u1 v1 w1,S x1 y1 z1,B a2,S b2 c2 d2,S e2 f2 g2])/\∃j:List Value,mapSet (I Z 2) (A w42) i=some j/\∃k:List Value,mapSet (I Z 1) (A w26) j=some k/\∃(l m n o:Int)(p:Bool)(q:Int)(r:O)(s t:Nat)(u:Bool),mapGet (A w41) (I Z hk) k=some (A #[I Z l,I Z m,I Z n,I Z o,B p,I Z q,S r s t],u)/\YO Tryz.prog 176 [P (some (D b 0 none)),A #[I Z l,I Z m,I Z n,I Z o,B p,I Z q,S r s t]] [J b false 41 w40] H fun v w x=>∃y,v=I Z y/\∃(z:Int)(a1:O)(b1 c1:Nat)(d1:O)(e1 f1:Nat)(g1:O)(h1 i1:Nat)(j1:Int)(k1:O)(l1 m1:Nat)(n1 o1:Int)(p1:Bool)(q1:O)(r1 s1:Nat)(t1:Int)(u1:O)(v1 w1:Nat)(x1:O)(y1 z1:Nat)(a2:Bool)(b2:O)(c2 d2:Nat)(e2:O)(f2 g2:Nat),(fun w19:LV=>w=[w19]/\(X base H x->f (SV.v (I Z y)) [J b false 41 w19,J a false 62 [I Z hk,I Z hg,I Z hn,B hgd,S ha hl hc],J g true 217 k] x)) [I Z z,S a1 b1 c1,S d1 e1 f1,S g1 h1 i1,I Z j1,S k1 l1 m1,I Z n1,I Z o1,B p1,S q1 r1 s1,I Z t1,S u1 v1 w1,S x1 y1 z1,B a2,S b2 c2 d2,S e2 f2 g2])/\∃h:List Value,mapSet (I Z 6) (A w44) []=some h/\(∃i:List Value,mapSet (I Z 1) (A w26) h=some i/\(∃j:List
 Value,mapSet (I Z 2) (A w42) i=some j/\∃k:List Value,mapSet (I Z 5) (A w43) j=some k/\∃(l m n o:Int)(p:Bool)(q:Int)(r:O)(s t:Nat)(u:Bool),mapGet (A w41) (I Z hk) k=some (A #[I Z l,I Z m,I Z n,I Z o,B p,I Z q,S r s t],u)/\YO Tryz.prog 176 [P (some (D b 0 none)),A #[I Z l,I Z m,I Z n,I Z o,B p,I Z q,S r s t]] [J b false 41 w40] H fun v w x=>∃y,v=I Z y/\∃(z:Int)(a1:O)(b1 c1:Nat)(d1:O)(e1 f1:Nat)(g1:O)(h1 i1:Nat)(j1:Int)(k1:O)(l1 m1:Nat)(n1 o1:Int)(p1:Bool)(q1:O)(r1 s1:Nat)(t1:Int)(u1:O)(v1 w1:Nat)(x1:O)(y1 z1:Nat)(a2:Bool)(b2:O)(c2 d2:Nat)(e2:O)(f2 g2:Nat),(fun w20:LV=>w=[w20]/\(X base H x->f (SV.v (I Z y)) [J b false 41 w20,J a false 62 [I Z hk,I Z hg,I Z hn,B hgd,S ha hl hc],J g true 217 k] x)) [I Z z,S a1 b1 c1,S d1 e1 f1,S g1 h1 i1,I Z j1,S k1 l1 m1,I Z n1,I Z o1,B p1,S q1 r1 s1,I Z t1,S u1 v1 w1,S x1 y1 z1,B a2,S b2 c2 d2,S e2 f2 g2])/\∃j:List Value,mapSet (I Z 5) (A w43) i=some j/\∃k:List Value,mapSet (I Z 2) (A w42) j=some k/\∃(l m n o:Int)(p:Bool)(q:Int)(r:O)(s t:Nat)(u:Bool),mapGet (A w41) (I Z hk) k=some (A #[I Z l,I Z m,I Z n,I Z o,B p,I Z q,S r s t],u)/\YO Tryz.prog 176 [P (some (D b 0 none)),A #[I Z l,I Z m,I Z n,I Z o,B p,I Z q,S r s t]] [J b false 41 w40] H fun v w x=>∃y,v=I Z y/\∃(z:Int)(a1:O)(b1 c1:Nat)(d1:O)(e1 f1:Nat)(g1:O)(h1 i1:Nat)(j1:Int)(k1:O)(l1 m1:Nat)(n1 o1:Int)(p1:Bool)(q1:O)(r1 s1:Nat)(t1:Int)(u1:O)(v1 w1:Nat)(x1:O)(y1 z1:Nat)(a2:Bool)(b2:O)(c2 d2:Nat)(e2:O)(f2 g2:Nat),(fun w21:LV=>w=[w21]/\(X base H x->f (SV.v (I Z y)) [J b false 41 w21,J a false 62 [I Z hk,I Z hg,I Z hn,B hgd,S ha hl hc],J g true 217 k] x)) [I Z z,S a1 b1 c1,S d1 e1 f1,S g1 h1 i1,I Z j1,S k1 l1 m1,I Z n1,I Z o1,B p1,S q1 r1 s1,I Z t1,S u1 v1 w1,S x1 y1 z1,B a2,S b2 c2 d2,S e2 f2 g2])/\(∃i:List Value,mapSet (I Z 2) (A w42) h=some i/\(∃j:List Value,mapSet (I Z 1) (A w26) i=some j/\∃k:List Value,mapSet (I Z 5) (A w43) j=some k/\∃(l m n o:Int)(p:Bool)(q:Int)(r:O)(s t:Nat)(u:Bool),mapGet (A w41)
 (I Z hk) k=some (A #[I Z l,I Z m,I Z n,I Z o,B p,I Z q,S r s t],u)/\YO Tryz.prog 176 [P (some (D b 0 none)),A #[I Z l,I Z m,I Z n,I Z o,B p,I Z q,S r s t]] [J b false 41 w40] H fun v w x=>∃y,v=I Z y/\∃(z:Int)(a1:O)(b1 c1:Nat)(d1:O)(e1 f1:Nat)(g1:O)(h1 i1:Nat)(j1:Int)(k1:O)(l1 m1:Nat)(n1 o1:Int)(p1:Bool)(q1:O)(r1 s1:Nat)(t1:Int)(u1:O)(v1 w1:Nat)(x1:O)(y1 z1:Nat)(a2:Bool)(b2:O)(c2 d2:Nat)(e2:O)(f2 g2:Nat),(fun w22:LV=>w=[w22]/\(X base H x->f (SV.v (I Z y)) [J b false 41 w22,J a false 62 [I Z hk,I Z hg,I Z hn,B hgd,S ha hl hc],J g true 217 k] x)) [I Z z,S a1 b1 c1,S d1 e1 f1,S g1 h1 i1,I Z j1,S k1 l1 m1,I Z n1,I Z o1,B p1,S q1 r1 s1,I Z t1,S u1 v1 w1,S x1 y1 z1,B a2,S b2 c2 d2,S e2 f2 g2])/\∃j:List Value,mapSet (I Z 5) (A w43) i=some j/\∃k:List Value,mapSet (I Z 1) (A w26) j=some k/\∃(l m n o:Int)(p:Bool)(q:Int)(r:O)(s t:Nat)(u:Bool),mapGet (A w41) (I Z hk) k=some (A #[I Z l,I Z m,I Z n,I Z o,B p,I Z q,S r s t],u)/\YO Tryz.prog 176 [P (some (D b 0 none)),A #[I Z l,I Z m,I Z n,I Z o,B p,I Z q,S r s t]] [J b false 41 w40] H fun v w x=>∃y,v=I Z y/\∃(z:Int)(a1:O)(b1 c1:Nat)(d1:O)(e1 f1:Nat)(g1:O)(h1 i1:Nat)(j1:Int)(k1:O)(l1 m1:Nat)(n1 o1:Int)(p1:Bool)(q1:O)(r1 s1:Nat)(t1:Int)(u1:O)(v1 w1:Nat)(x1:O)(y1 z1:Nat)(a2:Bool)(b2:O)(c2 d2:Nat)(e2:O)(f2 g2:Nat),(fun w23:LV=>w=[w23]/\(X base H x->f (SV.v (I Z y)) [J b false 41 w23,J a false 62 [I Z hk,I Z hg,I Z hn,B hgd,S ha hl hc],J g true 217 k] x)) [I Z z,S a1 b1 c1,S d1 e1 f1,S g1 h1 i1,I Z j1,S k1 l1 m1,I Z n1,I Z o1,B p1,S q1 r1 s1,I Z t1,S u1 v1 w1,S x1 y1 z1,B a2,S b2 c2 d2,S e2 f2 g2])/\∃i:List Value,mapSet (I Z 5) (A w43) h=some i/\(∃j:List Value,mapSet (I Z 1) (A w26) i=some j/\∃k:List Value,mapSet (I Z 2) (A w42) j=some k/\∃(l m n o:Int)(p:Bool)(q:Int)(r:O)(s t:Nat)(u:Bool),mapGet (A w41) (I Z hk) k=some (A #[I Z l,I Z m,I Z n,I Z o,B p,I Z q,S r s t],u)/\YO Tryz.prog 176 [P (some (D b 0 none)),A #[I Z l,I Z m,I Z n,I Z o,B p,I Z q,S r s t]] [J b
 false 41 w40] H fun v w x=>∃y,v=I Z y/\∃(z:Int)(a1:O)(b1 c1:Nat)(d1:O)(e1 f1:Nat)(g1:O)(h1 i1:Nat)(j1:Int)(k1:O)(l1 m1:Nat)(n1 o1:Int)(p1:Bool)(q1:O)(r1 s1:Nat)(t1:Int)(u1:O)(v1 w1:Nat)(x1:O)(y1 z1:Nat)(a2:Bool)(b2:O)(c2 d2:Nat)(e2:O)(f2 g2:Nat),(fun w24:LV=>w=[w24]/\(X base H x->f (SV.v (I Z y)) [J b false 41 w24,J a false 62 [I Z hk,I Z hg,I Z hn,B hgd,S ha hl hc],J g true 217 k] x)) [I Z z,S a1 b1 c1,S d1 e1 f1,S g1 h1 i1,I Z j1,S k1 l1 m1,I Z n1,I Z o1,B p1,S q1 r1 s1,I Z t1,S u1 v1 w1,S x1 y1 z1,B a2,S b2 c2 d2,S e2 f2 g2])/\∃j:List Value,mapSet (I Z 2) (A w42) i=some j/\∃k:List Value,mapSet (I Z 1) (A w26) j=some k/\∃(l m n o:Int)(p:Bool)(q:Int)(r:O)(s t:Nat)(u:Bool),mapGet (A w41) (I Z hk) k=some (A #[I Z l,I Z m,I Z n,I Z o,B p,I Z q,S r s t],u)/\YO Tryz.prog 176 [P (some (D b 0 none)),A #[I Z l,I Z m,I Z n,I Z o,B p,I Z q,S r s t]] [J b false 41 w40] H fun v w x=>∃y,v=I Z y/\∃(z:Int)(a1:O)(b1 c1:Nat)(d1:O)(e1 f1:Nat)(g1:O)(h1 i1:Nat)(j1:Int)(k1:O)(l1 m1:Nat)(n1 o1:Int)(p1:Bool)(q1:O)(r1 s1:Nat)(t1:Int)(u1:O)(v1 w1:Nat)(x1:O)(y1 z1:Nat)(a2:Bool)(b2:O)(c2 d2:Nat)(e2:O)(f2 g2:Nat),(fun w25:LV=>w=[w25]/\(X base H x->f (SV.v (I Z y)) [J b false 41 w25,J a false 62 [I Z hk,I Z hg,I Z hn,B hgd,S ha hl hc],J g true 217 k] x)) [I Z z,S a1 b1 c1,S d1 e1 f1,S g1 h1 i1,I Z j1,S k1 l1 m1,I Z n1,I Z o1,B p1,S q1 r1 s1,I Z t1,S u1 v1 w1,S x1 y1 z1,B a2,S b2 c2 d2,S e2 f2 g2]) #[I Z 4,I Z 0,I Z 0,I Z 0,B false,I Z e,S ha hl hc]))/\(¬d->∃e:Prop,((hk=3->w39=w39/\SubH H H/\(e↔hk=3))/\(¬hk=3->(hk=4->w39=w39/\SubH H H/\(e↔hk=4))/\(¬hk=4->(hk=7->w39=w39/\SubH H H/\(e↔hk=7))/\(¬hk=7->(hk=8->w39=w39/\SubH H H/\(e↔hk=8))/\(¬hk=8->(hk=12->w39=w39/\SubH H H/\(e↔hk=12))/\(¬hk=12->w39=w39/\SubH H H/\(e↔hk=13)))))))/\(e->((nl:Int)<=hg->f (SV.v (I Z 5)) w39 H)/\(¬(nl:Int)<=hg->(hg<0->(¬hk=12->(¬hk=13->f (SV.v (I Z 5)) w39 H)/\(¬¬hk=13->∃g:Prop,((hk=3->w39=w39/\SubH H H/\(g↔hk=3))/\(¬hk=3->w39=w39/\SubH H
 H/\(g↔hk=4)))/\(g->(up=false->f (SV.v (I Z 7)) w39 H)/\(¬up=false->YO Tryz.prog 177 w45 [J b false 41 w40] H fun h i j=>∃k,h=I Z k/\∃(l:Int)(m:O)(n o:Nat)(p:O)(q r:Nat)(s:O)(t u:Nat)(v:Int)(w:O)(x y:Nat)(z a1:Int)(b1:Bool)(c1:O)(d1 e1:Nat)(f1:Int)(g1:O)(h1 i1:Nat)(j1:O)(k1 l1:Nat)(m1:Bool)(n1:O)(o1 p1:Nat)(q1:O)(r1 s1:Nat),(fun w27:LV=>i=[w27]/\(X base H j->f (SV.v (I Z k)) [J b false 41 w27,J a false 62 [I Z hk,I Z hg,I Z hn,B hgd,S ha hl hc]] j)) [I Z l,S m n o,S p q r,S s t u,I Z v,S w x y,I Z z,I Z a1,B b1,S c1 d1 e1,I Z f1,S g1 h1 i1,S j1 k1 l1,B m1,S n1 o1 p1,S q1 r1 s1]))/\(¬g->∃h:Prop,((hk=12->w39=w39/\SubH H H/\(h↔hk=12))/\(¬hk=12->w39=w39/\SubH H H/\(h↔hk=13)))/\(h->∃(i:Wld)(j:WA)(k:Heap)(l:List (List Value))(m:Hap)(n:O)(o p:Nat),(41=41/\w40=wldCells i j/\A #[I Z hk,I Z hg,I Z hn,B hgd,S ha hl hc]=A #[I Z (Hap.kind m),I Z (Hap.agent m),I Z (Hap.num m),B (Hap.good m),S n o p]/\true=true)/\HapPre base k H i j l m n o/\Hap.agent m<(↑(List.length (Wld.n i)):Int)/\∀(q:Int)(r:Wld)(s:WA)(t:Heap)(u:List (List Value))(v:Heap),RunPost (wPower i m) base k H i j q r s t u v->f (SV.v (I Z q)) [J b false 41 (wldCells r s),J a false 62 [I Z hk,I Z hg,I Z hn,B hgd,S ha hl hc]] v)/\(¬h->∃i j,na=some (D i j none)/\0<=hg/\hg<(nl:Int)/\∃(k:O)(l m:Nat)(n o:Int)(p:Bool)(q:Int)(r:O)(s t:Nat)(u:Bool)(v:O)(w x:Nat)(y:O)(z a1:Nat)(b1:Bool),(fun w30:LV=>(C H i (j+N hg*10)=some (S k l m)/\C H i (j+N hg*10+1)=some (I Z n)/\C H i (j+N hg*10+2)=some (I Z o)/\C H i (j+N hg*10+3)=some (B p)/\C H i (j+N hg*10+4)=some (I Z q)/\C H i (j+N hg*10+5)=some (S r s t)/\C H i (j+N hg*10+6)=some (B u)/\C H i (j+N hg*10+7)=some (S v w x)/\C H i (j+N hg*10+8)=some (S y z a1)/\C H i (j+N hg*10+9)=some (B b1)/\True)/\∀c1:Nat,(fun w29:LB=>(b1=false->f (SV.v (I Z 7)) w29 H)/\(¬b1=false->(hk=7->∃(d1:Wld)(e1:WA)(f1:Heap)(g1:List (List Value))(h1:Hap)(i1:O)(j1 k1:Nat),(41=41/\w40=wldCells d1 e1/\A #[I Z hk,I Z hg,I Z hn,B hgd,S ha hl hc]=A #[I Z (Hap.kind h1),I Z (Hap.agent h1),I Z (Hap.num h1),B (Hap.good h1),S i1 j1 k1]/\true=true)/\HapPre base f1 H d1 e1 g1 h1 i1 j1/\(0<=Hap.agent h1/\Hap.agent h1<(↑(List.length (Wld.n d1)):Int))/\∀(l1:Int)(m1:Wld)(n1:WA)(o1:Heap)(p1:List (List Value))(q1:Heap),RunPost (wStepAt d1 h1) base f1 H d1 e1 l1 m1 n1 o1 p1 q1->f (SV.v (I Z l1)) [J b false 41 (wldCells m1 n1),J a false 62 [I Z hk,I Z hg,I Z hn,B hgd,S ha hl hc],J c1 false 58 w30] q1)/\(¬hk=7->∃d1:Prop,((p=true->w29=w29/\SubH H H/\d1)/\(p=false->w29=w29/\SubH H H/\(d1↔o=0)))/\(d1->f (SV.v (I Z 7)) w29 H)/\(¬d1->YO Tryz.prog 180 w46 [J b false 41 w40] H fun e1 f1 g1=>e1=T #[]/\∃(h1:Int)(i1:O)(j1 k1:Nat)(l1:O)(m1 n1:Nat)(o1:O)(p1 q1:Nat)(r1:Int)(s1:O)(t1 u1:Nat)(v1 w1:Int)(x1:Bool)(y1:O)(z1 a2:Nat)(b2:Int)(c2:O)(d2 e2:Nat)(f2:O)(g2 h2:Nat)(i2:Bool)(j2:O)(k2 l2:Nat)(m2:O)(n2 o2:Nat),(fun w28:LV=>f1=[w28]/\(X base H g1->f (SV.v (I Z 0)) [J b false 41 w28,J a false 62 [I Z hk,I Z hg,I Z hn,B hgd,S ha hl hc],J c1 false 58 w30] g1)) [I Z h1,S i1 j1 k1,S l1 m1 n1,S o1 p1 q1,I Z r1,S s1 t1 u1,I Z v1,I Z w1,B x1,S y1 z1 a2,I Z b2,S c2 d2 e2,S f2 g2 h2,B i2,S j2 k2 l2,S m2 n2 o2])))) [J b false 41 w40,J a false 62 [I Z hk,I Z hg,I Z hn,B hgd,S ha hl hc],J c1 false 58 w30]) [S k l m,I Z n,I Z o,B p,I Z q,S r s t,B u,S v w x,S y z a1,B b1]))))/\(¬¬hk=12->∃g:Prop,((hk=3->w39=w39/\SubH H H/\(g↔hk=3))/\(¬hk=3->w39=w39/\SubH H H/\(g↔hk=4)))/\(g->(up=false->f (SV.v (I Z 7)) w39 H)/\(¬up=false->YO Tryz.prog 177 w45 [J b false 41 w40] H fun h i j=>∃k,h=I Z k/\∃(l:Int)(m:O)(n o:Nat)(p:O)(q r:Nat)(s:O)(t u:Nat)(v:Int)(w:O)(x y:Nat)(z a1:Int)(b1:Bool)(c1:O)(d1 e1:Nat)(f1:Int)(g1:O)(h1 i1:Nat)(j1:O)(k1 l1:Nat)(m1:Bool)(n1:O)(o1 p1:Nat)(q1:O)(r1 s1:Nat),(fun w31:LV=>i=[w31]/\(X base H j->f (SV.v (I Z k)) [J b false 41 w31,J a false 62 [I Z hk,I Z hg,I Z hn,B hgd,S ha hl hc]] j)) [I Z l,S m n
 o,S p q r,S s t u,I Z v,S w x y,I Z z,I Z a1,B b1,S c1 d1 e1,I Z f1,S g1 h1 i1,S j1 k1 l1,B m1,S n1 o1 p1,S q1 r1 s1]))/\(¬g->∃h:Prop,((hk=12->w39=w39/\SubH H H/\(h↔hk=12))/\(¬hk=12->w39=w39/\SubH H H/\(h↔hk=13)))/\(h->∃(i:Wld)(j:WA)(k:Heap)(l:List (List Value))(m:Hap)(n:O)(o p:Nat),(41=41/\w40=wldCells i j/\A #[I Z hk,I Z hg,I Z hn,B hgd,S ha hl hc]=A #[I Z (Hap.kind m),I Z (Hap.agent m),I Z (Hap.num m),B (Hap.good m),S n o p]/\true=true)/\HapPre base k H i j l m n o/\Hap.agent m<(↑(List.length (Wld.n i)):Int)/\∀(q:Int)(r:Wld)(s:WA)(t:Heap)(u:List (List Value))(v:Heap),RunPost (wPower i m) base k H i j q r s t u v->f (SV.v (I Z q)) [J b false 41 (wldCells r s),J a false 62 [I Z hk,I Z hg,I Z hn,B hgd,S ha hl hc]] v)/\(¬h->∃i j,na=some (D i j none)/\0<=hg/\hg<(nl:Int)/\∃(k:O)(l m:Nat)(n o:Int)(p:Bool)(q:Int)(r:O)(s t:Nat)(u:Bool)(v:O)(w x:Nat)(y:O)(z a1:Nat)(b1:Bool),(fun w34:LV=>(C H i (j+N hg*10)=some (S k l m)/\C H i (j+N hg*10+1)=some (I Z n)/\C H i (j+N hg*10+
 2)=some (I Z o)/\C H i (j+N hg*10+3)=some (B p)/\C H i (j+N hg*10+4)=some (I Z q)/\C H i (j+N hg*10+5)=some (S r s t)/\C H i (j+N hg*10+6)=some (B u)/\C H i (j+N hg*10+7)=some (S v w x)/\C H i (j+N hg*10+8)=some (S y z a1)/\C H i (j+N hg*10+9)=some (B b1)/\True)/\∀c1:Nat,(fun w33:LB=>(b1=false->f (SV.v (I Z 7)) w33 H)/\(¬b1=false->(hk=7->∃(d1:Wld)(e1:WA)(f1:Heap)(g1:List (List Value))(h1:Hap)(i1:O)(j1 k1:Nat),(41=41/\w40=wldCells d1 e1/\A #[I Z hk,I Z hg,I Z hn,B hgd,S ha hl hc]=A #[I Z (Hap.kind h1),I Z (Hap.agent h1),I Z (Hap.num h1),B (Hap.good h1),S i1 j1 k1]/\true=true)/\HapPre base f1 H d1 e1 g1 h1 i1 j1/\(0<=Hap.agent h1/\Hap.agent h1<(↑(List.length (Wld.n d1)):Int))/\∀(l1:Int)(m1:Wld)(n1:WA)(o1:Heap)(p1:List (List Value))(q1:Heap),RunPost (wStepAt d1 h1) base f1 H d1 e1 l1 m1 n1 o1 p1 q1->f (SV.v (I Z l1)) [J b false 41 (wldCells m1 n1),J a false 62 [I Z hk,I Z hg,I Z hn,B
 hgd,S ha hl hc],J c1 false 58 w34] q1)/\(¬hk=7->∃d1:Prop,((p=true->w33=w33/\SubH H H/\d1)/\(p=false->w33=w33/\SubH H H/\(d1↔o=0)))/\(d1->f (SV.v (I Z 7)) w33 H)/\(¬d1->YO Tryz.prog 180 w46 [J b false 41 w40] H fun e1 f1 g1=>e1=T #[]/\∃(h1:Int)(i1:O)(j1 k1:Nat)(l1:O)(m1 n1:Nat)(o1:O)(p1 q1:Nat)(r1:Int)(s1:O)(t1 u1:Nat)(v1 w1:Int)(x1:Bool)(y1:O)(z1 a2:Nat)(b2:Int)(c2:O)(d2 e2:Nat)(f2:O)(g2 h2:Nat)(i2:Bool)(j2:O)(k2 l2:Nat)(m2:O)(n2 o2:Nat),(fun w32:LV=>f1=[w32]/\(X base H g1->f (SV.v (I Z 0)) [J b false 41 w32,J a false 62 [I Z hk,I Z hg,I Z hn,B hgd,S ha hl hc],J c1 false 58 w34] g1)) [I Z h1,S i1 j1 k1,S l1 m1 n1,S o1 p1 q1,I Z r1,S s1 t1 u1,I Z v1,I Z w1,B x1,S y1 z1 a2,I Z b2,S c2 d2 e2,S f2 g2 h2,B i2,S j2 k2 l2,S m2 n2 o2])))) [J b false 41 w40,J a false 62 [I Z hk,I Z hg,I Z hn,B hgd,S ha hl hc],J c1 false 58 w34]) [S k l m,I Z n,I Z o,B p,I Z q,S r s t,B u,S v w x,S y z a1,B b1]))))/\(¬hg<0->∃g:Prop,((hk=3->w39=w39/\SubH H H/\(g↔hk=3))/\(¬hk=3->w39=w39/\SubH H H/\(g↔hk=4)))/\(g->(up=false->f (SV.v (I Z 7)) w39 H)/\(¬up=false->YO Tryz.prog 177 w45 [J b false 41 w40] H fun h i j=>∃k,h=I Z k/\∃(l:Int)(m:O)(n o:Nat)(p:O)(q r:Nat)(s:O)(t u:Nat)(v:Int)(w:O)(x y:Nat)(z a1:Int)(b1:Bool)(c1:O)(d1 e1:Nat)(f1:Int)(g1:O)(h1 i1:Nat)(j1:O)(k1 l1:Nat)(m1:Bool)(n1:O)(o1 p1:Nat)(q1:O)(r1 s1:Nat),(fun w35:LV=>i=[w35]/\(X base H j->f (SV.v (I Z k)) [J b false 41 w35,J a false 62 [I Z hk,I Z hg,I Z hn,B hgd,S ha hl hc]] j)) [I Z l,S m n o,S p q r,S s t u,I Z v,S w x y,I Z z,I Z a1,B b1,S c1 d1 e1,I Z f1,S g1 h1 i1,S j1 k1 l1,B m1,S n1 o1 p1,S q1 r1 s1]))/\(¬g->∃h:Prop,((hk=12->w39=w39/\SubH H H/\(h↔hk=12))/\(¬hk=12->w39=w39/\SubH H H/\(h↔hk=13)))/\(h->∃(i:Wld)(j:WA)(k:Heap)(l:List (List Value))(m:Hap)(n:O)(o p:Nat),(41=41/\w40=wldCells i j/\A #[I Z hk,I Z hg,I Z hn,B hgd,S ha hl hc]=A #[I Z (Hap.kind m),I Z (Hap.agent m),I Z (Hap.num m),B (Hap.good m),S n o p]/\true=true)/\HapPre base k H i j l m n o/\Hap.agent m<(↑(List.length (Wld.n i)):Int)/\∀(q:Int)(r:Wld)(s:WA)(t:Heap)(u:List (List Value))(v:Heap),RunPost (wPower i m) base k H i j q r s t u v->f (SV.v (I Z q)) [J b false 41 (wldCells r s),J a false 62 [I Z hk,I Z hg,I Z hn,B hgd,S ha hl hc]] v)/\(¬h->∃i j,na=some (D i j none)/\0<=hg/\hg<(nl:Int)/\∃(k:O)(l m:Nat)(n o:Int)(p:Bool)(q:Int)(r:O)(s t:Nat)(u:Bool)(v:O)(w x:Nat)(y:O)(z a1:Nat)(b1:Bool),(fun w38:LV=>(C H i (j+N hg*10)=some (S k l m)/\C H i (j+N hg*10+1)=some (I Z n)/\C H i (j+N hg*10+2)=some (I Z o)/\C H i (j+N hg*10+3)=some (B p)/\C H i (j+N hg*10+4)=some (I Z q)/\C H i (j+N hg*10+5)=some (S r s t)/\C H i (j+N hg*10+6)=some (B u)/\C H i (j+N hg*10+7)=some (S v w x)/\C H i (j+N hg*10+8)=some (S y z a1)/\C H i (j+N hg*10+9)=some (B b1)/\True)/\∀c1:Nat,(fun w37:LB=>(b1=false->f (SV.v (I Z 7)) w37 H)/\(¬b1=false->(hk=7->∃(d1:Wld)(e1:WA)(f1:Heap)(g1:List (List Value))(h1:Hap)(i1:O)(j1 k1:Nat),(41=41/\w40=[I Z
 (Rls.id (Conf.first (Wld.c d1))),S (WA.fa e1) (WA.fl e1) (WA.fc e1),S (WA.ra e1) (WA.rl e1) (WA.rc e1),S (WA.wa e1) (WA.wl e1) (WA.wc e1),I Z (Conf.bud (Wld.c d1)),S (WA.la e1) (WA.ll e1) (WA.lc e1),I Z (Ldr.now (Hed.l (Wld.h d1))),I Z (Ldr.goal (Hed.l (Wld.h d1))),B (Ldr.back (Hed.l (Wld.h d1))),S (WA.ka e1) (WA.kl e1) (WA.kc e1),I Z (Ldr.nx (Hed.l (Wld.h d1))),S (WA.sa e1) (WA.sl e1) (WA.sc e1),S (WA.ta e1) (WA.tl e1) (WA.tc e1),B (Hed.up (Wld.h d1)),S (WA.na e1) (WA.nl e1) (WA.nc e1),S (WA.ma e1) (WA.ml e1) (WA.mc e1)]/\A #[I Z hk,I Z hg,I Z hn,B hgd,S ha hl hc]=A #[I Z (Hap.kind h1),I Z (Hap.agent h1),I Z (Hap.num h1),B (Hap.good h1),S i1 j1 k1]/\true=true)/\HapPre base f1 H d1 e1 g1 h1 i1 j1/\(0<=Hap.agent h1/\Hap.agent h1<(↑(List.length (Wld.n d1)):Int))/\∀(l1:Int)(m1:Wld)(n1:WA)(o1:Heap)(p1:List (List Value))(q1:Heap),RunPost (wStepAt d1 h1) base f1 H d1 e1 l1 m1 n1 o1 p1 q1->f (SV.v (I Z l1)) [J b false 41 (wldCells m1 n1),J a false 62 [I Z hk,I Z hg,I Z hn,B hgd,S ha hl hc],J c1 false 58 w38] q1)/\(¬hk=7->∃d1:Prop,((p=true->w37=w37/\SubH H H/\d1)/\(p=false->w37=w37/\SubH H H/\(d1↔o=0)))/\(d1->f (SV.v (I Z 7)) w37 H)/\(¬d1->YO Tryz.prog 180 w46 [J b false 41 w40] H fun e1 f1 g1=>e1=T #[]/\∃(h1:Int)(i1:O)(j1 k1:Nat)(l1:O)(m1 n1:Nat)(o1:O)(p1 q1:Nat)(r1:Int)(s1:O)(t1 u1:Nat)(v1 w1:Int)(x1:Bool)(y1:O)(z1 a2:Nat)(b2:Int)(c2:O)(d2 e2:Nat)(f2:O)(g2 h2:Nat)(i2:Bool)(j2:O)(k2 l2:Nat)(m2:O)(n2 o2:Nat),(fun w36:LV=>f1=[w36]/\(X
 base H g1->f (SV.v (I Z 0)) [J b false 41 w36,J a false 62 [I Z hk,I Z hg,I Z hn,B hgd,S ha hl hc],J c1 false 58 w38] g1)) [I Z h1,S i1 j1 k1,S l1 m1 n1,S o1 p1 q1,I Z r1,S s1 t1 u1,I Z v1,I Z w1,B x1,S y1 z1 a2,I Z b2,S c2 d2 e2,S f2 g2 h2,B i2,S j2 k2 l2,S m2 n2 o2])))) [J b false 41 w40,J a false 62 [I Z hk,I Z hg,I Z hn,B hgd,S ha hl hc],J c1 false 58 w38]) [S k l m,I Z n,I Z o,B p,I Z q,S r s t,B u,S v w x,S y z a1,B b1])))))/\(¬e->f (SV.v (I Z 4)) w39 H))))) [J b false 41 w40,J a false 62 [I Z hk,I Z hg,I Z hn,B hgd,S ha hl hc]]) [I Z id,S fa fl fc,S ra rl rc,S wa wl wc,I Z bud,S la ll lc,I Z now,I Z goal,B back,S ka kl kc,I Z nx,S sa sl sc,S ta tl tc,B up,S na nl nc,S ma ml mc]) #[I Z 0,I Z 0,I Z 0,I Z 0,B false,I Z 0,S none 0 0]) #[I Z 5,I Z 0,I Z 0,I Z hn,B false,I Z 0,S none 0 0]) #[I Z 8,I Z 0,I Z 0,I Z 0,B false,I Z 0,S none 0 0]) #[I Z 9,I Z 0,I Z 0,I Z 0,B false,I Z 0,S none 0 0]) [P (some (D b 0 none)),A #[I Z hk,I Z hg,I Z hn,B hgd,S ha hl hc]]) [P (some (D b 0 none)),I Z hg]):=by kernel_rfl
open Go Go.Proofs
def LeadOut(base b:Nat)(H:Heap)(f:SV->List Bx->Heap->Prop)(own1:List Bx):Value->List (List Value)->Heap->Prop:=fun v css H'=>
 ∃n:Int,v= .int .i64 n/\∃i1:Int,∃a2:O,∃l2:Nat,∃c2:Nat,∃a3:O,∃l3:Nat,∃c3:Nat,∃a4:O,∃l4:Nat,∃c4:Nat,∃i5:Int,∃a6:O,∃l6:Nat,∃c6:Nat,∃i7:Int,∃i8:Int,∃b9:Bool,∃a10:O,∃l10:Nat,∃c10:Nat,∃i11:Int,∃a12:O,∃l12:Nat,∃c12:Nat,∃a13:O,∃l13:Nat,∃c13:Nat,∃b14:Bool,∃a15:O,∃l15:Nat,∃c15:Nat,∃a16:O,∃l16:Nat,∃c16:Nat,css=[[.int .i64 i1,.slice a2 l2 c2,.slice a3 l3 c3,.slice a4 l4 c4,.int .i64 i5,.slice a6 l6 c6,.int .i64 i7,.int .i64 i8,.bool b9,.slice a10 l10 c10,.int .i64 i11,.slice a12 l12 c12,.slice a13 l13 c13,.bool b14,.slice a15 l15 c15,.slice a16 l16 c16]]/\(Vg.Next base H H'->f (.v (.int .i64 n)) (⟨b,false,41,[.int .i64 i1,.slice a2 l2 c2,.slice a3 l3 c3,.slice a4 l4 c4,.int .i64 i5,.slice a6 l6 c6,.int .i64 i7,.int .i64 i8,.bool b9,.slice a10 l10 c10,.int .i64 i11,.slice a12 l12 c12,.slice a13 l13 c13,.bool b14,.slice a15 l15 c15,.slice a16 l16 c16]⟩::own1) H')
section
variable {base : Nat} {H0 G H : Heap} {w : Wld} {p : WA} {rows : List (List Value)} {x : Hap} {a : O} {l c b : Nat} {f : SV->List Bx->Heap->Prop}
theorem happ_lead(h:HapPre base G H w p rows x a l)
  (hf:∀e w' p' G' rows' H' own1,RunPost (wHap w x) base G H w p e w' p' G' rows' H'->f (.v (.int .i64 e)) (⟨b,false,41,wldCells w' p'⟩::own1) H') {r:Recd} (hE:wHap w x=wLead w r) {qa:O} {ql qc:Nat} (hq:Pins G qa ql r.rel.lock) (own1:List Bx):
  SpecO Tryz.prog 176 [.pointer (some ⟨b,0,none⟩),recArg r qa ql qc] [⟨b,false,41,wldCells w p⟩] H (LeadOut base b H f own1):=by
 refine((cLeads h.lb h.own.parts hq b).grown h.sub).mono fun v css H2 e2 hv=> ?_
 obtain⟨G2,g2,p2,rfl,hcss,hP2,n1,n2,n3,n4⟩:=hv
 exact⟨_,rfl,wld16 hcss fun hN2=>hf _ _ p2 G2 rows H2 _ ⟨(h.start.grown g2).be hP2 n1 n2 n3 n4,by rw[hE],by rw[hE]⟩⟩
theorem happ_in(h:HapPre base G H w p rows x a l)
  (hf:∀e w' p' G' rows' H' own1,RunPost (wHap w x) base G H w p e w' p' G' rows' H'->f (.v (.int .i64 e)) (⟨b,false,41,wldCells w' p'⟩::own1) H'):
  codeI ⟨Tryz.prog,Tryz.f91.ntmps,⟨TryzListT,TryzSumT,true⟩,base,H0⟩ Tryz.f91 [.loc 0 0,.v (hapArg x a l c)] [⟨b,false,41,wldCells w p⟩] H f:=by
 rw[vx91]
 have g0:Grown G H G H:=⟨Ext.refl _,h.sub,Ext.refl _,fun y k h1 h2=>(by rw[h1] at h2;cases h2)⟩
 have out:∀ {R:Except Int Wld},wHap w x=R->∀e w' p' G' rows' H' own1,RunPost R base G H w p e w' p' G' rows' H'->f (.v (.int .i64 e)) (⟨b,false,41,wldCells w' p'⟩::own1) H':=fun{R} hR e w' p' G' rows' H' own1 hP=>hf _ _ _ _ _ _ _ (hR▸hP)
 have bad:∀ {e:Int},wHap w x= .error e->∀ {G1 H1:Heap},Grown G H G1 H1->∀own1,f (.v (.int .i64 e)) (⟨b,false,41,wldCells w p⟩::own1) H1:=fun{e} he {G1 H1} g own1=>out he e w p G1 rows H1 own1 ⟨h.start.grown g,rfl,rfl⟩
 have good:∀ {w':Wld},wHap w x= .ok w'->∀ {p':WA} {G1 H1:Heap} {rows1:List (List Value)},OwnPost base G H p w' p' G1 rows1 H1->∀own1,f (.v (.int .i64 0)) (⟨b,false,41,wldCells w' p'⟩::own1) H1:=fun{w'} he {p' G1 H1 rows1} g own1=>out he 0 w' p' G1 rows1 H1 own1 ⟨g,rfl,rfl⟩
 have hl:=h.own.len
 have hR:=wldErr_zero.1 h.ok
 have hll:w.h.l.rels.length<=100000:=hR.sizes.2.1.1
 have hrl:=h.own.parts.ldr.rels.len
 refine fun b1=>⟨x.kind=9∨x.kind=10,⟨fun h9=>⟨rfl,subH,⟨fun _=>h9,fun _=> .inl h9⟩⟩,fun h9=>⟨rfl,subH,⟨fun h=>h.resolve_left h9,.inr⟩⟩⟩,fun hφ=> ?_,fun hφ=>⟨fun h11=> ?_,fun h11=> ?_⟩⟩
 ·exact⟨w,p,G,rows,x,a,l,c,⟨rfl,rfl,rfl,rfl⟩,h,rfl,fun e w' p' G' rows' H' hP=>out (by unfold wHap;rw[if_pos hφ]) _ _ _ _ _ _ _ hP⟩
 ·have hE:wHap w x=if takeErr w.m x.num≠0 then .error (takeErr w.m x.num) else .ok { w with m:=left w.m x.num false } :=by
   unfold wHap;rw[if_neg hφ,if_pos h11]
  refine⟨?_,fun b2=> ?_⟩
  all_goals
   refine((cTake (c:=p.mc) h.own.parts.mail x.num false).grown h.sub).mono fun v H1 e1 hv=> ?_
   obtain⟨G1,g1,ta,tn,tc,la,ln,lc,rfl,hM,hQ⟩:=hv
   refine⟨_,_,_,_,_,_,_,_,_,_,_,_,rfl,fun hN1=> ?_⟩
   try intro b4
   refine⟨fun ht=> ?_,fun ht=> ?_⟩
   ·rw[if_pos ht] at hM
    rw[if_neg (by omega)] at hE
    have hP:=h.own.parts.ext g1.ext
    exact out hE _ { w with m:=left w.m x.num false } { p with ma:=ta,ml:=tn,mc:=tc } G1 rows H1 _ ⟨(h.start.grown g1).be ⟨hP.cfg,hP.ldr,hP.dsk,hM⟩ rfl rfl rfl rfl,ht,rfl⟩
   ·rw[if_pos ht] at hE
    exact bad hE g1 _
 ·refine⟨x.kind=1∨x.kind=2∨x.kind=5∨x.kind=6,⟨fun h1=>⟨rfl,subH,⟨fun _=>h1,fun _=> .inl h1⟩⟩,fun h1=>⟨fun h2=>⟨rfl,subH,⟨fun _=>h2,fun _=> .inr (.inl h2)⟩⟩,fun h2=>⟨fun h3=>⟨rfl,subH,⟨fun _=>h3,fun _=> .inr (.inr (.inl h3))⟩⟩,fun h3=>⟨rfl,subH,⟨fun h=>((h.resolve_left h1).resolve_left h2).resolve_left h3,fun h=> .inr (.inr (.inr h))⟩⟩⟩⟩⟩,fun hk=>⟨fun hu=> ?_,fun hu r hr b2=> ?_⟩,fun hk=> ?_⟩
  ·exact bad (by unfold wHap;rw[if_neg hφ,if_neg h11,if_pos hk,if_pos hu]) g0 _
  ·have hE:wHap w x=wLead w (hapRec w x):=by unfold wHap;rw[if_neg hφ,if_neg h11,if_pos hk,if_neg hu]
   have hr':r=(w.h.l.rels.length:Int)+1:=by rw[hr,wrap_in (by omega) (by omega)];omega
   have lead:∀own1,(x.kind=1->SpecO Tryz.prog 176 [.pointer (some ⟨b,0,none⟩),.agg #[.int .i64 4,.int .i64 0,.int .i64 0,.int .i64 0,.bool false,.int .i64 r,.slice a l c]] [⟨b,false,41,wldCells w p⟩] H (LeadOut base b H f own1))/\
     (x.kind=2->SpecO Tryz.prog 176 [.pointer (some ⟨b,0,none⟩),.agg #[.int .i64 5,.int .i64 0,.int .i64 0,.int .i64 x.num,.bool false,.int .i64 0,.slice none 0 0]] [⟨b,false,41,wldCells w p⟩] H (LeadOut base b H f own1))/\
     (x.kind=5->SpecO Tryz.prog 176 [.pointer (some ⟨b,0,none⟩),.agg #[.int .i64 8,.int .i64 0,.int .i64 0,.int .i64 0,.bool false,.int .i64 0,.slice none 0 0]] [⟨b,false,41,wldCells w p⟩] H (LeadOut base b H f own1))/\
     (x.kind=6->SpecO Tryz.prog 176 [.pointer (some ⟨b,0,none⟩),.agg #[.int .i64 9,.int .i64 0,.int .i64 0,.int .i64 0,.bool false,.int .i64 0,.slice none 0 0]] [⟨b,false,41,wldCells w p⟩] H (LeadOut base b H f own1)):=by
    intro own1
    refine⟨fun k=> ?_,fun k=> ?_,fun k=> ?_,fun k=> ?_⟩
    ·rw[hr']
     exact happ_lead h hf (r:=⟨4,0,0,0,false,⟨w.h.l.rels.length+1,x.lock⟩⟩) (by rw[hE];unfold hapRec;rw[if_pos k]) h.lock own1
    ·exact happ_lead h hf (r:=⟨5,0,0,x.num,false,⟨0,[]⟩⟩) (by rw[hE];unfold hapRec;rw[if_neg (by omega),if_pos k]) Sl.nil own1
    ·exact happ_lead h hf (r:=⟨8,0,0,0,false,⟨0,[]⟩⟩) (by rw[hE];unfold hapRec;rw[if_neg (by omega),if_neg (by omega),if_pos k]) Sl.nil own1
    ·exact happ_lead h hf (r:=⟨9,0,0,0,false,⟨0,[]⟩⟩) (by rw[hE];unfold hapRec;rw[if_neg (by omega),if_neg (by omega),if_neg (by omega)]) Sl.nil own1
   clear hE hr hr'
   refine⟨⟨_,rfl,⟨⟨_,rfl,⟨⟨_,rfl,⟨_,rfl,?_⟩⟩,⟨_,rfl,⟨_,rfl,?_⟩⟩⟩⟩,⟨_,rfl,⟨⟨_,rfl,⟨_,rfl,?_⟩⟩,⟨_,rfl,⟨_,rfl,?_⟩⟩⟩⟩,⟨_,rfl,⟨⟨_,rfl,⟨_,rfl,?_⟩⟩,⟨_,rfl,⟨_,rfl,?_⟩⟩⟩⟩⟩⟩,⟨_,rfl,⟨⟨_,rfl,⟨⟨_,rfl,⟨_,rfl,?_⟩⟩,⟨_,rfl,⟨_,rfl,?_⟩⟩⟩⟩,⟨_,rfl,⟨⟨_,rfl,⟨_,rfl,?_⟩⟩,⟨_,rfl,⟨_,rfl,?_⟩⟩⟩⟩,⟨_,rfl,⟨⟨_,rfl,⟨_,rfl,?_⟩⟩,⟨_,rfl,⟨_,rfl,?_⟩⟩⟩⟩⟩⟩,⟨_,rfl,⟨⟨_,rfl,⟨⟨_,rfl,⟨_,rfl,?_⟩⟩,⟨_,rfl,⟨_,rfl,?_⟩⟩⟩⟩,⟨_,rfl,⟨⟨_,rfl,⟨_,rfl,?_⟩⟩,⟨_,rfl,⟨_,rfl,?_⟩⟩⟩⟩,⟨_,rfl,⟨⟨_,rfl,⟨_,rfl,?_⟩⟩,⟨_,rfl,⟨_,rfl,?_⟩⟩⟩⟩⟩⟩,⟨_,rfl,⟨⟨_,rfl,⟨⟨_,rfl,⟨_,rfl,?_⟩⟩,⟨_,rfl,⟨_,rfl,?_⟩⟩⟩⟩,⟨_,rfl,⟨⟨_,rfl,⟨_,rfl,?_⟩⟩,⟨_,rfl,⟨_,rfl,?_⟩⟩⟩⟩,⟨_,rfl,⟨⟨_,rfl,⟨_,rfl,?_⟩⟩,⟨_,rfl,⟨_,rfl,?_⟩⟩⟩⟩⟩⟩⟩
   all_goals
    rcases hk with k|k|k|k
    ·exact⟨_,_,_,_,_,_,_,_,_,true,by rw[k];rfl,(lead _).1 k⟩
    ·exact⟨_,_,_,_,_,_,_,_,_,true,by rw[k];rfl,(lead _).2.1 k⟩
    ·exact⟨_,_,_,_,_,_,_,_,_,true,by rw[k];rfl,(lead _).2.2.1 k⟩
    ·exact⟨_,_,_,_,_,_,_,_,_,true,by rw[k];rfl,(lead _).2.2.2 k⟩
  ·refine⟨x.kind=3∨x.kind=4∨x.kind=7∨x.kind=8∨x.kind=12∨x.kind=13,⟨fun h1=>⟨rfl,subH,by constructor<;>intro _<;>omega⟩,fun h1=>⟨fun h2=>⟨rfl,subH,by constructor<;>intro _<;>omega⟩,fun h2=>⟨fun h3=>⟨rfl,subH,by constructor<;>intro _<;>omega⟩,fun h3=>⟨fun h4=>⟨rfl,subH,by constructor<;>intro _<;>omega⟩,fun h4=>⟨fun h5=>⟨rfl,subH,by constructor<;>intro _<;>omega⟩,fun h5=>⟨rfl,subH,by constructor<;>intro _<;>omega⟩⟩⟩⟩⟩⟩,fun hk2=> ?_,fun hk2=> ?_⟩
   ·have hK:¬(x.kind<1∨13<x.kind):=by omega
    refine⟨fun hle=> ?_,fun hle=> ?_⟩
    ·exact bad (by unfold wHap;rw[if_neg hφ,if_neg h11,if_neg hk,if_neg hK,if_pos (by omega)]) g0 _
    ·have hW:¬(x.agent<0/\x.kind≠12/\x.kind≠13)->wHap w x=if x.kind=3∨x.kind=4 then(if w.h.up=false then .error 7 else wTell w x) else
       if x.kind=12∨x.kind=13 then wPower w x else
       match w.n[x.agent.toNat]? with
       |none=> .error 5
       |some n=>
        if n.up=false then .error 7 else
        if x.kind=7 then wStep w x n else
        if n.a.going=true∨n.a.try_=0 then .error 7 else .ok (wReport w x.agent.toNat):=fun hneg=>by
      unfold wHap;rw[if_neg hφ,if_neg h11,if_neg hk,if_neg hK,if_neg (by omega)];rfl
     refine⟨fun hneg=>⟨fun h12=>⟨fun h13=> ?_,fun h13=> ?_⟩,fun h12=> ?_⟩,fun hneg=> ?_⟩
     ·exact bad (by unfold wHap;rw[if_neg hφ,if_neg h11,if_neg hk,if_neg hK,if_pos (by omega)]) g0 _
     all_goals
      have hW:=hW (by omega)
      refine⟨x.kind=3∨x.kind=4,⟨fun h1=>⟨rfl,subH,by constructor<;>intro _<;>omega⟩,fun h1=>⟨rfl,subH,by constructor<;>intro _<;>omega⟩⟩,fun h34=> ?_,fun h34=> ?_⟩
      ·rw[if_pos h34] at hW
       refine⟨fun hu=> ?_,fun hu=> ?_⟩
       ·rw[if_pos hu] at hW
        exact bad hW g0 _
       ·rw[if_neg hu] at hW
        refine((cTell h.lb h.own.parts (a:=a) (l:=l) (c:=c) b).grown h.sub).mono fun v css H2 e2 hv=> ?_
        obtain⟨G2,g2,p2,rfl,hcss,hP2,n1,n2,n3,n4⟩:=hv
        exact⟨_,rfl,wld16 hcss fun hN2=>out hW _ _ p2 G2 rows H2 _ ⟨(h.start.grown g2).be hP2 n1 n2 n3 n4,rfl,rfl⟩⟩
      ·rw[if_neg h34] at hW
       refine⟨x.kind=12∨x.kind=13,⟨fun h1=>⟨rfl,subH,by constructor<;>intro _<;>omega⟩,fun h1=>⟨rfl,subH,by constructor<;>intro _<;>omega⟩⟩,fun hpw=> ?_,fun hpw=> ?_⟩
       ·rw[if_pos hpw] at hW
        exact⟨w,p,G,rows,x,a,l,c,⟨rfl,rfl,rfl,rfl⟩,h,by omega,fun e w' p' G' rows' H' hP=>out hW _ _ _ _ _ _ _ hP⟩
       ·rw[if_neg hpw] at hW
        have h0:0<=x.agent:=by omega
        obtain⟨n,hnn⟩:∃n,w.n[x.agent.toNat]?=some n:=⟨_,List.getElem?_eq_getElem (by omega)⟩
        rw[hnn] at hW
        dsimp only at hW
        obtain⟨y,kb,q,hna,hyb,hnc,hyk,hfree,hkl,hroom,hrow,hnod,hcell⟩:=h.own.node hnn
        have cc:∀j v,(nodCells n q)[j]?=some v->H.cell y (0+x.agent.toNat*10+j)=some v:=fun j v hj=>by rw[Nat.zero_add];exact hcell j v hj
        refine⟨y,0,hna,h0,by omega,_,_,_,_,_,_,_,_,_,_,_,_,_,_,_,_,_,_,⟨cc 0 _ rfl,cc 1 _ rfl,cc 2 _ rfl,cc 3 _ rfl,cc 4 _ rfl,cc 5 _ rfl,cc 6 _ rfl,cc 7 _ rfl,cc 8 _ rfl,cc 9 _ rfl,trivial⟩,fun b6=>⟨fun hu=> ?_,fun hu=>⟨fun h7=> ?_,fun h7=> ?_⟩⟩⟩
        ·rw[if_pos hu] at hW
         exact bad hW g0 _
        ·rw[if_neg hu,if_pos h7] at hW
         have hA:wStepAt w x=wStep w x n:=by unfold wStepAt;rw[hnn]
         exact⟨w,p,G,rows,x,a,l,c,⟨rfl,rfl,rfl,rfl⟩,h,⟨h0,by omega⟩,fun e w' p' G' rows' H' hP=>out (hW.trans hA.symm) _ _ _ _ _ _ _ hP⟩
        ·rw[if_neg hu,if_neg h7] at hW
         refine⟨n.a.going=true∨n.a.try_=0,⟨fun hg=>⟨rfl,subH,.inl hg⟩,fun hg=>⟨rfl,subH,⟨fun hh=>hh.resolve_left (by rw[hg];simp),.inr⟩⟩⟩,fun hg=> ?_,fun hg=> ?_⟩
         ·rw[if_pos hg] at hW
          exact bad hW g0 _
         ·rw[if_neg hg] at hW
          refine(cReport h.sub h.own.parts h.own.at_.nod h0 (by omega) b).mono fun v css H2 e2 hv=> ?_
          obtain⟨G2,g2,p2,rfl,hcss,hP2,n1,n2,n3,n4⟩:=hv
          exact⟨rfl,wld16 hcss fun hN2=>good hW ((h.start.grown g2).be hP2 n1 n2 n3 n4) _⟩
   ·exact bad (by unfold wHap;rw[if_neg hφ,if_neg h11,if_neg hk,if_pos (by omega)]) g0 _
end
noncomputable def TryzInH:InlFn:=inlOf Tryz.prog TryzListT [(91,Tryz.f91)] TryzSumT
theorem TryzinH(j:Bool):InlOk Tryz.prog ⟨TryzListT,TryzInH,j⟩:=inl_ok (TryzsumTT true) Tryzmixed fun p hp=>by
 simp only[List.mem_cons,List.not_mem_nil,or_false] at hp
 subst hp
 exact⟨Tryz.func91,body_some (by kernel_rfl),ops_ok (by kernel_rfl),by decide⟩
noncomputable def TryzSumH:InlFn:=fun base H0 g pre own H f=>
 if g=91 then genC wHap (fun w _=>w=w) base pre own H f
 else TryzSum base H0 g pre own H f
theorem TryzsumH(j:Bool):InlOk Tryz.prog ⟨TryzListK,TryzSumH,j⟩:=by
 intro base H0 g pre own H f p hp
 unfold TryzSumH at hp
 dsimp only at hp
 split at hp
 ·rename_i e;subst e
  refine⟨by show TryzListK.contains 91=true;decide,fun h C w0 own0 w hb _ hw _=>genC_ok (TryzinH true) (fun{base H0 G H w p rows x a l c b f} h1 _ hf=>⟨_,rfl,happ_in h1 hf⟩) hp h C w0 own0 w hb hw⟩
 ·exact TryzsumK j base H0 g pre own H f p hp
noncomputable def TryzMutsH:Muts:=⟨TryzListK,TryzSumH,true⟩
theorem TryzvcH{f:FuncId}{fn:Func}(hf: Tryz.prog.funcs[f]?=some fn)(hok:okFn fn=true){args:List Value}(hargs:Nat.ble args.length fn.ntmps=true){H:Heap}(Q:Value->Heap->Prop){sv:List SV}(hsv:args.map SV.v=sv)
  {F:Nat->(Value->List (List Value)->Heap->Prop)->Prop} (hv:∀base K,funV ⟨Tryz.prog,fn.ntmps,TryzMutsH,base,H⟩ (bodyOf fn) fn.results.toList sv [] K=F base K)
  (h:∀base,(∀b k,H b=some k->b<base)->F base (fun v _ H'=>Q v H')):Spec Tryz.prog f args H Q:=
 spec_of (muts:= TryzMutsH) (TryzsumH true) hf (body_some hok) rfl Tryzmixed (ops_ok hok) (Nat.le_of_ble_eq_true hargs) fun base hb=>by
  rw[hsv,hv base]
  exact h base hb
open Go Go.Proofs
theorem vx39(id bud:Int)(fa ra wa:O)(fl fc rl rc wl wc:Nat)(now goal nx:Int)(back:Bool)(la ka:O)(ll lc kl kc:Nat)(sa ta:O)(sl sc tl tc:Nat)(up:Bool)(na ma:O)(nl nc ml mc:Nat)(ha:O)(hl hc:Nat)(base:Nat)(H:Heap)(K:KT):
 (fV TryzMutsH Tryz.f39 base H [.v (A #[I Z id,S fa fl fc,S ra rl rc,S wa wl wc,I Z bud,S la ll lc,I Z now,I Z goal,B back,S ka kl kc,I Z nx,S sa sl sc,S ta tl tc,B up,S na nl nc,S ma ml mc]),.v (S ha hl hc)] [] K)=(
 (fun w8:LV=>(fun w7:LL=>∀a b:Nat,Y Tryz.prog 31 w8 H fun c d=>∃e,c=I Z e/\(X base H d->(¬e=0->K (T #[A #[I Z 0,S none 0 0,S none 0 0,S none 0 0,I Z 0,S none 0 0,I Z 0,I Z 0,B false,S none 0 0,I Z 0,S none 0 0,S none 0 0,B false,S none 0 0,S none 0 0],S none 0 0,I Z e]) [] d)/\(¬¬e=0->(150<(hl:Int)->K (T #[A #[I Z 0,S none 0 0,S none 0 0,S none 0 0,I Z 0,S none 0 0,I Z 0,I Z 0,B false,S none 0 0,I Z 0,S none 0 0,S none 0 0,B false,S none 0 0,S none 0 0],S none 0 0,I Z 2]) [] d)/\(¬150<(hl:Int)->Y Tryz.prog 90 w8 d fun g h=>∃(i:Int)(j:O)(k l:Nat)(m:O)(n o:Nat)(p:O)(q r:Nat)(s:Int)(t:O)(u v:Nat)(w x:Int)(y:Bool)(z:O)(a1 b1:Nat)(c1:Int)(d1:O)(e1 f1:Nat)(g1:O)(h1 i1:Nat)(j1:Bool)(k1:O)(l1 m1:Nat)(n1:O)(o1 p1:Nat),(fun w6:AV=>g=A w6/\(X base d h->∃(q1:NI)(r1:Nat),q1 r1 [S none 0 0,I Z 0,A w6] h/\∀(s1:Nat)(t1:O)(u1 v1:Nat)(w1 x1:Int)(y1:O)(z1 a2:Nat)(b2:O)(c2 d2:Nat)(e2:O)(f2 g2:Nat)(h2:Int)(i2:O)(j2 k2:Nat)(l2 m2:Int)(n2:Bool)(o2:O)(p2 q2:Nat)(r2:Int)(s2:O)(t2 u2:Nat)(v2:O)(w2 x2:Nat)(y2:Bool)(z2:O)(a3 b3:Nat)(c3:O)(d3 e3:Nat)(f3:Heap),(fun w5:AV=>X base H f3->q1 s1 [S t1 u1 v1,I Z w1,A w5] f3->(w1<(hl:Int)->∃g3 h3,ha=some (D g3 h3 none)/\0<=w1/\w1<(hl:Int)/\∃(i3 j3 k3:Int)(l3:Bool)(m3:O)(n3 o3:Nat),(C f3 g3 (h3+N w1*5)=some (I Z i3)/\C f3 g3 (h3+N w1*5+1)=some (I Z j3)/\C f3 g3 (h3+N w1*5+2)=some (I Z k3)/\C f3 g3 (h3+N w1*5+3)=some (B l3)/\C f3 g3 (h3+N w1*5+4)=some (S m3 n3 o3)/\True)/\∀p3:Nat,Y Tryz.prog 90 [A w5] f3 fun q3 r3=>∃s3 t3 u3 v3 w3 x3 y3 z3 a4 b4 c4 d4 e4 f4 g4 h4 i4 j4 k4 l4 m4 n4 o4 p4 q4 r4 s4 t4 u4 v4 w4 x4 y4 z4,q3=A #[I Z s3,S t3 u3 v3,S w3 x3 y3,S z3 a4 b4,I Z c4,S d4 e4 f4,I Z g4,I Z h4,B i4,S j4 k4 l4,I Z m4,S n4 o4 p4,S q4 r4 s4,B t4,S u4 v4 w4,S x4 y4 z4]/\(X base f3 r3->∀a5:Nat,∃(b5:Wld)(c5:WA)(d5:Heap)(e5:List (List Value))(f5:Hap)(g5:O)(h5 i5:Nat),(41=41/\ [I Z s3,S t3 u3 v3,S w3 x3 y3,S z3 a4 b4,I Z c4,S d4 e4 f4,I Z g4,I Z h4,B i4,S j4
 k4 l4,I Z m4,S n4 o4 p4,S q4 r4 s4,B t4,S u4 v4 w4,S x4 y4 z4]=wldCells b5 c5/\A #[I Z i3,I Z j3,I Z k3,B l3,S m3 n3 o3]=A #[I Z (Hap.kind f5),I Z (Hap.agent f5),I Z (Hap.num f5),B (Hap.good f5),S g5 h5 i5]/\true=true)/\HapPre base d5 r3 b5 c5 e5 f5 g5 h5/\b5=b5/\∀(j5:Int)(k5:Wld)(l5:WA)(m5:Heap)(n5:List (List Value))(o5:Heap),RunPost (wHap b5 f5) base d5 r3 b5 c5 j5 k5 l5 m5 n5 o5->(j5=0->∀p5:Nat,∃q5:List Value,Row base o5 42 1 t1 u1 v1 q5/\(u1+1)*8<=140737488355328/\u1+1<=9223372036854775807/\∀(r5:O)(s5:Nat)(t5:Heap),Grew base o5 t5 t1 v1 r5 s5 (u1+1)->Row base t5 42 1 r5 (u1+1) s5 (q5++[I Z j5])->∀u5:Int,u5=W Z (w1+1)->w7=w7/\∃v5:Nat,v5<s1/\q1 v5 [S r5 (u1+1) s5,I Z u5,A (wldCells k5 l5).toArray] t5)/\(¬j5=0->∀p5:Nat,∃q5:List Value,Row base o5 42 1 t1 u1 v1 q5/\(u1+1)*8<=140737488355328/\u1+1<=9223372036854775807/\∀(r5:O)(s5:Nat)(t5:Heap),Grew base o5 t5 t1 v1 r5 s5 (u1+1)->Row base t5 42 1 r5 (u1+1) s5 (q5++
 [I Z j5])->∀u5:Int,u5=W Z (w1+1)->w7=w7/\∃v5:Nat,v5<s1/\q1 v5 [S r5 (u1+1) s5,I Z u5,A w5] t5)))/\(¬w1<(hl:Int)->K (T #[A w5,S t1 u1 v1,I Z 0]) [] f3)) #[I Z x1,S y1 z1 a2,S b2 c2 d2,S e2 f2 g2,I Z h2,S i2 j2 k2,I Z l2,I Z m2,B n2,S o2 p2 q2,I Z r2,S s2 t2 u2,S v2 w2 x2,B y2,S z2 a3 b3,S c3 d3 e3])) #[I Z i,S j k l,S m n o,S p q r,I Z s,S t u v,I Z w,I Z x,B y,S z a1 b1,I Z c1,S d1 e1 f1,S g1 h1 i1,B j1,S k1 l1 m1,S n1 o1 p1])))) [[I Z 0,S none 0 0,S none 0 0,S none 0 0,I Z 0,S none 0 0,I Z 0,I Z 0,B false,S none 0 0,I Z 0,S none 0 0,S none 0 0,B false,S none 0 0,S none 0 0]]) [A #[I Z id,S fa fl fc,S ra rl rc,S wa wl wc,I Z bud,S la ll lc,I Z now,I Z goal,B back,S ka kl kc,I Z nx,S sa sl sc,S ta tl tc,B up,S na nl nc,S ma ml mc]]):=by kernel_rfl
open Go Go.Proofs
open Go.ChangeShapes Go.WideShapes Go.ChangeAt Go.RowKit
theorem kept_of_below{w w':World}(h:BelowX [] w w'):w.keptBut w' (fun _=>False):=by
 refine⟨h.os,h.output,fun i hi=> ?_⟩
 rw[h.block i hi (by simp)]
 split
 ·simp_all
 ·rename_i e1 e2;rw[e1] at e2;cases e2;exact .inr ⟨rfl,rfl⟩
 ·rfl
theorem post_mine{HH:Type}{enc:TypeId×Value->HH}{P:Program}{f:Func}{s:ChangeSpec}{apart fresh handsOn:Bool}{W W':World}{args:Array Value}{v:Value}{ds gs:List (DataW HH)}{before pa pv:List MemPlace}
  (hW:DataW.Whole enc P f.params.toList s.vars apart W args.toList ds gs before)
  (hres:∀(b:Nat)(sp:Nat->Bool)(hd:Bool),DataW.TrodAll enc P W' b sp hd f.resultTypes.toList (v.resultList f.resultTypes.size) (s.fn HH (ds++gs)).results [])
  (hargs:DataW.TrodAll enc P W' 0 (fun b=>decide (b<W.heap.size)) true f.params.toList args.toList (s.fn HH (ds++gs)).args pa)
  (hvars:DataW.TrodVars enc P W' (fun b=>decide (b<W.heap.size)) s.vars (s.fn HH (ds++gs)).vars pv)
  (hk:BelowX [] W W'):s.post enc P f apart fresh handsOn false W args v W':=
 ⟨ds,gs,before,[],pa,pv,hW,hres _ _ _,hargs,hvars,World.keptBut_mono (fun _ hp=>hp.elim) (kept_of_below hk),fun h=>by cases h⟩
theorem Spec.calls{P:Program}{f:FuncId}{args:List Value}{H:Heap}{r:Value}(h:Spec P f args H fun v _=>v=r){w:World}(hs:Sees H w):Calls P f args.toArray w fun e w'=>e= .returned r/\BelowX [] w w':=
 Calls.mono (h w hs ⟨by simp,by simp,by simp⟩) fun e w' he=>by
  obtain⟨v,css,H',h1,h2,h3,h4,h5,h6,h7⟩:=he
  exact⟨by rw[h1,h7],by simpa using h3⟩
theorem Tryzown:ownKnob Tryz.prog.godebug=none:=by kernel_rfl
end Go.Vg
namespace Go.Proofs.YtgaegoefbekndaaGreatDoor
open Go Go.Proofs Go.Vg
theorem mayEnterT:Program.mayEnter Tryz.pinned.checked.prog=true:=by kernel_rfl
theorem liftsFinalT:Program.liftsFinal Tryz.pinned.checked.prog=false:=by kernel_rfl
theorem makeT:Program.make Tryz.pinned.checked.prog=some .cut:=by kernel_rfl
end Go.Proofs.YtgaegoefbekndaaGreatDoor
namespace Go.Vg
open Go Go.Proofs
open Go.ChangeShapes Go.WideShapes Go.ChangeAt Go.RowKit
def heapOf(w:World):Heap:=fun b=>
 match w.heap[b]? with
 |some (.cells cur ty fr)=>some ⟨ty,cur.size,decide (fr=(0,0)),fun j=>cur[j]?⟩
 |_=>none
theorem sees_heapOf(w:World):Sees (heapOf w) w:=by
 intro b k h
 unfold heapOf at h
 split at h
 ·rename_i cur ty fr hw
  obtain rfl:=Option.some.inj h
  exact⟨cur,fr,hw,rfl,fun h=>by simpa using h,fun j v hj=>hj⟩
 ·cases h
theorem heapOf_cell{w:World}{b o:Nat}{s:Option Nat}{v:Value}(h:w.cell? ⟨b,o,s⟩=some v):s=none/\(heapOf w).cell b o=some v:=by
 unfold World.cell? at h
 unfold Heap.cell heapOf
 split at h
 ·rename_i c t f hw
  split at h
  ·cases h
  ·rename_i hs
   dsimp only at hw
   rw[hw]
   exact⟨by cases s with|none=>rfl|some x=>simp at hs,by simpa using h⟩
 ·cases h
theorem cells_get{w:World}{base:Nat}{a:Addr}{n:Nat}{cs:List Value}(h:w.cells? base a n=some cs):cs.length=n/\∀(j:Nat) v,cs[j]?=some v->w.cell? (a.add j)=some v:=by
 obtain⟨h1,h2⟩:cs.length=n/\∀(j:Nat) v,cs[j]?=some v->w.cell? (a.add j)=some v:=by
  unfold World.cells? at h
  split at h
  ·have hl:=mapM_some_length h
   refine⟨by simpa using hl,fun j v hj=> ?_⟩
   have hjn:j<n:=by have:=(List.getElem?_eq_some_iff.1 hj).1;simp at hl;omega
   have:=mapM_some_get h j j (by simp[hjn])
   rw[this];exact hj
  ·cases h
 exact⟨h1,h2⟩
theorem list_of_all{α:Type}{Q:Nat->α->Prop} :∀(n:Nat),(∀i,i<n->∃x,Q i x)->∃xs:List α,xs.length=n/\∀(i:Nat) x,xs[i]?=some x->Q i x
 |0,_=>⟨[],rfl,by simp⟩
 |n+1,h=>by
  obtain⟨xs,hl,hq⟩:=list_of_all n fun i hi=>h i (by omega)
  obtain⟨x,hx⟩:=h n (by omega)
  refine⟨xs++[x],by simp[hl],fun i y hy=> ?_⟩
  by_cases hi:i<n
  ·rw[List.getElem?_append_left (by omega)] at hy;exact hq i y hy
  ·rw[List.getElem?_append_right (by omega)] at hy
   have:i=n:=by
    have:=(List.getElem?_eq_some_iff.1 hy).1
    simp at this;omega
   subst this
   rw[hl,Nat.sub_self] at hy
   simp at hy;subst hy;exact hx
section
variable {HH : Type} {enc : TypeId × Value->HH} {P : Program} {w : World} {base : Nat} {spare : Nat->Bool} {held : Bool}
def ReadsAs(enc:TypeId×Value->HH)(P:Program)(w:World)(base:Nat)(spare:Nat->Bool)(held:Bool)(t:TypeId){α:Type}(R:Rep α):Prop:=
 ∀(fuel:Nat)(cs:List Value)(x:DataW HH×List MemPlace),DataW.trod enc P w base spare held fuel t cs=some x->∃y:α,R (heapOf w) cs y
theorem reads_int{t:TypeId}(ht:P.underlying t=some (.int .i64)):ReadsAs enc P w base spare held t RInt:=fun _ _ _ h=>by
 obtain⟨n,rfl,_⟩:=DataW.trod_int ht h
 exact⟨n,rfl⟩
theorem reads_slice{t e:TypeId}{sz:Nat}{α:Type}{R:Rep α}(ht:P.underlying t=some (.slice e))(hc:P.cellsOf e=sz)(h0:0<sz)(hR:ReadsAs enc P w base spare held e R)(hlen:∀ {H:Heap} {r:List Value} {x:α},R H r x->r.length=sz):
  ReadsAs enc P w base spare held t (RSl R sz):=fun fuel cs x h=>by
 rcases DataW.trod_slice ht h with⟨rfl,rfl⟩|⟨a,len,cap,elems,rest,n,rfl,rfl,rfl,hb,hl,hm,hlen',hel,_,_⟩
 ·exact⟨[],none,0,0,rfl,Sl.nil⟩
 ·have hmax:maxLen=9223372036854775807:=rfl
  have each:∀i,i<len->∃(y:α),∃r,R (heapOf w) r y/\∀(j:Nat) v,r[j]?=some v->w.cell? ((a.add (i*sz)).add j)=some v:=by
   intro i hi
   have:=hel i hi
   rw[List.getElem?_eq_getElem (by omega),Option.bind_eq_some_iff] at this
   obtain⟨cs',hcs,hd⟩:=this
   obtain⟨y,hy⟩:=hR _ _ _ hd
   rw[hc] at hcs
   exact⟨y,cs',hy,fun j v hj=>(cells_get hcs).2 j v hj⟩
  obtain⟨xs,hxl,hxs⟩:=list_of_all len each
  refine⟨xs,some a,len,cap,rfl,hxl,by omega,fun hpos=> ?_⟩
  obtain⟨b,o,s⟩:=a
  have hs:s=none:=by
   obtain⟨y,r,hr,hv⟩:=each 0 hpos
   have hrl:=hlen hr
   have:=hv 0 (r[0]'(by omega)) (List.getElem?_eq_getElem (by omega))
   rw[Nat.zero_mul] at this
   exact(heapOf_cell (by simpa[Addr.add] using this)).1
  subst hs
  refine⟨b,o,rfl,fun i y hy=> ?_⟩
  obtain⟨r,hr,hv⟩:=hxs i y hy
  refine⟨r,hr,fun j v hj=> ?_⟩
  have h1:=hv j v hj
  have e1:((⟨b,o,none⟩:Addr).add (i*sz)).add j=⟨b,o+i*sz+j,none⟩:=by
   unfold Addr.add
   split<;>split<;>simp_all
  rw[e1] at h1
  exact(heapOf_cell h1).2
theorem RInt.len{H:Heap}{r:List Value}{x:Int}(h:RInt H r x):r.length=1:=by cases h;rfl
theorem RSl.len{α:Type}{R:Rep α}{sz:Nat}{H:Heap}{r:List Value}{x:List α}(h:RSl R sz H r x):r.length=1:=by obtain⟨a,n,c,rfl,_⟩:=h;rfl
theorem arg_slice{r:Reach}{b0:Nat}{t e:TypeId}{sz:Nat}{α:Type}{R:Rep α}{v:Value}{d:DataW HH}{ps:List MemPlace}(ht:P.underlying t=some (.slice e))(hval:Value.okWide P w r b0 t v)
  (hR:ReadsAs enc P w base spare held t (RSl R sz)) (hd:DataW.Trod enc P w base spare held t v d ps):∃a n c xs,v= .slice a n c/\Sl R sz (heapOf w) a n xs/\n<=c:=by
 obtain⟨a,n,c,rfl⟩:=okWide_slice ht hval
 obtain⟨fuel,hf⟩:=hd
 obtain⟨xs,a',n',c',h,hs⟩:=hR _ _ _ hf
 simp[Value.cells] at h
 obtain⟨rfl,rfl,rfl⟩:=h
 refine⟨a,n,c,xs,rfl,hs,?_⟩
 rcases DataW.trod_slice ht hf with⟨h,_⟩|⟨a2,len,cap,elems,rest,m,_,h,_,_,hl,_⟩
 ·simp[Value.cells] at h;omega
 ·simp[Value.cells] at h;omega
theorem arg_int{r:Reach}{b0:Nat}{t:TypeId}{v:Value}{d:DataW HH}{ps:List MemPlace}(ht:P.underlying t=some (.int .i64))(hval:Value.okWide P w r b0 t v)(hd:DataW.Trod enc P w base spare held t v d ps):
  ∃n:Int,v=i64 n/\ -9223372036854775808<=n/\n<=9223372036854775807:=by
 obtain⟨n,rfl,_,_,hw⟩:=open_int ht hval hd
 exact⟨n,rfl,bounds_i64 hw⟩
theorem arg_struct{r:Reach}{b0:Nat}{t:TypeId}{fs:Array Field}{α:Type}{R:Rep α}{v:Value}{d:DataW HH}{ps:List MemPlace}(ht:P.underlying t=some (.struct fs))(hval:Value.okWide P w r b0 t v)
  (hR:ReadsAs enc P w base spare held t R) (hd:DataW.Trod enc P w base spare held t v d ps):∃(cs:List Value)(x:α),v= .agg cs.toArray/\R (heapOf w) cs x:=by
 obtain⟨cs,rfl,_⟩:=okWide_struct ht hval
 obtain⟨fuel,hf⟩:=hd
 obtain⟨x,hx⟩:=hR _ _ _ hf
 exact⟨cs.toList,x,by simp,by simpa[Value.cells] using hx⟩
theorem sameAt_of_below{w':World}(h:BelowX [] w w'){p:MemPlace}(hp:p.block<w.heap.size):w.sameAt w' p:=by
 cases p with
 |cell b o=>
  have:=h.block b hp (by simp)
  show w'.cell? ⟨b,o,none⟩=w.cell? ⟨b,o,none⟩
  unfold World.cell?
  dsimp only
  rw[this]
 |map b=>exact h.block b hp (by simp)
theorem trodAll_stays{w':World}(K:Kids P (· <P.types.size))(hsz:∀ {t e:TypeId},t<P.types.size->P.underlying t=some (.slice e)->0<P.cellsOf e)(hb:BelowX [] w w'):
  ∀ {ts:List TypeId} {vs:List Value} {ds:List (DataW HH)} {ps:List MemPlace},(∀t∈ts,t<P.types.size)->DataW.TrodAll enc P w 0 (fun _=>true) true ts vs ds ps->
   DataW.TrodAll enc P w' 0 (fun b=>decide (b<w.heap.size)) true ts vs ds ps
 | [],[],[],ps,_,h=>h
 |t::ts,v::vs,d::ds,ps,ht,h=>by
  obtain⟨p,q,⟨fuel,h1⟩,h2,rfl⟩:=h
  refine⟨p,q,⟨fuel,?_⟩,trodAll_stays K hsz hb (fun x hx=>ht x (List.mem_cons_of_mem _ hx)) h2,rfl⟩
  have hlt:=DataW.trod_lt fuel t _ _ h1
  exact DataW.trod_stays K hsz (fun h=>by cases h) (ht t List.mem_cons_self) h1 (fun p hp=>sameAt_of_below hb (hlt p hp)) (fun p hp=>by simpa using hlt p hp)
 | [],_::_,_,_,_,h=>h.elim
 | [],[],_::_,_,_,h=>h.elim
 |_::_,[],_,_,_,h=>h.elim
 |_::_,_::_,[],_,_,h=>h.elim
end
def sizedSlices(P:Program):Bool:=(List.range P.types.size).all fun t=>match P.underlying t with|some (.slice e)=>decide (0<P.cellsOf e)|_=>true
theorem sized_of{P:Program}(h:sizedSlices P=true){t e:TypeId}(ht:t<P.types.size)(hu:P.underlying t=some (.slice e)):0<P.cellsOf e:=by
 have:=List.all_eq_true.1 h t (List.mem_range.2 ht)
 simpa[hu] using this
theorem Tryzkids:Kids Tryz.prog (· < Tryz.prog.types.size):=kids_rows (by kernel_rfl) (by kernel_rfl)
theorem Tryzsized:sizedSlices Tryz.prog=true:=by kernel_rfl
theorem TryztrodAll{HH:Type}{enc:TypeId×Value->HH}{w w':World}(hb:BelowX [] w w'){ts:List TypeId}{vs:List Value}{ds:List (DataW HH)}{ps:List MemPlace}(ht:∀t∈ts,t< Tryz.prog.types.size)(h:DataW.TrodAll enc Tryz.prog w 0 (fun _=>true) true ts vs ds ps):
  DataW.TrodAll enc Tryz.prog w' 0 (fun b=>decide (b<w.heap.size)) true ts vs ds ps:=trodAll_stays Tryzkids (sized_of Tryzsized) hb ht h
open Go Go.Proofs
open Go.ChangeShapes Go.WideShapes Go.ChangeAt Go.RowKit
section
variable {HH : Type} {enc : TypeId × Value->HH} {w : World} {base : Nat} {spare : Nat->Bool} {held : Bool}
theorem fieldAt{P:Program}{t:TypeId}{fs:Array Field}{fuel:Nat}{cs:List Value}{x:DataW HH×List MemPlace}(ht:P.underlying t=some (.struct fs))(h:DataW.trod enc P w base spare held fuel t cs=some x){i:Nat}{f:Field}(hf:fs[i]?=some f):
  ∃n y,DataW.trod enc P w base spare held n f.type ((cs.drop f.offset).take (P.cellsOf f.type))=some y:=by
 obtain⟨xs,n,rfl,rfl,_,hl,hx⟩:=DataW.trod_struct ht h
 have hi:i<fs.size:=(Array.getElem?_eq_some_iff.1 hf).1
 exact⟨n,xs[i]'(by omega),by rw[hx i f hf,List.getElem?_eq_getElem (by omega)]⟩
theorem structLen{P:Program}{t:TypeId}{fs:Array Field}{fuel:Nat}{cs:List Value}{x:DataW HH×List MemPlace}(ht:P.underlying t=some (.struct fs))(h:DataW.trod enc P w base spare held fuel t cs=some x):cs.length=P.cellsOf t:=by
 obtain⟨xs,n,rfl,rfl,hl,_⟩:=DataW.trod_struct ht h
 exact hl
theorem fieldInt{P:Program}{t:TypeId}{fs:Array Field}{fuel:Nat}{cs:List Value}{x:DataW HH×List MemPlace}(ht:P.underlying t=some (.struct fs))(h:DataW.trod enc P w base spare held fuel t cs=some x){i:Nat}{f:Field}(hf:fs[i]?=some f){k:Nat}
  (hu:P.underlying f.type=some (.int .i64)) (hc:P.cellsOf f.type=1) (ho:f.offset=k):∃n:Int,cs[k]?=some (i64 n)/\ -9223372036854775808<=n/\n<=9223372036854775807:=by
 obtain⟨m,y,hy⟩:=fieldAt ht h hf
 obtain⟨n,h1,_,hw⟩:=DataW.trod_int hu hy
 rw[hc,ho] at h1
 refine⟨n,?_,bounds_i64 hw⟩
 have:((cs.drop k).take 1)[0]?=some (i64 n):=by rw[h1];rfl
 simpa using this
theorem fieldBool{P:Program}{t:TypeId}{fs:Array Field}{fuel:Nat}{cs:List Value}{x:DataW HH×List MemPlace}(ht:P.underlying t=some (.struct fs))(h:DataW.trod enc P w base spare held fuel t cs=some x){i:Nat}{f:Field}(hf:fs[i]?=some f){k:Nat}
  (hu:P.underlying f.type=some .bool) (hc:P.cellsOf f.type=1) (ho:f.offset=k):∃n:Bool,cs[k]?=some (.bool n):=by
 obtain⟨m,y,hy⟩:=fieldAt ht h hf
 obtain⟨n,h1,_⟩:=DataW.trod_bool hu hy
 rw[hc,ho] at h1
 refine⟨n,?_⟩
 have:((cs.drop k).take 1)[0]?=some (.bool n):=by rw[h1];rfl
 simpa using this
theorem cells2{cs:List Value}(h:cs.length=2){x y:Value}(h0:cs[0]?=some x)(h1:cs[1]?=some y):cs=[x,y]:=by
 match cs,h with
 | [a,b],_=>simp at h0 h1;rw[h0,h1]
theorem cells4{cs:List Value}(h:cs.length=4){x y z u:Value}(h0:cs[0]?=some x)(h1:cs[1]?=some y)(h2:cs[2]?=some z)(h3:cs[3]?=some u):cs=[x,y,z,u]:=by
 match cs,h with
 | [a,b,c,d],_=>simp at h0 h1 h2 h3;rw[h0,h1,h2,h3]
theorem REnc.len{α:Type}{e:α->List Value}{sz:Nat}(hs:∀x,(e x).length=sz){H:Heap}{r:List Value}{x:α}(h:REnc e H r x):r.length=sz:=by cases h;exact hs x
theorem reads_pin:ReadsAs enc Tryz.prog w base spare held 91 RPin:=fun fuel cs x h=>by
 have c3: Tryz.prog.cellsOf 3=1:=by kernel_rfl
 have c48: Tryz.prog.cellsOf 91=2:=by kernel_rfl
 have hl:=structLen Tryz.underlying91 h
 rw[c48] at hl
 obtain⟨a,ha,_⟩:=fieldInt Tryz.underlying91 h (i:=0) rfl Tryz.underlying3 c3 rfl
 obtain⟨b,hb,_⟩:=fieldInt Tryz.underlying91 h (i:=1) rfl Tryz.underlying3 c3 rfl
 exact⟨⟨a,b⟩,cells2 hl ha hb⟩
theorem reads_rule:ReadsAs enc Tryz.prog w base spare held 152 RRule:=fun fuel cs x h=>by
 have c3: Tryz.prog.cellsOf 3=1:=by kernel_rfl
 have c54: Tryz.prog.cellsOf 152=4:=by kernel_rfl
 have hl:=structLen Tryz.underlying152 h
 rw[c54] at hl
 obtain⟨a,ha,_⟩:=fieldInt Tryz.underlying152 h (i:=0) rfl Tryz.underlying3 c3 rfl
 obtain⟨b,hb,_⟩:=fieldInt Tryz.underlying152 h (i:=1) rfl Tryz.underlying3 c3 rfl
 obtain⟨c,hc,_⟩:=fieldInt Tryz.underlying152 h (i:=2) rfl Tryz.underlying3 c3 rfl
 obtain⟨d,hd,_⟩:=fieldInt Tryz.underlying152 h (i:=3) rfl Tryz.underlying3 c3 rfl
 exact⟨⟨a,b,c,d⟩,cells4 hl ha hb hc hd⟩
theorem reads_pins:ReadsAs enc Tryz.prog w base spare held 22 (RSl RPin 2):=reads_slice Tryz.underlying22 (by kernel_rfl) (by omega) reads_pin (REnc.len pinCells_len)
theorem reads_rules:ReadsAs enc Tryz.prog w base spare held 25 (RSl RRule 4):=reads_slice Tryz.underlying25 (by kernel_rfl) (by omega) reads_rule (REnc.len ruleCells_len)
theorem reads_ints:ReadsAs enc Tryz.prog w base spare held 97 (RSl RInt 1):=reads_slice Tryz.underlying97 (by kernel_rfl) (by omega) (reads_int Tryz.underlying3) RInt.len
theorem reads_waves:ReadsAs enc Tryz.prog w base spare held 26 (RSl (RSl RInt 1) 1):=reads_slice Tryz.underlying26 (by kernel_rfl) (by omega) reads_ints RSl.len
end
open Go Go.Proofs
open Go.ChangeShapes Go.WideShapes Go.ChangeAt Go.RowKit
section
variable {HH : Type} {enc : TypeId × Value->HH} {w : World} {base : Nat} {spare : Nat->Bool} {held : Bool}
theorem fieldSl{P:Program}{t:TypeId}{fs:Array Field}{fuel:Nat}{cs:List Value}{x:DataW HH×List MemPlace}(ht:P.underlying t=some (.struct fs))(h:DataW.trod enc P w base spare held fuel t cs=some x){i:Nat}{f:Field}(hf:fs[i]?=some f){k:Nat}{α:Type}{R:Rep α}{sz:Nat}
  (hR:ReadsAs enc P w base spare held f.type (RSl R sz)) (hc:P.cellsOf f.type=1) (ho:f.offset=k):∃a n c xs,cs[k]?=some (.slice a n c)/\Sl R sz (heapOf w) a n xs:=by
 obtain⟨m,y,hy⟩:=fieldAt ht h hf
 obtain⟨xs,a,n,c,h1,hs⟩:=hR _ _ _ hy
 rw[hc,ho] at h1
 refine⟨a,n,c,xs,?_,hs⟩
 have:((cs.drop k).take 1)[0]?=some (.slice a n c):=by rw[h1];rfl
 simpa using this
theorem fieldStruct{P:Program}{t:TypeId}{fs:Array Field}{fuel:Nat}{cs:List Value}{x:DataW HH×List MemPlace}(ht:P.underlying t=some (.struct fs))(h:DataW.trod enc P w base spare held fuel t cs=some x){i:Nat}{f:Field}(hf:fs[i]?=some f){k n:Nat}{α:Type}{R:Rep α}
  (hR:ReadsAs enc P w base spare held f.type R) (hc:P.cellsOf f.type=n) (ho:f.offset=k):∃x:α,R (heapOf w) ((cs.drop k).take n) x:=by
 obtain⟨m,y,hy⟩:=fieldAt ht h hf
 obtain⟨x,hx⟩:=hR _ _ _ hy
 rw[hc,ho] at hx
 exact⟨x,hx⟩
def RRel:Rep Rls:=fun H r x=>∃a n c,r=[i64 x.id,.slice a n c]/\Pins H a n x.lock
theorem reads_rel:ReadsAs enc Tryz.prog w base spare held 24 RRel:=fun fuel cs x h=>by
 have c3: Tryz.prog.cellsOf 3=1:=by kernel_rfl
 have c40: Tryz.prog.cellsOf 22=1:=by kernel_rfl
 have c59: Tryz.prog.cellsOf 24=2:=by kernel_rfl
 have hl:=structLen Tryz.underlying24 h
 rw[c59] at hl
 obtain⟨i,hi,_⟩:=fieldInt Tryz.underlying24 h (i:=0) rfl Tryz.underlying3 c3 rfl
 obtain⟨a,n,c,xs,ha,hp⟩:=fieldSl Tryz.underlying24 h (i:=1) rfl reads_pins c40 rfl
 exact⟨⟨i,xs⟩,a,n,c,cells2 hl hi ha,hp⟩
theorem reads_mail:ReadsAs enc Tryz.prog w base spare held 74 RMail:=fun fuel cs x h=>by
 have c3: Tryz.prog.cellsOf 3=1:=by kernel_rfl
 have c4: Tryz.prog.cellsOf 4=1:=by kernel_rfl
 have c59: Tryz.prog.cellsOf 24=2:=by kernel_rfl
 have c61: Tryz.prog.cellsOf 74=6:=by kernel_rfl
 have hl:=structLen Tryz.underlying74 h
 rw[c61] at hl
 obtain⟨ag,h0,_⟩:=fieldInt Tryz.underlying74 h (i:=0) rfl Tryz.underlying3 c3 rfl
 obtain⟨tr,h1,_⟩:=fieldInt Tryz.underlying74 h (i:=1) rfl Tryz.underlying3 c3 rfl
 obtain⟨rp,h2⟩:=fieldBool Tryz.underlying74 h (i:=2) rfl Tryz.underlying4 c4 rfl
 obtain⟨gd,h3⟩:=fieldBool Tryz.underlying74 h (i:=3) rfl Tryz.underlying4 c4 rfl
 obtain⟨r,a,n,c,h4,hp⟩:=fieldStruct Tryz.underlying74 h (i:=4) rfl reads_rel c59 rfl
 refine⟨⟨ag,tr,rp,gd,r⟩,a,n,c,?_,hp⟩
 match cs,hl with
 | [x0,x1,x2,x3,x4,x5],_=>
  simp at h0 h1 h2 h3 h4
  obtain⟨rfl,rfl⟩:=h4
  subst h0 h1 h2 h3
  rfl
theorem reads_mails:ReadsAs enc Tryz.prog w base spare held 39 (RSl RMail 6):=reads_slice Tryz.underlying39 (by kernel_rfl) (by omega) reads_mail RMail.len
end
open Go Go.Proofs
open Go.ChangeShapes Go.WideShapes Go.ChangeAt Go.RowKit
section
variable {HH : Type} {enc : TypeId × Value->HH} {w : World} {base : Nat} {spare : Nat->Bool} {held : Bool}
def RAgt:Rep Agt:=fun H r x=>∃a n c ga gn gc,r=[.slice a n c,i64 x.at_,i64 x.try_,.bool x.going,i64 x.goal.id,.slice ga gn gc,.bool x.good]/\Pins H a n x.lock/\Pins H ga gn x.goal.lock
theorem reads_agt:ReadsAs enc Tryz.prog w base spare held 46 RAgt:=fun fuel cs x h=>by
 have c3: Tryz.prog.cellsOf 3=1:=by kernel_rfl
 have c4: Tryz.prog.cellsOf 4=1:=by kernel_rfl
 have c40: Tryz.prog.cellsOf 22=1:=by kernel_rfl
 have c59: Tryz.prog.cellsOf 24=2:=by kernel_rfl
 have c86: Tryz.prog.cellsOf 46=7:=by kernel_rfl
 have hl:=structLen Tryz.underlying46 h
 rw[c86] at hl
 obtain⟨a,n,c,xs,h0,hp⟩:=fieldSl Tryz.underlying46 h (i:=0) rfl reads_pins c40 rfl
 obtain⟨at_,h1,_⟩:=fieldInt Tryz.underlying46 h (i:=1) rfl Tryz.underlying3 c3 rfl
 obtain⟨tr,h2,_⟩:=fieldInt Tryz.underlying46 h (i:=2) rfl Tryz.underlying3 c3 rfl
 obtain⟨go,h3⟩:=fieldBool Tryz.underlying46 h (i:=3) rfl Tryz.underlying4 c4 rfl
 obtain⟨r,ga,gn,gc,h4,hg⟩:=fieldStruct Tryz.underlying46 h (i:=4) rfl reads_rel c59 rfl
 obtain⟨gd,h5⟩:=fieldBool Tryz.underlying46 h (i:=5) rfl Tryz.underlying4 c4 rfl
 refine⟨⟨xs,at_,tr,go,r,gd⟩,a,n,c,ga,gn,gc,?_,hp,hg⟩
 match cs,hl with
 | [x0,x1,x2,x3,x4,x5,x6],_=>
  simp at h0 h1 h2 h3 h4 h5
  obtain⟨rfl,rfl⟩:=h4
  subst h0 h1 h2 h3 h5
  rfl
end
open Go Go.Proofs
open Go.ChangeShapes Go.WideShapes Go.ChangeAt Go.RowKit
section
variable {HH : Type} {enc : TypeId × Value->HH} {w : World} {base : Nat} {spare : Nat->Bool} {held : Bool}
theorem reads_kn:ReadsAs enc Tryz.prog w base spare held 95 (REnc knCells):=fun fuel cs x h=>by
 have c3: Tryz.prog.cellsOf 3=1:=by kernel_rfl
 have c4: Tryz.prog.cellsOf 4=1:=by kernel_rfl
 have c111: Tryz.prog.cellsOf 95=3:=by kernel_rfl
 have hl:=structLen Tryz.underlying95 h
 rw[c111] at hl
 obtain⟨st,h0,_⟩:=fieldInt Tryz.underlying95 h (i:=0) rfl Tryz.underlying3 c3 rfl
 obtain⟨tr,h1,_⟩:=fieldInt Tryz.underlying95 h (i:=1) rfl Tryz.underlying3 c3 rfl
 obtain⟨bk,h2⟩:=fieldBool Tryz.underlying95 h (i:=2) rfl Tryz.underlying4 c4 rfl
 refine⟨⟨st,tr,bk⟩,?_⟩
 match cs,hl with
 | [x0,x1,x2],_=>
  simp at h0 h1 h2
  subst h0 h1 h2
  rfl
theorem reads_kns:ReadsAs enc Tryz.prog w base spare held 30 (RSl (REnc knCells) 3):=reads_slice Tryz.underlying30 (by kernel_rfl) (by omega) reads_kn (REnc.len knCells_len)
theorem reads_rl:ReadsAs enc Tryz.prog w base spare held 24 RRl:=fun fuel cs x h=>by
 have c3: Tryz.prog.cellsOf 3=1:=by kernel_rfl
 have c40: Tryz.prog.cellsOf 22=1:=by kernel_rfl
 have c59: Tryz.prog.cellsOf 24=2:=by kernel_rfl
 have hl:=structLen Tryz.underlying24 h
 rw[c59] at hl
 obtain⟨i,hi,h1,h2⟩:=fieldInt Tryz.underlying24 h (i:=0) rfl Tryz.underlying3 c3 rfl
 obtain⟨a,n,c,xs,ha,hp⟩:=fieldSl Tryz.underlying24 h (i:=1) rfl reads_pins c40 rfl
 exact⟨⟨i,xs⟩,a,n,c,cells2 hl hi ha,hp,h1,h2⟩
theorem reads_rls:ReadsAs enc Tryz.prog w base spare held 29 (RSl RRl 2):=reads_slice Tryz.underlying29 (by kernel_rfl) (by omega) reads_rl RRl.len
def RConf:Rep Conf:=fun H r x=>∃fa fl fc ra rl rc wa wl wc,r=[i64 x.first.id,.slice fa fl fc,.slice ra rl rc,.slice wa wl wc,i64 x.bud]/\CfgAt H x fa fl ra rl wa wl
theorem reads_conf:ReadsAs enc Tryz.prog w base spare held 28 RConf:=fun fuel cs x h=>by
 have c3: Tryz.prog.cellsOf 3=1:=by kernel_rfl
 have c41: Tryz.prog.cellsOf 25=1:=by kernel_rfl
 have c27: Tryz.prog.cellsOf 26=1:=by kernel_rfl
 have c59: Tryz.prog.cellsOf 24=2:=by kernel_rfl
 have c101: Tryz.prog.cellsOf 28=5:=by kernel_rfl
 have hl:=structLen Tryz.underlying28 h
 rw[c101] at hl
 obtain⟨r,fa,fl,fc,h0,hp⟩:=fieldStruct Tryz.underlying28 h (i:=0) rfl reads_rel c59 rfl
 obtain⟨ra,rl,rc,rs,h1,hr⟩:=fieldSl Tryz.underlying28 h (i:=1) rfl reads_rules c41 rfl
 obtain⟨wa,wl,wc,ws,h2,hw⟩:=fieldSl Tryz.underlying28 h (i:=2) rfl reads_waves c27 rfl
 obtain⟨bd,h3,_⟩:=fieldInt Tryz.underlying28 h (i:=3) rfl Tryz.underlying3 c3 rfl
 refine⟨⟨r,rs,ws,bd⟩,fa,fl,fc,ra,rl,rc,wa,wl,wc,?_,hp,hr,hw⟩
 match cs,hl with
 | [x0,x1,x2,x3,x4],_=>
  simp at h0 h1 h2 h3
  obtain⟨rfl,rfl⟩:=h0
  subst h1 h2 h3
  rfl
def RLdr:Rep Ldr:=fun H r x=>∃la ll lc ka kl kc,r=[.slice la ll lc,i64 x.now,i64 x.goal,.bool x.back,.slice ka kl kc,i64 x.nx]/\LdrAt H x la ll ka kl
theorem reads_ldr:ReadsAs enc Tryz.prog w base spare held 32 RLdr:=fun fuel cs x h=>by
 have c3: Tryz.prog.cellsOf 3=1:=by kernel_rfl
 have c4: Tryz.prog.cellsOf 4=1:=by kernel_rfl
 have c102: Tryz.prog.cellsOf 29=1:=by kernel_rfl
 have c103: Tryz.prog.cellsOf 30=1:=by kernel_rfl
 have c105: Tryz.prog.cellsOf 32=6:=by kernel_rfl
 have hl:=structLen Tryz.underlying32 h
 rw[c105] at hl
 obtain⟨la,ll,lc,rs,h0,hr⟩:=fieldSl Tryz.underlying32 h (i:=0) rfl reads_rls c102 rfl
 obtain⟨nw,h1,_⟩:=fieldInt Tryz.underlying32 h (i:=1) rfl Tryz.underlying3 c3 rfl
 obtain⟨gl,h2,_⟩:=fieldInt Tryz.underlying32 h (i:=2) rfl Tryz.underlying3 c3 rfl
 obtain⟨bk,h3⟩:=fieldBool Tryz.underlying32 h (i:=3) rfl Tryz.underlying4 c4 rfl
 obtain⟨ka,kl,kc,ks,h4,hk⟩:=fieldSl Tryz.underlying32 h (i:=4) rfl reads_kns c103 rfl
 obtain⟨nx,h5,_⟩:=fieldInt Tryz.underlying32 h (i:=5) rfl Tryz.underlying3 c3 rfl
 refine⟨⟨rs,nw,gl,bk,ks,nx⟩,la,ll,lc,ka,kl,kc,?_,hr,hk⟩
 match cs,hl with
 | [x0,x1,x2,x3,x4,x5],_=>
  simp at h0 h1 h2 h3 h4 h5
  subst h0 h1 h2 h3 h4 h5
  rfl
end
open Go Go.Proofs
open Go.ChangeShapes Go.WideShapes Go.ChangeAt Go.RowKit
def RSlC{α:Type}(R:Rep α)(sz:Nat):Rep (List α):=fun H r xs=>∃a n c,r=[.slice a n c]/\Sl R sz H a n xs/\n<=c
section
variable {HH : Type} {enc : TypeId × Value->HH} {w : World} {base : Nat} {spare : Nat->Bool} {held : Bool}
theorem reads_sliceC{P:Program}{t e:TypeId}{sz:Nat}{α:Type}{R:Rep α}(ht:P.underlying t=some (.slice e))(hR:ReadsAs enc P w base spare held t (RSl R sz)):ReadsAs enc P w base spare held t (RSlC R sz):=fun fuel cs x h=>by
 obtain⟨xs,a,n,c,rfl,hs⟩:=hR fuel cs x h
 refine⟨xs,a,n,c,rfl,hs,?_⟩
 rcases DataW.trod_slice ht h with⟨h,_⟩|⟨a2,len,cap,elems,rest,m,_,h,_,_,hl,_⟩
 ·simp at h;omega
 ·simp at h;omega
theorem reads_u8{P:Program}{t:TypeId}(ht:P.underlying t=some (.int .u8)):ReadsAs enc P w base spare held t (REnc u8Cell):=fun _ _ _ h=>by
 obtain⟨n,rfl,_,hw⟩:=DataW.trod_int ht h
 have hb:0<=n/\n<=255:=bounds_u8 hw
 refine⟨UInt8.ofNat n.toNat,?_⟩
 show [Value.int .u8 n]=[Value.int .u8 ((UInt8.ofNat n.toNat).toNat:Int)]
 rw[UInt8.toNat_ofNat']
 congr 2
 omega
theorem REnc.len1{H:Heap}{r:List Value}{x:UInt8}(h:REnc u8Cell H r x):r.length=1:=by cases h;rfl
theorem reads_bytes:ReadsAs enc Tryz.prog w base spare held 33 (RSl (REnc u8Cell) 1):=reads_slice Tryz.underlying33 (by kernel_rfl) (by omega) (reads_u8 Tryz.underlying5) REnc.len1
theorem fieldSlC{P:Program}{t:TypeId}{fs:Array Field}{fuel:Nat}{cs:List Value}{x:DataW HH×List MemPlace}(ht:P.underlying t=some (.struct fs))(h:DataW.trod enc P w base spare held fuel t cs=some x){i:Nat}{f:Field}(hf:fs[i]?=some f){k:Nat}{α:Type}{R:Rep α}{sz:Nat}
  (hR:ReadsAs enc P w base spare held f.type (RSlC R sz)) (hc:P.cellsOf f.type=1) (ho:f.offset=k):∃a n c xs,cs[k]?=some (.slice a n c)/\Sl R sz (heapOf w) a n xs/\n<=c:=by
 obtain⟨m,y,hy⟩:=fieldAt ht h hf
 obtain⟨xs,a,n,c,h1,hs,hle⟩:=hR _ _ _ hy
 rw[hc,ho] at h1
 refine⟨a,n,c,xs,?_,hs,hle⟩
 have:((cs.drop k).take 1)[0]?=some (.slice a n c):=by rw[h1];rfl
 simpa using this
def RDsk:Rep Dsk:=fun H r x=>∃sa sn sc wa wn wc,r=[.slice sa sn sc,.slice wa wn wc]/\DskAt H x sa sn sc wa wn wc
theorem reads_disk:ReadsAs enc Tryz.prog w base spare held 35 RDsk:=fun fuel cs x h=>by
 have c22: Tryz.prog.cellsOf 33=1:=by kernel_rfl
 have c24: Tryz.prog.cellsOf 35=2:=by kernel_rfl
 have hl:=structLen Tryz.underlying35 h
 rw[c24] at hl
 obtain⟨sa,sn,sc,xs,h0,hx,l0⟩:=fieldSlC Tryz.underlying35 h (i:=0) rfl (reads_sliceC Tryz.underlying33 reads_bytes) c22 rfl
 obtain⟨wa,wn,wc,ys,h1,hy,l1⟩:=fieldSlC Tryz.underlying35 h (i:=1) rfl (reads_sliceC Tryz.underlying33 reads_bytes) c22 rfl
 refine⟨⟨xs,ys⟩,sa,sn,sc,wa,wn,wc,?_,hx,hy,l0,l1⟩
 match cs,hl with
 | [x0,x1],_=>
  simp at h0 h1
  subst h0 h1
  rfl
end
open Go Go.Proofs
open Go.ChangeShapes Go.WideShapes Go.ChangeAt Go.RowKit
section
variable {HH : Type} {enc : TypeId × Value->HH} {w : World} {base : Nat} {spare : Nat->Bool} {held : Bool}
def RHed:Rep Hed:=fun H r x=>∃la ll lc ka kl kc sa sl sc ta tl tc,r=[.slice la ll lc,i64 x.l.now,i64 x.l.goal,.bool x.l.back,.slice ka kl kc,i64 x.l.nx,.slice sa sl sc,.slice ta tl tc,.bool x.up]/\LdrAt H x.l la ll ka kl/\DskAt H x.d sa sl sc ta tl tc
theorem reads_hed:ReadsAs enc Tryz.prog w base spare held 37 RHed:=fun fuel cs x h=>by
 have cb: Tryz.prog.cellsOf 4=1:=by kernel_rfl
 have cL: Tryz.prog.cellsOf 32=6:=by kernel_rfl
 have cD: Tryz.prog.cellsOf 35=2:=by kernel_rfl
 have cH: Tryz.prog.cellsOf 37=9:=by kernel_rfl
 have hl:=structLen Tryz.underlying37 h
 rw[cH] at hl
 obtain⟨l,la,ll,lc,ka,kl,kc,h0,g0⟩:=fieldStruct Tryz.underlying37 h (i:=0) rfl reads_ldr cL rfl
 obtain⟨d,sa,sn,sc,wa,wn,wc,h1,g1⟩:=fieldStruct Tryz.underlying37 h (i:=1) rfl reads_disk cD rfl
 obtain⟨u,h2⟩:=fieldBool Tryz.underlying37 h (i:=2) rfl Tryz.underlying4 cb rfl
 refine⟨⟨l,d,u⟩,la,ll,lc,ka,kl,kc,sa,sn,sc,wa,wn,wc,?_,g0,g1⟩
 match cs,hl with
 | [x0,x1,x2,x3,x4,x5,x6,x7,x8],_=>
  simp at h0 h1 h2
  obtain⟨rfl,rfl,rfl,rfl,rfl,rfl⟩:=h0
  obtain⟨rfl,rfl⟩:=h1
  subst h2
  rfl
theorem reads_nod:ReadsAs enc Tryz.prog w base spare held 58 RNod:=fun fuel cs x h=>by
 have cb: Tryz.prog.cellsOf 4=1:=by kernel_rfl
 have cA: Tryz.prog.cellsOf 46=7:=by kernel_rfl
 have cD: Tryz.prog.cellsOf 35=2:=by kernel_rfl
 have cN: Tryz.prog.cellsOf 58=10:=by kernel_rfl
 have hl:=structLen Tryz.underlying58 h
 rw[cN] at hl
 obtain⟨l,la,ll,lc,ka,kl,kc,h0,g0,g0'⟩:=fieldStruct Tryz.underlying58 h (i:=0) rfl reads_agt cA rfl
 obtain⟨d,sa,sn,sc,wa,wn,wc,h1,g1⟩:=fieldStruct Tryz.underlying58 h (i:=1) rfl reads_disk cD rfl
 obtain⟨u,h2⟩:=fieldBool Tryz.underlying58 h (i:=2) rfl Tryz.underlying4 cb rfl
 refine⟨⟨l,d,u⟩,⟨la,ll,lc,ka,kl,kc,sa,sn,sc,wa,wn,wc⟩,?_,g0,g0',g1⟩
 match cs,hl with
 | [x0,x1,x2,x3,x4,x5,x6,x7,x8,x9],_=>
  simp at h0 h1 h2
  obtain⟨rfl,rfl,rfl,rfl,rfl,rfl,rfl⟩:=h0
  obtain⟨rfl,rfl⟩:=h1
  subst h2
  rfl
theorem RNod.len10{H:Heap}{r:List Value}{x:Nod}(h:RNod H r x):r.length=10:=by obtain⟨q,rfl,_⟩:=h;rfl
theorem reads_nods:ReadsAs enc Tryz.prog w base spare held 38 (RSl RNod 10):=reads_slice Tryz.underlying38 (by kernel_rfl) (by omega) reads_nod RNod.len10
def RWld:Rep Wld:=fun H r x=>∃p,r=wldCells x p/\WldAt H x p
theorem reads_wld:ReadsAs enc Tryz.prog w base spare held 41 RWld:=fun fuel cs x h=>by
 have cC: Tryz.prog.cellsOf 28=5:=by kernel_rfl
 have cH: Tryz.prog.cellsOf 37=9:=by kernel_rfl
 have cn: Tryz.prog.cellsOf 38=1:=by kernel_rfl
 have cm: Tryz.prog.cellsOf 39=1:=by kernel_rfl
 have cW: Tryz.prog.cellsOf 41=16:=by kernel_rfl
 have hl:=structLen Tryz.underlying41 h
 rw[cW] at hl
 obtain⟨c,fa,fl,fc,ra,rl,rc,wa,wl,wc,h0,g0⟩:=fieldStruct Tryz.underlying41 h (i:=0) rfl reads_conf cC rfl
 obtain⟨hd,la,ll,lc,ka,kl,kc,sa,sl,sc,ta,tl,tc,h1,g1,g1'⟩:=fieldStruct Tryz.underlying41 h (i:=1) rfl reads_hed cH rfl
 obtain⟨na,nl,nc,ns,h2,g2⟩:=fieldSl Tryz.underlying41 h (i:=2) rfl reads_nods cn rfl
 obtain⟨ma,ml,mc,ms,h3,g3⟩:=fieldSl Tryz.underlying41 h (i:=3) rfl reads_mails cm rfl
 refine⟨⟨c,hd,ns,ms⟩,⟨fa,fl,fc,ra,rl,rc,wa,wl,wc,la,ll,lc,ka,kl,kc,sa,sl,sc,ta,tl,tc,na,nl,nc,ma,ml,mc⟩,?_,g0,g1,g1',g2,g3⟩
 match cs,hl with
 | [x0,x1,x2,x3,x4,x5,x6,x7,x8,x9,x10,x11,x12,x13,x14,x15],_=>
  simp at h0 h1 h2 h3
  obtain⟨rfl,rfl,rfl,rfl,rfl⟩:=h0
  obtain⟨rfl,rfl,rfl,rfl,rfl,rfl,rfl,rfl,rfl⟩:=h1
  subst h2 h3
  rfl
abbrev hapCells(x:Hap)(a:O)(l c:Nat):List Value:=[i64 x.kind,i64 x.agent,i64 x.num,.bool x.good,.slice a l c]
def RHap:Rep Hap:=fun H r x=>∃a l c,r=hapCells x a l c/\Pins H a l x.lock
theorem RHap.len{H:Heap}{r:List Value}{x:Hap}(h:RHap H r x):r.length=5:=by obtain⟨a,l,c,rfl,_⟩:=h;rfl
theorem reads_hap:ReadsAs enc Tryz.prog w base spare held 62 RHap:=fun fuel cs x h=>by
 have ci: Tryz.prog.cellsOf 3=1:=by kernel_rfl
 have cb: Tryz.prog.cellsOf 4=1:=by kernel_rfl
 have cp: Tryz.prog.cellsOf 22=1:=by kernel_rfl
 have cX: Tryz.prog.cellsOf 62=5:=by kernel_rfl
 have hl:=structLen Tryz.underlying62 h
 rw[cX] at hl
 obtain⟨k,h0,_⟩:=fieldInt Tryz.underlying62 h (i:=0) rfl Tryz.underlying3 ci rfl
 obtain⟨g,h1,_⟩:=fieldInt Tryz.underlying62 h (i:=1) rfl Tryz.underlying3 ci rfl
 obtain⟨n,h2,_⟩:=fieldInt Tryz.underlying62 h (i:=2) rfl Tryz.underlying3 ci rfl
 obtain⟨b,h3⟩:=fieldBool Tryz.underlying62 h (i:=3) rfl Tryz.underlying4 cb rfl
 obtain⟨a,l,c,ps,h4,hp⟩:=fieldSl Tryz.underlying62 h (i:=4) rfl reads_pins cp rfl
 refine⟨⟨k,g,n,b,ps⟩,a,l,c,?_,hp⟩
 match cs,hl with
 | [x0,x1,x2,x3,x4],_=>
  simp at h0 h1 h2 h3 h4
  subst h0 h1 h2 h3 h4
  rfl
theorem reads_haps:ReadsAs enc Tryz.prog w base spare held 72 (RSl RHap 5):=reads_slice Tryz.underlying72 (by kernel_rfl) (by omega) reads_hap RHap.len
end
open Go Go.Proofs
def noWld:Wld:=⟨⟨⟨0,[]⟩,[],[],0⟩,⟨noLdr,dsk0,false⟩,[],[]⟩
def noWA:WA:=⟨none,0,0,none,0,0,none,0,0,none,0,0,none,0,0,none,0,0,none,0,0,none,0,0,none,0,0⟩
theorem WldAt.zero{H:Heap} :WldAt H noWld noWA:=⟨⟨Sl.nil,Sl.nil,Sl.nil⟩,⟨Sl.nil,Sl.nil⟩,DskAt.zero,Sl.nil,Sl.nil⟩
theorem wTell_err{w:Wld}{x:Hap}{e:Int}(h:wTell w x= .error e):e≠0:=by
 unfold wTell at h
 split at h
 ·rename_i hn;injection h with h;exact h▸hn
 ·split at h
  ·split at h
   ·injection h with h;omega
   ·split at h
    ·injection h with h;omega
    ·cases h
  ·split at h
   ·rename_i hl;injection h with h;exact h▸wLead_err hl
   ·cases h
theorem wStep_err{w:Wld}{x:Hap}{n:Nod}{e:Int}(h:wStep w x n= .error e):e≠0:=by
 unfold wStep at h
 split at h
 ·injection h with h;omega
 ·split at h
  ·rename_i hn;injection h with h;exact h▸hn
  ·split at h
   ·exact wDoes_err h
   ·split at h
    ·rename_i hl;injection h with h;exact h▸wDoes_err hl
    ·cases h
theorem wPower_err{w:Wld}{x:Hap}{e:Int}(h:wPower w x= .error e):e≠0:=by
 unfold wPower at h
 split at h
 ·split at h
  ·injection h with h;omega
  ·split at h
   ·rename_i hn;injection h with h;exact h▸hn
   ·split at h
    ·rename_i hl;injection h with h;exact h▸ledReplay_err hl
    ·cases h
 ·split at h
  ·injection h with h;omega
  ·split at h
   ·injection h with h;omega
   ·split at h
    ·rename_i hn;injection h with h;exact h▸hn
    ·split at h
     ·rename_i hl;injection h with h;exact h▸agtReplay_err hl
     ·cases h
theorem wHear_err{w:Wld}{x:Hap}{e:Int}(h:wHear w x= .error e):e≠0:=by
 unfold wHear at h
 split at h
 ·rename_i hn;injection h with h;exact h▸hn
 ·split at h
  ·injection h with h;omega
  ·split at h
   ·injection h with h;omega
   ·dsimp only at h
    split at h
    ·cases h
    ·split at h<;>cases h
theorem wHap_err{w:Wld}{x:Hap}{e:Int}(h:wHap w x= .error e):e≠0:=by
 unfold wHap at h
 split at h
 ·exact wHear_err h
 ·split at h
  ·split at h
   ·rename_i hn;injection h with h;exact h▸hn
   ·cases h
  ·split at h
   ·split at h
    ·injection h with h;omega
    ·exact wLead_err h
   ·split at h
    ·injection h with h;omega
    ·split at h
     ·injection h with h;omega
     ·split at h
      ·split at h
       ·injection h with h;omega
       ·exact wTell_err h
      ·split at h
       ·exact wPower_err h
       ·split at h
        ·injection h with h;omega
        ·split at h
         ·injection h with h;omega
         ·split at h
          ·exact wStep_err h
          ·split at h
           ·injection h with h;omega
           ·cases h
theorem OwnW.shut{base:Nat}{G H:Heap}{w:Wld}{p:WA}{rows:List (List Value)}(h:OwnW base G H w p rows):
  ∃G2,WldAt G2 w p/\Ext G2 H/\Ext G G2/\∀x k,G2 x=some k->G x=some k∨(p.nc≠0/\p.na=some ⟨x,0,none⟩):=by
 by_cases hc:p.nc=0
 ·have hnl:p.nl=0:=by have:=h.nod.row.2.1;omega
  have hn:w.n=[]:=List.length_eq_zero_iff.1 (by have:=(h.nod.rlen (by omega)).2;omega)
  refine⟨G,⟨h.parts.cfg,h.parts.ldr,h.parts.dsk,?_,h.parts.mail⟩,h.nod.sub,Ext.refl _,fun x k hx=> .inl hx⟩
  have hO:OwnSl RNod 10 58 base G G p.na p.nl p.nc rows w.n:=⟨⟨h.nod.row.1,h.nod.row.2.1,h.nod.row.2.2.1,.inl ⟨hnl,hc⟩⟩,h.nod.wid,h.nod.all,Ext.refl _,fun h=>absurd hc h⟩
  exact hO.sl RNod.mono (by omega)
 ·obtain⟨g,k,hg,hk⟩:=h.nod.block hc
  have hcl:=h.nod.clear hc g hg
  let G2:Heap:=fun x=>if x=g then H g else G x
  have e1:Ext G G2:=fun x kx hx=>by
   have:x≠g:=fun e=>by rw[e,hcl] at hx;cases hx
   simp only[G2,if_neg this];exact hx
  have e2:Ext G2 H:=fun x kx hx=>by
   by_cases e:x=g
   ·subst e;simp only[G2,if_true] at hx;exact hx
   ·simp only[G2,if_neg e] at hx;exact h.nod.sub x kx hx
  have hO:OwnSl RNod 10 58 base G G2 p.na p.nl p.nc rows w.n:=by
   obtain⟨r1,r2,r3,r4⟩:=h.nod.row
   refine⟨⟨r1,r2,r3,r4.imp id fun⟨g',k',h1,h2,h3,h4⟩=>⟨g',k',h1,h2,?_,h4⟩⟩,h.nod.wid,h.nod.all,e1,h.nod.clear⟩
   have:g'=g:=by rw[hg] at h1;simp at h1;exact h1.symm
   subst this
   simp only[G2,if_true];exact h3
  have hp:=h.parts.ext e1
  refine⟨G2,⟨hp.cfg,hp.ldr,hp.dsk,hO.sl RNod.mono (by omega),hp.mail⟩,e2,e1,fun x kx hx=> ?_⟩
  by_cases e:x=g
  ·subst e;exact .inr ⟨hc,hg⟩
  ·simp only[G2,if_neg e] at hx;exact .inl hx
abbrev Haps(H:Heap)(a:O)(n:Nat)(l:List Hap):Prop:=Sl RHap 5 H a n l
def ranW(w:Wld)(l:List Hap):Wld:=if runErr w l=0 then(wRunFrom w l).1 else noWld
def ranS(w:Wld)(l:List Hap):List Int:=if runErr w l=0 then(wRunFrom w l).2 else []
structure RunI(base:Nat)(H:Heap)(w:Wld)(l:List Hap)(k:Nat)(a:O)(c:Nat)(y:Wld)(q:WA)(said:List Int)(G0 H':Heap):Prop where
 le:k<=l.length
 row:Row base H' 42 1 a k c (said.map i64)
 at_:WldAt G0 y q
 right:WRight y
 from_:Ext H G0
 sub:Ext G0 H'
 apart:Apart G0 a c
 run:wRunFrom w l=((wRunFrom y (l.drop k)).1,said++(wRunFrom y (l.drop k)).2)
set_option maxHeartbeats 1000000 in
theorem cRun{H:Heap}(hL:Lb H){w:Wld}{p:WA}(hw:WldAt H w p){l:List Hap}{a:O}{n c:Nat}(hx:Haps H a n l):
  Spec Tryz.prog 39 [wldArg w p,.slice a n c] H fun v H'=>∃p' s sn sc,v= .tuple #[wldArg (ranW w l) p',.slice s sn sc,i64 (runErr w l)]/\WldAt H' (ranW w l) p'/\Sl RInt 1 H' s sn (ranS w l)/\sn<=sc:=by
 refine TryzvcH Tryz.func39 (by kernel_rfl) (by kernel_rfl) _ rfl (fun base K=>vx39 w.c.first.id w.c.bud p.fa p.ra p.wa p.fl p.fc p.rl p.rc p.wl p.wc w.h.l.now w.h.l.goal w.h.l.nx w.h.l.back p.la p.ka p.ll p.lc p.kl p.kc p.sa p.ta p.sl p.sc p.tl p.tc w.h.up p.na p.ma p.nl p.nc p.ml p.mc a n c base H K) fun base hb=>fun b b'=> ?_
 have hln:=hx.len
 refine(cCheck hL hw).int1 fun H1 e1 hN1=>⟨fun he=> ?_,fun he=> ?_⟩
 ·have hE:runErr w l=wldErr w:=by unfold runErr;rw[if_pos he]
  unfold ranW ranS
  rw[hE,if_neg he,if_neg he]
  exact⟨noWA,none,0,0,rfl,WldAt.zero,Sl.nil,Nat.le_refl _⟩
 ·have he:=Decidable.not_not.1 he
  have hR:=wldErr_zero.1 he
  refine⟨fun h5=> ?_,fun h5=> ?_⟩
  ·have hE:runErr w l=2:=by unfold runErr;rw[if_neg (by omega),if_pos (by omega)]
   unfold ranW ranS
   rw[hE,if_neg (by omega),if_neg (by omega)]
   exact⟨noWA,none,0,0,rfl,WldAt.zero,Sl.nil,Nat.le_refl _⟩
  ·have hE:runErr w l=0:=by unfold runErr;rw[if_neg (by omega),if_neg (by omega)]
   unfold ranW ranS
   rw[hE,if_pos rfl,if_pos rfl]
   refine(cCopyW (hw.ext e1) hR).mono fun v H2 e2 hv=> ?_
   obtain⟨p',G,rows,rfl,eG,hN⟩:=hv
   refine⟨_,_,_,_,_,_,_,_,_,_,_,_,_,_,_,_,_,_,_,_,_,_,_,_,_,_,_,_,_,_,_,_,_,_,rfl,fun hN2=> ?_⟩
   obtain⟨G2,hW2,eG2,eGG,hG2⟩:=(hN.own hN2).shut
   refine⟨fun m vs H'=>∃(k:Nat)(a:O)(c:Nat)(y:Wld)(q:WA)(said:List Int)(G0:Heap),vs=[.slice a k c,.int .i64 k,wldArg y q]/\m=l.length-k/\RunI base H w l k a c y q said G0 H',l.length,⟨0,none,0,w,p',[],G2,rfl,rfl,⟨Nat.zero_le _,Row.zero,hW2,hR,Ext.trans e1 (Ext.trans eG eGG),eG2,Apart.none,rfl⟩⟩,?_⟩
   intro m a1 n1 c1 n14 n15 a10 n16 c9 a11 n17 c10 a12 n18 c11 n19 a13 n20 c12 n21 n22 bb a14 n23 c13 n24 a15 n25 c14 a16 n26 c15 bb2 a17 n27 c16 a18 n28 c17 H' hNx hI
   obtain⟨k,a0,c0,y,q,said,G0,hvs,rfl,hI⟩:=hI
   simp only[List.cons.injEq,Value.slice.injEq,Value.int.injEq,true_and,Value.agg.injEq,Array.mk.injEq,Value.bool.injEq,and_true] at hvs
   obtain⟨⟨rfl,rfl,rfl⟩,rfl,rfl,⟨rfl,rfl,rfl⟩,⟨rfl,rfl,rfl⟩,⟨rfl,rfl,rfl⟩,rfl,⟨rfl,rfl,rfl⟩,rfl,rfl,rfl,⟨rfl,rfl,rfl⟩,rfl,⟨rfl,rfl,rfl⟩,⟨rfl,rfl,rfl⟩,rfl,⟨rfl,rfl,rfl⟩,rfl,rfl,rfl⟩:=hvs
   obtain⟨k,hk⟩:∃k,k=n1:=⟨_,rfl⟩
   subst hk
   refine⟨fun hlt=> ?_,fun hge=> ?_⟩
   ·have hkl:k<l.length:=by omega
    obtain⟨b3,o,r,x,ha,hxk,⟨ax,lx,cx,rfl,hpx⟩,hcell⟩:=hx.get (k:=(k:Int)) (by omega) (by omega)
    have cc:∀j v,(hapCells x ax lx cx)[j]?=some v->H'.cell b3 (o+(k:Int).toNat*5+j)=some v:=fun j v hj=>Heap.cell_next hNx.ext (hcell j v hj)
    refine⟨b3,o,ha,by omega,by omega,_,_,_,_,_,_,_,⟨cc 0 _ rfl,cc 1 _ rfl,cc 2 _ rfl,cc 3 _ rfl,cc 4 _ rfl,trivial⟩,fun b5=> ?_⟩
    refine((cCopyW hI.at_ hI.right).grown hI.sub).mono fun v H3 e3 hv=> ?_
    obtain⟨G1,g1,p2,Gc,rows2,rfl,eGc,hNew⟩:=hv
    refine⟨_,_,_,_,_,_,_,_,_,_,_,_,_,_,_,_,_,_,_,_,_,_,_,_,_,_,_,_,_,_,_,_,_,_,rfl,fun hN3=>fun b8=> ?_⟩
    have hN01:Vg.Next base G0 G1:=⟨g1.ext,fun z kz hz hn=>hN3.fresh z kz (g1.sub z kz hz) (g1.away z kz hz hn)⟩
    have hown:=(hNew.own hN01).ext g1.sub
    refine⟨y,p2,Gc,rows2,x,ax,lx,cx,⟨rfl,rfl,rfl,rfl⟩,⟨(hL.ext hI.from_).ext eGc,wldErr_zero.2 hI.right,hown,(hpx.ext' hI.from_).ext' eGc⟩,rfl,fun e w' p3 G' rows' H4 hP=> ?_⟩
    obtain⟨hO,rfl,rfl⟩:=hP
    have hnot:∀g kg,H' g=some kg->(p2.nc=0∨p2.na≠some ⟨g,0,none⟩):=fun g kg hg=>by
     by_cases hc:p2.nc=0
     ·exact .inl hc
     ·refine .inr fun e=> ?_
      obtain⟨r1,r2,r3,r4⟩:=hNew.row
      rcases r4 with⟨_,h0⟩|⟨g',k',q1,q2,q3,_⟩
      ·exact hc h0
      ·rw[e] at q1
       simp only[Option.some.injEq,Addr.mk.injEq,and_true] at q1
       subst q1
       rw[g1.away _ _ q3 q2] at hg;cases hg
    have eH4:Ext H' H4:=fun z kz hz=>hO.keep z kz (e3 z kz hz) (hnot z kz hz)
    have hrow:=hI.row.ext eH4
    have hdrop:l.drop k=x::l.drop (k+1):=by
     have:=List.drop_eq_getElem_cons hkl
     rw[this]
     congr 1
     have h2:=(List.getElem?_eq_some_iff.1 hxk).2
     simpa using h2
    have hrun:=hI.run
    rw[hdrop] at hrun
    have step:∀ {y':Wld} {q':WA} {G2:Heap} (_:WldAt G2 y' q')(_:WRight y')(_:Ext H G2)(_:Ext G2 H4)(_:Apart G2 a1 c1)(_:wRunFrom w l=((wRunFrom y' (l.drop (k+1))).1,(said++[errOf (wHap y x)])++(wRunFrom y' (l.drop (k+1))).2)),
      ∃(xs:List Value),Row base H4 42 1 a1 k c1 xs/\(k+1)*8<=140737488355328/\k+1<=9223372036854775807/\∀(a':O)(c':Nat)(H5:Heap),Grew base H4 H5 a1 c1 a' c' (k+1)->Row base H5 42 1 a' (k+1) c' (xs++[.int .i64 (errOf (wHap y x))])->∀(r:Int),r=IntKind.wrap .i64 ((k:Int)+1)->
       ∃m':Nat,m'<l.length-k/\∃(k2:Nat)(a:O)(c:Nat)(y2:Wld)(q:WA)(said:List Int)(G0:Heap),([.slice a' (k+1) c',.int .i64 r,wldArg y' q']:List Value)=[.slice a k2 c,.int .i64 k2,wldArg y2 q]/\m'=l.length-k2/\RunI base H w l k2 a c y2 q said G0 H5:=by
     intro y' q' G2 h1 h2 h3 h4 h5' h6
     refine⟨said.map i64,hrow,by omega,by omega,fun a' c' H5 hg hr r hrr=>⟨l.length-(k+1),by omega,k+1,a',c',y',q',said++[errOf (wHap y x)],G2,?_,rfl,?_⟩⟩
     ·rw[hrr,wrap_small (by omega) (by omega)];rfl
     ·obtain⟨f1,f2⟩:=h5'.grew h4 hg
      exact⟨by omega,by rw[List.map_append];exact hr,h1,h2,h3,f1,f2,h6⟩
    cases hh:wHap y x with
    |error e=>
     have hz:=wHap_err hh
     rw[hh] at hO step
     refine⟨fun h0=>absurd h0 hz,fun _=>fun b9=> ?_⟩
     obtain⟨xs,s1,s2,s3,s4⟩:=step hI.at_ hI.right hI.from_ (Ext.trans hI.sub eH4) hI.apart (by rw[hrun];simp only[wRunFrom,hh,List.append_assoc,List.singleton_append,errOf])
     exact⟨xs,s1,s2,s3,fun a' c' H5 hg hr r hrr=>⟨rfl,s4 a' c' H5 hg hr r hrr⟩⟩
    |ok y'=>
     rw[hh] at hO step
     refine⟨fun _=>fun b9=> ?_,fun h0=>absurd rfl h0⟩
     obtain⟨G2,k1,k2,k3,k4⟩:=hO.own.shut
     have hap:Apart G2 a1 c1:=fun hc z kz hz ha=>by
      obtain⟨r1,r2,r3,r4⟩:=hI.row
      rcases r4 with⟨_,h0⟩|⟨g',k',q1,q2,q3,_⟩
      ·exact hc h0
      ·rw[ha] at q1
       simp only[Option.some.injEq,Addr.mk.injEq,and_true] at q1
       subst q1
       have hG0:G0 z=none:=by
        cases hg:G0 z with
        |none=>rfl
        |some kg=>exact absurd ha (hI.apart hc z kg hg)
       have hG1:Gc z=none:=by
        cases hg:Gc z with
        |none=>rfl
        |some kg=>have:=g1.away z kg (hNew.sub z kg hg) hG0;rw[q3] at this;cases this
       rcases k4 z kz hz with h1|⟨h1,h2⟩
       ·have:=hO.away z kz h1 hG1
        rw[e3 z _ q3] at this;cases this
       ·rcases hnot z _ q3 with h3|h3
        ·exact h1 (hO.same.2.2.trans h3)
        ·exact h3 (hO.same.1.symm.trans h2)
     obtain⟨xs,s1,s2,s3,s4⟩:=step k1 (hI.right.hap hh).ok (Ext.trans hI.from_ (Ext.trans eGc (Ext.trans hO.ext k3))) k2 hap (by rw[hrun];simp only[wRunFrom,hh,List.append_assoc,List.singleton_append,errOf,orSame])
     exact⟨xs,s1,s2,s3,fun a' c' H5 hg hr r hrr=>⟨rfl,s4 a' c' H5 hg hr r hrr⟩⟩
   ·have hkl:k=l.length:=by have:=hI.le;omega
    have hrun:=hI.run
    rw[List.drop_eq_nil_of_le (by omega)] at hrun
    simp only[wRunFrom,List.append_nil] at hrun
    rw[hrun]
    exact⟨q,a1,k,c1,rfl,hI.at_.ext hI.sub,ints_of_row hI.row,hI.row.2.1⟩
open Go Go.Proofs
def newW(c:Conf):Wld:=if cfgErr c=0 then freshWld c else noWld
theorem conf_sizes{c:Conf}(h:cfgErr c=0):(c.first.lock.length<=100000/\c.rules.length<=100000/\c.waves.length<=100000/\∀x∈c.waves,x.length<=100000)/\1<=agentsOf c.waves/\agentsOf c.waves<=6:=by
 obtain⟨c1,c2,c3,c4,c5,c6,c7⟩:=cfgErr_zero h
 obtain⟨b1,b2,b3⟩:=brokenErr_zero.1 c5
 obtain⟨w1,w2⟩:=waves_small c7
 have w3:=(waveCheck_zero c7)
 have r:=relErr_zero c1
 refine⟨⟨by omega,by omega,by omega,fun x hx=>by have:=w2 x hx;omega⟩,w3.1,w3.2.1⟩
theorem cNewW{H:Heap}{c:Conf}{fa ra wa:O}{fl fc rl rc wl wc:Nat}(hc:CfgAt H c fa fl ra rl wa wl):
  Spec Tryz.prog 26 [cfgArg c fa fl fc ra rl rc wa wl wc] H fun v H'=>∃p',v= .tuple #[wldArg (newW c) p',i64 (cfgErr c)]/\WldAt H' (newW c) p':=by
 refine TryzvcK Tryz.func26 (by kernel_rfl) (by kernel_rfl) _ rfl (fun base K=>vk26 c.first.id c.bud fa ra wa fl fc rl rc wl wc base H K) fun base hb=>fun b b'=> ?_
 have hNL:=cNewL (fc:=fc) (rc:=rc) (wc:=wc) hc
 by_cases h:cfgErr c=0
 case neg=>
  have hE:newW c=noWld:=by unfold newW;rw[if_neg h]
  rw[hE]
  refine hNL.ldr fun la ll lc ka kl kc H1 e1 hN1 hA=>fun b1=>⟨fun h=> ?_,fun h2=>absurd h h2⟩
  exact⟨noWA,rfl,WldAt.zero⟩
 case pos=>
  have hE:newW c=freshWld c:=by unfold newW;rw[if_pos h]
  rw[hE,h]
  rw[if_pos h,h] at hNL
  refine hNL.ldr fun la ll lc ka kl kc H1 e1 hN1 hA=>fun b1=>⟨fun h2=>absurd rfl h2,fun _=> ?_⟩
  obtain⟨⟨s1,s2,s3,s4⟩,g1,g2⟩:=conf_sizes h
  refine⟨?_,fun b2=> ?_⟩
  all_goals
   refine Spec.cfg1 (cConfigC (hc.ext e1) (by rw[←hc.pins.len];exact s1) (by rw[←hc.rules.len];exact s2) (by rw[←hc.waves.len];exact s3) s4) fun fa' fl' fc' ra' rl' rc' wa' wl' wc' H2 e2 hN2 hC=> ?_
   first
    |refine fun(b3:Nat)=>(cAgents ((hc.ext e1).ext e2)).int1 fun H3 e3 hN3=> ?_
    |refine(cAgents ((hc.ext e1).ext e2)).int1 fun H3 e3 hN3=> ?_
   have hq:relErr c.first=0:=(cfgErr_zero h).1
   obtain⟨N,hNn⟩:∃N:Nat,N=(agentsOf c.waves).toNat:=⟨_,rfl⟩
   have hP:Parts H3 ⟨c,⟨newLdr c,dsk0,true⟩,[],[]⟩ ⟨fa',fl',fc',ra',rl',rc',wa',wl',wc',la,ll,lc,ka,kl,kc,none,0,0,none,0,0,none,0,0,none,0,0⟩:=⟨hC.ext e3,(hA.ext e2).ext e3,DskAt.zero,Sl.nil⟩
   refine⟨fun m vs H'=>∃(k:Nat)(a:O)(ca:Nat)(rows:List (List Value))(G:Heap),vs=[.int .i64 k,wldArg ⟨c,⟨newLdr c,dsk0,true⟩,List.replicate k (freshNod c.first),[]⟩ ⟨fa',fl',fc',ra',rl',rc',wa',wl',wc',la,ll,lc,ka,kl,kc,none,0,0,none,0,0,a,k,ca,none,0,0⟩]/\m=N-k/\k<=N/\OwnSl RNod 10 58 base G H' a k ca rows (List.replicate k (freshNod c.first))/\Ext H3 G,N,⟨0,none,0,[],H3,rfl,rfl,by omega,OwnSl.zero (Ext.refl _),Ext.refl _⟩,?_⟩
   intro m n12 n13 a9 n14 c5 a10 n15 c6 a11 n16 c7 n17 a12 n18 c8 n19 n20 b3 a13 n21 c9 n22 a14 n23 c10 a15 n24 c11 b4 a16 n25 c12 a17 n26 c13 H' hNx hI
   obtain⟨k,a,ca,rows,G,hvs,rfl,hkN,hO,eG⟩:=hI
   simp only[List.cons.injEq,Value.slice.injEq,Value.int.injEq,true_and,Value.agg.injEq,Array.mk.injEq,Value.bool.injEq,and_true] at hvs
   obtain⟨rfl,rfl,⟨rfl,rfl,rfl⟩,⟨rfl,rfl,rfl⟩,⟨rfl,rfl,rfl⟩,rfl,⟨rfl,rfl,rfl⟩,rfl,rfl,rfl,⟨rfl,rfl,rfl⟩,rfl,⟨rfl,rfl,rfl⟩,⟨rfl,rfl,rfl⟩,rfl,⟨rfl,rfl,rfl⟩,rfl,rfl,rfl⟩:=hvs
   obtain⟨k,hk⟩:∃k,k=n25:=⟨_,rfl⟩
   subst hk
   refine⟨fun hlt=> ?_,fun hge=> ?_⟩
   ·have hpG:Pins G fa fl c.first.lock:=(((hc.pins.ext' e1).ext' e2).ext' e3).ext' eG
    have hcN:=cNew (c:=fc) (r:=c.first) hpG
    rw[if_pos hq,hq] at hcN
    refine(hcN.grown hO.sub).mono fun v H4 e4 hv=> ?_
    obtain⟨G1,g1,xa,xl,xc,ga,gl,gc,rfl,q1,q2⟩:=hv
    have hO':=hO.grown RNod.mono g1
    refine⟨_,_,_,_,_,_,_,_,_,_,_,_,rfl,fun hN4=>fun b7 b8=>⟨rows.flatten,hO'.row,by omega,by omega,fun a' c' H5 hg hr r hrr=>⟨rfl,N-(k+1),by omega,k+1,a',c',rows++[nodCells (freshNod c.first) ⟨xa,xl,xc,ga,gl,gc,none,0,0,none,0,0⟩],G1,?_,rfl,by omega,?_,Ext.trans eG g1.ext⟩⟩⟩
    ·rw[hrr,wrap_small (by omega) (by omega)];rfl
    ·have hrep:List.replicate (k+1) (freshNod c.first)=List.replicate k (freshNod c.first)++[freshNod c.first]:=List.replicate_succ'
     rw[hrep]
     refine hO'.grew hg (rows':=[nodCells (freshNod c.first) ⟨xa,xl,xc,ga,gl,gc,none,0,0,none,0,0⟩]) (ys:=[freshNod c.first]) (by rw[List.flatten_singleton];exact hr) (by simp) ⟨⟨_,rfl,q1,q2,DskAt.zero⟩,trivial⟩
   ·have hkk:k=N:=by omega
    subst hkk
    have hP':=(hP.ext eG).ext hO.sub
    refine⟨⟨a9,n14,c5,a10,n15,c6,a11,n16,c7,a12,n18,c8,a13,n21,c9,none,0,0,none,0,0,a16,_,c12,none,0,0⟩,rfl,⟨hP'.cfg,hP'.ldr,hP'.dsk,?_,hP'.mail⟩⟩
    show Nods H' _ _ (List.replicate (agentsOf c.waves).toNat (freshNod c.first))
    rw[←hNn]
    exact hO.sl RNod.mono (by omega)
def errIdx(f:Int->Bool):Int->List Int->Int
 |_,[]=> -1
 |i,x::r=>if f x=true then i else errIdx f (i+1) r
theorem errIdx_any(f:Int->Bool):∀(l:List Int)(i:Int),0<=i->(0<=errIdx f i l↔l.any f=true)
 | [],i,_=>by simp[errIdx]
 |x::r,i,h=>by
  unfold errIdx
  split
  ·rename_i e;simp[h,e]
  ·rename_i e;rw[errIdx_any f r (i+1) (by omega)];simp[e]
theorem cNon{H:Heap}(e:Int):Spec Tryz.prog 74 [.int .i64 e] H fun v _=>v= .bool (decide (¬e=0)):=by
 refine TryzvcK Tryz.func74 (by kernel_rfl) (by kernel_rfl) _ rfl (fun base K=>vk74 e base H K) fun base hb=> ?_
 rfl
theorem drop_errs{xs:List Int}{k:Nat}{x:Int}(h:xs[k]?=some x):xs.drop k=x::xs.drop (k+1):=by
 obtain⟨hk,h⟩:=List.getElem?_eq_some_iff.1 h
 rw[List.drop_eq_getElem_cons hk,h]
theorem cAnyNon{H:Heap}{a:O}{l c:Nat}{xs:List Int}(hx:Sl RInt 1 H a l xs):Spec Tryz.prog 73 [.slice a l c,.func (.func 74) #[] #[]] H fun v _=>v= .bool (xs.any fun e=>decide (¬e=0)):=by
 have h98:Spec Tryz.prog 98 [.slice a l c,.func (.func 74) #[] #[]] H fun v _=>v=i64 (errIdx (fun e=>decide (¬e=0)) 0 xs):=by
  refine TryzvcK Tryz.func98 (by kernel_rfl) (by kernel_rfl) _ rfl (fun base K=>vk98a a l c base H K) fun base hb=> ?_
  have hl:=hx.len
  have hle:=hx.le
  refine⟨fun m vs _=>∃(d:Int)(k:Nat),vs=[i64 d,i64 k]/\m=l-k/\k<=l/\errIdx (fun e=>decide (¬e=0)) k (xs.drop k)=errIdx (fun e=>decide (¬e=0)) 0 xs,l,⟨0,0,rfl,rfl,by omega,rfl⟩,fun m d n H' hN hI=> ?_⟩
  obtain⟨d',k,hvs,rfl,hk,hI⟩:=hI
  obtain⟨rfl,rfl⟩:d=d'/\n=(k:Int):=by simpa using hvs
  refine⟨fun hlt=> ?_,fun hge=> ?_⟩
  ·obtain⟨b,o,r,x,ha,hxk,hr,hcell⟩:=hx.get (k:=(k:Int)) (by omega) hlt
   obtain rfl:=hr
   refine⟨b,o,ha,by omega,hlt,_,Heap.cell_next hN.ext (hcell 0 _ rfl),?_⟩
   have hx2:xs[k]?=some x:=by simpa using hxk
   have hdr:=drop_errs hx2
   rw[hdr,errIdx] at hI
   refine(cNon x).bool1 fun H2 e2 _=>⟨fun he=> ?_,fun he=>fun r hr=>⟨l-(k+1),by omega,d,k+1,?_,rfl,by omega,?_⟩⟩
   ·rw[if_pos he] at hI
    rw[hI]
   ·rw[hr,wrap_in (by omega) (by omega)];rfl
   ·rw[if_neg (by rw[he];simp)] at hI
    exact hI
  ·have hkk:k=l:=by omega
   rw[List.drop_eq_nil_of_le (by omega)] at hI
   rw[←hI];rfl
 refine TryzvcK Tryz.func73 (by kernel_rfl) (by kernel_rfl) _ rfl (fun base K=>vk73a a l c base H K) fun base hb=> ?_
 refine h98.int1 fun H1 e1 hN1=> ?_
 have:=errIdx_any (fun e=>decide (¬e=0)) xs 0 (by omega)
 show Value.bool _=Value.bool _
 congr 1
 cases hq:(xs.any fun e=>decide (¬e=0)) with
 |true=>exact decide_eq_true (this.2 hq)
 |false=>exact decide_eq_false fun h0=>by rw[this.1 h0] at hq;cases hq
end Go.Vg
