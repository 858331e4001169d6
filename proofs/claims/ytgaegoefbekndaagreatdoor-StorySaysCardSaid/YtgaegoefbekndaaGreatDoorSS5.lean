/- What is proved here: a part of the proof of laws of this seat: what a contract is, how it comes of a condition, contracts of the functions that are reached, the plain laws. -/
import Derived.Test.YtgaegoefbekndaaGreatDoorSS4
import Derived.KernelRfl
import Derived.Laws.Cover2
import Derived.Laws.Cover3
import Derived.Laws.Pointers
import Derived.Laws.Small
import Derived.Laws.StructEq
import Derived.Laws.Tables
import Derived.StillTactics
import Derived.Tactics
import Derived.Tactics2
set_option linter.unusedSimpArgs false
set_option linter.unusedVariables false
set_option maxRecDepth 100000
namespace Go.Vg
open Go Go.Proofs
open Go.Value renaming int → I, slice → S, bool → B, agg → A, tuple → T, pointer → P, string → Str
open Go.IntKind renaming i64 → Z, wrap → W
open Go.Addr renaming mk → D
open Go.Vg.Bx renaming mk → J
open Go.Vg renaming Next → X, Spec → Y, SpecO → YO
open Go.Vg.Heap renaming cell → C
open Int renaming toNat → N
theorem vc102(n a b:Int)(base:Nat)(H:Heap)(K:KT):
 (fV TryzMuts Tryz.f92 base H [.v (I Z n),.v (I Z a),.v (I Z b)] [] K)=(
 (a<=n->K (B (decide (n<=b))) [] H)/\(¬a<=n->K (B false) [] H)):=by kernel_rfl
theorem vc140(a:O)(l c:Nat)(x:Int)(base:Nat)(H:Heap)(K:KT):
 (fV TryzMuts Tryz.f194 base H [.v (S a l c),.v (I Z x)] [] K)=(
 ∃(b:LI)(d:LM),b [I Z 0,I Z 0] H/\∀(e g:Int)(h:Heap),X base H h->b [I Z e,I Z g] h->(g<(l:Int)->∃i j,a=some (D i j none)/\0<=g/\g<(l:Int)/\∃k,C h i (j+N g*1)=some (I Z k)/\(x=k->K (I Z g) [] h)/\(¬x=k->∀m:Int,m=W Z (g+1)->b [I Z e,I Z m] h/\d [I Z e,I Z m]<d [I Z e,I Z g]))/\(¬g<(l:Int)->K (I Z (-1)) [] h)):=by kernel_rfl
theorem vc103(a:O)(l c:Nat)(x:Int)(base:Nat)(H:Heap)(K:KT):
 (fV TryzMuts Tryz.f137 base H [.v (S a l c),.v (I Z x)] [] K)=(
 Y Tryz.prog 194 [S a l c,I Z x] H fun b d=>∃e,b=I Z e/\(X base H d->K (B (decide (0<=e))) [] d)):=by kernel_rfl
theorem vc26(a:O)(l c:Nat)(k:Int)(base:Nat)(H:Heap)(K:KT):
 (fV TryzMuts Tryz.f187 base H [.v (S a l c),.v (I Z k)] [] K)=(
 (k<1->K (I Z 3) [] H)/\(¬k<1->(6<k->K (I Z 3) [] H)/\(¬6<k->∀b:Nat,∃(d:LI)(e:LM),d [I Z 0,I Z 0,A #[]] H/\∀(g h:Int)(i:List Value)(j:Heap),X base H j->d [I Z g,I Z h,A (List.toArray i)] j->(h<(l:Int)->∃m n,a=some (D m n none)/\0<=h/\h<(l:Int)/\∃o p q,C j m (n+N h*1)=some (S o p q)/\((p:Int)=0->K (I Z 4) [] j)/\(¬(p:Int)=0->∃(r:LI)(s:LM),r [I Z g,I Z 0,A (List.toArray i)] j/\∀(t u:Int)(v:List Value)(w:Heap),X base H w->r [I Z t,I Z u,A (List.toArray v)] w->(u<(p:Int)->∃x y,o=some (D x y none)/\0<=u/\u<(p:Int)/\∃z,C w x (y+N u*1)=some (I Z z)/\(z<0->K (I Z 5) [] w)/\(¬z<0->(k<=z->K (I Z 5) [] w)/\(¬k<=z->∃a1 b1:Bool,mapGet (B false) (I Z z) v=some (B a1,b1)/\(a1=true->K (I Z 6) [] w)/\(a1=false->∃c1:List Value,mapSet (I Z z) (B true) v=some c1/\∀d1:Int,d1=W Z (u+1)->r [I Z t,I Z d1,A (List.toArray c1)] w/\s [I Z t,I Z d1,A (List.toArray c1)]<s [I Z t,I Z u,A (List.toArray v)]))))/\(¬u<(p:Int)->∀x:Int,x=W Z (h+1)->d [I Z t,I Z x,A (List.toArray v)] w/\e [I Z t,I Z x,A (List.toArray v)]<e [I Z g,I Z h,A (List.toArray i)])))/\(¬h<(l:Int)->((↑(List.length i/2):Int)<k->K (I Z 4) [] j)/\(¬(↑(List.length i/2):Int)<k->K (I Z 0) [] j))))):=by kernel_rfl
theorem vc24(a:O)(l c:Nat)(k:Int)(base:Nat)(H:Heap)(K:KT):
 (fV TryzMuts Tryz.f94 base H [.v (S a l c),.v (I Z k)] [] K)=(
 Y Tryz.prog 92 [I Z k,I Z 1,I Z 6] H fun b d=>∃e,b=B e/\(X base H d->(e=false->K (I Z 3) [] d)/\(¬e=false->∃(g:LI)(h:LM),g [I Z 0,S none 0 0,I Z 0] d/\∀(i:Int)(j:O)(m n:Nat)(o:Int)(p:Heap),X base H p->g [I Z i,S j m n,I Z o] p->(o<(l:Int)->∃q r,a=some (D q r none)/\0<=o/\o<(l:Int)/\∃s t u,C p q (r+N o*1)=some (S s t u)/\((t:Int)=0->K (I Z 4) [] p)/\(¬(t:Int)=0->∃(v:LI)(w:LM),v [I Z i,S j m n,I Z 0] p/\∀(x:Int)(y:O)(z a1:Nat)(b1:Int)(c1:Heap),X base H c1->v [I Z x,S y z a1,I Z b1] c1->(b1<(t:Int)->∃d1 e1,s=some (D d1 e1 none)/\0<=b1/\b1<(t:Int)/\∃f1,C c1 d1 (e1+N b1*1)=some (I Z f1)/\∀g1:Int,g1=W Z (k-1)->Y Tryz.prog 92 [I Z f1,I Z 0,I Z g1] c1 fun h1 i1=>∃j1,h1=B j1/\(X base c1 i1->(j1=false->K (I Z 5) [] i1)/\(¬j1=false->Y Tryz.prog 137 [S y z a1,I Z f1] i1 fun k1 l1=>∃m1,k1=B m1/\(X base i1 l1->(m1=true->K (I Z 6) [] l1)/\(m1=false->∀n1:Nat,∃o1:List Value,Row base l1 3 1 y z a1 o1/\(z+1)*8<=140737488355328/\z+1<=9223372036854775807/\∀(p1:O)(q1:Nat)(r1:Heap),Grew base l1 r1 y a1 p1 q1 (z+1)->Row base r1 3 1 p1 (z+1) q1 (o1++[I Z f1])->∀s1:Int,s1=W Z (b1+1)->v [I Z x,S p1 (z+1) q1,I Z s1] r1/\w [I Z x,S p1 (z+1) q1,I Z s1]<w [I Z x,S y z a1,I Z b1])))))/\(¬b1<(t:Int)->∀d1:Int,d1=W Z (o+1)->g [I Z x,S y z a1,I Z d1] c1/\h [I Z x,S y z a1,I Z d1]<h [I Z i,S j m n,I Z o])))/\(¬o<(l:Int)->(¬(m:Int)=k->K (I Z 4) [] p)/\(¬¬(m:Int)=k->K (I Z 0) [] p))))):=by kernel_rfl
theorem vc105(a:O)(l c:Nat)(p:Nat)(base:Nat)(H:Heap)(K:KT):
 (fV TryzMuts Tryz.f136 base H [.v (S a l c),.v (.pointer (some ⟨p,0,none⟩))] [] K)=(
 ∃b,C H p 0=some (I Z b)/\Y Tryz.prog 137 [S a l c,I Z b] H fun d e=>∃g,d=B g/\(X base H e->K (B g) [] e)):=by kernel_rfl
theorem vc104(a:O)(l c:Nat)(p:Nat)(base:Nat)(H:Heap)(K:KT):
 (fV TryzMuts Tryz.f135 base H [.v (S a l c),.v (.func (.func 136) #[] #[.pointer (some ⟨p,0,none⟩)])] [] K)=(
 ∃(b:LI)(d:LM),b [I Z 0,I Z 0] H/\∀(e g:Int)(h:Heap),X base H h->b [I Z e,I Z g] h->(g<(l:Int)->∃i j,a=some (D i j none)/\0<=g/\g<(l:Int)/\∃k m n,C h i (j+N g*1)=some (S k m n)/\Y Tryz.prog 136 [S k m n,P (some (D p 0 none))] h fun o q=>∃r,o=B r/\(X base h q->(r=true->K (I Z g) [] q)/\(r=false->∀s:Int,s=W Z (g+1)->b [I Z e,I Z s] q/\d [I Z e,I Z s]<d [I Z e,I Z g])))/\(¬g<(l:Int)->K (I Z (-1)) [] h)):=by kernel_rfl
theorem vc27(a:O)(l c:Nat)(k:Int)(base:Nat)(H:Heap)(K:KT):
 (fV TryzMuts Tryz.f49 base H [.v (S a l c),.v (I Z k)] [] K)=(
 ∀b:Nat,true=true/\∀d:Heap,X 0 H d->d b=some (boxKB 3 [I Z k])/\True->Y Tryz.prog 135 [S a l c,Value.func (Fn.func 136) #[] #[P (some (D b 0 none))]] d fun e g=>∃h,e=I Z h/\∀i,X base H i->(∀(j:Nat)(m:KB),g j=some m->(∀n:Bx,n∈ [J b false 3 [I Z k]]->j≠Bx.b n)->i j=some m)->K (I Z h) [] i):=by kernel_rfl
theorem vc23(a a':O)(l c l' c':Nat)(base:Nat)(H:Heap)(K:KT):
 (fV TryzMuts Tryz.f252 base H [.v (S a l c),.v (S a' l' c')] [] K)=(
 Y Tryz.prog 187 [S a l c,I Z (l':Int)] H fun b d=>∃e,b=I Z e/\(X base H d->(¬e=0->K (T #[I Z 0,I Z e]) [] d)/\(¬¬e=0->∃(g:LI)(h:LM),g [I Z 0,I Z 0,I Z 0] d/\∀(i j k:Int)(m:Heap),X base H m->g [I Z i,I Z j,I Z k] m->(k<(l:Int)->∃n o,a=some (D n o none)/\0<=k/\k<(l:Int)/\∃p q r,C m n (o+N k*1)=some (S p q r)/\∃(s:LI)(t:LM),s [I Z i,I Z j,I Z 0] m/\∀(u v w:Int)(x:Heap),X base H x->s [I Z u,I Z v,I Z w] x->(w<(q:Int)->∃y z,p=some (D y z none)/\0<=w/\w<(q:Int)/\∃a1,C x y (z+N w*1)=some (I Z a1)/\∃b1 c1,a'=some (D b1 c1 none)/\0<=a1/\a1<(l':Int)/\∃d1,C x b1 (c1+N a1*1)=some (B d1)/\(d1=false->K (T #[I Z k,I Z 0]) [] x)/\(¬d1=false->∀e1:Int,e1=W Z (w+1)->s [I Z u,I Z v,I Z e1] x/\t [I Z u,I Z v,I Z e1]<t [I Z u,I Z v,I Z w]))/\(¬w<(q:Int)->∀y:Int,y=W Z (k+1)->g [I Z u,I Z v,I Z y] x/\h [I Z u,I Z v,I Z y]<h [I Z i,I Z j,I Z k]))/\(¬k<(l:Int)->K (T #[I Z (l:Int),I Z 0]) [] m)))):=by kernel_rfl
open Go Go.Proofs
theorem vc62(a:O)(l c:Nat)(base:Nat)(H:Heap)(K:KT):
 (fV TryzMuts Tryz.f140 base H [.v (S a l c)] [] K)=(
 (12<(l:Int)->K (I Z 2) [] H)/\(¬12<(l:Int)->∃(b:LI)(d:LM),b [I Z 0,I Z 0] H/\∀(e g:Int)(h:Heap),X base H h->b [I Z e,I Z g] h->(g<(l:Int)->∃i j,a=some (D i j none)/\0<=g/\g<(l:Int)/\∃k m:Int,(C h i (j+N g*2)=some (I Z k)/\C h i (j+N g*2+1)=some (I Z m)/\True)/\∀n:Nat,(k<1->K (I Z 3) [] h)/\(¬k<1->(20<k->K (I Z 3) [] h)/\(¬20<k->(m<1->K (I Z 3) [] h)/\(¬m<1->(99<m->K (I Z 3) [] h)/\(¬99<m->(0<g->∀o:Int,o=W Z (g-1)->∃p q,a=some (D p q none)/\0<=o/\o<(l:Int)/\∃r,C h p (q+N o*2)=some (I Z r)/\(k<=r->K (I Z 6) [] h)/\(¬k<=r->∀s:Int,s=W Z (g+1)->b [I Z e,I Z s] h/\d [I Z e,I Z s]<d [I Z e,I Z g]))/\(¬0<g->∀o:Int,o=W Z (g+1)->b [I Z e,I Z o] h/\d [I Z e,I Z o]<d [I Z e,I Z g]))))))/\(¬g<(l:Int)->K (I Z 0) [] h))):=by kernel_rfl
theorem vc108(a:O)(l c:Nat)(base:Nat)(H:Heap)(K:KT):
 (fV TryzMuts Tryz.f159 base H [.v (S a l c)] [] K)=(
 (12<(l:Int)->K (I Z 2) [] H)/\(¬12<(l:Int)->∃(b:LI)(d:LM),b [I Z 0,I Z 0,I Z 0] H/\∀(e g h:Int)(i:Heap),X base H i->b [I Z e,I Z g,I Z h] i->(h<(l:Int)->∃j k,a=some (D j k none)/\0<=h/\h<(l:Int)/\∃m n:Int,(C i j (k+N h*2)=some (I Z m)/\C i j (k+N h*2+1)=some (I Z n)/\True)/\∀o:Nat,Y Tryz.prog 92 [I Z m,I Z 1,I Z 20] i fun p q=>∃r,p=B r/\(X base i q->(r=false->K (I Z 3) [] q)/\(¬r=false->Y Tryz.prog 92 [I Z n,I Z 1,I Z 99] q fun s t=>∃u,s=B u/\(X base q t->(u=false->K (I Z 3) [] t)/\(¬u=false->(m<=g->K (I Z 6) [] t)/\(¬m<=g->∀v:Int,v=W Z (h+1)->b [I Z e,I Z m,I Z v] t/\d [I Z e,I Z m,I Z v]<d [I Z e,I Z g,I Z h]))))))/\(¬h<(l:Int)->K (I Z 0) [] i))):=by kernel_rfl
theorem vc114(n v:Int)(p:Nat)(base:Nat)(H:Heap)(K:KT):
 (fV TryzMuts Tryz.f148 base H [.v (A #[I Z n,I Z v]),.v (.pointer (some ⟨p,0,none⟩))] [] K)=(
 ∀a:Nat,∃b,C H p 0=some (I Z b)/\K (B (decide (n=b))) [] H):=by kernel_rfl
theorem vc113(a:O)(l c:Nat)(p:Nat)(base:Nat)(H:Heap)(K:KT):
 (fV TryzMuts Tryz.f147 base H [.v (S a l c),.v (.func (.func 148) #[] #[.pointer (some ⟨p,0,none⟩)])] [] K)=(
 ∃(b:LI)(d:LM),b [I Z 0,I Z 0] H/\∀(e g:Int)(h:Heap),X base H h->b [I Z e,I Z g] h->(g<(l:Int)->∃i j,a=some (D i j none)/\0<=g/\g<(l:Int)/\∃k m:Int,(C h i (j+N g*2)=some (I Z k)/\C h i (j+N g*2+1)=some (I Z m)/\True)/\Y Tryz.prog 148 [A #[I Z k,I Z m],P (some (D p 0 none))] h fun n o=>∃q,n=B q/\(X base h o->(q=true->K (I Z g) [] o)/\(q=false->∀r:Int,r=W Z (g+1)->b [I Z e,I Z r] o/\d [I Z e,I Z r]<d [I Z e,I Z g])))/\(¬g<(l:Int)->K (I Z (-1)) [] h)):=by kernel_rfl
theorem vc42(a:O)(l c:Nat)(k:Int)(base:Nat)(H:Heap)(K:KT):
 (fV TryzMuts Tryz.f75 base H [.v (S a l c),.v (I Z k)] [] K)=(
 ∀b:Nat,true=true/\∀d:Heap,X 0 H d->d b=some (boxKB 3 [I Z k])/\True->Y Tryz.prog 147 [S a l c,Value.func (Fn.func 148) #[] #[P (some (D b 0 none))]] d fun e g=>∃h,e=I Z h/\∀i,X base H i->(∀(j:Nat)(m:KB),g j=some m->(∀n:Bx,n∈ [J b false 3 [I Z k]]->j≠Bx.b n)->i j=some m)->(h<0->K (I Z 0) [] i)/\(¬h<0->∃j m,a=some (D j m none)/\0<=h/\h<(l:Int)/\∃n,C i j (m+N h*2+1)=some (I Z n)/\K (I Z n) [] i)):=by kernel_rfl
theorem vc41(a a':O)(l c l' c':Nat)(base:Nat)(H:Heap)(K:KT):
 (fV TryzMuts Tryz.f47 base H [.v (S a l c),.v (S a' l' c')] [] K)=(
 (¬(l:Int)=(l':Int)->K (B false) [] H)/\(¬¬(l:Int)=(l':Int)->∃(b:LI)(d:LM),b [B false,I Z 0] H/\∀(e:Bool)(g:Int)(h:Heap),X base H h->b [B e,I Z g] h->(g<(l:Int)->∃i j,a=some (D i j none)/\0<=g/\g<(l:Int)/\∃k m:Int,(C h i (j+N g*2)=some (I Z k)/\C h i (j+N g*2+1)=some (I Z m)/\True)/\∃n o,a'=some (D n o none)/\0<=g/\g<(l':Int)/\∃p q:Int,(C h n (o+N g*2)=some (I Z p)/\C h n (o+N g*2+1)=some (I Z q)/\True)/\∃r,RunsTo Tryz.prog (binRun BinOp.neq 91 (Operand.tmp 19) (Operand.tmp 23) (A #[I Z k,I Z m]) (A #[I Z p,I Z q])) (B r)/\(r=true->K (B false) [] h)/\(¬r=true->∀s:Int,s=W Z (g+1)->b [B e,I Z s] h/\d [B e,I Z s]<d [B e,I Z g]))/\(¬g<(l:Int)->K (B true) [] h))):=by kernel_rfl
theorem vc39(a:O)(l c:Nat)(base:Nat)(H:Heap)(K:KT):
 (fV TryzMuts Tryz.f222 base H [.v (S a l c)] [] K)=(
 (10<(l:Int)->K (I Z 2) [] H)/\(¬10<(l:Int)->∃(b:LI)(d:LM),b [I Z 0,I Z 0] H/\∀(e g:Int)(h:Heap),X base H h->b [I Z e,I Z g] h->(g<(l:Int)->∃i j,a=some (D i j none)/\0<=g/\g<(l:Int)/\∃k m n o:Int,(fun w1:LL=>(C h i (j+N g*4)=some (I Z k)/\C h i (j+N g*4+1)=some (I Z m)/\C h i (j+N g*4+2)=some (I Z n)/\C h i (j+N g*4+3)=some (I Z o)/\True)/\∀p:Nat,∃(q:LI)(r:LM),q [I Z e,I Z 0] h/\∀(s t:Int)(u:Heap),X base H u->q [I Z s,I Z t] u->(t<2->0<=t/\t<2/\∃v,List.get?Internal [I Z k,I Z n] (N t*1)=some (I Z v)/\(v<1->K (I Z 3) [] u)/\(¬v<1->(20<v->K (I Z 3) [] u)/\(¬20<v->∀w:Int,w=W Z (t+1)->w1=w1/\q [I Z s,I Z w] u/\r [I Z s,I Z w]<r [I Z s,I Z t])))/\(¬t<2->∃(v:LI)(w:LM),v [I Z s,I Z 0] u/\∀(x y:Int)(z:Heap),X base H z->v [I Z x,I Z y] z->(y<2->0<=y/\y<2/\∃a1,List.get?Internal [I Z m,I Z o] (N y*1)=some (I Z a1)/\(a1<1->K (I Z 3) [] z)/\(¬a1<1->(99<a1->K (I Z 3) [] z)/\(¬99<a1->∀b1:Int,b1=W Z (y+1)->w1=w1/\v [I Z x,I Z b1] z/\w [I Z x,I Z b1]<w [I Z x,I Z y])))/\(¬y<2->(k=n->K (I Z 4) [] z)/\(¬k=n->∀a1:Int,a1=W Z (g+1)->b [I Z x,I Z a1] z/\d [I Z x,I Z a1]<d [I Z e,I Z g])))) [[I Z k,I Z m,I Z n,I Z o]])/\(¬g<(l:Int)->K (I Z 0) [] h))):=by kernel_rfl
theorem vc40(a:O)(l c:Nat)(base:Nat)(H:Heap)(K:KT):
 (fV TryzMuts Tryz.f181 base H [.v (S a l c)] [] K)=(
 (10<(l:Int)->K (I Z 2) [] H)/\(¬10<(l:Int)->∃(b:LI)(d:LM),b [I Z 0,I Z 0] H/\∀(e g:Int)(h:Heap),X base H h->b [I Z e,I Z g] h->(g<(l:Int)->∃i j,a=some (D i j none)/\0<=g/\g<(l:Int)/\∃k m n o:Int,(C h i (j+N g*4)=some (I Z k)/\C h i (j+N g*4+1)=some (I Z m)/\C h i (j+N g*4+2)=some (I Z n)/\C h i (j+N g*4+3)=some (I Z o)/\True)/\∀p:Nat,Y Tryz.prog 92 [I Z k,I Z 1,I Z 20] h fun q r=>∃s,q=B s/\(X base h r->(s=false->K (I Z 3) [] r)/\(¬s=false->Y Tryz.prog 92 [I Z n,I Z 1,I Z 20] r fun t u=>∃v,t=B v/\(X base r u->(v=false->K (I Z 3) [] u)/\(¬v=false->Y Tryz.prog 92 [I Z m,I Z 1,I Z 99] u fun w x=>∃y,w=B y/\(X base u x->(y=false->K (I Z 3) [] x)/\(¬y=false->Y Tryz.prog 92 [I Z o,I Z 1,I Z 99] x fun z a1=>∃b1,z=B b1/\(X base x a1->(b1=false->K (I Z 3) [] a1)/\(¬b1=false->(n=k->K (I Z 4) [] a1)/\(¬n=k->∀c1:Int,c1=W Z (g+1)->b [I Z e,I Z c1] a1/\d [I Z e,I Z c1]<d [I Z e,I Z g]))))))))))/\(¬g<(l:Int)->K (I Z 0) [] h))):=by kernel_rfl
theorem vc34(a a':O)(l c l' c':Nat)(base:Nat)(H:Heap)(K:KT):
 (fV TryzMuts Tryz.f186 base H [.v (S a l c),.v (S a' l' c')] [] K)=(
 Y Tryz.prog 140 [S a l c] H fun b d=>∃e,b=I Z e/\(X base H d->(¬e=0->K (T #[I Z 0,I Z e]) [] d)/\(¬¬e=0->Y Tryz.prog 222 [S a' l' c'] d fun g h=>∃i,g=I Z i/\(X base d h->(¬i=0->K (T #[I Z 0,I Z i]) [] h)/\(¬¬i=0->∃(j:LI)(k:LM),j [I Z 0,I Z 0,I Z 0] h/\∀(m n o:Int)(p:Heap),X base H p->j [I Z m,I Z n,I Z o] p->(o<(l':Int)->∃q r,a'=some (D q r none)/\0<=o/\o<(l':Int)/\∃s t u v:Int,(C p q (r+N o*4)=some (I Z s)/\C p q (r+N o*4+1)=some (I Z t)/\C p q (r+N o*4+2)=some (I Z u)/\C p q (r+N o*4+3)=some (I Z v)/\True)/\∀w:Nat,Y Tryz.prog 75 [S a l c,I Z s] p fun x y=>∃z,x=I Z z/\(X base p y->(t<=z->Y Tryz.prog 75 [S a l c,I Z u] y fun a1 b1=>∃c1,a1=I Z c1/\(X base y b1->(c1<v->K (T #[I Z o,I Z 0]) [] b1)/\(¬c1<v->∀d1:Int,d1=W Z (o+1)->j [I Z m,I Z n,I Z d1] b1/\k [I Z m,I Z n,I Z d1]<k [I Z m,I Z n,I Z o])))/\(¬t<=z->∀a1:Int,a1=W Z (o+1)->j [I Z m,I Z n,I Z a1] y/\k [I Z m,I Z n,I Z a1]<k [I Z m,I Z n,I Z o])))/\(¬o<(l':Int)->K (T #[I Z (-1),I Z 0]) [] p)))))):=by kernel_rfl
theorem vc109(a:O)(l c:Nat)(base:Nat)(H:Heap)(K:KT):
 (fV TryzMuts Tryz.f182 base H [.v (S a l c)] [] K)=(
 (fun w2:LL=>∀b d:Nat,List.length [I Z 0,I Z 0,I Z 0,I Z 0,I Z 0,I Z 0,I Z 0,I Z 0,I Z 0,I Z 0,I Z 0,I Z 0,I Z 0,I Z 0,I Z 0,I Z 0,I Z 0,I Z 0,I Z 0,I Z 0,I Z 0]=21/\∃(e:LI)(g:LM),e [I Z 0,A #[I Z 0,I Z 0,I Z 0,I Z 0,I Z 0,I Z 0,I Z 0,I Z 0,I Z 0,I Z 0,I Z 0,I Z 0,I Z 0,I Z 0,I Z 0,I Z 0,I Z 0,I Z 0,I Z 0,I Z 0,I Z 0]] H/\∀(h:Int)(i:List Value),List.length i=21->∀j,X base H j->e [I Z h,A (List.toArray i)] j->(h<(l:Int)->∃k m,a=some (D k m none)/\0<=h/\h<(l:Int)/\∃n o:Int,(C j k (m+N h*2)=some (I Z n)/\C j k (m+N h*2+1)=some (I Z o)/\True)/\∀p:Nat,0<=n/\n<21/\0+N n*1+1<=List.length i/\∀q:Int,(fun w1:LV=>q=W Z (h+1)->List.length (List.set i (0+N n*1) (I Z o))=21/\w2=w2/\e w1 j/\g w1<g [I Z h,A (List.toArray i)]) [I Z q,A (List.toArray (List.set i (0+N n*1) (I Z o)))])/\(¬h<(l:Int)->List.length i=21/\List.length i=21/\allOne i=true/\List.length [I Z 0,I Z 0,I Z 0,I Z 0,I Z 0,I Z 0,I Z 0,I Z 0,I Z 0,I Z 0,I Z 0,I Z 0,I Z 0,I Z 0,I Z 0,I Z 0,I Z 0,I Z 0,I Z 0,I Z 0,I Z 0]=21/\List.length i=21/\K (A (List.toArray i)) [] j)) [[I Z 0,I Z 0,I Z 0,I Z 0,I Z 0,I Z 0,I Z 0,I Z 0,I Z 0,I Z 0,I Z 0,I Z 0,I Z 0,I Z 0,I Z 0,I Z 0,I Z 0,I Z 0,I Z 0,I Z 0,I Z 0]]):=by kernel_rfl
theorem vc112(cs:List Value)(base:Nat)(H:Heap)(K:KT):
 (fV TryzMuts Tryz.f215 base H [.v (A cs.toArray)] [] K)=(
 ∀a:Nat,List.length cs=21/\∃(b:LI)(c:LM),b [S none 0 0,I Z 0] H/\∀(d:O)(e g:Nat)(h:Int)(i:Heap),X base H i->b [S d e g,I Z h] i->(h<21->0<=h/\h<21/\∃j,List.get?Internal cs (N h*1)=some (I Z j)/\(0<j->∀k:Nat,∃l:List Value,Row base i 91 2 d e g l/\(e+1)*16<=140737488355328/\e+1<=9223372036854775807/\∀(m:O)(n:Nat)(o:Heap),Grew base i o d g m n (e+1)->Row base o 91 2 m (e+1) n (l++[I Z h,I Z j])->∀p:Int,p=W Z (h+1)->[cs]=[cs]/\b [S m (e+1) n,I Z p] o/\c [S m (e+1) n,I Z p]<c [S d e g,I Z h])/\(¬0<j->∀k:Int,k=W Z (h+1)->[cs]=[cs]/\b [S d e g,I Z k] i/\c [S d e g,I Z k]<c [S d e g,I Z h]))/\(¬h<21->K (S d e g) [] i)):=by kernel_rfl
theorem vc36(a a':O)(l c l' c':Nat)(base:Nat)(H:Heap)(K:KT):
 (fV TryzMuts Tryz.f93 base H [.v (S a l c),.v (S a' l' c')] [] K)=(
 Y Tryz.prog 159 [S a l c] H fun b d=>∃e,b=I Z e/\(X base H d->(¬e=0->K (T #[I Z 0,I Z e]) [] d)/\(¬¬e=0->Y Tryz.prog 181 [S a' l' c'] d fun g h=>∃i,g=I Z i/\(X base d h->(¬i=0->K (T #[I Z 0,I Z i]) [] h)/\(¬¬i=0->Y Tryz.prog 182 [S a l c] h fun j k=>∃m:List Value,List.length m=21/\j=A (List.toArray m)/\(X base h k->∀n:Nat,List.length m=21/\allOne m=true/\21=21/\true=true/\∀o:Heap,X 0 k o->o n=some (boxKB 220 m)/\True->Y Tryz.prog 183 [S a' l' c',Value.func (Fn.func 184) #[] #[P (some (D n 0 none))]] o fun p q=>∃r,p=I Z r/\∀s,X base k s->(∀(t:Nat)(u:KB),q t=some u->(∀v:Bx,v∈ [J n false 220 m]->t≠Bx.b v)->s t=some u)->K (T #[I Z r,I Z 0]) [] s)))))):=by kernel_rfl
theorem vc110(a:O)(l c:Nat)(p:Nat)(base:Nat)(H:Heap)(K:KT):
 (fV TryzMuts Tryz.f183 base H [.v (S a l c),.v (.func (.func 184) #[] #[.pointer (some ⟨p,0,none⟩)])] [] K)=(
 ∃(b:LI)(d:LM),b [I Z 0,I Z 0] H/\∀(e g:Int)(h:Heap),X base H h->b [I Z e,I Z g] h->(g<(l:Int)->∃i j,a=some (D i j none)/\0<=g/\g<(l:Int)/\∃k m n o:Int,(C h i (j+N g*4)=some (I Z k)/\C h i (j+N g*4+1)=some (I Z m)/\C h i (j+N g*4+2)=some (I Z n)/\C h i (j+N g*4+3)=some (I Z o)/\True)/\Y Tryz.prog 184 [A #[I Z k,I Z m,I Z n,I Z o],P (some (D p 0 none))] h fun q r=>∃s,q=B s/\(X base h r->(s=true->K (I Z g) [] r)/\(s=false->∀t:Int,t=W Z (g+1)->b [I Z e,I Z t] r/\d [I Z e,I Z t]<d [I Z e,I Z g])))/\(¬g<(l:Int)->K (I Z (-1)) [] h)):=by kernel_rfl
theorem vc111(x y z u:Int)(p:Nat)(base:Nat)(H:Heap)(K:KT):
 (fV TryzMuts Tryz.f184 base H [.v (A #[I Z x,I Z y,I Z z,I Z u]),.v (.pointer (some ⟨p,0,none⟩))] [] K)=(
 ∀a:Nat,0<=x/\x<21/\∃b,C H p (0+N x*1)=some (I Z b)/\(y<=b->0<=z/\z<21/\∃c,C H p (0+N z*1)=some (I Z c)/\K (B (decide (c<u))) [] H)/\(¬y<=b->K (B false) [] H)):=by kernel_rfl
open Go Go.Proofs
theorem cIn{H:Heap}(n a b:Int):Spec Tryz.prog 92 [i64 n,i64 a,i64 b] H fun v _=>v= .bool (inR n a b):=by
 refine Tryzvc Tryz.func92 (by kernel_rfl) (by kernel_rfl) _ rfl (fun base K=>vc102 n a b base H K) fun base hb=>⟨fun h=> ?_,fun h=> ?_⟩
 ·simp[inR,h]
 ·simp[inR,h]
def idxFrom(x:Int):Int->List Int->Int
 |_,[]=> -1
 |i,y::r=>if x=y then i else idxFrom x (i+1) r
theorem idxFrom_mem(x:Int):∀(l:List Int)(i:Int),0<=i->(0<=idxFrom x i l↔x∈l)
 | [],i,_=>by simp[idxFrom]
 |y::r,i,h=>by
  unfold idxFrom
  split
  ·rename_i e;subst e;simp[h]
  ·rename_i e;rw[idxFrom_mem x r (i+1) (by omega)];simp[e]
theorem cIndex{H:Heap}{a:O}{l c:Nat}{xs:List Int}(hx:Sl RInt 1 H a l xs)(x:Int):Spec Tryz.prog 194 [.slice a l c,i64 x] H fun v _=>v=i64 (idxFrom x 0 xs):=by
 refine Tryzvc Tryz.func194 (by kernel_rfl) (by kernel_rfl) _ rfl (fun base K=>vc140 a l c x base H K) fun base hb=> ?_
 have hle:=hx.le
 refine⟨fun vs _=>∃(d:Int)(k:Nat),vs=[i64 d,i64 k]/\k<=l/\idxFrom x k (xs.drop k)=idxFrom x 0 xs,upTo l 1,⟨0,0,rfl,by omega,rfl⟩,fun d n H' hN hI=> ?_⟩
 obtain⟨d',k,hvs,hk,hI⟩:=hI
 obtain⟨rfl,rfl⟩:d=d'/\n=(k:Int):=by simpa using hvs
 refine⟨fun hlt=>hx.int hN.ext (by omega) hlt fun y hy=> ?_,fun hge=> ?_⟩
 ·rw[Int.toNat_natCast] at hy
  rw[drop_at hy] at hI
  refine⟨fun he=> ?_,?_⟩
  ·rw[←hI,idxFrom,if_pos he]
  ·rintro he r rfl
   rw[wrap_in (by omega) (by omega)]
   exact⟨⟨d,k+1,rfl,by omega,by rw[idxFrom,if_neg he] at hI;exact hI⟩,by simp[upTo];omega⟩
 ·rw[←hI,drop_all hx.len (by omega),idxFrom]
theorem cContains{H:Heap}{a:O}{l c:Nat}{xs:List Int}(hx:Sl RInt 1 H a l xs)(x:Int):Spec Tryz.prog 137 [.slice a l c,i64 x] H fun v _=>v= .bool (decide (x∈xs)):=by
 refine Tryzvc Tryz.func137 (by kernel_rfl) (by kernel_rfl) _ rfl (fun base K=>vc103 a l c x base H K) fun base hb=> ?_
 refine(cIndex hx x).int1 fun H' _ _=> ?_
 simp[idxFrom_mem x xs 0 (by omega)]

def seenCells(s:List Int):List Value:=s.flatMap fun x=>[i64 x,.bool true]
theorem seenCells_len(s:List Int):(seenCells s).length=2*s.length:=by
 induction s with
 |nil=>rfl
 |cons a r ih=>simp[seenCells] at ih⊢;omega
theorem mapGet_seen(x:Int):∀s:List Int,mapGet (.bool false) (.int .i64 x) (seenCells s)=some (.bool (decide (x∈s)),decide (x∈s))
 | []=>by simp[seenCells,mapGet]
 |y::r=>by
  have ih:=mapGet_seen x r
  simp only[seenCells,List.flatMap_cons,List.cons_append,List.nil_append,mapGet,keySame,if_pos] at ih⊢
  by_cases e:y=x
  ·subst e;simp
  ·have e':¬x=y:=fun h=>e h.symm
   simp only[e,decide_false,List.mem_cons,e',false_or];exact ih
theorem mapSet_seen(x:Int):∀s:List Int,x∉s->mapSet (.int .i64 x) (.bool true) (seenCells s)=some (seenCells (s++[x]))
 | [],_=>rfl
 |y::r,h=>by
  have ih:=mapSet_seen x r (fun h'=>h (List.mem_cons_of_mem _ h'))
  have e:¬y=x:=fun h'=>h (h'▸List.mem_cons_self)
  have e':¬x=y:=fun h'=>h (h'▸List.mem_cons_self)
  simp only[seenCells,List.flatMap_cons,List.cons_append,List.nil_append,mapSet,keySame,if_pos,e,e',decide_false] at ih⊢
  rw[ih];rfl

abbrev Waves(H:Heap)(a:O)(n:Nat)(l:List (List Int)):Prop:=Sl (RSl RInt 1) 1 H a n l
theorem Waves.ext'{H H':Heap}{a:O}{n:Nat}{l:List (List Int)}(h:Waves H a n l)(e:Ext H H'):Waves H' a n l:=Sl.ext (RSl.mono RInt.mono) h e
theorem cWaveCheck{H:Heap}{a:O}{l c:Nat}{ws:List (List Int)}(hx:Waves H a l ws)(k:Int):Spec Tryz.prog 187 [.slice a l c,i64 k] H fun v _=>v=i64 (waveCheck ws k):=by
 refine Tryzvc Tryz.func187 (by kernel_rfl) (by kernel_rfl) _ rfl (fun base K=>vc26 a l c k base H K) fun base hb=>⟨fun h1=> ?_,fun h1=>⟨fun h2=> ?_,fun h2=> ?_⟩⟩
 ·rw[waveCheck,if_pos h1]
 ·rw[waveCheck,if_neg h1,if_pos h2]
 have hW:waveCheck ws k=waveAll k [] ws:=by rw[waveCheck,if_neg h1,if_neg h2]
 rw[hW]
 have hle:=hx.le
 intro _
 refine⟨fun vs _=>∃(d:Int)(i:Nat)(s:List Int),vs=[i64 d,i64 i,.agg (seenCells s).toArray]/\i<=l/\waveAll k s (ws.drop i)=waveAll k [] ws,upTo l 1,⟨0,0,[],rfl,by omega,rfl⟩,fun d n cs H' hN hI=> ?_⟩
 obtain⟨d',i,s,hvs,hi,hI⟩:=hI
 obtain⟨rfl,rfl,rfl⟩:d=d'/\n=(i:Int)/\cs=seenCells s:=by simpa using hvs
 refine⟨fun hlt=>hx.slice hN.ext (by omega) hlt fun w a' n' c' hw hs=> ?_,fun hge=> ?_⟩
 ·rw[Int.toNat_natCast] at hw
  rw[drop_at hw,waveAll] at hI
  have hwl:=hs.len
  have hwle:=hs.le
  refine⟨fun h0=> ?_,fun h0=> ?_⟩
  ·rw[←hI,if_pos (List.length_eq_zero_iff.1 (by omega))]
  ·rw[if_neg (by rintro rfl;simp at hwl;omega)] at hI
   refine⟨fun vs _=>∃(d2:Int)(j:Nat)(s':List Int),vs=[i64 d2,i64 j,.agg (seenCells s').toArray]/\j<=n'/\(match waveIn k s' (w.drop j) with| .error e=>e| .ok s''=>waveAll k s'' (ws.drop (i+1)))=waveAll k [] ws,
    upTo n' 1,⟨_,0,s,rfl,by omega,hI⟩,fun d2 m cs2 H2 hN2 hI2=> ?_⟩
   obtain⟨d3,j,s',hvs2,hj,hI2⟩:=hI2
   obtain⟨rfl,rfl,rfl⟩:d2=d3/\m=(j:Int)/\cs2=seenCells s':=by simpa using hvs2
   refine⟨fun hlt2=> ?_,fun hge2=> ?_⟩
   ·refine hs.int hN2.ext (by omega) hlt2 fun x hx2=> ?_
    rw[Int.toNat_natCast] at hx2
    rw[drop_at hx2,waveIn] at hI2
    refine⟨fun hlo=> ?_,fun hlo=>⟨fun hhi=> ?_,fun hhi=> ?_⟩⟩
    ·rw[if_pos hlo] at hI2;rw[←hI2]
    ·rw[if_neg hlo,if_pos hhi] at hI2;rw[←hI2]
    ·rw[if_neg hlo,if_neg hhi] at hI2
     refine⟨_,_,mapGet_seen x s',fun hm=> ?_,fun hm=> ?_⟩
     ·rw[if_pos (by simpa using hm)] at hI2;rw[←hI2]
     ·have hm':x∉s':=by simpa using hm
      rw[if_neg hm'] at hI2
      refine⟨_,mapSet_seen x s' hm',?_⟩
      rintro r rfl
      rw[wrap_in (by omega) (by omega)]
      exact⟨⟨_,j+1,s'++[x],rfl,by omega,hI2⟩,by simp[upTo];omega⟩
   ·rw[drop_all hwl (by omega),waveIn] at hI2
    rintro r rfl
    rw[wrap_in (by omega) (by omega)]
    exact⟨⟨_,i+1,s',rfl,by omega,hI2⟩,by simp[upTo];omega⟩
 ·rw[drop_all hx.len (by omega),waveAll] at hI
  rw[←hI,seenCells_len]
  refine⟨fun h=> ?_,fun h=> ?_⟩
  ·rw[if_pos (by omega)]
  ·rw[if_neg (by omega)]
theorem wrap_small{n:Int}(h: -100000<=n)(h':n<=100000):IntKind.wrap .i64 n=n:=wrap_in (by omega) (by omega)
theorem cRefWaveCheck{H:Heap}{a:O}{l c:Nat}{ws:List (List Int)}(hx:Waves H a l ws)(k:Int):Spec Tryz.prog 94 [.slice a l c,i64 k] H fun v _=>v=i64 (refWaveCheck ws k):=by
 refine Tryzvc Tryz.func94 (by kernel_rfl) (by kernel_rfl) _ rfl (fun base K=>vc24 a l c k base H K) fun base hb=>(cIn k 1 6).bool1 fun H1 e1 hN1=>⟨fun h1=> ?_,fun h1=> ?_⟩
 ·rw[refWaveCheck,if_pos h1]
 have hW:refWaveCheck ws k=refWaveAll k [] ws:=by rw[refWaveCheck,if_neg h1]
 rw[hW]
 have hk:1<=k/\k<=6:=by simpa[inR] using h1
 have hle:=hx.le
 refine⟨fun vs Hc=>∃(d:Int)(s:List Int)(a:O)(c i:Nat),vs=[i64 d,.slice a s.length c,i64 i]/\Row base Hc 3 1 a s.length c (s.map i64)/\WOk k s/\i<=l/\refWaveAll k s (ws.drop i)=refWaveAll k [] ws,
  upTo l 2,⟨0,[],none,0,0,rfl,Row.nil,wok_nil k,by omega,rfl⟩,fun d a1 n1 c1 n H2 hN2 hI=> ?_⟩
 obtain⟨d',s,a1',c1',i,hvs,hR,hok,hi,hI⟩:=hI
 obtain⟨rfl,⟨rfl,rfl,rfl⟩,rfl⟩:d=d'/\(a1=a1'/\n1=s.length/\c1=c1')/\n=(i:Int):=by simpa using hvs
 refine⟨fun hlt=>hx.slice hN2.ext (by omega) hlt fun w a' n' c' hw hs=> ?_,fun hge=> ?_⟩
 ·rw[Int.toNat_natCast] at hw
  rw[drop_at hw,refWaveAll] at hI
  have hwl:=hs.len
  have hwle:=hs.le
  refine⟨fun h0=> ?_,fun h0=> ?_⟩
  ·rw[←hI,if_pos (List.length_eq_zero_iff.1 (by omega))]
  ·rw[if_neg (by rintro rfl;simp at hwl;omega)] at hI
   refine⟨fun vs Hc=>∃(d:Int)(s:List Int)(a:O)(c j:Nat),vs=[i64 d,.slice a s.length c,i64 j]/\Row base Hc 3 1 a s.length c (s.map i64)/\WOk k s/\j<=n'/\
     (match waveIn k s (w.drop j) with| .error e=>e| .ok s''=>refWaveAll k s'' (ws.drop (i+1)))=refWaveAll k [] ws,
    upTo n' 2,⟨_,s,_,_,0,rfl,hR,hok,by omega,hI⟩,fun d2 a2 n2 c2 m H3 hN3 hI2=> ?_⟩
   obtain⟨d3,s',a3,c3,j,hvs2,hR2,hok2,hj,hI2⟩:=hI2
   obtain⟨rfl,⟨rfl,rfl,rfl⟩,rfl⟩:d2=d3/\(a2=a3/\n2=s'.length/\c2=c3)/\m=(j:Int):=by simpa using hvs2
   refine⟨fun hlt2=>hs.int hN3.ext (by omega) hlt2 fun x hx2=> ?_,fun hge2=> ?_⟩
   ·rw[Int.toNat_natCast] at hx2
    rw[drop_at hx2,waveIn] at hI2
    rintro r rfl
    rw[wrap_small (by omega) (by omega)]
    refine(cIn x 0 (k-1)).bool1 fun H4 e4 hN4=>⟨fun h4=> ?_,fun h4=> ?_⟩
    ·have:¬(0<=x/\x<=k-1):=by simpa[inR] using h4
     by_cases c1:x<0
     ·rw[if_pos c1] at hI2;rw[←hI2]
     ·rw[if_neg c1,if_pos (by omega)] at hI2;rw[←hI2]
    ·have h4':0<=x/\x<=k-1:=by simpa[inR] using h4
     rw[if_neg (by omega),if_neg (by omega)] at hI2
     refine(cContains (ints_of_row (hR2.ext e4)) x).bool1 fun H5 e5 hN5=>⟨fun h5=> ?_,fun h5=> ?_⟩
     ·rw[if_pos (by simpa using h5)] at hI2;rw[←hI2]
     ·have h5':x∉s':=by simpa using h5
      rw[if_neg h5'] at hI2
      have hok3:=wok_snoc hok2 h4'.1 (by omega) h5'
      have hl3:=hok3.len (by omega)
      simp at hl3
      refine fun _=>⟨s'.map i64,(hR2.ext e4).ext e5,by omega,by omega,fun a6 c6 H6 _ hR6=> ?_⟩
      rintro r rfl
      rw[wrap_in (by omega) (by omega)]
      refine⟨⟨d2,s'++[x],a6,c6,j+1,by simp,?_,hok3,by omega,hI2⟩,by simp[upTo];omega⟩
      simpa using hR6
   ·rw[drop_all hwl (by omega),waveIn] at hI2
    rintro r rfl
    rw[wrap_in (by omega) (by omega)]
    exact⟨⟨_,s',a2,c2,i+1,rfl,hR2,hok2,by omega,hI2⟩,by simp[upTo];omega⟩
 ·rw[drop_all hx.len (by omega),refWaveAll] at hI
  rw[←hI]
  refine⟨fun h=> ?_,fun h=> ?_⟩
  ·rw[if_neg h]
  ·rw[if_pos (by omega)]

theorem cWaveOf{H:Heap}{a:O}{l c:Nat}{ws:List (List Int)}(hx:Waves H a l ws)(k:Int):Spec Tryz.prog 49 [.slice a l c,i64 k] H fun v _=>v=i64 (waveOf ws k):=by
 have h105:∀ {H:Heap} {a:O} {l c:Nat} {xs:List Int} {p:Nat},Sl RInt 1 H a l xs->H.cell p 0=some (i64 k)->Spec Tryz.prog 136 [.slice a l c,.pointer (some ⟨p,0,none⟩)] H fun v _=>v= .bool (decide (k∈xs)):=by
  intro H a l c xs p hx hp
  refine Tryzvc Tryz.func136 (by kernel_rfl) (by kernel_rfl) _ rfl (fun base K=>vc105 a l c p base H K) fun base hb=>⟨k,hp,(cContains hx k).bool1 fun H' _ _=>rfl⟩
 have h104:∀ {H:Heap} {a:O} {l c:Nat} {ws:List (List Int)} {p:Nat},Waves H a l ws->H.cell p 0=some (i64 k)->Spec Tryz.prog 135 [.slice a l c,.func (.func 136) #[] #[.pointer (some ⟨p,0,none⟩)]] H fun v _=>v=i64 (waveOf ws k):=by
  intro H a l c ws p hx hp
  refine Tryzvc Tryz.func135 (by kernel_rfl) (by kernel_rfl) _ rfl (fun base K=>vc104 a l c p base H K) fun base hb=> ?_
  have hle:=hx.le
  refine⟨fun vs _=>∃(d:Int)(i:Nat),vs=[i64 d,i64 i]/\i<=l/\waveOfFrom k i (ws.drop i)=waveOf ws k,upTo l 1,⟨0,0,rfl,by omega,rfl⟩,fun d n H' hN hI=> ?_⟩
  obtain⟨d',i,hvs,hi,hI⟩:=hI
  obtain⟨rfl,rfl⟩:d=d'/\n=(i:Int):=by simpa using hvs
  refine⟨fun hlt=>hx.slice hN.ext (by omega) hlt fun w a' n' c' hw hs=> ?_,fun hge=> ?_⟩
  ·rw[Int.toNat_natCast] at hw
   rw[drop_at hw,waveOfFrom] at hI
   refine(h105 (hs.ext RInt.mono hN.ext) (Heap.cell_next hN.ext hp)).bool1 fun H2 _ _=>⟨fun h=> ?_,fun h=> ?_⟩
   ·rw[if_pos (by simpa using h)] at hI;rw[←hI]
   ·rw[if_neg (by simpa using h)] at hI
    rintro r rfl
    rw[wrap_in (by omega) (by omega)]
    exact⟨⟨_,i+1,rfl,by omega,hI⟩,by simp[upTo];omega⟩
  ·rw[←hI,drop_all hx.len (by omega),waveOfFrom]
 refine Tryzvc Tryz.func49 (by kernel_rfl) (by kernel_rfl) _ rfl (fun base K=>vc27 a l c k base H K) fun base hb=> ?_
 intro b
 refine⟨rfl,fun Hl hNl hb=> ?_⟩
 refine(h104 (hx.ext' hNl.ext) (p:=b) (by unfold Heap.cell;rw[hb.1];rfl)).mono fun v H2 e2 hv=>⟨_,hv,fun H' hN _=>rfl⟩
def waveNow(ws:List (List Int))(th:List Bool):Int:=if waveCheck ws th.length=0 then nowFrom th 0 ws else 0
theorem cWaveNow{H:Heap}{a a':O}{l c l' c':Nat}{ws:List (List Int)}{th:List Bool}(hx:Waves H a l ws)(ht:Sl RBool 1 H a' l' th):
  Spec Tryz.prog 252 [.slice a l c,.slice a' l' c'] H fun v _=>v= .tuple #[i64 (waveNow ws th),i64 (waveCheck ws th.length)]:=by
 refine Tryzvc Tryz.func252 (by kernel_rfl) (by kernel_rfl) _ rfl (fun base K=>vc23 a a' l c l' c' base H K) fun base hb=> ?_
 have hle:=hx.le
 have htl:=ht.len
 rw[htl]
 refine(cWaveCheck hx l').int1 fun H1 e1 hN1=>⟨fun h=> ?_,fun h=> ?_⟩
 ·rw[waveNow,htl,if_neg h]
 have h:=Decidable.not_not.1 h
 obtain⟨k1,k2,hnd,hin,hne⟩:=waveCheck_zero h
 have hW:waveNow ws th=nowFrom th 0 ws:=by rw[waveNow,htl,if_pos h]
 rw[hW,h]
 refine⟨fun vs _=>∃(d1 d2:Int)(i:Nat),vs=[i64 d1,i64 d2,i64 i]/\i<=l/\nowFrom th i (ws.drop i)=nowFrom th 0 ws,upTo l 2,⟨0,0,0,rfl,by omega,rfl⟩,fun d1 d2 n H' hN hI=> ?_⟩
 obtain⟨d1',d2',i,hvs,hi,hI⟩:=hI
 obtain⟨rfl,rfl,rfl⟩:d1=d1'/\d2=d2'/\n=(i:Int):=by simpa using hvs
 refine⟨fun hlt=>hx.slice hN.ext (by omega) hlt fun w b n' d' hw hs=> ?_,fun hge=> ?_⟩
 ·rw[Int.toNat_natCast] at hw
  rw[drop_at hw,nowFrom] at hI
  have hwle:=hs.le
  refine⟨fun vs _=>∃(d1 d2:Int)(j:Nat),vs=[i64 d1,i64 d2,i64 j]/\j<=n'/\(if(w.drop j).any (notThrough th) then(i:Int) else nowFrom th (i+1) (ws.drop (i+1)))=nowFrom th 0 ws,
   upTo n' 2,⟨_,_,0,rfl,by omega,hI⟩,fun e1 e2 m H2 hN2 hI2=> ?_⟩
  obtain⟨e1',e2',j,hvs2,hj,hI2⟩:=hI2
  obtain⟨rfl,rfl,rfl⟩:e1=e1'/\e2=e2'/\m=(j:Int):=by simpa using hvs2
  refine⟨fun hlt2=>hs.int hN2.ext (by omega) hlt2 fun x hx2=> ?_,fun hge2=> ?_⟩
  ·rw[Int.toNat_natCast] at hx2
   have hxin:=(hin x).1 (List.mem_flatten.2 ⟨w,List.mem_of_getElem? hw,List.mem_of_getElem? hx2⟩)
   rw[drop_at hx2,List.any_cons] at hI2
   refine ht.bool hN2.ext hxin.1 hxin.2 fun y hy=>⟨fun h=> ?_,fun h=> ?_⟩
   ·rw[if_pos (by simp[notThrough,hy,h])] at hI2;rw[←hI2]
   ·rintro r rfl
    rw[wrap_in (by omega) (by omega)]
    exact⟨⟨_,_,j+1,rfl,by omega,by simpa[notThrough,hy,h] using hI2⟩,by simp[upTo];omega⟩
  ·rw[drop_all hs.len (by omega),if_neg (by simp)] at hI2
   rintro r rfl
   rw[wrap_in (by omega) (by omega)]
   exact⟨⟨_,_,i+1,rfl,by omega,hI2⟩,by simp[upTo];omega⟩
 ·rw[←hI,drop_all hx.len (by omega),nowFrom]
  rw[show(i:Int)=l from by omega]
theorem ints_of_box{H:Heap}{g:Nat}{ty:TypeId}{xs:List Int}{n:Nat}(h:H g=some (boxKB ty (xs.map i64)))(hn:xs.length=n)(hle:(n:Int)<=9223372036854775807):Sl RInt 1 H (some ⟨g,0,none⟩) n xs:=
 Sl.of_has (rows:=intRows xs) (Has.of_box h (by clear h hn;induction xs with|nil=>rfl|cons x r ih=>simp[intRows] at ih⊢;exact ih) (by intro r hr;simp[intRows] at hr;obtain⟨x,_,rfl⟩:=hr;rfl) (by simp[intRows];exact hn) hle) (by simp[intRows])
  fun i r x hr hx=>by
   simp[intRows] at hr
   obtain⟨y,hy,rfl⟩:=hr
   rw[hx] at hy
   obtain rfl:=Option.some.inj hy
   rfl
open Go Go.Proofs
theorem neq48{xo yo:Operand}(a b c d:Int):RunsTo Tryz.prog (binRun .neq 91 xo yo (.agg #[.int .i64 a,.int .i64 b]) (.agg #[.int .i64 c,.int .i64 d])) (.bool (!(a==c&&b==d))):=by
 intro w
 have u3:= Tryz.underlying3
 have a3:= Tryz.isAgg3
 have z3:= Tryz.sizeOf3
 have hS: Tryz.prog.underlying 91=some (.struct (Tryz.prog.fieldsOf 91)):=by kernel_rfl
 have hp: Tryz.prog.stoodInHeld 91=false:=by kernel_rfl
 have hm: Tryz.prog.eqGuardType Tryz.prog.depth 91=false:=by kernel_rfl
 have he:(Op.equalIn 10000 91 (.agg #[.int .i64 a,.int .i64 b]) (.agg #[.int .i64 c,.int .i64 d])).run Tryz.prog w= .ok (a==c&&b==d) w:=by
  rw[show(10000:Nat)=9999+1 from rfl,run_equalIn_agg w 9999 91 _ _ hS hp]
  simp only[Program.fieldsOf,Tryz.underlying91]
  go_simp
  by_cases h1:a=c<;>by_cases h2:b=d<;>simp[h1,h2]
 simp only[binRun,Sem.run_bind,run_eqGuard_agg w _ 91 _ _ _ _ hm,Result.andThen_ok,run_neq_struct,he]
theorem eqNil{ty e:TypeId}(h: Tryz.prog.underlying ty=some (.slice e)){xo:Operand}{a:O}{n c:Nat} :RunsTo Tryz.prog (binRun .eql ty xo (.const (.slice none 0 0)) (.slice a n c) (.slice none 0 0)) (.bool a.isNone):=by
 intro w
 have hg:(eqGuard .eql ty xo (.const (.slice none 0 0)) (.slice a n c) (.slice none 0 0)).run Tryz.prog w= .ok () w:=by simp[eqGuard]
 simp only[binRun,Sem.run_bind,hg,Result.andThen_ok]
 have:=run_equal_slice_nil w ty e a n c h
 simp[binOp,this]
theorem eqBool{xo yo:Operand}{a b:Bool} :RunsTo Tryz.prog (binRun .eql 4 xo yo (.bool a) (.bool b)) (.bool (a==b)):=by
 intro w
 have hg:(eqGuard .eql 4 xo yo (.bool a) (.bool b)).run Tryz.prog w= .ok () w:=by simp[eqGuard]
 simp only[binRun,Sem.run_bind,hg,Result.andThen_ok]
 have:=run_equal_bool w 4 a b Tryz.underlying4
 simp[binOp,this]
open Go Go.Proofs
def lastName(xs:List Pin):Nat->Int
 |0=>0
 |i+1=>match xs[i]? with|some p=>p.name|none=>0
theorem cLockCheck{H:Heap}{a:O}{l c:Nat}{xs:List Pin}(hx:Pins H a l xs):Spec Tryz.prog 140 [.slice a l c] H fun v _=>v=i64 (lockCheck xs):=by
 refine Tryzvc Tryz.func140 (by kernel_rfl) (by kernel_rfl) _ rfl (fun base K=>vc62 a l c base H K) fun base hb=> ?_
 have hl:=hx.len
 refine⟨fun h=> ?_,fun h=> ?_⟩
 ·rw[lockCheck,if_pos (by omega)]
 have hW:lockCheck xs=lockFrom 0 xs:=by rw[lockCheck,if_neg (by omega)]
 rw[hW]
 refine⟨fun vs _=>∃(d:Int)(i:Nat),vs=[i64 d,i64 i]/\i<=l/\lockFrom (lastName xs i) (xs.drop i)=lockFrom 0 xs,upTo l 1,⟨0,0,rfl,by omega,rfl⟩,fun d n H' hN hI=> ?_⟩
 obtain⟨d',i,hvs,hi,hI⟩:=hI
 obtain⟨rfl,rfl⟩:d=d'/\n=(i:Int):=by simpa using hvs
 refine⟨fun hlt=>hx.pin hN.ext (by omega) hlt fun p hp=> ?_,fun hge=> ?_⟩
 ·rw[Int.toNat_natCast] at hp
  rw[drop_at hp,lockFrom] at hI
  intro _
  have hnext:lastName xs (i+1)=p.name:=by simp[lastName,hp]
  refine⟨fun h1=> ?_,fun h1=>⟨fun h2=> ?_,fun h2=>⟨fun h3=> ?_,fun h3=>⟨fun h4=> ?_,fun h4=>⟨fun h5=> ?_,fun h5=> ?_⟩⟩⟩⟩⟩
  ·rw[if_pos (by unfold badPin;omega)] at hI;rw[←hI]
  ·rw[if_pos (by unfold badPin;omega)] at hI;rw[←hI]
  ·rw[if_pos (by unfold badPin;omega)] at hI;rw[←hI]
  ·rw[if_pos (by unfold badPin;omega)] at hI;rw[←hI]
  ·rw[if_neg (by unfold badPin;omega)] at hI
   rintro r rfl
   rw[wrap_small (by omega) (by omega)]
   refine hx.pinName hN.ext (by omega) (by omega) fun q hq=> ?_
   have hlast:lastName xs i=q.name:=by
    obtain⟨j,rfl⟩:∃j,i=j+1:=⟨i-1,by omega⟩
    rw[show((j+1:Nat):Int)-1=(j:Int) from by omega,Int.toNat_natCast] at hq
    simp[lastName,hq]
   rw[hlast] at hI
   refine⟨fun h6=> ?_,fun h6=> ?_⟩
   ·rw[if_pos h6] at hI;rw[←hI]
   ·rw[if_neg h6] at hI
    rintro r rfl
    rw[wrap_small (by omega) (by omega)]
    exact⟨⟨_,i+1,rfl,by omega,by rw[hnext];exact hI⟩,by simp[upTo];omega⟩
  ·rw[if_neg (by unfold badPin;omega)] at hI
   obtain rfl:i=0:=by omega
   rw[if_neg (by simp[lastName];omega)] at hI
   rintro r rfl
   rw[wrap_small (by omega) (by omega)]
   exact⟨⟨_,1,rfl,by omega,by rw[hnext];exact hI⟩,by simp[upTo];omega⟩
 ·rw[←hI,drop_all hx.len (by omega),lockFrom]
theorem cRefLockCheck{H:Heap}{a:O}{l c:Nat}{xs:List Pin}(hx:Pins H a l xs):Spec Tryz.prog 159 [.slice a l c] H fun v _=>v=i64 (lockCheck xs):=by
 refine Tryzvc Tryz.func159 (by kernel_rfl) (by kernel_rfl) _ rfl (fun base K=>vc108 a l c base H K) fun base hb=> ?_
 have hl:=hx.len
 refine⟨fun h=> ?_,fun h=> ?_⟩
 ·rw[lockCheck,if_pos (by omega)]
 have hW:lockCheck xs=lockFrom 0 xs:=by rw[lockCheck,if_neg (by omega)]
 rw[hW]
 refine⟨fun vs _=>∃(d m:Int)(i:Nat),vs=[i64 d,i64 m,i64 i]/\i<=l/\lockFrom m (xs.drop i)=lockFrom 0 xs,upTo l 2,⟨0,0,0,rfl,by omega,rfl⟩,fun d m n H' hN hI=> ?_⟩
 obtain⟨d',m',i,hvs,hi,hI⟩:=hI
 obtain⟨rfl,rfl,rfl⟩:d=d'/\m=m'/\n=(i:Int):=by simpa using hvs
 refine⟨fun hlt=>hx.pin hN.ext (by omega) hlt fun p hp=> ?_,fun hge=> ?_⟩
 ·rw[Int.toNat_natCast] at hp
  rw[drop_at hp,lockFrom] at hI
  intro _
  refine(cIn _ _ _).bool1 fun H1 _ _=>⟨fun h1=> ?_,fun h1=>(cIn _ _ _).bool1 fun H2 _ _=>⟨fun h2=> ?_,fun h2=>⟨fun h3=> ?_,fun h3=> ?_⟩⟩⟩
  ·have:¬(1<=p.name/\p.name<=20):=by simpa[inR] using h1
   rw[if_pos (by unfold badPin;omega)] at hI;rw[←hI]
  ·have:¬(1<=p.ver/\p.ver<=99):=by simpa[inR] using h2
   rw[if_pos (by unfold badPin;omega)] at hI;rw[←hI]
  ·have h1':1<=p.name/\p.name<=20:=by simpa[inR] using h1
   have h2':1<=p.ver/\p.ver<=99:=by simpa[inR] using h2
   rw[if_neg (by unfold badPin;omega),if_pos h3] at hI;rw[←hI]
  ·have h1':1<=p.name/\p.name<=20:=by simpa[inR] using h1
   have h2':1<=p.ver/\p.ver<=99:=by simpa[inR] using h2
   rw[if_neg (by unfold badPin;omega),if_neg h3] at hI
   rintro r rfl
   rw[wrap_small (by omega) (by omega)]
   exact⟨⟨_,_,i+1,rfl,by omega,hI⟩,by simp[upTo];omega⟩
 ·rw[←hI,drop_all hx.len (by omega),lockFrom]
def pinIdx(k:Int):Int->List Pin->Int
 |_,[]=> -1
 |i,p::r=>if p.name=k then i else pinIdx k (i+1) r
theorem pinIdx_spec(k:Int):∀(xs:List Pin)(i:Int),0<=i->(pinIdx k i xs= -1/\find xs k=0/\∀p∈xs,p.name≠k)∨ ∃(j:Nat)(p:Pin),pinIdx k i xs=i+j/\xs[j]?=some p/\find xs k=p.ver/\p.name=k
 | [],i,_=> .inl ⟨rfl,rfl,by simp⟩
 |p::r,i,hi=>by
  unfold pinIdx
  by_cases e:p.name=k
  ·rw[if_pos e];exact .inr ⟨0,p,by simp,rfl,by rw[find,if_pos e],e⟩
  ·rw[if_neg e]
   rcases pinIdx_spec k r (i+1) (by omega) with⟨h1,h2,h3⟩|⟨j,q,h1,h2,h3,h4⟩
   ·exact .inl ⟨h1,by rw[find,if_neg e,h2],fun q hq=>by rcases List.mem_cons.1 hq with rfl|hq;exact e;exact h3 q hq⟩
   ·exact .inr ⟨j+1,q,by rw[h1];omega,by simpa using h2,by rw[find,if_neg e,h3],h4⟩
theorem cPinIdx{H:Heap}{a:O}{l c:Nat}{xs:List Pin}(hx:Pins H a l xs){k:Int}{p:Nat}(hp:H.cell p 0=some (i64 k)):
  Spec Tryz.prog 147 [.slice a l c,.func (.func 148) #[] #[.pointer (some ⟨p,0,none⟩)]] H fun v _=>v=i64 (pinIdx k 0 xs):=by
 have h114:∀ {H:Heap} {n v:Int},H.cell p 0=some (i64 k)->Spec Tryz.prog 148 [.agg #[.int .i64 n,.int .i64 v],.pointer (some ⟨p,0,none⟩)] H fun r _=>r= .bool (decide (n=k)):=by
  intro H n v hp
  refine Tryzvc Tryz.func148 (by kernel_rfl) (by kernel_rfl) _ rfl (fun base K=>vc114 n v p base H K) fun base hb=> ?_
  intro _
  exact⟨k,hp,rfl⟩
 refine Tryzvc Tryz.func147 (by kernel_rfl) (by kernel_rfl) _ rfl (fun base K=>vc113 a l c p base H K) fun base hb=> ?_
 have hle:=hx.le
 refine⟨fun vs _=>∃(d:Int)(i:Nat),vs=[i64 d,i64 i]/\i<=l/\pinIdx k i (xs.drop i)=pinIdx k 0 xs,upTo l 1,⟨0,0,rfl,by omega,rfl⟩,fun d n H' hN hI=> ?_⟩
 obtain⟨d',i,hvs,hi,hI⟩:=hI
 obtain⟨rfl,rfl⟩:d=d'/\n=(i:Int):=by simpa using hvs
 refine⟨fun hlt=>hx.pin hN.ext (by omega) hlt fun q hq=> ?_,fun hge=> ?_⟩
 ·rw[Int.toNat_natCast] at hq
  rw[drop_at hq,pinIdx] at hI
  refine(h114 (Heap.cell_next hN.ext hp)).bool1 fun H2 _ _=>⟨fun h=> ?_,fun h=> ?_⟩
  ·rw[if_pos (by simpa using h)] at hI;rw[←hI]
  ·rw[if_neg (by simpa using h)] at hI
   rintro r rfl
   rw[wrap_in (by omega) (by omega)]
   exact⟨⟨_,i+1,rfl,by omega,hI⟩,by simp[upTo];omega⟩
 ·rw[←hI,drop_all hx.len (by omega),pinIdx]
theorem cFind{H:Heap}{a:O}{l c:Nat}{xs:List Pin}(hx:Pins H a l xs)(k:Int):Spec Tryz.prog 75 [.slice a l c,i64 k] H fun v _=>v=i64 (find xs k):=by
 refine Tryzvc Tryz.func75 (by kernel_rfl) (by kernel_rfl) _ rfl (fun base K=>vc42 a l c k base H K) fun base hb=> ?_
 intro b
 refine⟨rfl,fun Hl hNl hb=> ?_⟩
 refine(cPinIdx (hx.ext' hNl.ext) (k:=k) (p:=b) (by unfold Heap.cell;rw[hb.1];rfl)).mono fun v H2 e2 hv=>⟨_,hv,fun H' hN _=> ?_⟩
 rcases pinIdx_spec k xs 0 (by omega) with⟨h1,h2,_⟩|⟨j,p,h1,h2,h3,_⟩
 ·rw[h1,h2];exact⟨fun _=>rfl,fun h=>absurd (by omega) h⟩
 ·rw[h1]
  have hj:=(List.getElem?_eq_some_iff.1 h2).1
  have hl:=hx.len
  refine⟨fun h=>by omega,fun _=>hx.pinVer hN.ext (by omega) (by omega) fun q hq=> ?_⟩
  rw[show(0+(j:Int)).toNat=j from by omega,h2] at hq
  obtain rfl:=Option.some.inj hq
  rw[h3]
theorem get_two{x y n:Int}{k:Nat}(hk:k<2)(h:n=if k=0 then x else y):([Value.int .i64 x,Value.int .i64 y]:List Value)[k*1]?=some (.int .i64 n):=by
 subst h
 match k,hk with
 |0,_=>rfl
 |1,_=>rfl
theorem cRuleCheck{H:Heap}{a:O}{l c:Nat}{rs:List Rule}(hx:Rules H a l rs):Spec Tryz.prog 222 [.slice a l c] H fun v _=>v=i64 (rulesCheck rs):=by
 refine Tryzvc Tryz.func222 (by kernel_rfl) (by kernel_rfl) _ rfl (fun base K=>vc39 a l c base H K) fun base hb=> ?_
 have hl:=hx.len
 refine⟨fun h=> ?_,fun h=> ?_⟩
 ·rw[rulesCheck,if_pos (by omega)]
 have hW:rulesCheck rs=rulesFrom rs:=by rw[rulesCheck,if_neg (by omega)]
 rw[hW]
 refine⟨fun vs _=>∃(d:Int)(i:Nat),vs=[i64 d,i64 i]/\i<=l/\rulesFrom (rs.drop i)=rulesFrom rs,upTo l 1,⟨0,0,rfl,by omega,rfl⟩,fun d n H' hN hI=> ?_⟩
 obtain⟨d',i,hvs,hi,hI⟩:=hI
 obtain⟨rfl,rfl⟩:d=d'/\n=(i:Int):=by simpa using hvs
 refine⟨fun hlt=>hx.rule hN.ext (by omega) hlt fun p hp=> ?_,fun hge=> ?_⟩
 ·rw[Int.toNat_natCast] at hp
  rw[drop_at hp,rulesFrom] at hI
  intro _
  refine⟨fun vs _=>∃(d:Int)(j:Nat),vs=[i64 d,i64 j]/\j<=2/\(0<j->1<=p.name/\p.name<=20)/\(1<j->1<=p.wth/\p.wth<=20),upTo 2 1,⟨_,0,rfl,by omega,by omega,by omega⟩,fun d2 m H2 hN2 hI2=> ?_⟩
  obtain⟨d3,j,hvs2,hj,hj0,hj1⟩:=hI2
  obtain⟨rfl,rfl⟩:d2=d3/\m=(j:Int):=by simpa using hvs2
  refine⟨fun hlt2=>⟨by omega,hlt2,(if j=0 then p.name else p.wth),?_,fun g1=> ?_,fun g1=>⟨fun g2=> ?_,fun g2=> ?_⟩⟩,fun hge2=> ?_⟩
  ·rw[Int.toNat_natCast];exact get_two (by omega) rfl
  ·rw[if_pos (by unfold badRule;split at g1<;>omega)] at hI;rw[←hI]
  ·rw[if_pos (by unfold badRule;split at g2<;>omega)] at hI;rw[←hI]
  ·rintro r rfl
   rw[wrap_small (by omega) (by omega)]
   refine⟨rfl,⟨_,j+1,rfl,by omega,fun _=> ?_,fun _=> ?_⟩,by simp[upTo];omega⟩
   ·by_cases e:j=0
    ·subst e;simp at g1 g2;omega
    ·exact hj0 (by omega)
   ·have e:j≠0:=by omega
    simp[e] at g1 g2;omega
  ·obtain rfl:j=2:=by omega
   have k0:=hj0 (by omega)
   have k1:=hj1 (by omega)
   refine⟨fun vs _=>∃(d:Int)(j:Nat),vs=[i64 d,i64 j]/\j<=2/\(0<j->1<=p.ver/\p.ver<=99)/\(1<j->1<=p.least/\p.least<=99),upTo 2 1,⟨_,0,rfl,by omega,by omega,by omega⟩,fun d2 m H2 hN2 hI2=> ?_⟩
   obtain⟨d3,j,hvs2,hj,hj0,hj1⟩:=hI2
   obtain⟨rfl,rfl⟩:d2=d3/\m=(j:Int):=by simpa using hvs2
   refine⟨fun hlt2=>⟨by omega,hlt2,(if j=0 then p.ver else p.least),?_,fun g1=> ?_,fun g1=>⟨fun g2=> ?_,fun g2=> ?_⟩⟩,fun hge2=> ?_⟩
   ·rw[Int.toNat_natCast];exact get_two (by omega) rfl
   ·rw[if_pos (by unfold badRule;split at g1<;>omega)] at hI;rw[←hI]
   ·rw[if_pos (by unfold badRule;split at g2<;>omega)] at hI;rw[←hI]
   ·rintro r rfl
    rw[wrap_small (by omega) (by omega)]
    refine⟨rfl,⟨_,j+1,rfl,by omega,fun _=> ?_,fun _=> ?_⟩,by simp[upTo];omega⟩
    ·by_cases e:j=0
     ·subst e;simp at g1 g2;omega
     ·exact hj0 (by omega)
    ·have e:j≠0:=by omega
     simp[e] at g1 g2;omega
   ·obtain rfl:j=2:=by omega
    have k2:=hj0 (by omega)
    have k3:=hj1 (by omega)
    rw[if_neg (by unfold badRule;omega)] at hI
    refine⟨fun h=> ?_,fun h=> ?_⟩
    ·rw[if_pos h] at hI;rw[←hI]
    ·rw[if_neg h] at hI
     rintro r rfl
     rw[wrap_small (by omega) (by omega)]
     exact⟨⟨_,i+1,rfl,by omega,hI⟩,by simp[upTo];omega⟩
 ·rw[←hI,drop_all hx.len (by omega),rulesFrom]
theorem cRefRuleCheck{H:Heap}{a:O}{l c:Nat}{rs:List Rule}(hx:Rules H a l rs):Spec Tryz.prog 181 [.slice a l c] H fun v _=>v=i64 (rulesCheck rs):=by
 refine Tryzvc Tryz.func181 (by kernel_rfl) (by kernel_rfl) _ rfl (fun base K=>vc40 a l c base H K) fun base hb=> ?_
 have hl:=hx.len
 refine⟨fun h=> ?_,fun h=> ?_⟩
 ·rw[rulesCheck,if_pos (by omega)]
 have hW:rulesCheck rs=rulesFrom rs:=by rw[rulesCheck,if_neg (by omega)]
 rw[hW]
 refine⟨fun vs _=>∃(d:Int)(i:Nat),vs=[i64 d,i64 i]/\i<=l/\rulesFrom (rs.drop i)=rulesFrom rs,upTo l 1,⟨0,0,rfl,by omega,rfl⟩,fun d n H' hN hI=> ?_⟩
 obtain⟨d',i,hvs,hi,hI⟩:=hI
 obtain⟨rfl,rfl⟩:d=d'/\n=(i:Int):=by simpa using hvs
 refine⟨fun hlt=>hx.rule hN.ext (by omega) hlt fun p hp=> ?_,fun hge=> ?_⟩
 ·rw[Int.toNat_natCast] at hp
  rw[drop_at hp,rulesFrom] at hI
  intro _
  refine(cIn _ _ _).bool1 fun H1 _ _=>⟨fun h1=> ?_,fun h1=>(cIn _ _ _).bool1 fun H2 _ _=>⟨fun h2=> ?_,fun h2=>(cIn _ _ _).bool1 fun H3 _ _=>⟨fun h3=> ?_,fun h3=>(cIn _ _ _).bool1 fun H4 _ _=>⟨fun h4=> ?_,fun h4=> ?_⟩⟩⟩⟩
  ·have:¬(1<=p.name/\p.name<=20):=by simpa[inR] using h1
   rw[if_pos (by unfold badRule;omega)] at hI;rw[←hI]
  ·have:¬(1<=p.wth/\p.wth<=20):=by simpa[inR] using h2
   rw[if_pos (by unfold badRule;omega)] at hI;rw[←hI]
  ·have:¬(1<=p.ver/\p.ver<=99):=by simpa[inR] using h3
   rw[if_pos (by unfold badRule;omega)] at hI;rw[←hI]
  ·have:¬(1<=p.least/\p.least<=99):=by simpa[inR] using h4
   rw[if_pos (by unfold badRule;omega)] at hI;rw[←hI]
  ·have h1':1<=p.name/\p.name<=20:=by simpa[inR] using h1
   have h2':1<=p.wth/\p.wth<=20:=by simpa[inR] using h2
   have h3':1<=p.ver/\p.ver<=99:=by simpa[inR] using h3
   have h4':1<=p.least/\p.least<=99:=by simpa[inR] using h4
   rw[if_neg (by unfold badRule;omega)] at hI
   refine⟨fun h=> ?_,fun h=> ?_⟩
   ·rw[if_pos h.symm] at hI;rw[←hI]
   ·rw[if_neg (fun e=>h e.symm)] at hI
    rintro r rfl
    rw[wrap_small (by omega) (by omega)]
    exact⟨⟨_,i+1,rfl,by omega,hI⟩,by simp[upTo];omega⟩
 ·rw[←hI,drop_all hx.len (by omega),rulesFrom]
theorem cBroken{H:Heap}{a a':O}{l c l' c':Nat}{xs:List Pin}{rs:List Rule}(hx:Pins H a l xs)(hr:Rules H a' l' rs):
  Spec Tryz.prog 186 [.slice a l c,.slice a' l' c'] H fun v _=>v= .tuple #[i64 (broken xs rs),i64 (brokenErr xs rs)]:=by
 refine Tryzvc Tryz.func186 (by kernel_rfl) (by kernel_rfl) _ rfl (fun base K=>vc34 a a' l c l' c' base H K) fun base hb=> ?_
 refine(cLockCheck hx).int1 fun H1 e1 hN1=>⟨fun h=> ?_,fun h=>(cRuleCheck (hr.ext' e1)).int1 fun H2 e2 hN2=>⟨fun h2=> ?_,fun h2=> ?_⟩⟩
 ·have e:brokenErr xs rs=lockCheck xs:=by rw[brokenErr,if_neg h]
  rw[broken,e,if_neg h]
 ·have e:brokenErr xs rs=rulesCheck rs:=by rw[brokenErr,if_pos (Decidable.not_not.1 h)]
  rw[broken,e,if_neg h2]
 have e:brokenErr xs rs=0:=by rw[brokenErr,if_pos (Decidable.not_not.1 h)];exact Decidable.not_not.1 h2
 have hW:broken xs rs=brokenFrom xs 0 rs:=by rw[broken,if_pos e]
 rw[e,hW]
 have hle:=hr.le
 refine⟨fun vs _=>∃(d1 d2:Int)(i:Nat),vs=[i64 d1,i64 d2,i64 i]/\i<=l'/\brokenFrom xs i (rs.drop i)=brokenFrom xs 0 rs,upTo l' 2,⟨0,0,0,rfl,by omega,rfl⟩,fun d1 d2 n H' hN hI=> ?_⟩
 obtain⟨d1',d2',i,hvs,hi,hI⟩:=hI
 obtain⟨rfl,rfl,rfl⟩:d1=d1'/\d2=d2'/\n=(i:Int):=by simpa using hvs
 refine⟨fun hlt=>hr.rule hN.ext (by omega) hlt fun p hp=> ?_,fun hge=> ?_⟩
 ·rw[Int.toNat_natCast] at hp
  rw[drop_at hp,brokenFrom] at hI
  intro _
  refine(cFind (hx.ext' hN.ext) _).int1 fun H3 e3 hN3=>⟨fun h3=>(cFind ((hx.ext' hN.ext).ext' e3) _).int1 fun H4 e4 hN4=>⟨fun h4=> ?_,fun h4=> ?_⟩,fun h3=> ?_⟩
  ·rw[if_pos ⟨h3,h4⟩] at hI;rw[←hI]
  ·rw[if_neg (fun h=>h4 h.2)] at hI
   rintro r rfl
   rw[wrap_in (by omega) (by omega)]
   exact⟨⟨_,_,i+1,rfl,by omega,hI⟩,by simp[upTo];omega⟩
  ·rw[if_neg (fun h=>h3 h.1)] at hI
   rintro r rfl
   rw[wrap_in (by omega) (by omega)]
   exact⟨⟨_,_,i+1,rfl,by omega,hI⟩,by simp[upTo];omega⟩
 ·rw[←hI,drop_all hr.len (by omega),brokenFrom]
open Go Go.Proofs
theorem drop_eq_iff{α:Type}{xs ys:List α}{k:Nat}{p q:α}(hp:xs[k]?=some p)(hq:ys[k]?=some q):(xs.drop k=ys.drop k)↔(p=q/\xs.drop (k+1)=ys.drop (k+1)):=by
 rw[drop_at hp,drop_at hq];simp
theorem cEqPins{H:Heap}{a a':O}{l c l' c':Nat}{xs ys:List Pin}(hx:Pins H a l xs)(hy:Pins H a' l' ys):
  Spec Tryz.prog 47 [.slice a l c,.slice a' l' c'] H fun v _=>v= .bool (decide (xs=ys)):=by
 refine Tryzvc Tryz.func47 (by kernel_rfl) (by kernel_rfl) _ rfl (fun base K=>vc41 a a' l c l' c' base H K) fun base hb=> ?_
 have hxl:=hx.len
 have hyl:=hy.len
 have hle:=hx.le
 refine⟨fun hne=> ?_,fun he=> ?_⟩
 ·rw[decide_eq_false];rintro rfl;omega
 ·refine⟨fun vs _=>∃(b:Bool)(k:Nat),vs=[.bool b,i64 k]/\k<=l/\(xs.drop k=ys.drop k↔xs=ys),upTo l 1,⟨false,0,rfl,by omega,by simp⟩,fun b n H' hN hI=> ?_⟩
  obtain⟨b',k,hvs,hk,hI⟩:=hI
  obtain⟨rfl,rfl⟩:b=b'/\n=(k:Int):=by simpa using hvs
  refine⟨fun hlt=>hx.pin hN.ext (by omega) hlt fun p hp=>hy.pin hN.ext (by omega) (by omega) fun q hq=>⟨_,neq48 _ _ _ _,fun h=> ?_,fun h=> ?_⟩,fun hge=> ?_⟩
  ·rw[Int.toNat_natCast] at hp hq
   rw[drop_eq_iff hp hq] at hI
   rw[decide_eq_false]
   intro e
   obtain⟨rfl,_⟩:=hI.2 e
   simp at h
  ·rw[Int.toNat_natCast] at hp hq
   rw[drop_eq_iff hp hq] at hI
   have hpq:p=q:=by
    cases p;cases q;simp at h;simp[h]
   rintro r rfl
   rw[wrap_in (by omega) (by omega)]
   exact⟨⟨b,k+1,rfl,by omega,by rw[←hI];simp[hpq]⟩,by simp[upTo];omega⟩
  ·rw[decide_eq_true]
   exact hI.1 (by rw[drop_all hxl (by omega),drop_all hyl (by omega)])
theorem pins_of_row{base:Nat}{H:Heap}{e:TypeId}{a:O}{n c:Nat}{xs:List Pin}(h:Row base H e 2 a n c (xs.flatMap pinCells)):Pins H a n xs:=sl_of_rowE pinCells_len (by omega) h
theorem one_pins(xs:List Pin):allOne (xs.flatMap pinCells)=true:=allOne_flat (fun _=>rfl) xs
def tabCells(l:List Pin):List Value:=(tabI l).map i64
theorem tabCells_len(l:List Pin):(tabCells l).length=21:=by simp[tabCells,tabI]
theorem allOne_ints:∀l:List Int,allOne (l.map i64)=true
 | []=>rfl
 |x::r=>by simp only[List.map_cons,allOne,Bool.and_eq_true];exact⟨rfl,allOne_ints r⟩
theorem tabCells_one(l:List Pin):allOne (tabCells l)=true:=allOne_ints _
theorem tabCells_at(l:List Pin){i:Nat}(hi:i<21):(tabCells l)[i]?=some (i64 (find l i)):=by rw[tabCells,List.getElem?_map,tabI_at l hi];rfl
def tabSet:List Value->List Pin->List Value
 |cs,[]=>cs
 |cs,p::r=>tabSet (cs.set (0+p.name.toNat*1) (i64 p.ver)) r
theorem tabSet_map:∀(xs:List Pin),Lk xs->∀f:Nat->Int,tabSet ((List.range 21).map fun n=>i64 (f n)) xs=(List.range 21).map fun n:Nat=>i64 (if find xs n=0 then f n else find xs n)
 | [],_,f=>by simp[tabSet,find]
 |p::r,h,f=>by
  have hp:=h.name (p:=p) List.mem_cons_self
  have e:((List.range 21).map fun n=>i64 (f n)).set (0+p.name.toNat*1) (i64 p.ver)=(List.range 21).map fun n:Nat=>i64 (if(n:Int)=p.name then p.ver else f n):=by
   apply List.ext_getElem?
   intro i
   rw[List.getElem?_set]
   simp only[List.length_map,List.length_range,List.getElem?_map,Nat.zero_add,Nat.mul_one]
   by_cases hi:i<21
   ·rw[List.getElem?_range hi]
    split
    ·rename_i e;rw[if_pos (by omega)];simp;intro h;omega
    ·simp;intro h;omega
   ·rw[if_neg (by omega),List.getElem?_eq_none (by simp;omega)];rfl
  rw[tabSet,e,tabSet_map r h.tail]
  apply List.map_congr_left
  intro n hn
  have hz:find r p.name=0:=find_none fun x hx=>by have:=h.head x hx;omega
  by_cases e2:(n:Int)=p.name
  ·rw[e2,hz,if_pos rfl,if_pos rfl,find,if_pos rfl,if_neg (by omega)]
  ·simp only[find,if_neg e2,if_neg (fun h:p.name=(n:Int)=>e2 h.symm)]
theorem tabSet_zero{xs:List Pin}(h:Lk xs):tabSet (List.replicate 21 (i64 0)) xs=tabCells xs:=by
 have:=tabSet_map xs h (fun _=>0)
 rw[show((List.range 21).map fun _=>i64 0)=List.replicate 21 (i64 0) from rfl] at this
 rw[this,tabCells,tabI,List.map_map]
 apply List.map_congr_left
 intro n _
 simp only[Function.comp_apply]
 split
 ·rename_i e;rw[e]
 ·rfl
theorem cTable{H:Heap}{a:O}{l c:Nat}{xs:List Pin}(hx:Pins H a l xs)(hL:Lk xs):Spec Tryz.prog 182 [.slice a l c] H fun v _=>v= .agg (tabCells xs).toArray:=by
 refine Tryzvc Tryz.func182 (by kernel_rfl) (by kernel_rfl) _ rfl (fun base K=>vc109 a l c base H K) fun base hb=> ?_
 have hle:=hx.le
 intro _ _
 refine⟨rfl,fun vs _=>∃(cs:List Value)(i:Nat),vs=[i64 i,.agg cs.toArray]/\i<=l/\tabSet cs (xs.drop i)=tabCells xs,upTo l 0,⟨List.replicate 21 (i64 0),0,rfl,by omega,tabSet_zero hL⟩,fun n cs hcs H' hN hI=> ?_⟩
 obtain⟨cs',i,hvs,hi,hI⟩:=hI
 obtain⟨rfl,rfl⟩:n=(i:Int)/\cs=cs':=by simpa using hvs
 refine⟨fun hlt=>hx.pin hN.ext (by omega) hlt fun p hp=> ?_,fun hge=> ?_⟩
 ·rw[Int.toNat_natCast] at hp
  rw[drop_at hp,tabSet] at hI
  have hn:=hL.name (List.mem_of_getElem? hp)
  intro _
  refine⟨by omega,by omega,by omega,?_⟩
  rintro r rfl
  rw[wrap_in (by omega) (by omega)]
  exact⟨by simp[hcs],rfl,⟨_,i+1,rfl,by omega,hI⟩,by simp[upTo];omega⟩
 ·rw[drop_all hx.len (by omega),tabSet] at hI
  subst hI
  exact⟨hcs,hcs,tabCells_one xs,rfl,hcs,rfl⟩
theorem cLockOf{H:Heap}{t:List Int}(ht:t.length=21):Spec Tryz.prog 215 [.agg (t.map i64).toArray] H fun v H'=>∃a n c,v= .slice a n c/\Pins H' a n (lockOfFrom 0 t):=by
 refine Tryzvc Tryz.func215 (by kernel_rfl) (by kernel_rfl) _ rfl (fun base K=>vc112 (t.map i64) base H K) fun base hb=> ?_
 intro _
 refine⟨by simp[ht],fun vs Hc=>∃(out:List Pin)(a:O)(c i:Nat),vs=[.slice a out.length c,i64 i]/\Row base Hc 91 2 a out.length c (out.flatMap pinCells)/\i<=21/\out.length<=i/\out++lockOfFrom i (t.drop i)=lockOfFrom 0 t,
  upTo 21 1,⟨[],none,0,0,rfl,Row.nil,by omega,by simp,rfl⟩,fun a1 n1 c1 m H' hN hI=> ?_⟩
 obtain⟨out,a1',c1',i,hvs,hR,hi,hol,hI⟩:=hI
 obtain⟨⟨rfl,rfl,rfl⟩,rfl⟩:(a1=a1'/\n1=out.length/\c1=c1')/\m=(i:Int):=by simpa using hvs
 have hget:i<21->t[i]?=some (t.getD i 0):=fun h=>by rw[List.getD_eq_getElem?_getD,List.getElem?_eq_getElem (by omega)];rfl
 refine⟨fun hlt=>⟨by omega,hlt,(t.getD i 0),?_,fun h=> ?_,fun h=> ?_⟩,fun hge=> ?_⟩
 ·show(t.map i64)[((i:Int).toNat*1)]?=_
  rw[Int.toNat_natCast,Nat.mul_one,List.getElem?_map,hget (by omega)];rfl
 ·rw[drop_at (hget (by omega)),lockOfFrom,if_pos h] at hI
  refine fun _=>⟨_,hR,by omega,by omega,fun a2 c2 H2 hG hR2=> ?_⟩
  rintro r rfl
  rw[wrap_small (by omega) (by omega)]
  refine⟨rfl,⟨out++[⟨(i:Int),(t.getD i 0)⟩],a2,c2,i+1,by simp,?_,by omega,by simp;omega,by simpa using hI⟩,by simp[upTo];omega⟩
  have:(out++[(⟨(i:Int),(t.getD i 0)⟩:Pin)]).flatMap pinCells=out.flatMap pinCells++[i64 i,i64 ((t.getD i 0))]:=by simp[pinCells]
  rw[this];simpa using hR2
 ·rw[drop_at (hget (by omega)),lockOfFrom,if_neg h] at hI
  rintro r rfl
  rw[wrap_small (by omega) (by omega)]
  exact⟨rfl,⟨out,a1,c1,i+1,rfl,hR,by omega,by omega,by simpa using hI⟩,by simp[upTo];omega⟩
 ·rw[drop_all ht (by omega),lockOfFrom,List.append_nil] at hI
  exact⟨_,_,_,rfl,by rw[←hI];exact pins_of_row hR⟩
theorem cRefBrokenIdx{H:Heap}{a:O}{l c:Nat}{xs:List Pin}{rs:List Rule}(hr:Rules H a l rs)(hok:Rok rs){p:Nat}(hp:H p=some (boxKB 220 (tabCells xs))):
  Spec Tryz.prog 183 [.slice a l c,.func (.func 184) #[] #[.pointer (some ⟨p,0,none⟩)]] H fun v _=>v=i64 (brokenFrom xs 0 rs):=by
 have h111:∀ {H:Heap} {r:Rule},H p=some (boxKB 220 (tabCells xs))->¬badRule r->Spec Tryz.prog 184 [.agg #[.int .i64 r.name,.int .i64 r.ver,.int .i64 r.wth,.int .i64 r.least],.pointer (some ⟨p,0,none⟩)] H fun v _=>v= .bool (decide (breaks xs r)):=by
  intro H r hp hb
  unfold badRule at hb
  have rd:∀k:Int,0<=k->k<21->H.cell p (0+k.toNat*1)=some (.int .i64 (find xs k)):=fun k h0 h1=>by
   unfold Heap.cell
   rw[hp]
   show(tabCells xs)[0+k.toNat*1]?=_
   rw[Nat.zero_add,Nat.mul_one,tabCells_at xs (by omega),show(k.toNat:Int)=k from by omega]
  refine Tryzvc Tryz.func184 (by kernel_rfl) (by kernel_rfl) _ rfl (fun base K=>vc111 r.name r.ver r.wth r.least p base H K) fun base hb=> ?_
  intro _
  refine⟨by omega,by omega,_,rd _ (by omega) (by omega),fun h=>⟨by omega,by omega,_,rd _ (by omega) (by omega),?_⟩,fun h=> ?_⟩
  ·simp[breaks,h]
  ·simp[breaks,h]
 refine Tryzvc Tryz.func183 (by kernel_rfl) (by kernel_rfl) _ rfl (fun base K=>vc110 a l c p base H K) fun base hb=> ?_
 have hle:=hr.le
 refine⟨fun vs _=>∃(d:Int)(i:Nat),vs=[i64 d,i64 i]/\i<=l/\brokenFrom xs i (rs.drop i)=brokenFrom xs 0 rs,upTo l 1,⟨0,0,rfl,by omega,rfl⟩,fun d n H' hN hI=> ?_⟩
 obtain⟨d',i,hvs,hi,hI⟩:=hI
 obtain⟨rfl,rfl⟩:d=d'/\n=(i:Int):=by simpa using hvs
 refine⟨fun hlt=>hr.rule hN.ext (by omega) hlt fun q hq=> ?_,fun hge=> ?_⟩
 ·rw[Int.toNat_natCast] at hq
  rw[drop_at hq,brokenFrom] at hI
  refine(h111 (hN.ext _ _ hp) (hok q (List.mem_of_getElem? hq)).1).bool1 fun H2 _ _=>⟨fun h=> ?_,fun h=> ?_⟩
  ·rw[if_pos (by simpa using h)] at hI;rw[←hI]
  ·rw[if_neg (by simpa using h)] at hI
   rintro r rfl
   rw[wrap_in (by omega) (by omega)]
   exact⟨⟨_,i+1,rfl,by omega,hI⟩,by simp[upTo];omega⟩
 ·rw[←hI,drop_all hr.len (by omega),brokenFrom]
theorem cRefBroken{H:Heap}{a a':O}{l c l' c':Nat}{xs:List Pin}{rs:List Rule}(hx:Pins H a l xs)(hr:Rules H a' l' rs):
  Spec Tryz.prog 93 [.slice a l c,.slice a' l' c'] H fun v _=>v= .tuple #[i64 (broken xs rs),i64 (brokenErr xs rs)]:=by
 refine Tryzvc Tryz.func93 (by kernel_rfl) (by kernel_rfl) _ rfl (fun base K=>vc36 a a' l c l' c' base H K) fun base hb=> ?_
 refine(cRefLockCheck hx).int1 fun H1 e1 hN1=>⟨fun h=> ?_,fun h=>(cRefRuleCheck (hr.ext' e1)).int1 fun H2 e2 hN2=>⟨fun h2=> ?_,fun h2=> ?_⟩⟩
 ·have e:brokenErr xs rs=lockCheck xs:=by rw[brokenErr,if_neg h]
  rw[broken,e,if_neg h]
 ·have e:brokenErr xs rs=rulesCheck rs:=by rw[brokenErr,if_pos (Decidable.not_not.1 h)]
  rw[broken,e,if_neg h2]
 have h:=Decidable.not_not.1 h
 have h2:=Decidable.not_not.1 h2
 have e:brokenErr xs rs=0:=by rw[brokenErr,if_pos h];exact h2
 rw[broken,if_pos e,e]
 refine(cTable ((hx.ext' e1).ext' e2) (lockCheck_zero.1 h).1).mono fun v H3 e3 hv=>⟨_,tabCells_len xs,hv,fun hN3 b=>⟨tabCells_len xs,tabCells_one xs,rfl,rfl,fun Hl hNl hb=> ?_⟩⟩
 refine(cRefBrokenIdx ((((hr.ext' e1).ext' e2).ext' e3).ext' hNl.ext) (rulesCheck_zero.1 h2).2 hb.1).mono fun v H4 e4 hv=>⟨_,hv,fun H' hN _=>rfl⟩
open Classical in
open Go Go.Proofs
open Go Go.Proofs
theorem vc54(a a':O)(l c l' c':Nat)(base:Nat)(H:Heap)(K:KT):
 (fV TryzMutsJ Tryz.f57 base H [.v (S a l c),.v (S a' l' c')] [] K)=(
 ∃(b:LI)(d:LM),b [S none 0 0,I Z 0,I Z 0] H/\∀(e:O)(g h:Nat)(i j:Int)(k:Heap),X base H k->b [S e g h,I Z i,I Z j] k->(j<2->0<=j/\j<2/\∃m n o,List.get?Internal [S a l c,S a' l' c'] (N j*1)=some (S m n o)/\Y Tryz.prog 140 [S m n o] k fun p q=>∃r,p=I Z r/\(X base k q->(¬r=0->K (T #[S none 0 0,I Z r]) [] q)/\(¬¬r=0->∀s:Int,s=W Z (j+1)->b [S e g h,I Z i,I Z s] q/\d [S e g h,I Z i,I Z s]<d [S e g h,I Z i,I Z j])))/\(¬j<2->∃(m:LI)(n:LM),m [S none 0 0,I Z 0] k/\∀(o:O)(p q:Nat)(r:Int)(s:Heap),X base H s->m [S o p q,I Z r] s->(r<(l:Int)->∃t u,a=some (D t u none)/\0<=r/\r<(l:Int)/\∃v w:Int,(C s t (u+N r*2)=some (I Z v)/\C s t (u+N r*2+1)=some (I Z w)/\True)/\∀x:Nat,Y Tryz.prog 75 [S a' l' c',I Z v] s fun y z=>∃a1,y=I Z a1/\(X base s z->(a1=0->∀b1:Nat,∃c1:List Value,Row base z 182 3 o p q c1/\(p+1)*24<=140737488355328/\p+1<=9223372036854775807/\∀(d1:O)(e1:Nat)(f1:Heap),Grew base z f1 o q d1 e1 (p+1)->Row base f1 182 3 d1 (p+1) e1 (c1++[I Z 2,I Z v,I Z 0])->∀g1:Int,g1=W Z (r+1)->m [S d1 (p+1) e1,I Z g1] f1/\n [S d1 (p+1) e1,I Z g1]<n [S o p q,I Z r])/\(¬a1=0->∀b1:Int,b1=W Z (r+1)->m [S o p q,I Z b1] z/\n [S o p q,I Z b1]<n [S o p q,I Z r])))/\(¬r<(l:Int)->∃(t:LI)(u:LM),t [S o p q,I Z 0] s/\∀(v:O)(w x:Nat)(y:Int)(z:Heap),X base H z->t [S v w x,I Z y] z->(y<(l':Int)->∃a1 b1,a'=some (D a1 b1 none)/\0<=y/\y<(l':Int)/\∃c1 d1:Int,(C z a1 (b1+N y*2)=some (I Z c1)/\C z a1 (b1+N y*2+1)=some (I Z d1)/\True)/\∀e1:Nat,Y Tryz.prog 75 [S a l c,I Z c1] z fun f1 g1=>∃h1,f1=I Z h1/\(X base z g1->(h1=d1->∀i1:Int,i1=W Z (y+1)->t [S v w x,I Z i1] g1/\u [S v w x,I Z i1]<u [S v w x,I Z y])/\(¬h1=d1->(h1=0->∀i1:Nat,∃j1:List Value,Row base g1 182 3 v w x j1/\(w+1)*24<=140737488355328/\w+1<=9223372036854775807/\∀(k1:O)(l1:Nat)(m1:Heap),Grew base g1 m1 v x k1 l1 (w+1)->Row base m1 182 3 k1 (w+1) l1 (j1++[I Z 1,I Z c1,I Z d1])->∀n1:Int,n1=W Z (y+1)->t [S k1 (w+1) l1,I Z n1] m1/\u [S k1 (w+1)
 l1,I Z n1]<u [S v w x,I Z y])/\(¬h1=0->∀i1:Nat,∃j1:List Value,Row base g1 182 3 v w x j1/\(w+1)*24<=140737488355328/\w+1<=9223372036854775807/\∀(k1:O)(l1:Nat)(m1:Heap),Grew base g1 m1 v x k1 l1 (w+1)->Row base m1 182 3 k1 (w+1) l1 (j1++[I Z 3,I Z c1,I Z d1])->∀n1:Int,n1=W Z (y+1)->t [S k1 (w+1) l1,I Z n1] m1/\u [S k1 (w+1) l1,I Z n1]<u [S v w x,I Z y]))))/\(¬y<(l':Int)->K (T #[S v w x,I Z 0]) [] z)))):=by kernel_rfl
theorem vc120(n v:Int)(p:Nat)(base:Nat)(H:Heap)(K:KT):
 (fV TryzMutsJ Tryz.f234 base H [.v (A #[I Z n,I Z v]),.v (.pointer (some ⟨p,0,none⟩))] [] K)=(
 ∀a:Nat,∃b,C H p 1=some (I Z b)/\K (B (decide (n=b))) [] H):=by kernel_rfl
theorem vc113b(a:O)(l c:Nat)(p:Nat)(base:Nat)(H:Heap)(K:KT):
 (fV TryzMutsJ Tryz.f147 base H [.v (S a l c),.v (.func (.func 234) #[] #[.pointer (some ⟨p,0,none⟩)])] [] K)=(
 ∃(b:LI)(d:LM),b [I Z 0,I Z 0] H/\∀(e g:Int)(h:Heap),X base H h->b [I Z e,I Z g] h->(g<(l:Int)->∃i j,a=some (D i j none)/\0<=g/\g<(l:Int)/\∃k m:Int,(C h i (j+N g*2)=some (I Z k)/\C h i (j+N g*2+1)=some (I Z m)/\True)/\Y Tryz.prog 234 [A #[I Z k,I Z m],P (some (D p 0 none))] h fun n o=>∃q,n=B q/\(X base h o->(q=true->K (I Z g) [] o)/\(q=false->∀r:Int,r=W Z (g+1)->b [I Z e,I Z r] o/\d [I Z e,I Z r]<d [I Z e,I Z g])))/\(¬g<(l:Int)->K (I Z (-1)) [] h)):=by kernel_rfl
theorem vc121(a:O)(l c:Nat)(base:Nat)(H:Heap)(K:KT):
 (fV TryzMutsJ Tryz.f163 base H [.v (S a l c)] [] K)=(
 ∃b,RunsTo Tryz.prog (binRun BinOp.eql 22 (Operand.tmp 3) (Operand.const (S none 0 0)) (S a l c) (S none 0 0)) (B b)/\(b=true->K (S none 0 0) [] H)/\(¬b=true->∀(d:Nat)(e:Heap),X base H e->H d=none->e d=some (boxKB 91 [])->∃g h:List Value,Row base e 91 2 (some (D d 0 none)) 0 0 g/\List.length h=l*2/\allOne h=true/\(l=0∨∃i j,a=some (D i j none)/\cellsAt e i j 0 h)/\(0+l)*16<=140737488355328/\0+l<=9223372036854775807/\∀(i:O)(j:Nat)(k:Heap),Grew base e k (some (D d 0 none)) 0 i j (0+l)->Row base k 91 2 i (0+l) j (g++h)->K (S i (0+l) j) [] k)):=by kernel_rfl
theorem vc55(a:O)(l c:Nat)(kd n v:Int)(base:Nat)(H:Heap)(K:KT):
 (fV TryzMutsJ Tryz.f204 base H [.v (S a l c),.v (A #[I Z kd,I Z n,I Z v])] [] K)=(
 ∀b:Nat,(fun w1:LB=>Y Tryz.prog 140 [S a l c] H fun d e=>∃g,d=I Z g/\(X base H e->(¬g=0->K (T #[S none 0 0,I Z g]) [] e)/\(¬¬g=0->∃h:Prop,((kd<1->w1=w1/\SubH e e/\h)/\(¬kd<1->w1=w1/\SubH e e/\(h↔3<kd)))/\(h->K (T #[S none 0 0,I Z 4]) [] e)/\(¬h->∃i:Prop,((n<1->w1=w1/\SubH e e/\i)/\(¬n<1->(20<n->w1=w1/\SubH e e/\i)/\(¬20<n->(¬kd=2->(v<1->w1=w1/\SubH e e/\i)/\(¬v<1->(99<v->w1=w1/\SubH e e/\i)/\(¬99<v->(kd=2->w1=w1/\SubH e e/\(i↔¬v=0))/\(¬kd=2->w1=w1/\SubH e e/\¬i))))/\(¬¬kd=2->(kd=2->w1=w1/\SubH e e/\(i↔¬v=0))/\(¬kd=2->w1=w1/\SubH e e/\¬i)))))/\(i->K (T #[S none 0 0,I Z 3]) [] e)/\(¬i->true=true/\∀j:Heap,X 0 e j->j b=some (boxKB 182 [I Z kd,I Z n,I Z v])/\True->Y Tryz.prog 147 [S a l c,Value.func (Fn.func 234) #[] #[P (some (D b 0 none))]] j fun k m=>∃o,k=I Z o/\∀p,X base e p->(∀(q:Nat)(r:KB),m q=some r->(∀s:Bx,s∈w1->q≠Bx.b s)->p q=some r)->∃q:Prop,((kd=1->w1=w1/\SubH p p/\(q↔0<=o))/\(¬kd=1->w1=w1/\SubH p p/\¬q))/\(q->K (T #[S none 0 0,I Z 6]) [] p)/\(¬q->∃r:Prop,((¬kd=1->w1=w1/\SubH p p/\(r↔o<0))/\(¬¬kd=1->w1=w1/\SubH p p/\¬r))/\(r->K (T #[S none 0 0,I Z 5]) [] p)/\(¬r->Y Tryz.prog 163 [S a l c] p fun s t=>∃u w x,s=S u w x/\(X base p t->(kd=1->((w:Int)=12->K (T #[S none 0 0,I Z 2]) [] t)/\(¬(w:Int)=12->∃(y:LI)(z:LM),y [I Z 0] t/\∀(a1:Int)(b1:Heap),X base H b1->y [I Z a1] b1->(a1<(w:Int)->∃c1 d1,u=some (D c1 d1 none)/\0<=a1/\a1<(w:Int)/\∃e1,C b1 c1 (d1+N a1*2)=some (I Z e1)/\(e1<n->∀f1:Int,f1=W Z (a1+1)->[[I Z kd,I Z n,I Z v]]=[[I Z kd,I Z n,I Z v]]/\y [I Z f1] b1/\z [I Z f1]<z [I Z a1])/\(¬e1<n->∀(f1:Nat)(g1:Heap),X base b1 g1->b1 f1=none->g1 f1=some (boxKB 91 [I Z n,I Z v])->∃(h1 i1:List Value)(j1:Nat),a1=(j1:Int)/\j1<=w/\w<=1000000/\Row base g1 91 2 u w x h1/\allOne h1=true/\List.length i1=2/\allOne i1=true/\g1 f1=some (boxKB 91 i1)/\(x≠0->u≠some (D f1 0 none))/\∀(k1:O)(l1:Nat)(m1:Heap),Grew base g1 m1 u x k1 l1 (w+1)->Row base m1 91 2 k1 (w+1) l1 (List.take (j1*2) h1++i1++List.drop (j1*2) h1)->K (T
 #[S k1 (w+1) l1,I Z 0]) [] m1))/\(¬a1<(w:Int)->∀(c1:Nat)(d1:Heap),X base b1 d1->b1 c1=none->d1 c1=some (boxKB 91 [I Z n,I Z v])->∃(e1 f1:List Value)(g1:Nat),a1=(g1:Int)/\g1<=w/\w<=1000000/\Row base d1 91 2 u w x e1/\allOne e1=true/\List.length f1=2/\allOne f1=true/\d1 c1=some (boxKB 91 f1)/\(x≠0->u≠some (D c1 0 none))/\∀(h1:O)(i1:Nat)(j1:Heap),Grew base d1 j1 u x h1 i1 (w+1)->Row base j1 91 2 h1 (w+1) i1 (List.take (g1*2) e1++f1++List.drop (g1*2) e1)->K (T #[S h1 (w+1) i1,I Z 0]) [] j1)))/\(¬kd=1->(kd=2->∀y:Int,y=W Z (o+1)->∃(z:List Value)(a1 b1:Nat),o=(a1:Int)/\y=(b1:Int)/\a1<=b1/\b1<=w/\w<=1000000/\Row base t 91 2 u w x z/\allOne z=true/\∀c1:Heap,Grew base t c1 u x u x (a1+(w-b1))->Row base c1 91 2 u (a1+(w-b1)) x (List.take (a1*2) z++List.drop (b1*2) z)->K (T #[S u (a1+(w-b1)) x,I Z 0]) [] c1)/\(¬kd=2->(kd=3->∃y z,u=some (D y z none)/\0<=o/\o<(w:Int)/\∃a1:KB,t y=some a1/\KB.free a1=true/\base<=y/\z+N o*2+1+1<=KB.size a1/\∀b1:Heap,Upd t y (z+N o*2+1) a1 [I Z v] b1->K (T #[S u w x,I Z 0]) [] b1)/\(¬kd=3->K (T #[S u w x,I Z 0]) [] t))))))))))) [J b false 182 [I Z kd,I Z n,I Z v]]):=by kernel_rfl
theorem vc57(a a':O)(l c l' c':Nat)(base:Nat)(H:Heap)(K:KT):
 (fV TryzMutsJ Tryz.f128 base H [.v (S a l c),.v (S a' l' c')] [] K)=(
 Y Tryz.prog 159 [S a l c] H fun b d=>∃e,b=I Z e/\(X base H d->(¬e=0->K (T #[S none 0 0,I Z e]) [] d)/\(¬¬e=0->Y Tryz.prog 159 [S a' l' c'] d fun g h=>∃i,g=I Z i/\(X base d h->(¬i=0->K (T #[S none 0 0,I Z i]) [] h)/\(¬¬i=0->Y Tryz.prog 182 [S a l c] h fun j k=>∃m:List Value,List.length m=21/\j=A (List.toArray m)/\(X base h k->Y Tryz.prog 182 [S a' l' c'] k fun n o=>∃p:List Value,List.length p=21/\n=A (List.toArray p)/\(X base k o->∀q r:Nat,List.length m=21/\allOne m=true/\21=21/\List.length p=21/\allOne p=true/\21=21/\∃(s:LI)(t:LM),s [S none 0 0,S none 0 0,I Z 0] o/\∀(u:O)(v w:Nat)(x:O)(y z:Nat)(a1:Int)(b1:Heap),X base H b1->s [S u v w,S x y z,I Z a1] b1->(a1<21->0<=a1/\a1<21/\∃c1,List.get?Internal m (0+N a1*1)=some (I Z c1)/\0<=a1/\a1<21/\∃d1,List.get?Internal p (0+N a1*1)=some (I Z d1)/\(c1=d1->∀e1:Int,e1=W Z (a1+1)->[m,p]=[m,p]/\s [S u v w,S x y z,I Z e1] b1/\t [S u v w,S x y z,I Z e1]<t [S u v w,S x y z,I Z a1])/\(¬c1=d1->0<=a1/\a1<21/\∃e1,List.get?Internal p (0+N a1*1)=some (I Z e1)/\(e1=0->∀f1:Nat,∃g1:List Value,Row base b1 182 3 u v w g1/\(v+1)*24<=140737488355328/\v+1<=9223372036854775807/\∀(h1:O)(i1:Nat)(j1:Heap),Grew base b1 j1 u w h1 i1 (v+1)->Row base j1 182 3 h1 (v+1) i1 (g1++[I Z 2,I Z a1,I Z 0])->∀k1:Int,k1=W Z (a1+1)->[m,p]=[m,p]/\s [S h1 (v+1) i1,S x y z,I Z k1] j1/\t [S h1 (v+1) i1,S x y z,I Z k1]<t [S u v w,S x y z,I Z a1])/\(¬e1=0->0<=a1/\a1<21/\∃f1,List.get?Internal m (0+N a1*1)=some (I Z f1)/\(f1=0->0<=a1/\a1<21/\∃g1,List.get?Internal p (0+N a1*1)=some (I Z g1)/\∀h1:Nat,∃i1:List Value,Row base b1 182 3 x y z i1/\(y+1)*24<=140737488355328/\y+1<=9223372036854775807/\∀(j1:O)(k1:Nat)(l1:Heap),Grew base b1 l1 x z j1 k1 (y+1)->Row base l1 182 3 j1 (y+1) k1 (i1++[I Z 1,I Z a1,I Z g1])->∀m1:Int,m1=W Z (a1+1)->[m,p]=[m,p]/\s [S u v w,S j1 (y+1) k1,I Z m1] l1/\t [S u v w,S j1 (y+1) k1,I Z m1]<t [S u v w,S x y z,I Z a1])/\(¬f1=0->0<=a1/\a1<
 21/\∃g1,List.get?Internal p (0+N a1*1)=some (I Z g1)/\∀h1:Nat,∃i1:List Value,Row base b1 182 3 x y z i1/\(y+1)*24<=140737488355328/\y+1<=9223372036854775807/\∀(j1:O)(k1:Nat)(l1:Heap),Grew base b1 l1 x z j1 k1 (y+1)->Row base l1 182 3 j1 (y+1) k1 (i1++[I Z 3,I Z a1,I Z g1])->∀m1:Int,m1=W Z (a1+1)->[m,p]=[m,p]/\s [S u v w,S j1 (y+1) k1,I Z m1] l1/\t [S u v w,S j1 (y+1) k1,I Z m1]<t [S u v w,S x y z,I Z a1]))))/\(¬a1<21->∃c1 d1:List Value,Row base b1 182 3 u v w c1/\List.length d1=y*3/\allOne d1=true/\(y=0∨∃e1 f1,x=some (D e1 f1 none)/\cellsAt b1 e1 f1 0 d1)/\(v+y)*24<=140737488355328/\v+y<=9223372036854775807/\∀(e1:O)(f1:Nat)(g1:Heap),Grew base b1 g1 u w e1 f1 (v+y)->Row base g1 182 3 e1 (v+y) f1 (c1++d1)->K (T #[S e1 (v+y) f1,I Z 0]) [] g1)))))))):=by kernel_rfl
theorem vc58(a:O)(l c:Nat)(kd n v:Int)(base:Nat)(H:Heap)(K:KT):
 (fV TryzMutsJ Tryz.f162 base H [.v (S a l c),.v (A #[I Z kd,I Z n,I Z v])] [] K)=(
 ∀b:Nat,(fun w2:LB=>Y Tryz.prog 159 [S a l c] H fun d e=>∃g,d=I Z g/\(X base H e->(¬g=0->K (T #[S none 0 0,I Z g]) [] e)/\(¬¬g=0->Y Tryz.prog 92 [I Z kd,I Z 1,I Z 3] e fun h i=>∃j,h=B j/\(X base e i->(j=false->K (T #[S none 0 0,I Z 4]) [] i)/\(¬j=false->∃k:Prop,(Y Tryz.prog 92 [I Z n,I Z 1,I Z 20] i fun m o=>∃p,m=B p/\(X base i o->(p=false->w2=w2/\SubH i o/\k)/\(¬p=false->(kd=2->(¬v=0->w2=w2/\SubH i o/\k)/\(¬¬v=0->(¬kd=2->Y Tryz.prog 92 [I Z v,I Z 1,I Z 99] o fun q r=>∃s,q=B s/\(X base o r->w2=w2/\SubH i r/\(k↔s=false)))/\(¬¬kd=2->w2=w2/\SubH i o/\¬k)))/\(¬kd=2->(¬kd=2->Y Tryz.prog 92 [I Z v,I Z 1,I Z 99] o fun q r=>∃s,q=B s/\(X base o r->w2=w2/\SubH i r/\(k↔s=false)))/\(¬¬kd=2->w2=w2/\SubH i o/\¬k)))))/\(k->K (T #[S none 0 0,I Z 3]) [] i)/\(¬k->Y Tryz.prog 182 [S a l c] i fun m o=>∃p:List Value,List.length p=21/\m=A (List.toArray p)/\(X base i o->∀q:Nat,(fun w1:LB=>List.length p=21/\allOne p=true/\21=21/\0<=n/\n<21/\∃r,List.get?Internal p (0+N n*1)=some (I Z r)/\∃s:Prop,((0<r->w1=w1/\SubH o o/\(s↔kd=1))/\(¬0<r->w1=w1/\SubH o o/\¬s))/\(s->K (T #[S none 0 0,I Z 6]) [] o)/\(¬s->∃t:Prop,((¬0<r->w1=w1/\SubH o o/\(t↔¬kd=1))/\(¬¬0<r->w1=w1/\SubH o o/\¬t))/\(t->K (T #[S none 0 0,I Z 5]) [] o)/\(¬t->∃u:Prop,((¬0<r->w1=w1/\SubH o o/\(u↔(l:Int)=12))/\(¬¬0<r->w1=w1/\SubH o o/\¬u))/\(u->K (T #[S none 0 0,I Z 2]) [] o)/\(¬u->0<=n/\n<21/\0+N n*1+1<=List.length p/\List.length (List.set p (0+N n*1) (I Z v))=21/\Y Tryz.prog 215 [A (List.toArray (List.set p (0+N n*1) (I Z v)))] o fun w x=>∃y z a1,w=S y z a1/\(X base o x->K (T #[S y z a1,I Z 0]) [] x))))) [J b false 182 [I Z kd,I Z n,I Z v],J q false 220 p]))))))) [J b false 182 [I Z kd,I Z n,I Z v]]):=by kernel_rfl
open Go Go.Proofs
theorem vc68(id:Int)(a:O)(l c:Nat)(base:Nat)(H:Heap)(K:KT):
 (fV TryzMutsJ Tryz.f167 base H [.v (A #[I Z id,S a l c])] [] K)=(
 ∀b:Nat,(fun w1:LB=>∃d:Prop,((id<1->w1=w1/\SubH H H/\d)/\(¬id<1->w1=w1/\SubH H H/\(d↔6<id)))/\(d->K (I Z 3) [] H)/\(¬d->Y Tryz.prog 140 [S a l c] H fun e g=>∃h,e=I Z h/\(X base H g->K (I Z h) [] g))) [J b false 24 [I Z id,S a l c]]):=by kernel_rfl
theorem vc74(id:Int)(a:O)(l c:Nat)(base:Nat)(H:Heap)(K:KT):
 (fV TryzMutsJ Tryz.f84 base H [.v (A #[I Z id,S a l c])] [] K)=(
 ∀b:Nat,Y Tryz.prog 92 [I Z id,I Z 1,I Z 6] H fun d e=>∃g,d=B g/\(X base H e->(g=false->K (I Z 3) [] e)/\(¬g=false->Y Tryz.prog 159 [S a l c] e fun h i=>∃j,h=I Z j/\(X base e i->K (I Z j) [] i)))):=by kernel_rfl
theorem vc86(id id':Int)(a a':O)(l c l' c':Nat)(base:Nat)(H:Heap)(K:KT):
 (fV TryzMutsJ Tryz.f56 base H [.v (A #[I Z id,S a l c]),.v (A #[I Z id',S a' l' c'])] [] K)=(
 ∀b d:Nat,(fun w1:LB=>∃e:Prop,((¬id=id'->w1=w1/\SubH H H/\e)/\(¬¬id=id'->w1=w1/\SubH H H/\(e↔¬(l:Int)=(l':Int))))/\(e->K (B false) [] H)/\(¬e->∃(g:LI)(h:LM),g [B false,I Z 0] H/\∀(i:Bool)(j:Int)(k:Heap),X base H k->g [B i,I Z j] k->(j<(l:Int)->∃m n,a=some (D m n none)/\0<=j/\j<(l:Int)/\∃o p:Int,(C k m (n+N j*2)=some (I Z o)/\C k m (n+N j*2+1)=some (I Z p)/\True)/\∀q:Nat,∃r s,a'=some (D r s none)/\0<=j/\j<(l':Int)/\∃t u:Int,(C k r (s+N j*2)=some (I Z t)/\C k r (s+N j*2+1)=some (I Z u)/\True)/\∃v,RunsTo Tryz.prog (binRun BinOp.neq 91 (Operand.tmp 33) (Operand.tmp 34) (A #[I Z t,I Z u]) (A #[I Z o,I Z p])) (B v)/\(v=true->K (B false) [] k)/\(¬v=true->∀w:Int,w=W Z (j+1)->[[I Z id,S a l c],[I Z id',S a' l' c']]=[[I Z id,S a l c],[I Z id',S a' l' c']]/\g [B i,I Z w] k/\h [B i,I Z w]<h [B i,I Z j]))/\(¬j<(l:Int)->K (B true) [] k))) [J b false 24 [I Z id,S a l c],J d false 24 [I Z id',S a' l' c']]):=by kernel_rfl
theorem vc99(id id':Int)(a a':O)(l c l' c':Nat)(base:Nat)(H:Heap)(K:KT):
 (fV TryzMutsJ Tryz.f77 base H [.v (A #[I Z id,S a l c]),.v (A #[I Z id',S a' l' c'])] [] K)=(
 ∀b d:Nat,(fun w1:LB=>∃e:Prop,((id=id'->Y Tryz.prog 47 [S a l c,S a' l' c'] H fun g h=>∃i,g=B i/\(X base H h->w1=w1/\SubH H h/\(e↔i=true)))/\(¬id=id'->w1=w1/\SubH H H/\¬e))/\K (B (@decide e (Classical.propDecidable e))) [] H) [J b false 24 [I Z id,S a l c],J d false 24 [I Z id',S a' l' c']]):=by kernel_rfl
theorem vc50(a:O)(l c:Nat)(base:Nat)(H:Heap)(K:KT):
 (fV TryzMutsJ Tryz.f102 base H [.v (S a l c)] [] K)=(
 (40<(l:Int)->K (I Z 2) [] H)/\(¬40<(l:Int)->∃(b:LI)(d:LM),b [I Z 0,I Z 0] H/\∀(e g:Int)(h:Heap),X base H h->b [I Z e,I Z g] h->(g<(l:Int)->∃i j,a=some (D i j none)/\0<=g/\g<(l:Int)/\∃(k m:Int)(n o:Bool)(p:Int)(q:O)(r s:Nat),(C h i (j+N g*6)=some (I Z k)/\C h i (j+N g*6+1)=some (I Z m)/\C h i (j+N g*6+2)=some (B n)/\C h i (j+N g*6+3)=some (B o)/\C h i (j+N g*6+4)=some (I Z p)/\C h i (j+N g*6+5)=some (S q r s)/\True)/\∀t:Nat,(fun w1:LB=>∃u:Prop,((k<0->w1=w1/\SubH h h/\u)/\(¬k<0->(6<=k->w1=w1/\SubH h h/\u)/\(¬6<=k->(m<1->w1=w1/\SubH h h/\u)/\(¬m<1->w1=w1/\SubH h h/\(u↔200<m)))))/\(u->K (I Z 3) [] h)/\(¬u->∃v:Prop,((n=true->(¬p=0->w1=w1/\SubH h h/\v)/\(¬¬p=0->(0<(r:Int)->w1=w1/\SubH h h/\v)/\(¬0<(r:Int)->(n=false->w1=w1/\SubH h h/\(v↔o=true))/\(¬n=false->w1=w1/\SubH h h/\¬v))))/\(n=false->(n=false->w1=w1/\SubH h h/\(v↔o=true))/\(¬n=false->w1=w1/\SubH h h/\¬v)))/\(v->K (I Z 4) [] h)/\(¬v->(n=true->∀w:Int,w=W Z (g+1)->b [I Z e,I Z w] h/\d [I Z e,I Z w]<d [I Z e,I Z g])/\(n=false->Y Tryz.prog 167 [A #[I Z p,S q r s]] h fun w x=>∃y,w=I Z y/\(X base h x->(¬y=0->K (I Z y) [] x)/\(¬¬y=0->∀z:Int,z=W Z (g+1)->b [I Z e,I Z z] x/\d [I Z e,I Z z]<d [I Z e,I Z g])))))) [J t false 74 [I Z k,I Z m,B n,B o,I Z p,S q r s]])/\(¬g<(l:Int)->K (I Z 0) [] h))):=by kernel_rfl
theorem vc49(a:O)(l c:Nat)(base:Nat)(H:Heap)(K:KT):
 (fV TryzMutsJ Tryz.f69 base H [.v (S a l c)] [] K)=(
 (40<(l:Int)->K (I Z 2) [] H)/\(¬40<(l:Int)->∃(b:LI)(d:LM),b [I Z 0,I Z 0] H/\∀(e g:Int)(h:Heap),X base H h->b [I Z e,I Z g] h->(g<(l:Int)->∃i j,a=some (D i j none)/\0<=g/\g<(l:Int)/\∃(k m:Int)(n o:Bool)(p:Int)(q:O)(r s:Nat),(C h i (j+N g*6)=some (I Z k)/\C h i (j+N g*6+1)=some (I Z m)/\C h i (j+N g*6+2)=some (B n)/\C h i (j+N g*6+3)=some (B o)/\C h i (j+N g*6+4)=some (I Z p)/\C h i (j+N g*6+5)=some (S q r s)/\True)/\∀t:Nat,(fun w1:LB=>∃u:Prop,(Y Tryz.prog 92 [I Z k,I Z 0,I Z 5] h fun v w=>∃x,v=B x/\(X base h w->(x=false->w1=w1/\SubH h w/\u)/\(¬x=false->Y Tryz.prog 92 [I Z m,I Z 1,I Z 200] w fun y z=>∃a1,y=B a1/\(X base w z->w1=w1/\SubH h z/\(u↔a1=false)))))/\(u->K (I Z 3) [] h)/\(¬u->∃v:Prop,((p=0->w1=w1/\SubH h h/\(v↔(r:Int)=0))/\(¬p=0->w1=w1/\SubH h h/\¬v))/\∃w:Prop,((n=true->(¬v->w1=w1/\SubH h h/\w)/\(¬¬v->(o=true->w1=w1/\SubH h h/\(w↔n=false))/\(o=false->w1=w1/\SubH h h/\¬w)))/\(n=false->(o=true->w1=w1/\SubH h h/\(w↔n=false))/\(o=false->w1=w1/\SubH h h/\¬w)))/\(w->K (I Z 4) [] h)/\(¬w->(n=false->Y Tryz.prog 84 [A #[I Z p,S q r s]] h fun x y=>∃z,x=I Z z/\(X base h y->(¬z=0->K (I Z z) [] y)/\(¬¬z=0->∀a1:Int,a1=W Z (g+1)->b [I Z e,I Z a1] y/\d [I Z e,I Z a1]<d [I Z e,I Z g])))/\(¬n=false->∀x:Int,x=W Z (g+1)->b [I Z e,I Z x] h/\d [I Z e,I Z x]<d [I Z e,I Z g])))) [J t false 74 [I Z k,I Z m,B n,B o,I Z p,S q r s]])/\(¬g<(l:Int)->K (I Z 0) [] h))):=by kernel_rfl
theorem vc52(a:O)(l c:Nat)(base:Nat)(H:Heap)(K:KT):
 (fV TryzMutsJ Tryz.f42 base H [.v (S a l c)] [] K)=(
 ∃b,RunsTo Tryz.prog (binRun BinOp.eql 39 (Operand.tmp 3) (Operand.const (S none 0 0)) (S a l c) (S none 0 0)) (B b)/\(b=true->K (S none 0 0) [] H)/\(¬b=true->∀(d:Nat)(e:Heap),X base H e->H d=none->e d=some (boxKB 74 [])->∃g h:List Value,Row base e 74 6 (some (D d 0 none)) 0 0 g/\List.length h=l*6/\allOne h=true/\(l=0∨∃i j,a=some (D i j none)/\cellsAt e i j 0 h)/\(0+l)*56<=140737488355328/\0+l<=9223372036854775807/\∀(i:O)(j:Nat)(k:Heap),Grew base e k (some (D d 0 none)) 0 i j (0+l)->Row base k 74 6 i (0+l) j (g++h)->K (S i (0+l) j) [] k)):=by kernel_rfl
theorem vc115(a:O)(l c:Nat)(base:Nat)(H:Heap)(K:KT):
 (fV TryzMutsJ Tryz.f172 base H [.v (S a l c)] [] K)=(
 Y Tryz.prog 42 [S a l c] H fun b d=>∃e g h,b=S e g h/\(X base H d->∃(i:LI)(j:LM),i [I Z 0] d/\∀(k:Int)(m:Heap),X base H m->i [I Z k] m->(k<(g:Int)->∃n o,e=some (D n o none)/\0<=k/\k<(g:Int)/\∃(p q:Int)(r s:Bool)(t:Int)(u:O)(v w:Nat),(C m n (o+N k*6)=some (I Z p)/\C m n (o+N k*6+1)=some (I Z q)/\C m n (o+N k*6+2)=some (B r)/\C m n (o+N k*6+3)=some (B s)/\C m n (o+N k*6+4)=some (I Z t)/\C m n (o+N k*6+5)=some (S u v w)/\True)/\∀x:Nat,Y Tryz.prog 163 [S u v w] m fun y z=>∃a1 b1 c1,y=S a1 b1 c1/\(X base m z->∃d1 e1,e=some (D d1 e1 none)/\0<=k/\k<(g:Int)/\∃f1:KB,z d1=some f1/\KB.free f1=true/\base<=d1/\e1+N k*6+4+1+1<=KB.size f1/\∀g1:Heap,Upd z d1 (e1+N k*6+4+1) f1 [S a1 b1 c1] g1->∀h1:Int,h1=W Z (k+1)->i [I Z h1] g1/\j [I Z h1]<j [I Z k]))/\(¬k<(g:Int)->K (S e g h) [] m))):=by kernel_rfl
theorem vc45(a a':O)(l c l' c':Nat)(ag tr id:Int)(rp gd:Bool)(base:Nat)(H:Heap)(K:KT):
 (fV TryzMutsJ Tryz.f245 base H [.v (S a l c),.v (A #[I Z ag,I Z tr,B rp,B gd,I Z id,S a' l' c'])] [] K)=(
 (fun w1:LV=>∀(b d:Nat)(e:Heap),X base H e->H d=none->e d=some (boxKB 74 w1)->∃(g:LI)(h:LM),g [S none 0 0,I Z 0,I Z 0] e/\∀(i:O)(j k:Nat)(m n:Int)(o:Heap),X base H o->g [S i j k,I Z m,I Z n] o->(n<2->0<=n/\n<2/\∃p q r,List.get?Internal [S a l c,S (some (D d 0 none)) 1 1] (N n*1)=some (S p q r)/\Y Tryz.prog 102 [S p q r] o fun s t=>∃u,s=I Z u/\(X base o t->(¬u=0->K (T #[S none 0 0,I Z u]) [] t)/\(¬¬u=0->∀v:Int,v=W Z (n+1)->[w1]=[w1]/\g [S i j k,I Z m,I Z v] t/\h [S i j k,I Z m,I Z v]<h [S i j k,I Z m,I Z n])))/\(¬n<2->Y Tryz.prog 172 [S a l c] o fun p q=>∃r s t,p=S r s t/\(X base o q->((s:Int)<40->∀(u:Nat)(v:Heap),X base q v->q u=none->v u=some (boxKB 74 w1)->Y Tryz.prog 172 [S (some (D u 0 none)) 1 1] v fun w x=>∃y z a1,w=S y z a1/\(X base v x->∃b1 c1:List Value,Row base x 74 6 r s t b1/\List.length c1=z*6/\allOne c1=true/\(z=0∨∃d1 e1,y=some (D d1 e1 none)/\cellsAt x d1 e1 0 c1)/\(s+z)*56<=140737488355328/\s+z<=9223372036854775807/\∀(d1:O)(e1:Nat)(f1:Heap),Grew base x f1 r t d1 e1 (s+z)->Row base f1 74 6 d1 (s+z) e1 (b1++c1)->K (T #[S d1 (s+z) e1,I Z 0]) [] f1))/\(¬(s:Int)<40->K (T #[S r s t,I Z 0]) [] q)))) [I Z ag,I Z tr,B rp,B gd,I Z id,S a' l' c']):=by kernel_rfl
theorem vc48(a:O)(l c:Nat)(k:Int)(tw:Bool)(base:Nat)(H:Heap)(K:KT):
 (fV TryzMutsJ Tryz.f175 base H [.v (S a l c),.v (I Z k),.v (B tw)] [] K)=(
 ∀b:Nat,(fun w1:LB=>Y Tryz.prog 102 [S a l c] H fun d e=>∃g,d=I Z g/\(X base H e->(¬g=0->K (T #[S none 0 0,A #[I Z 0,I Z 0,B false,B false,I Z 0,S none 0 0],I Z g]) [] e)/\(¬¬g=0->∃h:Prop,((k<0->w1=w1/\SubH e e/\h)/\(¬k<0->w1=w1/\SubH e e/\(h↔(l:Int)<=k)))/\(h->K (T #[S none 0 0,A #[I Z 0,I Z 0,B false,B false,I Z 0,S none 0 0],I Z 5]) [] e)/\(¬h->Y Tryz.prog 172 [S a l c] e fun i j=>∃m n o,i=S m n o/\(X base e j->∀p:Int,p=W Z (k+1)->0<=k/\k<=p/\p<=(o:Int)/\∀q:O,(k<(o:Int)->q=Option.map (fun r=>Addr.add r (N k*6)) m)->Y Tryz.prog 172 [S q (N p-N k) (o-N k)] j fun r s=>∃t u v,r=S t u v/\(X base j s->∃w x,t=some (D w x none)/\Int.ofNat 0<=0/\0<(u:Int)/\∃(y z:Int)(a1 b1:Bool)(c1:Int)(d1:O)(e1 f1:Nat),(C s w (x+0*6)=some (I Z y)/\C s w (x+0*6+1)=some (I Z z)/\C s w (x+0*6+2)=some (B a1)/\C s w (x+0*6+3)=some (B b1)/\C s w (x+0*6+4)=some (I Z c1)/\C s w (x+0*6+5)=some (S d1 e1 f1)/\True)/\∀g1:Nat,(tw=false->∀h1:Int,h1=W Z (k+1)->∃(i1:List Value)(j1 k1:Nat),k=(j1:Int)/\h1=(k1:Int)/\j1<=k1/\k1<=n/\n<=1000000/\Row base s 74 6 m n o i1/\allOne i1=true/\∀l1:Heap,Grew base s l1 m o m o (j1+(n-k1))->Row base l1 74 6 m (j1+(n-k1)) o (List.take (j1*6) i1++List.drop (k1*6) i1)->K (T #[S m (j1+(n-k1)) o,A #[I Z y,I Z z,B a1,B b1,I Z c1,S d1 e1 f1],I Z 0]) [] l1)/\(¬tw=false->K (T #[S m n o,A #[I Z y,I Z z,B a1,B b1,I Z c1,S d1 e1 f1],I Z 0]) [] s))))))) [J b false 74 [I Z 0,I Z 0,B false,B false,I Z 0,S none 0 0]]):=by kernel_rfl
theorem vc116(base:Nat)(H:Heap)(K:KT):
 (fV TryzMutsJ Tryz.f72 base H [] [] K)=(
 ∀(a b:Nat)(c:Heap),X base H c->H b=none->c b=some (boxKB 91 [I Z 1,I Z 2,I Z 2,I Z 1])->K (A #[I Z 2,S (some (D b 0 none)) 2 2]) [] c):=by kernel_rfl
open Go Go.Proofs
theorem vc158(s:ByteArray)(c:Int)(base:Nat)(H:Heap)(K:KT):
 (fV TryzMutsJ Tryz.f266 base H [.v (.string s),.v (.int .u8 c)] [] K)=(
 ∃a,ExtRuns Tryz.prog H 286 [Str s,I IntKind.u8 c] (I Z a)/\K (I Z a) [] H):=by kernel_rfl
theorem vc157(s:ByteArray)(c:UInt8)(base:Nat)(H:Heap)(K:KT):
 (fV TryzMutsJ Tryz.f247 base H [.v (.string s),.v (.string ⟨#[c]⟩)] [] K)=(
 ∃a:Prop,(((↑(ByteArray.size (ByteArray.mk #[c])):Int)=0->SubH H H/\a)/\(¬(↑(ByteArray.size (ByteArray.mk #[c])):Int)=0->∃b,RunsTo Tryz.prog (binRun BinOp.eql 9 (Operand.tmp 20) (Operand.tmp 21) (Str (ByteArray.mk #[c])) (Str s)) (B b)/\SubH H H/\(a↔b=true)))/\(a->K (I Z 0) [] H)/\(¬a->((↑(ByteArray.size (ByteArray.mk #[c])):Int)=1->∃b:Int,RunsTo Tryz.prog (Instr.index 9 (Str (ByteArray.mk #[c])) (I Z 0)) (I IntKind.u8 b)/\Y Tryz.prog 266 [Str s,I IntKind.u8 b] H fun d e=>∃g,d=I Z g/\(X base H e->K (I Z g) [] e))/\(¬(↑(ByteArray.size (ByteArray.mk #[c])):Int)=1->((↑(ByteArray.size s):Int)<=(↑(ByteArray.size (ByteArray.mk #[c])):Int)->K (I Z (-1)) [] H)/\(¬(↑(ByteArray.size s):Int)<=(↑(ByteArray.size (ByteArray.mk #[c])):Int)->∃b:Prop,(∃d,C H 0 0=some (I Z d)/\((↑(ByteArray.size (ByteArray.mk #[c])):Int)<=d->SubH H H/\(b↔(↑(ByteArray.size s):Int)<=64))/\(¬(↑(ByteArray.size (ByteArray.mk #[c])):Int)<=d->SubH H H/\¬b))/\(b->∃d,ExtRuns Tryz.prog H 267 [Str s,Str (ByteArray.mk #[c])] (I Z d)/\K (I Z d) [] H)/\(¬b->∃d:Int,RunsTo Tryz.prog (Instr.index 9 (Str (ByteArray.mk #[c])) (I Z 0)) (I IntKind.u8 d)/\∃e:Int,RunsTo Tryz.prog (Instr.index 9 (Str (ByteArray.mk #[c])) (I Z 1)) (I IntKind.u8 e)/\∀g:Int,g=W Z ((↑(ByteArray.size s):Int)-(↑(ByteArray.size (ByteArray.mk #[c])):Int))->∀h:Int,h=W Z (g+1)->∃(i:LI)(j:LM),i [I Z 0,I Z 0,I Z 0] H/\∀(k l m:Int)(n:Heap),X base H n->i [I Z k,I Z l,I Z m] n->(l<h->∃o:Int,RunsTo Tryz.prog (Instr.index 9 (Str s) (I Z l)) (I IntKind.u8 o)/\(¬o=d->∀p:Int,p=W Z (l+1)->0<=p/\p<=h/\h<=(↑(ByteArray.size s):Int)/\Y Tryz.prog 266 [Str (ByteArray.extract s (N p) (N h)),I IntKind.u8 d] n fun q r=>∃t,q=I Z t/\(X base n r->(t<0->K (I Z (-1)) [] r)/\(¬t<0->∀u:Int,u=W Z (t+1)->∀v:Int,v=W Z (l+u)->∃w:Prop,(∀x:Int,x=W Z (v+1)->∃y:Int,RunsTo Tryz.prog (Instr.index 9 (Str s) (I Z x)) (I IntKind.u8 y)/\(y=e->∀z:Int,z=W Z (v+(↑(ByteArray.size (ByteArray.mk #[c])):Int))->0<=v/\v<=z/\z<=(↑(ByteArray.size
 s):Int)/\∃a1,RunsTo Tryz.prog (binRun BinOp.eql 9 (Operand.tmp 90) (Operand.tmp 91) (Str (ByteArray.extract s (N v) (N z))) (Str (ByteArray.mk #[c]))) (B a1)/\SubH r r/\(w↔a1=true))/\(¬y=e->SubH r r/\¬w))/\(w->K (I Z v) [] r)/\(¬w->∀x:Int,(fun w1:LV=>x=W Z (v+1)->∀y:Int,y=W Z (m+1)->∃z:Prop,(∃a1,C r 0 0=some (I Z a1)/\((↑(ByteArray.size (ByteArray.mk #[c])):Int)<=a1->Y Tryz.prog 268 [I Z x] r fun b1 c1=>∃d1,b1=I Z d1/\(X base r c1->SubH r c1/\(z↔d1<y)))/\(¬(↑(ByteArray.size (ByteArray.mk #[c])):Int)<=a1->SubH r r/\¬z))/\(z->0<=x/\x<=(↑(ByteArray.size s):Int)/\∃a1,ExtRuns Tryz.prog r 267 w1 (I Z a1)/\(0<=a1->∀b1:Int,b1=W Z (a1+x)->K (I Z b1) [] r)/\(¬0<=a1->K (I Z (-1)) [] r))/\(¬z->∃a1:Prop,(∃b1,C r 0 0=some (I Z b1)/\(b1<(↑(ByteArray.size (ByteArray.mk #[c])):Int)->False)/\(¬b1<(↑(ByteArray.size (ByteArray.mk #[c])):Int)->SubH r r/\¬a1))/\(a1->0<=x/\x<=(↑(ByteArray.size s):Int)/\Y Tryz.prog 269 w1 r fun b1 c1=>∃d1,b1=I Z d1/\(X base r c1->(d1<0->K (I Z (-1)) [] c1)/\(¬d1<0->∀e1:Int,e1=W Z (x+d1)->K (I Z e1) [] c1)))/\(¬a1->i [I Z k,I Z x,I Z y] r/\j [I Z k,I Z x,I Z y]<j [I Z k,I Z l,I Z m]))) [Str (ByteArray.extract s (N x) (ByteArray.size s)),Str (ByteArray.mk #[c])]))))/\(¬¬o=d->∃p:Prop,(∀q:Int,q=W Z (l+1)->∃r:Int,RunsTo Tryz.prog (Instr.index 9 (Str s) (I Z q)) (I IntKind.u8 r)/\(r=e->∀t:Int,t=W Z (l+(↑(ByteArray.size (ByteArray.mk #[c])):Int))->0<=l/\l<=t/\t<=(↑(ByteArray.size s):Int)/\∃u,RunsTo Tryz.prog (binRun BinOp.eql 9 (Operand.tmp 90) (Operand.tmp 91) (Str (ByteArray.extract s (N l) (N t))) (Str (ByteArray.mk #[c]))) (B u)/\SubH n n/\(p↔u=true))/\(¬r=e->SubH n n/\¬p))/\(p->K (I Z l) [] n)/\(¬p->∀q:Int,(fun w2:LV=>q=W Z (l+1)->∀r:Int,r=W Z (m+1)->∃t:Prop,(∃u,C n 0 0=some (I Z u)/\((↑(ByteArray.size (ByteArray.mk #[c])):Int)<=u->Y Tryz.prog 268 [I Z q] n fun v w=>∃x,v=I Z x/\(X base n w->SubH n w/\(t↔x<r)))/\(¬(↑(ByteArray.size (ByteArray.mk #[c])):Int)<=u->SubH n n/\¬t))/\(t->0<=q/\q<=(↑(ByteArray.size s):
 Int)/\∃u,ExtRuns Tryz.prog n 267 w2 (I Z u)/\(0<=u->∀v:Int,v=W Z (u+q)->K (I Z v) [] n)/\(¬0<=u->K (I Z (-1)) [] n))/\(¬t->∃u:Prop,(∃v,C n 0 0=some (I Z v)/\(v<(↑(ByteArray.size (ByteArray.mk #[c])):Int)->False)/\(¬v<(↑(ByteArray.size (ByteArray.mk #[c])):Int)->SubH n n/\¬u))/\(u->0<=q/\q<=(↑(ByteArray.size s):Int)/\Y Tryz.prog 269 w2 n fun v w=>∃x,v=I Z x/\(X base n w->(x<0->K (I Z (-1)) [] w)/\(¬x<0->∀y:Int,y=W Z (q+x)->K (I Z y) [] w)))/\(¬u->i [I Z k,I Z q,I Z r] n/\j [I Z k,I Z q,I Z r]<j [I Z k,I Z l,I Z m]))) [Str (ByteArray.extract s (N q) (ByteArray.size s)),Str (ByteArray.mk #[c])])))/\(¬l<h->K (I Z (-1)) [] n)))))):=by kernel_rfl
theorem vc154(s t:ByteArray)(base:Nat)(H:Heap)(K:KT):
 (fV TryzMutsJ Tryz.f239 base H [.v (.string s),.v (.string t)] [] K)=(
 Y Tryz.prog 247 [Str s,Str t] H fun a b=>∃c,a=I Z c/\(X base H b->K (I Z c) [] b)):=by kernel_rfl
theorem vc144(s t:ByteArray)(base:Nat)(H:Heap)(K:KT):
 (fV TryzMutsJ Tryz.f213 base H [.v (.string s),.v (.string t)] [] K)=(
 Y Tryz.prog 239 [Str s,Str t] H fun a b=>∃c,a=I Z c/\(X base H b->K (B (decide (0<=c))) [] b)):=by kernel_rfl
theorem vc145(k:Int)(base:Nat)(H:Heap)(K:KT):
 (fV TryzMutsJ Tryz.f230 base H [.v (I Z k)] [] K)=(
 0<=k/\k<10/\∃a,List.get?Internal [Str (ByteArray.mk #[]),Str (ByteArray.mk #[116,114]),Str (ByteArray.mk #[116]),Str (ByteArray.mk #[116,103]),Str (ByteArray.mk #[114]),Str (ByteArray.mk #[110]),Str (ByteArray.mk #[97,116]),Str (ByteArray.mk #[97,116,103]),Str (ByteArray.mk #[]),Str (ByteArray.mk #[])] (N k*1)=some (Str a)/\K (Str a) [] H):=by kernel_rfl
theorem vc143(t:ByteArray)(p:Nat)(base:Nat)(H:Heap)(K:KT):
 (fV TryzMutsJ Tryz.f229 base H [.v (.string t),.v (.pointer (some ⟨p,0,none⟩))] [] K)=(
 ∃a,C H p 0=some (I Z a)/\Y Tryz.prog 230 [I Z a] H fun b c=>∃d,b=Str d/\(X base H c->Y Tryz.prog 213 [Str d,Str t] c fun e g=>∃h,e=B h/\(X base c g->K (B h) [] g))):=by kernel_rfl
theorem vc146(t:ByteArray)(p:Nat)(base:Nat)(H:Heap)(K:KT):
 (fV TryzMutsJ Tryz.f212 base H [.v (.string t),.v (.pointer (some ⟨p,0,none⟩))] [] K)=(
 ∃a,C H p 0=some (Str a)/\Y Tryz.prog 213 [Str a,Str t] H fun b c=>∃d,b=B d/\(X base H c->K (B d) [] c)):=by kernel_rfl
abbrev vt124_3(kd ag tr n id:Int)(gd:Bool)(a:O)(l c:Nat)(base:Nat)(H:Heap)(K:KT)(b_4:Bool)(b:Nat)(H'_2:Heap)(φ:Prop):Prop:=
 (fun w1:LB=>b_4=false->(gd=true->w1=w1/\SubH H H'_2/\φ)/\(gd=false->true=true/\∀d:Heap,X 0 H'_2 d->d b=some (boxKB 126 [I Z kd,I Z ag,I Z tr,I Z n,B gd,I Z id,S a l c])/\True->Y Tryz.prog 229 [Str (ByteArray.mk #[114]),P (some (D b 0 none))] d fun e g=>∃h,e=B h/\∀i,X base H'_2 i->(∀(j:Nat)(k:KB),g j=some k->(∀m:Bx,m∈w1->j≠Bx.b m)->i j=some k)->(h=false->(¬id=0->w1=w1/\SubH H i/\φ)/\(¬¬id=0->w1=w1/\SubH H i/\(φ↔0<(l:Int))))/\(¬h=false->w1=w1/\SubH H i/\¬φ))) [J b false 126 [I Z kd,I Z ag,I Z tr,I Z n,B gd,I Z id,S a l c]]
abbrev vt124_4(kd ag tr n id:Int)(gd:Bool)(a:O)(l c:Nat)(base:Nat)(H:Heap)(K:KT)(b_4:Bool)(H'_2:Heap)(b:Nat)(φ:Prop):Prop:=
 (fun w1:LB=>¬b_4=false->true=true/\∀d:Heap,X 0 H'_2 d->d b=some (boxKB 126 [I Z kd,I Z ag,I Z tr,I Z n,B gd,I Z id,S a l c])/\True->Y Tryz.prog 229 [Str (ByteArray.mk #[114]),P (some (D b 0 none))] d fun e g=>∃h,e=B h/\∀i,X base H'_2 i->(∀(j:Nat)(k:KB),g j=some k->(∀m:Bx,m∈w1->j≠Bx.b m)->i j=some k)->(h=false->(¬id=0->w1=w1/\SubH H i/\φ)/\(¬¬id=0->w1=w1/\SubH H i/\(φ↔0<(l:Int))))/\(¬h=false->w1=w1/\SubH H i/\¬φ)) [J b false 126 [I Z kd,I Z ag,I Z tr,I Z n,B gd,I Z id,S a l c]]
abbrev vt124_1(kd ag tr n id:Int)(gd:Bool)(a:O)(l c:Nat)(base:Nat)(H:Heap)(K:KT)(b_3:Bool)(b:Nat)(H':Heap)(φ:Prop):Prop:=
 (fun w1:LV=>b_3=false->(¬n=0->[J b false 126 w1]=[J b false 126 w1]/\SubH H H'/\φ)/\(¬¬n=0->true=true/\∀d:Heap,X 0 H' d->d b=some (boxKB 126 w1)/\True->Y Tryz.prog 229 [Str (ByteArray.mk #[103]),P (some (D b 0 none))] d fun e g=>∃h,e=B h/\∀i,X base H' i->(∀(j:Nat)(k:KB),g j=some k->(∀m:Bx,m∈ [J b false 126 w1]->j≠Bx.b m)->i j=some k)->(vt124_3 kd ag tr n id gd a l c base H K h b i φ)/\(vt124_4 kd ag tr n id gd a l c base H K h i b φ))) [I Z kd,I Z ag,I Z tr,I Z n,B gd,I Z id,S a l c]
abbrev vt124_2(kd ag tr n id:Int)(gd:Bool)(a:O)(l c:Nat)(base:Nat)(H:Heap)(K:KT)(b_3:Bool)(H':Heap)(b:Nat)(φ:Prop):Prop:=
 ¬b_3=false->true=true/\∀d:Heap,X 0 H' d->d b=some (boxKB 126 [I Z kd,I Z ag,I Z tr,I Z n,B gd,I Z id,S a l c])/\True->Y Tryz.prog 229 [Str (ByteArray.mk #[103]),P (some (D b 0 none))] d fun e g=>∃h,e=B h/\∀i,X base H' i->(∀(j:Nat)(k:KB),g j=some k->(∀m:Bx,m∈ [J b false 126 [I Z kd,I Z ag,I Z tr,I Z n,B gd,I Z id,S a l c]]->j≠Bx.b m)->i j=some k)->(vt124_3 kd ag tr n id gd a l c base H K h b i φ)/\(vt124_4 kd ag tr n id gd a l c base H K h i b φ)
theorem vc124(kd ag tr n id:Int)(gd:Bool)(a:O)(l c:Nat)(base:Nat)(H:Heap)(K:KT):
 (fV TryzMutsJ Tryz.f198 base H [.v (A #[I Z kd,I Z ag,I Z tr,I Z n,B gd,I Z id,S a l c])] [] K)=(
 (fun w4:LV=>∀b:Nat,(fun w3:LV=>(fun w2:LV=>(fun w1:LB=>∃d:Prop,((kd<1->w1=w1/\SubH H H/\d)/\(¬kd<1->w1=w1/\SubH H H/\(d↔9<kd)))/\(d->K (I Z 4) [] H)/\(¬d->∃e:Prop,(true=true/\∀g:Heap,X 0 H g->g b=some (boxKB 126 w4)/\True->Y Tryz.prog 229 [Str (ByteArray.mk #[97]),P (some (D b 0 none))] g fun h i=>∃j,h=B j/\∀k,X base H k->(∀(m:Nat)(o:KB),i m=some o->(∀p:Bx,p∈w1->m≠Bx.b p)->k m=some o)->(j=false->(¬ag=0->w1=w1/\SubH H k/\e)/\(¬¬ag=0->true=true/\∀m:Heap,X 0 k m->m b=some (boxKB 126 w4)/\True->Y Tryz.prog 229 w3 m fun o p=>∃q,o=B q/\∀r,X base k r->(∀(s:Nat)(t:KB),p s=some t->(∀u:Bx,u∈w1->s≠Bx.b u)->r s=some t)->(q=false->(¬tr=0->w1=w1/\SubH H r/\e)/\(¬¬tr=0->true=true/\∀s:Heap,X 0 r s->s b=some (boxKB 126 w4)/\True->Y Tryz.prog 229 w2 s fun t u=>∃v,t=B v/\∀w,X base r w->(∀(x:Nat)(y:KB),u x=some y->(∀z:Bx,z∈w1->x≠Bx.b z)->w x=some y)->(vt124_1 kd ag tr n id gd a l c base H K v b w e)/\(vt124_2 kd ag tr n id gd a l c base H K v w b e)))/\(¬q=false->true=true/\∀s:Heap,X 0 r s->s b=some (boxKB 126 w4)/\True->Y Tryz.prog 229 w2 s fun t u=>∃v,t=B v/\∀w,X base r w->(∀(x:Nat)(y:KB),u x=some y->(∀z:Bx,z∈w1->x≠Bx.b z)->w x=some y)->(vt124_1 kd ag tr n id gd a l c base H K v b w e)/\(vt124_2 kd ag tr n id gd a l c base H K v w b e))))/\(¬j=false->true=true/\∀m:Heap,X 0 k m->m b=some (boxKB 126 w4)/\True->Y Tryz.prog 229 w3 m fun o p=>∃q,o=B q/\∀r,X base k r->(∀(s:Nat)(t:KB),p s=some t->(∀u:Bx,u∈w1->s≠Bx.b u)->r s=some t)->(q=false->(¬tr=0->w1=w1/\SubH H r/\e)/\(¬¬tr=0->true=true/\∀s:Heap,X 0 r s->s b=some (boxKB 126 w4)/\True->Y Tryz.prog 229 w2 s fun t u=>∃v,t=B v/\∀w,X base r w->(∀(x:Nat)(y:KB),u x=some y->(∀z:Bx,z∈w1->x≠Bx.b z)->w x=some y)->(vt124_1 kd ag tr n id gd a l c base H K v b w e)/\(vt124_2 kd ag tr n id gd a l c base H K v w b e)))/\(¬q=false->true=true/\∀s:Heap,X 0 r s->s b=some (boxKB 126 w4)/\True->Y Tryz.prog 229 w2 s fun t u=>∃v,t=B v/\∀w,X base r w->(∀(x:Nat)(y:KB),u x=some y->(∀z:Bx,z∈
 w1->x≠Bx.b z)->w x=some y)->(vt124_1 kd ag tr n id gd a l c base H K v b w e)/\(vt124_2 kd ag tr n id gd a l c base H K v w b e))))/\(e->K (I Z 4) [] H)/\(¬e->∃g:Prop,((ag<0->w1=w1/\SubH H H/\g)/\(¬ag<0->(6<=ag->w1=w1/\SubH H H/\g)/\(¬6<=ag->true=true/\∀h:Heap,X 0 H h->h b=some (boxKB 126 w4)/\True->Y Tryz.prog 229 w3 h fun i j=>∃k,i=B k/\∀m,X base H m->(∀(o:Nat)(p:KB),j o=some p->(∀q:Bx,q∈w1->o≠Bx.b q)->m o=some p)->(k=true->(tr<1->w1=w1/\SubH H m/\g)/\(¬tr<1->(200<tr->w1=w1/\SubH H m/\g)/\(¬200<tr->true=true/\∀o:Heap,X 0 m o->o b=some (boxKB 126 w4)/\True->Y Tryz.prog 229 w2 o fun p q=>∃r,p=B r/\∀s,X base m s->(∀(t:Nat)(u:KB),q t=some u->(∀v:Bx,v∈w1->t≠Bx.b v)->s t=some u)->(r=true->(n<1->w1=w1/\SubH H s/\g)/\(¬n<1->w1=w1/\SubH H s/\(g↔6<n)))/\(r=false->w1=w1/\SubH H s/\¬g))))/\(k=false->true=true/\∀o:Heap,X 0 m o->o b=some (boxKB 126 w4)/\True->Y Tryz.prog 229 w2 o fun p q=>∃r,p=B r/\∀s,X base m s->(∀(t:Nat)(u:KB),q t=some u->(∀v:Bx,v∈w1->t≠Bx.b v)->s t=some u)->(r=true->(n<1->w1=w1/\SubH H s/\g)/\(¬n<1->w1=w1/\SubH H s/\(g↔6<n)))/\(r=false->w1=w1/\SubH H s/\¬g)))))/\(g->K (I Z 3) [] H)/\(¬g->true=true/\∀h:Heap,X 0 H h->h b=some (boxKB 126 w4)/\True->Y Tryz.prog 229 [Str (ByteArray.mk #[114]),P (some (D b 0 none))] h fun i j=>∃k,i=B k/\∀m,X base H m->(∀(o:Nat)(p:KB),j o=some p->(∀q:Bx,q∈w1->o≠Bx.b q)->m o=some p)->(k=true->Y Tryz.prog 167 [A #[I Z id,S a l c]] m fun o p=>∃q,o=I Z q/\(X base m p->K (I Z q) [] p))/\(k=false->K (I Z 0) [] m))))) [J b false 126 w4]) [Str (ByteArray.mk #[110]),P (some (D b 0 none))]) [Str (ByteArray.mk #[116]),P (some (D b 0 none))]) [I Z kd,I Z ag,I Z tr,I Z n,B gd,I Z id,S a l c]):=by kernel_rfl
abbrev vt127_1(kd ag tr n id:Int)(gd:Bool)(a:O)(l c:Nat)(base:Nat)(H:Heap)(K:KT)(H':Heap)(b_4:Bool)(b_3:Nat)(s:ByteArray)(b:Nat)(b_1:Nat)(cs':List Value):Prop:=
 (fun w2:LV=>(fun w1:LB=>X base H H'->(b_4=false->(b_4=false->K (I Z 3) [] H')/\(¬b_4=false->true=true/\∀d:Heap,X 0 H' d->d b_3=some (boxKB 9 [Str s])/\True->Y Tryz.prog 212 w2 d fun e g=>∃h,e=B h/\∀i,X base H' i->(∀(j:Nat)(k:KB),g j=some k->(∀m:Bx,m∈ [J b_3 false 9 [Str s]]->j≠Bx.b m)->i j=some k)->(h=true->Y Tryz.prog 84 [A #[I Z id,S a l c]] i fun j k=>∃m,j=I Z m/\(X base i k->K (I Z m) [] k))/\(h=false->K (I Z 0) [] i)))/\(¬b_4=false->∃d:Prop,(true=true/\∀e:Heap,X 0 H' e->e b_3=some (boxKB 9 [Str s])/\True->Y Tryz.prog 212 [Str (ByteArray.mk #[84]),P (some (D b_3 0 none))] e fun g h=>∃i,g=B i/\∀j,X base H' j->(∀(k:Nat)(m:KB),h k=some m->(∀o:Bx,o∈ [J b_3 false 9 [Str s]]->k≠Bx.b o)->j k=some m)->(i=true->Y Tryz.prog 92 [I Z tr,I Z 1,I Z 200] j fun k m=>∃o,k=B o/\(X base j m->w1=w1/\SubH H' m/\(d↔o=false)))/\(i=false->w1=w1/\SubH H' j/\¬d))/\(d->(d->K (I Z 3) [] H')/\(¬d->true=true/\∀e:Heap,X 0 H' e->e b_3=some (boxKB 9 [Str s])/\True->Y Tryz.prog 212 w2 e fun g h=>∃i,g=B i/\∀j,X base H' j->(∀(k:Nat)(m:KB),h k=some m->(∀o:Bx,o∈ [J b_3 false 9 [Str s]]->k≠Bx.b o)->j k=some m)->(i=true->Y Tryz.prog 84 [A #[I Z id,S a l c]] j fun k m=>∃o,k=I Z o/\(X base j m->K (I Z o) [] m))/\(i=false->K (I Z 0) [] j)))/\(¬d->∃e:Prop,(true=true/\∀g:Heap,X 0 H' g->g b_3=some (boxKB 9 [Str s])/\True->Y Tryz.prog 212 [Str (ByteArray.mk #[78]),P (some (D b_3 0 none))] g fun h i=>∃j,h=B j/\∀k,X base H' k->(∀(m:Nat)(o:KB),i m=some o->(∀p:Bx,p∈ [J b_3 false 9 [Str s]]->m≠Bx.b p)->k m=some o)->(j=true->Y Tryz.prog 92 [I Z n,I Z 1,I Z 6] k fun m o=>∃p,m=B p/\(X base k o->w1=w1/\SubH H' o/\(e↔p=false)))/\(j=false->w1=w1/\SubH H' k/\¬e))/\(e->K (I Z 3) [] H')/\(¬e->true=true/\∀g:Heap,X 0 H' g->g b_3=some (boxKB 9 [Str s])/\True->Y Tryz.prog 212 w2 g fun h i=>∃j,h=B j/\∀k,X base H' k->(∀(m:Nat)(o:KB),i m=some o->(∀p:Bx,p∈ [J b_3 false 9 [Str s]]->m≠Bx.b p)->k m=some o)->(j=true->Y Tryz.prog 84 [A #[I Z id,S a l c]] k fun m o=>∃p,m=I Z p/\(X
 base k o->K (I Z p) [] o))/\(j=false->K (I Z 0) [] k))))) [J b false 126 [I Z kd,I Z ag,I Z tr,I Z n,B gd,I Z id,S a l c],J b_1 true 246 cs',J b_3 false 9 [Str s]]) [Str (ByteArray.mk #[82]),P (some (D b_3 0 none))]
theorem vc127(kd ag tr n id:Int)(gd:Bool)(a:O)(l c:Nat)(base:Nat)(H:Heap)(K:KT):
 (fV TryzMutsJ Tryz.f156 base H [.v (A #[I Z kd,I Z ag,I Z tr,I Z n,B gd,I Z id,S a l c])] [] K)=(
 ∀b d:Nat,∃e:List Value,mapSet (I Z 1) (Str (ByteArray.mk #[84,82])) []=some e/\∃g:List Value,mapSet (I Z 2) (Str (ByteArray.mk #[84])) e=some g/\∃h:List Value,mapSet (I Z 3) (Str (ByteArray.mk #[84,71])) g=some h/\∃i:List Value,mapSet (I Z 4) (Str (ByteArray.mk #[82])) h=some i/\∃j:List Value,mapSet (I Z 5) (Str (ByteArray.mk #[78])) i=some j/\∃k:List Value,mapSet (I Z 6) (Str (ByteArray.mk #[65,84])) j=some k/\∃m:List Value,mapSet (I Z 7) (Str (ByteArray.mk #[65,84,71])) k=some m/\∃o:List Value,mapSet (I Z 8) (Str (ByteArray.mk #[])) m=some o/\∃p:List Value,mapSet (I Z 9) (Str (ByteArray.mk #[])) o=some p/\∃(q:ByteArray)(r:Bool),mapGet (Str (ByteArray.mk #[])) (I Z kd) p=some (Str q,r)/\∀s:Nat,(fun w1:LB=>(r=false->(r=false->K (I Z 4) [] H)/\(¬r=false->Y Tryz.prog 92 [I Z ag,I Z 0,I Z 5] H fun t u=>∃v,t=B v/\(vt127_1 kd ag tr n id gd a l c base H K u v s q b d p)))/\(¬r=false->∃t:Prop,((¬ag=0->true=true/\∀u:Heap,X 0 H u->u s=some (boxKB 9 [Str q])/\True->Y Tryz.prog 212 [Str (ByteArray.mk #[65]),P (some (D s 0 none))] u fun v w=>∃x,v=B x/\∀y,X base H y->(∀(z:Nat)(a1:KB),w z=some a1->(∀b1:Bx,b1∈ [J s false 9 [Str q]]->z≠Bx.b b1)->y z=some a1)->w1=w1/\SubH H y/\(t↔x=false))/\(¬¬ag=0->w1=w1/\SubH H H/\¬t))/\(t->(t->K (I Z 4) [] H)/\(¬t->Y Tryz.prog 92 [I Z ag,I Z 0,I Z 5] H fun u v=>∃w,u=B w/\(vt127_1 kd ag tr n id gd a l c base H K v w s q b d p)))/\(¬t->∃u:Prop,((¬tr=0->true=true/\∀v:Heap,X 0 H v->v s=some (boxKB 9 [Str q])/\True->Y Tryz.prog 212 [Str (ByteArray.mk #[84]),P (some (D s 0 none))] v fun w x=>∃y,w=B y/\∀z,X base H z->(∀(a1:Nat)(b1:KB),x a1=some b1->(∀c1:Bx,c1∈ [J s false 9 [Str q]]->a1≠Bx.b c1)->z a1=some b1)->w1=w1/\SubH H z/\(u↔y=false))/\(¬¬tr=0->w1=w1/\SubH H H/\¬u))/\(u->(u->K (I Z 4) [] H)/\(¬u->Y Tryz.prog 92 [I Z ag,I Z 0,I Z 5] H fun v w=>∃x,v=B x/\(vt127_1 kd ag tr n id gd a l c base H K w x s q b d p)))/\(¬u->∃v:Prop,((¬n=0->true=true/\∀w:Heap,X 0 H w->w s=some (boxKB 9 [Str q])/\True->Y Tryz.prog
 212 [Str (ByteArray.mk #[78]),P (some (D s 0 none))] w fun x y=>∃z,x=B z/\∀a1,X base H a1->(∀(b1:Nat)(c1:KB),y b1=some c1->(∀d1:Bx,d1∈ [J s false 9 [Str q]]->b1≠Bx.b d1)->a1 b1=some c1)->w1=w1/\SubH H a1/\(v↔z=false))/\(¬¬n=0->w1=w1/\SubH H H/\¬v))/\(v->(v->K (I Z 4) [] H)/\(¬v->Y Tryz.prog 92 [I Z ag,I Z 0,I Z 5] H fun w x=>∃y,w=B y/\(vt127_1 kd ag tr n id gd a l c base H K x y s q b d p)))/\(¬v->∃w:Prop,((gd=true->true=true/\∀x:Heap,X 0 H x->x s=some (boxKB 9 [Str q])/\True->Y Tryz.prog 212 [Str (ByteArray.mk #[71]),P (some (D s 0 none))] x fun y z=>∃a1,y=B a1/\∀b1,X base H b1->(∀(c1:Nat)(d1:KB),z c1=some d1->(∀e1:Bx,e1∈ [J s false 9 [Str q]]->c1≠Bx.b e1)->b1 c1=some d1)->w1=w1/\SubH H b1/\(w↔a1=false))/\(gd=false->w1=w1/\SubH H H/\¬w))/\(w->(w->K (I Z 4) [] H)/\(¬w->Y Tryz.prog 92 [I Z ag,I Z 0,I Z 5] H fun x y=>∃z,x=B z/\(vt127_1 kd ag tr n id gd a l c base H K y z s q b d p)))/\(¬w->∃x:Prop,((¬id=0->true=true/\∀y:Heap,X 0 H y->y s=some (boxKB 9 [Str q])/\True->Y Tryz.prog 212 [Str (ByteArray.mk #[82]),P (some (D s 0 none))] y fun z a1=>∃b1,z=B b1/\∀c1,X base H c1->(∀(d1:Nat)(e1:KB),a1 d1=some e1->(∀f1:Bx,f1∈ [J s false 9 [Str q]]->d1≠Bx.b f1)->c1 d1=some e1)->w1=w1/\SubH H c1/\(x↔b1=false))/\(¬¬id=0->(0<(l:Int)->true=true/\∀y:Heap,X 0 H y->y s=some (boxKB 9 [Str q])/\True->Y Tryz.prog 212 [Str (ByteArray.mk #[82]),P (some (D s 0 none))] y fun z a1=>∃b1,z=B b1/\∀c1,X base H c1->(∀(d1:Nat)(e1:KB),a1 d1=some e1->(∀f1:Bx,f1∈ [J s false 9 [Str q]]->d1≠Bx.b f1)->c1 d1=some e1)->w1=w1/\SubH H c1/\(x↔b1=false))/\(¬0<(l:Int)->w1=w1/\SubH H H/\¬x)))/\(x->K (I Z 4) [] H)/\(¬x->Y Tryz.prog 92 [I Z ag,I Z 0,I Z 5] H fun y z=>∃a1,y=B a1/\(vt127_1 kd ag tr n id gd a l c base H K z a1 s q b d p)))))))) [J b false 126 [I Z kd,I Z ag,I Z tr,I Z n,B gd,I Z id,S a l c],J d true 246 p,J s false 9 [Str q]]):=by kernel_rfl
end Go.Vg
