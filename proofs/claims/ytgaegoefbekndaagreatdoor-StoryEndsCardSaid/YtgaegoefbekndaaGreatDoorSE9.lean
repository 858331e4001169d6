/- What is proved here: a part of the proof of laws of this seat: what a contract is, how it comes of a condition, contracts of the functions that are reached, the plain laws. -/
import Derived.Test.YtgaegoefbekndaaGreatDoorSE8
set_option linter.unusedSimpArgs false
set_option linter.unusedVariables false
set_option maxRecDepth 100000
namespace Go.Vg
open Go Go.Proofs
open Go.Value renaming int → I, slice → S, bool → B, agg → A, tuple → T, pointer → P, string → Str
open Go.IntKind renaming i64 → Z, wrap → W
open Go.Addr renaming mk → D
open Go.Vg.Bx renaming mk → J
open Go.Vg renaming Next → X, Spec → Y, SpecO → YO
open Go.Vg.Heap renaming cell → C
open Int renaming toNat → N
theorem vd44(s:ByteArray)(base:Nat)(H:Heap)(K:KT):
 (fV TryzMuts Tryz.f251 base H [.v (.string s)] [] K)=(
 Y Tryz.prog 226 [Str s] H fun a b=>∃c,a=T #[I Z c,Value.nilIface]/\(X base H b->∃d,RunsTo Tryz.prog (binRun BinOp.eql 263 (Operand.tmp 12) (Operand.const Value.nilIface) Value.nilIface Value.nilIface) (B d)/\(d=true->Y Tryz.prog 223 [I Z c] b fun e g=>∃h,e=Str h/\(X base b g->∃i,RunsTo Tryz.prog (binRun BinOp.eql 9 (Operand.tmp 16) (Operand.tmp 17) (Str h) (Str s)) (B i)/\K (T #[I Z c,B (decide (i=true))]) [] g))/\(¬d=true->K (T #[I Z c,B false]) [] b))∨∃(d:TypeId)(e:Value),a=T #[I Z c,Value.iface d e]/\(X base H b->∃g,RunsTo Tryz.prog (binRun BinOp.eql 263 (Operand.tmp 12) (Operand.const Value.nilIface) (Value.iface d e) Value.nilIface) (B g)/\(g=true->Y Tryz.prog 223 [I Z c] b fun h i=>∃j,h=Str j/\(X base b i->∃k,RunsTo Tryz.prog (binRun BinOp.eql 9 (Operand.tmp 16) (Operand.tmp 17) (Str j) (Str s)) (B k)/\K (T #[I Z c,B (decide (k=true))]) [] i))/\(¬g=true->K (T #[I Z c,B false]) [] b))):=by kernel_rfl
theorem vd8(a:O)(l c:Nat)(base:Nat)(H:Heap)(K:KT):
 (fV TryzMutsJ Tryz.f284 base H [.v (S a l c)] [] K)=(
 Y Tryz.prog 140 [S a l c] H fun b d=>∃e,b=I Z e/\(X base H d->(¬e=0->K (T #[Str (ByteArray.mk #[]),I Z e]) [] d)/\(¬¬e=0->∃(g:LI)(h:LM),g [S none 0 0,I Z 0] d/\∀(i:O)(j k:Nat)(m:Int)(n:Heap),X base H n->g [S i j k,I Z m] n->(m<(l:Int)->∃o p,a=some (D o p none)/\0<=m/\m<(l:Int)/\∃q r:Int,(C n o (p+N m*2)=some (I Z q)/\C n o (p+N m*2+1)=some (I Z r)/\True)/\∀s:Nat,Y Tryz.prog 223 [I Z q] n fun t u=>∃v,t=Str v/\(X base n u->∃w,RunsTo Tryz.prog (binRun BinOp.add 9 (Operand.tmp 22) (Operand.const (Str (ByteArray.mk #[64]))) (Str v) (Str (ByteArray.mk #[64]))) (Str w)/\Y Tryz.prog 223 [I Z r] u fun x y=>∃z,x=Str z/\(X base u y->∃a1,RunsTo Tryz.prog (binRun BinOp.add 9 (Operand.tmp 23) (Operand.tmp 26) (Str w) (Str z)) (Str a1)/\∀(b1:Nat)(c1:Heap),X base y c1->y b1=none->c1 b1=some (boxKB 9 [Str a1])->∃d1 e1:List Value,Row base c1 9 1 i j k d1/\List.length e1=1*1/\allOne e1=true/\(1=0∨∃f1 g1,some (D b1 0 none)=some (D f1 g1 none)/\cellsAt c1 f1 g1 0 e1)/\(j+1)*16<=140737488355328/\j+1<=9223372036854775807/\∀(f1:O)(g1:Nat)(h1:Heap),Grew base c1 h1 i k f1 g1 (j+1)->Row base h1 9 1 f1 (j+1) g1 (d1++e1)->∀i1:Int,i1=W Z (m+1)->g [S f1 (j+1) g1,I Z i1] h1/\h [S f1 (j+1) g1,I Z i1]<h [S i j k,I Z m])))/\(¬m<(l:Int)->Y Tryz.prog 299 [S i j k,Str (ByteArray.mk #[44])] n fun o p=>∃q,o=Str q/\(X base n p->K (T #[Str q,I Z 0]) [] p))))):=by kernel_rfl
theorem vd11(s:ByteArray)(base:Nat)(H:Heap)(K:KT):
 (fV TryzMutsJ Tryz.f228 base H [.v (.string s)] [] K)=(
 (60000<(↑(ByteArray.size s):Int)->K (T #[S none 0 0,I Z 2]) [] H)/\(¬60000<(↑(ByteArray.size s):Int)->∃a,RunsTo Tryz.prog (binRun BinOp.eql 9 (Operand.tmp 18) (Operand.const (Str (ByteArray.mk #[]))) (Str s) (Str (ByteArray.mk #[]))) (B a)/\(a=true->K (T #[S none 0 0,I Z 0]) [] H)/\(¬a=true->Y Tryz.prog 208 [Str s,Str (ByteArray.mk #[44])] H fun b c=>∃d e g,b=S d e g/\(X base H c->∃(h:LI)(i:LM),h [S none 0 0,I Z 0,S none 0 0,I Z 0] c/\∀(j:O)(k l:Nat)(m:Int)(n:O)(o p:Nat)(q:Int)(r:Heap),X base H r->h [S j k l,I Z m,S n o p,I Z q] r->(q<(e:Int)->∃t u,d=some (D t u none)/\0<=q/\q<(e:Int)/\∃v,C r t (u+N q*1)=some (Str v)/\Y Tryz.prog 195 [Str v,Str (ByteArray.mk #[64])] r fun w x=>∃y z a1,w=T #[Str y,Str z,B a1]/\(X base r x->Y Tryz.prog 251 [Str y] x fun b1 c1=>∃d1 e1,b1=T #[I Z d1,B e1]/\(X base x c1->Y Tryz.prog 251 [Str z] c1 fun f1 g1=>∃h1 i1,f1=T #[I Z h1,B i1]/\(X base c1 g1->∃j1:Prop,((a1=false->SubH g1 g1/\j1)/\(¬a1=false->(e1=false->SubH g1 g1/\j1)/\(¬e1=false->SubH g1 g1/\(j1↔i1=false))))/\(j1->K (T #[S none 0 0,I Z 1]) [] g1)/\(¬j1->∀k1:Nat,∃l1:List Value,Row base g1 91 2 n o p l1/\(o+1)*16<=140737488355328/\o+1<=9223372036854775807/\∀(m1:O)(n1:Nat)(o1:Heap),Grew base g1 o1 n p m1 n1 (o+1)->Row base o1 91 2 m1 (o+1) n1 (l1++[I Z d1,I Z h1])->∀p1:Int,p1=W Z (q+1)->h [S j k l,I Z m,S m1 (o+1) n1,I Z p1] o1/\i [S j k l,I Z m,S m1 (o+1) n1,I Z p1]<i [S j k l,I Z m,S n o p,I Z q])))))/\(¬q<(e:Int)->Y Tryz.prog 140 [S n o p] r fun t u=>∃v,t=I Z v/\(X base r u->(¬v=0->K (T #[S none 0 0,I Z v]) [] u)/\(¬¬v=0->K (T #[S n o p,I Z 0]) [] u))))))):=by kernel_rfl
open Go Go.Proofs
theorem vd18(kd ag tr n id:Int)(gd:Bool)(a:O)(l c:Nat)(base:Nat)(H:Heap)(K:KT):
 (fV TryzMutsJ Tryz.f265 base H [.v (A #[I Z kd,I Z ag,I Z tr,I Z n,B gd,I Z id,S a l c])] [] K)=(
 (fun w1:LL=>∀b:Nat,Y Tryz.prog 198 [A #[I Z kd,I Z ag,I Z tr,I Z n,B gd,I Z id,S a l c]] H fun d e=>∃g,d=I Z g/\(X base H e->(¬g=0->K (T #[Str (ByteArray.mk #[]),I Z g]) [] e)/\(¬¬g=0->(gd=true->∀h:Nat,∃(i:LI)(j:LM),i [I Z 0,A #[P none,S none 0 0]] e/\∀(k:Int)(m:Value)(o:O)(p q:Nat)(r:Heap),X base H r->i [I Z k,A #[m,S o p q]] r->(k<6->0<=k/\k<6/\∃s,List.get?Internal [I Z kd,I Z ag,I Z tr,I Z n,I Z 1,I Z id] (N k*1)=some (I Z s)/\Y Tryz.prog 223 [I Z s] r fun t u=>∃v,t=Str v/\(X base r u->∃w,RunsTo Tryz.prog (binRun BinOp.add 9 (Operand.tmp 35) (Operand.const (Str (ByteArray.mk #[32]))) (Str v) (Str (ByteArray.mk #[32]))) (Str w)/\YO Tryz.prog 298 [P (some (D h 0 none))] [J h false 311 [m,S o p q]] u fun x y z=>x=T #[]/\∃(a1:Value)(b1:O)(c1 d1:Nat),y=[[a1,S b1 c1 d1]]/\(X base u z->∃e1:List Value,Row base z 5 1 b1 c1 d1 e1/\c1+ByteArray.size w<=140737488355328/\∀(f1:O)(g1:Nat)(h1:Heap),Grew base z h1 b1 d1 f1 g1 (c1+ByteArray.size w)->Row base h1 5 1 f1 (c1+ByteArray.size w) g1 (e1++u8s (Array.toList (ByteArray.data w)))->∀i1:Int,i1=W Z (k+1)->w1=w1/\i [I Z i1,A #[a1,S f1 (c1+ByteArray.size w) g1]] h1/\j [I Z i1,A #[a1,S f1 (c1+ByteArray.size w) g1]]<j [I Z k,A #[m,S o p q]])))/\(¬k<6->Y Tryz.prog 284 [S a l c] r fun s t=>∃u v,s=T #[Str u,I Z v]/\(X base r t->311=311/\0<p/\∃w:List UInt8,Row base t 5 1 o p q (u8s w)/\∀x:Heap,(∀(y:Nat)(z:KB),t y=some z->o≠some (D y 0 none)->x y=some z)->(∀(y:Nat)(z:KB),x y=some z->t y=some z)->∃y,RunsTo Tryz.prog (binRun BinOp.add 9 (Operand.tmp 46) (Operand.const (Str (ByteArray.mk #[61]))) (Str (ByteArray.mk (List.toArray w))) (Str (ByteArray.mk #[61]))) (Str y)/\∃z,RunsTo Tryz.prog (binRun BinOp.add 9 (Operand.tmp 47) (Operand.tmp 48) (Str y) (Str u)) (Str z)/\K (T #[Str z,I Z v]) [] x)))/\(gd=false->∀h:Nat,∃(i:LI)(j:LM),i [I Z 0,A #[P none,S none 0 0]] e/\∀(k:Int)(m:Value)(o:O)(p q:Nat)(r:Heap),X base H r->i [I Z k,A #[m,S o p q]] r->(k<6->0<=k/\k<6/\∃s,List.get?Internal [I
 Z kd,I Z ag,I Z tr,I Z n,I Z 0,I Z id] (N k*1)=some (I Z s)/\Y Tryz.prog 223 [I Z s] r fun t u=>∃v,t=Str v/\(X base r u->∃w,RunsTo Tryz.prog (binRun BinOp.add 9 (Operand.tmp 35) (Operand.const (Str (ByteArray.mk #[32]))) (Str v) (Str (ByteArray.mk #[32]))) (Str w)/\YO Tryz.prog 298 [P (some (D h 0 none))] [J h false 311 [m,S o p q]] u fun x y z=>x=T #[]/\∃(a1:Value)(b1:O)(c1 d1:Nat),y=[[a1,S b1 c1 d1]]/\(X base u z->∃e1:List Value,Row base z 5 1 b1 c1 d1 e1/\c1+ByteArray.size w<=140737488355328/\∀(f1:O)(g1:Nat)(h1:Heap),Grew base z h1 b1 d1 f1 g1 (c1+ByteArray.size w)->Row base h1 5 1 f1 (c1+ByteArray.size w) g1 (e1++u8s (Array.toList (ByteArray.data w)))->∀i1:Int,i1=W Z (k+1)->w1=w1/\i [I Z i1,A #[a1,S f1 (c1+ByteArray.size w) g1]] h1/\j [I Z i1,A #[a1,S f1 (c1+ByteArray.size w) g1]]<j [I Z k,A #[m,S o p q]])))/\(¬k<6->Y Tryz.prog 284 [S a l c] r fun s t=>∃u v,s=T #[Str u,I Z v]/\(X base r t->311=311/\0<p/\∃w:List UInt8,Row base t 5 1 o p q (u8s w)/\∀x:Heap,(∀(y:Nat)(z:KB),t y=some z->o≠some (D y 0 none)->x y=some z)->(∀(y:Nat)(z:KB),x y=some z->t y=some z)->∃y,RunsTo Tryz.prog (binRun BinOp.add 9 (Operand.tmp 46) (Operand.const (Str (ByteArray.mk #[61]))) (Str (ByteArray.mk (List.toArray w))) (Str (ByteArray.mk #[61]))) (Str y)/\∃z,RunsTo Tryz.prog (binRun BinOp.add 9 (Operand.tmp 47) (Operand.tmp 48) (Str y) (Str u)) (Str z)/\K (T #[Str z,I Z v]) [] x)))))) [[I Z kd,I Z ag,I Z tr,I Z n,B gd,I Z id,S a l c]]):=by kernel_rfl
theorem vd21(s:ByteArray)(base:Nat)(H:Heap)(K:KT):
 (fV TryzMutsJ Tryz.f196 base H [.v (.string s)] [] K)=(
 (fun w6:AV=>∀a:Nat,(60000<(↑(ByteArray.size s):Int)->K (T #[A w6,I Z 2]) [] H)/\(¬60000<(↑(ByteArray.size s):Int)->Y Tryz.prog 208 [Str s,Str (ByteArray.mk #[32])] H fun b c=>∃d e g,b=S d e g/\(X base H c->(¬(e:Int)=7->K (T #[A w6,I Z 1]) [] c)/\(¬¬(e:Int)=7->∀h:Nat,List.length [I Z 0,I Z 0,I Z 0,I Z 0,I Z 0,I Z 0]=6/\∃(i:LI)(j:LM),i [I Z 0,I Z 0,A w6,A #[I Z 0,I Z 0,I Z 0,I Z 0,I Z 0,I Z 0]] c/\∀(k l m n o p:Int)(q:Bool)(r:Int)(t:O)(u v:Nat)(w:List Value),(fun w5:LV=>(fun w4:LB=>List.length w=6->∀x,X base H x->i w5 x->(l<6->∃y z,d=some (D y z none)/\0<=l/\l<(e:Int)/\∃a1,C x y (z+N l*1)=some (Str a1)/\Y Tryz.prog 226 [Str a1] x fun b1 c1=>∃d1,b1=T #[I Z d1,Value.nilIface]/\(X base x c1->∃e1,RunsTo Tryz.prog (binRun BinOp.neq 263 (Operand.tmp 36) (Operand.const Value.nilIface) Value.nilIface Value.nilIface) (B e1)/\(e1=true->K (T #[A w6,I Z 1]) [] c1)/\(¬e1=true->∃f1 g1,d=some (D f1 g1 none)/\0<=l/\l<(e:Int)/\∃h1,C c1 f1 (g1+N l*1)=some (Str h1)/\Y Tryz.prog 223 [I Z d1] c1 fun i1 j1=>∃k1,i1=Str k1/\(X base c1 j1->∃l1,RunsTo Tryz.prog (binRun BinOp.neq 9 (Operand.tmp 40) (Operand.tmp 44) (Str k1) (Str h1)) (B l1)/\(l1=true->K (T #[A w6,I Z 1]) [] j1)/\(¬l1=true->0<=l/\l<6/\0+N l*1+1<=List.length w/\∀m1:Int,(fun w1:LV=>m1=W Z (l+1)->List.length (List.set w (0+N l*1) (I Z d1))=6/\i w1 j1/\j w1<j w5) [I Z k,I Z m1,A #[I Z m,I Z n,I Z o,I Z p,B q,I Z r,S t u v],A (List.toArray (List.set w (0+N l*1) (I Z d1)))]))))∨∃(e1:TypeId)(f1:Value),b1=T #[I Z d1,Value.iface e1 f1]/\(X base x c1->∃g1,RunsTo Tryz.prog (binRun BinOp.neq 263 (Operand.tmp 36) (Operand.const Value.nilIface) (Value.iface e1 f1) Value.nilIface) (B g1)/\(g1=true->K (T #[A w6,I Z 1]) [] c1)/\(¬g1=true->∃h1 i1,d=some (D h1 i1 none)/\0<=l/\l<(e:Int)/\∃j1,C c1 h1 (i1+N l*1)=some (Str j1)/\Y Tryz.prog 223 [I Z d1] c1 fun k1 l1=>∃m1,k1=Str m1/\(X base c1 l1->∃n1,RunsTo Tryz.prog (binRun BinOp.neq 9 (Operand.tmp 40) (Operand.tmp 44) (Str m1)
 (Str j1)) (B n1)/\(n1=true->K (T #[A w6,I Z 1]) [] l1)/\(¬n1=true->0<=l/\l<6/\0+N l*1+1<=List.length w/\∀o1:Int,(fun w2:LV=>o1=W Z (l+1)->List.length (List.set w (0+N l*1) (I Z d1))=6/\i w2 l1/\j w2<j w5) [I Z k,I Z o1,A #[I Z m,I Z n,I Z o,I Z p,B q,I Z r,S t u v],A (List.toArray (List.set w (0+N l*1) (I Z d1)))])))))/\(¬l<6->∃y z,d=some (D y z none)/\Int.ofNat 0<=6/\6<(e:Int)/\∃a1,C x y (z+6*1)=some (Str a1)/\Y Tryz.prog 227 [Str a1,Str (ByteArray.mk #[61])] x fun b1 c1=>∃d1 e1,b1=T #[Str d1,B e1]/\(X base x c1->∃f1:Prop,((e1=false->w4=w4/\SubH c1 c1/\f1)/\(¬e1=false->∃g1,List.get?Internal w (0+4*1)=some (I Z g1)/\(g1<0->w4=w4/\SubH c1 c1/\f1)/\(¬g1<0->∃h1,List.get?Internal w (0+4*1)=some (I Z h1)/\w4=w4/\SubH c1 c1/\(f1↔1<h1))))/\(f1->K (T #[A w6,I Z 1]) [] c1)/\(¬f1->Y Tryz.prog 228 [Str d1] c1 fun g1 h1=>∃i1 j1 k1 l1,g1=T #[S i1 j1 k1,I Z l1]/\(X base c1 h1->(¬l1=0->K (T #[A w6,I Z l1]) [] h1)/\(¬¬l1=0->∃m1,List.get?Internal w (0+0*1)=some (I Z m1)/\∃n1,List.get?Internal w (0+1*1)=some (I Z n1)/\∃o1,List.get?Internal w (0+2*1)=some (I Z o1)/\∃p1,List.get?Internal w (0+3*1)=some (I Z p1)/\∃q1,List.get?Internal w (0+4*1)=some (I Z q1)/\∃r1,(fun w3:AV=>List.get?Internal w (0+5*1)=some (I Z r1)/\∀s1:Nat,Y Tryz.prog 198 [A w3] h1 fun t1 u1=>∃v1,t1=I Z v1/\(X base h1 u1->(¬v1=0->K (T #[A w6,I Z v1]) [] u1)/\(¬¬v1=0->K (T #[A w3,I Z 0]) [] u1))) #[I Z m1,I Z n1,I Z o1,I Z p1,B (decide (q1=1)),I Z r1,S i1 j1 k1])))))) [J a false 126 [I Z m,I Z n,I Z o,I Z p,B q,I Z r,S t u v],J h false 261 w]) [I Z k,I Z l,A #[I Z m,I Z n,I Z o,I Z p,B q,I Z r,S t u v],A (List.toArray w)])))) #[I Z 0,I Z 0,I Z 0,I Z 0,B false,I Z 0,S none 0 0]):=by kernel_rfl
open Go Go.Proofs
open Go Go.Proofs
theorem vd61(a:O)(l c:Nat)(base:Nat)(H:Heap)(K:KT):
 (fV TryzMutsJ Tryz.f169 base H [.v (S a l c)] [] K)=(
 ∃b,RunsTo Tryz.prog (binRun BinOp.eql 33 (Operand.tmp 3) (Operand.const (S none 0 0)) (S a l c) (S none 0 0)) (B b)/\(b=true->K (S none 0 0) [] H)/\(¬b=true->∀(d:Nat)(e:Heap),X base H e->H d=none->e d=some (boxKB 5 [])->∃g h:List Value,Row base e 5 1 (some (D d 0 none)) 0 0 g/\List.length h=l*1/\allOne h=true/\(l=0∨∃i j,a=some (D i j none)/\cellsAt e i j 0 h)/\(0+l)*1<=140737488355328/\0+l<=9223372036854775807/\∀(i:O)(j:Nat)(k:Heap),Grew base e k (some (D d 0 none)) 0 i j (0+l)->Row base k 5 1 i (0+l) j (g++h)->K (S i (0+l) j) [] k)):=by kernel_rfl
theorem vd62(a:O)(l c:Nat)(base:Nat)(H:Heap)(K:KT):
 (fV TryzMutsJ Tryz.f80 base H [.v (S a l c)] [] K)=(
 ∃(b:LI)(d:LM),b [I Z 0,I Z 0] H/\∀(e g:Int)(h:Heap),X base H h->b [I Z e,I Z g] h->(g<(l:Int)->∃i j,a=some (D i j none)/\0<=g/\g<(l:Int)/\∃k m n,C h i (j+N g*1)=some (S k m n)/\∀o:Int,o=W Z (e+(m:Int))->(o<0->False)/\(¬o<0->∀p:Int,p=W Z (g+1)->b [I Z o,I Z p] h/\d [I Z o,I Z p]<d [I Z e,I Z g]))/\(¬g<(l:Int)->Y Tryz.prog 152 [S none 0 0,I Z e] h fun i j=>∃k m n,i=S k m n/\(X base h j->∃(o:LI)(p:LM),o [S k m n,I Z 0] j/\∀(q:O)(r s:Nat)(t:Int)(u:Heap),X base H u->o [S q r s,I Z t] u->(t<(l:Int)->∃v w,a=some (D v w none)/\0<=t/\t<(l:Int)/\∃x y z,C u v (w+N t*1)=some (S x y z)/\∃a1 b1:List Value,Row base u 5 1 q r s a1/\List.length b1=y*1/\allOne b1=true/\(y=0∨∃c1 d1,x=some (D c1 d1 none)/\cellsAt u c1 d1 0 b1)/\(r+y)*1<=140737488355328/\r+y<=9223372036854775807/\∀(c1:O)(d1:Nat)(e1:Heap),Grew base u e1 q s c1 d1 (r+y)->Row base e1 5 1 c1 (r+y) d1 (a1++b1)->∀f1:Int,f1=W Z (t+1)->o [S c1 (r+y) d1,I Z f1] e1/\p [S c1 (r+y) d1,I Z f1]<p [S q r s,I Z t])/\(¬t<(l:Int)->K (S q r s) [] u)))):=by kernel_rfl
theorem vd63(s:ByteArray)(most:Int)(base:Nat)(H:Heap)(K:KT):
 (fV TryzMutsJ Tryz.f143 base H [.v (.string s),.v (I Z most)] [] K)=(
 ∃(a:LI)(b:LM),a [Str s,S none 0 0,I Z 0,I Z 0,S none 0 0] H/\∀(c:ByteArray)(d:O)(e g:Nat)(h i:Int)(j:O)(k l:Nat)(m:Heap),X base H m->a [Str c,S d e g,I Z h,I Z i,S j k l] m->∃n,RunsTo Tryz.prog (binRun BinOp.neq 9 (Operand.tmp 16) (Operand.const (Str (ByteArray.mk #[]))) (Str c) (Str (ByteArray.mk #[]))) (B n)/\(n=true->Y Tryz.prog 195 [Str c,Str (ByteArray.mk #[10])] m fun o p=>∃q r t,o=T #[Str q,Str r,B t]/\(X base m p->(t=false->∀u:Int,u=W Z ((↑(ByteArray.size s):Int)-(↑(ByteArray.size c):Int))->K (T #[S j k l,I Z u,I Z 9]) [] p)/\(¬t=false->Y Tryz.prog 196 [Str q] p fun u v=>∃w x y z a1 b1 c1 d1 e1 f1,u=T #[A #[I Z w,I Z x,I Z y,I Z z,B a1,I Z b1,S c1 d1 e1],I Z f1]/\(X base p v->∀g1:Nat,(¬f1=0->∀h1:Int,h1=W Z ((↑(ByteArray.size s):Int)-(↑(ByteArray.size c):Int))->K (T #[S j k l,I Z h1,I Z f1]) [] v)/\(¬¬f1=0->((k:Int)=most->∀h1:Int,h1=W Z ((↑(ByteArray.size s):Int)-(↑(ByteArray.size c):Int))->K (T #[S j k l,I Z h1,I Z 2]) [] v)/\(¬(k:Int)=most->∀h1:Nat,∃i1:List Value,Row base v 126 7 j k l i1/\(k+1)*72<=140737488355328/\k+1<=9223372036854775807/\∀(j1:O)(k1:Nat)(l1:Heap),Grew base v l1 j l j1 k1 (k+1)->Row base l1 126 7 j1 (k+1) k1 (i1++[I Z w,I Z x,I Z y,I Z z,B a1,I Z b1,S c1 d1 e1])->a [Str r,S d e g,I Z h,I Z i,S j1 (k+1) k1] l1/\b [Str r,S d e g,I Z h,I Z i,S j1 (k+1) k1]<b [Str c,S d e g,I Z h,I Z i,S j k l]))))))/\(¬n=true->K (T #[S j k l,I Z (↑(ByteArray.size s):Int),I Z 0]) [] m)):=by kernel_rfl
theorem vd60(a a':O)(l c l' c':Nat)(base:Nat)(H:Heap)(K:KT):
 (fV TryzMutsJ Tryz.f142 base H [.v (A #[S a l c,S a' l' c'])] [] K)=(
 ∀b:Nat,(fun w1:LB=>∃d:Prop,((60000<(l:Int)->w1=w1/\SubH H H/\d)/\(¬60000<(l:Int)->∀e:Int,e=W Z (60000-(l:Int))->w1=w1/\SubH H H/\(d↔e<(l':Int))))/\(d->K (I Z 2) [] H)/\(¬d->∃e:List UInt8,List.length e=l/\(l=0∨∃g h,a=some (D g h none)/\cellsAt H g h 0 (u8s e))/\Y Tryz.prog 143 [Str (ByteArray.mk (List.toArray e)),I Z 200] H fun g h=>∃i j k m n,g=T #[S i j k,I Z m,I Z n]/\(X base H h->K (I Z n) [] h))) [J b false 35 [S a l c,S a' l' c']]):=by kernel_rfl
theorem vd32(a a':O)(l c l' c':Nat)(kd ag tr n id:Int)(gd:Bool)(ra:O)(rl rc:Nat)(base:Nat)(H:Heap)(K:KT):
 (fV TryzMutsJ Tryz.f243 base H [.v (A #[S a l c,S a' l' c']),.v (A #[I Z kd,I Z ag,I Z tr,I Z n,B gd,I Z id,S ra rl rc])] [] K)=(
 ∀b d e:Nat,Y Tryz.prog 142 [A #[S a l c,S a' l' c']] H fun g h=>∃i,g=I Z i/\(X base H h->(¬i=0->K (T #[A #[S none 0 0,S none 0 0],I Z i]) [] h)/\(¬¬i=0->Y Tryz.prog 265 [A #[I Z kd,I Z ag,I Z tr,I Z n,B gd,I Z id,S ra rl rc]] h fun j k=>∃m o,j=T #[Str m,I Z o]/\(X base h k->(¬o=0->K (T #[A #[S none 0 0,S none 0 0],I Z o]) [] k)/\(¬¬o=0->∀p:Int,p=W Z ((↑(ByteArray.size m):Int)+1)->∀q:Int,q=W Z (60000-(l:Int))->∀r:Int,r=W Z (q-(l':Int))->(r<p->K (T #[A #[S none 0 0,S none 0 0],I Z 2]) [] k)/\(¬r<p->(Y Tryz.prog 169 [S a l c] k fun s t=>∃u v w,s=S u v w/\(X base k t->(Y Tryz.prog 169 [S a' l' c'] t fun x y=>∃z a1 b1,x=S z a1 b1/\(X base t y->(∃c1:List Value,Row base y 5 1 z a1 b1 c1/\a1+ByteArray.size m<=140737488355328/\∀(d1:O)(e1:Nat)(f1:Heap),Grew base y f1 z b1 d1 e1 (a1+ByteArray.size m)->Row base f1 5 1 d1 (a1+ByteArray.size m) e1 (c1++u8s (Array.toList (ByteArray.data m)))->∀(g1:Nat)(h1:Heap),X base f1 h1->f1 g1=none->h1 g1=some (boxKB 5 [I IntKind.u8 10])->∃i1 j1:List Value,Row base h1 5 1 d1 (a1+ByteArray.size m) e1 i1/\List.length j1=1*1/\allOne j1=true/\(1=0∨∃k1 l1,some (D g1 0 none)=some (D k1 l1 none)/\cellsAt h1 k1 l1 0 j1)/\(a1+ByteArray.size m+1)*1<=140737488355328/\a1+ByteArray.size m+1<=9223372036854775807/\∀(k1:O)(l1:Nat)(m1:Heap),Grew base h1 m1 d1 e1 k1 l1 (a1+ByteArray.size m+1)->Row base m1 5 1 k1 (a1+ByteArray.size m+1) l1 (i1++j1)->K (T #[A #[S u v w,S k1 (a1+ByteArray.size m+1) l1],I Z 0]) [] m1)/\∀(c1:Nat)(d1:Heap),X base y d1->y c1=none->d1 c1=some (boxKB 5 [I IntKind.u8 10])->∃e1:List Value,Row base d1 5 1 z a1 b1 e1/\a1+ByteArray.size m<=140737488355328/\∀(f1:O)(g1:Nat)(h1:Heap),Grew base d1 h1 z b1 f1 g1 (a1+ByteArray.size m)->Row base h1 5 1 f1 (a1+ByteArray.size m) g1 (e1++u8s (Array.toList (ByteArray.data m)))->∃i1 j1:List Value,Row base h1 5 1 f1 (a1+ByteArray.size m) g1 i1/\List.length j1=1*1/\allOne j1=true/\(1=0∨∃k1 l1,some (D c1 0 none)=some
 (D k1 l1 none)/\cellsAt h1 k1 l1 0 j1)/\(a1+ByteArray.size m+1)*1<=140737488355328/\a1+ByteArray.size m+1<=9223372036854775807/\∀(k1:O)(l1:Nat)(m1:Heap),Grew base h1 m1 f1 g1 k1 l1 (a1+ByteArray.size m+1)->Row base m1 5 1 k1 (a1+ByteArray.size m+1) l1 (i1++j1)->K (T #[A #[S u v w,S k1 (a1+ByteArray.size m+1) l1],I Z 0]) [] m1))/\∀(x:Nat)(y:Heap),X base t y->t x=none->y x=some (boxKB 5 [I IntKind.u8 10])->Y Tryz.prog 169 [S a' l' c'] y fun z a1=>∃b1 c1 d1,z=S b1 c1 d1/\(X base y a1->∃e1:List Value,Row base a1 5 1 b1 c1 d1 e1/\c1+ByteArray.size m<=140737488355328/\∀(f1:O)(g1:Nat)(h1:Heap),Grew base a1 h1 b1 d1 f1 g1 (c1+ByteArray.size m)->Row base h1 5 1 f1 (c1+ByteArray.size m) g1 (e1++u8s (Array.toList (ByteArray.data m)))->∃i1 j1:List Value,Row base h1 5 1 f1 (c1+ByteArray.size m) g1 i1/\List.length j1=1*1/\allOne j1=true/\(1=0∨∃k1 l1,some (D x 0 none)=some (D k1 l1 none)/\cellsAt h1 k1 l1 0 j1)/\(c1+ByteArray.size m+1)*1<=140737488355328/\c1+ByteArray.size m+1<=9223372036854775807/\∀(k1:O)(l1:Nat)(m1:Heap),Grew base h1 m1 f1 g1 k1 l1 (c1+ByteArray.size m+1)->Row base m1 5 1 k1 (c1+ByteArray.size m+1) l1 (i1++j1)->K (T #[A #[S u v w,S k1 (c1+ByteArray.size m+1) l1],I Z 0]) [] m1)))/\∀(s:Nat)(t:Heap),X base k t->k s=none->t s=some (boxKB 5 [I IntKind.u8 10])->Y Tryz.prog 169 [S a l c] t fun u v=>∃w x y,u=S w x y/\(X base t v->Y Tryz.prog 169 [S a' l' c'] v fun z a1=>∃b1 c1 d1,z=S b1 c1 d1/\(X base v a1->∃e1:List Value,Row base a1 5 1 b1 c1 d1 e1/\c1+ByteArray.size m<=140737488355328/\∀(f1:O)(g1:Nat)(h1:Heap),Grew base a1 h1 b1 d1 f1 g1 (c1+ByteArray.size m)->Row base h1 5 1 f1 (c1+ByteArray.size m) g1 (e1++u8s (Array.toList (ByteArray.data m)))->∃i1 j1:List Value,Row base h1 5 1 f1 (c1+ByteArray.size m) g1 i1/\List.length j1=1*1/\allOne j1=true/\(1=0∨∃k1 l1,some (D s 0 none)=some (D k1 l1 none)/\cellsAt h1 k1 l1 0 j1)/\(c1+ByteArray.size m+1)*1<=140737488355328/\c1+
 ByteArray.size m+1<=9223372036854775807/\∀(k1:O)(l1:Nat)(m1:Heap),Grew base h1 m1 f1 g1 k1 l1 (c1+ByteArray.size m+1)->Row base m1 5 1 k1 (c1+ByteArray.size m+1) l1 (i1++j1)->K (T #[A #[S w x y,S k1 (c1+ByteArray.size m+1) l1],I Z 0]) [] m1)))))))):=by kernel_rfl
theorem vd33(a a':O)(l c l' c':Nat)(base:Nat)(H:Heap)(K:KT):
 (fV TryzMutsJ Tryz.f244 base H [.v (A #[S a l c,S a' l' c'])] [] K)=(
 ∀b d:Nat,Y Tryz.prog 142 [A #[S a l c,S a' l' c']] H fun e g=>∃h,e=I Z h/\(X base H g->(¬h=0->K (T #[A #[S none 0 0,S none 0 0],I Z h]) [] g)/\(¬¬h=0->∀(i:Nat)(j:Heap),X base g j->g i=none->j i=some (boxKB 33 [S a l c,S a' l' c'])->Y Tryz.prog 80 [S (some (D i 0 none)) 2 2] j fun k m=>∃n o p,k=S n o p/\(X base j m->∀q:Nat,Y Tryz.prog 142 [A #[S n o p,S none 0 0]] m fun r s=>∃t,r=I Z t/\(X base m s->(¬t=0->K (T #[A #[S none 0 0,S none 0 0],I Z t]) [] s)/\(¬¬t=0->K (T #[A #[S n o p,S none 0 0],I Z 0]) [] s)))))):=by kernel_rfl
theorem vd36(a a':O)(l c l' c':Nat)(base:Nat)(H:Heap)(K:KT):
 (fV TryzMutsJ Tryz.f64 base H [.v (A #[S a l c,S a' l' c'])] [] K)=(
 ∀b d:Nat,Y Tryz.prog 142 [A #[S a l c,S a' l' c']] H fun e g=>∃h,e=I Z h/\(X base H g->(¬h=0->K (T #[A #[S none 0 0,S none 0 0],S none 0 0,I Z h]) [] g)/\(¬¬h=0->∃i:List UInt8,List.length i=l/\(l=0∨∃j k,a=some (D j k none)/\cellsAt g j k 0 (u8s i))/\Y Tryz.prog 143 [Str (ByteArray.mk (List.toArray i)),I Z 200] g fun j k=>∃m n o p q,j=T #[S m n o,I Z p,I Z q]/\(X base g k->∃r:List UInt8,List.length r=l'/\(l'=0∨∃s t,a'=some (D s t none)/\cellsAt k s t 0 (u8s r))/\∀s:Int,s=W Z (200-(n:Int))->Y Tryz.prog 143 [Str (ByteArray.mk (List.toArray r)),I Z s] k fun t u=>∃v w x y z,t=T #[S v w x,I Z y,I Z z]/\(X base k u->0<=y/\y<=(c':Int)/\∀(a1:Nat)(b1:Heap),X base u b1->u a1=none->b1 a1=some (boxKB 33 [S a l c,S a' (N y) c'])->Y Tryz.prog 80 [S (some (D a1 0 none)) 2 2] b1 fun c1 d1=>∃e1 f1 g1,c1=S e1 f1 g1/\(X base b1 d1->∃h1 i1:List Value,Row base d1 126 7 m n o h1/\List.length i1=w*7/\allOne i1=true/\(w=0∨∃j1 k1,v=some (D j1 k1 none)/\cellsAt d1 j1 k1 0 i1)/\(n+w)*72<=140737488355328/\n+w<=9223372036854775807/\∀(j1:O)(k1:Nat)(l1:Heap),Grew base d1 l1 m o j1 k1 (n+w)->Row base l1 126 7 j1 (n+w) k1 (h1++i1)->K (T #[A #[S e1 f1 g1,S none 0 0],S j1 (n+w) k1,I Z 0]) [] l1)))))):=by kernel_rfl
theorem vd79(a:O)(l c:Nat)(k:Int)(base:Nat)(H:Heap)(K:KT):
 (fV TryzMutsJ Tryz.f152 base H [.v (S a l c),.v (I Z k)] [] K)=(
 (k<0->False)/\(¬k<0->∀b:Int,b=W Z ((c:Int)-(l:Int))->∀d:Int,d=W Z (k-b)->(0<d->0<=(c:Int)/\(c:Int)<=(c:Int)/\∃(e:List Value)(g:Nat),d=(g:Int)/\0<g/\c<N (c:Int)+g/\Row base H 5 1 a (N (c:Int)) c e/\(N (c:Int)+g)*1<=140737488355328/\N (c:Int)+g<=9223372036854775807/\∀(h i:Nat)(j:Heap),X base H j->H h=none->Row base j 5 1 (some (D h 0 none)) (N (c:Int)+g) i (e++List.flatten (List.replicate g [I IntKind.u8 0]))->0<=(l:Int)/\(l:Int)<=(i:Int)/\K (S (some (D h 0 none)) (N (l:Int)) i) [] j)/\(¬0<d->K (S a l c) [] H))):=by kernel_rfl
open Go Go.Proofs
open Go Go.Proofs
theorem beq_bytes(a b:List UInt8):(a==b)=decide (a=b):=by by_cases h:a=b<;>simp[h]
theorem eqS{xo yo:Operand}{s t:ByteArray} :RunsTo Tryz.prog (binRun .eql 9 xo yo (.string s) (.string t)) (.bool (decide (s.data.toList=t.data.toList))):=by
 have:=eqStr (xo:=xo) (yo:=yo) (s:=s) (t:=t)
 rw[ByteArray.toList_eq,ByteArray.toList_eq,beq_bytes] at this
 exact this
theorem neS{xo yo:Operand}{s t:ByteArray} :RunsTo Tryz.prog (binRun .neq 9 xo yo (.string s) (.string t)) (.bool (decide (¬s.data.toList=t.data.toList))):=by
 intro w
 have hg:(eqGuard .neq 9 xo yo (.string s) (.string t)).run Tryz.prog w= .ok () w:=by simp[eqGuard]
 simp only[binRun,Sem.run_bind,hg,Result.andThen_ok]
 have:=run_equalIn_string (P:= Tryz.prog) w 9999 9 s t Tryz.underlying9
 have e:(s.toList==t.toList)=decide (s.data.toList=t.data.toList):=by rw[ByteArray.toList_eq,ByteArray.toList_eq,beq_bytes]
 simp[binOp,Op.equal,this,Op.stringOp,e]
theorem eqNilE{xo:Operand} :RunsTo Tryz.prog (binRun .eql 263 xo (.const .nilIface) .nilIface .nilIface) (.bool true):=by
 intro w
 have hu:=run_underlying Tryz.underlying263
 have hg:(eqGuard .eql 263 xo (.const .nilIface) .nilIface .nilIface).run Tryz.prog w= .ok () w:=by simp[eqGuard]
 have he:(Op.equalIn (9999+1) 263 .nilIface .nilIface).run Tryz.prog w= .ok true w:=by
  rw[Op.equalIn]
  simp only[Sem.run_bind,hu,Result.andThen_ok]
  rfl
 simp only[binRun,Sem.run_bind,hg,Result.andThen_ok]
 simp[binOp,Op.equal,show Op.maxDepth=9999+1 from rfl,he]
theorem eqIfaceE{xo:Operand}{t:TypeId}{p:Value} :RunsTo Tryz.prog (binRun .eql 263 xo (.const .nilIface) (.iface t p) .nilIface) (.bool false):=by
 intro w
 have hu:=run_underlying Tryz.underlying263
 have hg:(eqGuard .eql 263 xo (.const .nilIface) (.iface t p) .nilIface).run Tryz.prog w= .ok () w:=by simp[eqGuard]
 have he:(Op.equalIn (9999+1) 263 (.iface t p) .nilIface).run Tryz.prog w= .ok false w:=by
  rw[Op.equalIn]
  simp only[Sem.run_bind,hu,Result.andThen_ok]
  rfl
 simp only[binRun,Sem.run_bind,hg,Result.andThen_ok]
 simp[binOp,Op.equal,show Op.maxDepth=9999+1 from rfl,he]
theorem box_cells{H:Heap}{g:Nat}{e:TypeId}{cs:List Value}(h:H g=some (boxKB e cs)):Vg.cellsAt H g 0 0 cs:=
 cellsAt_of _ 0 fun j v hj=>by unfold Heap.cell;rw[h];simpa[boxKB] using hj
section
variable {H : Heap} (hL : Lb H)
include hL
theorem cNumber{s:ByteArray}(hs:s.size<=281474976710656):Spec Tryz.prog 251 [.string s] H fun v _=>∃(n:Int)(b:Bool),v= .tuple #[.int .i64 n,.bool b]/\(b=true->num s.data.toList=some n)/\(b=false->num s.data.toList=none):=by
 refine Tryzvc Tryz.func251 (by kernel_rfl) (by kernel_rfl) _ rfl (fun base K=>vd44 s base H K) fun base hb=> ?_
 refine(l_atoi hL hs).spec.mono fun v H1 e1 hv=> ?_
 obtain⟨⟨n,e,rfl,h⟩,_⟩:=hv
 rcases h with⟨hok,rfl⟩|⟨hno,t,p,rfl⟩
 ·have hbd:=Lib.atoiAll_bounds hok
  refine⟨n,.inl ⟨rfl,fun hN=>⟨true,eqNilE,fun _=>(l_itoa (hL.ext e1) hbd.1 hbd.2).str1 fun H2 e2 hN2=>⟨_,eqS,n,_,rfl,fun h=> ?_,fun h=> ?_⟩,fun h=>absurd rfl h⟩⟩⟩
  ·simp at h
   rw[num,hok];simp[h]
  ·simp at h
   rw[num,hok];simp[h]
 ·refine⟨n,.inr ⟨t,p,rfl,fun hN=>⟨false,eqIfaceE,fun h=>(by cases h),fun _=>⟨n,false,rfl,fun h=>(by cases h),fun _=> ?_⟩⟩⟩⟩
  unfold num
  split
  ·rename_i v hv;exact absurd hv (hno v)
  ·rfl
end
open Go Go.Proofs
theorem cuts_len(c:UInt8):∀s:List UInt8,(cuts c s).length<=s.length+1
 | []=>by simp[cuts]
 |b::r=>by
  have ih:=cuts_len c r
  have:=cuts_ne c r
  have hp:0<(cuts c r).length:=List.length_pos_iff.2 this
  unfold cuts
  split
  ·simp;omega
  ·simp;omega
theorem mem_cuts_len{c:UInt8}{s w:List UInt8}(h:w∈cuts c s):w.length<=s.length:=by
 have hj:=joinB_cuts c s
 have key:∀(ws:List (List UInt8)),w∈ws->w.length<=(joinB c ws).length:=by
  intro ws hw
  cases ws with
  |nil=>cases hw
  |cons x r=>
   unfold joinB
   rcases List.mem_cons.1 hw with rfl|hw
   ·simp
   ·obtain⟨i,hi⟩:=List.getElem?_of_mem hw
    have:(c::w).length<=(r.flatMap fun y=>c::y).length:=by
     clear hi i h hj
     induction r with
     |nil=>cases hw
     |cons y t ih=>
      simp only[List.flatMap_cons,List.length_append]
      rcases List.mem_cons.1 hw with rfl|hw
      ·omega
      ·have:=ih (by simp[hw]) hw;omega
    simp only[List.length_append];simp at this⊢;omega
 rw[←hj];exact key _ h
theorem readPins_cons{w:List UInt8}{ws:List (List UInt8)}{p:Pin}(h:readPin w=some p):readPins (w::ws)=(readPins ws).map (p:: ·):=by rw[readPins,h]
theorem readPins_bad{w:List UInt8}{ws:List (List UInt8)}(h:readPin w=none):readPins (w::ws)=none:=by rw[readPins,h]
theorem lockRead_none{s:List UInt8}(h:readWords s=none):lockRead s= .error 1:=by rw[lockRead,h]
theorem lockRead_some{s:List UInt8}{l:List Pin}(h:readWords s=some l):lockRead s=if lockCheck l=0 then .ok l else .error (lockCheck l):=by rw[lockRead,h]
theorem data_mk(l:List UInt8):(⟨l.toArray⟩:ByteArray).data.toList=l:=rfl
theorem size_mk(l:List UInt8):(⟨l.toArray⟩:ByteArray).size=l.length:=rfl
theorem size_data(s:ByteArray):s.size=s.data.toList.length:=by simp
def Apart(H1:Heap)(a:O)(c:Nat):Prop:=c≠0->∀x k,H1 x=some k->a≠some ⟨x,0,none⟩
theorem Apart.none{H1:Heap}{a:O} :Apart H1 a 0:=fun h=>absurd rfl h
theorem Apart.grew{base:Nat}{H1 H H':Heap}{a a':O}{c c' nn:Nat}(h:Apart H1 a c)(e:Ext H1 H)(hg:Grew base H H' a c a' c' nn):Ext H1 H'/\Apart H1 a' c':=by
 refine⟨fun x k hx=>hg.keep x k (e x k hx) ?_,fun hc' x k hx ha'=> ?_⟩
 ·by_cases hc:c=0
  ·exact .inl hc
  ·exact .inr (h hc x k hx)
 ·rcases hg.place hc' x ha' with hn|⟨he,hc⟩
  ·rw[e x k hx] at hn;cases hn
  ·rw[he] at ha';exact h hc x k hx ha'
section
variable {H : Heap} (hL : Lb H)
include hL
theorem cLockPrint{a:O}{l c:Nat}{xs:List Pin}(hp:Pins H a l xs):Spec Tryz.prog 284 [.slice a l c] H fun v _=>v= .tuple #[str (if lockCheck xs=0 then lockText xs else []),i64 (lockCheck xs)]:=by
 refine TryzvcJ Tryz.func284 (by kernel_rfl) (by kernel_rfl) _ rfl (fun base K=>vd8 a l c base H K) fun base hb=> ?_
 have hl:=hp.len
 refine(cLockCheck hp).int1 fun H1 e1 hN1=>⟨fun h=> ?_,fun h=> ?_⟩
 ·rw[if_neg h];rfl
 have hz:=Decidable.not_not.1 h
 rw[if_pos hz,hz]
 have hlk:=(lockCheck_zero.1 hz).2
 refine⟨fun vs H'=>∃(a3:O)(c3 m:Nat),vs=[.slice a3 m c3,i64 m]/\m<=l/\Row base H' 9 1 a3 m c3 ((xs.take m).flatMap fun p=>[str (wordOf p)]),upTo l 1,⟨none,0,0,rfl,by omega,Row.nil⟩,fun a3 n3 c3 n H2 hN2 hI=> ?_⟩
 obtain⟨a3',c3',m,hvs,hm,hR⟩:=hI
 obtain⟨⟨rfl,rfl,rfl⟩,rfl⟩:(a3=a3'/\n3=m/\c3=c3')/\n=(m:Int):=by simpa using hvs
 refine⟨fun hlt=>hp.pin hN2.ext (by omega) hlt fun p hpp=> ?_,fun hge=> ?_⟩
 ·rw[Int.toNat_natCast] at hpp
  have hr:=pin_range hz (List.mem_of_getElem? hpp)
  have hi1:=itoa_short (n:=p.name) (by omega) (by omega)
  have hi2:=itoa_short (n:=p.ver) (by omega) (by omega)
  intro _
  refine(l_itoa (hL.ext hN2.ext) (by omega) (by omega)).str1 fun H3 e3 hN3=>⟨_,runs_add rfl (by simp only[List.length_append,List.length_cons,List.length_nil];omega),?_⟩
  refine(l_itoa (hL.ext (Ext.trans hN2.ext e3)) (by omega) (by omega)).str1 fun H4 e4 hN4=>⟨_,runs_add (c:=wordOf p) (by simp[wordOf]) (by simp only[List.length_append,List.length_cons,List.length_nil];omega),fun g H5 hN5 hg hH5=> ?_⟩
  refine⟨_,_,hR.ext (Ext.trans e3 (Ext.trans e4 hN5.ext)),rfl,rfl,.inr ⟨g,0,rfl,box_cells hH5⟩,by omega,by omega,fun a6 c6 H6 hG6 hR6=> ?_⟩
  rintro r rfl
  rw[wrap_in (by omega) (by omega)]
  refine⟨⟨a6,c6,n3+1,rfl,by omega,?_⟩,by simp[upTo];omega⟩
  rw[take_at hpp,List.flatMap_append]
  exact hR6
 ·obtain rfl:n3=l:=by omega
  rw[List.take_of_length_le (by omega)] at hR
  have hS:Sl RStr 1 H2 a3 n3 (xs.map wordOf):=by
   have hR':Row base H2 9 1 a3 n3 c3 ((xs.map wordOf).flatMap fun w=>[str w]):=by rw[List.flatMap_map];exact hR
   exact sl_of_rowE (enc:=fun w=>[str w]) (sz:=1) (fun _=>rfl) (by omega) hR'
  have hjl:(joinB 44 (xs.map wordOf)).length<=72:=lockText_len hz
  exact(l_join (b:=44) hS hR.2.1 (by omega) (by omega)).str1 fun H3 e3 hN3=>rfl
theorem cLockParse{s:ByteArray} :Spec Tryz.prog 228 [.string s] H fun v H'=>∃a n c,v= .tuple #[.slice a n c,i64 (if 60000<s.size then 2 else errOf (lockRead s.data.toList))]/\Fresh H H' 91 2 a n c ((if 60000<s.size then [] else okL (lockRead s.data.toList)).flatMap pinCells):=by
 refine TryzvcJ Tryz.func228 (by kernel_rfl) (by kernel_rfl) _ rfl (fun base K=>vd11 s base H K) fun base hb=> ?_
 refine⟨fun h=> ?_,fun h=> ?_⟩
 ·rw[if_pos (by omega),if_pos (by omega)];exact⟨none,0,0,rfl,Fresh.zero⟩
 rw[if_neg (by omega),if_neg (by omega)]
 have hsz:s.data.toList.length<=60000:=by rw[←size_data];omega
 refine⟨_,eqS,fun h0=> ?_,fun h0=> ?_⟩
 ·have h0:s.data.toList=[]:=by simpa using h0
  rw[h0];exact⟨none,0,0,rfl,Fresh.zero⟩
 have hne:s.data.toList≠[]:=by simpa using h0
 have hW:readWords s.data.toList=readPins (cuts 44 s.data.toList):=by rw[readWords,if_neg hne]
 generalize hws:cuts 44 s.data.toList=ws at hW
 have hwl:ws.length<=60001:=by have:=cuts_len 44 s.data.toList;rw[hws] at this;omega
 have hwm:∀w∈ws,w.length<=60000:=fun w hw=>by rw[←hws] at hw;have:=mem_cuts_len hw;omega
 refine(l_split hL (s:=s) (c:=44) (by omega)).mono fun v H1 e1 hv=> ?_
 obtain⟨g,N,hv,hS⟩:=hv
 rw[hws] at hS
 have hNl:=hS.len
 refine⟨_,_,_,hv,fun hN1=> ?_⟩
 refine⟨fun vs H'=>∃(a2:O)(n2 c2:Nat)(k:Int)(a3:O)(c3 m:Nat)(ps:List Pin),vs=[.slice a2 n2 c2,i64 k,.slice a3 m c3,i64 m]/\m<=N/\Row base H' 91 2 a3 m c3 (ps.flatMap pinCells)/\Ext H1 H'/\Apart H1 a3 c3/\
  readPins ws=(readPins (ws.drop m)).map (ps++ ·),upTo N 3,⟨none,0,0,0,none,0,0,[],rfl,by omega,Row.nil,Ext.refl _,Apart.none,by simp⟩,fun a2 n2 c2 k a3 n3 c3 n H2 hN2 hI=> ?_⟩
 obtain⟨a2',n2',c2',k',a3',c3',m,ps,hvs,hm,hR,hE,hA,hI⟩:=hI
 obtain⟨⟨rfl,rfl,rfl⟩,rfl,⟨rfl,rfl,rfl⟩,rfl⟩:(a2=a2'/\n2=n2'/\c2=c2')/\k=k'/\(a3=a3'/\n3=m/\c3=c3')/\n=(m:Int):=by simpa using hvs
 refine⟨fun hlt=>hS.str hE (by omega) hlt fun w hw=> ?_,fun hge=> ?_⟩
 ·rw[Int.toNat_natCast] at hw
  have hwz:=hwm w (List.mem_of_getElem? hw)
  rw[drop_at hw] at hI
  refine(l_cut (hL.ext hN2.ext) (s:=⟨w.toArray⟩) (sep:=⟨#[64]⟩) (by rw[size_mk];omega)).cut3 fun H3 e3 hN3=> ?_
  rw[data_mk,show(⟨#[64]⟩:ByteArray).data.toList=[64] from rfl]
  generalize hcut:Lib.cut w [64]=x
  have hxl:x.1.length<=60000/\x.2.1.length<=60000:=by
   rcases cut_cases 64 w with⟨_,e⟩|⟨u,t,rfl,_,e⟩
   ·rw[e] at hcut;subst hcut;exact⟨hwz,by simp⟩
   ·rw[e] at hcut;subst hcut;simp at hwz;exact⟨by simp;omega,by simp;omega⟩
  refine(cNumber (hL.ext (Ext.trans hN2.ext e3)) (s:=⟨x.1.toArray⟩) (by rw[size_mk];omega)).mono fun v H4 e4 hv4=> ?_
  obtain⟨n4,b4,hv4,ht4,hf4⟩:=hv4
  refine⟨n4,b4,hv4,fun hN4=> ?_⟩
  refine(cNumber (hL.ext (Ext.trans hN2.ext (Ext.trans e3 e4))) (s:=⟨x.2.1.toArray⟩) (by rw[size_mk];omega)).mono fun v H5 e5 hv5=> ?_
  obtain⟨n5,b5,hv5,ht5,hf5⟩:=hv5
  rw[data_mk] at ht4 hf4 ht5 hf5
  refine⟨n5,b5,hv5,fun hN5=> ?_⟩
  have hrd:readPin w=if x.2.2=true then(match num x.1,num x.2.1 with|some n,some v=>some ⟨n,v⟩|_,_=>none) else none:=by unfold readPin;rw[hcut];rfl
  refine⟨readPin w=none,⟨fun h1=>⟨fun _ _ h=>h,?_⟩,fun h1=>⟨fun h2=>⟨fun _ _ h=>h,?_⟩,fun h2=>⟨fun _ _ h=>h,?_⟩⟩⟩,fun hφ=> ?_,fun hφ=> ?_⟩
  ·rw[hrd,if_neg (by rw[h1];decide)]
  ·rw[hrd,hf4 h2];split<;>rfl
  ·have h1':x.2.2=true:=by simpa using h1
   have h2':b4=true:=by simpa using h2
   rw[hrd,if_pos h1',ht4 h2']
   cases hb5:b5 with
   |true=>rw[ht5 hb5];simp
   |false=>rw[hf5 hb5];simp
  ·rw[readPins_bad hφ,Option.map_none] at hI
   rw[lockRead_none (hW.trans hI)]
   exact⟨none,0,0,rfl,Fresh.zero⟩
  ·have hpin:readPin w=some ⟨n4,n5⟩:=by
    rw[hrd] at hφ⊢
    by_cases hx:x.2.2=true
    ·rw[if_pos hx] at hφ⊢
     cases hb4:b4 with
     |false=>rw[hf4 hb4] at hφ;exact absurd rfl hφ
     |true=>
      cases hb5:b5 with
      |false=>rw[ht4 hb4,hf5 hb5] at hφ;exact absurd rfl hφ
      |true=>rw[ht4 hb4,ht5 hb5]
    ·rw[if_neg hx] at hφ;exact absurd rfl hφ
   rw[readPins_cons hpin] at hI
   intro _
   refine⟨_,hR.ext (Ext.trans e3 (Ext.trans e4 e5)),by omega,by omega,fun a6 c6 H6 hG6 hR6=> ?_⟩
   rintro r rfl
   rw[wrap_in (by omega) (by omega)]
   obtain⟨hE6,hA6⟩:=hA.grew (Ext.trans hE (Ext.trans e3 (Ext.trans e4 e5))) hG6
   exact⟨⟨a2,n2,c2,k,a6,c6,n3+1,ps++[⟨n4,n5⟩],rfl,by omega,by rw[List.flatMap_append];exact hR6,hE6,hA6,by rw[hI];cases readPins (ws.drop (n3+1))<;>simp⟩,by simp[upTo];omega⟩
 ·have hmN:n3=N:=by omega
  subst hmN
  rw[List.drop_of_length_le (by omega),readPins,Option.map_some,List.append_nil] at hI
  rw[lockRead_some (hW.trans hI)]
  refine(cLockCheck (pins_of_row hR)).int1 fun H3 e3 hN3=>⟨fun h=> ?_,fun h=> ?_⟩
  ·rw[if_neg h];exact⟨none,0,0,rfl,Fresh.zero⟩
  ·have h:=Decidable.not_not.1 h
   rw[if_pos h]
   exact⟨a3,n3,c3,rfl,(hR.ext e3).fresh hb⟩
end
open Go Go.Proofs
theorem errOf_zero{s:List UInt8}(h:errOf (lockRead s)=0):∃l,lockRead s= .ok l:=by
 cases hr:lockRead s with
 |ok l=>exact⟨l,rfl⟩
 |error e=>rw[hr] at h;exact absurd h (lockRead_err hr)
open Go Go.Proofs
theorem subH{H:Heap} :SubH H H:=fun _ _ h=>h
def numText(l:List Int):List UInt8:=l.flatMap fun n=>Lib.itoa n++[32]
theorem numText_snoc{l:List Int}{n:Int} :numText (l++[n])=numText l++(Lib.itoa n++[32]):=by simp[numText]
theorem numText_len:∀ {l:List Int},(∀n∈l,0<=n/\n<=200)->(numText l).length<=l.length*4
 | [],_=>by simp[numText]
 |n::r,h=>by
  have h1:=h n (by simp)
  have h2:=itoa_short3 (n:=n) h1.1 (by omega)
  have h3:=numText_len (l:=r) fun m hm=>h m (by simp[hm])
  have e:numText (n::r)=(Lib.itoa n++[32])++numText r:=rfl
  rw[e]
  simp only[List.length_append,List.length_cons,List.length_nil,Nat.succ_mul]
  omega
theorem recText_eq(r:Recd):recText r=numText (recNums r)++61::lockText r.rel.lock:=rfl
section
variable {H : Heap} (hL : Lb H)
include hL
theorem cNotePrint{a:O}{l c:Nat}{r:Recd}(hp:Pins H a l r.rel.lock):Spec Tryz.prog 265 [recArg r a l c] H fun v _=>v= .tuple #[str (if recErr r=0 then recText r else []),i64 (recErr r)]:=by
 obtain⟨kd,ag,tr,n,gd,⟨id,lock⟩⟩:=r
 have hp:Pins H a l lock:=hp
 refine TryzvcJ Tryz.func265 (by kernel_rfl) (by kernel_rfl) _ rfl (fun base K=>vd18 kd ag tr n id gd a l c base H K) fun base hb=> ?_
 intro _
 refine(cRecCheck (r:=⟨kd,ag,tr,n,gd,⟨id,lock⟩⟩) hp).int1 fun H1 e1 hN1=>⟨fun h=> ?_,fun h=> ?_⟩
 ·rw[if_neg h];rfl
 have hz:=Decidable.not_not.1 h
 rw[if_pos hz,hz]
 have hnn:=recErr_nums hz
 have hlk:=recErr_lock hz
 cases gd with
 |true=>
  refine⟨fun _=> ?_,fun h=>(by cases h)⟩
  intro b
  generalize hrn:recNums ⟨kd,ag,tr,n,true,⟨id,lock⟩⟩=ns at hnn
  have hnl:ns.length=6:=by rw[←hrn];rfl
  have hget:∀(m:Nat)(x:Int),ns[m]?=some x->([.int .i64 kd,.int .i64 ag,.int .i64 tr,.int .i64 n,.int .i64 1,.int .i64 id]:List Value)[m]?=some (.int .i64 x):=fun m x hx=>by
   have e:([.int .i64 kd,.int .i64 ag,.int .i64 tr,.int .i64 n,.int .i64 1,.int .i64 id]:List Value)=ns.map i64:=by rw[←hrn];rfl
   rw[e,List.getElem?_map,hx];rfl
  refine⟨fun vs H'=>∃(m:Nat)(p:O)(a3:O)(c3:Nat),vs=[i64 m,.agg #[.pointer p,.slice a3 (numText (ns.take m)).length c3]]/\m<=6/\(p=none∨p=some ⟨b,0,none⟩)/\Row base H' 5 1 a3 (numText (ns.take m)).length c3 (u8s (numText (ns.take m))),upTo 6 0,
   ⟨0,none,none,0,rfl,by omega,.inl rfl,Row.nil⟩,fun n2 v a3 n3 c3 H2 hN2 hI=> ?_⟩
  obtain⟨m,p,a3',c3',hvs,hm,hpp,hR⟩:=hI
  obtain⟨rfl,rfl,rfl,rfl,rfl⟩:n2=(m:Int)/\v= .pointer p/\a3=a3'/\n3=(numText (ns.take m)).length/\c3=c3':=by simpa using hvs
  have hlen:=numText_len (l:=ns.take m) fun x hx=>hnn x (List.mem_of_mem_take hx)
  have htl:(ns.take m).length<=6:=by rw[List.length_take];omega
  refine⟨fun hlt=>⟨by omega,hlt,?_⟩,fun hge=> ?_⟩
  ·have hmn:m<ns.length:=by omega
   have hx:ns[m]?=some ns[m]:=List.getElem?_eq_getElem hmn
   generalize ns[m]=x at hx
   have hxr:=hnn x (List.mem_of_getElem? hx)
   have hxl:=itoa_short3 (n:=x) hxr.1 (by omega)
   refine⟨x,by rw[Int.toNat_natCast,Nat.mul_one];exact hget m x hx,(l_itoa (hL.ext hN2.ext) (by omega) (by omega)).str1 fun H3 e3 hN3=>⟨_,runs_add rfl (by simp only[List.length_cons,List.length_nil];omega),?_⟩⟩
   refine(cCopyCheck (v:= .slice a3 (numText (ns.take m)).length c3) hpp).mono fun r css H4 e4 hq=> ?_
   obtain⟨rfl,rfl,rfl⟩:=hq
   refine⟨rfl,_,_,_,_,rfl,fun hN4=>⟨_,hR.ext e3,by rw[size_mk];simp only[List.length_append,List.length_cons,List.length_nil];omega,fun a6 c6 H6 hG6 hR6=> ?_⟩⟩
   rintro r rfl
   rw[wrap_in (by omega) (by omega)]
   have e6:numText (ns.take (m+1))=numText (ns.take m)++(Lib.itoa x++[32]):=by rw[take_at hx,numText_snoc]
   have e7:(numText (ns.take (m+1))).length=(numText (ns.take m)).length+(⟨(Lib.itoa x++[32]).toArray⟩:ByteArray).size:=by rw[e6,List.length_append];rfl
   refine⟨rfl,⟨m+1,some ⟨b,0,none⟩,a6,c6,by rw[e7];rfl,by omega,.inr rfl,?_⟩,by simp[upTo];omega⟩
   rw[e7,e6]
   have e8:u8s (numText (ns.take m)++(Lib.itoa x++[32]))=u8s (numText (ns.take m))++u8s (⟨(Lib.itoa x++[32]).toArray⟩:ByteArray).data.toList:=by rw[data_mk];simp[u8s]
   rw[e8]
   exact hR6
  ·obtain rfl:m=6:=by omega
   rw[List.take_of_length_le (by omega)] at hlen hR⊢
   have hll:(lockText lock).length<=72:=lockText_len hlk
   refine(cLockPrint (hL.ext hN2.ext) (hp.ext' hN2.ext)).strE fun H3 e3 hN3=>⟨rfl,?_,numText ns,hR.ext e3,fun H4 _ _=> ?_⟩
   ·have:numText ns≠[]:=by
     intro e
     cases ns with
     |nil=>simp at hnl
     |cons x t=>unfold numText at e;simp at e
    exact List.length_pos_iff.2 this
   ·rw[if_pos hlk,hlk]
    exact⟨_,runs_add rfl (by simp only[List.length_cons,List.length_nil];omega),_,runs_add (c:=recText ⟨kd,ag,tr,n,true,⟨id,lock⟩⟩) (by rw[recText_eq,hrn];simp) (by simp only[List.length_append,List.length_cons,List.length_nil];omega),rfl⟩
 |false=>
  refine⟨fun h=>(by cases h),fun _=> ?_⟩
  intro b
  generalize hrn:recNums ⟨kd,ag,tr,n,false,⟨id,lock⟩⟩=ns at hnn
  have hnl:ns.length=6:=by rw[←hrn];rfl
  have hget:∀(m:Nat)(x:Int),ns[m]?=some x->([.int .i64 kd,.int .i64 ag,.int .i64 tr,.int .i64 n,.int .i64 0,.int .i64 id]:List Value)[m]?=some (.int .i64 x):=fun m x hx=>by
   have e:([.int .i64 kd,.int .i64 ag,.int .i64 tr,.int .i64 n,.int .i64 0,.int .i64 id]:List Value)=ns.map i64:=by rw[←hrn];rfl
   rw[e,List.getElem?_map,hx];rfl
  refine⟨fun vs H'=>∃(m:Nat)(p:O)(a3:O)(c3:Nat),vs=[i64 m,.agg #[.pointer p,.slice a3 (numText (ns.take m)).length c3]]/\m<=6/\(p=none∨p=some ⟨b,0,none⟩)/\Row base H' 5 1 a3 (numText (ns.take m)).length c3 (u8s (numText (ns.take m))),upTo 6 0,
   ⟨0,none,none,0,rfl,by omega,.inl rfl,Row.nil⟩,fun n2 v a3 n3 c3 H2 hN2 hI=> ?_⟩
  obtain⟨m,p,a3',c3',hvs,hm,hpp,hR⟩:=hI
  obtain⟨rfl,rfl,rfl,rfl,rfl⟩:n2=(m:Int)/\v= .pointer p/\a3=a3'/\n3=(numText (ns.take m)).length/\c3=c3':=by simpa using hvs
  have hlen:=numText_len (l:=ns.take m) fun x hx=>hnn x (List.mem_of_mem_take hx)
  have htl:(ns.take m).length<=6:=by rw[List.length_take];omega
  refine⟨fun hlt=>⟨by omega,hlt,?_⟩,fun hge=> ?_⟩
  ·have hmn:m<ns.length:=by omega
   have hx:ns[m]?=some ns[m]:=List.getElem?_eq_getElem hmn
   generalize ns[m]=x at hx
   have hxr:=hnn x (List.mem_of_getElem? hx)
   have hxl:=itoa_short3 (n:=x) hxr.1 (by omega)
   refine⟨x,by rw[Int.toNat_natCast,Nat.mul_one];exact hget m x hx,(l_itoa (hL.ext hN2.ext) (by omega) (by omega)).str1 fun H3 e3 hN3=>⟨_,runs_add rfl (by simp only[List.length_cons,List.length_nil];omega),?_⟩⟩
   refine(cCopyCheck (v:= .slice a3 (numText (ns.take m)).length c3) hpp).mono fun r css H4 e4 hq=> ?_
   obtain⟨rfl,rfl,rfl⟩:=hq
   refine⟨rfl,_,_,_,_,rfl,fun hN4=>⟨_,hR.ext e3,by rw[size_mk];simp only[List.length_append,List.length_cons,List.length_nil];omega,fun a6 c6 H6 hG6 hR6=> ?_⟩⟩
   rintro r rfl
   rw[wrap_in (by omega) (by omega)]
   have e6:numText (ns.take (m+1))=numText (ns.take m)++(Lib.itoa x++[32]):=by rw[take_at hx,numText_snoc]
   have e7:(numText (ns.take (m+1))).length=(numText (ns.take m)).length+(⟨(Lib.itoa x++[32]).toArray⟩:ByteArray).size:=by rw[e6,List.length_append];rfl
   refine⟨rfl,⟨m+1,some ⟨b,0,none⟩,a6,c6,by rw[e7];rfl,by omega,.inr rfl,?_⟩,by simp[upTo];omega⟩
   rw[e7,e6]
   have e8:u8s (numText (ns.take m)++(Lib.itoa x++[32]))=u8s (numText (ns.take m))++u8s (⟨(Lib.itoa x++[32]).toArray⟩:ByteArray).data.toList:=by rw[data_mk];simp[u8s]
   rw[e8]
   exact hR6
  ·obtain rfl:m=6:=by omega
   rw[List.take_of_length_le (by omega)] at hlen hR⊢
   have hll:(lockText lock).length<=72:=lockText_len hlk
   refine(cLockPrint (hL.ext hN2.ext) (hp.ext' hN2.ext)).strE fun H3 e3 hN3=>⟨rfl,?_,numText ns,hR.ext e3,fun H4 _ _=> ?_⟩
   ·have:numText ns≠[]:=by
     intro e
     cases ns with
     |nil=>simp at hnl
     |cons x t=>unfold numText at e;simp at e
    exact List.length_pos_iff.2 this
   ·rw[if_pos hlk,hlk]
    exact⟨_,runs_add rfl (by simp only[List.length_cons,List.length_nil];omega),_,runs_add (c:=recText ⟨kd,ag,tr,n,false,⟨id,lock⟩⟩) (by rw[recText_eq,hrn];simp) (by simp only[List.length_append,List.length_cons,List.length_nil];omega),rfl⟩
end
open Go Go.Proofs
def rec0:Recd:=⟨0,0,0,0,false,⟨0,[]⟩⟩
def recGet(x:Except Int Recd):Recd:=match x with| .ok r=>r| .error _=>rec0
theorem nums_cons{w:List UInt8}{ws:List (List UInt8)}{n:Int}(h:num w=some n):nums (w::ws)=(nums ws).map (n:: ·):=by rw[nums,h]
theorem nums_bad{w:List UInt8}{ws:List (List UInt8)}(h:num w=none):nums (w::ws)=none:=by rw[nums,h]
def recFin(ns:Option (List Int))(w6:List UInt8):Except Int Recd:=
 if w6.head?=some 61 then
  (match ns with
   |some [k,a,tr,n,g,id]=>
    if g<0∨1<g then .error 1 else
    (match lockRead (w6.drop 1) with
    | .error e=> .error e
    | .ok l=>let r:Recd:=⟨k,a,tr,n,decide (g=1),⟨id,l⟩⟩
     if recErr r=0 then .ok r else .error (recErr r))
   |_=> .error 1)
 else .error 1
theorem recRead_len{s:List UInt8}(h:(cuts 32 s).length≠7):recRead s= .error 1:=by
 unfold recRead
 split
 ·rename_i hc
  rw[hc] at h;exact absurd rfl h
 ·rfl
theorem recRead_seven{s:List UInt8}{ws:List (List UInt8)}{w6:List UInt8}(hc:cuts 32 s=ws)(hl:ws.length=7)(h6:ws[6]?=some w6):recRead s=recFin (nums (ws.take 6)) w6:=by
 match ws,hl,h6 with
 | [v0,v1,v2,v3,v4,v5,v6],_,h6=>
  obtain rfl:v6=w6:=by simpa using h6
  unfold recRead
  rw[hc]
  rfl
theorem recFin_none{w:List UInt8} :recFin none w= .error 1:=by unfold recFin;split<;>rfl
theorem recFin_head{ns:Option (List Int)}{w:List UInt8}(h:¬w.head?=some 61):recFin ns w= .error 1:=by unfold recFin;rw[if_neg h]
theorem recFin_good{k a tr n g id:Int}{w:List UInt8}(h:w.head?=some 61)(hg:g<0∨1<g):recFin (some [k,a,tr,n,g,id]) w= .error 1:=by rw[recFin,if_pos h];dsimp only;rw[if_pos hg]
theorem recFin_lock{k a tr n g id:Int}{w:List UInt8}(h:w.head?=some 61)(hg:¬(g<0∨1<g)):recFin (some [k,a,tr,n,g,id]) w=match lockRead (w.drop 1) with
  | .error e=> .error e
  | .ok l=>if recErr ⟨k,a,tr,n,decide (g=1),⟨id,l⟩⟩=0 then .ok ⟨k,a,tr,n,decide (g=1),⟨id,l⟩⟩ else .error (recErr ⟨k,a,tr,n,decide (g=1),⟨id,l⟩⟩):=by
 rw[recFin,if_pos h];dsimp only;rw[if_neg hg]
theorem prefix61(w:List UInt8):Lib.hasPrefix w [61]=decide (w.head?=some 61):=by
 unfold Lib.hasPrefix
 cases w with
 |nil=>rfl
 |cons b r=>
  show((61:UInt8)==b&&List.isPrefixOf [] r)=_
  by_cases h:b=61
  ·subst h;simp
  ·simp[h,Ne.symm h]
theorem trim61{w:List UInt8}(h:w.head?=some 61):Lib.trimPrefix w [61]=w.drop 1:=by
 unfold Lib.trimPrefix
 rw[prefix61,h];rfl
theorem six{ns:List Int}(h:ns.length=6):∃k a tr n g id,ns=[k,a,tr,n,g,id]:=by
 match ns,h with
 | [k,a,tr,n,g,id],_=>exact⟨k,a,tr,n,g,id,rfl⟩
theorem take_set_next{α:Type}{cs:List α}{m:Nat}{v:α}(h:m<cs.length):(cs.set m v).take (m+1)=cs.take m++[v]:=by
 rw[take_at (x:=v) (by simp[h]),List.take_set_of_le (Nat.le_refl m)]
theorem Fresh.mv{H H1 H2 H3:Heap}{e:TypeId}{sz:Nat}{a:O}{n c:Nat}{cs:List Value}(h:Fresh H1 H2 e sz a n c cs)(e1:Ext H H1)(e2:Ext H2 H3):Fresh H H3 e sz a n c cs:=by
 obtain⟨h1,h2,h3,h4⟩:=h
 refine⟨h1,h2,h3,h4.imp id fun⟨g,k,q1,q2,q3,q4⟩=>⟨g,k,q1,?_,e2 _ _ q3,q4⟩⟩
 cases hg:H g with
 |none=>rfl
 |some k'=>rw[e1 g k' hg] at q2;cases q2
theorem neNilE{xo:Operand} :RunsTo Tryz.prog (binRun .neq 263 xo (.const .nilIface) .nilIface .nilIface) (.bool false):=by
 intro w
 have hu:=run_underlying Tryz.underlying263
 have hg:(eqGuard .neq 263 xo (.const .nilIface) .nilIface .nilIface).run Tryz.prog w= .ok () w:=by simp[eqGuard]
 have he:(Op.equalIn (9999+1) 263 .nilIface .nilIface).run Tryz.prog w= .ok true w:=by
  rw[Op.equalIn]
  simp only[Sem.run_bind,hu,Result.andThen_ok]
  rfl
 simp only[binRun,Sem.run_bind,hg,Result.andThen_ok]
 simp[binOp,Op.equal,show Op.maxDepth=9999+1 from rfl,he]
theorem neIfaceE{xo:Operand}{t:TypeId}{p:Value} :RunsTo Tryz.prog (binRun .neq 263 xo (.const .nilIface) (.iface t p) .nilIface) (.bool true):=by
 intro w
 have hu:=run_underlying Tryz.underlying263
 have hg:(eqGuard .neq 263 xo (.const .nilIface) (.iface t p) .nilIface).run Tryz.prog w= .ok () w:=by simp[eqGuard]
 have he:(Op.equalIn (9999+1) 263 (.iface t p) .nilIface).run Tryz.prog w= .ok false w:=by
  rw[Op.equalIn]
  simp only[Sem.run_bind,hu,Result.andThen_ok]
  rfl
 simp only[binRun,Sem.run_bind,hg,Result.andThen_ok]
 simp[binOp,Op.equal,show Op.maxDepth=9999+1 from rfl,he]
def RecOut(H:Heap)(x:Except Int Recd)(v:Value)(H':Heap):Prop:=
 ∃a n c,v= .tuple #[recArg (recGet x) a n c,i64 (errOf x)]/\Fresh H H' 91 2 a n c ((recGet x).rel.lock.flatMap pinCells)
theorem RecOut.bad{H H':Heap}{e:Int} :RecOut H (.error e) (.tuple #[.agg #[.int .i64 0,.int .i64 0,.int .i64 0,.int .i64 0,.bool false,.int .i64 0,.slice none 0 0],.int .i64 e]) H':=⟨none,0,0,rfl,Fresh.zero⟩
section
variable {H : Heap} (hL : Lb H)
include hL
theorem cNoteParse{s:ByteArray} :Spec Tryz.prog 196 [.string s] H (RecOut H (if 60000<s.size then .error 2 else recRead s.data.toList)):=by
 refine TryzvcJ Tryz.func196 (by kernel_rfl) (by kernel_rfl) _ rfl (fun base K=>vd21 s base H K) fun base hb=> ?_
 refine fun b=>⟨fun h=> ?_,fun h=> ?_⟩
 ·rw[if_pos (by omega)];exact RecOut.bad
 rw[if_neg (by omega)]
 have hsz:s.data.toList.length<=60000:=by rw[←size_data];omega
 generalize hws:cuts 32 s.data.toList=ws
 have hwm:∀w∈ws,w.length<=60000:=fun w hw=>by rw[←hws] at hw;have:=mem_cuts_len hw;omega
 refine(l_split hL (s:=s) (c:=32) (by omega)).mono fun v H1 e1 hv=> ?_
 obtain⟨g,N,hv,hS⟩:=hv
 rw[hws] at hS
 have hNl:=hS.len
 refine⟨_,_,_,hv,fun hN1=>⟨fun h7=> ?_,fun h7=> ?_⟩⟩
 ·rw[recRead_len (by rw[hws];omega)];exact RecOut.bad
 obtain rfl:N=7:=by omega
 have h6l:ws[6]?=some ws[6]:=List.getElem?_eq_getElem (by omega)
 generalize ws[6]=w6 at h6l
 rw[recRead_seven hws hNl h6l]
 generalize hfw:ws.take 6=fw
 have hfl:fw.length=6:=by rw[←hfw,List.length_take];omega
 have hfg:∀(m:Nat) w,m<6->ws[m]?=some w->fw[m]?=some w:=fun m w hm hw=>by rw[←hfw,List.getElem?_take,if_pos hm];exact hw
 refine fun b1=>⟨rfl,fun vs H'=>∃(k:Int)(A:Value)(m:Nat)(ns:List Int)(cs:List Value),vs=[i64 k,i64 m,A,.agg cs.toArray]/\m<=6/\cs.length=6/\ns.length=m/\cs.take m=ns.map i64/\nums fw=(nums (fw.drop m)).map (ns++ ·)/\Ext H1 H',upTo 6 1,
  ⟨0,_,0,[],_,rfl,by omega,rfl,rfl,rfl,by simp,Ext.refl _⟩,fun n1 n2 n3 n4 n5 n6 b2 n7 a3 n8 c1 cs hcs H2 hN2 hI=> ?_⟩
 obtain⟨k',A',m,ns,cs',hvs,hm,_,hnl,hct,hI,hE⟩:=hI
 obtain⟨rfl,rfl,rfl,rfl⟩:n1=k'/\n2=(m:Int)/\_=A'/\cs=cs':=by simpa using hvs
 refine⟨fun hlt=>hS.str hE (by omega) (by omega) fun w hw=> ?_,fun hge=> ?_⟩
 ·rw[Int.toNat_natCast] at hw
  have hwz:=hwm w (List.mem_of_getElem? hw)
  have hmw:=hfg m w (by omega) hw
  rw[drop_at hmw] at hI
  refine(l_atoi (hL.ext hN2.ext) (s:=⟨w.toArray⟩) (by rw[size_mk];omega)).spec.mono fun v H3 e3 hv3=> ?_
  obtain⟨⟨n9,e9,hv3,h9⟩,_⟩:=hv3
  rw[data_mk] at h9
  rcases h9 with⟨hok,rfl⟩|⟨hno,t,p,rfl⟩
  ·have hbd:=Lib.atoiAll_bounds hok
   refine⟨n9,.inl ⟨hv3,fun hN3=>⟨false,neNilE,fun h=>(by cases h),fun _=>hS.str (Ext.trans hE e3) (by omega) (by omega) fun w' hw'=> ?_⟩⟩⟩
   rw[Int.toNat_natCast,hw] at hw'
   obtain rfl:=Option.some.inj hw'
   refine(l_itoa (hL.ext (Ext.trans hN2.ext e3)) hbd.1 hbd.2).str1 fun H4 e4 hN4=>⟨_,neS,fun h=> ?_,fun h=> ?_⟩
   ·rw[data_mk,data_mk] at h
    have h:¬Lib.itoa n9=w:=by simpa using h
    have hn:num w=none:=by rw[num,hok];simp[h]
    rw[nums_bad hn,Option.map_none] at hI
    rw[hI,recFin_none];exact RecOut.bad
   ·rw[data_mk,data_mk] at h
    have h:Lib.itoa n9=w:=by simpa using h
    have hn:num w=some n9:=by rw[num,hok];simp[h]
    rw[nums_cons hn] at hI
    refine⟨by omega,hlt,by rw[hcs,Int.toNat_natCast];omega,?_⟩
    rintro r rfl
    rw[wrap_in (by omega) (by omega)]
    rw[show 0+Int.toNat (m:Int)*1=m from by omega]
    refine⟨by simp[hcs],⟨n1,_,m+1,ns++[n9],cs.set m (.int .i64 n9),rfl,by omega,by simp[hcs],by simp[hnl],?_,by rw[hI];cases nums (fw.drop (m+1))<;>simp,Ext.trans hE (Ext.trans e3 e4)⟩,by simp[upTo];omega⟩
    rw[take_set_next (by omega),hct];simp
  ·refine⟨n9,.inr ⟨t,p,hv3,fun hN3=>⟨true,neIfaceE,fun _=> ?_,fun h=>absurd rfl h⟩⟩⟩
   have hn:num w=none:=by
    unfold num
    split
    ·rename_i v hv;exact absurd hv (hno v)
    ·rfl
   rw[nums_bad hn,Option.map_none] at hI
   rw[hI,recFin_none];exact RecOut.bad
 ·obtain rfl:m=6:=by omega
  rw[List.drop_of_length_le (by omega),nums,Option.map_some,List.append_nil] at hI
  obtain⟨k,ag,tr,n,gg,id,rfl⟩:=six hnl
  rw[List.take_of_length_le (by omega)] at hct
  subst hct
  rw[hI]
  have hw6:=hwm w6 (List.mem_of_getElem? h6l)
  refine hS.str (k:=6) hE (by omega) (by omega) fun w hw=> ?_
  obtain rfl:w6=w:=by rw[show Int.toNat 6=6 from rfl,h6l] at hw;exact Option.some.inj hw
  refine(l_cutPrefix (s:=⟨w6.toArray⟩) (p:=⟨#[61]⟩)).cut2 fun H3 e3 hN3=> ?_
  rw[data_mk,show(⟨#[61]⟩:ByteArray).data.toList=[61] from rfl,prefix61]
  refine⟨¬w6.head?=some 61∨gg<0∨1<gg,⟨fun hp=>⟨rfl,subH,.inl (by simpa using hp)⟩,fun hp=>⟨gg,rfl,fun h0=>⟨rfl,subH,.inr (.inl h0)⟩,fun h0=>⟨gg,rfl,rfl,subH,?_⟩⟩⟩,fun hφ=> ?_,fun hφ=> ?_⟩
  ·have hp:w6.head?=some 61:=by simpa using hp
   exact⟨fun h=>(h.resolve_left (fun x=>x hp)).resolve_left h0,fun h=> .inr (.inr h)⟩
  ·have:recFin (some [k,ag,tr,n,gg,id]) w6= .error 1:=by
    by_cases hp:w6.head?=some 61
    ·exact recFin_good hp (hφ.resolve_left (fun x=>x hp))
    ·exact recFin_head hp
   rw[this];exact RecOut.bad
  ·have hp:w6.head?=some 61:=Decidable.byContradiction fun x=>hφ (.inl x)
   have hg:¬(gg<0∨1<gg):=fun x=>hφ (.inr x)
   rw[recFin_lock hp hg,trim61 hp]
   have hdl:(w6.drop 1).length<=60000:=by rw[List.length_drop];omega
   refine(cLockParse (hL.ext (Ext.trans hN2.ext e3)) (s:=⟨(w6.drop 1).toArray⟩)).mono fun v H4 e4 hv4=> ?_
   obtain⟨a4,m4,c4,hv4,hF4⟩:=hv4
   rw[if_neg (by rw[size_mk];omega),data_mk] at hv4 hF4
   refine⟨a4,m4,c4,_,hv4,fun hN4=>⟨fun h=> ?_,fun h=> ?_⟩⟩
   ·cases hr:lockRead (w6.drop 1) with
    |ok l=>rw[hr] at h;exact absurd rfl h
    |error e=>exact RecOut.bad
   ·obtain⟨lk,hr⟩:=errOf_zero (Decidable.not_not.1 h)
    rw[hr] at hF4⊢
    dsimp only
    have hpn:=(pins_of_row (hF4.row hN4):Pins H4 a4 m4 lk)
    refine⟨k,rfl,ag,rfl,tr,rfl,n,rfl,gg,rfl,id,rfl,fun _=> ?_⟩
    refine(cRecCheck (r:=⟨k,ag,tr,n,decide (gg=1),⟨id,lk⟩⟩) hpn).int1 fun H5 e5 hN5=>⟨fun h5=> ?_,fun h5=> ?_⟩
    ·rw[if_neg h5];exact RecOut.bad
    ·rw[if_pos (Decidable.not_not.1 h5)]
     exact⟨a4,m4,c4,rfl,hF4.mv (Ext.trans hN2.ext e3) e5⟩
end
open Go Go.Proofs
open Go Go.Proofs
def u8Cell(b:UInt8):List Value:=[.int .u8 b.toNat]
theorem u8Cell_len(b:UInt8):(u8Cell b).length=1:=rfl
theorem u8s_flat:∀l:List UInt8,u8s l=l.flatMap u8Cell
 | []=>rfl
 |x::r=>by
  have:=u8s_flat r
  unfold u8s at this⊢
  rw[List.map_cons,this];rfl
abbrev Bytes(H:Heap)(a:O)(n:Nat)(bs:List UInt8):Prop:=Sl (REnc u8Cell) 1 H a n bs
theorem Bytes.ext'{H H':Heap}{a:O}{n:Nat}{bs:List UInt8}(h:Bytes H a n bs)(e:Ext H H'):Bytes H' a n bs:=Sl.ext REnc.mono h e
theorem Bytes.conv{H H':Heap}{a:O}{n:Nat}{bs:List UInt8}(h:Bytes H a n bs)(e:Ext H H'):bs.length=n/\(n=0∨ ∃(b o:Nat),a=some ⟨b,o,none⟩/\cellsAt H' b o 0 (u8s bs)):=
 ⟨h.len,by rw[u8s_flat];exact(h.cells u8Cell_len e).2⟩
theorem Fresh.bytes{H H':Heap}{a:O}{n c:Nat}{bs:List UInt8}(h:Fresh H H' 5 1 a n c (bs.flatMap u8Cell)):Bytes (newOf H H') a n bs:=h.sl_new u8Cell_len (by omega)
theorem newOf_right{H H1 H2:Heap}(e:Ext H1 H2):Ext (newOf H H1) (newOf H H2):=fun x k h=>by
 have h1:=newOf_away x k h
 have h2:=newOf_ext x k h
 unfold newOf
 rw[h1]
 exact e x k h2
abbrev dskArg(sa:O)(sn sc:Nat)(wa:O)(wn wc:Nat):Value:= .agg #[.slice sa sn sc,.slice wa wn wc]
structure DskAt(H:Heap)(d:Dsk)(sa:O)(sn sc:Nat)(wa:O)(wn wc:Nat):Prop where
 safe:Bytes H sa sn d.safe
 wait:Bytes H wa wn d.wait
 sle:sn<=sc
 wle:wn<=wc
theorem DskAt.ext{H H':Heap}{d:Dsk}{sa wa:O}{sn sc wn wc:Nat}(h:DskAt H d sa sn sc wa wn wc)(e:Ext H H'):DskAt H' d sa sn sc wa wn wc:=⟨h.safe.ext' e,h.wait.ext' e,h.sle,h.wle⟩
theorem DskAt.zero{H:Heap} :DskAt H dsk0 none 0 0 none 0 0:=⟨Sl.nil,Sl.nil,by omega,by omega⟩
theorem cCloneB{H:Heap}{a:O}{l c:Nat}{xs:List UInt8}(hx:Bytes H a l xs)(hl:l<=100000):Spec Tryz.prog 169 [.slice a l c] H fun v H'=>∃a n c,v= .slice a n c/\Fresh H H' 5 1 a n c (xs.flatMap u8Cell):=by
 refine TryzvcJ Tryz.func169 (by kernel_rfl) (by kernel_rfl) _ rfl (fun base K=>vd61 a l c base H K) fun base hb=>⟨_,eqNil Tryz.underlying33,fun h=> ?_,fun h=> ?_⟩
 ·obtain rfl:a=none:=by cases a<;>simp at h⊢
  obtain⟨_,rfl⟩:=hx.addr_nil
  exact⟨none,0,0,rfl,Fresh.zero⟩
 ·intro g H1 hN1 _ hg
  obtain⟨h1,h2,h3⟩:=hx.copied u8Cell_len (fun _=>rfl) hN1.ext
  exact⟨[],_,Row.zero,h1,h2,h3,by omega,by omega,fun a3 c3 H3 hG hR=>⟨_,_,_,rfl,hR.fresh hb⟩⟩
theorem cGrowB{H:Heap}{k:Int}(h0:0<=k)(h1:k<=1000000):Spec Tryz.prog 152 [.slice none 0 0,.int .i64 k] H fun v H'=>∃a c,v= .slice a 0 c/\Fresh H H' 5 1 a 0 c []:=by
 refine TryzvcJ Tryz.func152 (by kernel_rfl) (by kernel_rfl) _ rfl (fun base K=>vd79 none 0 0 k base H K) fun base hb=> ?_
 refine⟨fun h=>by omega,fun _=>fun r hr=> ?_⟩
 obtain rfl:r=0:=by rw[hr,wrap_in (by omega) (by omega)];omega
 rintro r rfl
 rw[wrap_in (by omega) (by omega)]
 refine⟨fun h=>⟨by omega,by omega,[],k.toNat,by omega,by omega,by omega,Row.zero,by omega,by omega,fun g c' H1 hN hg hR=>⟨by omega,by omega,?_⟩⟩,fun h=>⟨none,0,rfl,Fresh.zero⟩⟩
 refine⟨_,_,rfl,?_⟩
 have:=hR.short (m:=0) (by omega)
 rw[Nat.zero_mul,List.take_zero] at this
 exact this.fresh hb
theorem sl_box_rows{α:Type}{R:Rep α}{sz:Nat}{H:Heap}{g:Nat}{ty:TypeId}{rs:List (List Value)}{xs:List α}{n:Nat}(h:H g=some (boxKB ty rs.flatten))(hw:∀r∈rs,r.length=sz)(ha:AllR R H rs xs)(hn:rs.length=n)(hle:(n:Int)<=9223372036854775807):Sl R sz H (some ⟨g,0,none⟩) n xs:=
 Sl.of_has (Has.of_box h rfl hw hn hle) ha.len fun i r x hr hx=>ha.get hr hx
theorem cConcatB{H:Heap}{a:O}{l c:Nat}{bss:List (List UInt8)}(hx:Sl (RSl (REnc u8Cell) 1) 1 H a l bss)(hl:l<=100)(hn:bss.flatten.length<=200000):Spec Tryz.prog 80 [.slice a l c] H fun v H'=>∃a n c,v= .slice a n c/\Fresh H H' 5 1 a n c (bss.flatten.flatMap u8Cell):=by
 refine TryzvcJ Tryz.func80 (by kernel_rfl) (by kernel_rfl) _ rfl (fun base K=>vd62 a l c base H K) fun base hb=> ?_
 have hbl:=hx.len
 have hpart:∀k,(bss.take k).flatten.length<=bss.flatten.length:=fun k=>by
  have:(bss.take k++bss.drop k).flatten.length=bss.flatten.length:=by rw[List.take_append_drop]
  rw[List.flatten_append,List.length_append] at this
  omega
 have hnext:∀k x,bss[k]?=some x->(bss.take (k+1)).flatten=(bss.take k).flatten++x:=fun k x h=>by
  rw[take_at h,List.flatten_append];simp
 refine⟨fun vs H'=>∃(k:Nat),vs=[i64 ((bss.take k).flatten.length:Nat),i64 k]/\k<=l,upTo l 1,⟨0,rfl,by omega⟩,fun n n1 H1 hN1 hI=> ?_⟩
 obtain⟨k,hvs,hk⟩:=hI
 obtain⟨rfl,rfl⟩:n=((bss.take k).flatten.length:Nat)/\n1=(k:Int):=by simpa using hvs
 refine⟨fun hlt=>hx.slice hN1.ext (by omega) hlt fun x a' n' c' hxk hS=> ?_,fun hge=> ?_⟩
 ·rw[Int.toNat_natCast] at hxk
  have h1:=hS.len
  have h2:=hpart (k+1)
  rw[hnext k x hxk,List.length_append] at h2
  rintro r rfl
  rw[wrap_in (by omega) (by omega)]
  refine⟨fun h=>by omega,fun _=> ?_⟩
  rintro r rfl
  rw[wrap_in (by omega) (by omega)]
  exact⟨⟨k+1,by rw[hnext k x hxk,List.length_append,h1];rfl,by omega⟩,by simp[upTo];omega⟩
 ·have h2:=hpart k
  refine(cGrowB (k:=((bss.take k).flatten.length:Nat)) (by omega) (by omega)).mono fun v H2 e2 hv=> ?_
  obtain⟨a2,c2,rfl,hF⟩:=hv
  refine⟨a2,0,c2,rfl,fun hN2=> ?_⟩
  have hap:∀ {g:Nat} {k:KB},H g=some k->c2≠0->a2≠some ⟨g,0,none⟩:=fun{g k} hg hc e=>by
   rcases hF.2.2.2 with⟨_,h⟩|⟨g',k',h1,h2,_⟩
   ·exact hc h
   ·rw[e] at h1;simp at h1;subst h1
    rw[hN1.ext _ _ hg] at h2;cases h2
  refine⟨fun vs H'=>∃(k:Nat)(a3:O)(c3:Nat),vs=[.slice a3 (bss.take k).flatten.length c3,i64 k]/\k<=l/\Row base H' 5 1 a3 (bss.take k).flatten.length c3 ((bss.take k).flatten.flatMap u8Cell),upTo l 1,
   ⟨0,a2,c2,rfl,by omega,hF.row hN2⟩,fun a3 n3 c3 n4 H3 hN3 hI=> ?_⟩
  obtain⟨k,a3',c3',hvs,hk,hR⟩:=hI
  obtain⟨⟨rfl,rfl,rfl⟩,rfl⟩:(a3=a3'/\n3=(bss.take k).flatten.length/\c3=c3')/\n4=(k:Int):=by simpa using hvs
  refine⟨fun hlt=>hx.slice hN3.ext (by omega) hlt fun x a' n' c' hxk hS=> ?_,fun hge=> ?_⟩
  ·rw[Int.toNat_natCast] at hxk
   have h1:=hS.len
   have h3:=hpart (k+1)
   rw[hnext k x hxk,List.length_append] at h3
   obtain⟨p1,p2,p3⟩:=hS.copied u8Cell_len (fun _=>rfl) hN3.ext
   refine⟨_,_,hR,p1,p2,p3,by omega,by omega,fun a5 c5 H5 hG5 hR5=> ?_⟩
   rintro r rfl
   rw[wrap_in (by omega) (by omega)]
   refine⟨⟨k+1,a5,c5,by rw[hnext k x hxk,List.length_append,h1];rfl,by omega,?_⟩,by simp[upTo];omega⟩
   rw[hnext k x hxk,List.length_append,h1,List.flatMap_append]
   exact hR5
  ·obtain rfl:k=l:=by omega
   rw[←hbl,List.take_length] at hR⊢
   exact⟨_,_,_,rfl,hR.fresh hb⟩
section
variable {H : Heap} (hL : Lb H)
include hL
theorem cLines{s:ByteArray}{most:Nat}(hs:s.size<=60000)(hm:most<=200):Spec Tryz.prog 143 [.string s,.int .i64 most] H fun v H'=>∃a n c G rows,v= .tuple #[.slice a n c,i64 (linesF most 0 s.data.toList).2.1,i64 (linesF most 0 s.data.toList).2.2]/\
  NewSl RRec 7 126 H G H' a n c rows (linesF most 0 s.data.toList).1:=by
 refine TryzvcJ Tryz.func143 (by kernel_rfl) (by kernel_rfl) _ rfl (fun base K=>vd63 s most base H K) fun base hb=> ?_
 have hsd:=size_data s
 generalize hS:s.data.toList=S at hsd
 have hse:s=⟨S.toArray⟩:=by rw[←hS]
 generalize hR:linesF most 0 S=R
 refine⟨fun vs H'=>∃(rest:List UInt8)(a:O)(n c:Nat)(n1 n2:Int)(a1:O)(n3 c1:Nat)(G:Heap)(rows:List (List Value))(xs:List Recd),vs=[.string ⟨rest.toArray⟩,.slice a n c,i64 n1,i64 n2,.slice a1 n3 c1]/\
   OwnSl RRec 7 126 base G H' a1 n3 c1 rows xs/\Away H G/\rest.length<=S.length/\n3<=most/\R=(xs++(linesF most n3 rest).1,(S.length-rest.length)+(linesF most n3 rest).2.1,(linesF most n3 rest).2.2),
  fun vs=>match vs with| .string s::_=>s.size|_=>0,
  ⟨S,none,0,0,0,0,none,0,0,fun _=>none,[],[],by rw[hse],OwnSl.zero (fun _ _ h=>by cases h),fun _ _ h=>(by cases h),Nat.le_refl _,by omega,by simp[←hR]⟩,fun s1 a n c n1 n2 a1 n3 c1 H1 hN1 hI=> ?_⟩
 obtain⟨rest,a',n',c',n1',n2',a1',n3',c1',G,rows,xs,hvs,hO,hAw,hrl,hn3,hRR⟩:=hI
 obtain⟨rfl,⟨rfl,rfl,rfl⟩,rfl,rfl,rfl,rfl,rfl⟩:s1=⟨rest.toArray⟩/\(a=a'/\n=n'/\c=c')/\n1=n1'/\n2=n2'/\a1=a1'/\n3=n3'/\c1=c1':=by simpa using hvs
 obtain⟨hrlen,hxlen⟩:=hO.rlen (by omega)
 refine⟨_,neS,fun h=> ?_,fun h=> ?_⟩
 ·have hne:rest≠[]:=by
   have h:=of_decide_eq_true h
   rwa[data_mk] at h
  have hc:=l_cut (hL.ext hN1.ext) (s:=⟨rest.toArray⟩) (sep:=⟨#[10]⟩) (by rw[size_mk];omega)
  rw[data_mk,show(⟨#[10]⟩:ByteArray).data.toList=[10] from rfl] at hc
  rcases cut_cases 10 rest with⟨hno,hcut⟩|⟨w,t,hrest,hw,hcut⟩
  ·rw[hcut] at hc
   rw[linesF_torn hno hne] at hRR
   refine hc.cut3 fun H2 e2 hN2=>⟨fun _=> ?_,fun h=>absurd rfl h⟩
   rintro r rfl
   rw[size_mk rest,hsd,wrap_in (by omega) (by omega)]
   subst hRR
   rw[show(S.length:Int)-rest.length=((S.length-rest.length:Nat):Int) from by omega]
   refine⟨a1,n3,c1,G,rows,rfl,?_⟩
   rw[List.append_nil];exact(hO.ext e2).new hb hAw
  ·rw[hcut] at hc
   have hwl:w.length+t.length+1=rest.length:=by rw[hrest];simp;omega
   refine hc.cut3 fun H2 e2 hN2=>⟨fun h=>(by cases h),fun _=> ?_⟩
   have hps:=cNoteParse (hL.ext (Ext.trans hN1.ext e2)) (s:=⟨w.toArray⟩)
   rw[if_neg (by rw[size_mk];omega),data_mk] at hps
   refine hps.mono fun v H3 e3 hv=> ?_
   obtain⟨a7,n7,c7,hv,hF⟩:=hv
   refine⟨_,_,_,_,_,_,a7,n7,c7,_,hv,fun hN3=>fun b1=>⟨fun h=> ?_,fun h=> ?_⟩⟩
   ·cases hr:recRead w with
    |ok r=>rw[hr] at h;exact absurd rfl h
    |error e=>
     rw[hrest,linesF_err hw hr,←hrest] at hRR
     rintro r rfl
     rw[size_mk rest,hsd,wrap_in (by omega) (by omega)]
     subst hRR
     rw[show(S.length:Int)-rest.length=((S.length-rest.length:Nat):Int) from by omega]
     refine⟨a1,n3,c1,G,rows,rfl,?_⟩
     rw[List.append_nil];exact(hO.ext (Ext.trans e2 e3)).new hb hAw
   ·cases hr:recRead w with
    |error e=>rw[hr] at h;exact absurd (Decidable.not_not.1 h) (recRead_err hr)
    |ok r=>
     rw[hr] at hF
     have hF:Fresh H2 H3 91 2 a7 n7 c7 (r.rel.lock.flatMap pinCells):=hF
     refine⟨fun hmost=> ?_,fun hmost=> ?_⟩
     ·have hmost:n3=most:=by omega
      rw[hrest,hmost,linesF_many hw hr,←hrest] at hRR
      rintro q rfl
      rw[size_mk rest,hsd,wrap_in (by omega) (by omega)]
      subst hRR
      rw[show(S.length:Int)-rest.length=((S.length-rest.length:Nat):Int) from by omega]
      refine⟨a1,n3,c1,G,rows,rfl,?_⟩
      rw[List.append_nil];exact(hO.ext (Ext.trans e2 e3)).new hb hAw
     ·have hmost:n3≠most:=by omega
      rw[hrest,linesF_more hw hr hmost] at hRR
      intro b2
      have hO3:=hO.grow RRec.mono (Ext.trans e2 e3)
      have hAw3:Away H (G.plus (newOf H1 H3)):=plus_away hAw (newOf_away.sub hN1.ext)
      have hP:Pins (G.plus (newOf H1 H3)) a7 n7 r.rel.lock:=Pins.ext' (hF.sl_new pinCells_len (by omega)) (Ext.trans (newOf_mono e2) (new_in_grow hO.sub))
      refine⟨_,hO3.row,by omega,by omega,fun a8 c8 H8 hG8 hR8=>⟨⟨t,a,n,c,n1,n2,a8,n3+1,c8,_,rows++[recVal r a7 n7 c7],xs++[r],rfl,?_,hAw3,by omega,by omega,?_⟩,?_⟩⟩
      ·refine hO3.grew hG8 ?_ (by intro q hq;simp at hq;subst hq;rfl) (AllR.one ⟨a7,n7,c7,rfl,hP⟩)
       rw[List.flatten_cons,List.flatten_nil,List.append_nil]
       exact hR8
      ·rw[hRR]
       simp only[List.append_assoc,List.singleton_append]
       congr 2
       rw[List.length_append,List.length_cons]
       omega
      ·show t.length<rest.length
       omega
 ·have hnil:rest=[]:=by
   have h:=fun e=>h (decide_eq_true e)
   rw[data_mk] at h
   exact Decidable.not_not.1 h
  subst hnil
  rw[linesF_nil] at hRR
  subst hRR
  refine⟨a1,n3,c1,G,rows,?_,?_⟩
  ·simp[hsd]
  ·rw[List.append_nil];exact hO.new hb hAw
end
open Go Go.Proofs
def dskGet:Except Int Dsk->Dsk
 | .ok d=>d
 | .error _=>dsk0
def DskOut(H:Heap)(x:Except Int Dsk)(v:Value)(H':Heap):Prop:=∃sa sn sc wa wn wc,v= .tuple #[dskArg sa sn sc wa wn wc,i64 (errOf x)]/\DskAt (newOf H H') (dskGet x) sa sn sc wa wn wc
theorem DskOut.bad{H H':Heap}{e:Int} :DskOut H (.error e) (.tuple #[.agg #[.slice none 0 0,.slice none 0 0],.int .i64 e]) H':=⟨none,0,0,none,0,0,rfl,DskAt.zero⟩
theorem newOf_both{H H1 H2 H3:Heap}(e:Ext H H1)(e':Ext H2 H3):Ext (newOf H1 H2) (newOf H H3):=Ext.trans (newOf_mono e) (newOf_right e')
theorem Fresh.le{H H':Heap}{e:TypeId}{sz:Nat}{a:O}{n c:Nat}{xs:List Value}(h:Fresh H H' e sz a n c xs):n<=c:=h.2.1
theorem Spec.dsk{P:Program}{f:FuncId}{args:List Value}{H:Heap}{x:Except Int Dsk}(h:Spec P f args H (DskOut H x)){base:Nat}{G:O->Nat->Nat->O->Nat->Nat->Int->Heap->Prop}
  (hG:∀sa sn sc wa wn wc H',Ext H H'->Vg.Next base H H'->DskAt (newOf H H') (dskGet x) sa sn sc wa wn wc->G sa sn sc wa wn wc (errOf x) H'):
  Spec P f args H fun v H'=>∃(sa:O)(sn sc:Nat)(wa:O)(wn wc:Nat)(e:Int),v= .tuple #[.agg #[.slice sa sn sc,.slice wa wn wc],.int .i64 e]/\(Vg.Next base H H'->G sa sn sc wa wn wc e H'):=
 h.mono fun v H' e ⟨sa,sn,sc,wa,wn,wc,hv,hD⟩=>⟨_,_,_,_,_,_,_,hv,fun hN=>hG _ _ _ _ _ _ H' e hN hD⟩
theorem putEnd{base:Nat}{H1 H3:Heap}{a:O}{m c:Nat}{cs:List UInt8}{g:Nat}(hR:Row base H3 5 1 a m c (cs.flatMap u8Cell))(hE:Ext H1 H3)(hA:Apart H1 a c)(hm:m<=200000)(hg:H3 g=some (boxKB 5 [Value.int IntKind.u8 10]))
  {K':O->Nat->Heap->Prop} (hK:∀a'' c'' H',Ext H1 H'->Apart H1 a'' c''->Row base H' 5 1 a'' (m+1) c'' ((cs++[10]).flatMap u8Cell)->K' a'' c'' H'):
  ∃(xs cells:List Value),Row base H3 5 1 a m c xs/\cells.length=1*1/\allOne cells=true/\(1=0∨ ∃(b o:Nat),(some ⟨g,0,none⟩:O)=some ⟨b,o,none⟩/\cellsAt H3 b o 0 cells)/\(m+1)*1<=140737488355328/\m+1<=9223372036854775807/\
   ∀(a'':O)(c'':Nat)(H':Heap),Grew base H3 H' a c a'' c'' (m+1)->Row base H' 5 1 a'' (m+1) c'' (xs++cells)->K' a'' c'' H':=by
 refine⟨_,[.int .u8 10],hR,rfl,rfl,.inr ⟨g,0,rfl,?_,trivial⟩,by omega,by omega,fun a'' c'' H' hG hR'=> ?_⟩
 ·unfold Heap.cell;rw[hg];rfl
 ·obtain⟨e1,e2⟩:=hA.grew hE hG
  refine hK a'' c'' H' e1 e2 ?_
  rw[List.flatMap_append]
  exact hR'
theorem putMid{base:Nat}{H1 Hc:Heap}{a:O}{n c:Nat}{bs text:List UInt8}{s:ByteArray}(hs:s.data.toList=text)(hz:s.size=text.length)(hR:Row base Hc 5 1 a n c (bs.flatMap u8Cell))(hE:Ext H1 Hc)(hA:Apart H1 a c)(hn:n+text.length<=200000)
  {K':O->Nat->Heap->Prop} (hK:∀a' c' H',Grew base Hc H' a c a' c' (n+s.size)->Ext H1 H'->Apart H1 a' c'->Row base H' 5 1 a' (n+s.size) c' ((bs++text).flatMap u8Cell)->K' a' c' H'):
  ∃(xs:List Value),Row base Hc 5 1 a n c xs/\n+s.size<=140737488355328/\∀(a':O)(c':Nat)(H':Heap),Grew base Hc H' a c a' c' (n+s.size)->Row base H' 5 1 a' (n+s.size) c' (xs++u8s s.data.toList)->K' a' c' H':=by
 refine⟨_,hR,by omega,fun a' c' H' hG hR'=> ?_⟩
 obtain⟨e1,e2⟩:=hA.grew hE hG
 refine hK a' c' H' hG e1 e2 ?_
 rw[List.flatMap_append,←hs,←u8s_flat s.data.toList]
 exact hR'
theorem rrec_one{H:Heap}{r:List Value}{m:Recd}(h:RRec H r m):allOne r=true:=by obtain⟨a,n,c,rfl,_⟩:=h;rfl
theorem apart_fresh{H1 H2:Heap}{e:TypeId}{sz:Nat}{a:O}{n c:Nat}{xs:List Value}(h:Fresh H1 H2 e sz a n c xs):Apart H1 a c:=fun hc x k hx ha=>by
 rcases h.2.2.2 with⟨_,h0⟩|⟨g,k',h1,h2,_⟩
 ·exact hc h0
 ·rw[ha] at h1;simp at h1;subst h1
  rw[hx] at h2;cases h2
theorem box_stays{base:Nat}{Hb Hg H' H2:Heap}{g:Nat}{kb:KB}{a a':O}{c c' nn:Nat}{e:TypeId}{sz n:Nat}{xs:List Value}(hR:Row base Hb e sz a n c xs)(hn:Hb g=none)(hg:Hg g=some kb)(hG:Grew base Hg H' a c a' c' nn):H' g=some kb:=by
 refine hG.keep g kb hg ?_
 rcases hR.2.2.2 with⟨_,h⟩|⟨g',k',h1,_,h2,_⟩
 ·exact .inl h
 ·right
  intro e
  rw[h1] at e
  simp at e
  subst e
  rw[hn] at h2;cases h2
theorem cJoin2{Hg:Heap}{g:Nat}{sa wa:O}{sn sc wn wc:Nat}{xs ys:List UInt8}(hg:Hg g=some (boxKB 33 [.slice sa sn sc,.slice wa wn wc]))(hx:Bytes Hg sa sn xs)(hy:Bytes Hg wa wn ys)(hn:xs.length+ys.length<=200000):
  Spec Tryz.prog 80 [.slice (some ⟨g,0,none⟩) 2 2] Hg fun v H'=>∃a n c,v= .slice a n c/\Fresh Hg H' 5 1 a n c ((xs++ys).flatMap u8Cell):=by
 have hS:Sl (RSl (REnc u8Cell) 1) 1 Hg (some ⟨g,0,none⟩) 2 [xs,ys]:=sl_box_rows (rs:=[[.slice sa sn sc],[.slice wa wn wc]]) hg (by simp) ⟨⟨sa,sn,sc,rfl,hx⟩,⟨wa,wn,wc,rfl,hy⟩,trivial⟩ rfl (by decide)
 have:=cConcatB (c:=2) hS (by omega) (by simp;omega)
 simpa using this
section
variable {H : Heap} (hL : Lb H)
include hL
theorem cDiskCheck{sa wa:O}{sn sc wn wc:Nat}{d:Dsk}(hd:DskAt H d sa sn sc wa wn wc):Spec Tryz.prog 142 [dskArg sa sn sc wa wn wc] H fun v _=>v=i64 (dskErr d):=by
 refine TryzvcJ Tryz.func142 (by kernel_rfl) (by kernel_rfl) _ rfl (fun base K=>vd60 sa wa sn sc wn wc base H K) fun base hb=>fun b=> ?_
 have hs:=hd.safe.len
 have hw:=hd.wait.len
 have h1:=hd.safe.le
 have h2:=hd.wait.le
 refine⟨(60000:Int)<sn∨(60000:Int)-sn<wn,⟨fun h=>⟨rfl,subH,.inl h⟩,fun h=> ?_⟩,fun h=> ?_,fun h=> ?_⟩
 ·rintro r rfl
  rw[wrap_in (by omega) (by omega)]
  exact⟨rfl,subH,⟨fun h'=>h'.resolve_left h,fun h'=> .inr h'⟩⟩
 ·unfold dskErr
  by_cases hc:60000<d.safe.length
  ·rw[if_pos hc]
  ·rw[if_neg hc,if_pos (by omega)]
 ·have e:dskErr d=(linesF 200 0 d.safe).2.2:=by
   unfold dskErr
   rw[if_neg (by omega),if_neg (by omega)]
  rw[e]
  refine⟨d.safe,hs,(hd.safe.conv (Ext.refl _)).2,?_⟩
  refine(cLines hL (s:=⟨d.safe.toArray⟩) (most:=200) (by rw[size_mk];omega) (by omega)).mono fun v H1 e1 hv=> ?_
  obtain⟨a,n,c,G,rows,hv,_⟩:=hv
  exact⟨a,n,c,_,_,hv,fun _=>rfl⟩
theorem cPut{sa wa ra:O}{sn sc wn wc rl rc:Nat}{d:Dsk}{r:Recd}(hd:DskAt H d sa sn sc wa wn wc)(hr:Pins H ra rl r.rel.lock):Spec Tryz.prog 243 [dskArg sa sn sc wa wn wc,recArg r ra rl rc] H (DskOut H (dskPut d r)):=by
 refine TryzvcJ Tryz.func243 (by kernel_rfl) (by kernel_rfl) _ rfl (fun base K=>vd32 sa wa sn sc wn wc r.kind r.agent r.try_ r.num r.rel.id r.good ra rl rc base H K) fun base hb=>fun b b' b''=> ?_
 refine(cDiskCheck hL hd).int1 fun H1 e1 hN1=>⟨fun h=> ?_,fun h=> ?_⟩
 ·rw[dskPut,if_neg h];exact DskOut.bad
 have h:=Decidable.not_not.1 h
 obtain⟨z1,z2,z3⟩:=dskErr_zero h
 have hs:=hd.safe.len
 have hw:=hd.wait.len
 refine(cNotePrint (hL.ext e1) (r:=r) (c:=rc) (hr.ext' e1)).strE fun H2 e2 hN2=>⟨fun h2=> ?_,fun h2=> ?_⟩
 ·rw[dskPut,if_pos h,if_neg h2];exact DskOut.bad
 have h2:=Decidable.not_not.1 h2
 rw[if_pos h2]
 have hlt:=recText_len h2
 rintro q rfl
 rw[size_mk,wrap_in (by omega) (by omega)]
 rintro q rfl
 rw[wrap_in (by omega) (by omega)]
 rintro q rfl
 rw[wrap_in (by omega) (by omega)]
 refine⟨fun h3=> ?_,fun h3=> ?_⟩
 ·rw[dskPut,if_pos h,if_pos h2,if_pos (by omega)];exact DskOut.bad
 have hout:dskPut d r= .ok ⟨d.safe,d.wait++(recText r++[10])⟩:=by rw[dskPut,if_pos h,if_pos h2,if_neg (by omega)]
 rw[hout]
 have e12:=Ext.trans e1 e2
 have fin:∀ {Ha Hb Hf:Heap} {a1:O} {n1 c1:Nat} {a2:O} {n2 c2:Nat},Ext H Ha->Fresh Ha Hb 5 1 a1 n1 c1 (d.safe.flatMap u8Cell)->Ext Hb Hf->Row base Hf 5 1 a2 n2 c2 ((d.wait++recText r++[10]).flatMap u8Cell)->
   DskOut H (.ok ⟨d.safe,d.wait++(recText r++[10])⟩) (.tuple #[.agg #[.slice a1 n1 c1,.slice a2 n2 c2],.int .i64 0]) Hf:=fun{Ha Hb Hf a1 n1 c1 a2 n2 c2} eA hF eF hR=>by
  have hR':=hR.fresh hb
  rw[List.append_assoc] at hR'
  exact⟨_,_,_,_,_,_,rfl,hF.bytes.ext' (newOf_both eA eF),hR'.bytes,hF.le,hR'.le⟩
 have hz:∀(l:List UInt8),(⟨l.toArray⟩:ByteArray).size=l.length:=size_mk
 have hd2:=hd.ext e12
 refine⟨?_,fun g Hg hNg hgn hg=> ?_⟩
 ·refine(cCloneB hd2.safe (by omega)).mono fun v H3 e3 hv=> ?_
  obtain⟨a1,n1,c1,rfl,hF1⟩:=hv
  refine⟨a1,n1,c1,rfl,fun hN3=>⟨?_,fun g Hg hNg hgn hg=> ?_⟩⟩
  ·refine(cCloneB (hd2.wait.ext' e3) (by omega)).mono fun v H4 e4 hv=> ?_
   obtain⟨a2,n2,c2,rfl,hF2⟩:=hv
   have hn2:n2=d.wait.length:=by have:=hF2.1;rw[flat_len u8Cell_len] at this;omega
   refine⟨a2,n2,c2,rfl,fun hN4=>⟨?_,fun g Hg hNg hgn hg=> ?_⟩⟩
   ·refine putMid (text:=recText r) (s:=⟨(recText r).toArray⟩) rfl rfl (hF2.row hN4) e4 (apart_fresh hF2) (by omega) fun a' c' H5 hG5 e5 hA5 hR5=>fun g H6 hN6 hgn hg=> ?_
    refine putEnd (hR5.ext hN6.ext) (Ext.trans e5 hN6.ext) hA5 (by rw[hz];omega) hg fun a'' c'' H7 e7 hA7 hR7=> ?_
    exact fin e12 hF1 e7 hR7
   ·refine putMid (text:=recText r) (s:=⟨(recText r).toArray⟩) rfl rfl ((hF2.row hN4).ext hNg.ext) (Ext.trans e4 hNg.ext) (apart_fresh hF2) (by omega) fun a' c' H5 hG5 e5 hA5 hR5=> ?_
    refine putEnd hR5 e5 hA5 (by rw[hz];omega) (box_stays (H2:=H4) (hF2.row hN4) hgn hg hG5) fun a'' c'' H7 e7 hA7 hR7=> ?_
    exact fin e12 hF1 e7 hR7
  ·refine(cCloneB ((hd2.wait.ext' e3).ext' hNg.ext) (by omega)).mono fun v H4 e4 hv=> ?_
   obtain⟨a2,n2,c2,rfl,hF2⟩:=hv
   have hn2:n2=d.wait.length:=by have:=hF2.1;rw[flat_len u8Cell_len] at this;omega
   refine⟨a2,n2,c2,rfl,fun hN4=> ?_⟩
   refine putMid (text:=recText r) (s:=⟨(recText r).toArray⟩) rfl rfl (hF2.row hN4) e4 (apart_fresh hF2) (by omega) fun a' c' H5 hG5 e5 hA5 hR5=> ?_
   refine putEnd hR5 e5 hA5 (by rw[hz];omega) (e5 _ _ hg) fun a'' c'' H7 e7 hA7 hR7=> ?_
   exact fin e12 hF1 (Ext.trans hNg.ext e7) hR7
 ·refine(cCloneB (hd2.safe.ext' hNg.ext) (by omega)).mono fun v H3 e3 hv=> ?_
  obtain⟨a1,n1,c1,rfl,hF1⟩:=hv
  refine⟨a1,n1,c1,rfl,fun hN3=> ?_⟩
  refine(cCloneB ((hd2.wait.ext' hNg.ext).ext' e3) (by omega)).mono fun v H4 e4 hv=> ?_
  obtain⟨a2,n2,c2,rfl,hF2⟩:=hv
  have hn2:n2=d.wait.length:=by have:=hF2.1;rw[flat_len u8Cell_len] at this;omega
  refine⟨a2,n2,c2,rfl,fun hN4=> ?_⟩
  refine putMid (text:=recText r) (s:=⟨(recText r).toArray⟩) rfl rfl (hF2.row hN4) e4 (apart_fresh hF2) (by omega) fun a' c' H5 hG5 e5 hA5 hR5=> ?_
  refine putEnd hR5 e5 hA5 (by rw[hz];omega) (e5 _ _ (e3 _ _ hg)) fun a'' c'' H7 e7 hA7 hR7=> ?_
  exact fin (Ext.trans e12 hNg.ext) hF1 e7 hR7
theorem cSync{sa wa:O}{sn sc wn wc:Nat}{d:Dsk}(hd:DskAt H d sa sn sc wa wn wc):Spec Tryz.prog 244 [dskArg sa sn sc wa wn wc] H (DskOut H (dskSync d)):=by
 refine TryzvcJ Tryz.func244 (by kernel_rfl) (by kernel_rfl) _ rfl (fun base K=>vd33 sa wa sn sc wn wc base H K) fun base hb=>fun b b'=> ?_
 refine(cDiskCheck hL hd).int1 fun H1 e1 hN1=>⟨fun h=> ?_,fun h=> ?_⟩
 ·rw[dskSync,if_neg h];exact DskOut.bad
 have h:=Decidable.not_not.1 h
 obtain⟨z1,z2,z3⟩:=dskErr_zero h
 intro g H2 hN2 hgn hg
 have hd2:=hd.ext (Ext.trans e1 hN2.ext)
 refine(cJoin2 hg hd2.safe hd2.wait (by omega)).mono fun v H3 e3 hv=> ?_
 obtain⟨a,n,c,rfl,hF⟩:=hv
 refine⟨a,n,c,rfl,fun hN3=>fun b3=> ?_⟩
 have eH:Ext H H3:=Ext.trans (Ext.trans e1 hN2.ext) e3
 have hD:DskAt (newOf H H3) ⟨d.safe++d.wait,[]⟩ a n c none 0 0:=⟨hF.bytes.ext' (newOf_mono (Ext.trans e1 hN2.ext)),Sl.nil,hF.le,by omega⟩
 refine(cDiskCheck (hL.ext eH) (hD.ext newOf_ext)).int1 fun H4 e4 hN4=>⟨fun h4=> ?_,fun h4=> ?_⟩
 ·rw[dskSync,if_pos h,if_neg h4];exact DskOut.bad
 ·have h4:=Decidable.not_not.1 h4
  rw[dskSync,if_pos h,if_pos h4]
  exact⟨_,_,_,_,_,_,rfl,hD.ext (newOf_right e4)⟩
theorem cRecover{sa wa:O}{sn sc wn wc:Nat}{d:Dsk}(hd:DskAt H d sa sn sc wa wn wc):Spec Tryz.prog 64 [dskArg sa sn sc wa wn wc] H fun v H'=>∃a1 n1 c1 a2 n2 c2 a3 n3 c3 G rows,v= .tuple #[dskArg a1 n1 c1 a2 n2 c2,.slice a3 n3 c3,i64 (dskErr d)]/\
  DskAt (newOf H H') (if dskErr d=0 then dskBack d else dsk0) a1 n1 c1 a2 n2 c2/\NewSl RRec 7 126 H G H' a3 n3 c3 rows (if dskErr d=0 then dskRecs d else []):=by
 refine TryzvcJ Tryz.func64 (by kernel_rfl) (by kernel_rfl) _ rfl (fun base K=>vd36 sa wa sn sc wn wc base H K) fun base hb=>fun b b'=> ?_
 refine(cDiskCheck hL hd).int1 fun H1 e1 hN1=>⟨fun h=> ?_,fun h=> ?_⟩
 ·rw[if_neg h,if_neg h]
  exact⟨none,0,0,none,0,0,none,0,0,fun _=>none,[],rfl,DskAt.zero,Fresh.zero,by simp,trivial,fun _ _ h=>(by cases h),fun h=>absurd rfl h,fun _ _ h=>(by cases h)⟩
 have h:=Decidable.not_not.1 h
 rw[if_pos h,if_pos h,h]
 obtain⟨z1,z2,z3⟩:=dskErr_zero h
 have hs:=hd.safe.len
 have hw:=hd.wait.len
 have hle:=hd.wle
 have hd1:=hd.ext e1
 refine⟨d.safe,hs,(hd1.safe.conv (Ext.refl _)).2,?_⟩
 refine(cLines (hL.ext e1) (s:=⟨d.safe.toArray⟩) (most:=200) (by rw[size_mk];omega) (by omega)).mono fun v H2 e2 hv=> ?_
 obtain⟨a3,n3,c3,G3,rows3,rfl,hS3⟩:=hv
 rw[data_mk] at hS3
 refine⟨a3,n3,c3,_,_,rfl,fun hN2=> ?_⟩
 obtain⟨i1,i2,i3,i4,i5⟩:=linesF_ok (most:=200) d.safe.length (s:=d.safe) (k:=0) (Nat.le_refl _) (by omega)
 have hO3:=hS3.own hN2
 obtain⟨hr3,hx3⟩:=hO3.rlen (by omega)
 have e12:=Ext.trans e1 e2
 have hd2:=hd.ext e12
 refine⟨d.wait,hw,(hd2.wait.conv (Ext.refl _)).2,?_⟩
 rintro r rfl
 rw[wrap_in (by omega) (by omega)]
 have hm:(200:Int)-n3=((200-n3:Nat):Int):=by omega
 rw[hm]
 refine(cLines (hL.ext e12) (s:=⟨d.wait.toArray⟩) (most:=200-n3) (by rw[size_mk];omega) (by omega)).mono fun v H3 e3 hv=> ?_
 obtain⟨a4,n4,c4,G4,rows4,rfl,hS4⟩:=hv
 rw[data_mk] at hS4⊢
 have hmore:linesF (200-n3) 0 d.wait=dskMore d:=by unfold dskMore;rw[←hx3]
 rw[hmore] at hS4⊢
 refine⟨a4,n4,c4,_,_,rfl,fun hN3=> ?_⟩
 have hO4:=hS4.own hN3
 obtain⟨hr4,hx4⟩:=hO4.rlen (by omega)
 have j:=linesF_ok (most:=200-(linesF 200 0 d.safe).1.length) d.wait.length (s:=d.wait) (k:=0) (Nat.le_refl _) (by omega)
 have j:(dskMore d).1.length<=200-(linesF 200 0 d.safe).1.length/\(dskMore d).2.1<=d.wait.length:=by
  obtain⟨_,j2,j3,_⟩:=j
  exact⟨by unfold dskMore;omega,j3⟩
 refine⟨by omega,by omega,fun g H4 hN4 hgn hg=> ?_⟩
 have e14:Ext H H4:=Ext.trans (Ext.trans e12 e3) hN4.ext
 have hd4:=hd.ext e14
 have hsub:Bytes H4 wa (dskMore d).2.1 (d.wait.take (dskMore d).2.1):=by
  have:=hd4.wait.sub (l:=0) (m:=(dskMore d).2.1) (a':=wa) (by omega) (fun _=>by cases wa<;>simp[Addr.add])
  rwa[List.drop_zero] at this
 rw[Int.toNat_natCast] at hg
 refine(cJoin2 hg hd4.safe hsub (by rw[List.length_take];omega)).mono fun v H5 e5 hv=> ?_
 obtain⟨a5,n5,c5,rfl,hF5⟩:=hv
 refine⟨a5,n5,c5,rfl,fun hN5=> ?_⟩
 have hO3':=(hO3.grow RRec.mono e3)
 have e35:Ext H3 H5:=Ext.trans hN4.ext e5
 have hA4:AllR RRec (G3.plus (newOf H2 H3)) rows4 (dskMore d).1:=(hS4.all_new RRec.mono).mono RRec.mono (new_in_grow hO3.sub)
 have hAw:Away H (G3.plus (newOf H2 H3)):=plus_away (hS3.away.sub e1) (newOf_away.sub e12)
 have hR4:=(hO4.row.ext e35)
 obtain⟨bl4,hc4⟩:rows4.flatten.length=n4*7/\(n4=0∨ ∃(b o:Nat),a4=some ⟨b,o,none⟩/\cellsAt H5 b o 0 rows4.flatten):=by
  refine⟨hR4.1,?_⟩
  rcases hR4.2.2.2 with⟨h0,_⟩|⟨g',k,h1,h2,h3,h4,h5,h6,h7⟩
  ·exact .inl h0
  ·exact .inr ⟨g',0,h1,cellsAt_of _ 0 fun j v hj=>by unfold Heap.cell;rw[h3];simpa using h7 j v hj⟩
 have hO5:=hO3'.ext e35
 refine⟨_,_,hO5.row,bl4,allOne_rows rrec_one hS4.all,hc4,by omega,by omega,fun a6 c6 H6 hG6 hR6=> ?_⟩
 have hO6:=hO5.grew hG6 hR6 hS4.wid hA4
 refine⟨a5,n5,c5,none,0,0,a6,n3+n4,c6,_,_,rfl,⟨hF5.bytes.ext' ?_,Sl.nil,hF5.le,by omega⟩,hO6.new hb hAw⟩
 intro x k hx
 have h1:=newOf_away x k hx
 have h2:=newOf_ext x k hx
 have hxa:c3=0∨a3≠some ⟨x,0,none⟩:=by
  by_cases hc:c3=0
  ·exact .inl hc
  ·right
   intro e
   obtain⟨g',k',q1,q2⟩:=hO3.block hc
   rw[e] at q1
   simp at q1
   subst q1
   rw[(Ext.trans e3 hN4.ext) _ _ q2] at h1;cases h1
 have hHx:H x=none:=by
  cases hq:H x with
  |none=>rfl
  |some k'=>rw[e14 x k' hq] at h1;cases h1
 unfold newOf
 rw[hHx]
 exact hG6.keep x k h2 hxa
end
open Go Go.Proofs
theorem TryzvcO{f:FuncId}{fn:Func}(hf: Tryz.prog.funcs[f]?=some fn)(hok:okFn fn=true){own:List Bx}{args:List SV}(hargs:Nat.ble args.length fn.ntmps=true)(hwf:∀s∈args,s.wf own.length){H:Heap}(Q:Value->List (List Value)->Heap->Prop)
  {F:Nat->(Value->List (List Value)->Heap->Prop)->Prop} (hv:∀base K,funV ⟨Tryz.prog,fn.ntmps,TryzMutsJ,base,H⟩ (bodyOf fn) fn.results.toList args own K=F base K)
  (h:∀base,(∀b k,H b=some k->b<base)->F base Q):SpecO Tryz.prog f (args.map (SV.val own)) own H Q:=
 specO_of (muts:= TryzMutsJ) (Tryzsum true) hf (body_some hok) rfl Tryzmixed (ops_ok hok) (Nat.le_of_ble_eq_true hargs) hwf fun base hb _=>by
  rw[hv base]
  exact h base hb
open Go Go.Proofs
open Go Go.Proofs
structure NA where
 xa:O
 xl:Nat
 xc:Nat
 ga:O
 gl:Nat
 gc:Nat
 ua:O
 ul:Nat
 uc:Nat
 va:O
 vl:Nat
 vc:Nat
abbrev nodCells(x:Nod)(q:NA):List Value:=[.slice q.xa q.xl q.xc,.int .i64 x.a.at_,.int .i64 x.a.try_,.bool x.a.going,.int .i64 x.a.goal.id,.slice q.ga q.gl q.gc,.bool x.a.good,.slice q.ua q.ul q.uc,.slice q.va q.vl q.vc,.bool x.up]
structure NodAt(H:Heap)(x:Nod)(q:NA):Prop where
 lock:Pins H q.xa q.xl x.a.lock
 goal:Pins H q.ga q.gl x.a.goal.lock
 dsk:DskAt H x.d q.ua q.ul q.uc q.va q.vl q.vc
theorem NodAt.ext{H H':Heap}{x:Nod}{q:NA}(h:NodAt H x q)(e:Ext H H'):NodAt H' x q:=⟨h.lock.ext' e,h.goal.ext' e,h.dsk.ext e⟩
def RNod:Rep Nod:=fun H r x=>∃q,r=nodCells x q/\NodAt H x q
theorem RNod.mono:RNod.Mono:=fun H H' r x e ⟨q,h1,h2⟩=>⟨q,h1,h2.ext e⟩
abbrev Nods(H:Heap)(a:O)(n:Nat)(l:List Nod):Prop:=Sl RNod 10 H a n l
structure WA where
 fa:O
 fl:Nat
 fc:Nat
 ra:O
 rl:Nat
 rc:Nat
 wa:O
 wl:Nat
 wc:Nat
 la:O
 ll:Nat
 lc:Nat
 ka:O
 kl:Nat
 kc:Nat
 sa:O
 sl:Nat
 sc:Nat
 ta:O
 tl:Nat
 tc:Nat
 na:O
 nl:Nat
 nc:Nat
 ma:O
 ml:Nat
 mc:Nat
abbrev wldCells(w:Wld)(p:WA):List Value:=[.int .i64 w.c.first.id,.slice p.fa p.fl p.fc,.slice p.ra p.rl p.rc,.slice p.wa p.wl p.wc,.int .i64 w.c.bud,.slice p.la p.ll p.lc,.int .i64 w.h.l.now,.int .i64 w.h.l.goal,.bool w.h.l.back,.slice p.ka p.kl p.kc,.int .i64 w.h.l.nx,.slice p.sa p.sl p.sc,.slice p.ta p.tl p.tc,.bool w.h.up,.slice p.na p.nl p.nc,.slice p.ma p.ml p.mc]
abbrev wldArg(w:Wld)(p:WA):Value:= .agg #[.int .i64 w.c.first.id,.slice p.fa p.fl p.fc,.slice p.ra p.rl p.rc,.slice p.wa p.wl p.wc,.int .i64 w.c.bud,.slice p.la p.ll p.lc,.int .i64 w.h.l.now,.int .i64 w.h.l.goal,.bool w.h.l.back,.slice p.ka p.kl p.kc,.int .i64 w.h.l.nx,.slice p.sa p.sl p.sc,.slice p.ta p.tl p.tc,.bool w.h.up,.slice p.na p.nl p.nc,.slice p.ma p.ml p.mc]
abbrev nodArg(x:Nod)(q:NA):Value:= .agg #[.slice q.xa q.xl q.xc,.int .i64 x.a.at_,.int .i64 x.a.try_,.bool x.a.going,.int .i64 x.a.goal.id,.slice q.ga q.gl q.gc,.bool x.a.good,.slice q.ua q.ul q.uc,.slice q.va q.vl q.vc,.bool x.up]
structure WldAt(H:Heap)(w:Wld)(p:WA):Prop where
 cfg:CfgAt H w.c p.fa p.fl p.ra p.rl p.wa p.wl
 ldr:LdrAt H w.h.l p.la p.ll p.ka p.kl
 dsk:DskAt H w.h.d p.sa p.sl p.sc p.ta p.tl p.tc
 nod:Nods H p.na p.nl w.n
 mail:Mails H p.ma p.ml w.m
theorem WldAt.ext{H H':Heap}{w:Wld}{p:WA}(h:WldAt H w p)(e:Ext H H'):WldAt H' w p:=⟨h.cfg.ext e,h.ldr.ext e,h.dsk.ext e,h.nod.ext RNod.mono e,Sl.ext RMail.mono h.mail e⟩
theorem Sl.node{H H':Heap}{a:O}{n:Nat}{xs:List Nod}(h:Nods H a n xs)(e:Ext H H'){k:Int}(h0:0<=k)(h1:k<n)
  {F:O->Nat->Nat->Int->Int->Bool->Int->O->Nat->Nat->Bool->O->Nat->Nat->O->Nat->Nat->Bool->Prop}
  (hF:∀x q,xs[k.toNat]?=some x->NodAt H x q->F q.xa q.xl q.xc x.a.at_ x.a.try_ x.a.going x.a.goal.id q.ga q.gl q.gc x.a.good q.ua q.ul q.uc q.va q.vl q.vc x.up):
  ∃(b o:Nat),a=some ⟨b,o,none⟩/\0<=k/\k<n/\∃(a:O)(n2 c:Nat)(n3 n4:Int)(b2:Bool)(n5:Int)(a1:O)(n6 c1:Nat)(b3:Bool)(a2:O)(n7 c2:Nat)(a3:O)(n8 c3:Nat)(b4:Bool),
   (H'.cell b (o+k.toNat*10)=some (.slice a n2 c)/\H'.cell b (o+k.toNat*10+1)=some (.int .i64 n3)/\H'.cell b (o+k.toNat*10+2)=some (.int .i64 n4)/\H'.cell b (o+k.toNat*10+3)=some (.bool b2)/\H'.cell b (o+k.toNat*10+4)=some (.int .i64 n5)/\H'.cell b (o+k.toNat*10+5)=some (.slice a1 n6 c1)/\H'.cell b (o+k.toNat*10+6)=some (.bool b3)/\H'.cell b (o+k.toNat*10+7)=some (.slice a2 n7 c2)/\H'.cell b (o+k.toNat*10+8)=some (.slice a3 n8 c3)/\H'.cell b (o+k.toNat*10+9)=some (.bool b4)/\True)/\F a n2 c n3 n4 b2 n5 a1 n6 c1 b3 a2 n7 c2 a3 n8 c3 b4:=by
 obtain⟨b,o,r,x,ha,hx,hr,hc⟩:=h.get h0 h1
 obtain⟨q,rfl,hq⟩:=hr
 have g:∀j v,(nodCells x q)[j]?=some v->H'.cell b (o+k.toNat*10+j)=some v:=fun j v hj=>Heap.cell_next e (hc j v hj)
 exact⟨b,o,ha,h0,h1,_,_,_,_,_,_,_,_,_,_,_,_,_,_,_,_,_,_,⟨g 0 _ rfl,g 1 _ rfl,g 2 _ rfl,g 3 _ rfl,g 4 _ rfl,g 5 _ rfl,g 6 _ rfl,g 7 _ rfl,g 8 _ rfl,g 9 _ rfl,trivial⟩,hF x q hx hq⟩
def lgErr(d:Dsk)(up:Bool):Int:=if dskErr d≠0 then dskErr d else if up=true/\d.wait≠[] then 4 else 0
theorem logOf_lg{d:Dsk}{up:Bool} :logOf d up=if lgErr d up≠0 then .error (lgErr d up) else .ok (if up=true then dskRecs d else []):=by
 unfold logOf lgErr
 by_cases h:dskErr d≠0
 ·rw[if_pos h,if_pos h,if_pos h]
 ·rw[if_neg h,if_neg h]
  by_cases h2:up=true/\d.wait≠[]
  ·rw[if_pos h2,if_pos h2,if_pos (by omega)]
  ·rw[if_neg h2,if_neg h2,if_neg (show¬(0:Int)≠0 by simp)]
section
variable {H : Heap} (hL : Lb H)
include hL
theorem cLog{sa ta:O}{sl sc tl tc:Nat}{d:Dsk}(hd:DskAt H d sa sl sc ta tl tc)(up:Bool):Spec Tryz.prog 189 [dskArg sa sl sc ta tl tc,.bool up] H fun v H'=>∃a n c,v= .tuple #[.slice a n c,i64 (lgErr d up)]/\Recs H' a n (if lgErr d up=0 then dskRecs d else []):=by
 refine TryzvcJ Tryz.func189 (by kernel_rfl) (by kernel_rfl) _ rfl (fun base K=>vx189 sa ta sl sc tl tc up base H K) fun base hb=>fun b=> ?_
 refine(cRecover hL hd).mono fun v H1 e1 hv=> ?_
 obtain⟨a1,n1,c1,a2,n2,c2,a3,n3,c3,G,rows,hv,hD,hS⟩:=hv
 refine⟨_,_,_,_,_,_,_,_,_,_,hv,fun hN1=>fun b1=> ?_⟩
 have hw:=hd.wait.len
 have hR:=hS.sl RRec.mono (by omega) hN1
 have hwl:d.wait≠[]↔0<tl:=by rw[←hw,List.length_pos_iff]
 refine⟨dskErr d=0/\up=true/\0<tl,⟨fun h0=>⟨fun hu=>⟨rfl,subH,⟨fun h=>by have:=h.2.2;omega,fun h=>⟨h0,hu,by omega⟩⟩⟩,fun hu=>⟨rfl,subH,fun h=>by have:=h.2.1;rw[hu] at this;cases this⟩⟩,fun h0=>⟨rfl,subH,fun h=>h0 h.1⟩⟩,fun h=> ?_,fun h=> ?_⟩
 ·have e:lgErr d up=4:=by unfold lgErr;rw[if_neg (by omega),if_pos ⟨h.2.1,hwl.2 h.2.2⟩]
  rw[e]
  exact⟨none,0,0,rfl,Sl.nil⟩
 ·have e:lgErr d up=dskErr d:=by
   unfold lgErr
   by_cases h0:dskErr d=0
   ·rw[if_neg (by omega),if_neg (fun h2=>h ⟨h0,h2.1,hwl.1 h2.2⟩),h0]
   ·rw[if_pos h0]
  rw[e]
  exact⟨_,_,_,rfl,hR⟩
theorem cCheckHead{w:Wld}{p:WA}(hw:WldAt H w p):Spec Tryz.prog 105 [wldArg w p] H fun v _=>v=i64 (hedErr w.c w.h):=by
 refine TryzvcJ Tryz.func105 (by kernel_rfl) (by kernel_rfl) _ rfl (fun base K=>vx105 w.c.first.id w.c.bud p.fa p.ra p.wa p.fl p.fc p.rl p.rc p.wl p.wc w.h.l.now w.h.l.goal w.h.l.nx w.h.l.back p.la p.ka p.ll p.lc p.kl p.kc p.sa p.ta p.sl p.sc p.tl p.tc w.h.up p.na p.ma p.nl p.nc p.ml p.mc base H K) fun base hb=>fun b=> ?_
 refine(cLog hL hw.dsk w.h.up).sl2 fun a n c H1 e1 hN1 hR=>⟨fun h=> ?_,fun h=> ?_⟩
 ·unfold hedErr
  rw[logOf_lg,if_pos h]
 have h:=Decidable.not_not.1 h
 rw[if_pos h] at hR
 have tailH:∀ {H2:Heap} {Ow:List Bx} {la:O} {ll lc:Nat} {ka:O} {kl kc:Nat} (e2:Ext H1 H2)(l:List Recd),l=(if w.h.up=true then dskRecs w.h.d else [])->LdrAt H2 (okLd (ledReplay w.c l)) la ll ka kl->
   ∃(φ:Prop),((errOf (ledReplay w.c l)=0->Spec Tryz.prog 36 [ldrArg (okLd (ledReplay w.c l)) la ll lc ka kl kc,ldrArg w.h.l p.la p.ll p.lc p.ka p.kl p.kc] H2 fun v H'=>∃b3:Bool,v= .bool b3/\(Next base H2 H'->Ow=Ow/\SubH H2 H'/\(φ↔b3=false)))/\(¬errOf (ledReplay w.c l)=0->Ow=Ow/\SubH H2 H2/\¬φ))/\(φ->i64 4=i64 (hedErr w.c w.h))/\(¬φ->i64 (errOf (ledReplay w.c l))=i64 (hedErr w.c w.h)):=by
  intro H2 Ow la ll lc ka kl kc e2 l hl hLd
  refine⟨errOf (ledReplay w.c l)=0/\okLd (ledReplay w.c l)≠w.h.l,⟨fun h0=>(cLdrSame hLd ((hw.ldr.ext e1).ext e2)).bool1 fun H3 e3 _=>⟨rfl,e3,?_⟩,fun h0=>⟨rfl,subH,fun h=>h0 h.1⟩⟩,fun hφ=> ?_,fun hφ=> ?_⟩
  ·rw[decide_eq_false_iff_not]
   exact⟨fun h=>h.2,fun h=>⟨h0,h⟩⟩
  ·have hE:hedErr w.c w.h=4:=by
    unfold hedErr
    rw[logOf_lg,if_neg (by omega),←hl]
    dsimp only
    cases hr:ledReplay w.c l with
    |error e=>rw[hr] at hφ;exact absurd hφ.1 (ledReplay_err hr)
    |ok x=>rw[hr] at hφ;exact if_neg hφ.2
   rw[hE]
  ·have hE:hedErr w.c w.h=errOf (ledReplay w.c l):=by
    unfold hedErr
    rw[logOf_lg,if_neg (by omega),←hl]
    dsimp only
    cases hr:ledReplay w.c l with
    |error e=>rfl
    |ok x=>rw[hr] at hφ;exact if_pos (Decidable.byContradiction fun hn=>hφ ⟨rfl,hn⟩)
   rw[hE]
 refine⟨fun hu=> ?_,fun hu=> ?_⟩
 ·refine(cReplayL (rs:=[]) (hw.cfg.ext e1) Sl.nil).ldr fun la ll lc ka kl kc H2 e2 hN2 hLd=>fun b2=> ?_
  exact tailH e2 [] (by rw[hu];rfl) hLd
 ·refine(cReplayL (hw.cfg.ext e1) hR).ldr fun la ll lc ka kl kc H2 e2 hN2 hLd=>fun b2=> ?_
  exact tailH e2 _ (by rw[if_pos (by simpa using hu)]) hLd
theorem cCheckNode{w:Wld}{p:WA}(hw:WldAt H w p){x:Nod}{q:NA}(hx:NodAt H x q):Spec Tryz.prog 106 [wldArg w p,nodArg x q] H fun v _=>v=i64 (nodErr w.c.first x):=by
 refine TryzvcJ Tryz.func106 (by kernel_rfl) (by kernel_rfl) _ rfl (fun base K=>vx106 w.c.first.id w.c.bud p.fa p.ra p.wa p.fl p.fc p.rl p.rc p.wl p.wc w.h.l.now w.h.l.goal w.h.l.nx w.h.l.back p.la p.ka p.ll p.lc p.kl p.kc p.sa p.ta p.sl p.sc p.tl p.tc w.h.up p.na p.ma p.nl p.nc p.ml p.mc x.a.at_ x.a.try_ x.a.goal.id x.a.going x.a.good q.xa q.ga q.xl q.xc q.gl q.gc q.ua q.va q.ul q.uc q.vl q.vc x.up base H K) fun base hb=>fun b b'=> ?_
 refine(cLog hL hx.dsk x.up).sl2 fun a n c H1 e1 hN1 hR=>⟨fun h=> ?_,fun h=> ?_⟩
 ·unfold nodErr
  rw[logOf_lg,if_pos h]
 have h:=Decidable.not_not.1 h
 rw[if_pos h] at hR
 have tailN:∀ {H2:Heap} {Ow:List Bx} {ya:O} {yl yc:Nat} {za:O} {zl zc:Nat} (e2:Ext H1 H2)(l:List Recd),l=(if x.up=true then dskRecs x.d else [])->Pins H2 ya yl (okA (agtReplay w.c.first l)).lock->Pins H2 za zl (okA (agtReplay w.c.first l)).goal.lock->
   ∃(φ:Prop),((errOf (agtReplay w.c.first l)=0->Spec Tryz.prog 38 [agtArg (okA (agtReplay w.c.first l)) ya yl yc za zl zc,agtArg x.a q.xa q.xl q.xc q.ga q.gl q.gc] H2 fun v H'=>∃b3:Bool,v= .bool b3/\(Next base H2 H'->Ow=Ow/\SubH H2 H'/\(φ↔b3=false)))/\(¬errOf (agtReplay w.c.first l)=0->Ow=Ow/\SubH H2 H2/\¬φ))/\(φ->i64 4=i64 (nodErr w.c.first x))/\(¬φ->i64 (errOf (agtReplay w.c.first l))=i64 (nodErr w.c.first x)):=by
  intro H2 Ow ya yl yc za zl zc e2 l hl hA hB
  refine⟨errOf (agtReplay w.c.first l)=0/\okA (agtReplay w.c.first l)≠x.a,⟨fun h0=>(cAgtSame hA hB ((hx.lock.ext' e1).ext' e2) ((hx.goal.ext' e1).ext' e2)).bool1 fun H3 e3 _=>⟨rfl,e3,?_⟩,fun h0=>⟨rfl,subH,fun h=>h0 h.1⟩⟩,fun hφ=> ?_,fun hφ=> ?_⟩
  ·rw[decide_eq_false_iff_not]
   exact⟨fun h=>h.2,fun h=>⟨h0,h⟩⟩
  ·have hE:nodErr w.c.first x=4:=by
    unfold nodErr
    rw[logOf_lg,if_neg (by omega),←hl]
    dsimp only
    cases hr:agtReplay w.c.first l with
    |error e=>rw[hr] at hφ;exact absurd hφ.1 (agtReplay_err hr)
    |ok x=>rw[hr] at hφ;exact if_neg hφ.2
   rw[hE]
  ·have hE:nodErr w.c.first x=errOf (agtReplay w.c.first l):=by
    unfold nodErr
    rw[logOf_lg,if_neg (by omega),←hl]
    dsimp only
    cases hr:agtReplay w.c.first l with
    |error e=>rfl
    |ok x=>rw[hr] at hφ;exact if_pos (Decidable.byContradiction fun hn=>hφ ⟨rfl,hn⟩)
   rw[hE]
 refine⟨fun hu=> ?_,fun hu=> ?_⟩
 ·refine(cReplay (rs:=[]) (hw.cfg.pins.ext' e1) Sl.nil).agt fun ya yl yc za zl zc H2 e2 hN2 hA hB=>fun b2=> ?_
  exact tailN e2 [] (by rw[hu];rfl) hA hB
 ·refine(cReplay (hw.cfg.pins.ext' e1) hR).agt fun ya yl yc za zl zc H2 e2 hN2 hA hB=>fun b2=> ?_
  exact tailN e2 _ (by rw[if_pos (by simpa using hu)]) hA hB
end
open Go Go.Proofs
theorem wldErr_tail{w:Wld}(h1:cfgErr w.c=0)(h2:(w.n.length:Int)=agentsOf w.c.waves)(h3:mailsCheck w.m=0)(h4:farMail w.n.length w.m=false):wldErr w=if hedErr w.c w.h≠0 then hedErr w.c w.h else nodsErr w.c.first w.n:=by
 unfold wldErr
 rw[if_neg (by omega),if_neg (by omega),if_neg (by omega),if_neg (by rw[h4];simp)]
def mlIdx(f:Mail->Bool):Int->List Mail->Int
 |_,[]=> -1
 |i,x::r=>if f x=true then i else mlIdx f (i+1) r
theorem mlIdx_any(f:Mail->Bool):∀(l:List Mail)(i:Int),0<=i->(0<=mlIdx f i l↔l.any f=true)
 | [],i,_=>by simp[mlIdx]
 |x::r,i,h=>by
  unfold mlIdx
  split
  ·rename_i e;simp[h,e]
  ·rename_i e;rw[mlIdx_any f r (i+1) (by omega)];simp[e]
theorem cFar1{H:Heap}{p:Nat}{na:O}{nn nc:Nat}(hp:H.cell p 14=some (.slice na nn nc))(m:Mail)(a:O)(l c:Nat):Spec Tryz.prog 104 [mailArg m a l c,.pointer (some ⟨p,0,none⟩)] H fun v _=>v= .bool (decide ((nn:Int)<=m.agent)):=by
 refine TryzvcJ Tryz.func104 (by kernel_rfl) (by kernel_rfl) _ rfl (fun base K=>vx104 m.agent m.try_ m.rel.id m.rep m.good a l c p base H K) fun base hb=>fun b=>⟨_,_,_,hp,?_⟩
 rfl
theorem cFar{H:Heap}{a:O}{l c:Nat}{ms:List Mail}(hx:Mails H a l ms){p:Nat}{na:O}{nn nc:Nat}(hp:H.cell p 14=some (.slice na nn nc)):Spec Tryz.prog 103 [.slice a l c,.func (.func 104) #[] #[.pointer (some ⟨p,0,none⟩)]] H fun r _=>r= .bool (farMail nn ms):=by
 have h188:Spec Tryz.prog 188 [.slice a l c,.func (.func 104) #[] #[.pointer (some ⟨p,0,none⟩)]] H fun r _=>r=i64 (mlIdx (fun m=>decide ((nn:Int)<=m.agent)) 0 ms):=by
  refine TryzvcJ Tryz.func188 (by kernel_rfl) (by kernel_rfl) _ rfl (fun base K=>vx188 a l c p base H K) fun base hb=> ?_
  have hle:=hx.le
  refine⟨fun vs _=>∃(d:Int)(k:Nat),vs=[i64 d,i64 k]/\k<=l/\mlIdx (fun m=>decide ((nn:Int)<=m.agent)) k (ms.drop k)=mlIdx (fun m=>decide ((nn:Int)<=m.agent)) 0 ms,upTo l 1,⟨0,0,rfl,by omega,rfl⟩,fun d n H' hN hI=> ?_⟩
  obtain⟨d',k,hvs,hk,hI⟩:=hI
  obtain⟨rfl,rfl⟩:d=d'/\n=(k:Int):=by simpa using hvs
  refine⟨fun hlt=>hx.mail hN.ext (by omega) hlt fun y ya yn yc hy hyp=>(cFar1 (Heap.cell_next hN.ext hp) y ya yn yc).bool1 fun H2 e2 _=>⟨fun he=> ?_,fun he=> ?_⟩,fun hge=> ?_⟩
  ·rw[Int.toNat_natCast] at hy
   rw[drop_at hy,mlIdx,if_pos he] at hI
   rw[hI]
  ·rw[Int.toNat_natCast] at hy
   rw[drop_at hy,mlIdx,if_neg (by rw[he];simp)] at hI
   rintro r rfl
   rw[wrap_in (by omega) (by omega)]
   exact⟨⟨d,k+1,rfl,by omega,hI⟩,by simp[upTo];omega⟩
  ·rw[drop_all hx.len (by omega),mlIdx] at hI;rw[hI]
 refine TryzvcJ Tryz.func103 (by kernel_rfl) (by kernel_rfl) _ rfl (fun base K=>vx103 a l c p base H K) fun base hb=> ?_
 refine h188.int1 fun H' _ _=> ?_
 have:=mlIdx_any (fun m=>decide ((nn:Int)<=m.agent)) ms 0 (by omega)
 unfold farMail
 congr 1
 cases hany:ms.any (fun m=>decide ((nn:Int)<=m.agent))
 ·rw[decide_eq_false (by rw[this,hany];simp)]
 ·rw[decide_eq_true (this.2 hany)]
section
variable {H : Heap} (hL : Lb H)
include hL
theorem cCheck{w:Wld}{p:WA}(hw:WldAt H w p):Spec Tryz.prog 31 [wldArg w p] H fun v _=>v=i64 (wldErr w):=by
 refine TryzvcJ Tryz.func31 (by kernel_rfl) (by kernel_rfl) _ rfl (fun base K=>vx31 w.c.first.id w.c.bud p.fa p.ra p.wa p.fl p.fc p.rl p.rc p.wl p.wc w.h.l.now w.h.l.goal w.h.l.nx w.h.l.back p.la p.ka p.ll p.lc p.kl p.kc p.sa p.ta p.sl p.sc p.tl p.tc w.h.up p.na p.ma p.nl p.nc p.ml p.mc base H K) fun base hb=>fun b=> ?_
 have hnl:=hw.nod.len
 have hle:=hw.nod.le
 refine(cConfig hw.cfg).int1 fun H1 e1 hN1=>⟨fun h1=> ?_,fun h1=> ?_⟩
 ·rw[wldErr,if_pos h1]
 have h1:=Decidable.not_not.1 h1
 refine(cAgents (hw.cfg.ext e1)).int1 fun H2 e2 hN2=>⟨fun h2=> ?_,fun h2=> ?_⟩
 ·rw[wldErr,if_neg (by omega),if_pos (by omega)]
 have h2:=Decidable.not_not.1 h2
 refine(cWayCheck (Sl.ext RMail.mono hw.mail (Ext.trans e1 e2))).int1 fun H3 e3 hN3=>⟨fun h3=> ?_,fun h3=> ?_⟩
 ·rw[wldErr,if_neg (by omega),if_neg (by omega),if_pos h3]
 have h3:=Decidable.not_not.1 h3
 have e13:=Ext.trans (Ext.trans e1 e2) e3
 refine⟨rfl,fun Hl hNl hbx=> ?_⟩
 refine(cFar (p:=b) (na:=p.na) (nn:=p.nl) (nc:=p.nc) (Sl.ext RMail.mono hw.mail (Ext.trans e13 hNl.ext)) (by unfold Heap.cell;rw[hbx.1];rfl)).mono fun v H4 e4 hv=> ?_
 refine⟨_,hv,fun H5 hN5 _=>⟨fun h4=> ?_,fun h4=> ?_⟩⟩
 ·rw[wldErr,if_neg (by omega),if_neg (by omega),if_neg (by omega),if_pos (by rw[hnl];exact h4)]
 have e15:=Ext.trans e13 hN5.ext
 have hT:=wldErr_tail h1 (by omega) h3 (by rw[hnl];exact h4)
 refine(cCheckHead (hL.ext e15) (hw.ext e15)).int1 fun H6 e6 hN6=>⟨fun h5=> ?_,fun h5=> ?_⟩
 ·rw[hT,if_pos h5]
 rw[if_neg h5] at hT
 refine⟨fun vs _=>∃(d:Int)(k:Nat),vs=[i64 d,i64 k]/\k<=p.nl/\nodsErr w.c.first (w.n.drop k)=nodsErr w.c.first w.n,upTo p.nl 1,⟨0,0,rfl,by omega,rfl⟩,fun d n H7 hN7 hI=> ?_⟩
 obtain⟨d',k,hvs,hk,hI⟩:=hI
 obtain⟨rfl,rfl⟩:d=d'/\n=(k:Int):=by simpa using hvs
 refine⟨fun hlt=>hw.nod.node hN7.ext (by omega) hlt fun x q hx hq=>fun b3=> ?_,fun hge=> ?_⟩
 ·rw[Int.toNat_natCast] at hx
  rw[drop_at hx,nodsErr] at hI
  refine(cCheckNode (hL.ext hN7.ext) (hw.ext hN7.ext) (hq.ext hN7.ext)).int1 fun H8 e8 _=>⟨fun h6=> ?_,fun h6=> ?_⟩
  ·rw[hT,←hI,if_pos h6]
  ·rw[if_neg h6] at hI
   rintro r rfl
   rw[wrap_in (by omega) (by omega)]
   exact⟨rfl,⟨d,k+1,rfl,by omega,hI⟩,by simp[upTo];omega⟩
 ·rw[hT,←hI,drop_all hnl (by omega),nodsErr]
end
open Go Go.Proofs
theorem Spec.frame{P:Program}{f:FuncId}{args:List Value}{G H:Heap}{Q:Value->Heap->Prop}(h:Spec P f args G Q)(e:Ext G H):
  Spec P f args H fun v H'=>∃G',Ext G G'/\Ext G' H'/\(∀x k,G' x=some k->G x=none->H x=none)/\Q v G':=fun w hw hb=>by
 refine(h w (hw.sub e) ⟨fun x hx=>(by cases hx),fun x hx=>(by cases hx),by simp⟩).mono fun en w' he=> ?_
 obtain⟨v,css,G',h1,h2,hB,hs,hbx,hN,hQ⟩:=he
 have hnew:∀x k,G' x=some k->G x=none->H x=none:=fun x k hx hn=>by
  have h0:=hN.fresh x k hx hn
  cases hh:H x with
  |none=>rfl
  |some k'=>have:=hw.lt hh;omega
 refine⟨v,css,H.plus G',h1,h2,hB,fun x k hx=> ?_,⟨fun y hy=>(by cases css<;>cases hy),fun y hy=>(by cases css<;>cases hy),by cases css<;>simp[setAll]⟩,⟨plus_left,fun x k hx hn=> ?_⟩,G',hN.ext,plus_right fun x k hx k' hh=> ?_,hnew,hQ⟩
 ·unfold Heap.plus at hx
  cases hh:H x with
  |some k'=>
   rw[hh] at hx
   obtain rfl:=Option.some.inj hx
   rw[hB.block x (hw.lt hh) (by simp)]
   exact hw x _ hh
  |none=>rw[hh] at hx;exact hs x k hx
 ·unfold Heap.plus at hx
  rw[hn] at hx
  cases hg:G x with
  |none=>exact hN.fresh x k hx hg
  |some k'=>rw[e x k' hg] at hn;cases hn
 ·cases hg:G x with
  |none=>rw[hnew x k hx hg] at hh;cases hh
  |some k0=>
   have a1:=hN.ext x k0 hg
   have a2:=e x k0 hg
   rw[hx] at a1
   rw[hh] at a2
   rw[Option.some.inj a2,←Option.some.inj a1]
end Go.Vg
