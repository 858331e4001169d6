/- What is proved here: a part of the proof of laws of this seat: what a contract is, how it comes of a condition, contracts of the functions that are reached, the plain laws. -/
import Derived.Test.YtgaegoefbekndaaGreatDoorWB4
set_option linter.unusedSimpArgs false
set_option linter.unusedVariables false
set_option maxRecDepth 100000
open Option.some renaming inj → zy
open Decidable renaming not_not → zx
open List.cons renaming inj → yx
open Int renaming toNat_natCast → zz
open Classical renaming propDecidable → zh
open List renaming flatten → yk,replicate → zk,length → zo,flatten_cons → zW,length_append → zq,take_of_length_le → zg,getElem?_map → zP,mem_of_getElem? → zt,getElem?_eq_getElem → zu,mem_append → zd,getElem?_eq_some_iff → zw,length_cons → zi,mem_cons → zm,getElem?_append_right → zY,drop_eq_nil_of_le → zO,append_nil → zZ,mem_map → zM,getElem?_append_left → zU
variable{eL aS aU ab nx k tr nK iY Cr e kd:Int}{fa ra wa la ka a qH su a' qa:Go.Vg.O}{fl fc rc wl wc aa ll lc kl kc l sU sV qI uh l' c' i n sz b o nn g ql qc:Nat}{H H' G:Go.Vg.Heap}{K:Go.Vg.KT}{ac jr gd:Bool}{xs:List Go.Vg.Kn}{m p:Go.Vg.Kn}{ys:List Go.Vg.kU}{x y:Go.Vg.jh}{vs:List Go.Value}{ty:Go.TypeId}{r:Go.Vg.bD}{rs:List Go.Vg.bD}
namespace Go.Vg
open Go Go.Proofs
open Go.Value renaming int → I, slice → S, bool → B, agg → A, tuple → T, pointer → P, string → bH
open Go.IntKind renaming i64 → Z, wrap → W
open Go.Addr renaming mk → D
open Go.Vg.Bx renaming mk → J
open Go.Vg renaming Next → X, Sp → Y, eZ → YO, i64 → U
open Go.Vg.Heap renaming cell → C
open Int renaming toNat → N
abbrev OO(e:Int)(w1:LL)(b:LI)(o:Int)(g:Heap)(c:LM)(d:Int):Prop:=
 ∀p:Int,p=W Z (e+1)->w1=w1/\b [U o,U p] g/\c [U o,U p]<c [U d,U e]
theorem vc94{rl:Nat}:
 (fV TryzMutsJ Tryz.f88 aa H [.v (A #[U eL,S fa fl fc,S ra rl rc,S wa wl wc,U aS])] [] K)=(
 (fun w1:LL=>∀a:Nat,∃(b:LI)(c:LM),b [U 0,U 0] H/\∀(d e:Int)(g:Heap),X aa H g->b [U d,U e] g->(e<(wl:Int)->∃h i,wa=some (D h i none)/\0<=e/\e<(wl:Int)/\∃j k l,C g h (i+N e*1)=some (S j k l)/\∀m:Int,m=W Z (d+if 7<(k:Int) then 7 else(k:Int))->(6<m->K (U m) [] g)/\(¬6<m->OO e w1 b m g c d))/\(¬e<(wl:Int)->K (U d) [] g)) [[U eL,S fa fl fc,S ra rl rc,S wa wl wc,U aS]]):=by kernel_rfl
theorem vc95{rl:Nat}:
 (fV TryzMutsJ Tryz.f101 aa H [.v (A #[U eL,S fa fl fc,S ra rl rc,S wa wl wc,U aS])] [] K)=(
 ∀a:Nat,(fun w1:LB=>Y 167 [A #[U eL,S fa fl fc]] H fun b c=>∃d,b=U d/\(X aa H c->(¬d=0->K (U d) [] c)/\(¬¬d=0->∃e:Prop,((¬eL=1->w1=w1/\ak c c/\e)/\(¬¬eL=1->(aS<0->w1=w1/\ak c c/\e)/\(¬aS<0->w1=w1/\ak c c/\(e↔3<aS))))/\(e->K (U 3) [] c)/\(¬e->Y 186 [S fa fl fc,S ra rl rc] c fun g h=>∃i j,g=T #[U i,U j]/\(X aa c h->(¬j=0->K (U j) [] h)/\(¬¬j=0->(0<=i->K (U 8) [] h)/\(¬0<=i->Y 88 [A #[U eL,S fa fl fc,S ra rl rc,S wa wl wc,U aS]] h fun k l=>∃m,k=U m/\(X aa h l->Y 187 [S wa wl wc,U m] l fun n o=>∃p,n=U p/\(X aa l o->K (U p) [] o))))))))) [J a false 28 [U eL,S fa fl fc,S ra rl rc,S wa wl wc,U aS]]):=by kernel_rfl
abbrev S2(q:Int)(aa:Nat)(p:Heap)(K:KT)(m:Nat):Prop:=
 0<=q/\q<=q/\N q*24<=140737488355328/\q<=9223372036854775807/\∀(r:Nat)(s:Heap),X aa p s->p r=none->s r=some (ay 95 (yk (zk (N q) [U 0,U 0,B false])))->K (T #[A #[S (some (D m 0 none)) 1 1,U 1,U 0,B false,S (some (D r 0 none)) (N q) (N q),U 1],U 0]) [] s
theorem vc84{rl:Nat}:
 (fV TryzMutsJ Tryz.f86 aa H [.v (A #[U eL,S fa fl fc,S ra rl rc,S wa wl wc,U aS])] [] K)=(
 (fun w1:LV=>∀a b:Nat,Y 101 w1 H fun c d=>∃e,c=U e/\(X aa H d->(¬e=0->K (T #[A #[S none 0 0,U 0,U 0,B false,S none 0 0,U 0],U e]) [] d)/\(¬¬e=0->Y 163 [S fa fl fc] d fun g h=>∃i j k,g=S i j k/\(X aa d h->∀l:Nat,(∀(m:Nat)(n:Heap),X aa h n->h m=none->n m=some (ay 24 [U 1,S i j k])->Y 88 w1 n fun o p=>∃q,o=U q/\(X aa n p->S2 q aa p K m))/\Y 88 w1 h fun m n=>∃o,m=U o/\(X aa h n->(∀(p:Nat)(q:Heap),X aa n q->n p=none->q p=some (ay 24 [U 1,S i j k])->S2 o aa q K p)/\0<=o/\o<=o/\N o*24<=140737488355328/\o<=9223372036854775807/\∀(p:Nat)(q:Heap),X aa n q->n p=none->q p=some (ay 95 (yk (zk (N o) [U 0,U 0,B false])))->∀(r:Nat)(s:Heap),X aa q s->q r=none->s r=some (ay 24 [U 1,S i j k])->K (T #[A #[S (some (D r 0 none)) 1 1,U 1,U 0,B false,S (some (D p 0 none)) (N o) (N o),U 1],U 0]) [] s))))) [A #[U eL,S fa fl fc,S ra rl rc,S wa wl wc,U aS]]):=by kernel_rfl
abbrev rK(h:Heap)(i j:Nat)(g k l:Int)(m:Bool):Prop:=
 C h i (j+N g*3)=some (U k)/\C h i (j+N g*3+1)=some (U l)/\C h i (j+N g*3+2)=some (B m)/\True
abbrev OP(v ac:Bool)(w1:LB)(q:Heap)(y:Prop)(t:Int):Prop:=
 (v=true->(ac=false->w1=w1/\ak q q/\y)/\(¬ac=false->w1=w1/\ak q q/\(y↔t=0)))/\(v=false->w1=w1/\ak q q/\¬y)
abbrev Da(e:Int)(w1:LL)(b:LI)(d:Int)(g:Heap)(c:LM):Prop:=
 ∀o:Int,o=W Z (e+1)->w1=w1/\b [U d,U o] g/\c [U d,U o]<c [U d,U e]
abbrev OQ(eL aS:Int)(fa ra wa:O)(fl fc rl rc wl wc:Nat)(la ka:O)(ll lc kl kc:Nat)(aU ab nx:Int)(ac:Bool)(aa:Nat)(H:Heap)(K:KT)(H':Heap)(Ed:Heap)(YM:Int)(n:Int)(b:Nat)(u0:Nat):Prop:=
 (fun w4:LV=>(fun w3:LV=>(fun w2:LL=>X aa H' Ed->(¬(kl:Int)=YM->K (U 4) [] Ed)/\(¬¬(kl:Int)=YM->∃a c,la=some (D a c none)/\Int.ofNat 0<=0/\0<(ll:Int)/\∃(d:Int)(e:O)(g h:Nat),(C Ed a (c+0*2)=some (U d)/\C Ed a (c+0*2+1)=some (S e g h)/\True)/\Y 56 [A #[U d,S e g h],A #[U eL,S fa fl fc]] Ed fun i j=>∃k,i=B k/\(X aa Ed j->(k=false->K (U 4) [] j)/\(¬k=false->∃(l:LI)(m:LM),l [U n,U 0] j/\∀(o p:Int)(q:Heap),X aa H q->l [U o,U p] q->(p<(kl:Int)->∃r s,ka=some (D r s none)/\0<=p/\p<(kl:Int)/\∃(t u:Int)(v:Bool),(rK q r s p t u v)/\∀w:Nat,(fun w1:LB=>∃x:Prop,((t<0->w1=w1/\ak q q/\x)/\(¬t<0->(3<t->w1=w1/\ak q q/\x)/\(¬3<t->(u<0->w1=w1/\ak q q/\x)/\(¬u<0->w1=w1/\ak q q/\(x↔nx<=u)))))/\(x->K (U 3) [] q)/\(¬x->∃y:Prop,((¬t=0->(ab=0->w1=w1/\ak q q/\y)/\(¬ab=0->(u=0->w1=w1/\ak q q/\y)/\(¬u=0->OP v ac w1 q y t)))/\(¬¬t=0->OP v ac w1 q y t))/\(y->K (U 4) [] q)/\(¬y->Da p w2 l o q m))) [J b false 28 w4,J u0 false 32 w3,J w false 95 [U t,U u,B v]])/\(¬p<(kl:Int)->K (U 0) [] q))))) [w4,w3]) [S la ll lc,U aU,U ab,B ac,S ka kl kc,U nx]) [U eL,S fa fl fc,S ra rl rc,S wa wl wc,U aS]
abbrev vk(e:Heap)(j l:Nat)(i m:Int)(n:O)(o p:Nat):Prop:=
 C e j (l+N i*2)=some (U m)/\C e j (l+N i*2+1)=some (S n o p)/\True
theorem vc77{rl:Nat}:
 (fV TryzMutsJ Tryz.f197 aa H [.v (A #[U eL,S fa fl fc,S ra rl rc,S wa wl wc,U aS]),.v (A #[S la ll lc,U aU,U ab,B ac,S ka kl kc,U nx])] [] K)=(
 (fun w4:LV=>(fun w3:LL=>(fun w2:LV=>∀a b:Nat,(fun w1:LB=>Y 101 w2 H fun c d=>∃e,c=U e/\(X aa H d->(¬e=0->K (U e) [] d)/\(¬¬e=0->∃g:Prop,(((ll:Int)=0->w1=w1/\ak d d/\g)/\(¬(ll:Int)=0->w1=w1/\ak d d/\(g↔6<(ll:Int))))/\(g->K (U 2) [] d)/\(¬g->∃(h:LI)(i:LM),h [U 0,U 0] d/\∀(j k:Int)(l:Heap),X aa H l->h [U j,U k] l->(k<(ll:Int)->∃m n,la=some (D m n none)/\0<=k/\k<(ll:Int)/\∃(o:Int)(p:O)(q r:Nat),(vk l m n k o p q r)/\∀s:Nat,Y 186 [S p q r,S ra rl rc] l fun t u=>∃v w,t=T #[U v,U w]/\(X aa l u->(¬w=0->K (U w) [] u)/\(¬¬w=0->(0<=v->K (U 8) [] u)/\(¬0<=v->∀x:Int,x=W Z (k+1)->(¬o=x->K (U 4) [] u)/\(¬¬o=x->Da k w3 h j u i)))))/\(¬k<(ll:Int)->∃m:Prop,((aU<1->w1=w1/\ak l l/\m)/\(¬aU<1->((ll:Int)<aU->w1=w1/\ak l l/\m)/\(¬(ll:Int)<aU->(ab<0->w1=w1/\ak l l/\m)/\(¬ab<0->((ll:Int)<ab->w1=w1/\ak l l/\m)/\(¬(ll:Int)<ab->(nx<1->w1=w1/\ak l l/\m)/\(¬nx<1->w1=w1/\ak l l/\(m↔201<nx)))))))/\(m->K (U 3) [] l)/\(¬m->(ab=aU->K (U 4) [] l)/\(¬ab=aU->(ab=0->(ac=true->K (U 4) [] l)/\(ac=false->Y 88 w2 l fun n o=>∃p,n=U p/\(OQ eL aS fa ra wa fl fc rl rc wl wc la ka ll lc kl kc aU ab nx ac aa H K l o p j a b)))/\(¬ab=0->Y 88 w2 l fun n o=>∃p,n=U p/\(OQ eL aS fa ra wa fl fc rl rc wl wc la ka ll lc kl kc aU ab nx ac aa H K l o p j a b))))))))) [J a false 28 [U eL,S fa fl fc,S ra rl rc,S wa wl wc,U aS],J b false 32 w4]) [A #[U eL,S fa fl fc,S ra rl rc,S wa wl wc,U aS]]) [[U eL,S fa fl fc,S ra rl rc,S wa wl wc,U aS],w4]) [S la ll lc,U aU,U ab,B ac,S ka kl kc,U nx]):=by kernel_rfl
theorem YN:
 (fV TryzMutsJ Tryz.f170 aa H [.v (A #[S la ll lc,U aU,U ab,B ac,S ka kl kc,U nx])] [] K)=(
 ∀a b:Nat,Y 216 [S la ll lc] H fun c d=>∃e g h,c=S e g h/\(X aa H d->Y 217 [S ka kl kc] d fun i j=>∃k l m,(fun w1:LL=>i=S k l m/\(X aa d j->∃(n:LI)(o:LM),n [U 0] j/\∀(p:Int)(q:Heap),X aa H q->n [U p] q->(p<(g:Int)->∃r s,e=some (D r s none)/\0<=p/\p<(g:Int)/\∃(t:Int)(u:O)(v w:Nat),(vk q r s p t u v w)/\∀x:Nat,Y 163 [S u v w] q fun y z=>∃a1 b1 c1,y=S a1 b1 c1/\(X aa q z->∃d1 e1,e=some (D d1 e1 none)/\0<=p/\p<(g:Int)/\∃f1:KB,z d1=some f1/\KB.free f1=true/\aa<=d1/\e1+N p*2+1+1<=KB.size f1/\∀g1:Heap,kW z d1 (e1+N p*2+1) f1 [S a1 b1 c1] g1->∀h1:Int,h1=W Z (p+1)->w1=w1/\n [U h1] g1/\o [U h1]<o [U p]))/\(¬p<(g:Int)->K (A #[S e g h,U aU,U ab,B ac,S k l m,U nx]) [] q))) [[S e g h,U aU,U ab,B ac,S k l m,U nx],[S none 0 0,U 0,U 0,B false,S none 0 0,U 0]])):=by kernel_rfl
theorem YP:
 (fV TryzMutsJ Tryz.f253 aa H [.v (A #[S la ll lc,U aU,U ab,B ac,S ka kl kc,U nx])] [] K)=(
 (fun w1:LL=>∀a:Nat,∃(b:LI)(c:LM),b [S none 0 0,U 0] H/\∀(d:O)(e g:Nat)(h:Int)(i:Heap),X aa H i->b [S d e g,U h] i->(h<(kl:Int)->∃j k,ka=some (D j k none)/\0<=h/\h<(kl:Int)/\∃(l m:Int)(n:Bool),(rK i j k h l m n)/\∀o:Nat,(l=2->∀p:Nat,∃q:List Value,bg aa i 4 1 d e g q/\(e+1)*1<=140737488355328/\e+1<=9223372036854775807/\∀(r:O)(s:Nat)(t:Heap),cu aa i t d g r s (e+1)->bg aa t 4 1 r (e+1) s (q++[B true])->∀u:Int,u=W Z (h+1)->w1=w1/\b [S r (e+1) s,U u] t/\c [S r (e+1) s,U u]<c [S d e g,U h])/\(¬l=2->∀p:Nat,∃q:List Value,bg aa i 4 1 d e g q/\(e+1)*1<=140737488355328/\e+1<=9223372036854775807/\∀(r:O)(s:Nat)(t:Heap),cu aa i t d g r s (e+1)->bg aa t 4 1 r (e+1) s (q++[B (decide (l=3))])->∀u:Int,u=W Z (h+1)->w1=w1/\b [S r (e+1) s,U u] t/\c [S r (e+1) s,U u]<c [S d e g,U h]))/\(¬h<(kl:Int)->K (S d e g) [] i)) [[S la ll lc,U aU,U ab,B ac,S ka kl kc,U nx]]):=by kernel_rfl
theorem YQ:
 (fV TryzMutsJ Tryz.f254 aa H [.v (A #[S la ll lc,U aU,U ab,B ac,S ka kl kc,U nx])] [] K)=(
 (fun w1:LL=>∀a:Nat,∃(b:LI)(c:LM),b [U 0,U 0] H/\∀(d e:Int)(g:Heap),X aa H g->b [U d,U e] g->(e<(kl:Int)->∃h i,ka=some (D h i none)/\0<=e/\e<(kl:Int)/\∃(j k:Int)(l:Bool),(rK g h i e j k l)/\∀m:Nat,(j=3->∀n:Int,n=W Z (d+1)->OO e w1 b n g c d)/\(¬j=3->Da e w1 b d g c))/\(¬e<(kl:Int)->K (U d) [] g)) [[S la ll lc,U aU,U ab,B ac,S ka kl kc,U nx]]):=by kernel_rfl
abbrev GN(K:KT)(j:Prop)(H:Heap):Prop:=
 K (B (@decide j (zh j))) [] H
theorem YR{rl:Nat}:
 (fV TryzMutsJ Tryz.f231 aa H [.v (A #[U eL,S fa fl fc,S ra rl rc,S wa wl wc,U aS]),.v (A #[S la ll lc,U aU,U ab,B ac,S ka kl kc,U nx]),.v (U k)] [] K)=(
 (fun w2:LV=>∀a b:Nat,∃c d,ka=some (D c d none)/\0<=k/\k<(kl:Int)/\∃(e g:Int)(h:Bool),(rK H c d k e g h)/\∀i:Nat,(fun w1:LB=>(ac=true->∃j:Prop,((¬e=0->w1=w1/\ak H H/\(j↔h=false))/\(¬¬e=0->w1=w1/\ak H H/\¬j))/\GN K j H)/\(ac=false->Y 253 w2 H fun j l=>∃m n o,j=S m n o/\(X aa H l->Y 252 [S wa wl wc,S m n o] l fun p q=>∃r s,p=T #[U r,U s]/\(X aa l q->(s=0->(e=0->Y 49 [S wa wl wc,U k] q fun t u=>∃v,t=U v/\(X aa q u->(v=r->Y 254 w2 u fun w x=>∃y,w=U y/\(X aa u x->K (B (decide (y<=aS))) [] x))/\(¬v=r->K (B false) [] u)))/\(¬e=0->K (B false) [] q))/\(¬s=0->K (B false) [] q))))) [J a false 28 [U eL,S fa fl fc,S ra rl rc,S wa wl wc,U aS],J b false 32 [S la ll lc,U aU,U ab,B ac,S ka kl kc,U nx],J i false 95 [U e,U g,B h]]) [A #[S la ll lc,U aU,U ab,B ac,S ka kl kc,U nx]]):=by kernel_rfl
theorem YS{rl:Nat}:
 (fV TryzMutsJ Tryz.f232 aa H [.v (A #[U eL,S fa fl fc,S ra rl rc,S wa wl wc,U aS]),.v (A #[S la ll lc,U aU,U ab,B ac,S ka kl kc,U nx])] [] K)=(
 (fun w1:LV=>∀a b:Nat,(ac=false->Y 254 w1 H fun c d=>∃e,c=U e/\(X aa H d->(e<=aS->Y 253 w1 d fun g h=>∃i j k,g=S i j k/\(X aa d h->Y 255 [S i j k,B false] h fun l m=>∃n,l=B n/\(X aa h m->K (B (decide (n=false))) [] m)))/\(¬e<=aS->K (B false) [] d)))/\(¬ac=false->Y 256 [S ka kl kc,Value.func (Fn.func 257) #[] #[]] H fun c d=>∃e,c=B e/\(X aa H d->K (B (decide (e=false))) [] d))) [A #[S la ll lc,U aU,U ab,B ac,S ka kl kc,U nx]]):=by kernel_rfl
theorem YT(a:O)(l c:Nat)(aa:Nat)(H:Heap)(K:KT):
 (fV TryzMutsJ Tryz.f256 aa H [.v (S a l c),.v (.func (.func 257) #[] #[])] [] K)=(
 Y 275 [S a l c,Value.func (Fn.func 257) #[] #[]] H fun b d=>∃e,b=U e/\(X aa H d->K (B (decide (0<=e))) [] d)):=by kernel_rfl
theorem U3{c:Nat}:
 (fV TryzMutsJ Tryz.f275 aa H [.v (S a l c),.v (.func (.func 257) #[] #[])] [] K)=(
 ∃(b:LI)(d:LM),b [U 0,U 0] H/\∀(e g:Int)(h:Heap),X aa H h->b [U e,U g] h->(g<(l:Int)->∃i j,a=some (D i j none)/\0<=g/\g<(l:Int)/\∃(k m:Int)(n:Bool),(rK h i j g k m n)/\Y 257 [A #[U k,U m,B n]] h fun o p=>∃q,o=B q/\(X aa h p->(q=true->K (U g) [] p)/\(q=false->∀r:Int,r=W Z (g+1)->b [U e,U r] p/\d [U e,U r]<d [U e,U g])))/\(¬g<(l:Int)->K (U (-1)) [] h)):=by kernel_rfl
theorem YU{st:Int}{bk:Bool}:
 (fV TryzMutsJ Tryz.f257 aa H [.v (A #[U st,U tr,B bk])] [] K)=(
 ∀a:Nat,(fun w1:LB=>∃b:Prop,((st=1->w1=w1/\ak H H/\b)/\(¬st=1->(¬st=0->w1=w1/\ak H H/\(b↔bk=false))/\(¬¬st=0->w1=w1/\ak H H/\¬b)))/\GN K b H) [J a false 95 [U st,U tr,B bk]]):=by kernel_rfl
abbrev S3(d:Value)(aa:Nat)(H e:Heap)(aU nK ab iY:Int)(ac jr:Bool)(ka:O)(kl kc:Nat)(su:O)(qI uh:Nat)(w1:LB)(c:Prop)(nx Cr:Int):Prop:=
 ∃g,d=B g/\(X aa H e->(g=true->(aU=nK->(ab=iY->∃h,aR Tryz.prog (aI BinOp.eql 4 (Operand.tmp 26) (Operand.tmp 28) (B ac) (B jr)) (B h)/\(h=true->Y 78 [S ka kl kc,S su qI uh] e fun i j=>∃k,i=B k/\(X aa e j->(k=true->w1=w1/\ak H j/\(c↔nx=Cr))/\(k=false->w1=w1/\ak H j/\¬c)))/\(¬h=true->w1=w1/\ak H e/\¬c))/\(¬ab=iY->w1=w1/\ak H e/\¬c))/\(¬aU=nK->w1=w1/\ak H e/\¬c))/\(g=false->w1=w1/\ak H e/\¬c))
theorem vc96:
 (fV TryzMutsJ Tryz.f36 aa H [.v (A #[S la ll lc,U aU,U ab,B ac,S ka kl kc,U nx]),.v (A #[S qH sU sV,U nK,U iY,B jr,S su qI uh,U Cr])] [] K)=(
 ∀a b:Nat,(fun w1:LB=>∃c:Prop,(Y 76 [S la ll lc,S qH sU sV,Value.func (Fn.func 56) #[] #[]] H fun d e=>S3 d aa H e aU nK ab iY ac jr ka kl kc su qI uh w1 c nx Cr)/\GN K c H) [J a false 32 [S la ll lc,U aU,U ab,B ac,S ka kl kc,U nx],J b false 32 [S qH sU sV,U nK,U iY,B jr,S su qI uh,U Cr]]):=by kernel_rfl
abbrev Jp(g:Int)(b:LI)(e:Bool)(h:Heap)(d:LM):Prop:=
 ∀u:Int,u=W Z (g+1)->b [B e,U u] h/\d [B e,U u]<d [B e,U g]
theorem YV{c:Nat}:
 (fV TryzMutsJ Tryz.f76 aa H [.v (S a l c),.v (S a' l' c'),.v (.func (.func 56) #[] #[])] [] K)=(
 (¬(l:Int)=(l':Int)->K (B false) [] H)/\(¬¬(l:Int)=(l':Int)->∃(b:LI)(d:LM),b [B false,U 0] H/\∀(e:Bool)(g:Int)(h:Heap),X aa H h->b [B e,U g] h->(g<(l:Int)->∃i j,a=some (D i j none)/\0<=g/\g<(l:Int)/\∃(k:Int)(m:O)(n o:Nat),(vk h i j g k m n o)/\∀p:Nat,∃q r,a'=some (D q r none)/\0<=g/\g<(l':Int)/\∃(s:Int)(t:O)(u v:Nat),(vk h q r g s t u v)/\∀w:Nat,Y 56 [A #[U k,S m n o],A #[U s,S t u v]] h fun x y=>∃z,x=B z/\(X aa h y->(z=false->K (B false) [] y)/\(¬z=false->Jp g b e y d)))/\(¬g<(l:Int)->K (B true) [] h))):=by kernel_rfl
theorem YW{c:Nat}:
 (fV TryzMutsJ Tryz.f76 aa H [.v (S a l c),.v (S a' l' c'),.v (.func (.func 77) #[] #[])] [] K)=(
 (¬(l:Int)=(l':Int)->K (B false) [] H)/\(¬¬(l:Int)=(l':Int)->∃(b:LI)(d:LM),b [B false,U 0] H/\∀(e:Bool)(g:Int)(h:Heap),X aa H h->b [B e,U g] h->(g<(l:Int)->∃i j,a=some (D i j none)/\0<=g/\g<(l:Int)/\∃(k:Int)(m:O)(n o:Nat),(vk h i j g k m n o)/\∀p:Nat,∃q r,a'=some (D q r none)/\0<=g/\g<(l':Int)/\∃(s:Int)(t:O)(u v:Nat),(vk h q r g s t u v)/\∀w:Nat,Y 77 [A #[U k,S m n o],A #[U s,S t u v]] h fun x y=>∃z,x=B z/\(X aa h y->(z=false->K (B false) [] y)/\(¬z=false->Jp g b e y d)))/\(¬g<(l:Int)->K (B true) [] h))):=by kernel_rfl
theorem YX{c:Nat}:
 (fV TryzMutsJ Tryz.f78 aa H [.v (S a l c),.v (S a' l' c')] [] K)=(
 (¬(l:Int)=(l':Int)->K (B false) [] H)/\(¬¬(l:Int)=(l':Int)->∃(b:LI)(d:LM),b [B false,U 0] H/\∀(e:Bool)(g:Int)(h:Heap),X aa H h->b [B e,U g] h->(g<(l:Int)->∃i j,a=some (D i j none)/\0<=g/\g<(l:Int)/\∃(k m:Int)(n:Bool),(rK h i j g k m n)/\∃o p,a'=some (D o p none)/\0<=g/\g<(l':Int)/\∃(q r:Int)(s:Bool),(rK h o p g q r s)/\∃t,aR Tryz.prog (aI BinOp.neq 95 (Operand.tmp 19) (Operand.tmp 23) (A #[U k,U m,B n]) (A #[U q,U r,B s])) (B t)/\(t=true->K (B false) [] h)/\(¬t=true->Jp g b e h d))/\(¬g<(l:Int)->K (B true) [] h))):=by kernel_rfl
theorem YY{c:Nat}:
 (fV TryzMutsJ Tryz.f216 aa H [.v (S a l c)] [] K)=(
 ∃b,aR Tryz.prog (aI BinOp.eql 29 (Operand.tmp 3) (Operand.const (S none 0 0)) (S a l c) (S none 0 0)) (B b)/\(b=true->K (S none 0 0) [] H)/\(¬b=true->∀(d:Nat)(e:Heap),X aa H e->H d=none->e d=some (ay 24 [])->∃g h:List Value,bg aa e 24 2 (some (D d 0 none)) 0 0 g/\zo h=l*2/\aM h=true/\(l=0∨∃i j,a=some (D i j none)/\ba e i j 0 h)/\(0+l)*32<=140737488355328/\0+l<=9223372036854775807/\∀(i:O)(j:Nat)(k:Heap),cu aa e k (some (D d 0 none)) 0 i j (0+l)->bg aa k 24 2 i (0+l) j (g++h)->K (S i (0+l) j) [] k)):=by kernel_rfl
theorem YZ{c:Nat}:
 (fV TryzMutsJ Tryz.f217 aa H [.v (S a l c)] [] K)=(
 ∃b,aR Tryz.prog (aI BinOp.eql 30 (Operand.tmp 3) (Operand.const (S none 0 0)) (S a l c) (S none 0 0)) (B b)/\(b=true->K (S none 0 0) [] H)/\(¬b=true->∀(d:Nat)(e:Heap),X aa H e->H d=none->e d=some (ay 95 [])->∃g h:List Value,bg aa e 95 3 (some (D d 0 none)) 0 0 g/\zo h=l*3/\aM h=true/\(l=0∨∃i j,a=some (D i j none)/\ba e i j 0 h)/\(0+l)*24<=140737488355328/\0+l<=9223372036854775807/\∀(i:O)(j:Nat)(k:Heap),cu aa e k (some (D d 0 none)) 0 i j (0+l)->bg aa k 95 3 i (0+l) j (g++h)->K (S i (0+l) j) [] k)):=by kernel_rfl
theorem Y0(a:O)(l c:Nat)(v:Bool)(aa:Nat)(H:Heap)(K:KT):
 (fV TryzMutsJ Tryz.f255 aa H [.v (S a l c),.v (B v)] [] K)=(
 Y 274 [S a l c,B v] H fun b d=>∃e,b=U e/\(X aa H d->K (B (decide (0<=e))) [] d)):=by kernel_rfl
theorem Y1{c:Nat}{v:Bool}:
 (fV TryzMutsJ Tryz.f274 aa H [.v (S a l c),.v (B v)] [] K)=(
 ∃(b:LI)(d:LM),b [U 0,U 0] H/\∀(e g:Int)(h:Heap),X aa H h->b [U e,U g] h->(g<(l:Int)->∃i j,a=some (D i j none)/\0<=g/\g<(l:Int)/\∃k,C h i (j+N g*1)=some (B k)/\∃m,aR Tryz.prog (aI BinOp.eql 4 (Operand.tmp 11) (Operand.tmp 15) (B v) (B k)) (B m)/\(m=true->K (U g) [] h)/\(¬m=true->∀n:Int,n=W Z (g+1)->b [U e,U n] h/\d [U e,U n]<d [U e,U g]))/\(¬g<(l:Int)->K (U (-1)) [] h)):=by kernel_rfl
theorem vc97{rl:Nat}:
 (fV TryzMutsJ Tryz.f68 aa H [.v (A #[U eL,S fa fl fc,S ra rl rc,S wa wl wc,U aS])] [] K)=(
 (fun w1:LL=>∀a:Nat,∃(b:LI)(c:LM),b [U 0,U 0,U 0] H/\∀(d e g:Int)(h:Heap),X aa H h->b [U d,U e,U g] h->(g<(wl:Int)->∃i j,wa=some (D i j none)/\0<=g/\g<(wl:Int)/\∃k l m,C h i (j+N g*1)=some (S k l m)/\∃(n:LI)(o:LM),n [U d,U e,U 0] h/\∀(p q r:Int)(s:Heap),X aa H s->n [U p,U q,U r] s->(r<(l:Int)->∀t:Int,t=W Z (q+1)->(6<t->K (U 7) [] s)/\(¬6<t->∀u:Int,u=W Z (r+1)->w1=w1/\n [U p,U t,U u] s/\o [U p,U t,U u]<o [U p,U q,U r]))/\(¬r<(l:Int)->∀t:Int,t=W Z (g+1)->w1=w1/\b [U p,U q,U t] s/\c [U p,U q,U t]<c [U d,U e,U g]))/\(¬g<(wl:Int)->K (U e) [] h)) [[U eL,S fa fl fc,S ra rl rc,S wa wl wc,U aS]]):=by kernel_rfl
theorem vc91{rl:Nat}:
 (fV TryzMutsJ Tryz.f28 aa H [.v (A #[U eL,S fa fl fc,S ra rl rc,S wa wl wc,U aS])] [] K)=(
 (fun w2:LV=>∀a:Nat,(fun w1:LB=>Y 84 [A #[U eL,S fa fl fc]] H fun b c=>∃d,b=U d/\(X aa H c->(¬d=0->K (U d) [] c)/\(¬¬d=0->∃e:Prop,((¬eL=1->w1=w1/\ak c c/\e)/\(¬¬eL=1->Y 92 [U aS,U 0,U 3] c fun g h=>∃i,g=B i/\(X aa c h->w1=w1/\ak c h/\(e↔i=false))))/\(e->K (U 3) [] c)/\(¬e->Y 93 [S fa fl fc,S ra rl rc] c fun g h=>∃i j,g=T #[U i,U j]/\(X aa c h->∃k:Prop,((j=0->w1=w1/\ak h h/\(k↔0<=i))/\(¬j=0->w1=w1/\ak h h/\¬k))/\(k->(¬Int.ofNat 8=0->K (U 8) [] h)/\(¬¬Int.ofNat 8=0->Y 68 w2 h fun l m=>∃n,l=U n/\(X aa h m->Y 94 [S wa wl wc,U n] m fun o p=>∃q,o=U q/\(X aa m p->K (U q) [] p))))/\(¬k->(¬j=0->K (U j) [] h)/\(¬¬j=0->Y 68 w2 h fun l m=>∃n,l=U n/\(X aa h m->Y 94 [S wa wl wc,U n] m fun o p=>∃q,o=U q/\(X aa m p->K (U q) [] p))))))))) [J a false 28 [U eL,S fa fl fc,S ra rl rc,S wa wl wc,U aS]]) [A #[U eL,S fa fl fc,S ra rl rc,S wa wl wc,U aS]]):=by kernel_rfl
abbrev S4(h:Int)(aa:Nat)(g:Heap)(K:KT)(c:Nat):Prop:=
 0<=h/\h<=h/\N h*24<=140737488355328/\h<=9223372036854775807/\∀(i:Nat)(j:Heap),X aa g j->g i=none->j i=some (ay 95 (yk (zk (N h) [U 0,U 0,B false])))->K (A #[S (some (D c 0 none)) 1 1,U 1,U 0,B false,S (some (D i 0 none)) (N h) (N h),U 1]) [] j
theorem vc93{rl:Nat}:
 (fV TryzMutsJ Tryz.f82 aa H [.v (A #[U eL,S fa fl fc,S ra rl rc,S wa wl wc,U aS])] [] K)=(
 (fun w1:LV=>∀a b:Nat,(∀(c:Nat)(d:Heap),X aa H d->H c=none->d c=some (ay 24 [U eL,S fa fl fc])->Y 68 w1 d fun e g=>∃h,e=U h/\(X aa d g->S4 h aa g K c))/\Y 68 w1 H fun c d=>∃e,c=U e/\(X aa H d->(∀(g:Nat)(h:Heap),X aa d h->d g=none->h g=some (ay 24 [U eL,S fa fl fc])->S4 e aa h K g)/\0<=e/\e<=e/\N e*24<=140737488355328/\e<=9223372036854775807/\∀(g:Nat)(h:Heap),X aa d h->d g=none->h g=some (ay 95 (yk (zk (N e) [U 0,U 0,B false])))->∀(i:Nat)(j:Heap),X aa h j->h i=none->j i=some (ay 24 [U eL,S fa fl fc])->K (A #[S (some (D i 0 none)) 1 1,U 1,U 0,B false,S (some (D g 0 none)) (N e) (N e),U 1]) [] j)) [A #[U eL,S fa fl fc,S ra rl rc,S wa wl wc,U aS]]):=by kernel_rfl
abbrev OR(eL aS:Int)(fa ra wa:O)(fl fc rl rc wl wc:Nat)(la ka:O)(ll lc kl kc:Nat)(aU ab nx:Int)(ac:Bool)(aa:Nat)(H:Heap)(K:KT)(Rn:Bool)(b:Nat)(u0:Nat)(b_7:Nat)(Y2:Int)(n_7:Int)(H':Heap)(φ:Prop):Prop:=
 (fun w1:LB=>Rn=true->(ac=false->w1=w1/\ak H' H'/\φ)/\(¬ac=false->(Rn=true->w1=w1/\ak H' H'/\(φ↔Y2=0))/\(Rn=false->w1=w1/\ak H' H'/\¬φ))) [J b false 28 [U eL,S fa fl fc,S ra rl rc,S wa wl wc,U aS],J u0 false 32 [S la ll lc,U aU,U ab,B ac,S ka kl kc,U nx],J b_7 false 95 [U Y2,U n_7,B Rn]]
abbrev OS(eL aS:Int)(fa ra wa:O)(fl fc rl rc wl wc:Nat)(la ka:O)(ll lc kl kc:Nat)(aU ab nx:Int)(ac:Bool)(aa:Nat)(H:Heap)(K:KT)(Rn:Bool)(b:Nat)(u0:Nat)(b_7:Nat)(Y2:Int)(n_7:Int)(H':Heap)(φ:Prop):Prop:=
 (fun w1:LB=>Rn=false->(Rn=true->w1=w1/\ak H' H'/\(φ↔Y2=0))/\(Rn=false->w1=w1/\ak H' H'/\¬φ)) [J b false 28 [U eL,S fa fl fc,S ra rl rc,S wa wl wc,U aS],J u0 false 32 [S la ll lc,U aU,U ab,B ac,S ka kl kc,U nx],J b_7 false 95 [U Y2,U n_7,B Rn]]
abbrev OT(t u:Int)(w1:LB)(q:Heap)(y:Prop)(eL aS:Int)(fa ra wa:O)(fl fc rl rc wl wc:Nat)(la ka:O)(ll lc kl kc:Nat)(aU ab nx:Int)(ac:Bool)(aa:Nat)(H:Heap)(K:KT)(v:Bool)(b u0 w:Nat):Prop:=
 (¬t=0->(u=0->w1=w1/\ak q q/\y)/\(¬u=0->(OR eL aS fa ra wa fl fc rl rc wl wc la ka ll lc kl kc aU ab nx ac aa H K v b u0 w t u q y)/\(OS eL aS fa ra wa fl fc rl rc wl wc la ka ll lc kl kc aU ab nx ac aa H K v b u0 w t u q y)))/\(¬¬t=0->(OR eL aS fa ra wa fl fc rl rc wl wc la ka ll lc kl kc aU ab nx ac aa H K v b u0 w t u q y)/\(OS eL aS fa ra wa fl fc rl rc wl wc la ka ll lc kl kc aU ab nx ac aa H K v b u0 w t u q y))
abbrev OU(eL aS:Int)(fa ra wa:O)(fl fc rl rc wl wc:Nat)(la ka:O)(ll lc kl kc:Nat)(aU ab nx:Int)(ac:Bool)(aa:Nat)(H:Heap)(K:KT)(H':Heap)(rz:Heap)(YM:Int)(n:Int)(b:Nat)(u0:Nat):Prop:=
 (fun w4:LV=>(fun w3:LV=>(fun w2:LL=>X aa H' rz->(¬(kl:Int)=YM->K (U 4) [] rz)/\(¬¬(kl:Int)=YM->∃a c,la=some (D a c none)/\Int.ofNat 0<=0/\0<(ll:Int)/\∃(d:Int)(e:O)(g h:Nat),(C rz a (c+0*2)=some (U d)/\C rz a (c+0*2+1)=some (S e g h)/\True)/\Y 77 [A #[U d,S e g h],A #[U eL,S fa fl fc]] rz fun i j=>∃k,i=B k/\(X aa rz j->(k=false->K (U 4) [] j)/\(¬k=false->∃(l:LI)(m:LM),l [U n,U 0] j/\∀(o p:Int)(q:Heap),X aa H q->l [U o,U p] q->(p<(kl:Int)->∃r s,ka=some (D r s none)/\0<=p/\p<(kl:Int)/\∃(t u:Int)(v:Bool),(rK q r s p t u v)/\∀w:Nat,(fun w1:LB=>∃x:Prop,(Y 92 [U t,U 0,U 3] q fun y z=>∃a1,y=B a1/\(X aa q z->(a1=false->w1=w1/\ak q z/\x)/\(¬a1=false->∀b1:Int,b1=W Z (nx-1)->Y 92 [U u,U 0,U b1] z fun c1 d1=>∃e1,c1=B e1/\(X aa z d1->w1=w1/\ak q d1/\(x↔e1=false)))))/\(x->K (U 3) [] q)/\(¬x->∃y:Prop,((¬t=0->(ab=0->w1=w1/\ak q q/\y)/\(¬ab=0->OT t u w1 q y eL aS fa ra wa fl fc rl rc wl wc la ka ll lc kl kc aU ab nx ac aa H K v b u0 w))/\(¬¬t=0->OT t u w1 q y eL aS fa ra wa fl fc rl rc wl wc la ka ll lc kl kc aU ab nx ac aa H K v b u0 w))/\(y->K (U 4) [] q)/\(¬y->Da p w2 l o q m))) [J b false 28 w4,J u0 false 32 w3,J w false 95 [U t,U u,B v]])/\(¬p<(kl:Int)->K (U 0) [] q))))) [w4,w3]) [S la ll lc,U aU,U ab,B ac,S ka kl kc,U nx]) [U eL,S fa fl fc,S ra rl rc,S wa wl wc,U aS]
theorem vc92{rl:Nat}:
 (fV TryzMutsJ Tryz.f155 aa H [.v (A #[U eL,S fa fl fc,S ra rl rc,S wa wl wc,U aS]),.v (A #[S la ll lc,U aU,U ab,B ac,S ka kl kc,U nx])] [] K)=(
 (fun w4:LV=>(fun w3:LL=>(fun w2:LV=>∀a b:Nat,(fun w1:LB=>Y 28 w2 H fun c d=>∃e,c=U e/\(X aa H d->(¬e=0->K (U e) [] d)/\(¬¬e=0->Y 92 [U (ll:Int),U 1,U 6] d fun g h=>∃i,g=B i/\(X aa d h->(i=false->K (U 2) [] h)/\(¬i=false->∃(j:LI)(k:LM),j [U 0,U 0] h/\∀(l m:Int)(n:Heap),X aa H n->j [U l,U m] n->(m<(ll:Int)->∃o p,la=some (D o p none)/\0<=m/\m<(ll:Int)/\∃(q:Int)(r:O)(s t:Nat),(vk n o p m q r s t)/\∀u:Nat,Y 93 [S r s t,S ra rl rc] n fun v w=>∃x y,v=T #[U x,U y]/\(X aa n w->(¬y=0->K (U y) [] w)/\(¬¬y=0->(0<=x->K (U 8) [] w)/\(¬0<=x->∀z:Int,z=W Z (q-1)->(¬z=m->K (U 4) [] w)/\(¬¬z=m->Da m w3 j l w k)))))/\(¬m<(ll:Int)->∃o:Prop,(Y 92 [U aU,U 1,U (ll:Int)] n fun p q=>∃r,p=B r/\(X aa n q->(r=false->w1=w1/\ak n q/\o)/\(¬r=false->Y 92 [U ab,U 0,U (ll:Int)] q fun s t=>∃u,s=B u/\(X aa q t->(u=false->w1=w1/\ak n t/\o)/\(¬u=false->Y 92 [U nx,U 1,U 201] t fun v w=>∃x,v=B x/\(X aa t w->w1=w1/\ak n w/\(o↔x=false)))))))/\(o->K (U 3) [] n)/\(¬o->(aU=ab->K (U 4) [] n)/\(¬aU=ab->(ac=true->(ab=0->K (U 4) [] n)/\(¬ab=0->Y 68 w2 n fun p q=>∃r,p=U r/\(OU eL aS fa ra wa fl fc rl rc wl wc la ka ll lc kl kc aU ab nx ac aa H K n q r l a b)))/\(ac=false->Y 68 w2 n fun p q=>∃r,p=U r/\(OU eL aS fa ra wa fl fc rl rc wl wc la ka ll lc kl kc aU ab nx ac aa H K n q r l a b)))))))))) [J a false 28 [U eL,S fa fl fc,S ra rl rc,S wa wl wc,U aS],J b false 32 w4]) [A #[U eL,S fa fl fc,S ra rl rc,S wa wl wc,U aS]]) [[U eL,S fa fl fc,S ra rl rc,S wa wl wc,U aS],w4]) [S la ll lc,U aU,U ab,B ac,S ka kl kc,U nx]):=by kernel_rfl
theorem vc88:
 (fV TryzMutsJ Tryz.f21 aa H [.v (A #[S la ll lc,U aU,U ab,B ac,S ka kl kc,U nx]),.v (A #[S qH sU sV,U nK,U iY,B jr,S su qI uh,U Cr])] [] K)=(
 ∀a b:Nat,(fun w1:LB=>∃c:Prop,(Y 76 [S la ll lc,S qH sU sV,Value.func (Fn.func 77) #[] #[]] H fun d e=>S3 d aa H e aU nK ab iY ac jr ka kl kc su qI uh w1 c nx Cr)/\GN K c H) [J a false 32 [S la ll lc,U aU,U ab,B ac,S ka kl kc,U nx],J b false 32 [S qH sU sV,U nK,U iY,B jr,S su qI uh,U Cr]]):=by kernel_rfl
theorem Y3:
 (fV TryzMutsJ Tryz.f214 aa H [.v (A #[S la ll lc,U aU,U ab,B ac,S ka kl kc,U nx]),.v (U k)] [] K)=(
 (fun w1:LL=>∀a:Nat,∃(b:LI)(c:LM),b [U 0,U 0] H/\∀(d e:Int)(g:Heap),X aa H g->b [U d,U e] g->(e<(kl:Int)->∃h i,ka=some (D h i none)/\0<=e/\e<(kl:Int)/\∃(j l:Int)(m:Bool),(rK g h i e j l m)/\∀n:Nat,(j=k->∀o:Int,o=W Z (d+1)->OO e w1 b o g c d)/\(¬j=k->Da e w1 b d g c))/\(¬e<(kl:Int)->K (U d) [] g)) [[S la ll lc,U aU,U ab,B ac,S ka kl kc,U nx]]):=by kernel_rfl
theorem Y4{rl:Nat}:
 (fV TryzMutsJ Tryz.f157 aa H [.v (A #[U eL,S fa fl fc,S ra rl rc,S wa wl wc,U aS]),.v (A #[S la ll lc,U aU,U ab,B ac,S ka kl kc,U nx]),.v (U k)] [] K)=(
 (fun w3:LV=>∀a b:Nat,∃c d,ka=some (D c d none)/\0<=k/\k<(kl:Int)/\∃(e g:Int)(h:Bool),(fun w2:LL=>(rK H c d k e g h)/\∀i:Nat,(fun w1:LB=>(ac=true->∃j:Prop,((h=false->w1=w1/\ak H H/\(j↔¬e=0))/\(¬h=false->w1=w1/\ak H H/\¬j))/\GN K j H)/\(ac=false->(¬e=0->K (B false) [] H)/\(¬¬e=0->Y 214 [A #[S la ll lc,U aU,U ab,B ac,S ka kl kc,U nx],U 3] H fun j l=>∃m,j=U m/\(X aa H l->(aS<m->K (B false) [] l)/\(¬aS<m->∃(n:LI)(o:LM),n [B false,U 0] l/\∀(p:Bool)(q:Int)(r:Heap),X aa H r->n [B p,U q] r->(q<(wl:Int)->∃s t,wa=some (D s t none)/\0<=q/\q<(wl:Int)/\∃u v w,C r s (t+N q*1)=some (S u v w)/\Y 137 [S u v w,U k] r fun x y=>∃z,x=B z/\(X aa r y->(z=true->K (B true) [] y)/\(z=false->∃(a1:LI)(b1:LM),a1 [B p,U 0] y/\∀(c1:Bool)(d1:Int)(e1:Heap),X aa H e1->a1 [B c1,U d1] e1->(d1<(v:Int)->∃f1 g1,u=some (D f1 g1 none)/\0<=d1/\d1<(v:Int)/\∃h1,C e1 f1 (g1+N d1*1)=some (U h1)/\∃i1 j1,ka=some (D i1 j1 none)/\0<=h1/\h1<(kl:Int)/\∃k1,C e1 i1 (j1+N h1*3)=some (U k1)/\(k1<2->K (B false) [] e1)/\(¬k1<2->∀l1:Int,l1=W Z (d1+1)->w2=w2/\a1 [B c1,U l1] e1/\b1 [B c1,U l1]<b1 [B c1,U d1]))/\(¬d1<(v:Int)->∀f1:Int,f1=W Z (q+1)->w2=w2/\n [B c1,U f1] e1/\o [B c1,U f1]<o [B p,U q]))))/\(¬q<(wl:Int)->K (B false) [] r)))))) [J a false 28 w3,J b false 32 [S la ll lc,U aU,U ab,B ac,S ka kl kc,U nx],J i false 95 [U e,U g,B h]]) [w3,[S la ll lc,U aU,U ab,B ac,S ka kl kc,U nx],[U e,U g,B h]]) [U eL,S fa fl fc,S ra rl rc,S wa wl wc,U aS]):=by kernel_rfl
theorem vc98{rl:Nat}:
 (fV TryzMutsJ Tryz.f158 aa H [.v (A #[U eL,S fa fl fc,S ra rl rc,S wa wl wc,U aS]),.v (A #[S la ll lc,U aU,U ab,B ac,S ka kl kc,U nx])] [] K)=(
 (fun w4:LV=>(fun w3:LV=>(fun w2:LL=>∀a b:Nat,(ac=false->Y 214 [A #[S la ll lc,U aU,U ab,B ac,S ka kl kc,U nx],U 2] H fun c d=>∃e,c=U e/\(X aa H d->Y 214 w3 d fun g h=>∃i,g=U i/\(X aa d h->∀j:Int,j=W Z (e+i)->(j=(kl:Int)->Y 214 w3 h fun k l=>∃m,k=U m/\(X aa h l->K (B (decide (m<=aS))) [] l))/\(¬j=(kl:Int)->K (B false) [] h))))/\(¬ac=false->∃(c:LI)(d:LM),c [B false,U 0] H/\∀(e:Bool)(g:Int)(h:Heap),X aa H h->c [B e,U g] h->(g<(kl:Int)->∃i j,ka=some (D i j none)/\0<=g/\g<(kl:Int)/\∃(k l:Int)(m:Bool),(rK h i j g k l m)/\∀n:Nat,(fun w1:LB=>∃o:Prop,((k=1->w1=w1/\ak h h/\o)/\(¬k=1->(1<k->w1=w1/\ak h h/\(o↔m=false))/\(¬1<k->w1=w1/\ak h h/\¬o)))/\(o->K (B false) [] h)/\(¬o->∀p:Int,p=W Z (g+1)->w2=w2/\c [B e,U p] h/\d [B e,U p]<d [B e,U g])) [J a false 28 w4,J b false 32 [S la ll lc,U aU,U ab,B ac,S ka kl kc,U nx],J n false 95 [U k,U l,B m]])/\(¬g<(kl:Int)->K (B true) [] h))) [w4,[S la ll lc,U aU,U ab,B ac,S ka kl kc,U nx]]) [A #[S la ll lc,U aU,U ab,B ac,S ka kl kc,U nx],U 3]) [U eL,S fa fl fc,S ra rl rc,S wa wl wc,U aS]):=by kernel_rfl
abbrev OV(aU:Int)(la:O)(ll:Nat)(H:Heap)(K:KT):Prop:=
 ∀c:Int,c=W Z (aU-1)->∃d e,la=some (D d e none)/\0<=c/\c<(ll:Int)/\∃(g:Int)(h:O)(i j:Nat),(vk H d e c g h i j)/\K (A #[U g,S h i j]) [] H
theorem Y5:
 (fV TryzMutsJ Tryz.f127 aa H [.v (A #[S la ll lc,U aU,U ab,B ac,S ka kl kc,U nx])] [] K)=(
 ∀a b:Nat,(ac=true->OV aU la ll H K)/\(ac=false->OV ab la ll H K)):=by kernel_rfl
theorem Y6:
 (fV TryzMutsJ Tryz.f154 aa H [.v (U e)] [] K)=(
 ∀a:Nat,K (T #[A #[S none 0 0,U 0,U 0,B false,S none 0 0,U 0],U e]) [] H):=by kernel_rfl
abbrev S5(aU:Int)(la:O)(ll:Nat)(e:Heap)(w2:LV)(aa:Nat)(K:KT):Prop:=
 ∀i:Int,i=W Z (aU-1)->∃j l,la=some (D j l none)/\0<=i/\i<(ll:Int)/\∃(m:Int)(n:O)(o p:Nat),(vk e j l i m n o p)/\∀q:Nat,Y 231 w2 e fun r s=>∃t,r=B t/\(X aa e s->Y 163 [S n o p] s fun u v=>∃w x y,u=S w x y/\(X aa s v->K (T #[B t,A #[U m,S w x y],U 0]) [] v))
theorem vc80{rl:Nat}:
 (fV TryzMutsJ Tryz.f220 aa H [.v (A #[U eL,S fa fl fc,S ra rl rc,S wa wl wc,U aS]),.v (A #[S la ll lc,U aU,U ab,B ac,S ka kl kc,U nx]),.v (U k)] [] K)=(
 (fun w2:LV=>∀a b c:Nat,(fun w1:LB=>Y 197 [A #[U eL,S fa fl fc,S ra rl rc,S wa wl wc,U aS],A #[S la ll lc,U aU,U ab,B ac,S ka kl kc,U nx]] H fun d e=>∃g,d=U g/\(X aa H e->(¬g=0->K (T #[B false,A #[U 0,S none 0 0],U g]) [] e)/\(¬¬g=0->∃h:Prop,((k<0->w1=w1/\ak e e/\h)/\(¬k<0->w1=w1/\ak e e/\(h↔(kl:Int)<=k)))/\(h->K (T #[B false,A #[U 0,S none 0 0],U 5]) [] e)/\(¬h->(ab=0->K (T #[B false,A #[U 0,S none 0 0],U 7]) [] e)/\(¬ab=0->(ac=true->S5 aU la ll e w2 aa K)/\(ac=false->S5 ab la ll e w2 aa K)))))) [J a false 28 [U eL,S fa fl fc,S ra rl rc,S wa wl wc,U aS],J b false 32 [S la ll lc,U aU,U ab,B ac,S ka kl kc,U nx],J c false 24 [U 0,S none 0 0]]) [A #[U eL,S fa fl fc,S ra rl rc,S wa wl wc,U aS],A #[S la ll lc,U aU,U ab,B ac,S ka kl kc,U nx],U k]):=by kernel_rfl
open Go Go.Proofs
section
variable {H : Heap} {c : dM} {fa ra wa : O} {fl fc rl rc wl wc : Nat}
theorem p9(hc:fB H c fa fl ra rl wa wl):Sp 88 [eN c fa fl fc ra rl rc wa wl wc] H fun v _=>v=i64 (bo c.bf):=by
 refine bh Tryz.func88 (fun _ _=>vc94) fun aa hb=>?_;intro b;have hl:=hc.bf.len;have hle:=hc.bf.le;refine⟨fun vs _=>∃(m:Int)(i:Nat),vs=[i64 m,i64 i]/\i<=wl/\0<=m/\m<=6/\ir m (c.bf.drop i)=bo c.bf,aN wl 1,⟨0,0,rfl,by omega,by omega,by omega,rfl⟩,fun n n1 H' hN hI=>?_⟩;obtain⟨m,i,cv,hi,m0,m6,hI⟩:=hI;obtain⟨rfl,rfl⟩:n=m/\n1=(i:Int):=by simpa using cv
 refine⟨fun bK=>hc.bf.slice hN.ext (by omega) bK fun w a' n' c' hw hs=>?_,fun gj=>?_⟩
 ·rw[zz] at hw;rw[av hw,ir] at hI;have Cp:=hs.len;have hmin:(if 7<(n':Int) then 7 else(n':Int))=min 7 (w.length:Int):=by rw[Cp];split<;>omega
  rw[hmin];rintro _ rfl;rw[aj];refine⟨fun h=>?_,fun h=>?_⟩
  ·rw[pI h] at hI;rw[hI]
  ·rw[nI h] at hI;rintro _ rfl;rw[aj];exact⟨rfl,⟨_,i+1,rfl,by omega,by omega,by omega,hI⟩,by simp[aN];omega⟩
 ·rw[aK hl (by omega),ir] at hI;rw[hI]
theorem jQ(hc:fB H c fa fl ra rl wa wl):Sp 68 [eN c fa fl fc ra rl rc wa wl wc] H fun v _=>v=i64 (gW c.bf):=by
 refine bh Tryz.func68 (fun _ _=>vc97) fun aa hb=>?_;intro b;have hl:=hc.bf.len;have hle:=hc.bf.le;refine⟨fun vs _=>∃(d:Int)(m i:Nat),vs=[i64 d,i64 m,i64 i]/\i<=wl/\m<=6/\m+(c.bf.drop i).flatten.length=c.bf.flatten.length,aN wl 2,⟨0,0,0,rfl,by omega,by omega,by simp⟩,fun n n1 n2 H' hN hI=>?_⟩;obtain⟨d,m,i,cv,hi,m6,hI⟩:=hI;obtain⟨rfl,rfl,rfl⟩:n=d/\n1=(m:Int)/\n2=(i:Int):=by simpa using cv
 refine⟨fun bK=>hc.bf.slice hN.ext (by omega) bK fun w a' n' c' hw hs=>?_,fun gj=>?_⟩
 ·rw[zz] at hw;rw[av hw,zW,zq] at hI;have Cp:=hs.len;have Ux:=hs.le;refine⟨fun vs _=>∃(d:Int)(m' j:Nat),vs=[i64 d,i64 m',i64 j]/\j<=n'/\m'<=6/\m'=m+j,aN n' 2,⟨n,m,0,rfl,by omega,m6,by omega⟩,fun n4 n5 n6 H2 dZ kZ=>?_⟩;obtain⟨d2,m2,j,Bq,hj,m26,hm2⟩:=kZ;obtain⟨rfl,rfl,rfl⟩:n4=d2/\n5=(m2:Int)/\n6=(j:Int):=by simpa using Bq
  refine⟨fun xZ=>?_,fun Ob=>?_⟩
  ·rintro _ rfl;rw[aj];refine⟨fun h=>?_,fun h=>?_⟩
   ·rw[gW,pI (by omega)]
   ·rintro _ rfl;rw[aj];exact⟨rfl,⟨n4,m2+1,j+1,by simp,by omega,by omega,by omega⟩,by simp[aN];omega⟩
  ·rintro _ rfl;rw[aj];exact⟨rfl,⟨n4,m2,i+1,by simp,by omega,m26,by omega⟩,by simp[aN];omega⟩
 ·rw[aK hl (by omega)] at hI;simp at hI;rw[gW,nI (by rw[List.length_flatten];omega),List.length_flatten,hI]
theorem EH(hc:fB H c fa fl ra rl wa wl):Sp 101 [eN c fa fl fc ra rl rc wa wl wc] H fun v _=>v=i64 (de c):=by
 refine bh Tryz.func101 (fun _ _=>vc95) fun aa hb=>?_;intro b;refine(kJ hc.pins c.first.id).bY fun H1 e1 _=>⟨fun h=>by rw[de,pI h],fun h=>?_⟩
 refine⟨c.first.id≠1∨c.aS<0∨3<c.aS,⟨fun h=>⟨rfl,fun _ _ h=>h,.inl h⟩,fun h=>⟨fun h=>⟨rfl,fun _ _ h=>h,.inr (.inl h)⟩,fun h=>⟨rfl,fun _ _ h=>h,by omega⟩⟩⟩,fun fT=>by rw[de,nI h,pI fT],fun fT=>?_⟩;refine(Eo (hc.ext e1).pins (hc.ext e1).rules).I0 fun H2 e2 _=>⟨fun h2=>by rw[de,nI h,nI fT,pI h2],fun h2=>⟨fun h3=>by rw[de,nI h,nI fT,nI h2,pI h3],fun h3=>?_⟩⟩
 refine(p9 ((hc.ext e1).ext e2)).bY fun H3 e3 _=>(Bp (((hc.ext e1).ext e2).ext e3).bf (bo c.bf)).bY fun H4 e4 _=>?_;rw[de,nI h,nI fT,nI h2,nI h3]
theorem qb(hc:fB H c fa fl ra rl wa wl):Sp 28 [eN c fa fl fc ra rl rc wa wl wc] H fun v _=>v=i64 (de c):=by
 refine bh Tryz.func28 (fun _ _=>vc91) fun aa hb=>?_;intro b;refine(mf hc.pins c.first.id).bY fun H1 e1 _=>⟨fun h=>by rw[de,pI h],fun h=>?_⟩
 refine⟨c.first.id≠1∨c.aS<0∨3<c.aS,⟨fun h=>⟨rfl,fun _ _ h=>h,.inl h⟩,fun h=>(uY c.aS 0 3).aO fun H2 e2 _=>⟨rfl,e2,by simp[me];omega⟩⟩,fun fT=>by rw[de,nI h,pI fT],fun fT=>?_⟩;refine(um (hc.ext e1).pins (hc.ext e1).rules).I0 fun H2 e2 _=>?_
 have fin:cd c.first.ap c.rules=0->broken c.first.ap c.rules<0->Sp 68 [eN c fa fl fc ra rl rc wa wl wc] H2 fun v H'=>∃n:Int,v= .int .i64 n/\(Next aa H2 H'->Sp 94 [.slice wa wl wc,.int .i64 n] H' fun v tV=>∃n:Int,v= .int .i64 n/\(Next aa H' tV->(Value.int .i64 n)=i64 (de c))):=fun h2 h3=>by
  refine(jQ ((hc.ext e1).ext e2)).bY fun H3 e3 _=>(CI (((hc.ext e1).ext e2).ext e3).bf (gW c.bf)).bY fun H4 e4 _=>?_;rw[←CF,EG,de,nI h,nI fT,nI (by omega),nI (by omega)]
 refine⟨cd c.first.ap c.rules=0/\0<=broken c.first.ap c.rules,⟨fun h2=>⟨rfl,fun _ _ h=>h,by simp[h2]⟩,fun h2=>⟨rfl,fun _ _ h=>h,by simp[h2]⟩⟩,fun hψ=>⟨fun _=>by rw[de,nI h,nI fT,nI (by omega),pI hψ.2],fun h0=>absurd (by decide) h0⟩,fun hψ=>⟨fun h2=>by rw[de,nI h,nI fT,pI h2],fun h2=>fin (by omega) (by omega)⟩⟩
end
section
variable {H : Heap} {l : jh} {la ka : O} {ll lc kl kc : Nat}
theorem OW{a:Kn}(h:xs[i]?=some a):vi (xs.take (i+1))=vi (xs.take i)++[decide (a.st=2∨a.st=3)]:=by
 rw[fQ h];simp[vi]
theorem Ro{H:Heap}{e:TypeId}{c:Nat}{xs:List Bool}(h:bg aa H e 1 a n c (xs.map Value.bool)):Sl uT 1 H a n xs:=by
 have hf:∀xs:List Bool,xs.flatMap (fun x:Bool=>[Value.bool x])=xs.map Value.bool:=fun xs=>by induction xs with|nil=>rfl|cons x r ih=>simp[ih]
 exact ik (sz:=1) (dk:=fun x:Bool=>[Value.bool x]) (fun _=>rfl) (by omega) (by rw[hf];exact h)
theorem GO(h:cQ H l la ll ka kl)(h6:l.bX.length<=6):Sp 253 [dd l la ll lc ka kl kc] H fun v H'=>∃a n c,v= .slice a n c/\Sl uT 1 H' a n (vi l.bX):=by
 refine bh Tryz.func253 (fun _ _=>YP) fun aa hb=>?_;intro b;have hl:=h.bX.len;refine⟨fun vs Hc=>∃(a:O)(c i:Nat),vs=[.slice a i c,i64 i]/\i<=kl/\bg aa Hc 4 1 a i c ((vi (l.bX.take i)).map Value.bool),aN kl 1,⟨none,0,0,rfl,by omega,bg.nil⟩,fun a n c n1 H' hN hI=>?_⟩;obtain⟨a',c',i,cv,hi,hR⟩:=hI;obtain⟨⟨rfl,rfl,rfl⟩,rfl⟩:(a=a'/\n=i/\c=c')/\n1=(i:Int):=by simpa using cv
 refine⟨fun bK=>h.bX.kn hN.ext (by omega) bK fun m hm=>fun b2=>?_,fun gj=>?_⟩
 ·rw[zz] at hm;refine⟨fun h2 b3=>⟨_,hR,by omega,by omega,fun a2 c2 H2 hG qy=>?_⟩,fun h2 b3=>⟨_,hR,by omega,by omega,fun a2 c2 H2 hG qy=>?_⟩⟩
  ·rintro _ rfl;rw[aj];refine⟨rfl,⟨a2,c2,n+1,rfl,by omega,?_⟩,by simp[aN];omega⟩;rw[OW hm,List.map_append];simpa[h2] using qy
  ·rintro _ rfl;rw[aj];refine⟨rfl,⟨a2,c2,n+1,rfl,by omega,?_⟩,by simp[aN];omega⟩;rw[OW hm,List.map_append];simpa[h2] using qy
 ·rw[zg (by omega)] at hR;exact⟨a,n,c,rfl,Ro hR⟩
theorem EI{a:Kn}(h:xs[i]?=some a):uy k (xs.take (i+1))=uy k (xs.take i)+if a.st=k then 1 else 0:=by
 rw[fQ h];unfold uy;rw[List.filter_append];by_cases h2:a.st=k<;>simp[h2]
theorem sH(k:Int)(xs:List Kn):0<=uy k xs/\uy k xs<=xs.length:=by
 unfold uy;have:=List.length_filter_le (fun a:Kn=>decide (a.st=k)) xs;omega
theorem Y7(h:cQ H l la ll ka kl):Sp 254 [dd l la ll lc ka kl kc] H fun v _=>v=i64 (uy 3 l.bX):=by
 refine bh Tryz.func254 (fun _ _=>YQ) fun aa hb=>?_;intro b;have hl:=h.bX.len;have hle:=h.bX.le;refine⟨fun vs Hc=>∃(i:Nat),vs=[i64 (uy 3 (l.bX.take i)),i64 i]/\i<=kl,aN kl 1,⟨0,rfl,by omega⟩,fun n n1 H' hN hI=>?_⟩;obtain⟨i,cv,hi⟩:=hI;obtain⟨rfl,rfl⟩:n=uy 3 (l.bX.take i)/\n1=(i:Int):=by simpa using cv
 refine⟨fun bK=>h.bX.kn hN.ext (by omega) bK fun m hm=>fun b2=>?_,fun gj=>?_⟩
 ·rw[zz] at hm;have hr:=sH 3 (l.bX.take i);have hti:(l.bX.take i).length<=i:=by simp;omega
  refine⟨fun h2=>?_,fun h2=>?_⟩
  ·rintro _ rfl _ rfl;rw[aj,aj];exact⟨rfl,⟨i+1,by rw[EI hm,pI h2];simp,by omega⟩,by simp[aN];omega⟩
  ·rintro _ rfl;rw[aj];exact⟨rfl,⟨i+1,by rw[EI hm,nI h2];simp,by omega⟩,by simp[aN];omega⟩
 ·rw[zg (by omega)]
theorem vm(h:cQ H l la ll ka kl)(k:Int):Sp 214 [dd l la ll lc ka kl kc,i64 k] H fun v _=>v=i64 (uy k l.bX):=by
 refine bh Tryz.func214 (fun _ _=>Y3) fun aa hb=>?_;intro b;have hl:=h.bX.len;have hle:=h.bX.le;refine⟨fun vs Hc=>∃(i:Nat),vs=[i64 (uy k (l.bX.take i)),i64 i]/\i<=kl,aN kl 1,⟨0,rfl,by omega⟩,fun n n1 H' hN hI=>?_⟩;obtain⟨i,cv,hi⟩:=hI;obtain⟨rfl,rfl⟩:n=uy k (l.bX.take i)/\n1=(i:Int):=by simpa using cv
 refine⟨fun bK=>h.bX.kn hN.ext (by omega) bK fun m hm=>fun b2=>?_,fun gj=>?_⟩
 ·rw[zz] at hm;have hr:=sH k (l.bX.take i);have hti:(l.bX.take i).length<=i:=by simp;omega
  refine⟨fun h2=>?_,fun h2=>?_⟩
  ·rintro _ rfl _ rfl;rw[aj,aj];exact⟨rfl,⟨i+1,by rw[EI hm,pI h2];simp,by omega⟩,by simp[aN];omega⟩
  ·rintro _ rfl;rw[aj];exact⟨rfl,⟨i+1,by rw[EI hm,nI h2];simp,by omega⟩,by simp[aN];omega⟩
 ·rw[zg (by omega)]
end
open Go Go.Proofs
theorem wB{m m':kU} :m=m'↔m.id=m'.id/\m.ap=m'.ap:=by cases m;cases m';simp
theorem OX{c:Nat}{xs:List kU}(hx:wA H a l xs)(hy:wA H a' l' ys):Sp 76 [.slice a l c,.slice a' l' c',.func (.func 56) #[] #[]] H fun v _=>v= .bool (decide (xs=ys)):=by
 refine bh Tryz.func76 (fun _ _=>YV) fun aa hb=>?_;have nb:=hx.len;have uk:=hy.len;have hle:=hx.le;refine⟨fun eE=>?_,fun he=>?_⟩
 ·rw[decide_eq_false];rintro rfl;omega
 refine⟨fun vs _=>∃(b:Bool)(k:Nat),vs=[.bool b,i64 k]/\k<=l/\(xs.drop k=ys.drop k↔xs=ys),aN l 1,⟨false,0,rfl,by omega,by simp⟩,fun b n H' hN hI=>?_⟩;obtain⟨b',k,cv,hk,hI⟩:=hI;obtain⟨rfl,rfl⟩:b=b'/\n=(k:Int):=by simpa using cv
 refine⟨fun bK=>hx.rl hN.ext (by omega) bK fun m a1 n1 c1 hm hp=>fun b4=>hy.rl hN.ext (by omega) (by omega) fun m' a2 n2 c2 nT hq=>fun b8=>(Eu (hp.ext' hN.ext) (hq.ext' hN.ext) _ _).aO fun H2 e2 _=>⟨fun h=>?_,fun h=>?_⟩,fun gj=>?_⟩
 ·rw[zz] at hm nT;rw[av hm,av nT] at hI;rw[decide_eq_false];intro e;exact absurd (yx (hI.2 e)).1 (by rw[wB];simpa using h)
 ·rw[zz] at hm nT;rw[av hm,av nT] at hI;have sS:m=m':=by rw[wB];simpa using h
  rintro r rfl;rw[aj];exact⟨⟨b,k+1,rfl,by omega,by rw[←hI];simp[sS]⟩,by simp[aN];omega⟩
 ·rw[decide_eq_true];exact hI.1 (by rw[aK nb (by omega),aK uk (by omega)])
theorem OY{c:Nat}{xs:List kU}(hx:wA H a l xs)(hy:wA H a' l' ys):Sp 76 [.slice a l c,.slice a' l' c',.func (.func 77) #[] #[]] H fun v _=>v= .bool (decide (xs=ys)):=by
 refine bh Tryz.func76 (fun _ _=>YW) fun aa hb=>?_;have nb:=hx.len;have uk:=hy.len;have hle:=hx.le;refine⟨fun eE=>?_,fun he=>?_⟩
 ·rw[decide_eq_false];rintro rfl;omega
 refine⟨fun vs _=>∃(b:Bool)(k:Nat),vs=[.bool b,i64 k]/\k<=l/\(xs.drop k=ys.drop k↔xs=ys),aN l 1,⟨false,0,rfl,by omega,by simp⟩,fun b n H' hN hI=>?_⟩;obtain⟨b',k,cv,hk,hI⟩:=hI;obtain⟨rfl,rfl⟩:b=b'/\n=(k:Int):=by simpa using cv
 refine⟨fun bK=>hx.rl hN.ext (by omega) bK fun m a1 n1 c1 hm hp=>fun b4=>hy.rl hN.ext (by omega) (by omega) fun m' a2 n2 c2 nT hq=>fun b8=>(pg (hp.ext' hN.ext) (hq.ext' hN.ext) _ _).aO fun H2 e2 _=>⟨fun h=>?_,fun h=>?_⟩,fun gj=>?_⟩
 ·rw[zz] at hm nT;rw[av hm,av nT] at hI;rw[decide_eq_false];intro e;exact absurd (yx (hI.2 e)).1 (by rw[wB];simpa using h)
 ·rw[zz] at hm nT;rw[av hm,av nT] at hI;have sS:m=m':=by rw[wB];simpa using h
  rintro r rfl;rw[aj];exact⟨⟨b,k+1,rfl,by omega,by rw[←hI];simp[sS]⟩,by simp[aN];omega⟩
 ·rw[decide_eq_true];exact hI.1 (by rw[aK nb (by omega),aK uk (by omega)])
theorem U4{xo yo:Operand}(p q:Kn):aR Tryz.prog (aI .neq 95 xo yo (.agg #[.int .i64 p.st,.int .i64 p.au,.bool p.ac]) (.agg #[.int .i64 q.st,.int .i64 q.au,.bool q.ac])) (.bool (!(p.st==q.st&&p.au==q.au&&p.ac==q.ac))):=by
 intro w;have u3:= Tryz.underlying3;have a3:= Tryz.isAgg3;have z3:= Tryz.sizeOf3;have u4:= Tryz.underlying4;have a4:= Tryz.isAgg4;have z4:= Tryz.sizeOf4;have hS: Tryz.prog.underlying 95=some (.struct (Tryz.prog.fieldsOf 95)):=by kernel_rfl
 have hp: Tryz.prog.stoodInHeld 95=false:=by kernel_rfl
 have hm: Tryz.prog.eqGuardType Tryz.prog.depth 95=false:=by kernel_rfl
 have he:(Op.equalIn 10000 95 (.agg #[.int .i64 p.st,.int .i64 p.au,.bool p.ac]) (.agg #[.int .i64 q.st,.int .i64 q.au,.bool q.ac])).run Tryz.prog w= .ok (p.st==q.st&&p.au==q.au&&p.ac==q.ac) w:=by
  rw[show(10000:Nat)=9999+1 from rfl,run_equalIn_agg w 9999 95 _ _ hS hp];simp only[Program.fieldsOf,Tryz.underlying95]
  go_simp
  by_cases h1:p.st=q.st<;>by_cases h2:p.au=q.au<;>by_cases h3:p.ac=q.ac<;>simp[h1,h2,h3]
 simp only[aI,Sem.run_bind,run_eqGuard_agg w _ 95 _ _ _ _ hm,Result.andThen_ok,run_neq_struct,he]
theorem OZ{c:Nat}{ys:List Kn}(hx:ON H a l xs)(hy:ON H a' l' ys):Sp 78 [.slice a l c,.slice a' l' c'] H fun v _=>v= .bool (decide (xs=ys)):=by
 refine bh Tryz.func78 (fun _ _=>YX) fun aa hb=>?_;have nb:=hx.len;have uk:=hy.len;have hle:=hx.le;refine⟨fun eE=>?_,fun he=>?_⟩
 ·rw[decide_eq_false];rintro rfl;omega
 refine⟨fun vs _=>∃(b:Bool)(k:Nat),vs=[.bool b,i64 k]/\k<=l/\(xs.drop k=ys.drop k↔xs=ys),aN l 1,⟨false,0,rfl,by omega,by simp⟩,fun b n H' hN hI=>?_⟩;obtain⟨b',k,cv,hk,hI⟩:=hI;obtain⟨rfl,rfl⟩:b=b'/\n=(k:Int):=by simpa using cv
 refine⟨fun bK=>hx.kn hN.ext (by omega) bK fun p hp=>hy.kn hN.ext (by omega) (by omega) fun q hq=>⟨_,U4 p q,fun h=>?_,fun h=>?_⟩,fun gj=>?_⟩
 ·rw[zz] at hp hq;rw[av hp,av hq] at hI;rw[decide_eq_false];intro e;obtain⟨rfl,_⟩:=yx (hI.2 e);simp at h
 ·rw[zz] at hp hq;rw[av hp,av hq] at hI
  have sS:p=q:=by
   cases p;cases q;simp at h;simp[h]
  rintro r rfl;rw[aj];exact⟨⟨b,k+1,rfl,by omega,by rw[←hI];simp[sS]⟩,by simp[aN];omega⟩
 ·rw[decide_eq_true];exact hI.1 (by rw[aK nb (by omega),aK uk (by omega)])
theorem O0 :x=y↔x.bJ=y.bJ/\x.aU=y.aU/\x.ab=y.ab/\x.ac=y.ac/\x.bX=y.bX/\x.nx=y.nx:=by cases x;cases y;simp
section
variable {H : Heap} {x y : jh} {la ka qH su : O} {ll lc kl kc sU sV qI uh : Nat}
theorem GP(h:cQ H x la ll ka kl)(h':cQ H y qH sU su qI):Sp 36 [dd x la ll lc ka kl kc,dd y qH sU sV su qI uh] H fun v _=>v= .bool (decide (x=y)):=by
 refine bh Tryz.func36 (fun _ _=>vc96) fun aa hb=>?_;intro b b1;refine⟨x=y,(OX h.bJ h'.bJ).aO fun H1 e1 _=>⟨fun q1=>⟨fun q2=>⟨fun q3=>⟨_,jb,fun q4=>(OZ (h.ext e1).bX (h'.ext e1).bX).aO fun H2 e2 _=>⟨fun q5=>⟨rfl,e1.trans e2,?_⟩,fun q5=>⟨rfl,e1.trans e2,fun e=>by simp[e] at q5⟩⟩,fun q4=>⟨rfl,e1,fun e=>q4 (by simp[e])⟩⟩,fun q3=>⟨rfl,e1,fun e=>q3 (by rw[e])⟩⟩,fun q2=>⟨rfl,e1,fun e=>q2 (by rw[e])⟩⟩,fun q1=>⟨rfl,e1,fun e=>by simp[e] at q1⟩⟩,?_⟩
 ·rw[O0];simp at q1 q4 q5;simp[q1,q2,q3,q4,q5]
 ·congr 1;exact decide_eq_decide.2 Iff.rfl
theorem xB(h:cQ H x la ll ka kl)(h':cQ H y qH sU su qI):Sp 21 [dd x la ll lc ka kl kc,dd y qH sU sV su qI uh] H fun v _=>v= .bool (decide (x=y)):=by
 refine bh Tryz.func21 (fun _ _=>vc88) fun aa hb=>?_;intro b b1;refine⟨x=y,(OY h.bJ h'.bJ).aO fun H1 e1 _=>⟨fun q1=>⟨fun q2=>⟨fun q3=>⟨_,jb,fun q4=>(OZ (h.ext e1).bX (h'.ext e1).bX).aO fun H2 e2 _=>⟨fun q5=>⟨rfl,e1.trans e2,?_⟩,fun q5=>⟨rfl,e1.trans e2,fun e=>by simp[e] at q5⟩⟩,fun q4=>⟨rfl,e1,fun e=>q4 (by simp[e])⟩⟩,fun q3=>⟨rfl,e1,fun e=>q3 (by rw[e])⟩⟩,fun q2=>⟨rfl,e1,fun e=>q2 (by rw[e])⟩⟩,fun q1=>⟨rfl,e1,fun e=>by simp[e] at q1⟩⟩,?_⟩
 ·rw[O0];simp at q1 q4 q5;simp[q1,q2,q3,q4,q5]
 ·congr 1;exact decide_eq_decide.2 Iff.rfl
end
section
variable {H : Heap} {c : dM} {fa ra wa : O} {fl fc rl rc wl wc : Nat} {l : jh} {la ka : O} {ll lc kl kc : Nat}
theorem Db(hc:fB H c fa fl ra rl wa wl)(h:cQ H l la ll ka kl):Sp 197 [eN c fa fl fc ra rl rc wa wl wc,dd l la ll lc ka kl kc] H fun v _=>v=i64 (db c l):=by
 refine bh Tryz.func197 (fun _ _=>vc77) fun aa hb=>?_;intro b b1;have Ii:=h.bJ.len;have hle:=h.bJ.le;have qu:=h.bX.len;have hke:=h.bX.le;refine(EH hc).bY fun H1 e1 _=>⟨fun q1=>by rw[db,pI q1],fun q1=>?_⟩
 refine⟨l.bJ.length=0∨6<l.bJ.length,⟨fun q=>⟨rfl,fun _ _ h=>h,by omega⟩,fun q=>⟨rfl,fun _ _ h=>h,by omega⟩⟩,fun q2=>by rw[db,nI q1,pI q2],fun q2=>?_⟩;refine⟨fun vs _=>∃(d:Int)(i:Nat),vs=[i64 d,i64 i]/\i<=ll/\gv c.rules i (l.bJ.drop i)=gv c.rules 0 l.bJ,aN ll 1,⟨0,0,rfl,by omega,rfl⟩,fun n n1 H2 hN hI=>?_⟩;obtain⟨d,i,cv,hi,hI⟩:=hI;obtain⟨rfl,rfl⟩:n=d/\n1=(i:Int):=by simpa using cv
 refine⟨fun bK=>h.bJ.rl hN.ext (by omega) bK fun m ma mn mc hm hp=>fun b2=>?_,fun gj=>?_⟩
 ·rw[zz] at hm;rw[av hm,gv] at hI;have bad:∀ {e:Int},gv c.rules 0 l.bJ=e->e≠0->db c l=e:=fun he h0=>by rw[db,nI q1,nI q2,pI (by omega),he]
  refine(Eo (hp.ext' hN.ext) (hc.ext hN.ext).rules).I0 fun H3 e3 _=>⟨fun q3=>?_,fun q3=>⟨fun q4=>?_,fun q4=>?_⟩⟩
  ·rw[pI q3] at hI;rw[bad hI.symm q3]
  ·rw[nI q3,pI q4] at hI;rw[bad hI.symm (by omega)]
  ·rw[nI q3,nI q4] at hI;rintro _ rfl;rw[aj];refine⟨fun q5=>?_,fun q5=>?_⟩
   ·rw[pI q5] at hI;rw[bad hI.symm (by omega)]
   ·rw[nI (by omega)] at hI;rintro _ rfl
    try rw[aj]
    exact⟨rfl,⟨_,i+1,rfl,by omega,hI⟩,by simp[aN];omega⟩
 ·rw[aK Ii (by omega),gv] at hI;have E1:db c l=if dP l then 3 else if jH c l then 4 else lg l.ab l.nx l.ac l.bX:=by rw[db,nI q1,nI q2,nI (by omega)]
  refine⟨dP l,?_,fun q3=>by rw[E1,pI q3],fun q3=>?_⟩
  ·unfold dP
   repeat' (first|exact⟨rfl,fun _ _ h=>h,by omega⟩|intro _|refine⟨?_,?_⟩)
  rw[nI q3] at E1;have form:jH c l->db c l=4:=fun q=>by rw[E1,pI q]
  refine⟨fun q4=>by rw[form (.inl q4)],fun q4=>⟨fun q5=>⟨fun q6=>by rw[form (.inr (.inl ⟨q5,q6⟩))],fun q6=>?_⟩,fun q5=>?_⟩⟩
  all_goals
   have N4:¬(l.ab=0/\l.ac=true):=by first|exact fun q=>by rw[q6] at q;cases q.2|exact fun q=>q5 q.1
   refine(p9 (hc.ext hN.ext)).bY fun H3 e3 _=>⟨fun q7=>by rw[form (.inr (.inr (.inl (by omega))))],fun q7=>h.bJ.rl (k:=0) (aH.trans hN.ext e3) (by omega) (by omega) fun m ma mn mc hm hp=>?_⟩
   have E3:=aH.trans hN.ext e3;have Qo:l.bJ[0]?=some m:=hm;refine(Eu (hp.ext' E3) (hc.ext E3).pins _ _).aO fun H4 e4 _=>⟨fun q8=>?_,fun q8=>?_⟩
   ·rw[form (.inr (.inr (.inr (by rw[Qo];intro e;simp at e;subst e;simp at q8))))]
   have hmf:m=c.first:=by rw[wB];simpa using q8
   have hF:¬jH c l:=by
    rintro(q|q|q|q)
    ·exact q4 q
    ·exact N4 q
    ·omega
    ·exact q (by rw[Qo,hmf])
   have E2:db c l=lg l.ab l.nx l.ac l.bX:=by rw[E1,nI hF]
   refine⟨fun vs _=>∃(d:Int)(i:Nat),vs=[i64 d,i64 i]/\i<=kl/\lg l.ab l.nx l.ac (l.bX.drop i)=lg l.ab l.nx l.ac l.bX,aN kl 1,⟨_,0,rfl,by omega,rfl⟩,fun n2 n3 H5 kT yD=>?_⟩;obtain⟨d5,j,O1,hj,yD⟩:=yD;obtain⟨rfl,rfl⟩:n2=d5/\n3=(j:Int):=by simpa using O1
   refine⟨fun O2=>h.bX.kn kT.ext (by omega) O2 fun z hz=>fun b6=>?_,fun Y8=>?_⟩
   ·rw[zz] at hz;rw[av hz,lg] at yD;refine⟨mG l.nx z,?_,fun q9=>by rw[E2,←yD,pI q9],fun q9=>?_⟩
    ·unfold mG
     repeat' (first|exact⟨rfl,fun _ _ h=>h,by omega⟩|intro _|refine⟨?_,?_⟩)
    refine⟨nO l.ab l.ac z,?_,fun U5=>by rw[E2,←yD,nI q9,pI U5],fun U5=>?_⟩
    ·unfold nO
     repeat' (first|exact⟨rfl,fun _ _ h=>h,by grind⟩|intro _|refine⟨?_,?_⟩)
    rw[nI q9,nI U5] at yD;rintro _ rfl;rw[aj];exact⟨rfl,⟨_,j+1,rfl,by omega,yD⟩,by simp[aN];omega⟩
   ·rw[aK qu (by omega),lg] at yD;rw[E2,←yD]
theorem EJ(hc:fB H c fa fl ra rl wa wl)(h:cQ H l la ll ka kl):Sp 155 [eN c fa fl fc ra rl rc wa wl wc,dd l la ll lc ka kl kc] H fun v _=>v=i64 (db c l):=by
 refine bh Tryz.func155 (fun _ _=>vc92) fun aa hb=>?_;intro b b1;have Ii:=h.bJ.len;have hle:=h.bJ.le;have qu:=h.bX.len;have hke:=h.bX.le;refine(qb hc).bY fun H1 e1 _=>⟨fun q1=>by rw[db,pI q1],fun q1=>?_⟩
 have q1':de c=0:=zx.1 q1;have S6:=(ic (dv q1').2.2.2.2.2.2).1;refine(uY (ll:Int) 1 6).aO fun H1' e1' _=>⟨fun q=>by rw[db,nI q1,pI (by simp[me] at q;omega)],fun q=>?_⟩
 have q2:¬(l.bJ.length=0∨6<l.bJ.length):=by simp[me] at q;omega
 refine⟨fun vs _=>∃(d:Int)(i:Nat),vs=[i64 d,i64 i]/\i<=ll/\gv c.rules i (l.bJ.drop i)=gv c.rules 0 l.bJ,aN ll 1,⟨0,0,rfl,by omega,rfl⟩,fun n n1 H2 hN hI=>?_⟩;obtain⟨d,i,cv,hi,hI⟩:=hI;obtain⟨rfl,rfl⟩:n=d/\n1=(i:Int):=by simpa using cv
 refine⟨fun bK=>h.bJ.rl hN.ext (by omega) bK fun m ma mn mc hm hp=>fun b2=>?_,fun gj=>?_⟩
 ·rw[zz] at hm;rw[av hm,gv] at hI;have bad:∀ {e:Int},gv c.rules 0 l.bJ=e->e≠0->db c l=e:=fun he h0=>by rw[db,nI q1,nI q2,pI (by omega),he]
  refine(um (hp.ext' hN.ext) (hc.ext hN.ext).rules).I0 fun H3 e3 _=>⟨fun q3=>?_,fun q3=>⟨fun q4=>?_,fun q4=>?_⟩⟩
  ·rw[pI q3] at hI;rw[bad hI.symm q3]
  ·rw[nI q3,pI q4] at hI;rw[bad hI.symm (by omega)]
  ·rw[nI q3,nI q4] at hI;rintro _ rfl
   have hw:IntKind.wrap .i64 (m.id-1)=(i:Int)↔m.id=(i:Int)+1:=by
    exact(h.bJ.rg hm).pred (by omega) (by omega)
   refine⟨fun q5=>?_,fun q5=>?_⟩
   ·rw[pI (by rw[hw] at q5;exact q5)] at hI;rw[bad hI.symm (by omega)]
   ·rw[hw] at q5;rw[nI (by omega)] at hI;rintro _ rfl;rw[aj];exact⟨rfl,⟨_,i+1,rfl,by omega,hI⟩,by simp[aN];omega⟩
 ·rw[aK Ii (by omega),gv] at hI;have E1:db c l=if dP l then 3 else if jH c l then 4 else lg l.ab l.nx l.ac l.bX:=by rw[db,nI q1,nI q2,nI (by omega)]
  refine⟨dP l,?_,fun q3=>by rw[E1,pI q3],fun q3=>?_⟩
  ·unfold dP;refine(uY l.aU 1 ll).aO fun H3 e3 _=>⟨fun w=>⟨rfl,e3,by simp[me] at w;omega⟩,fun w=>(uY l.ab 0 ll).aO fun H4 e4 _=>⟨fun w2=>⟨rfl,e3.trans e4,by simp[me] at w2;omega⟩,fun w2=>(uY l.nx 1 201).aO fun H5 e5 _=>⟨rfl,(e3.trans e4).trans e5,by simp[me] at w w2⊢;omega⟩⟩⟩
  rw[nI q3] at E1;have form:jH c l->db c l=4:=fun q=>by rw[E1,pI q]
  refine⟨fun q4=>by rw[form (.inl q4.symm)],fun q4=>⟨fun q6=>⟨fun q5=>by rw[form (.inr (.inl ⟨q5,q6⟩))],fun q5=>?_⟩,fun q6=>?_⟩⟩
  all_goals
   have N4:¬(l.ab=0/\l.ac=true):=by first|exact fun q=>q5 q.1|exact fun q=>by rw[q6] at q;cases q.2
   refine(jQ (hc.ext hN.ext)).bY fun H3 e3 _=>⟨fun q7=>by rw[form (.inr (.inr (.inl (by omega))))],fun q7=>h.bJ.rl (k:=0) (aH.trans hN.ext e3) (by omega) (by omega) fun m ma mn mc hm hp=>?_⟩
   have E3:=aH.trans hN.ext e3;have Qo:l.bJ[0]?=some m:=hm;refine(pg (hp.ext' E3) (hc.ext E3).pins _ _).aO fun H4 e4 _=>⟨fun q8=>?_,fun q8=>?_⟩
   ·rw[form (.inr (.inr (.inr (by rw[Qo];intro e;simp at e;subst e;simp at q8))))]
   have hmf:m=c.first:=by rw[wB];simpa using q8
   have hF:¬jH c l:=by
    rintro(q|q|q|q)
    ·exact q4 q.symm
    ·exact N4 q
    ·omega
    ·exact q (by rw[Qo,hmf])
   have E2:db c l=lg l.ab l.nx l.ac l.bX:=by rw[E1,nI hF]
   refine⟨fun vs _=>∃(d:Int)(i:Nat),vs=[i64 d,i64 i]/\i<=kl/\lg l.ab l.nx l.ac (l.bX.drop i)=lg l.ab l.nx l.ac l.bX,aN kl 1,⟨_,0,rfl,by omega,rfl⟩,fun n2 n3 H5 kT yD=>?_⟩;obtain⟨d5,j,O1,hj,yD⟩:=yD;obtain⟨rfl,rfl⟩:n2=d5/\n3=(j:Int):=by simpa using O1
   refine⟨fun O2=>h.bX.kn kT.ext (by omega) O2 fun z hz=>fun b6=>?_,fun Y8=>?_⟩
   ·rw[zz] at hz;rw[av hz,lg] at yD;have VY:1<=l.nx/\l.nx<=201:=by unfold dP at q3;omega
    refine⟨mG l.nx z,?_,fun q9=>by rw[E2,←yD,pI q9],fun q9=>?_⟩
    ·unfold mG;refine(uY z.st 0 3).aO fun H6 e6 _=>⟨fun w=>⟨rfl,e6,by simp[me] at w;omega⟩,fun w=>?_⟩
     rintro _ rfl;rw[aj];exact(uY z.au 0 (l.nx-1)).aO fun H7 e7 _=>⟨rfl,e6.trans e7,by simp[me] at w⊢;omega⟩
    refine⟨nO l.ab l.ac z,?_,fun U5=>by rw[E2,←yD,nI q9,pI U5],fun U5=>?_⟩
    ·unfold nO
     repeat' (first|exact⟨rfl,fun _ _ h=>h,by grind⟩|intro _|refine⟨?_,?_⟩)
    rw[nI q9,nI U5] at yD;rintro _ rfl;rw[aj];exact⟨rfl,⟨_,j+1,rfl,by omega,yD⟩,by simp[aN];omega⟩
   ·rw[aK qu (by omega),lg] at yD;rw[E2,←yD]
end
open Go Go.Proofs
def CQ(v:Bool):Int->List Bool->Int
 |_,[]=> -1
 |i,x::r=>if v=x then i else CQ v (i+1) r
theorem GQ(v:Bool):∀(l:List Bool)(i:Int),0<=i->(0<=CQ v i l↔v∈l)
 | [],i,_=>by simp[CQ]
 |x::r,i,h=>by
  unfold CQ;split
  ·rename_i e;subst e;simp[h]
  ·rename_i e;rw[GQ v r (i+1) (by omega)];simp[e]
theorem O3{c:Nat}{xs:List Bool}(hx:Sl uT 1 H a l xs)(v:Bool):Sp 255 [.slice a l c,.bool v] H fun r _=>r= .bool (decide (v∈xs)):=by
 have h155:Sp 274 [.slice a l c,.bool v] H fun r _=>r=i64 (CQ v 0 xs):=by
  refine bh Tryz.func274 (fun _ _=>Y1) fun aa hb=>?_;have hle:=hx.le;refine⟨fun vs _=>∃(d:Int)(k:Nat),vs=[i64 d,i64 k]/\k<=l/\CQ v k (xs.drop k)=CQ v 0 xs,aN l 1,⟨0,0,rfl,by omega,rfl⟩,fun d n H' hN hI=>?_⟩;obtain⟨d',k,cv,hk,hI⟩:=hI;obtain⟨rfl,rfl⟩:d=d'/\n=(k:Int):=by simpa using cv
  refine⟨fun bK=>hx.bool hN.ext (by omega) bK fun y hy=>⟨_,jb,fun he=>?_,fun he=>?_⟩,fun gj=>?_⟩
  ·rw[zz] at hy;rw[av hy,CQ,pI (by simpa using he)] at hI;rw[hI]
  ·rw[zz] at hy;rw[av hy,CQ,nI (by simpa using he)] at hI;rintro r rfl;rw[aj];exact⟨⟨d,k+1,rfl,by omega,hI⟩,by simp[aN];omega⟩
  ·rw[aK hx.len (by omega),CQ] at hI;rw[hI]
 refine bh Tryz.func255 (fun aa K=>Y0 a l c v aa H K) fun aa hb=>?_;refine h155.bY fun H' _ _=>?_;simp[GQ v xs 0 (by omega)]
theorem Y9(a:Kn):Sp 257 [.agg #[.int .i64 a.st,.int .i64 a.au,.bool a.ac]] H fun v _=>v= .bool (decide (busy a)):=by
 refine bh Tryz.func257 (fun _ _=>YU) fun aa hb=>?_;intro b;refine⟨busy a,?_,by congr 1;exact decide_eq_decide.2 Iff.rfl⟩;unfold busy
 repeat' (first|exact⟨rfl,fun _ _ h=>h,by grind⟩|intro _|refine⟨?_,?_⟩)
def tH(f:Kn->Bool):Int->List Kn->Int
 |_,[]=> -1
 |i,x::r=>if f x=true then i else tH f (i+1) r
theorem Dc(f:Kn->Bool):∀(l:List Kn)(i:Int),0<=i->(0<=tH f i l↔l.any f=true)
 | [],i,_=>by simp[tH]
 |x::r,i,h=>by
  unfold tH;split
  ·rename_i e;simp[h,e]
  ·rename_i e;rw[Dc f r (i+1) (by omega)];simp[e]
theorem O4{c:Nat}(hx:ON H a l xs):Sp 256 [.slice a l c,.func (.func 257) #[] #[]] H fun r _=>r= .bool (xs.any fun a=>decide (busy a)):=by
 have h136:Sp 275 [.slice a l c,.func (.func 257) #[] #[]] H fun r _=>r=i64 (tH (fun a=>decide (busy a)) 0 xs):=by
  refine bh Tryz.func275 (fun _ _=>U3) fun aa hb=>?_;have hle:=hx.le;refine⟨fun vs _=>∃(d:Int)(k:Nat),vs=[i64 d,i64 k]/\k<=l/\tH (fun a=>decide (busy a)) k (xs.drop k)=tH (fun a=>decide (busy a)) 0 xs,aN l 1,⟨0,0,rfl,by omega,rfl⟩,fun d n H' hN hI=>?_⟩;obtain⟨d',k,cv,hk,hI⟩:=hI;obtain⟨rfl,rfl⟩:d=d'/\n=(k:Int):=by simpa using cv
  refine⟨fun bK=>hx.kn hN.ext (by omega) bK fun y hy=>(Y9 y).aO fun H2 e2 _=>⟨fun he=>?_,fun he=>?_⟩,fun gj=>?_⟩
  ·rw[zz] at hy;rw[av hy,tH,pI he] at hI;rw[hI]
  ·rw[zz] at hy;rw[av hy,tH,nI (by rw[he];simp)] at hI;rintro r rfl;rw[aj];exact⟨⟨d,k+1,rfl,by omega,hI⟩,by simp[aN];omega⟩
  ·rw[aK hx.len (by omega),tH] at hI;rw[hI]
 refine bh Tryz.func256 (fun aa K=>YT a l c aa H K) fun aa hb=>?_;refine h136.bY fun H' _ _=>?_;have:=Dc (fun a=>decide (busy a)) xs 0 (by omega)
 congr 1
 cases DY:xs.any (fun a=>decide (busy a))
 ·rw[decide_eq_false (by rw[this,DY];simp)]
 ·rw[decide_eq_true (this.2 DY)]
section
variable {H : Heap} {c : dM} {fa ra wa : O} {fl fc rl rc wl wc : Nat} {l : jh} {la ka : O} {ll lc kl kc : Nat}
theorem KS(l:List Kn):(vi l).length=l.length:=by simp[vi]
theorem S7(hc:fB H c fa fl ra rl wa wl)(h:cQ H l la ll ka kl)(h6:l.bX.length<=6)(h0:0<=k)(h1:k<kl):Sp 231 [eN c fa fl fc ra rl rc wa wl wc,dd l la ll lc ka kl kc,i64 k] H fun v _=>v= .bool (jv c l k):=by
 refine bh Tryz.func231 (fun _ _=>YR) fun aa hb=>?_;intro b b1;refine h.bX.kn (aH.refl _) h0 h1 fun m hm=>fun b4=>⟨fun q=>?_,fun q=>?_⟩
 ·refine⟨m.st≠0/\m.ac=false,⟨fun w=>⟨rfl,fun _ _ h=>h,by simp[w]⟩,fun w=>⟨rfl,fun _ _ h=>h,fun w2=>w w2.1⟩⟩,?_⟩;unfold jv;rw[hm];simp only[q,if_true]
  congr 1;exact decide_eq_decide.2 Iff.rfl
 ·have U6:jv c l k=decide (dq c.bf l.bX.length=0/\m.st=0/\lB c.bf k=kF c.bf (vi l.bX)/\uy 3 l.bX<=c.aS):=by
   unfold jv;rw[hm];simp[q]
  rw[U6];refine(GO h h6).CE fun a n c' H1 e1 _ hT=>?_;refine(Oc (hc.ext e1).bf hT).I0 fun H2 e2 _=>?_;rw[KS];refine⟨fun w1=>⟨fun w2=>?_,fun w2=>by simp[w2]⟩,fun w1=>by simp[w1]⟩;refine(Q3 (hc.ext (e1.trans e2)).bf k).bY fun H3 e3 _=>⟨fun w3=>?_,fun w3=>by simp[w3]⟩
  exact(Y7 (h.ext ((e1.trans e2).trans e3))).bY fun H4 e4 _=>by simp[w1,w2,w3]
theorem Za(hc:fB H c fa fl ra rl wa wl)(h:cQ H l la ll ka kl)(h6:l.bX.length<=6):Sp 232 [eN c fa fl fc ra rl rc wa wl wc,dd l la ll lc ka kl kc] H fun v _=>v= .bool (kN c l):=by
 refine bh Tryz.func232 (fun _ _=>YS) fun aa hb=>?_;intro b b1;refine⟨fun q=>?_,fun q=>?_⟩
 ·have hO:kN c l=decide (uy 3 l.bX<=c.aS/\false∉vi l.bX):=by unfold kN;rw[pI q]
  rw[hO];refine(Y7 h).bY fun H1 e1 _=>⟨fun w=>(GO (h.ext e1) h6).CE fun a n c' H2 e2 _ hT=>(O3 hT false).aO fun H3 e3 _=>?_,fun w=>by simp[w]⟩
  simp[w]
 ·have hO:kN c l=decide (∀a∈l.bX,¬busy a):=by unfold kN;rw[nI q]
  rw[hO];refine(O4 h.bX).aO fun H1 e1 _=>?_
  congr 1
  rw[decide_eq_decide];simp
theorem Jq{l:List Kn}{a:Int}(h0:0<=a)(hm:l[a.toNat]?=some m):eT (vi l) a=true↔ ¬(m.st=2∨m.st=3):=by
 unfold eT vi;rw[zP,hm];simp
theorem O5(hc:fB H c fa fl ra rl wa wl)(h:cQ H l la ll ka kl)(hE:db c l=0)(h0:0<=k)(h1:k<kl):Sp 157 [eN c fa fl fc ra rl rc wa wl wc,dd l la ll lc ka kl kc,i64 k] H fun v _=>v= .bool (jv c l k):=by
 refine bh Tryz.func157 (fun _ _=>Y4) fun aa hb=>?_;intro b b1;obtain⟨g1,g2,g3,g4,g5,g6,g7⟩:=dh.1 hE;have qu:=h.bX.len
 have S6:(l.bX.length:Int)=bo c.bf:=by
  by_cases q:(l.bX.length:Int)=bo c.bf
  ·exact q
  ·exact absurd (.inr (.inr (.inl q))) g6
 have hwc:=(dv g1).2.2.2.2.2.2;rw[←S6] at hwc;have Ri:=fk hwc;have CY:=fK.1 g7;refine h.bX.kn (aH.refl _) h0 h1 fun m hm=>fun b4=>⟨fun q=>?_,fun q=>?_⟩
 ·refine⟨m.st≠0/\m.ac=false,⟨fun w=>⟨rfl,fun _ _ h=>h,by simp[w]⟩,fun w=>⟨rfl,fun _ _ h=>h,fun w2=>w w2.2⟩⟩,?_⟩;unfold jv;rw[hm];simp only[q,if_true]
  congr 1;exact decide_eq_decide.2 Iff.rfl
 ·have U6:jv c l k=decide (m.st=0/\lB c.bf k=kF c.bf (vi l.bX)/\uy 3 l.bX<=c.aS):=by
   unfold jv;rw[hm];simp[q,hwc]
  rw[U6];refine⟨fun w1=>by simp[w1],fun w1=>?_⟩;have Qo:m.st=0:=by omega
  refine(vm h 3).bY fun H1 e1 _=>⟨fun w2=>by rw[decide_eq_false (by omega)],fun w2=>?_⟩
  have hT1:decide (m.st=0/\lB c.bf k=kF c.bf (vi l.bX)/\uy 3 l.bX<=c.aS)=decide (lB c.bf k=kF c.bf (vi l.bX)):=by
   rw[decide_eq_decide];exact⟨fun x=>x.2.1,fun x=>⟨Qo,x,by omega⟩⟩
  rw[hT1]
  have hnow:∃n:Nat,kF c.bf (vi l.bX)=n/\Sy c.bf (vi l.bX) n:=by
   obtain⟨n,hn,hI⟩:=uX (vi l.bX) c.bf 0;exact⟨n,by rw[kF,KS,pI hwc,hn];omega,hI⟩
  obtain⟨N,hN,hIs⟩:=hnow;rw[hN];have hnk:eT (vi l.bX) k=true:=(Jq h0 hm).2 (by omega);have Cp:=hc.bf.len;have hwe:=hc.bf.le;refine⟨fun vs _=>∃(d:Bool)(i:Nat),vs=[.bool d,i64 i]/\i<=wl/\i<=N/\∀(j:Nat) w,j<i->c.bf[j]?=some w->k∉w,aN wl 1,⟨_,0,rfl,by omega,by omega,fun j w hj=>by omega⟩,fun d n3 H2 dZ hI=>?_⟩;obtain⟨d',i,cv,hi,hiN,hI⟩:=hI;obtain⟨rfl,rfl⟩:d=d'/\n3=(i:Int):=by simpa using cv
  refine⟨fun bK=>hc.bf.slice dZ.ext (by omega) bK fun w a' n' c' hw hs=>?_,fun gj=>?_⟩
  ·rw[zz] at hw;have oJ:∀x∈w,x∈c.bf.flatten:=fun x hx=>List.mem_flatten.2 ⟨w,zt hw,hx⟩;refine(ww (hs.ext ft.mono dZ.ext) k).aO fun H3 e3 _=>⟨fun w3=>?_,fun w3=>?_⟩
   ·have S8:k∈w:=by simpa using w3
    have hof:lB c.bf k=i:=by
     rcases mB k c.bf 0 with⟨_,x⟩|⟨j,v,x1,x2,x3,x4⟩
     ·exact absurd (oJ k S8) x
     ·have:j=i:=by
       rcases Nat.lt_trichotomy j i with y|y|y
       ·exact absurd x3 (hI j v y x2)
       ·exact y
       ·exact absurd S8 (x4 i w y hw)
      unfold lB;rw[x1,this];omega
    have hNi:N=i:=by
     rcases Nat.lt_or_ge i N with y|y
     ·have:=hIs.ahead i w hw y k S8;rw[this] at hnk;cases hnk
     ·omega
    rw[hof,hNi];simp
   ·have S8:k∉w:=by simpa using w3
    have Xc:=hs.len;have hse:=hs.le;refine⟨fun vs _=>∃(d:Bool)(j:Nat),vs=[.bool d,i64 j]/\j<=n'/\∀x∈w.take j,eT (vi l.bX) x=false,aN n' 1,⟨_,0,rfl,by omega,by simp⟩,fun d5 n5 H5 kT yD=>?_⟩;obtain⟨d6,j,O1,hj,yD⟩:=yD;obtain⟨rfl,rfl⟩:d5=d6/\n5=(j:Int):=by simpa using O1
    refine⟨fun O2=>hs.int kT.ext (by omega) O2 fun x hx=>?_,fun Y8=>?_⟩
    ·rw[zz] at hx;have hxw:x∈w:=zt hx;have KO:=(Ri.2.2.2.1 x).1 (oJ x hxw);obtain⟨z,hz⟩:∃z,l.bX[x.toNat]?=some z:=⟨_,zu (by omega)⟩
     have hzk:=CY z (zt hz);have Sg:=hzk.1;unfold mG at Sg;obtain⟨b9,o9,r9,z9,ha9,hz9,hr9,hc9⟩:=h.bX.get KO.1 (by omega:x<(kl:Int));rw[hz] at hz9;obtain rfl:=zy hz9;obtain rfl:=hr9;refine⟨b9,o9,ha9,KO.1,by omega,z.st,Heap.aJ kT.ext (hc9 0 _ rfl),fun y=>?_,fun y=>?_⟩
     ·rw[decide_eq_false];intro e
      have hNi:N=i:=by
       rcases Nat.lt_or_ge i N with u|u
       ·have:=hIs.ahead i w hw u x hxw;rw[(Jq KO.1 hz).2 (by omega)] at this;cases this
       ·omega
      rcases mB k c.bf 0 with⟨x1,_⟩|⟨j',v,x1,x2,x3,_⟩
      ·unfold lB at e;omega
      ·have:j'=i:=by unfold lB at e;omega
       subst this;rw[hw] at x2;obtain rfl:=zy x2;exact S8 x3
     ·rintro _ rfl;rw[aj];refine⟨rfl,⟨_,j+1,rfl,by omega,fun u hu=>?_⟩,by simp[aN];omega⟩;rw[fQ hx] at hu;rcases zd.1 hu with hu|hu
      ·exact yD u hu
      ·simp at hu;subst hu
       cases Sm:eT (vi l.bX) u with
       |false=>rfl
       |true=>exact absurd (by omega) ((Jq KO.1 hz).1 Sm)
    ·rw[zg (by omega)] at yD;rintro _ rfl;rw[aj]
     have hNi:i<N:=by
      rcases Nat.lt_or_ge i N with u|u
      ·exact u
      ·obtain⟨v,hv,x,hx,VY⟩:=hIs.here (by omega);have:N=i:=by omega
       subst this;rw[hw] at hv;obtain rfl:=zy hv;rw[yD x hx] at VY;cases VY
     refine⟨rfl,⟨_,i+1,rfl,by omega,by omega,fun j' w' V0 er=>?_⟩,by simp[aN];omega⟩;rcases Nat.lt_or_ge j' i with u|u
     ·exact hI j' w' u er
     ·have:j'=i:=by omega
      subst this;rw[hw] at er;obtain rfl:=zy er;exact S8
  ·have hkf:=(Ri.2.2.2.1 k).2 ⟨h0,by omega⟩;obtain⟨w,hw,S8⟩:=List.mem_flatten.1 hkf;obtain⟨j,hj⟩:=List.getElem?_of_mem hw;exact absurd S8 (hI j w (by have:=(zw.1 hj).1;omega) hj)
theorem GR(k:Int)(a:Kn)(q:List Kn):uy k (a::q)=uy k q+if a.st=k then 1 else 0:=by
 unfold uy;by_cases h:a.st=k<;>simp[h]
theorem Rp{l:List Kn} :uy 2 l+uy 3 l=l.length↔false∉vi l:=by
 have key:∀l:List Kn,uy 2 l+uy 3 l<=l.length/\(uy 2 l+uy 3 l=l.length↔false∉vi l):=by
  intro l
  induction l with
  |nil=>simp[uy,vi]
  |cons a q ih=>
   obtain⟨h1,h2⟩:=ih;rw[GR,GR];have e:vi (a::q)=decide (a.st=2∨a.st=3)::vi q:=rfl;rw[e];simp only[zi,zm,not_or];rw[←h2];by_cases c2:a.st=2
   ·simp[c2];omega
   ·by_cases c3:a.st=3
    ·simp[c3];omega
    ·simp[c2,c3];omega
 exact(key l).2
theorem O6(hc:fB H c fa fl ra rl wa wl)(h:cQ H l la ll ka kl)(hE:db c l=0):Sp 158 [eN c fa fl fc ra rl rc wa wl wc,dd l la ll lc ka kl kc] H fun v _=>v= .bool (kN c l):=by
 refine bh Tryz.func158 (fun _ _=>vc98) fun aa hb=>?_;intro b b1;obtain⟨g1,g2,g3,g4,g5,g6,g7⟩:=dh.1 hE;have CY:=fK.1 g7;have qu:=h.bX.len;have hke:=h.bX.le;refine⟨fun q=>?_,fun q=>?_⟩
 ·have hO:kN c l=decide (uy 3 l.bX<=c.aS/\false∉vi l.bX):=by unfold kN;rw[pI q]
  rw[hO];refine(vm h 2).bY fun H1 e1 _=>(vm (h.ext e1) 3).bY fun H2 e2 _=>?_;have r2:=sH 2 l.bX;have r3:=sH 3 l.bX;have ha:=Rp (l:=l.bX)
  have hsum:uy 2 l.bX+uy 3 l.bX<=9223372036854775807:=by
   have S6:(l.bX.length:Int)=bo c.bf:=by
    by_cases q:(l.bX.length:Int)=bo c.bf
    ·exact q
    ·exact absurd (.inr (.inr (.inl q))) g6
   have:=(ic (dv g1).2.2.2.2.2.2).2;omega
  rintro _ rfl;rw[aj];refine⟨fun w=>(vm (h.ext (e1.trans e2)) 3).bY fun H3 e3 _=>?_,fun w=>?_⟩
  ·have:=ha.1 (by omega);simp[this]
  ·have:¬false∉vi l.bX:=fun x=>w (by have:=ha.2 x;omega);rw[decide_eq_false (fun x=>this x.2)]
 ·have hO:kN c l=decide (∀a∈l.bX,¬busy a):=by unfold kN;rw[nI q]
  rw[hO];refine⟨fun vs _=>∃(d:Bool)(i:Nat),vs=[.bool d,i64 i]/\i<=kl/\∀a∈l.bX.take i,¬busy a,aN kl 1,⟨_,0,rfl,by omega,by simp⟩,fun d n H' hN hI=>?_⟩;obtain⟨d',i,cv,hi,hI⟩:=hI;obtain⟨rfl,rfl⟩:d=d'/\n=(i:Int):=by simpa using cv
  refine⟨fun bK=>h.bX.kn hN.ext (by omega) bK fun m hm=>fun b5=>?_,fun gj=>?_⟩
  ·rw[zz] at hm;have VX:=zt hm;have hmb:=(CY m VX).1;unfold mG at hmb;refine⟨busy m,?_,fun w=>?_,fun w=>?_⟩
   ·unfold busy;refine⟨fun w=>⟨rfl,fun _ _ h=>h,.inl w⟩,fun w=>⟨fun w2=>⟨rfl,fun _ _ h=>h,?_⟩,fun w2=>⟨rfl,fun _ _ h=>h,?_⟩⟩⟩
    ·exact⟨fun x=>by rcases x with x|x;exact absurd x w;exact x.2,fun x=> .inr ⟨by omega,x⟩⟩
    ·rintro(x|x)
     ·exact w x
     ·have:=x.1;omega
   ·rw[decide_eq_false (fun x=>x m VX w)]
   ·rintro _ rfl;rw[aj];refine⟨rfl,⟨_,i+1,rfl,by omega,fun a ha=>?_⟩,by simp[aN];omega⟩;rw[fQ hm] at ha;rcases zd.1 ha with ha|ha
    ·exact hI a ha
    ·simp at ha;subst ha;exact w
  ·rw[zg (by omega)] at hI;rw[decide_eq_true hI]
theorem KU(h:cQ H l la ll ka kl)(hE:db c l=0)(hg:l.ab≠0):Sp 127 [dd l la ll lc ka kl kc] H fun v H'=>∃a n c' x,v= .agg #[.int .i64 x.id,.slice a n c']/\l.bJ[(uz l-1).toNat]?=some x/\aL H' a n x.ap:=by
 refine bh Tryz.func127 (fun _ _=>Y5) fun aa hb=>?_;intro b b1;obtain⟨g1,g2,g3,g4,g5,g6,g7⟩:=dh.1 hE;unfold dP at g5;have Ii:=h.bJ.len;refine⟨fun q=>?_,fun q=>?_⟩
 ·rintro _ rfl;rw[aj];refine h.bJ.rl (aH.refl _) (by omega) (by omega) fun m a n c' hm hp=>⟨a,n,c',m,rfl,by unfold uz;rw[pI q];exact hm,hp⟩
 ·rintro _ rfl;rw[aj];refine h.bJ.rl (aH.refl _) (by omega) (by omega) fun m a n c' hm hp=>⟨a,n,c',m,rfl,by unfold uz;rw[nI (by rw[q];simp)];exact hm,hp⟩
end
open Go Go.Proofs
theorem Jr{c:Nat}{ms:List kU}(hx:wA H a l ms)(hl:l<=100000):Sp 216 [.slice a l c] H fun v H'=>∃a n c rs,v= .slice a n c/\bZ H H' 24 2 a n c rs.flatten/\(∀r∈rs,r.length=2)/\dY Ai H rs ms:=by
 refine bh Tryz.func216 (fun _ _=>YY) fun aa hb=>⟨_,uZ Tryz.underlying29,fun h=>?_,fun h=>?_⟩
 ·obtain rfl:a=none:=by cases a<;>simp at h⊢
  obtain⟨_,rfl⟩:=hx.kC;exact⟨none,0,0,[],rfl,bZ.zero,by simp,trivial⟩
 ·intro g H1 fh _ hg;obtain⟨rs,h1,h2,h3,h4⟩:=hx.rows Ai.len;exact⟨[],_,bg.zero,h3,ev Ai.one h2,h4.imp id (fun⟨b,o,hb,hc⟩=>⟨b,o,hb,fj fh.ext hc⟩),by omega,by omega,fun a3 c3 H3 hG hR=>⟨_,_,_,rs,rfl,hR.fresh hb,h1,h2⟩⟩
theorem My{c:Nat}(hx:ON H a l xs)(hl:l<=100000):Sp 217 [.slice a l c] H fun v H'=>∃a n c,v= .slice a n c/\bZ H H' 95 3 a n c (xs.flatMap gP):=by
 refine bh Tryz.func217 (fun _ _=>YZ) fun aa hb=>⟨_,uZ Tryz.underlying30,fun h=>?_,fun h=>?_⟩
 ·obtain rfl:a=none:=by cases a<;>simp at h⊢
  obtain⟨_,rfl⟩:=hx.kC;exact⟨none,0,0,rfl,bZ.zero⟩
 ·intro g H1 fh _ hg;obtain⟨Fb,M8⟩:=hx.cells j9 fh.ext;exact⟨[],xs.flatMap gP,bg.zero,Fb,jZ xA xs,M8,by omega,by omega,fun a3 c3 H3 hG hR=>⟨_,_,_,rfl,hR.fresh hb⟩⟩
theorem bg.other{e:TypeId}{c:Nat}{k:KB}{xs:List Value}(h:bg aa H e sz a n c xs)(hu:kW H b o k vs H')(eE:c≠0->a≠some ⟨b,0,none⟩):bg aa H' e sz a n c xs:=by
 obtain⟨h1,h2,h3,h4⟩:=h;by_cases hc:c=0
 ·exact⟨h1,h2,h3,.inl ⟨by omega,hc⟩⟩
 ·refine⟨h1,h2,h3,h4.imp id fun⟨g,k',q1,q2,q3,q4⟩=>⟨g,k',q1,q2,?_,q4⟩⟩;rw[hu.there g (fun e=>eE hc (by rw[q1,e]))];exact q3
theorem bg.stay{f:TypeId}{sy:Nat}{b:O}{c m d:Nat}{ys:List Value}(h:bg aa H f sy b m d ys)(hG:cu aa H H' a c a' c' nn)(hs:c≠0->d≠0->a≠b):bg aa H' f sy b m d ys/\(c'≠0->d≠0->a'≠b):=by
 obtain⟨h1,h2,h3,h4⟩:=h;rcases h4 with⟨h5,h6⟩|⟨g,k,hb,fN,hH,hr⟩
 ·exact⟨⟨h1,h2,h3,.inl ⟨h5,h6⟩⟩,fun _ hd=>absurd h6 hd⟩
 ·by_cases hd:d=0
  ·exact⟨⟨h1,h2,h3,.inl ⟨by omega,hd⟩⟩,fun _ h=>absurd hd h⟩
  ·refine⟨⟨h1,h2,h3,.inr ⟨g,k,hb,fN,hG.cR g k hH ?_,hr⟩⟩,fun DP _ e=>?_⟩
   ·by_cases hc:c=0
    ·exact .inl hc
    ·exact .inr fun e=>hs hc hd (by rw[e,hb])
   ·rcases hG.place DP g (by rw[e,hb]) with h|⟨h,hc⟩
    ·rw[hH] at h;cases h
    ·exact hs hc hd (by rw[←h,e])
theorem bV.other{α:Type}{R:jq α}{e:TypeId}{c:Nat}{k:KB}{rows:List (List Value)}{xs:List α}(h:bV R sz e aa G H a n c rows xs)(hu:kW H b o k vs H')(eE:c≠0->a≠some ⟨b,0,none⟩)(hG:G b=none):
  bV R sz e aa G H' a n c rows xs:=
 ⟨h.row.other hu eE,h.wid,h.all,fun x k hx=>by
  rw[hu.there x (fun e=>by rw[e,hG] at hx;cases hx)];exact h.sub x k hx,h.clear⟩
structure oE(aa:Nat)(G H:Heap)(l:jh)(la:O)(ll lc:Nat)(ka:O)(kl kc:Nat)(rows:List (List Value)):Prop where
 bJ:bV Ai 2 24 aa G H la ll lc rows l.bJ
 bX:bg aa H 95 3 ka kl kc (l.bX.flatMap gP)
 apart:lc≠0->kc≠0->la≠ka
 clear:kc≠0->∀g,ka=some ⟨g,0,none⟩->G g=none
structure U7(H G H':Heap)(l:jh)(la:O)(ll lc:Nat)(ka:O)(kl kc:Nat)(rows:List (List Value)):Prop where
 bJ:nJ Ai 2 24 H G H' la ll lc rows l.bJ
 bX:bZ H H' 95 3 ka kl kc (l.bX.flatMap gP)
 apart:lc≠0->kc≠0->la≠ka
 clear:kc≠0->∀g,ka=some ⟨g,0,none⟩->G g=none
theorem U7.own{aa:Nat}{H G H':Heap}{l:jh}{la ka:O}{ll lc kl kc:Nat}{rows:List (List Value)}(h:U7 H G H' l la ll lc ka kl kc rows)(hN:Next aa H H'):oE aa G H' l la ll lc ka kl kc rows:=
 ⟨h.bJ.own hN,h.bX.row hN,h.apart,h.clear⟩
theorem Aj(h:bg aa H 95 3 ka kl kc (xs.flatMap gP)):ON H ka kl xs:=ik j9 (by omega) h
theorem oE.ck{l:jh}{rows:List (List Value)}(h:oE aa G H l la ll lc ka kl kc rows):cQ H l la ll ka kl:=⟨h.bJ.sl Ai.mono (by omega),Aj h.bX⟩
theorem oE.ext{l:jh}{rows:List (List Value)}(h:oE aa G H l la ll lc ka kl kc rows)(x:aH H H'):oE aa G H' l la ll lc ka kl kc rows:=⟨h.bJ.ext x,h.bX.ext x,h.apart,h.clear⟩
theorem O7{l:jh}(h:cQ H l la ll ka kl)(hl1:ll<=100000)(Wk:kl<=100000)(hk:∀m∈l.bJ,m.ap.length<=100000):
  Sp 170 [dd l la ll lc ka kl kc] H fun v H'=>∃la ll lc ka kl kc G rows,v=dd l la ll lc ka kl kc/\U7 H G H' l la ll lc ka kl kc rows:=by
 refine bh Tryz.func170 (fun _ _=>YN) fun aa hb=>?_;intro b b0;have Oo:=h.bJ.len;refine(Jr h.bJ hl1).mono fun v H1 e1 hv=>?_;obtain⟨a1,n1,c1,rs,rfl,hF,hw,hA⟩:=hv;refine⟨a1,n1,c1,rfl,fun fh=>?_⟩;refine(My (h.ext e1).bX Wk).mono fun v H2 e2 hv=>?_;obtain⟨a2,n2,c2,rfl,Cs⟩:=hv;refine⟨a2,n2,c2,rfl,fun dZ=>?_⟩;have hR:=(hF.row fh).ext e2;have hK:=Cs.row dZ
 have Gx:rs.length=n1:=by
  have:=hR.1;rw[iX hw] at this;omega
 have hrm:=hA.len
 have O8:c1≠0->c2≠0->a1≠a2:=fun q1 q2 e=>by
  rcases hF.2.2.2 with⟨_,h0⟩|⟨g,k,w1,w2,w3,_⟩
  ·exact q1 h0
  ·rcases Cs.2.2.2 with⟨_,h0⟩|⟨g',k',u1,u2,_⟩
   ·exact q2 h0
   ·rw[e,u1] at w1;simp at w1;subst w1;rw[w3] at u2;cases u2
 refine⟨fun vs Hc=>∃(i:Nat)(r1:List (List Value))(G:Heap),vs=[i64 i]/\i<=n1/\r1.length=i/\(∀r∈r1,r.length=2)/\bg aa Hc 24 2 a1 n1 c1 (r1++rs.drop i).flatten/\bg aa Hc 95 3 a2 n2 c2 (l.bX.flatMap gP)/\dY Ai G r1 (l.bJ.take i)/\sT H G/\aH G Hc/\(c1≠0->∀g,a1=some ⟨g,0,none⟩->G g=none)/\(c2≠0->∀g,a2=some ⟨g,0,none⟩->G g=none),
  aN n1 0,⟨0,[],fun _=>none,rfl,by omega,rfl,by simp,hR,hK,by simp[dY],fun _ _ h=>(by cases h),fun _ _ h=>(by cases h),fun _ _ _=>rfl,fun _ _ _=>rfl⟩,fun m H3 fS hI=>?_⟩
 obtain⟨i,r1,G,cv,hi,UF,Oq,qy,hK2,Mk,Yc,kX,v8,Rq⟩:=hI;obtain rfl:m=(i:Int):=by simpa using cv
 refine⟨fun bK=>?_,fun gj=>?_⟩
 ·have Q9:rs[i]?=some (rs[i]'(by omega)):=zu (by omega);have Ra:l.bJ[i]?=some (l.bJ[i]'(by omega)):=zu (by omega);generalize GA:rs[i]'(by omega)=r at Q9;generalize VX:l.bJ[i]'(by omega)=m at Ra;obtain⟨pa,pn,pc,rfl,hp,hg⟩:=hA.get Q9 Ra;have Kk:=hp.len;have Ur:=hk m (zt Ra)
  have hwL:∀r∈r1++rs.drop i,r.length=2:=fun r hr=>by
   rcases zd.1 hr with hr|hr
   ·exact Oq r hr
   ·exact hw r (List.mem_of_mem_drop hr)
  have Ff:(r1++rs.drop i)[i]?=some [i64 m.id,.slice pa pn pc]:=by
   rw[zY (by omega),UF,Nat.sub_self,List.getElem?_drop,Nat.add_zero];exact Q9
  obtain⟨b,sE,cI⟩:=qy.at hwL (by simp;omega) Ff;have hd:=av Q9;refine⟨b,0,sE,by omega,bK,_,_,_,_,⟨cI 0 _ rfl,cI 1 _ rfl,trivial⟩,fun b2=>?_⟩;refine(kH (hp.ext' fS.ext) (by omega)).mono fun v H4 e4 hv=>?_;obtain⟨a6,n6,c6,rfl,hF6⟩:=hv;refine⟨a6,n6,c6,rfl,fun iC=>?_⟩;obtain⟨b3,k3,Yd,fN,Fb,M9,hf3,hs3,_⟩:=qy.block (by omega);obtain rfl:b=b3:=by rw[sE] at Yd;simpa using Yd
  have tR:=qy.2.1;refine⟨b,0,sE,by omega,bK,k3,e4 _ _ M9,hf3,fN,by rw[hs3,zz];omega,fun H5 hu=>?_⟩;rintro r rfl;rw[aj];rw[zz] at hu;have Ot:=(qy.ext e4).N2 sE Fb (e4 _ _ M9) (o:=0+i*2+1) (vs:=[.slice a6 n6 c6]) (by rw[qy.1];show 0+i*2+1+1<=n1*2;omega) hu;have hK4:=(hK2.ext e4).other hu (fun q e=>O8 Fb q (by rw[sE,e]));rw[hd,show 0+i*2+1=r1.length*2+1 from by omega,Be Oq rfl (by simp)] at Ot;have tY:Ai (G.plus (du H3 H4)) (aV [i64 m.id,.slice pa pn pc] 1 [.slice a6 n6 c6]) m:=⟨a6,n6,c6,rfl,Sl.ext gT.mono (hF6.pU cJ (by omega)) (ib kX),hg⟩
  have Ye:(G.plus (du H3 H4)) b=none:=by
   unfold Heap.plus du;rw[v8 Fb b sE,M9]
  refine⟨rfl,⟨i+1,r1++[aV [i64 m.id,.slice pa pn pc] 1 [.slice a6 n6 c6]],G.plus (du H3 H4),rfl,by omega,by simp[UF],fun r hr=>?_,by simpa using Ot,hK4,?_,?_,fun x k hx=>?_,fun _ g hg=>?_,fun q g hg=>?_⟩,by simp[aN];omega⟩
  ·rcases zd.1 hr with hr|hr
   ·exact Oq r hr
   ·simp at hr;subst hr;rfl
  ·rw[fQ Ra];exact dY.append (dY.one tY) (Mk.mono Ai.mono lu)
  ·exact o0 Yc (il.sub fS.ext)
  ·have eE:x≠b:=fun e=>by rw[e,Ye] at hx;cases hx
   rw[hu.there x eE];exact Bf (kX.trans e4) ew x k hx
  ·rw[sE] at hg;simp at hg;subst hg;exact Ye
  ·unfold Heap.plus du;rw[Rq q g hg];rcases hK2.2.2.2 with⟨_,h0⟩|⟨g',k',u1,_,u3,_⟩
   ·exact absurd h0 q
   ·rw[hg] at u1;simp at u1;subst u1;rw[u3]
 ·obtain rfl:i=n1:=by omega
  rw[zO (by omega),zZ] at qy;rw[zg (by omega)] at Mk;exact⟨_,_,_,_,_,_,G,r1,rfl,bV.new ⟨qy,Oq,Mk,kX,v8⟩ hb Yc,hK2.fresh hb,O8,Rq⟩
theorem GS{m:kU}{c:Nat}(h:H g=some (ay ty [i64 m.id,.slice a n c]))(hp:aL H a n m.ap)(hg:Rg m.id):wA H (some ⟨g,0,none⟩) 1 [m]:=
 Sl.oz (rows:=[[i64 m.id,.slice a n c]]) (Has.ub h rfl (by simp) rfl (by omega)) rfl fun i r x hr hx=>by
  cases i with
  |zero=>simp at hr hx;subst hr;subst hx;exact⟨a,n,c,rfl,hp,hg⟩
  |succ i=>simp at hr
theorem KV(h:H g=some (ay ty (yk (zk n [i64 0,i64 0,.bool false]))))(hn:n<=100000):ON H (some ⟨g,0,none⟩) n (zk n ⟨0,0,false⟩):=by
 refine nH (ty:=ty) j9 ?_ (by simp) (by omega);rw[h]
 congr 2
 rw[List.flatMap_def,List.map_replicate];rfl
theorem KW{r:kU}(h:dp r=0):Rg r.id:=by have:=(ey h).1;unfold Rg;omega
section
variable {H : Heap} {c : dM} {fa ra wa : O} {fl fc rl rc wl wc : Nat} {l : jh} {la ka : O} {ll lc kl kc : Nat}
theorem S9(hc:fB H c fa fl ra rl wa wl):Sp 86 [eN c fa fl fc ra rl rc wa wl wc] H fun v H'=>∃la ll lc ka kl kc,v= .tuple #[dd (if de c=0 then dC c else vj) la ll lc ka kl kc,i64 (de c)]/\cQ H' (if de c=0 then dC c else vj) la ll ka kl:=by
 refine bh Tryz.func86 (fun _ _=>vc84) fun aa hb=>?_;intro b b0;refine(EH hc).bY fun H1 e1 _=>⟨fun q=>?_,fun q=>?_⟩
 ·rw[nI q];exact⟨none,0,0,none,0,0,rfl,Sl.nil,Sl.nil⟩
 have q0:de c=0:=zx.1 q;rw[pI q0,q0];obtain⟨z1,z2,z3,z4,z5,z6,z7⟩:=dv q0;have S6:=(ic z7).2;have M6:=hc.pins.len;have hf12:=(ey z1).2.2;refine(kH (hc.ext e1).pins (by omega)).mono fun v H2 e2 hv=>?_;obtain⟨a,n,c',rfl,hF⟩:=hv;refine⟨a,n,c',rfl,fun dZ=>?_⟩;have hP:aL H2 a n c.first.ap:=gC (hF.row dZ);have M8:=(hc.ext e1).ext e2
 have fin:∀ {H':Heap} {g g1:Nat},aH H2 H'->H' g=some (ay 24 [.int .i64 1,.slice a n c'])->H' g1=some (ay 95 (yk (zk (bo c.bf).toNat [.int .i64 0,.int .i64 0,.bool false])))->
   ∃la ll lc ka kl kc,Value.tuple #[.agg #[.slice (some ⟨g,0,none⟩) 1 1,.int .i64 1,.int .i64 0,.bool false,.slice (some ⟨g1,0,none⟩) (bo c.bf).toNat (bo c.bf).toNat,.int .i64 1],.int .i64 0]= .tuple #[dd (dC c) la ll lc ka kl kc,i64 0]/\cQ H' (dC c) la ll ka kl:=fun e hg kY=>by
  refine⟨_,_,_,_,_,_,rfl,?_,?_⟩
  ·exact GS (m:=c.first) (by rw[z2];exact hg) (hP.ext' e) (KW z1)
  ·exact KV kY (by omega)
 intro b1;refine⟨fun g H3 fS _ hg=>?_,?_⟩
 ·refine(p9 (M8.ext fS.ext)).bY fun H4 e4 _=>⟨by omega,by omega,by omega,by omega,fun g1 H5 kT _ kY=>?_⟩
  exact fin ((aH.trans fS.ext e4).trans kT.ext) (kT.ext _ _ (e4 _ _ hg)) kY
 ·refine(p9 M8).bY fun H3 e3 _=>⟨fun g H4 iC _ hg=>⟨by omega,by omega,by omega,by omega,fun g1 H5 kT _ kY=>?_⟩,by omega,by omega,by omega,by omega,fun g H4 iC _ hg g1 H5 kT _ kY=>?_⟩
  ·exact fin ((e3.trans iC.ext).trans kT.ext) (kT.ext _ _ hg) kY
  ·exact fin ((e3.trans iC.ext).trans kT.ext) kY (kT.ext _ _ hg)
theorem KX(hc:fB H c fa fl ra rl wa wl)(q0:de c=0):Sp 82 [eN c fa fl fc ra rl rc wa wl wc] H fun v H'=>∃la ll lc ka kl kc,v=dd (dC c) la ll lc ka kl kc/\cQ H' (dC c) la ll ka kl:=by
 refine bh Tryz.func82 (fun _ _=>vc93) fun aa hb=>?_;intro b b0;obtain⟨z1,z2,z3,z4,z5,z6,z7⟩:=dv q0;have S6:=(ic z7).2;have Qv:=(ic z7).1
 have fin:∀ {H':Heap} {g g1:Nat},aH H H'->H' g=some (ay 24 [.int .i64 c.first.id,.slice fa fl fc])->H' g1=some (ay 95 (yk (zk (bo c.bf).toNat [.int .i64 0,.int .i64 0,.bool false])))->
   ∃la ll lc ka kl kc,Value.agg #[.slice (some ⟨g,0,none⟩) 1 1,.int .i64 1,.int .i64 0,.bool false,.slice (some ⟨g1,0,none⟩) (bo c.bf).toNat (bo c.bf).toNat,.int .i64 1]=dd (dC c) la ll lc ka kl kc/\cQ H' (dC c) la ll ka kl:=fun e hg kY=>by
  refine⟨_,_,_,_,_,_,rfl,?_,?_⟩
  ·exact GS (m:=c.first) hg (hc.pins.ext' e) (KW z1)
  ·exact KV kY (by omega)
 refine⟨fun g H3 fS _ hg=>?_,?_⟩
 ·refine(jQ (hc.ext fS.ext)).bY fun H4 e4 _=>?_;rw[Qv];refine⟨by omega,by omega,by omega,by omega,fun g1 H5 kT _ kY=>?_⟩;exact fin ((aH.trans fS.ext e4).trans kT.ext) (kT.ext _ _ (e4 _ _ hg)) kY
 ·refine(jQ hc).bY fun H3 e3 _=>?_;rw[Qv];refine⟨fun g H4 iC _ hg=>⟨by omega,by omega,by omega,by omega,fun g1 H5 kT _ kY=>?_⟩,by omega,by omega,by omega,by omega,fun g H4 iC _ hg g1 H5 kT _ kY=>?_⟩
  ·exact fin ((e3.trans iC.ext).trans kT.ext) (kT.ext _ _ hg) kY
  ·exact fin ((e3.trans iC.ext).trans kT.ext) kY (kT.ext _ _ hg)
def dU(c:dM)(l:jh)(k:Int):Int:=if db c l≠0 then db c l else if k<0∨(l.bX.length:Int)<=k then 5 else if l.ab=0 then 7 else 0
def ez(c:dM)(l:jh)(k:Int):kU:=if dU c l k=0 then(l.bJ[(uz l-1).toNat]?).getD ⟨0,[]⟩ else⟨0,[]⟩
def Dd(c:dM)(l:jh)(k:Int):Bool:=if dU c l k=0 then jv c l k else false
theorem sI(hE:db c l=0):l.bX.length<=6/\(l.bX.length:Int)=bo c.bf:=by
 obtain⟨g1,g2,g3,g4,g5,g6,g7⟩:=dh.1 hE
 have S6:(l.bX.length:Int)=bo c.bf:=by
  by_cases q:(l.bX.length:Int)=bo c.bf
  ·exact q
  ·exact absurd (.inr (.inr (.inl q))) g6
 have:=(ic (dv g1).2.2.2.2.2.2).2;exact⟨by omega,S6⟩
theorem O9(hc:fB H c fa fl ra rl wa wl)(h:cQ H l la ll ka kl)(k:Int):Sp 220 [eN c fa fl fc ra rl rc wa wl wc,dd l la ll lc ka kl kc,i64 k] H fun v H'=>∃a n c',v= .tuple #[.bool (Dd c l k),.agg #[.int .i64 (ez c l k).id,.slice a n c'],i64 (dU c l k)]/\aL H' a n (ez c l k).ap:=by
 refine bh Tryz.func220 (fun _ _=>vc80) fun aa hb=>?_
 have bad:∀ {e:Int} {H':Heap},dU c l k=e->e≠0->∃a n c',Value.tuple #[.bool false,.agg #[.int .i64 0,.slice none 0 0],.int .i64 e]= .tuple #[.bool (Dd c l k),.agg #[.int .i64 (ez c l k).id,.slice a n c'],i64 (dU c l k)]/\aL H' a n (ez c l k).ap:=fun he h0=>by
  have e1:Dd c l k=false:=by rw[Dd,nI (by omega)]
  have e2:ez c l k=⟨0,[]⟩:=by rw[ez,nI (by omega)]
  rw[e1,e2,he];exact⟨none,0,0,rfl,Sl.nil⟩
 intro b b1 b2;have qu:=h.bX.len;have Ii:=h.bJ.len;refine(Db hc h).bY fun H1 e1 _=>⟨fun q=>bad (by rw[dU,pI q]) q,fun q=>?_⟩
 have q0:db c l=0:=zx.1 q;obtain⟨g1,g2,g3,g4,g5,g6,g7⟩:=dh.1 q0;unfold dP at g5;have h6:=sI q0;refine⟨k<0∨(l.bX.length:Int)<=k,⟨fun w=>⟨rfl,fun _ _ h=>h,.inl w⟩,fun w=>⟨rfl,fun _ _ h=>h,by omega⟩⟩,fun w=>bad (by rw[dU,nI q,pI w]) (by omega),fun w=>⟨fun w2=>bad (by rw[dU,nI q,nI w,pI w2]) (by omega),fun w2=>?_⟩⟩;have U6:dU c l k=0:=by rw[dU,nI q,nI w,nI w2]
 have hT1:Dd c l k=jv c l k:=by rw[Dd,pI U6]
 have Ae:=BN g4;refine⟨fun hk=>?_,fun hk=>?_⟩
 all_goals
  rintro _ rfl;rw[aj];refine h.bJ.rl e1 (by omega) (by omega) fun m ma mn mc hm hp=>fun b5=>?_;have vn:l.bJ[(uz l-1).toNat]?=some m:=by unfold uz;simp only[hk];simpa using hm
  have hT2:ez c l k=m:=by rw[ez,pI U6,vn];rfl
  have Oo:=Ae m (zt hm);have Kk:=hp.len;refine(S7 (hc.ext e1) (h.ext e1) h6.1 (k:=k) (by omega) (by omega)).aO fun H2 e2 _=>(kH (hp.ext' (e1.trans e2)) (by omega)).slF fun a5 n5 c5 H3 e3 fS hF=>?_;rw[U6,hT1,hT2];exact⟨_,_,_,rfl,gC hF⟩
end
open Go Go.Proofs
abbrev Ta(u1:Heap)(v1 w1:Nat)(z x1 y1 z1 a2:Int)(b2:Bool)(c2:Int)(d2:O)(e2 f2:Nat):Prop:=
 C u1 v1 (w1+N z*7)=some (U x1)/\C u1 v1 (w1+N z*7+1)=some (U y1)/\C u1 v1 (w1+N z*7+2)=some (U z1)/\C u1 v1 (w1+N z*7+3)=some (U a2)/\C u1 v1 (w1+N z*7+4)=some (B b2)/\C u1 v1 (w1+N z*7+5)=some (U c2)/\C u1 v1 (w1+N z*7+6)=some (S d2 e2 f2)/\True
theorem vc89{rl:Nat}{c:Nat}:
 (fV TryzMutsJ Tryz.f66 aa H [.v (A #[U eL,S fa fl fc,S ra rl rc,S wa wl wc,U aS]),.v (S a l c)] [] K)=(
 (fun w7:LL=>(fun w6:AV=>∀b d:Nat,Y 86 [A #[U eL,S fa fl fc,S ra rl rc,S wa wl wc,U aS]] H fun e g=>∃h i j k m n o p q r s,e=T #[A #[S h i j,U k,U m,B n,S o p q,U r],U s]/\(X aa H g->∀t:Nat,(¬s=0->K (T #[A w6,U s]) [] g)/\(¬¬s=0->(200<(l:Int)->K (T #[A w6,U 2]) [] g)/\(¬200<(l:Int)->∃(u:LI)(v:LM),u [U 0,U s,U 0,A w6,A #[S h i j,U k,U m,B n,S o p q,U r]] g/\∀(w x y:Int)(z:O)(a1 b1:Nat)(c1 d1:Int)(e1:Bool)(f1:O)(g1 h1:Nat)(i1:Int)(j1:O)(k1 l1:Nat)(m1 n1:Int)(o1:Bool)(p1:O)(q1 r1:Nat)(s1:Int)(t1:Heap),(fun w5:AV=>(fun w4:AV=>X aa H t1->u [U w,U x,U y,A w5,A w4] t1->(y<(l:Int)->∃u1 v1,a=some (D u1 v1 none)/\0<=y/\y<(l:Int)/\∃(w1 x1 y1 z1:Int)(a2:Bool)(b2:Int)(c2:O)(d2 e2:Nat),(Ta t1 u1 v1 y w1 x1 y1 z1 a2 b2 c2 d2 e2)/\∀f2:Nat,Y 144 [A #[U eL,S fa fl fc,S ra rl rc,S wa wl wc,U aS],A w4,A #[U w1,U x1,U y1,U z1,B a2,U b2,S c2 d2 e2]] t1 fun g2 h2=>∃(i2:O)(j2 k2:Nat)(l2 m2:Int)(n2:Bool)(o2:O)(p2 q2:Nat)(r2:Int),(fun w3:AV=>∃s2,g2=T #[A w3,U s2]/\(X aa t1 h2->(¬s2=0->K (T #[A w6,U s2]) [] h2)/\(¬¬s2=0->∀t2:Int,(fun w2:LV=>t2=W Z (y+1)->w7=w7/\u w2 h2/\v w2<v [U w,U x,U y,A w5,A w4]) [U w,U s2,U t2,A w5,A w3]))) #[S i2 j2 k2,U l2,U m2,B n2,S o2 p2 q2,U r2])/\(¬y<(l:Int)->K (T #[A w4,U 0]) [] t1)) #[S j1 k1 l1,U m1,U n1,B o1,S p1 q1 r1,U s1]) #[S z a1 b1,U c1,U d1,B e1,S f1 g1 h1,U i1])))) #[S none 0 0,U 0,U 0,B false,S none 0 0,U 0]) [[U eL,S fa fl fc,S ra rl rc,S wa wl wc,U aS]]):=by kernel_rfl
theorem vc90{rl:Nat}{c:Nat}:
 (fV TryzMutsJ Tryz.f24 aa H [.v (A #[U eL,S fa fl fc,S ra rl rc,S wa wl wc,U aS]),.v (S a l c)] [] K)=(
 (fun w8:LL=>(fun w7:LV=>(fun w6:AV=>∀b d:Nat,Y 28 w7 H fun e g=>∃h,e=U h/\(X aa H g->(¬h=0->K (T #[A w6,U h]) [] g)/\(¬¬h=0->(200<(l:Int)->K (T #[A w6,U 2]) [] g)/\(¬200<(l:Int)->Y 82 w7 g fun i j=>∃k m n o p q r s t u,i=A #[S k m n,U o,U p,B q,S r s t,U u]/\(X aa g j->∀v:Nat,∃(w:LI)(x:LM),w [U 0,U 0,A w6,A #[S k m n,U o,U p,B q,S r s t,U u]] j/\∀(y z:Int)(a1:O)(b1 c1:Nat)(d1 e1:Int)(f1:Bool)(g1:O)(h1 i1:Nat)(j1:Int)(k1:O)(l1 m1:Nat)(n1 o1:Int)(p1:Bool)(q1:O)(r1 s1:Nat)(t1:Int)(u1:Heap),(fun w5:AV=>(fun w4:AV=>X aa H u1->w [U y,U z,A w5,A w4] u1->(z<(l:Int)->∃v1 w1,a=some (D v1 w1 none)/\0<=z/\z<(l:Int)/\∃(x1 y1 z1 a2:Int)(b2:Bool)(c2:Int)(d2:O)(e2 f2:Nat),(Ta u1 v1 w1 z x1 y1 z1 a2 b2 c2 d2 e2 f2)/\∀g2:Nat,Y 83 [A #[U eL,S fa fl fc,S ra rl rc,S wa wl wc,U aS],A w4,A #[U x1,U y1,U z1,U a2,B b2,U c2,S d2 e2 f2]] u1 fun h2 i2=>∃(j2:O)(k2 l2:Nat)(m2 n2:Int)(o2:Bool)(p2:O)(q2 r2:Nat)(s2:Int),(fun w3:AV=>∃t2,h2=T #[A w3,U t2]/\(X aa u1 i2->∀u2:Nat,(¬t2=0->K (T #[A w6,U t2]) [] i2)/\(¬¬t2=0->∀v2:Int,(fun w2:LV=>v2=W Z (z+1)->w8=w8/\w w2 i2/\x w2<x [U y,U z,A w5,A w4]) [U y,U v2,A w5,A w3]))) #[S j2 k2 l2,U m2,U n2,B o2,S p2 q2 r2,U s2])/\(¬z<(l:Int)->K (T #[A w4,U 0]) [] u1)) #[S k1 l1 m1,U n1,U o1,B p1,S q1 r1 s1,U t1]) #[S a1 b1 c1,U d1,U e1,B f1,S g1 h1 i1,U j1]))))) #[S none 0 0,U 0,U 0,B false,S none 0 0,U 0]) [A #[U eL,S fa fl fc,S ra rl rc,S wa wl wc,U aS]]) [[U eL,S fa fl fc,S ra rl rc,S wa wl wc,U aS]]):=by kernel_rfl
theorem Zb(aa:Nat)(H:Heap)(K:KT):
 (fV TryzMutsJ Tryz.f71 aa H [] [] K)=(
 ∀(a b:Nat)(c:Heap),X aa H c->H b=none->c b=some (ay 91 [U 1,U 1])->∀(d:Nat)(e:Heap),X aa c e->c d=none->e d=some (ay 152 [U 1,U 2,U 2,U 1])->∀(g:Nat)(h:Heap),X aa e h->e g=none->h g=some (ay 3 [U 1])->∀(i:Nat)(j:Heap),X aa h j->h i=none->j i=some (ay 3 [U 0,U 2])->∀(k:Nat)(l:Heap),X aa j l->j k=none->l k=some (ay 97 [S (some (D g 0 none)) 1 1,S (some (D i 0 none)) 2 2])->K (A #[U 1,S (some (D b 0 none)) 1 1,S (some (D d 0 none)) 1 1,S (some (D k 0 none)) 2 2,U 0]) [] l):=by kernel_rfl
open Go Go.Proofs
abbrev Pa(g1:Heap)(h1 i1:Nat)(f1 j1 k1:Int)(l1:Bool):Prop:=
 C g1 h1 (i1+N f1*3)=some (U j1)/\C g1 h1 (i1+N f1*3+1)=some (U k1)/\C g1 h1 (i1+N f1*3+2)=some (B l1)/\True
abbrev Tb(b1:Heap)(aa:Nat)(H:Heap)(v:Nat)(u:O)(w3:LL)(K:KT)(w8:AV)(o:O)(p q:Nat)(s:Int)(w:Nat)(x:Int):Prop:=
 ∃(d1:LI)(e1:LM),d1 [U 0] b1/\∀(f1:Int)(g1:Heap),X aa H g1->d1 [U f1] g1->(f1<(v:Int)->∃h1 i1,u=some (D h1 i1 none)/\0<=f1/\f1<(v:Int)/\∃(j1 k1:Int)(l1:Bool),(Pa g1 h1 i1 f1 j1 k1 l1)/\∀m1:Nat,∃n1 o1,u=some (D n1 o1 none)/\0<=f1/\f1<(v:Int)/\∃p1:KB,g1 n1=some p1/\KB.free p1=true/\aa<=n1/\o1+N f1*3+3<=KB.size p1/\∀q1:Heap,kW g1 n1 (o1+N f1*3) p1 [U 0,U k1,B false] q1->∀r1:Int,r1=W Z (f1+1)->w3=w3/\d1 [U r1] q1/\e1 [U r1]<e1 [U f1])/\(¬f1<(v:Int)->(¬Int.ofNat 0=0->K (T w8) [] g1)/\(¬¬Int.ofNat 0=0->K (T #[A #[S o p q,U s,U 0,B false,S u v w,U x],U 0]) [] g1))
abbrev tI(K:KT)(w7:AV)(m:Heap)(w2:AV):Prop:=
 (¬Int.ofNat 7=0->K (T w7) [] m)/\(¬¬Int.ofNat 7=0->K (T w2) [] m)
theorem vc79{rl:Nat}{ag n id:Int}:
 (fV TryzMutsJ Tryz.f144 aa H [.v (A #[U eL,S fa fl fc,S ra rl rc,S wa wl wc,U aS]),.v (A #[S la ll lc,U aU,U ab,B ac,S ka kl kc,U nx]),.v (A #[U kd,U ag,U tr,U n,B gd,U id,S qa ql qc])] [] K)=(
 (fun tu:AV=>(fun w9:AV=>(fun w8:AV=>(fun w7:AV=>∀a b c d:Nat,Y 197 [A #[U eL,S fa fl fc,S ra rl rc,S wa wl wc,U aS],A tu] H fun e g=>∃h,e=U h/\(X aa H g->(¬h=0->K (T #[A #[S none 0 0,U 0,U 0,B false,S none 0 0,U 0],U h]) [] g)/\(¬¬h=0->Y 198 [A #[U kd,U ag,U tr,U n,B gd,U id,S qa ql qc]] g fun i j=>∃k,(fun w6:AV=>i=U k/\(X aa g j->Y 170 [A tu] j fun l m=>∃o p q r s t u v w x,(fun w5:AV=>(fun w4:LL=>(fun w3:LL=>(fun w2:AV=>(fun w1:LB=>l=A #[S o p q,U r,U s,B t,S u v w,U x]/\(X aa j m->(¬k=0->(¬k=0->K (T w6) [] m)/\(¬¬k=0->K (T w2) [] m))/\(¬¬k=0->(kd=4->∀y z:Nat,((p:Int)=6->(¬Int.ofNat 2=0->K (T #[A #[S none 0 0,U 0,U 0,B false,S none 0 0,U 0],U 2]) [] m)/\(¬¬Int.ofNat 2=0->K (T w2) [] m))/\(¬(p:Int)=6->∀a1:Int,a1=W Z ((p:Int)+1)->(¬id=a1->tI K w7 m w2)/\(¬¬id=a1->Y 186 [S qa ql qc,S ra rl rc] m fun b1 c1=>∃d1 e1,b1=T #[U d1,U e1]/\(X aa m c1->(¬e1=0->(¬e1=0->K (T #[A #[S none 0 0,U 0,U 0,B false,S none 0 0,U 0],U e1]) [] c1)/\(¬¬e1=0->K (T w2) [] c1))/\(¬¬e1=0->(0<=d1->(¬Int.ofNat 8=0->K (T #[A #[S none 0 0,U 0,U 0,B false,S none 0 0,U 0],U 8]) [] c1)/\(¬¬Int.ofNat 8=0->K (T w2) [] c1))/\(¬0<=d1->Y 163 [S qa ql qc] c1 fun f1 g1=>∃h1 i1 j1,f1=S h1 i1 j1/\(X aa c1 g1->∀(k1:Nat)(l1:Heap),X aa g1 l1->g1 k1=none->l1 k1=some (ay 24 [U id,S h1 i1 j1])->∃m1 n1:List Value,bg aa l1 24 2 o p q m1/\zo n1=1*2/\aM n1=true/\(1=0∨∃o1 p1,some (D k1 0 none)=some (D o1 p1 none)/\ba l1 o1 p1 0 n1)/\(p+1)*32<=140737488355328/\p+1<=9223372036854775807/\∀(o1:O)(p1:Nat)(q1:Heap),cu aa l1 q1 o q o1 p1 (p+1)->bg aa q1 24 2 o1 (p+1) p1 (m1++n1)->(¬Int.ofNat 0=0->K (T w8) [] q1)/\(¬¬Int.ofNat 0=0->K (T #[A #[S o1 (p+1) p1,U r,U s,B t,S u v w,U x],U 0]) [] q1))))))))/\(¬kd=4->(kd=5->(¬s=0->tI K w7 m w2)/\(¬¬s=0->((p:Int)<n->(¬Int.ofNat 5=0->K (T w9) [] m)/\(¬¬Int.ofNat 5=
 0->K (T w2) [] m))/\(¬(p:Int)<n->(n=r->(¬Int.ofNat 6=0->K (T #[A #[S none 0 0,U 0,U 0,B false,S none 0 0,U 0],U 6]) [] m)/\(¬¬Int.ofNat 6=0->K (T w2) [] m))/\(¬n=r->(¬Int.ofNat 0=0->K (T w8) [] m)/\(¬¬Int.ofNat 0=0->K (T #[A #[S o p q,U r,U n,B t,S u v w,U x],U 0]) [] m)))))/\(¬kd=5->∃y:Prop,((kd=6->w1=w1/\ak m m/\y)/\(¬kd=6->w1=w1/\ak m m/\(y↔kd=7)))/\(y->∀z a1:Nat,((v:Int)<=ag->(¬Int.ofNat 5=0->K (T w9) [] m)/\(¬¬Int.ofNat 5=0->K (T w2) [] m))/\(¬(v:Int)<=ag->∃b1 c1,u=some (D b1 c1 none)/\0<=ag/\ag<(v:Int)/\(kd=7->∃d1,C m b1 (c1+N ag*3)=some (U d1)/\(¬d1=1->tI K w7 m w2)/\(¬¬d1=1->∃e1,C m b1 (c1+N ag*3+1)=some (U e1)/\(¬tr=e1->tI K w7 m w2)/\(¬¬tr=e1->∃f1:KB,m b1=some f1/\KB.free f1=true/\aa<=b1/\c1+N ag*3+1<=KB.size f1/\∀g1:Heap,kW m b1 (c1+N ag*3) f1 [U 3] g1->(gd=true->∃h1:KB,g1 b1=some h1/\KB.free h1=true/\aa<=b1/\c1+N ag*3+1<=KB.size h1/\∀i1:Heap,kW g1 b1 (c1+N ag*3) h1 [U 2] i1->(¬Int.ofNat 0=0->K (T w8) [] i1)/\(¬¬Int.ofNat 0=0->K (T w2) [] i1))/\(gd=false->(¬Int.ofNat 0=0->K (T w8) [] g1)/\(¬¬Int.ofNat 0=0->K (T w2) [] g1)))))/\(¬kd=7->(s=0->tI K w7 m w2)/\(¬s=0->(¬tr=x->tI K w7 m w2)/\(¬¬tr=x->Y 231 [A #[U eL,S fa fl fc,S ra rl rc,S wa wl wc,U aS],A #[S o p q,U r,U s,B t,S u v w,U x],U ag] m fun d1 e1=>∃f1,d1=B f1/\(X aa m e1->(f1=false->tI K w7 e1 w2)/\(¬f1=false->∃g1:KB,e1 b1=some g1/\KB.free g1=true/\aa<=b1/\c1+N ag*3+3<=KB.size g1/\∀h1:Heap,kW e1 b1 (c1+N ag*3) g1 [U 1,U tr,B t] h1->∀i1:Int,i1=W Z (x+1)->(¬Int.ofNat 0=0->K (T w8) [] h1)/\(¬¬Int.ofNat 0=0->K (T #[A #[S o p q,U r,U s,B t,S u v w,U i1],U 0]) [] h1))))))))/\(¬y->(kd=8->∃z:Prop,((s=0->w1=w1/\ak m m/\z)/\(¬s=0->w1=w1/\ak m m/\(z↔t=true)))/\(z->tI K w7 m w5)/\(¬z->(¬k=0->K (T w6) [] m)/\(¬¬k=0->K (T w5) [] m)))/\(¬kd=8->(kd=9->∀z:Nat,(s=0->tI K w7 m w2)/\(¬s=0->Y 232 [A #[U eL,S fa fl fc,S ra rl rc,S wa
 wl wc,U aS],A #[S o p q,U r,U s,B t,S u v w,U x]] m fun a1 b1=>∃c1,a1=B c1/\(X aa m b1->(c1=false->tI K w7 b1 w2)/\(¬c1=false->(t=false->Tb b1 aa H v u w3 K w8 o p q s w x)/\(¬t=false->Tb b1 aa H v u w4 K w8 o p q r w x)))))/\(¬kd=9->(¬Int.ofNat 4=0->K (T #[A #[S none 0 0,U 0,U 0,B false,S none 0 0,U 0],U 4]) [] m)/\(¬¬Int.ofNat 4=0->K (T w2) [] m))))))))) [J a false 28 [U eL,S fa fl fc,S ra rl rc,S wa wl wc,U aS],J b false 32 [S o p q,U r,U s,B t,S u v w,U x],J c false 126 [U kd,U ag,U tr,U n,B gd,U id,S qa ql qc],J d false 32 [S none 0 0,U 0,U 0,B false,S none 0 0,U 0]]) #[A #[S o p q,U r,U s,B t,S u v w,U x],U 0]) [[U eL,S fa fl fc,S ra rl rc,S wa wl wc,U aS],[S o p q,U s,U 0,B false,S u v w,U x],[U kd,U ag,U tr,U n,B gd,U id,S qa ql qc],[S none 0 0,U 0,U 0,B false,S none 0 0,U 0],[U eL,S fa fl fc,S ra rl rc,S wa wl wc,U aS]]) [[U eL,S fa fl fc,S ra rl rc,S wa wl wc,U aS],[S o p q,U r,U 0,B false,S u v w,U x],[U kd,U ag,U tr,U n,B gd,U id,S qa ql qc],[S none 0 0,U 0,U 0,B false,S none 0 0,U 0],[U eL,S fa fl fc,S ra rl rc,S wa wl wc,U aS]]) #[A #[S o p q,U r,U s,B true,S u v w,U x],U 0])) #[A #[S none 0 0,U 0,U 0,B false,S none 0 0,U 0],U k]))) #[A #[S none 0 0,U 0,U 0,B false,S none 0 0,U 0],U 7]) #[A #[S none 0 0,U 0,U 0,B false,S none 0 0,U 0],U 0]) #[A #[S none 0 0,U 0,U 0,B false,S none 0 0,U 0],U 5]) #[S la ll lc,U aU,U ab,B ac,S ka kl kc,U nx]):=by kernel_rfl
open Go Go.Proofs
abbrev tJ(i:Value)(aa:Nat)(g j:Heap)(K:KT):Prop:=
 ∃(k:O)(l m:Nat)(o p:Int)(q:Bool)(r:O)(s t:Nat)(u v:Int),(fun w1:AV=>i=T w1/\(X aa g j->K (T w1) [] j)) #[A #[S k l m,U o,U p,B q,S r s t,U u],U v]
abbrev wC(b:Heap)(aa:Nat)(K:KT):Prop:=
 Y 154 [U 7] b fun g h=>tJ g aa b h K
abbrev Js(eL aS:Int)(fa ra wa:O)(fl fc rl rc wl wc:Nat)(la ka:O)(ll lc kl kc:Nat)(aU ab nx:Int)(ac:Bool)(kd ag tr n id:Int)(gd:Bool)(qa:O)(ql qc:Nat)(aa:Nat)(H:Heap)(K:KT)(iE:O)(eM:Heap)(b:Nat)(u0:Nat)(a':O)(c':Nat)(mj:Nat)(Nk:Nat)(uo:Nat):Prop:=
 ¬(↑(0+kl):Int)<=ag->∃a c,iE=some (D a c none)/\0<=ag/\ag<(↑(0+kl):Int)/\∃(d e:Int)(g:Bool),(Pa eM a c ag d e g)/\∀h:Nat,(fun w3:LB=>(kd=6->∃i:Prop,((ab=0->w3=w3/\ak eM eM/\i)/\(¬ab=0->(¬tr=nx->w3=w3/\ak eM eM/\i)/\(¬¬tr=nx->Y 157 [A #[U eL,S fa fl fc,S ra rl rc,S wa wl wc,U aS],A #[S a' (0+ll) c',U aU,U ab,B ac,S iE (0+kl) mj,U nx],U ag] eM fun j k=>∃l,j=B l/\(X aa eM k->w3=w3/\ak eM k/\(i↔l=false)))))/\(i->wC eM aa K)/\(¬i->∀j:Int,j=W Z (nx+1)->∃k l,iE=some (D k l none)/\0<=ag/\ag<(↑(0+kl):Int)/\∃m:KB,eM k=some m/\KB.free m=true/\aa<=k/\l+N ag*3+3<=KB.size m/\∀o:Heap,kW eM k (l+N ag*3) m [U 1,U nx,B ac] o->K (T #[A #[S a' (0+ll) c',U aU,U ab,B ac,S iE (0+kl) mj,U j],U 0]) [] o))/\(¬kd=6->∃i:Prop,((¬d=1->w3=w3/\ak eM eM/\i)/\(¬¬d=1->w3=w3/\ak eM eM/\(i↔¬e=tr)))/\(i->wC eM aa K)/\(¬i->∀j:Nat,∃k:List Value,bI (B true) (U 2) []=some k/\∃l:List Value,bI (B false) (U 3) k=some l/\∃(m:Int)(o:Bool),ii (U 0) (B gd) l=some (U m,o)/\∃p q,iE=some (D p q none)/\0<=ag/\ag<(↑(0+kl):Int)/\∃r:KB,eM p=some r/\KB.free r=true/\aa<=p/\q+N ag*3+3<=KB.size r/\∀s:Heap,kW eM p (q+N ag*3) r [U m,U e,B g] s->K (T #[A #[S a' (0+ll) c',U aU,U ab,B ac,S iE (0+kl) mj,U nx],U 0]) [] s))) [J b false 28 [U eL,S fa fl fc,S ra rl rc,S wa wl wc,U aS],J u0 false 32 [S a' (0+ll) c',U aU,U ab,B ac,S iE (0+kl) mj,U nx],J Nk false 126 [U kd,U ag,U tr,U n,B gd,U id,S qa ql qc],J uo false 32 [S none 0 0,U 0,U 0,B false,S none 0 0,U 0],J h false 95 [U d,U e,B g]]
abbrev Jt(eL aS:Int)(fa ra wa:O)(fl fc rl rc wl wc:Nat)(la ka:O)(ll lc kl kc:Nat)(aU ab nx:Int)(ac:Bool)(kd ag tr n id:Int)(gd:Bool)(qa:O)(ql qc:Nat)(aa:Nat)(H:Heap)(K:KT)(b:Nat)(u0:Nat)(a':O)(c':Nat)(iE:O)(mj:Nat)(Nk:Nat)(uo:Nat)(eM:Heap):Prop:=
 (fun w2:LB=>kd=8->∃a:Prop,((ac=true->w2=w2/\ak eM eM/\a)/\(ac=false->w2=w2/\ak eM eM/\(a↔ab=0)))/\(a->wC eM aa K)/\(¬a->K (T #[A #[S a' (0+ll) c',U aU,U ab,B true,S iE (0+kl) mj,U nx],U 0]) [] eM)) [J b false 28 [U eL,S fa fl fc,S ra rl rc,S wa wl wc,U aS],J u0 false 32 [S a' (0+ll) c',U aU,U ab,B ac,S iE (0+kl) mj,U nx],J Nk false 126 [U kd,U ag,U tr,U n,B gd,U id,S qa ql qc],J uo false 32 [S none 0 0,U 0,U 0,B false,S none 0 0,U 0]]
abbrev Tc(g:Heap)(h aa i:Nat)(e:Int)(iE:O)(kl:Nat)(w4:LL)(c:LI)(d:LM):Prop:=
 ∃j:KB,g h=some j/\KB.free j=true/\aa<=h/\i+N e*3+1<=KB.size j/\∀k:Heap,kW g h (i+N e*3) j [U 0] k->∃l m,iE=some (D l m none)/\0<=e/\e<(↑(0+kl):Int)/\∃o:KB,k l=some o/\KB.free o=true/\aa<=l/\m+N e*3+2+1<=KB.size o/\∀p:Heap,kW k l (m+N e*3+2) o [B false] p->∀q:Int,q=W Z (e+1)->w4=w4/\c [U q] p/\d [U q]<d [U e]
abbrev Td(eM:Heap)(aa:Nat)(H:Heap)(kl:Nat)(iE:O)(w4:LL)(K:KT)(a':O)(ll c':Nat)(ab:Int)(mj:Nat)(nx:Int):Prop:=
 ∃(c:LI)(d:LM),c [U 0] eM/\∀(e:Int)(g:Heap),X aa H g->c [U e] g->(e<(↑(0+kl):Int)->∃h i,iE=some (D h i none)/\0<=e/\e<(↑(0+kl):Int)/\(Tc g h aa i e iE kl w4 c d)/\Tc g h aa i e iE kl w4 c d)/\(¬e<(↑(0+kl):Int)->K (T #[A #[S a' (0+ll) c',U ab,U 0,B false,S iE (0+kl) mj,U nx],U 0]) [] g)
abbrev Ju(eL aS:Int)(fa ra wa:O)(fl fc rl rc wl wc:Nat)(la ka:O)(ll lc kl kc:Nat)(aU ab nx:Int)(ac:Bool)(kd ag tr n id:Int)(gd:Bool)(qa:O)(ql qc:Nat)(aa:Nat)(H:Heap)(K:KT)(b:Nat)(u0:Nat)(a':O)(c':Nat)(iE:O)(mj:Nat)(Nk:Nat)(uo:Nat)(eM:Heap):Prop:=
 (fun w7:LV=>(fun w6:LV=>(fun w5:LL=>(fun w4:LL=>(fun w3:LB=>¬kd=8->(kd=9->∃a:Prop,((ab=0->w3=w3/\ak eM eM/\a)/\(¬ab=0->Y 158 [A #[U eL,S fa fl fc,S ra rl rc,S wa wl wc,U aS],A #[S a' (0+ll) c',U aU,U ab,B ac,S iE (0+kl) mj,U nx]] eM fun c d=>∃e,c=B e/\(X aa eM d->w3=w3/\ak eM d/\(a↔e=false))))/\(a->wC eM aa K)/\(¬a->(ac=false->Td eM aa H kl iE w4 K a' ll c' ab mj nx)/\(¬ac=false->Td eM aa H kl iE w5 K a' ll c' aU mj nx)))/\(¬kd=9->Y 154 [U 4] eM fun a c=>tJ a aa eM c K)) [J b false 28 [U eL,S fa fl fc,S ra rl rc,S wa wl wc,U aS],J u0 false 32 [S a' (0+ll) c',U aU,U ab,B ac,S iE (0+kl) mj,U nx],J Nk false 126 w6,J uo false 32 w7]) [[U eL,S fa fl fc,S ra rl rc,S wa wl wc,U aS],[S a' (0+ll) c',U ab,U 0,B false,S iE (0+kl) mj,U nx],w6,w7]) [[U eL,S fa fl fc,S ra rl rc,S wa wl wc,U aS],[S a' (0+ll) c',U aU,U 0,B false,S iE (0+kl) mj,U nx],w6,w7]) [U kd,U ag,U tr,U n,B gd,U id,S qa ql qc]) [S none 0 0,U 0,U 0,B false,S none 0 0,U 0]
abbrev Pb(eL aS:Int)(fa ra wa:O)(fl fc rl rc wl wc:Nat)(la ka:O)(ll lc kl kc:Nat)(aU ab nx:Int)(ac:Bool)(kd ag tr n id:Int)(gd:Bool)(qa:O)(ql qc:Nat)(aa:Nat)(H:Heap)(K:KT)(eM:Heap)(a':O)(c':Nat)(iE:O)(mj:Nat)(b:Nat)(u0:Nat)(Nk:Nat)(uo:Nat):Prop:=
 ¬kd=4->(kd=5->(0<ab->wC eM aa K)/\(¬0<ab->((↑(0+ll):Int)<n->Y 154 [U 5] eM fun a c=>tJ a aa eM c K)/\(¬(↑(0+ll):Int)<n->(n=aU->Y 154 [U 6] eM fun a c=>tJ a aa eM c K)/\(¬n=aU->K (T #[A #[S a' (0+ll) c',U aU,U n,B ac,S iE (0+kl) mj,U nx],U 0]) [] eM))))/\(¬kd=5->(kd=6->(kd=6->((↑(0+kl):Int)<=ag->Y 154 [U 5] eM fun a c=>tJ a aa eM c K)/\(Js eL aS fa ra wa fl fc rl rc wl wc la ka ll lc kl kc aU ab nx ac kd ag tr n id gd qa ql qc aa H K iE eM b u0 a' c' mj Nk uo))/\(¬kd=6->(Jt eL aS fa ra wa fl fc rl rc wl wc la ka ll lc kl kc aU ab nx ac kd ag tr n id gd qa ql qc aa H K b u0 a' c' iE mj Nk uo eM)/\(Ju eL aS fa ra wa fl fc rl rc wl wc la ka ll lc kl kc aU ab nx ac kd ag tr n id gd qa ql qc aa H K b u0 a' c' iE mj Nk uo eM)))/\(¬kd=6->(kd=7->((↑(0+kl):Int)<=ag->Y 154 [U 5] eM fun a c=>tJ a aa eM c K)/\(Js eL aS fa ra wa fl fc rl rc wl wc la ka ll lc kl kc aU ab nx ac kd ag tr n id gd qa ql qc aa H K iE eM b u0 a' c' mj Nk uo))/\(¬kd=7->(Jt eL aS fa ra wa fl fc rl rc wl wc la ka ll lc kl kc aU ab nx ac kd ag tr n id gd qa ql qc aa H K b u0 a' c' iE mj Nk uo eM)/\(Ju eL aS fa ra wa fl fc rl rc wl wc la ka ll lc kl kc aU ab nx ac kd ag tr n id gd qa ql qc aa H K b u0 a' c' iE mj Nk uo eM))))
abbrev Pc(eL aS:Int)(fa ra wa:O)(fl fc rl rc wl wc:Nat)(la ka:O)(ll lc kl kc:Nat)(aU ab nx:Int)(ac:Bool)(kd ag tr n id:Int)(gd:Bool)(qa:O)(ql qc:Nat)(aa:Nat)(H:Heap)(K:KT)(eM:Heap)(a':O)(c':Nat)(iE:O)(mj:Nat):Prop:=
 kd=4->Y 93 [S qa ql qc,S ra rl rc] eM fun a b=>∃c d,a=T #[U c,U d]/\(X aa eM b->((↑(0+ll):Int)=6->Y 154 [U 2] b fun e g=>tJ e aa b g K)/\(¬(↑(0+ll):Int)=6->∀e:Int,e=W Z ((↑(0+ll):Int)+1)->(¬id=e->wC b aa K)/\(¬¬id=e->(0<=c->Y 154 [U 8] b fun g h=>tJ g aa b h K)/\(¬0<=c->∀g:Nat,∃h:List Value,bg aa b 24 2 a' (0+ll) c' h/\(0+ll+1)*32<=140737488355328/\0+ll+1<=9223372036854775807/\∀(i:O)(j:Nat)(k:Heap),cu aa b k a' c' i j (0+ll+1)->bg aa k 24 2 i (0+ll+1) j (h++[U id,S qa ql qc])->K (T #[A #[S i (0+ll+1) j,U aU,U ab,B ac,S iE (0+kl) mj,U nx],U 0]) [] k))))
abbrev Jv(kl:Nat)(ka:O)(u:Heap)(w:List Value):Prop:=
 kl=0∨∃x y,ka=some (D x y none)/\ba u x y 0 w
abbrev Te(aa:Nat)(u:Heap)(t kl:Nat)(ka:O)(eL aS:Int)(fa ra wa:O)(fl fc rl rc wl wc:Nat)(la:O)(ll lc kc:Nat)(aU ab nx:Int)(ac:Bool)(kd ag tr n id:Int)(gd:Bool)(qa:O)(ql qc:Nat)(H:Heap)(K:KT)(q:O)(r a b c d:Nat):Prop:=
 ∃v w:List Value,bg aa u 95 3 (some (D t 0 none)) 0 0 v/\zo w=kl*3/\aM w=true/\(Jv kl ka u w)/\(0+kl)*24<=140737488355328/\0+kl<=9223372036854775807/\∀(x:O)(y:Nat)(z:Heap),cu aa u z (some (D t 0 none)) 0 x y (0+kl)->bg aa z 95 3 x (0+kl) y (v++w)->(Pc eL aS fa ra wa fl fc rl rc wl wc la ka ll lc kl kc aU ab nx ac kd ag tr n id gd qa ql qc aa H K z q r x y)/\(Pb eL aS fa ra wa fl fc rl rc wl wc la ka ll lc kl kc aU ab nx ac kd ag tr n id gd qa ql qc aa H K z q r x y a b c d)
abbrev xC(aa:Nat)(p:Heap)(l ll:Nat)(la:O)(o kl:Nat)(ka:O)(eL aS:Int)(fa ra wa:O)(fl fc rl rc wl wc lc kc:Nat)(aU ab nx:Int)(ac:Bool)(kd ag tr n id:Int)(gd:Bool)(qa:O)(ql qc:Nat)(H:Heap)(K:KT)(a b c d:Nat):Prop:=
 ∃q r:List Value,bg aa p 24 2 (some (D l 0 none)) 0 0 q/\zo r=ll*2/\aM r=true/\(Jv ll la p r)/\(0+ll)*32<=140737488355328/\0+ll<=9223372036854775807/\∀(s:O)(t:Nat)(u:Heap),cu aa p u (some (D l 0 none)) 0 s t (0+ll)->bg aa u 24 2 s (0+ll) t (q++r)->Te aa u o kl ka eL aS fa ra wa fl fc rl rc wl wc la ll lc kc aU ab nx ac kd ag tr n id gd qa ql qc H K s t a b c d
abbrev Pe(aa:Nat)(m:Heap)(l ll:Nat)(la:O)(kl:Nat)(ka:O)(eL aS:Int)(fa ra wa:O)(fl fc rl rc wl wc lc kc:Nat)(aU ab nx:Int)(ac:Bool)(kd ag tr n id:Int)(gd:Bool)(qa:O)(ql qc:Nat)(H:Heap)(K:KT)(a b c d:Nat):Prop:=
 ∃o p:List Value,bg aa m 24 2 (some (D l 0 none)) 0 0 o/\zo p=ll*2/\aM p=true/\(Jv ll la m p)/\(0+ll)*32<=140737488355328/\0+ll<=9223372036854775807/\∀(q:O)(r:Nat)(s:Heap),cu aa m s (some (D l 0 none)) 0 q r (0+ll)->bg aa s 24 2 q (0+ll) r (o++p)->∀(t:Nat)(u:Heap),X aa s u->s t=none->u t=some (ay 95 [])->Te aa u t kl ka eL aS fa ra wa fl fc rl rc wl wc la ll lc kc aU ab nx ac kd ag tr n id gd qa ql qc H K q r a b c d
theorem vc87{rl:Nat}{ag n id:Int}:
 (fV TryzMutsJ Tryz.f83 aa H [.v (A #[U eL,S fa fl fc,S ra rl rc,S wa wl wc,U aS]),.v (A #[S la ll lc,U aU,U ab,B ac,S ka kl kc,U nx]),.v (A #[U kd,U ag,U tr,U n,B gd,U id,S qa ql qc])] [] K)=(
 ∀a b c d:Nat,Y 155 [A #[U eL,S fa fl fc,S ra rl rc,S wa wl wc,U aS],A #[S la ll lc,U aU,U ab,B ac,S ka kl kc,U nx]] H fun e g=>∃h,e=U h/\(X aa H g->(¬h=0->Y 154 [U h] g fun i j=>tJ i aa g j K)/\(¬¬h=0->Y 156 [A #[U kd,U ag,U tr,U n,B gd,U id,S qa ql qc]] g fun i j=>∃k,i=U k/\(X aa g j->(¬k=0->Y 154 [U k] j fun l m=>tJ l aa j m K)/\(¬¬k=0->(∀(l:Nat)(m:Heap),X aa j m->j l=none->m l=some (ay 24 [])->(Pe aa m l ll la kl ka eL aS fa ra wa fl fc rl rc wl wc lc kc aU ab nx ac kd ag tr n id gd qa ql qc H K a b c d)/\(∀(o:Nat)(p:Heap),X aa m p->m o=none->p o=some (ay 95 [])->(xC aa p l ll la o kl ka eL aS fa ra wa fl fc rl rc wl wc lc kc aU ab nx ac kd ag tr n id gd qa ql qc H K a b c d)/\xC aa p l ll la o kl ka eL aS fa ra wa fl fc rl rc wl wc lc kc aU ab nx ac kd ag tr n id gd qa ql qc H K a b c d)/\(Pe aa m l ll la kl ka eL aS fa ra wa fl fc rl rc wl wc lc kc aU ab nx ac kd ag tr n id gd qa ql qc H K a b c d)/\∀(o:Nat)(p:Heap),X aa m p->m o=none->p o=some (ay 95 [])->xC aa p l ll la o kl ka eL aS fa ra wa fl fc rl rc wl wc lc kc aU ab nx ac kd ag tr n id gd qa ql qc H K a b c d)/\(∀(l:Nat)(m:Heap),X aa j m->j l=none->m l=some (ay 95 [])->(∀(o:Nat)(p:Heap),X aa m p->m o=none->p o=some (ay 24 [])->(xC aa p o ll la l kl ka eL aS fa ra wa fl fc rl rc wl wc lc kc aU ab nx ac kd ag tr n id gd qa ql qc H K a b c d)/\xC aa p o ll la l kl ka eL aS fa ra wa fl fc rl rc wl wc lc kc aU ab nx ac kd ag tr n id gd qa ql qc H K a b c d)/\∀(o:Nat)(p:Heap),X aa m p->m o=none->p o=some (ay 24 [])->xC aa p o ll la l kl ka eL aS fa ra wa fl fc rl rc wl wc lc kc aU ab nx ac kd ag tr n id gd qa ql qc H K a b c d)/\(∀(l:Nat)(m:Heap),X aa j m->j l=none->m l=some (ay 24 [])->(Pe aa m l ll la kl ka eL aS fa ra wa fl fc rl rc wl wc lc kc aU ab nx ac kd
 ag tr n id gd qa ql qc H K a b c d)/\∀(o:Nat)(p:Heap),X aa m p->m o=none->p o=some (ay 95 [])->xC aa p l ll la o kl ka eL aS fa ra wa fl fc rl rc wl wc lc kc aU ab nx ac kd ag tr n id gd qa ql qc H K a b c d)/\∀(l:Nat)(m:Heap),X aa j m->j l=none->m l=some (ay 95 [])->∀(o:Nat)(p:Heap),X aa m p->m o=none->p o=some (ay 24 [])->xC aa p o ll la l kl ka eL aS fa ra wa fl fc rl rc wl wc lc kc aU ab nx ac kd ag tr n id gd qa ql qc H K a b c d))))):=by kernel_rfl
open Go Go.Proofs
open Go Go.Proofs
open Go Go.Proofs
section
variable {aa : Nat} {G H H' : Heap} {l : jh} {la qH ka : O} {ll lc sV kl kc : Nat} {rows : List (List Value)}
theorem oE.push(h:oE aa G H l la ll lc ka kl kc rows){r:kU}{c:Nat}(hp:aL G a n r.ap)(hg:Rg r.id)(hn:nn=ll+1)(hG:cu aa H H' la lc qH sV nn)(hR:bg aa H' 24 2 qH nn sV (rows.flatten++[i64 r.id,.slice a n c])):
  cQ H' { l with bJ:=l.bJ++[r] } qH nn ka kl:=by
 have h1:=h.bJ.oB (rows':=[[i64 r.id,.slice a n c]]) (ys:=[r]) hG (by simpa using hR) (by simp) ⟨⟨a,n,c,rfl,hp,hg⟩,trivial⟩;exact⟨h1.sl Ai.mono (by omega),Aj (h.bX.stay hG h.apart).1⟩
theorem oE.put(h:oE aa G H l la ll lc ka kl kc rows){k:Nat}{q:Kn}(hp:l.bX[k]?=some p){f:Nat}(hf:f+vs.length<=3)(hq:aV (gP p) f vs=gP q){kb:KB}(Tf:ka=some ⟨b,0,none⟩)(hkc:kc≠0)(hb:H b=some kb)(ho:o=k*3+f)(hu:kW H b o kb vs H'):
  oE aa G H' { l with bX:=l.bX.set k q } la ll lc ka kl kc rows:=by
 refine⟨h.bJ.other hu (fun w e=>h.apart w hkc (by rw[e,Tf])) (h.clear hkc b Tf),?_,h.apart,h.clear⟩;have hl:=(Aj h.bX).len;have qu:=(zw.1 hp).1;have h1:=h.bX.N2 Tf hkc hb (o:=o) (vs:=vs) (by rw[h.bX.1,ho];omega) hu;rw[ho,uq j9 hf hq hp] at h1;exact h1
theorem oE.ag(h:oE aa G H l la ll lc ka kl kc rows){k:Nat}(hp:l.bX[k]?=some p):
  ∃(b:Nat)(kb:KB),ka=some ⟨b,0,none⟩/\aa<=b/\kc≠0/\H b=some kb/\kb.free=true/\kb.size=kc*3/\k<kl/\kl<=kc/\∀(j:Nat)(v:Value),(gP p)[j]?=some v->H.cell b (0+k*3+j)=some v:=by
 have hl:=(Aj h.bX).len;have qu:=(zw.1 hp).1;obtain⟨b,kb,h1,h2,h3,h4,h5,h6,_⟩:=h.bX.block (by omega);have hR:=h.bX;rw[List.flatMap_def] at hR;obtain⟨b',Fk,hc⟩:=hR.at (i:=k) (r:=gP p) (fun r hr=>by obtain⟨x,_,rfl⟩:=zM.1 hr;rfl) (by simp;omega) (by rw[zP,hp];rfl);obtain rfl:b=b':=by rw[h1] at Fk;simpa using Fk
 exact⟨b,kb,h1,h2,h3,h4,h5,h6,by omega,hR.2.1,hc⟩
theorem oE.as(h:oE aa G H x la ll lc ka kl kc rows)(hr:x.bJ=y.bJ)(ha:x.bX=y.bX):oE aa G H y la ll lc ka kl kc rows:=⟨hr▸h.bJ,ha▸h.bX,h.apart,h.clear⟩
theorem cQ.as(h:cQ H x la ll ka kl)(hr:x.bJ=y.bJ)(ha:x.bX=y.bX):cQ H y la ll ka kl:=⟨hr▸h.bJ,ha▸h.bX⟩
end
theorem vo(h:bC r=0):(1<=r.ae/\r.ae<=9)/\¬iO r/\¬gp r/\(r.ae=1∨r.ae=4->dp r.cB=0):=by
 unfold bC at h;split at h
 ·omega
 ·split at h
  ·omega
  ·split at h
   ·omega
   ·rename_i h1 h2 h3;refine⟨by omega,h2,h3,fun hk=>?_⟩;rw[pI hk] at h;exact h
def Nl(a:Kn):Kn:=⟨0,a.au,false⟩
theorem Pf(hm:xs[i]?=some m):((xs.take i).map Nl++xs.drop i).set i (Nl m)=(xs.take (i+1)).map Nl++xs.drop (i+1):=by
 have hi:=(zw.1 hm).1;rw[av hm,fQ hm,List.set_append_right _ _ (by simp;omega)];simp[Nat.min_eq_left (Nat.le_of_lt hi)]
theorem vp(hm:xs[i]?=some m):((xs.take i).map Nl++xs.drop i)[i]?=some m:=by
 have hi:=(zw.1 hm).1;rw[zY (by simp;omega)];simp[Nat.min_eq_left (Nat.le_of_lt hi),hm]
section
variable {H : Heap} {c : dM} {fa ra wa qa : O} {fl fc rl rc wl wc ql qc : Nat} {l : jh} {la ka : O} {ll lc kl kc : Nat} {r : bD}
theorem Rr(hc:fB H c fa fl ra rl wa wl)(h:cQ H l la ll ka kl)(hr:aL H qa ql r.cB.ap):
  Sp 144 [eN c fa fl fc ra rl rc wa wl wc,dd l la ll lc ka kl kc,gU r qa ql qc] H fun v H'=>∃la ll lc ka kl kc,v= .tuple #[dd (iG c l r) la ll lc ka kl kc,i64 (bU c l r)]/\cQ H' (iG c l r) la ll ka kl/\ll<=lc:=by
 refine bh Tryz.func144 (fun _ _=>vc79) fun aa hb=>?_
 have bad:∀ {e:Int} {H':Heap},bU c l r=e->e≠0->∃la ll lc ka kl kc,Value.tuple #[.agg #[.slice none 0 0,.int .i64 0,.int .i64 0,.bool false,.slice none 0 0,.int .i64 0],.int .i64 e]= .tuple #[dd (iG c l r) la ll lc ka kl kc,i64 (bU c l r)]/\cQ H' (iG c l r) la ll ka kl/\ll<=lc:=fun he h0=>by
  have:iG c l r=vj:=by rw[iG,nI (by omega)]
  rw[this,he];exact⟨none,0,0,none,0,0,rfl,⟨Sl.nil,Sl.nil⟩,by omega⟩
 have aP:∀ {X:jh} {H':Heap} {la ll lc ka kl kc},bU c l r=0->bM l r=X->cQ H' X la ll ka kl->ll<=lc->∃qH sU sV su qI uh,Value.tuple #[dd X la ll lc ka kl kc,.int .i64 0]= .tuple #[dd (iG c l r) qH sU sV su qI uh,i64 (bU c l r)]/\cQ H' (iG c l r) qH sU su qI/\sU<=sV:=fun he hX hA hle=>by
  have:iG c l r=bM l r:=by rw[iG,pI he]
  rw[this,he,hX];exact⟨_,_,_,_,_,_,rfl,hA,hle⟩
 intro b b1 b2 b3;refine(Db hc h).bY fun H1 e1 _=>⟨fun q=>bad (by rw[bU,pI q]) q,fun q=>?_⟩
 have q0:db c l=0:=zx.1 q;obtain⟨g1,g2,g3,g4,g5,g6,g7⟩:=dh.1 q0;unfold dP at g5;have h6:=sI q0;have Ae:=BN g4;have qu:=h.bX.len;have Ii:=h.bJ.len;refine(sF (hr.ext' e1)).bY fun H2 e2 _=>?_;have E2:=e1.trans e2;refine(O7 (h.ext E2) (by omega) (by omega) (fun m hm=>by have:=(Ae m hm).2;omega)).mono fun v H3 e3 hv=>?_;obtain⟨qH,sU,sV,su,qI,uh,G,rows,rfl,u9⟩:=hv;refine⟨qH,sU,sV,_,_,_,su,qI,uh,_,rfl,fun fS=>?_⟩;have E3:=E2.trans e3;have hO:=u9.own fS;have hll':=hO.ck.bJ.len;have hkl':=hO.ck.bX.len;refine⟨fun q2=>⟨fun _=>bad (by rw[bU,nI q,pI q2]) q2,fun w=>absurd q2 w⟩,fun q2=>?_⟩;have Wl:bC r=0:=zx.1 q2;have E:∀ {P:Int},bT c l r=P->bU c l r=P:=fun he=>by rw[bU,nI q,nI q2,he]
 obtain⟨z1,z2,z3,z4⟩:=vo Wl;have Qv:0<=r.ah:=by unfold gp at z3;omega
 refine⟨fun k4=>?_,fun k4=>⟨fun k5=>?_,fun k5=>?_⟩⟩
 ·have Zc:dp r.cB=0:=z4 (.inr k4);intro b4 b5;refine⟨fun w=>⟨fun _=>bad (E (by rw[bT,pI k4,pI (by omega)])) (by decide),fun w=>absurd (by decide) w⟩,fun w=>?_⟩;rintro _ rfl;rw[aj];refine⟨fun w2=>⟨fun _=>bad (E (by rw[bT,pI k4,nI (by omega),pI (by omega)])) (by decide),fun w=>absurd (by decide) w⟩,fun w2=>?_⟩;refine(Eo (hr.ext' E3) (hc.ext E3).rules).I0 fun H4 e4 _=>⟨fun w3=>⟨fun _=>bad (E (by rw[bT,pI k4,nI (by omega),nI (by omega),pI w3])) w3,fun w=>absurd w3 w⟩,fun w3=>⟨fun w4=>⟨fun _=>bad (E (by rw[bT,pI k4,nI (by omega),nI (by omega),nI w3,pI w4])) (by decide),fun w=>absurd (by decide) w⟩,fun w4=>?_⟩⟩
  have Nn:bU c l r=0:=E (by rw[bT,pI k4,nI (by omega),nI (by omega),nI w3,nI w4]);have Gx:=hr.len;have hr12:=(ey Zc).2.2;refine(kH (hr.ext' (E3.trans e4)) (by omega)).mono fun v H5 e5 hv=>?_;obtain⟨a5,n5,c5,rfl,hF⟩:=hv;refine⟨a5,n5,c5,rfl,fun kT g H6 Fo _ hg=>?_⟩;have OJ:=((hO.bJ.ext e4).grow Ai.mono e5).ext Fo.ext;have hP:aL (G.plus (du H4 H5)) a5 n5 r.cB.ap:=Sl.ext gT.mono (hF.pU cJ (by omega)) (ib (hO.bJ.sub.trans e4))
  have hOL:oE aa (G.plus (du H4 H5)) H6 l qH sU sV su qI uh rows:=⟨OJ,((hO.bX.ext e4).ext e5).ext Fo.ext,hO.apart,fun w g hg=>by
   obtain⟨kb,hkb⟩:∃kb,H4 g=some kb:=by
    rcases(hO.bX.ext e4).2.2.2 with⟨_,h0⟩|⟨g',k',u1,_,u3,_⟩
    ·exact absurd h0 w
    ·rw[hg] at u1;simp at u1;subst u1;exact⟨k',u3⟩
   unfold Heap.plus du
   rw[hO.clear w g hg,hkb]⟩
  refine⟨rows.flatten,[i64 r.cB.id,.slice a5 n5 c5],OJ.row,rfl,rfl,.inr ⟨g,0,rfl,rq hg⟩,by omega,by omega,fun a7 c7 H7 hG Ih=>⟨fun w=>absurd rfl w,fun _=>?_⟩⟩;exact aP (X:= { l with bJ:=l.bJ++[r.cB] }) Nn (by rw[bM,pI k4]) (hOL.push hP (KW Zc) rfl hG Ih) Ih.2.1
 ·refine⟨fun w=>⟨fun _=>bad (E (by rw[bT,nI k4,pI k5,pI w])) (by decide),fun w=>absurd (by decide) w⟩,fun w=>⟨fun w2=>⟨fun _=>bad (E (by rw[bT,nI k4,pI k5,nI w,pI (by omega)])) (by decide),fun w=>absurd (by decide) w⟩,fun w2=>⟨fun w3=>⟨fun _=>bad (E (by rw[bT,nI k4,pI k5,nI w,nI (by omega),pI w3])) (by decide),fun w=>absurd (by decide) w⟩,fun w3=>⟨fun w=>absurd rfl w,fun _=>?_⟩⟩⟩⟩;exact aP (X:= { l with ab:=r.cj }) (E (by rw[bT,nI k4,pI k5,nI w,nI (by omega),nI w3])) (by rw[bM,nI k4,pI k5]) (hO.ck.as rfl rfl) hO.bJ.row.2.1
 refine⟨r.ae=6∨r.ae=7,⟨fun w=>⟨rfl,fun _ _ h=>h,.inl w⟩,fun w=>⟨rfl,fun _ _ h=>h,by omega⟩⟩,fun vq=>?_,fun vq=>⟨fun k8=>?_,fun k8=>⟨fun k9=>?_,fun k9=>?_⟩⟩⟩
 ·intro b4 b5;refine⟨fun w=>⟨fun _=>bad (E (by rw[bT,nI k4,nI k5,pI vq,pI (by omega)])) (by decide),fun w=>absurd (by decide) w⟩,fun w=>?_⟩;obtain⟨p,hp⟩:∃p,l.bX[r.ah.toNat]?=some p:=⟨_,zu (by omega)⟩
  obtain⟨b6,kb,t1,t2,t3,t4,t5,t6,t7,t8,t9⟩:=hO.ag hp;refine⟨b6,0,t1,Qv,by omega,fun k7=>?_,fun k7=>?_⟩
  ·refine⟨p.st,t9 0 _ rfl,fun w2=>⟨fun _=>bad (E (by rw[bT,nI k4,nI k5,pI vq,nI (by omega),pI k7,hp];exact pI (.inl w2))) (by decide),fun w=>absurd (by decide) w⟩,fun w2=>⟨p.au,t9 1 _ rfl,fun w3=>⟨fun _=>bad (E (by rw[bT,nI k4,nI k5,pI vq,nI (by omega),pI k7,hp];exact pI (.inr w3))) (by decide),fun w=>absurd (by decide) w⟩,fun w3=>?_⟩⟩;have Nn:bU c l r=0:=E (by rw[bT,nI k4,nI k5,pI vq,nI (by omega),pI k7,hp];exact nI (by rintro(x|x);exact w2 x;exact w3 x));have Tg:bM l r= { l with bX:=l.bX.set r.ah.toNat (Jo r p) } :=by rw[bM,nI k4,nI k5,nI (by omega),pI k7,hp]
   refine⟨kb,t4,t5,t2,by omega,fun H4 hu=>?_⟩;have Ni:=hO.put (q:=⟨3,p.au,p.ac⟩) hp (f:=0) (by simp) rfl t1 t3 t4 (by omega) hu;refine⟨fun fM=>?_,fun fM=>⟨fun w=>absurd rfl w,fun _=>aP (X:= { l with bX:=l.bX.set r.ah.toNat (Jo r p) }) Nn Tg (Ni.ck.as rfl (by simp[Jo,fM])) Ni.bJ.row.2.1⟩⟩;refine⟨_,hu.here,t5,t2,by show _<=kb.size;omega,fun H5 sb=>?_⟩;have hp5:(l.bX.set r.ah.toNat ⟨3,p.au,p.ac⟩)[r.ah.toNat]?=some ⟨3,p.au,p.ac⟩:=by rw[List.getElem?_set_self (by omega)]
   have KQ:=Ni.put (q:=⟨2,p.au,p.ac⟩) hp5 (f:=0) (by simp) rfl t1 t3 hu.here (by omega) sb;exact⟨fun w=>absurd rfl w,fun _=>aP (X:= { l with bX:=l.bX.set r.ah.toNat (Jo r p) }) Nn Tg (KQ.ck.as rfl (by simp[Jo,fM])) KQ.bJ.row.2.1⟩
  ·have k6:r.ae=6:=by omega
   have GU:(l.ab=0∨r.au≠l.nx∨jv c l r.ah=false)->bU c l r=7:=fun w=>E (by rw[bT,nI k4,nI k5,pI vq,nI (by omega),nI k7,pI w]);refine⟨fun w2=>⟨fun _=>bad (GU (.inl w2)) (by decide),fun w=>absurd (by decide) w⟩,fun w2=>⟨fun w3=>⟨fun _=>bad (GU (.inr (.inl w3))) (by decide),fun w=>absurd (by decide) w⟩,fun w3=>?_⟩⟩;have w3':r.au=l.nx:=zx.1 w3;refine(S7 (hc.ext E3) hO.ck h6.1 Qv (by omega)).aO fun H4 e4 _=>⟨fun w4=>⟨fun _=>bad (GU (.inr (.inr w4))) (by decide),fun w=>absurd (by decide) w⟩,fun w4=>?_⟩
   refine⟨kb,e4 _ _ t4,t5,t2,by omega,fun H5 hu=>?_⟩;rintro _ rfl;rw[aj];have KQ:=(hO.ext e4).put (q:=⟨1,r.au,l.ac⟩) hp (f:=0) (by simp) rfl t1 t3 (e4 _ _ t4) (by omega) hu;refine⟨fun w=>absurd rfl w,fun _=>aP (X:= { l with bX:=l.bX.set r.ah.toNat ⟨1,r.au,l.ac⟩,nx:=l.nx+1 }) (E (by rw[bT,nI k4,nI k5,pI vq,nI (by omega),nI k7,nI (by rintro(x|x|x);exact w2 x;exact w3 x;exact w4 x)])) (by rw[bM,nI k4,nI k5,pI k6]) (KQ.ck.as rfl rfl) KQ.bJ.row.2.1⟩
 ·refine⟨l.ab=0∨l.ac=true,⟨fun w=>⟨rfl,fun _ _ h=>h,.inl w⟩,fun w=>⟨rfl,fun _ _ h=>h,⟨fun x=>x.resolve_left w,.inr⟩⟩⟩,fun w=>⟨fun _=>bad (E (by rw[bT,nI k4,nI k5,nI vq,pI k8,pI w])) (by decide),fun w=>absurd (by decide) w⟩,fun w=>?_⟩;rw[Wl];exact⟨fun w=>absurd rfl w,fun _=>aP (X:= { l with ac:=true }) (E (by rw[bT,nI k4,nI k5,nI vq,pI k8,nI w])) (by rw[bM,nI k4,nI k5,nI (by omega),nI (by omega),pI k8]) (hO.ck.as rfl rfl) hO.bJ.row.2.1⟩
 ·intro b4;refine⟨fun w=>⟨fun _=>bad (E (by rw[bT,nI k4,nI k5,nI vq,nI k8,pI k9,pI (.inl w)])) (by decide),fun w=>absurd (by decide) w⟩,fun w=>?_⟩;refine(Za (hc.ext E3) hO.ck h6.1).aO fun H4 e4 _=>⟨fun w2=>⟨fun _=>bad (E (by rw[bT,nI k4,nI k5,nI vq,nI k8,pI k9,pI (.inr w2)])) (by decide),fun w=>absurd (by decide) w⟩,fun w2=>?_⟩
  have Nn:bU c l r=0:=E (by rw[bT,nI k4,nI k5,nI vq,nI k8,pI k9,nI (by rintro(x|x);exact w x;exact w2 x)]);have Tg:bM l r= { l with aU:=(if l.ac=false then l.ab else l.aU),ab:=0,ac:=false,bX:=l.bX.map fun a=>⟨0,a.au,false⟩ } :=by rw[bM,nI k4,nI k5,nI (by omega),nI (by omega),nI k8]
  refine⟨fun w3=>?_,fun w3=>?_⟩
  all_goals
   refine⟨fun vs Hc=>∃i:Nat,vs=[i64 i]/\i<=qI/\oE aa G Hc { l with bX:=(l.bX.take i).map Nl++l.bX.drop i } qH sU sV su qI uh rows,aN qI 0,⟨0,rfl,by omega,(hO.ext e4).as rfl rfl⟩,fun m H5 kT hI=>?_⟩;obtain⟨i,cv,hi,Mz⟩:=hI;obtain rfl:m=(i:Int):=by simpa using cv
   refine⟨fun bK=>?_,fun gj=>?_⟩
   ·obtain⟨p,hp⟩:∃p,l.bX[i]?=some p:=⟨_,zu (by omega)⟩
    obtain⟨b6,kb,t1,t2,t3,t4,t5,t6,t7,t8,t9⟩:=Mz.ag (vp hp);refine⟨b6,0,t1,by omega,bK,p.st,p.au,p.ac,⟨t9 0 _ rfl,t9 1 _ rfl,t9 2 _ rfl,trivial⟩,fun b7=>⟨b6,0,t1,by omega,bK,kb,t4,t5,t2,by rw[zz];omega,fun H6 hu=>?_⟩⟩;rw[zz] at hu;rintro _ rfl;rw[aj];have OJ:=Mz.put (q:=Nl p) (vp hp) (f:=0) (by simp) rfl t1 t3 t4 (by omega) hu;exact⟨rfl,⟨i+1,rfl,by omega,OJ.as rfl (Pf hp)⟩,by simp[aN];omega⟩
   ·refine⟨fun w=>absurd rfl w,fun _=>?_⟩;rw[zg (by omega),zO (by omega),zZ] at Mz
    first
    |exact aP (X:= { l with aU:=l.ab,ab:=0,ac:=false,bX:=l.bX.map Nl }) Nn (by rw[Tg,pI w3];rfl) (Mz.ck.as rfl rfl) Mz.bJ.row.2.1
    |exact aP (X:= { l with aU:=l.aU,ab:=0,ac:=false,bX:=l.bX.map Nl }) Nn (by rw[Tg,nI w3];rfl) (Mz.ck.as rfl rfl) Mz.bJ.row.2.1
 ·exact⟨fun _=>bad (E (by rw[bT,nI k4,nI k5,nI vq,nI k8,nI k9])) (by decide),fun w=>absurd (by decide) w⟩
theorem Jw(hc:fB H c fa fl ra rl wa wl)(h:cQ H l la ll ka kl)(hr:aL H qa ql r.cB.ap):
  Sp 144 [eN c fa fl fc ra rl rc wa wl wc,dd l la ll lc ka kl kc,gU r qa ql qc] H fun v H'=>∃la ll lc ka kl kc,v= .tuple #[dd (iG c l r) la ll lc ka kl kc,i64 (bU c l r)]/\cQ H' (iG c l r) la ll ka kl:=
 (Rr hc h hr).mono fun v H' _ ⟨la,ll,lc,ka,kl,kc,h1,h2,_⟩=>⟨la,ll,lc,ka,kl,kc,h1,h2⟩
end
open Go Go.Proofs
abbrev QL(c:dM)(l:jh)(r:bD)(v:Value)(H':Heap):Prop:=∃la ll lc ka kl kc,v= .tuple #[dd (iG c l r) la ll lc ka kl kc,i64 (bU c l r)]/\cQ H' (iG c l r) la ll ka kl
theorem Zd(e:Int):Sp 154 [.int .i64 e] H fun v H'=>∃la ll lc ka kl kc,v= .tuple #[dd vj la ll lc ka kl kc,i64 e]/\cQ H' vj la ll ka kl:=by
 refine bh Tryz.func154 (fun _ _=>Y6) fun aa hb=>?_;intro b;exact⟨none,0,0,none,0,0,rfl,Sl.nil,Sl.nil⟩
section
variable {H : Heap} {c : dM} {fa ra wa qa : O} {fl fc rl rc wl wc ql qc : Nat} {l : jh} {la ka : O} {ll lc kl kc : Nat} {r : bD}
theorem uA(he:bU c l r=e)(h0:e≠0):Sp 154 [.int .i64 e] H' fun v tV=>∃(la:O)(ll lc:Nat)(n2 n3:Int)(b:Bool)(ka:O)(kl kc:Nat)(n6 n7:Int),v= .tuple #[.agg #[.slice la ll lc,.int .i64 n2,.int .i64 n3,.bool b,.slice ka kl kc,.int .i64 n6],.int .i64 n7]/\(Vg.Next aa H' tV->
  QL c l r (.tuple #[.agg #[.slice la ll lc,.int .i64 n2,.int .i64 n3,.bool b,.slice ka kl kc,.int .i64 n6],.int .i64 n7]) tV):=by
 have:iG c l r=vj:=by rw[iG,nI (by omega)]
 unfold QL;rw[this,he];exact(Zd e).ji fun la ll lc ka kl kc tV _ _ hA=>⟨_,_,_,_,_,_,rfl,hA⟩
theorem BO{X:jh}{la ka:O}{ll lc kl kc:Nat}(he:bU c l r=0)(hX:bM l r=X)(hA:cQ H' X la ll ka kl):QL c l r (.tuple #[dd X la ll lc ka kl kc,.int .i64 0]) H':=by
 have:iG c l r=bM l r:=by rw[iG,pI he]
 unfold QL;rw[this,he,hX];exact⟨_,_,_,_,_,_,rfl,hA⟩
theorem U8(hb:∀b k,H b=some k->b<aa)(hc:fB H c fa fl ra rl wa wl)(h:cQ H l la ll ka kl)(hr:aL H qa ql r.cB.ap)(q0:db c l=0)(Wl:bC r=0)
  {Hw:Heap} {xa va:O} {xc vc:Nat} {rows:List (List Value)} (e:aH H Hw) (hO:oE aa H Hw l xa (0+ll) xc va (0+kl) vc rows) (b b1 b2 b3:Nat):
  Pc c.first.id c.aS fa ra wa fl fc rl rc wl wc la ka ll lc kl kc l.aU l.ab l.nx l.ac r.ae r.ah r.au r.cj r.cB.id r.aP qa ql qc aa H (fun v _ H'=>QL c l r v H') Hw xa xc va vc/\Pb c.first.id c.aS fa ra wa fl fc rl rc wl wc la ka ll lc kl kc l.aU l.ab l.nx l.ac r.ae r.ah r.au r.cj r.cB.id r.aP qa ql qc aa H (fun v _ H'=>QL c l r v H') Hw xa xc va vc b b1 b2 b3:=by
 have q:¬db c l≠0:=by omega
 have q2:¬bC r≠0:=by omega
 obtain⟨g1,g2,g3,g4,g5,g6,g7⟩:=dh.1 q0;unfold dP at g5;have h6:=sI q0;have qu:=h.bX.len;have Ii:=h.bJ.len;have E:∀ {P:Int},bT c l r=P->bU c l r=P:=fun he=>by rw[bU,nI q,nI q2,he]
 obtain⟨z1,z2,z3,z4⟩:=vo Wl;have Qv:0<=r.ah:=by unfold gp at z3;omega
 have hcw:=hc.ext e
 have t4:¬r.ae=4->¬r.ae=5->(r.ae=6∨r.ae=7)->Js c.first.id c.aS fa ra wa fl fc rl rc wl wc la ka ll lc kl kc l.aU l.ab l.nx l.ac r.ae r.ah r.au r.cj r.cB.id r.aP qa ql qc aa H (fun v _ H'=>QL c l r v H') va Hw b b1 xa xc vc b2 b3:=fun k4 k5 vq=>by
  intro w;obtain⟨p,hp⟩:∃p,l.bX[r.ah.toNat]?=some p:=⟨_,zu (by omega)⟩
  obtain⟨b6,kb,t1,t2,t3,t4,t5,t6,t7,t8,t9⟩:=hO.ag hp;refine⟨b6,0,t1,Qv,by omega,p.st,p.au,p.ac,⟨t9 0 _ rfl,t9 1 _ rfl,t9 2 _ rfl,trivial⟩,fun b6'=>⟨fun k6=>?_,fun k6=>?_⟩⟩
  ·have GU:(l.ab=0∨r.au≠l.nx∨jv c l r.ah=false)->bU c l r=7:=fun w=>E (by rw[bT,nI k4,nI k5,pI vq,nI (by omega),nI (by omega),pI w]);refine⟨l.ab=0∨r.au≠l.nx∨jv c l r.ah=false,⟨fun x=>⟨rfl,fun _ _ h=>h,.inl x⟩,fun x=>⟨fun y=>⟨rfl,fun _ _ h=>h,.inr (.inl y)⟩,fun y=>?_⟩⟩,fun x=>uA (GU x) (by decide),fun x=>?_⟩
   ·exact(O5 hcw hO.ck q0 Qv (by omega)).aO fun H4 e4 _=>⟨rfl,e4,⟨fun z=>(z.resolve_left x).resolve_left y,fun z=> .inr (.inr z)⟩⟩
   ·have w3':r.au=l.nx:=by
     by_cases w3:r.au=l.nx
     ·exact w3
     ·exact absurd (.inr (.inl w3)) x
    rintro _ rfl;rw[aj];refine⟨b6,0,t1,Qv,by omega,kb,t4,t5,t2,by omega,fun H5 hu=>?_⟩;have KQ:=hO.put (q:=⟨1,l.nx,l.ac⟩) hp (f:=0) (by simp) rfl t1 t3 t4 (by omega) hu;exact BO (X:= { l with bX:=l.bX.set r.ah.toNat ⟨1,r.au,l.ac⟩,nx:=l.nx+1 }) (E (by rw[bT,nI k4,nI k5,pI vq,nI (by omega),nI (by omega),nI x])) (by rw[bM,nI k4,nI k5,pI k6]) (KQ.ck.as rfl (by rw[w3']))
  ·have k7:r.ae=7:=by omega
   have hE:bU c l r=if p.st≠1∨r.au≠p.au then 7 else 0:=E (by rw[bT,nI k4,nI k5,pI vq,nI (by omega),pI k7,hp])
   refine⟨p.st≠1∨r.au≠p.au,⟨fun x=>⟨rfl,fun _ _ h=>h,.inl x⟩,fun x=>⟨rfl,fun _ _ h=>h,by omega⟩⟩,fun x=>uA (by rw[hE,pI x]) (by decide),fun x=>?_⟩;intro b7;refine⟨_,rfl,_,rfl,(if r.aP=true then 2 else 3),true,by cases r.aP<;>rfl,b6,0,t1,Qv,by omega,kb,t4,t5,t2,by omega,fun H5 hu=>?_⟩;have KQ:=hO.put (q:=Jo r p) hp (f:=0) (by simp) rfl t1 t3 t4 (by omega) hu;exact BO (X:= { l with bX:=l.bX.set r.ah.toNat (Jo r p) }) (by rw[hE,nI x]) (by rw[bM,nI k4,nI k5,nI k6,pI k7,hp]) KQ.ck
 have t5:¬r.ae=4->¬r.ae=5->¬(r.ae=6∨r.ae=7)->Jt c.first.id c.aS fa ra wa fl fc rl rc wl wc la ka ll lc kl kc l.aU l.ab l.nx l.ac r.ae r.ah r.au r.cj r.cB.id r.aP qa ql qc aa H (fun v _ H'=>QL c l r v H') b b1 xa xc va vc b2 b3 Hw:=fun k4 k5 vq=>by
  intro k8;refine⟨l.ab=0∨l.ac=true,⟨fun w=>⟨rfl,fun _ _ h=>h,.inr w⟩,fun w=>⟨rfl,fun _ _ h=>h,⟨fun x=>x.resolve_right (by rw[w];simp),.inl⟩⟩⟩,fun w=>uA (E (by rw[bT,nI k4,nI k5,nI vq,pI k8,pI w])) (by decide),fun w=>?_⟩;exact BO (X:= { l with ac:=true }) (E (by rw[bT,nI k4,nI k5,nI vq,pI k8,nI w])) (by rw[bM,nI k4,nI k5,nI (by omega),nI (by omega),pI k8]) (hO.ck.as rfl rfl)
 have t3:¬r.ae=4->¬r.ae=5->¬(r.ae=6∨r.ae=7)->Ju c.first.id c.aS fa ra wa fl fc rl rc wl wc la ka ll lc kl kc l.aU l.ab l.nx l.ac r.ae r.ah r.au r.cj r.cB.id r.aP qa ql qc aa H (fun v _ H'=>QL c l r v H') b b1 xa xc va vc b2 b3 Hw:=fun k4 k5 vq=>by
  intro k8;refine⟨fun k9=>?_,fun k9=>uA (E (by rw[bT,nI k4,nI k5,nI vq,nI k8,nI k9])) (by decide)⟩;refine⟨l.ab=0∨kN c l=false,⟨fun w=>⟨rfl,fun _ _ h=>h,.inl w⟩,fun w=>(O6 hcw hO.ck q0).aO fun H4 e4 _=>⟨rfl,e4,⟨fun x=>x.resolve_left w,.inr⟩⟩⟩,fun w=>uA (E (by rw[bT,nI k4,nI k5,nI vq,nI k8,pI k9,pI w])) (by decide),fun w=>?_⟩;have Nn:bU c l r=0:=E (by rw[bT,nI k4,nI k5,nI vq,nI k8,pI k9,nI w]);have Tg:bM l r= { l with aU:=(if l.ac=false then l.ab else l.aU),ab:=0,ac:=false,bX:=l.bX.map fun a=>⟨0,a.au,false⟩ } :=by rw[bM,nI k4,nI k5,nI (by omega),nI (by omega),nI k8]
  refine⟨fun w3=>?_,fun w3=>?_⟩
  all_goals
   refine⟨fun vs Hc=>∃i:Nat,vs=[i64 i]/\i<=kl/\oE aa H Hc { l with bX:=(l.bX.take i).map Nl++l.bX.drop i } xa (0+ll) xc va (0+kl) vc rows,aN kl 0,⟨0,rfl,by omega,hO.as rfl rfl⟩,fun m H5 kT hI=>?_⟩;obtain⟨i,cv,hi,Mz⟩:=hI;obtain rfl:m=(i:Int):=by simpa using cv
   refine⟨fun bK=>?_,fun gj=>?_⟩
   ·obtain⟨p,hp⟩:∃p,l.bX[i]?=some p:=⟨_,zu (by omega)⟩
    obtain⟨b6,kb,t1,t2,t3,t4,t5,t6,t7,t8,t9⟩:=Mz.ag (vp hp);refine⟨b6,0,t1,by omega,bK,?_,?_⟩
    all_goals
     refine⟨kb,t4,t5,t2,by rw[zz];omega,fun H6 hu=>⟨b6,0,t1,by omega,bK,_,hu.here,t5,t2,by rw[zz];show _<=kb.size;omega,fun H7 sb=>?_⟩⟩;rw[zz] at hu sb;rintro _ rfl;rw[aj];have OJ:=Mz.put (q:=⟨0,p.au,p.ac⟩) (vp hp) (f:=0) (by simp) rfl t1 t3 t4 (by omega) hu;have hlen:=(zw.1 (vp hp)).1;have hO7:=OJ.put (p:=⟨0,p.au,p.ac⟩) (q:=Nl p) (k:=i) (by rw[List.getElem?_set_self hlen]) (f:=2) (by simp) rfl t1 t3 hu.here (by omega) sb;exact⟨rfl,⟨i+1,rfl,by omega,hO7.as rfl (by rw[←Pf hp];simp)⟩,by simp[aN];omega⟩
   ·rw[zg (by omega),zO (by omega),zZ] at Mz
    first
    |exact BO (X:= { l with aU:=l.ab,ab:=0,ac:=false,bX:=l.bX.map Nl }) Nn (by rw[Tg,pI w3];rfl) (Mz.ck.as rfl rfl)
    |exact BO (X:= { l with aU:=l.aU,ab:=0,ac:=false,bX:=l.bX.map Nl }) Nn (by rw[Tg,nI w3];rfl) (Mz.ck.as rfl rfl)
 refine⟨?_,?_⟩
 ·intro k4;have Zc:dp r.cB=0:=z4 (.inr k4);refine(um (hr.ext' e) hcw.rules).I0 fun H4 e4 _=>⟨fun w=>uA (E (by rw[bT,pI k4,pI (by omega)])) (by decide),fun w=>?_⟩
  rintro _ rfl;rw[aj]
  have hbe:cd r.cB.ap c.rules=0:=by
   have h1:=(iV.1 (dv g1).2.2.2.2.1)
   exact iV.2 ⟨(ey Zc).2,h1.2⟩
  refine⟨fun w2=>uA (E (by rw[bT,pI k4,nI (by omega),pI (by omega)])) (by decide),fun w2=>⟨fun w4=>uA (E (by rw[bT,pI k4,nI (by omega),nI (by omega),nI (by omega),pI w4])) (by decide),fun w4=>fun b5=>?_⟩⟩;have Nn:bU c l r=0:=E (by rw[bT,pI k4,nI (by omega),nI (by omega),nI (by omega),nI w4]);have Ni:=hO.ext e4;refine⟨rows.flatten,Ni.bJ.row,by omega,by omega,fun a7 c7 H7 hG Ih=>?_⟩;exact BO (X:= { l with bJ:=l.bJ++[r.cB] }) Nn (by rw[bM,pI k4]) (Ni.push hr (KW Zc) rfl hG Ih)
 ·intro k4;refine⟨fun k5=>?_,fun k5=>?_⟩
  ·refine⟨fun w=>uA (E (by rw[bT,nI k4,pI k5,pI (by omega)])) (by decide),fun w=>⟨fun w2=>uA (E (by rw[bT,nI k4,pI k5,nI (by omega),pI (by omega)])) (by decide),fun w2=>⟨fun w3=>uA (E (by rw[bT,nI k4,pI k5,nI (by omega),nI (by omega),pI w3])) (by decide),fun w3=>?_⟩⟩⟩;exact BO (X:= { l with ab:=r.cj }) (E (by rw[bT,nI k4,pI k5,nI (by omega),nI (by omega),nI w3])) (by rw[bM,nI k4,pI k5]) (hO.ck.as rfl rfl)
  ·have CR:(r.ae=6∨r.ae=7)->((0+kl:Nat):Int)<=r.ah->bU c l r=5:=fun vq w=>E (by rw[bT,nI k4,nI k5,pI vq,pI (by omega)]);refine⟨fun k6=>⟨fun _=>⟨fun w=>uA (CR (.inl k6) w) (by decide),t4 k4 k5 (.inl k6)⟩,fun w=>absurd k6 w⟩,fun k6=>⟨fun k7=>⟨fun w=>uA (CR (.inr k7) w) (by decide),t4 k4 k5 (.inr k7)⟩,fun k7=>⟨t5 k4 k5 (by omega),t3 k4 k5 (by omega)⟩⟩⟩
theorem lJ(hc:fB H c fa fl ra rl wa wl)(h:cQ H l la ll ka kl)(hr:aL H qa ql r.cB.ap):
  Sp 83 [eN c fa fl fc ra rl rc wa wl wc,dd l la ll lc ka kl kc,gU r qa ql qc] H fun v H'=>QL c l r v H':=by
 refine bh Tryz.func83 (fun _ _=>vc87) fun aa hb=>?_;intro b b1 b2 b3;refine(EJ hc h).bY fun H1 e1 _=>⟨fun q=>uA (by rw[bU,pI q]) q,fun q=>?_⟩
 refine(mR (hr.ext' e1)).bY fun H2 e2 _=>⟨fun q2=>uA (by rw[bU,nI q,pI q2]) q2,fun q2=>?_⟩
 have q0:db c l=0:=zx.1 q;have Wl:bC r=0:=zx.1 q2;have qu:=h.bX.len;have Ii:=h.bJ.len;have h6:=sI q0;have hl6:=(dh.1 q0).2.2.1;obtain⟨rs,s1,s2,s3,s4⟩:=h.bJ.rows Ai.len
 have fN:∀ {e:TypeId} {sz n c:Nat} {a:O} {xs:List Value} {Hz:Heap},bg aa Hz e sz a n c xs->c≠0->∀g,a=some ⟨g,0,none⟩->H g=none:=fun hR DP g hg=>by
  rcases hR.2.2.2 with⟨_,h0⟩|⟨g',k',u1,u2,_⟩
  ·exact absurd h0 DP
  ·rw[hg] at u1;simp at u1;subst u1
   cases hH:H g with
   |none=>rfl
   |some k=>have:=hb g k hH;omega
 have app1:∀ {Ha:Heap} {g:Nat} {Z:O->Nat->Heap->Prop},aH H Ha->(∀a' c' Hb,aH H Hb->bg aa Hb 24 2 a' (0+ll) c' rs.flatten->Z a' c' Hb)->∃(xs cells:List Value),bg aa Ha 24 2 (some ⟨g,0,none⟩) 0 0 xs/\cells.length=ll*2/\aM cells=true/\(ll=0∨ ∃(b o:Nat),la=some ⟨b,o,none⟩/\ba Ha b o 0 cells)/\(0+ll)*32<=140737488355328/\0+ll<=9223372036854775807/\
   ∀(a':O)(c':Nat)(Hb:Heap),cu aa Ha Hb (some ⟨g,0,none⟩) 0 a' c' (0+ll)->bg aa Hb 24 2 a' (0+ll) c' (xs++cells)->Z a' c' Hb:=fun e hZ=>
  ⟨[],rs.flatten,bg.zero,s3,ev Ai.one s2,s4.imp id (fun⟨b,o,hb,hc⟩=>⟨b,o,hb,fj e hc⟩),by omega,by omega,fun a' c' Hb hG hR=>hZ a' c' Hb (fun x k hx=>hG.cR x k (e x k hx) (.inl rfl)) hR⟩
 have app2:∀ {Hc:Heap} {g xc:Nat} {xa:O} {Z:O->Nat->Heap->Prop},aH H Hc->bg aa Hc 24 2 xa (0+ll) xc rs.flatten->(∀a' c' Hd,aH H Hd->oE aa H Hd l xa (0+ll) xc a' (0+kl) c' rs->Z a' c' Hd)->∃(xs cells:List Value),bg aa Hc 95 3 (some ⟨g,0,none⟩) 0 0 xs/\cells.length=kl*3/\aM cells=true/\(kl=0∨ ∃(b o:Nat),ka=some ⟨b,o,none⟩/\ba Hc b o 0 cells)/\(0+kl)*24<=140737488355328/\0+kl<=9223372036854775807/\
   ∀(a':O)(c':Nat)(Hd:Heap),cu aa Hc Hd (some ⟨g,0,none⟩) 0 a' c' (0+kl)->bg aa Hd 95 3 a' (0+kl) c' (xs++cells)->Z a' c' Hd:=fun e hX hZ=>by
  obtain⟨Fb,M8⟩:=h.bX.cells j9 e;refine⟨[],l.bX.flatMap gP,bg.zero,Fb,jZ xA _,M8,by omega,by omega,fun a' c' Hd hG hR=>?_⟩;have eD:aH H Hd:=fun x k hx=>hG.cR x k (e x k hx) (.inl rfl);have hXd:=(hX.stay hG (fun w=>absurd rfl w))
  exact hZ a' c' Hd eD ⟨⟨hXd.1,s1,s2,eD,fN hXd.1⟩,hR,fun w1 w2 e=>hXd.2 w2 w1 e.symm,fN hR⟩
 have eX:=e1.trans e2
 repeat' (first
  |(refine app1 eX fun xa xc Hb eb hR0=>?_;have eX:=eb;have hR:=hR0)
  |exact app2 eX hR fun va vc Hd ed hO=>U8 hb hc h hr q0 Wl ed hO b b1 b2 b3
  |(intro g Hx hN _ _;have eX:=aH.trans eX hN.ext;try have hR:=bg.ext hR hN.ext)
  |refine⟨?_,?_⟩)
end
open Go Go.Proofs
section
variable {H : Heap} {c : dM} {fa ra wa : O} {fl fc rl rc wl wc : Nat}
theorem vr{k:Nat}(hc:fB H c fa fl ra rl wa wl)(hr:nV H a n rs):
  Sp 66 [eN c fa fl fc ra rl rc wa wl wc,.slice a n k] H fun v H'=>∃la ll lc ka kl kc,v= .tuple #[dd (yC (aB c rs)) la ll lc ka kl kc,i64 (bN (aB c rs))]/\cQ H' (yC (aB c rs)) la ll ka kl:=by
 refine bh Tryz.func66 (fun _ _=>vc89) fun aa hb=>?_;have Gx:=hr.len
 have bad:∀ {e:Int} {H':Heap},aB c rs= .error e->∃la ll lc ka kl kc,Value.tuple #[.agg #[.slice none 0 0,.int .i64 0,.int .i64 0,.bool false,.slice none 0 0,.int .i64 0],.int .i64 e]= .tuple #[dd (yC (aB c rs)) la ll lc ka kl kc,i64 (bN (aB c rs))]/\cQ H' (yC (aB c rs)) la ll ka kl:=fun he=>by
  rw[he];exact⟨none,0,0,none,0,0,rfl,Sl.nil,Sl.nil⟩
 intro b b';refine(S9 hc).ji fun yE yF sX yG yH sY H1 e1 _ hA1=>fun b2=>⟨fun h=>bad (by rw[aB,pI h]),fun h=>⟨fun Jx=>bad (by rw[aB,nI h,pI (by omega)]),fun Jx=>?_⟩⟩
 rw[pI (zx.1 h)] at hA1⊢;have hW:aB c rs=eP c (dC c) rs:=by rw[aB,nI h,nI (by omega)]
 rw[hW] at bad⊢
 refine⟨fun vs Hc=>∃(y:jh)(la:O)(ll lc:Nat)(ka:O)(kl kc:Nat)(d e:Int)(w:Value)(i:Nat),vs=[i64 d,i64 e,i64 i,w,dd y la ll lc ka kl kc]/\cQ Hc y la ll ka kl/\i<=n/\eP c y (rs.drop i)=eP c (dC c) rs,aN n 2,
  ⟨dC c,yE,yF,sX,yG,yH,sY,0,_,_,0,rfl,hA1,by omega,rfl⟩,fun d e m a6 n8 c3 n9 Mt b0 a7 EK c4 Rs a8 Rt c5 Fp Np b4 a9 Nq c6 Qw H' hN hI=>?_⟩
 obtain⟨y,ya,yn,yc,yka,ykn,ykc,d',e',w,i,cv,hA,hi,hI⟩:=hI;obtain⟨rfl,rfl,rfl,rfl,⟨rfl,rfl,rfl⟩,rfl,rfl,rfl,⟨rfl,rfl,rfl⟩,rfl⟩:d=d'/\e=e'/\m=(i:Int)/\Value.agg #[.slice a6 n8 c3,.int .i64 n9,.int .i64 Mt,.bool b0,.slice a7 EK c4,.int .i64 Rs]=w/\(a8=ya/\Rt=yn/\c5=yc)/\Fp=y.aU/\Np=y.ab/\b4=y.ac/\(a9=yka/\Nq=ykn/\c6=ykc)/\Qw=y.nx:=by simpa using cv
 refine⟨fun bK=>hr.Q7 hN.ext (by omega) bK fun r ra rn rc hm hq=>fun b8=>?_,fun gj=>?_⟩
 ·rw[zz] at hm;rw[av hm,eP] at hI;refine(Jw (hc.ext hN.ext) hA (hq.ext' hN.ext)).ji fun la2 ll2 lc2 ka2 kl2 kc2 H2 e2 _ Mk=>⟨fun h=>?_,fun h=>?_⟩
  ·rw[nI h] at hI;exact bad hI.symm
  ·have h0:bU c y r=0:=zx.1 h;rw[pI h0] at hI;have hV:iG c y r=bM y r:=by rw[iG,pI h0]
   rw[hV] at Mk⊢;rintro q rfl;rw[aj];exact⟨rfl,⟨bM y r,la2,ll2,lc2,ka2,kl2,kc2,_,_,_,i+1,rfl,Mk,by omega,hI⟩,by simp[aN];omega⟩
 ·rw[aK Gx (by omega),eP] at hI;rw[←hI];exact⟨_,_,_,_,_,_,rfl,hA⟩
theorem rL{k:Nat}(hc:fB H c fa fl ra rl wa wl)(hr:nV H a n rs):
  Sp 24 [eN c fa fl fc ra rl rc wa wl wc,.slice a n k] H fun v H'=>∃la ll lc ka kl kc,v= .tuple #[dd (yC (aB c rs)) la ll lc ka kl kc,i64 (bN (aB c rs))]/\cQ H' (yC (aB c rs)) la ll ka kl:=by
 refine bh Tryz.func24 (fun _ _=>vc90) fun aa hb=>?_;have Gx:=hr.len
 have bad:∀ {e:Int} {H':Heap},aB c rs= .error e->∃la ll lc ka kl kc,Value.tuple #[.agg #[.slice none 0 0,.int .i64 0,.int .i64 0,.bool false,.slice none 0 0,.int .i64 0],.int .i64 e]= .tuple #[dd (yC (aB c rs)) la ll lc ka kl kc,i64 (bN (aB c rs))]/\cQ H' (yC (aB c rs)) la ll ka kl:=fun he=>by
  rw[he];exact⟨none,0,0,none,0,0,rfl,Sl.nil,Sl.nil⟩
 intro b b';refine(qb hc).bY fun H0 e0 _=>⟨fun h=>bad (by rw[aB,pI h]),fun h=>⟨fun Jx=>bad (by rw[aB,nI h,pI (by omega)]),fun Jx=>?_⟩⟩
 refine(KX (hc.ext e0) (zx.1 h)).ldr1 fun yE yF sX yG yH sY H1 e1 _ hA1=>fun b2=>?_;have hW:aB c rs=eP c (dC c) rs:=by rw[aB,nI h,nI (by omega)]
 rw[hW] at bad⊢
 refine⟨fun vs Hc=>∃(y:jh)(la:O)(ll lc:Nat)(ka:O)(kl kc:Nat)(d:Int)(w:Value)(i:Nat),vs=[i64 d,i64 i,w,dd y la ll lc ka kl kc]/\cQ Hc y la ll ka kl/\i<=n/\eP c y (rs.drop i)=eP c (dC c) rs,aN n 1,
  ⟨dC c,yE,yF,sX,yG,yH,sY,0,_,0,rfl,hA1,by omega,rfl⟩,fun d m a6 n8 c3 n9 Mt b0 a7 EK c4 Rs a8 Rt c5 Fp Np b4 a9 Nq c6 Qw H' hN hI=>?_⟩
 obtain⟨y,ya,yn,yc,yka,ykn,ykc,d',w,i,cv,hA,hi,hI⟩:=hI;obtain⟨rfl,rfl,rfl,⟨rfl,rfl,rfl⟩,rfl,rfl,rfl,⟨rfl,rfl,rfl⟩,rfl⟩:d=d'/\m=(i:Int)/\Value.agg #[.slice a6 n8 c3,.int .i64 n9,.int .i64 Mt,.bool b0,.slice a7 EK c4,.int .i64 Rs]=w/\(a8=ya/\Rt=yn/\c5=yc)/\Fp=y.aU/\Np=y.ab/\b4=y.ac/\(a9=yka/\Nq=ykn/\c6=ykc)/\Qw=y.nx:=by simpa using cv
 refine⟨fun bK=>hr.Q7 hN.ext (by omega) bK fun r ra rn rc hm hq=>fun b8=>?_,fun gj=>?_⟩
 ·rw[zz] at hm;rw[av hm,eP] at hI;refine(lJ (hc.ext hN.ext) hA (hq.ext' hN.ext)).ji fun la2 ll2 lc2 ka2 kl2 kc2 H2 e2 _ Mk=>fun b9=>⟨fun h=>?_,fun h=>?_⟩
  ·rw[nI h] at hI;exact bad hI.symm
  ·have h0:bU c y r=0:=zx.1 h;rw[pI h0] at hI;have hV:iG c y r=bM y r:=by rw[iG,pI h0]
   rw[hV] at Mk⊢;rintro q rfl;rw[aj];exact⟨rfl,⟨bM y r,la2,ll2,lc2,ka2,kl2,kc2,_,_,i+1,rfl,Mk,by omega,hI⟩,by simp[aN];omega⟩
 ·rw[aK Gx (by omega),eP] at hI;rw[←hI];exact⟨_,_,_,_,_,_,rfl,hA⟩
end
theorem qd{α:Type}{R:jq α}{rs:List (List Value)}{xs:List α}(h:H g=some (ay ty rs.flatten))(hw:∀r∈rs,r.length=sz)(ha:dY R H rs xs)(hn:rs.length=n)(hle:(n:Int)<=9223372036854775807):Sl R sz H (some ⟨g,0,none⟩) n xs:=
 Sl.oz (rows:=rs) (Has.ub h rfl hw hn hle) ha.len fun i r x hr hx=>ha.get hr hx
def cS:dM:=⟨⟨1,[⟨1,1⟩]⟩,[⟨1,2,2,1⟩],[[1],[0,2]],0⟩
def s2:kU:=⟨2,[⟨1,2⟩,⟨2,1⟩]⟩
def s3:kU:=⟨3,[⟨1,2⟩]⟩
def q1:bD:=⟨4,0,0,0,false,s2⟩
def q2:bD:=⟨5,0,0,2,false,⟨0,[]⟩⟩
def q3:bD:=⟨6,1,1,0,false,⟨0,[]⟩⟩
def q4:bD:=⟨7,1,1,0,false,⟨0,[]⟩⟩
def u1:bD:=⟨6,0,2,0,false,⟨0,[]⟩⟩
def u2:bD:=⟨8,0,0,0,false,⟨0,[]⟩⟩
def u3:bD:=⟨4,0,0,0,false,s3⟩
theorem U9 :Sp 71 [] H fun v H'=>∃a n c a1 n1 c1 a2 n2 c2,v=eN cS a n c a1 n1 c1 a2 n2 c2/\fB H' cS a n a1 n1 a2 n2:=by
 refine bh Tryz.func71 (fun aa K=>Zb aa H K) fun aa hb=>?_;intro b g H1 fh _ hg g1 H2 dZ _ kY g2 H3 fS _ FJ g3 H4 iC _ hg3 g4 H5 kT _ hg4;have e5:=kT.ext;have UG:=aH.trans iC.ext kT.ext;have Yx:=aH.trans fS.ext UG;have e25:=aH.trans dZ.ext Yx;refine⟨_,_,_,_,_,_,_,_,_,rfl,?_,?_,?_⟩
 ·exact nH cJ (xs:=[⟨1,1⟩]) (e25 _ _ hg) rfl (by decide)
 ·exact nH lQ (xs:=[⟨1,2,2,1⟩]) (Yx _ _ kY) rfl (by decide)
 ·refine qd (rs:=[[.slice (some ⟨g2,0,none⟩) 1 1],[.slice (some ⟨g3,0,none⟩) 2 2]]) hg4 (by simp) ⟨⟨_,_,_,rfl,?_⟩,⟨_,_,_,rfl,?_⟩,trivial⟩ rfl (by decide)
  ·exact xi (xs:=[1]) (UG _ _ FJ) rfl (by decide)
  ·exact xi (xs:=[0,2]) (e5 _ _ hg3) rfl (by decide)
theorem bS.turn{P:Program}{f:FuncId}{args:List Value}{t:Bool}{x:kU}(h:bS P f args H fun v H'=>∃a n c',v= .tuple #[.bool t,.agg #[.int .i64 x.id,.slice a n c'],i64 e]/\aL H' a n x.ap)
  {G:Bool->Int->O->Nat->Nat->Int->Heap->Prop} (hG:∀a n c H',aH H H'->Next aa H H'->aL H' a n x.ap->G t x.id a n c e H'):
  bS P f args H fun v H'=>∃(t:Bool)(id:Int)(a:O)(n c:Nat)(e:Int),v= .tuple #[.bool t,.agg #[.int .i64 id,.slice a n c],.int .i64 e]/\(Next aa H H'->G t id a n c e H'):=
 h.mono fun v H' ex hv=>by
  obtain⟨a,n,c,h1,h2⟩:=hv;exact⟨_,_,a,n,c,_,h1,fun hN=>hG a n c H' ex hN h2⟩
open Go Go.Proofs
theorem BP{c:dM}{l:jh}(h:¬jH c l):l.ab≠l.aU/\¬(l.ab=0/\l.ac=true)/\(l.bX.length:Int)=bo c.bf/\l.bJ[0]?=some c.first:=by
 refine⟨fun q=>h (.inl q),fun q=>h (.inr (.inl q)),?_,?_⟩
 ·by_cases q:(l.bX.length:Int)=bo c.bf
  ·exact q
  ·exact absurd (.inr (.inr (.inl q))) h
 ·by_cases q:l.bJ[0]?=some c.first
  ·exact q
  ·exact absurd (.inr (.inr (.inr q))) h
theorem qe{c:dM}{l:jh}(h1:l.ab≠l.aU)(h2:¬(l.ab=0/\l.ac=true))(h3:(l.bX.length:Int)=bo c.bf)(h4:l.bJ[0]?=some c.first):¬jH c l:=by
 rintro(q|q|q|q)
 ·exact h1 q
 ·exact h2 q
 ·exact q h3
 ·exact q h4
theorem Va{c:dM}(h:de c=0):db c (dC c)=0:=by
 obtain⟨z1,z2,z3,z4,z5,z6,z7⟩:=dv h;have S6:=(ic z7).2;refine dh.2 ⟨h,by simp[dC],by simp[dC],?_,?_,?_,?_⟩
 ·refine iu.2 fun j r hj=>?_
  cases j with
  |zero=>simp[dC] at hj;subst hj;exact⟨z5,z6,by rw[z2];rfl⟩
  |succ j=>simp[dC] at hj
 ·unfold dP dC;simp
 ·refine qe (by simp[dC]) (by simp[dC]) ?_ rfl;simp[dC];omega
 ·refine fK.2 fun a ha=>?_;simp[dC] at ha;obtain⟨_,rfl⟩:=ha;exact⟨by unfold mG dC;simp,by unfold nO dC;simp⟩
theorem Pg{c:dM}{l:jh}(h:bU c l r=0):db c l=0/\bC r=0/\bT c l r=0:=by
 unfold bU at h;split at h
 ·omega
 ·split at h
  ·omega
  ·exact⟨by omega,by omega,h⟩
theorem MA{c:dM}{l:jh}(h:bT c l r=0):(r.ae=4/\l.bJ.length≠6/\r.cB.id=l.bJ.length+1/\cd r.cB.ap c.rules=0/\broken r.cB.ap c.rules<0)∨
  (r.ae=5/\l.ab=0/\r.cj<=l.bJ.length/\r.cj≠l.aU)∨(r.ae=6/\r.ah<l.bX.length/\l.ab≠0/\r.au=l.nx/\jv c l r.ah=true)∨
  (r.ae=7/\r.ah<l.bX.length/\∃a,l.bX[r.ah.toNat]?=some a/\a.st=1/\r.au=a.au)∨(r.ae=8/\l.ab≠0/\l.ac=false)∨(r.ae=9/\l.ab≠0/\kN c l=true):=by
 unfold bT at h;by_cases k4:r.ae=4
 ·rw[pI k4] at h;split at h
  ·omega
  ·split at h
   ·omega
   ·split at h
    ·omega
    ·split at h
     ·omega
     ·exact .inl ⟨k4,by assumption,by omega,by omega,by omega⟩
 ·rw[nI k4] at h;by_cases k5:r.ae=5
  ·rw[pI k5] at h;split at h
   ·omega
   ·split at h
    ·omega
    ·split at h
     ·omega
     ·exact .inr (.inl ⟨k5,by omega,by omega,by assumption⟩)
  ·rw[nI k5] at h;by_cases vq:r.ae=6∨r.ae=7
   ·rw[pI vq] at h;split at h
    ·omega
    ·by_cases k7:r.ae=7
     ·rw[pI k7] at h
      cases ha:l.bX[r.ah.toNat]? with
      |none=>rw[ha] at h;simp at h
      |some a=>
       rw[ha] at h;simp only at h;split at h
       ·omega
       ·exact .inr (.inr (.inr (.inl ⟨k7,by omega,a,rfl,by omega,by omega⟩)))
     ·rw[nI k7] at h;split at h
      ·omega
      ·rename_i w;refine .inr (.inr (.inl ⟨by omega,by omega,fun q=>w (.inl q),?_,?_⟩))
       ·by_cases q:r.au=l.nx
        ·exact q
        ·exact absurd (.inr (.inl q)) w
       ·cases q:jv c l r.ah with
        |true=>rfl
        |false=>exact absurd (.inr (.inr q)) w
   ·rw[nI vq] at h;by_cases k8:r.ae=8
    ·rw[pI k8] at h;split at h
     ·omega
     ·rename_i w;refine .inr (.inr (.inr (.inr (.inl ⟨k8,fun q=>w (.inl q),?_⟩))))
      cases q:l.ac with
      |false=>rfl
      |true=>exact absurd (.inr q) w
    ·rw[nI k8] at h;by_cases k9:r.ae=9
     ·rw[pI k9] at h;split at h
      ·omega
      ·rename_i w;refine .inr (.inr (.inr (.inr (.inr ⟨k9,fun q=>w (.inl q),?_⟩))))
       cases q:kN c l with
       |true=>rfl
       |false=>exact absurd (.inr q) w
     ·rw[nI k9] at h;omega
theorem BQ{k:Nat}{x a:Kn}(h:a∈xs.set k x):a=x∨a∈xs:=by
 rcases List.mem_or_eq_of_mem_set h with h|h
 ·exact .inr h
 ·exact .inl h
theorem Vb{c:dM}{l:jh}(h:bU c l r=0):db c (bM l r)=0:=by
 obtain⟨h1,h2,h3⟩:=Pg h;obtain⟨g1,g2,g3,g4,g5,g6,g7⟩:=dh.1 h1;obtain⟨z1,z2,z3,z4⟩:=vo h2;obtain⟨f1,f2,f3,f4⟩:=BP g6;have CY:=fK.1 g7;have g5':=g5;unfold dP at g5';unfold gp at z3;rcases MA h3 with⟨k,w1,w2,w3,w4⟩|⟨k,w1,w2,w3⟩|⟨k,w1,w2,w3,w4⟩|⟨k,w1,a,w2,w3,w4⟩|⟨k,w1,w2⟩|⟨k,w1,w2⟩
 ·have e:bM l r= { l with bJ:=l.bJ++[r.cB] } :=by rw[bM,pI k]
  rw[e];refine dh.2 ⟨g1,by simp,by simp;omega,iu.2 fun j x hj=>?_,by unfold dP;simp;omega,qe f1 f2 f3 ?_,g7⟩
  ·rcases Nat.lt_or_ge j l.bJ.length with hl|hl
   ·rw[zU hl] at hj;exact iu.1 g4 j x hj
   ·rw[zY hl] at hj
    cases FT:j-l.bJ.length with
    |zero=>rw[FT] at hj;simp at hj;subst hj;exact⟨w3,w4,by rw[w2];omega⟩
    |succ m=>rw[FT] at hj;simp at hj
  ·simp only;rw[zU (by omega)];exact f4
 ·have e:bM l r= { l with ab:=r.cj } :=by rw[bM,nI (by omega),pI k]
  rw[e];refine dh.2 ⟨g1,g2,g3,g4,by unfold dP;simp only;omega,qe w3 (fun q=>by simp only at q;omega) f3 f4,fK.2 fun a ha=>?_⟩;obtain⟨x1,x2⟩:=CY a ha;refine⟨x1,?_⟩;unfold nO at x2⊢;simp only;rintro(⟨y1,_⟩|y)
  ·exact x2 (.inl ⟨y1,.inl w1⟩)
  ·exact x2 (.inr y)
 ·have e:bM l r= { l with bX:=l.bX.set r.ah.toNat ⟨1,r.au,l.ac⟩,nx:=l.nx+1 } :=by rw[bM,nI (by omega),nI (by omega),pI k]
  rw[e];refine dh.2 ⟨g1,g2,g3,g4,by unfold dP;simp only;omega,qe f1 f2 (by simpa using f3) f4,fK.2 fun a ha=>?_⟩;rcases BQ ha with rfl|ha
  ·refine⟨by unfold mG;simp only;omega,?_⟩;unfold nO;simp only;rintro(⟨_,y|y⟩|⟨y1,y|y⟩)
   ·exact w2 y
   ·omega
   ·rw[y] at y1;cases y1
   ·omega
  ·obtain⟨x1,x2⟩:=CY a ha;exact⟨by unfold mG at x1⊢;simp only;omega,x2⟩
 ·have e:bM l r= { l with bX:=l.bX.set r.ah.toNat (Jo r a) } :=by rw[bM,nI (by omega),nI (by omega),nI (by omega),pI k,w2]
  rw[e];refine dh.2 ⟨g1,g2,g3,g4,g5,qe f1 f2 (by simpa using f3) f4,fK.2 fun b hb=>?_⟩;rcases BQ hb with rfl|hb
  ·obtain⟨x1,x2⟩:=CY a (zt w2);have Fi:(Jo r a).st=2∨(Jo r a).st=3:=by unfold Jo;by_cases hg:r.aP=true<;>simp[hg]
   have ht:(Jo r a).au=a.au:=rfl;have Ic:(Jo r a).ac=a.ac:=rfl;refine⟨by unfold mG at x1⊢;rw[ht];simp only;omega,?_⟩;unfold nO at x2⊢;rw[ht,Ic];simp only;rintro(⟨_,y⟩|⟨y1,y|y⟩)
   ·exact x2 (.inl ⟨by omega,y⟩)
   ·exact x2 (.inr ⟨y1,.inl y⟩)
   ·omega
  ·exact CY b hb
 ·have e:bM l r= { l with ac:=true } :=by rw[bM,nI (by omega),nI (by omega),nI (by omega),nI (by omega),pI k]
  rw[e];refine dh.2 ⟨g1,g2,g3,g4,g5,qe f1 (fun q=>w1 q.1) f3 f4,fK.2 fun a ha=>?_⟩;obtain⟨x1,x2⟩:=CY a ha;refine⟨x1,?_⟩;unfold nO at x2⊢;simp only;rintro(y|⟨y1,_⟩)
  ·exact x2 (.inl y)
  ·exact x2 (.inr ⟨y1,.inl w2⟩)
 ·have e:bM l r= { l with aU:=(if l.ac=false then l.ab else l.aU),ab:=0,ac:=false,bX:=l.bX.map fun a=>⟨0,a.au,false⟩ } :=by rw[bM,nI (by omega),nI (by omega),nI (by omega),nI (by omega),nI (by omega)]
  rw[e];have hn:1<=(if l.ac=false then l.ab else l.aU)/\(if l.ac=false then l.ab else l.aU)<=l.bJ.length:=by split<;>omega
  refine dh.2 ⟨g1,g2,g3,g4,by unfold dP;simp only;omega,qe (by simp only;omega) (by simp) (by simpa using f3) f4,fK.2 fun b hb=>?_⟩;obtain⟨a,ha,rfl⟩:=zM.1 hb;obtain⟨x1,x2⟩:=CY a ha;exact⟨by unfold mG at x1⊢;simp only;omega,by unfold nO;simp⟩
end Go.Vg
