/- What is proved here: a part of the proof of laws of this seat: what a contract is, how it comes of a condition, contracts of the functions that are reached, the plain laws. -/
import Derived.Test.YtgaegoefbekndaaGreatDoorWB8
import Derived.Test.YtgaegoefbekndaaGreatDoorCards
import Derived.Test.YtgaegoefbekndaaGreatDoorTie
import Derived.Deep.DeepHandedRow
import Derived.JoinedCond
import Derived.Lay
import Derived.MakeChecks
import Derived.SevenTiedAt
import Derived.Stop.LaidErr
set_option linter.unusedSimpArgs false
set_option linter.unusedVariables false
set_option maxRecDepth 100000
open Option.some renaming inj → zy
open Option renaming bind_some → yj
open List renaming getElem?_eq_some_iff → zw,append_assoc → zE,drop_eq_nil_of_le → zO,append_nil → zZ
open Decidable renaming not_not → zx
open List.cons renaming inj → yx
open Int renaming toNat_natCast → zz
open Classical renaming propDecidable → zh
variable{a a' xa ga ua va WD sZ WE WG fa ra wa Ef Eg Eh la ka sa ta na ma qH su L3 L4 Ma Mb:Go.Vg.O}{l l' c' aa xl xc gl gc ul uc vl vc WH WI Fq xD WJ WK WL WM fl fc rc wl wc Ei Ej Ek El Em En ll lc kl kc sc tl tc nl nc ml mc sU sV qI uh L5 L6 L7 L8 Mc Md Me Mf:Nat}{H:Go.Vg.Heap}{K:Go.Vg.KT}{Qu tr gid M1 oK wD aS nU qE aU ab nx nK iY Cr:Int}{going Nj wK DC M3 ac jr L9:Bool}{xs ys:List Int}{x y:Go.Vg.ke}{q q':Go.Vg.NA}{w:Go.Vg.cY}{p:Go.Vg.WA}
namespace Go.Vg
open Go Go.Proofs
open Go.Value renaming int → I, slice → S, bool → B, agg → A, tuple → T, pointer → P, string → bH
open Go.IntKind renaming i64 → Z, wrap → W
open Go.Addr renaming mk → D
open Go.Vg.Bx renaming mk → J
open Go.Vg renaming Next → X, Sp → Y, eZ → YO, i64 → U
open Go.Vg.Heap renaming cell → C
open Int renaming toNat → N
theorem vx108{c:Nat}:
 (fV TryzMutsJ Tryz.f108 aa H [.v (S a l c),.v (S a' l' c')] [] K)=(
 Y 109 [S a l c,S a' l' c'] H fun b d=>∃e,b=B e/\(X aa H d->K (B e) [] d)):=by kernel_rfl
theorem vx190{c:Nat}:
 (fV TryzMutsJ Tryz.f190 aa H [.v (S a l c),.v (S a' l' c')] [] K)=(
 Y 109 [S a l c,S a' l' c'] H fun b d=>∃e,b=B e/\(X aa H d->K (B e) [] d)):=by kernel_rfl
abbrev Qf(g:Int)(b:LI)(e:Bool)(a2:Heap)(d:LM):Prop:=
 ∀c2:Int,c2=W Z (g+1)->b [B e,U c2] a2/\d [B e,U c2]<d [B e,U g]
abbrev Lv(z1:Value)(aa:Nat)(h a2:Heap)(K:KT)(g:Int)(b:LI)(e:Bool)(d:LM):Prop:=
 ∃b2,z1=B b2/\(X aa h a2->(b2=false->K (B false) [] a2)/\(¬b2=false->Qf g b e a2 d))
theorem VN{c:Nat}:
 (fV TryzMutsJ Tryz.f107 aa H [.v (S a l c),.v (S a' l' c'),.v (.func (.func 108) #[] #[])] [] K)=(
 (¬(l:Int)=(l':Int)->K (B false) [] H)/\(¬¬(l:Int)=(l':Int)->∃(b:LI)(d:LM),b [B false,U 0] H/\∀(e:Bool)(g:Int)(h:Heap),X aa H h->b [B e,U g] h->(g<(l:Int)->∃i j,a=some (D i j none)/\0<=g/\g<(l:Int)/\∃k m n,C h i (j+N g*1)=some (S k m n)/\∃o p,a'=some (D o p none)/\0<=g/\g<(l':Int)/\∃q r s,C h o (p+N g*1)=some (S q r s)/\Y 108 [S k m n,S q r s] h fun t u=>Lv t aa h u K g b e d)/\(¬g<(l:Int)->K (B true) [] h))):=by kernel_rfl
theorem VO{c:Nat}:
 (fV TryzMutsJ Tryz.f107 aa H [.v (S a l c),.v (S a' l' c'),.v (.func (.func 190) #[] #[])] [] K)=(
 (¬(l:Int)=(l':Int)->K (B false) [] H)/\(¬¬(l:Int)=(l':Int)->∃(b:LI)(d:LM),b [B false,U 0] H/\∀(e:Bool)(g:Int)(h:Heap),X aa H h->b [B e,U g] h->(g<(l:Int)->∃i j,a=some (D i j none)/\0<=g/\g<(l:Int)/\∃k m n,C h i (j+N g*1)=some (S k m n)/\∃o p,a'=some (D o p none)/\0<=g/\g<(l':Int)/\∃q r s,C h o (p+N g*1)=some (S q r s)/\Y 190 [S k m n,S q r s] h fun t u=>Lv t aa h u K g b e d)/\(¬g<(l:Int)->K (B true) [] h))):=by kernel_rfl
theorem vx109{c:Nat}:
 (fV TryzMutsJ Tryz.f109 aa H [.v (S a l c),.v (S a' l' c')] [] K)=(
 (¬(l:Int)=(l':Int)->K (B false) [] H)/\(¬¬(l:Int)=(l':Int)->∃(b:LI)(d:LM),b [B false,U 0] H/\∀(e:Bool)(g:Int)(h:Heap),X aa H h->b [B e,U g] h->(g<(l:Int)->∃i j,a=some (D i j none)/\0<=g/\g<(l:Int)/\∃k,C h i (j+N g*1)=some (U k)/\∃m n,a'=some (D m n none)/\0<=g/\g<(l':Int)/\∃o,C h m (n+N g*1)=some (U o)/\(¬k=o->K (B false) [] h)/\(¬¬k=o->Qf g b e h d))/\(¬g<(l:Int)->K (B true) [] h))):=by kernel_rfl
abbrev TS(h:Heap)(i j:Nat)(g k m n o:Int):Prop:=
 C h i (j+N g*4)=some (U k)/\C h i (j+N g*4+1)=some (U m)/\C h i (j+N g*4+2)=some (U n)/\C h i (j+N g*4+3)=some (U o)/\True
theorem vx110{c:Nat}:
 (fV TryzMutsJ Tryz.f110 aa H [.v (S a l c),.v (S a' l' c')] [] K)=(
 (¬(l:Int)=(l':Int)->K (B false) [] H)/\(¬¬(l:Int)=(l':Int)->∃(b:LI)(d:LM),b [B false,U 0] H/\∀(e:Bool)(g:Int)(h:Heap),X aa H h->b [B e,U g] h->(g<(l:Int)->∃i j,a=some (D i j none)/\0<=g/\g<(l:Int)/\∃k m n o:Int,(TS h i j g k m n o)/\∃p q,a'=some (D p q none)/\0<=g/\g<(l':Int)/\∃r s t u:Int,(TS h p q g r s t u)/\∃v,aR Tryz.prog (aI BinOp.neq 152 (Operand.tmp 19) (Operand.tmp 23) (A #[U k,U m,U n,U o]) (A #[U r,U s,U t,U u])) (B v)/\(v=true->K (B false) [] h)/\(¬v=true->Qf g b e h d))/\(¬g<(l:Int)->K (B true) [] h))):=by kernel_rfl
abbrev HV(r:Value)(aa:Nat)(p s:Heap)(w1:LB)(H:Heap)(c:Prop):Prop:=
 ∃t,r=B t/\(X aa p s->w1=w1/\ak H s/\(c↔t=true))
abbrev HW(K:KT)(c:Prop)(H:Heap):Prop:=
 K (B (@decide c (zh c))) [] H
theorem vx112{aP:Bool}:
 (fV TryzMutsJ Tryz.f112 aa H [.v (A #[S xa xl xc,U Qu,U tr,B going,U gid,S ga gl gc,B aP,S ua ul uc,S va vl vc,B Nj]),.v (A #[S WD WH WI,U M1,U oK,B wK,U wD,S sZ Fq xD,B DC,S WE WJ WK,S WG WL WM,B M3])] [] K)=(
 ∀a b:Nat,(fun w1:LB=>∃c:Prop,(∃d,aR Tryz.prog (aI BinOp.eql 4 (Operand.tmp 6) (Operand.tmp 8) (B Nj) (B M3)) (B d)/\(d=true->Y 38 [A #[S xa xl xc,U Qu,U tr,B going,U gid,S ga gl gc,B aP],A #[S WD WH WI,U M1,U oK,B wK,U wD,S sZ Fq xD,B DC]] H fun e g=>∃h,e=B h/\(X aa H g->(h=true->Y 37 [A #[S ua ul uc,S va vl vc],A #[S WE WJ WK,S WG WL WM]] g fun i j=>HV i aa g j w1 H c)/\(h=false->w1=w1/\ak H g/\¬c)))/\(¬d=true->w1=w1/\ak H H/\¬c))/\HW K c H) [J a false 58 [S xa xl xc,U Qu,U tr,B going,U gid,S ga gl gc,B aP,S ua ul uc,S va vl vc,B Nj],J b false 58 [S WD WH WI,U M1,U oK,B wK,U wD,S sZ Fq xD,B DC,S WE WJ WK,S WG WL WM,B M3]]):=by kernel_rfl
theorem vx116{aP:Bool}:
 (fV TryzMutsJ Tryz.f116 aa H [.v (A #[S xa xl xc,U Qu,U tr,B going,U gid,S ga gl gc,B aP,S ua ul uc,S va vl vc,B Nj]),.v (A #[S WD WH WI,U M1,U oK,B wK,U wD,S sZ Fq xD,B DC,S WE WJ WK,S WG WL WM,B M3])] [] K)=(
 ∀a b:Nat,(fun w1:LB=>∃c:Prop,(∃d,aR Tryz.prog (aI BinOp.eql 4 (Operand.tmp 6) (Operand.tmp 8) (B Nj) (B M3)) (B d)/\(d=true->Y 22 [A #[S xa xl xc,U Qu,U tr,B going,U gid,S ga gl gc,B aP],A #[S WD WH WI,U M1,U oK,B wK,U wD,S sZ Fq xD,B DC]] H fun e g=>∃h,e=B h/\(X aa H g->(h=true->Y 114 [A #[S ua ul uc,S va vl vc],A #[S WE WJ WK,S WG WL WM]] g fun i j=>HV i aa g j w1 H c)/\(h=false->w1=w1/\ak H g/\¬c)))/\(¬d=true->w1=w1/\ak H H/\¬c))/\HW K c H) [J a false 58 [S xa xl xc,U Qu,U tr,B going,U gid,S ga gl gc,B aP,S ua ul uc,S va vl vc,B Nj],J b false 58 [S WD WH WI,U M1,U oK,B wK,U wD,S sZ Fq xD,B DC,S WE WJ WK,S WG WL WM,B M3]]):=by kernel_rfl
abbrev Lw(h:Heap)(i j:Nat)(g:Int)(k:O)(m n:Nat)(o p:Int)(q:Bool)(r:Int)(s:O)(t u:Nat)(v:Bool)(w:O)(x y:Nat)(z:O)(a1 b1:Nat)(c1:Bool):Prop:=
 C h i (j+N g*10)=some (S k m n)/\C h i (j+N g*10+1)=some (U o)/\C h i (j+N g*10+2)=some (U p)/\C h i (j+N g*10+3)=some (B q)/\C h i (j+N g*10+4)=some (U r)/\C h i (j+N g*10+5)=some (S s t u)/\C h i (j+N g*10+6)=some (B v)/\C h i (j+N g*10+7)=some (S w x y)/\C h i (j+N g*10+8)=some (S z a1 b1)/\C h i (j+N g*10+9)=some (B c1)/\True
theorem VP{c:Nat}:
 (fV TryzMutsJ Tryz.f111 aa H [.v (S a l c),.v (S a' l' c'),.v (.func (.func 112) #[] #[])] [] K)=(
 (¬(l:Int)=(l':Int)->K (B false) [] H)/\(¬¬(l:Int)=(l':Int)->∃(b:LI)(d:LM),b [B false,U 0] H/\∀(e:Bool)(g:Int)(h:Heap),X aa H h->b [B e,U g] h->(g<(l:Int)->∃i j,a=some (D i j none)/\0<=g/\g<(l:Int)/\∃(k:O)(m n:Nat)(o p:Int)(q:Bool)(r:Int)(s:O)(t u:Nat)(v:Bool)(w:O)(x y:Nat)(z:O)(a1 b1:Nat)(c1:Bool),(Lw h i j g k m n o p q r s t u v w x y z a1 b1 c1)/\∀d1:Nat,∃e1 f1,a'=some (D e1 f1 none)/\0<=g/\g<(l':Int)/\∃(g1:O)(h1 i1:Nat)(j1 k1:Int)(l1:Bool)(m1:Int)(n1:O)(o1 p1:Nat)(q1:Bool)(r1:O)(s1 t1:Nat)(u1:O)(v1 w1:Nat)(x1:Bool),(Lw h e1 f1 g g1 h1 i1 j1 k1 l1 m1 n1 o1 p1 q1 r1 s1 t1 u1 v1 w1 x1)/\∀y1:Nat,Y 112 [A #[S k m n,U o,U p,B q,U r,S s t u,B v,S w x y,S z a1 b1,B c1],A #[S g1 h1 i1,U j1,U k1,B l1,U m1,S n1 o1 p1,B q1,S r1 s1 t1,S u1 v1 w1,B x1]] h fun z1 a2=>Lv z1 aa h a2 K g b e d)/\(¬g<(l:Int)->K (B true) [] h))):=by kernel_rfl
theorem VQ{c:Nat}:
 (fV TryzMutsJ Tryz.f111 aa H [.v (S a l c),.v (S a' l' c'),.v (.func (.func 116) #[] #[])] [] K)=(
 (¬(l:Int)=(l':Int)->K (B false) [] H)/\(¬¬(l:Int)=(l':Int)->∃(b:LI)(d:LM),b [B false,U 0] H/\∀(e:Bool)(g:Int)(h:Heap),X aa H h->b [B e,U g] h->(g<(l:Int)->∃i j,a=some (D i j none)/\0<=g/\g<(l:Int)/\∃(k:O)(m n:Nat)(o p:Int)(q:Bool)(r:Int)(s:O)(t u:Nat)(v:Bool)(w:O)(x y:Nat)(z:O)(a1 b1:Nat)(c1:Bool),(Lw h i j g k m n o p q r s t u v w x y z a1 b1 c1)/\∀d1:Nat,∃e1 f1,a'=some (D e1 f1 none)/\0<=g/\g<(l':Int)/\∃(g1:O)(h1 i1:Nat)(j1 k1:Int)(l1:Bool)(m1:Int)(n1:O)(o1 p1:Nat)(q1:Bool)(r1:O)(s1 t1:Nat)(u1:O)(v1 w1:Nat)(x1:Bool),(Lw h e1 f1 g g1 h1 i1 j1 k1 l1 m1 n1 o1 p1 q1 r1 s1 t1 u1 v1 w1 x1)/\∀y1:Nat,Y 116 [A #[S k m n,U o,U p,B q,U r,S s t u,B v,S w x y,S z a1 b1,B c1],A #[S g1 h1 i1,U j1,U k1,B l1,U m1,S n1 o1 p1,B q1,S r1 s1 t1,S u1 v1 w1,B x1]] h fun z1 a2=>Lv z1 aa h a2 K g b e d)/\(¬g<(l:Int)->K (B true) [] h))):=by kernel_rfl
theorem vx113{id:Int}{rl:Nat}:
 (fV TryzMutsJ Tryz.f113 aa H [.v (A #[U id,S fa fl fc,S ra rl rc,S wa wl wc,U aS]),.v (A #[U nU,S Ef Ei Ej,S Eg Ek El,S Eh Em En,U qE])] [] K)=(
 ∀a b:Nat,(fun w1:LB=>∃c:Prop,(Y 77 [A #[U id,S fa fl fc],A #[U nU,S Ef Ei Ej]] H fun d e=>∃g,d=B g/\(X aa H e->(g=true->Y 110 [S ra rl rc,S Eg Ek El] e fun h i=>∃j,h=B j/\(X aa e i->(j=true->(aS=qE->Y 107 [S wa wl wc,S Eh Em En,Value.func (Fn.func 190) #[] #[]] i fun k l=>HV k aa i l w1 H c)/\(¬aS=qE->w1=w1/\ak H i/\¬c))/\(j=false->w1=w1/\ak H i/\¬c)))/\(g=false->w1=w1/\ak H e/\¬c)))/\HW K c H) [J a false 28 [U id,S fa fl fc,S ra rl rc,S wa wl wc,U aS],J b false 28 [U nU,S Ef Ei Ej,S Eg Ek El,S Eh Em En,U qE]]):=by kernel_rfl
theorem vx32{id:Int}{rl:Nat}{sl:Nat}{up:Bool}:
 (fV TryzMutsJ Tryz.f32 aa H [.v (A #[U id,S fa fl fc,S ra rl rc,S wa wl wc,U aS,S la ll lc,U aU,U ab,B ac,S ka kl kc,U nx,S sa sl sc,S ta tl tc,B up,S na nl nc,S ma ml mc]),.v (A #[U nU,S Ef Ei Ej,S Eg Ek El,S Eh Em En,U qE,S qH sU sV,U nK,U iY,B jr,S su qI uh,U Cr,S L3 L5 L6,S L4 L7 L8,B L9,S Ma Mc Md,S Mb Me Mf])] [] K)=(
 ∀a b:Nat,(fun w1:LB=>Y 107 [S wa wl wc,S Eh Em En,Value.func (Fn.func 108) #[] #[]] H fun c d=>∃e,c=B e/\(X aa H d->∃g:Prop,((id=nU->Y 47 [S fa fl fc,S Ef Ei Ej] d fun h i=>∃j,h=B j/\(X aa d i->w1=w1/\ak d i/\(g↔j=true)))/\(¬id=nU->w1=w1/\ak d d/\¬g))/\∃h:Prop,((e=true->(g->Y 110 [S ra rl rc,S Eg Ek El] d fun i j=>∃k,i=B k/\(X aa d j->(k=true->(aS=qE->∃l,aR Tryz.prog (aI BinOp.eql 4 (Operand.tmp 59) (Operand.tmp 62) (B up) (B L9)) (B l)/\(l=true->Y 36 [A #[S la ll lc,U aU,U ab,B ac,S ka kl kc,U nx],A #[S qH sU sV,U nK,U iY,B jr,S su qI uh,U Cr]] j fun m n=>∃o,m=B o/\(X aa j n->(o=true->Y 37 [A #[S sa sl sc,S ta tl tc],A #[S L3 L5 L6,S L4 L7 L8]] n fun p q=>∃r,p=B r/\(X aa n q->(r=true->Y 44 [S ma ml mc,S Mb Me Mf] q fun s t=>∃u,s=B u/\(X aa q t->(u=true->Y 111 [S na nl nc,S Ma Mc Md,Value.func (Fn.func 112) #[] #[]] t fun v w=>HV v aa t w w1 d h)/\(u=false->w1=w1/\ak d t/\¬h)))/\(r=false->w1=w1/\ak d q/\¬h)))/\(o=false->w1=w1/\ak d n/\¬h)))/\(¬l=true->w1=w1/\ak d j/\¬h))/\(¬aS=qE->w1=w1/\ak d j/\¬h))/\(k=false->w1=w1/\ak d j/\¬h)))/\(¬g->w1=w1/\ak d d/\¬h))/\(e=false->w1=w1/\ak d d/\¬h))/\HW K h d)) [J a false 41 [U id,S fa fl fc,S ra rl rc,S wa wl wc,U aS,S la ll lc,U aU,U ab,B ac,S ka kl kc,U nx,S sa sl sc,S ta tl tc,B up,S na nl nc,S ma ml mc],J b false 41 [U nU,S Ef Ei Ej,S Eg Ek El,S Eh Em En,U qE,S qH sU sV,U nK,U iY,B jr,S su qI uh,U Cr,S L3 L5 L6,S L4 L7 L8,B L9,S Ma Mc Md,S Mb Me Mf]]):=by kernel_rfl
theorem vx33{id:Int}{rl:Nat}{sl:Nat}{up:Bool}:
 (fV TryzMutsJ Tryz.f33 aa H [.v (A #[U id,S fa fl fc,S ra rl rc,S wa wl wc,U aS,S la ll lc,U aU,U ab,B ac,S ka kl kc,U nx,S sa sl sc,S ta tl tc,B up,S na nl nc,S ma ml mc]),.v (A #[U nU,S Ef Ei Ej,S Eg Ek El,S Eh Em En,U qE,S qH sU sV,U nK,U iY,B jr,S su qI uh,U Cr,S L3 L5 L6,S L4 L7 L8,B L9,S Ma Mc Md,S Mb Me Mf])] [] K)=(
 ∀a b:Nat,(fun w1:LB=>∃c:Prop,(Y 113 [A #[U id,S fa fl fc,S ra rl rc,S wa wl wc,U aS],A #[U nU,S Ef Ei Ej,S Eg Ek El,S Eh Em En,U qE]] H fun d e=>∃g,d=B g/\(X aa H e->(g=true->∃h,aR Tryz.prog (aI BinOp.eql 4 (Operand.tmp 13) (Operand.tmp 16) (B up) (B L9)) (B h)/\(h=true->Y 21 [A #[S la ll lc,U aU,U ab,B ac,S ka kl kc,U nx],A #[S qH sU sV,U nK,U iY,B jr,S su qI uh,U Cr]] e fun i j=>∃k,i=B k/\(X aa e j->(k=true->Y 114 [A #[S sa sl sc,S ta tl tc],A #[S L3 L5 L6,S L4 L7 L8]] j fun l m=>∃n,l=B n/\(X aa j m->(n=true->Y 115 [S ma ml mc,S Mb Me Mf] m fun o p=>∃q,o=B q/\(X aa m p->(q=true->Y 111 [S na nl nc,S Ma Mc Md,Value.func (Fn.func 116) #[] #[]] p fun r s=>HV r aa p s w1 H c)/\(q=false->w1=w1/\ak H p/\¬c)))/\(n=false->w1=w1/\ak H m/\¬c)))/\(k=false->w1=w1/\ak H j/\¬c)))/\(¬h=true->w1=w1/\ak H e/\¬c))/\(g=false->w1=w1/\ak H e/\¬c)))/\HW K c H) [J a false 41 [U id,S fa fl fc,S ra rl rc,S wa wl wc,U aS,S la ll lc,U aU,U ab,B ac,S ka kl kc,U nx,S sa sl sc,S ta tl tc,B up,S na nl nc,S ma ml mc],J b false 41 [U nU,S Ef Ei Ej,S Eg Ek El,S Eh Em En,U qE,S qH sU sV,U nK,U iY,B jr,S su qI uh,U Cr,S L3 L5 L6,S L4 L7 L8,B L9,S Ma Mc Md,S Mb Me Mf]]):=by kernel_rfl
open Go Go.Proofs
theorem VR{xo yo:Operand}(p q:km):aR Tryz.prog (aI .neq 152 xo yo (.agg #[.int .i64 p.name,.int .i64 p.fi,.int .i64 p.uW,.int .i64 p.least]) (.agg #[.int .i64 q.name,.int .i64 q.fi,.int .i64 q.uW,.int .i64 q.least])) (.bool (!(p.name==q.name&&p.fi==q.fi&&p.uW==q.uW&&p.least==q.least))):=by
 intro w;have u3:= Tryz.underlying3;have a3:= Tryz.isAgg3;have z3:= Tryz.sizeOf3;have hS: Tryz.prog.underlying 152=some (.struct (Tryz.prog.fieldsOf 152)):=by kernel_rfl
 have hp: Tryz.prog.stoodInHeld 152=false:=by kernel_rfl
 have hm: Tryz.prog.eqGuardType Tryz.prog.depth 152=false:=by kernel_rfl
 have he:(Op.equalIn 10000 152 (.agg #[.int .i64 p.name,.int .i64 p.fi,.int .i64 p.uW,.int .i64 p.least]) (.agg #[.int .i64 q.name,.int .i64 q.fi,.int .i64 q.uW,.int .i64 q.least])).run Tryz.prog w= .ok (p.name==q.name&&p.fi==q.fi&&p.uW==q.uW&&p.least==q.least) w:=by
  rw[show(10000:Nat)=9999+1 from rfl,run_equalIn_agg w 9999 152 _ _ hS hp];simp only[Program.fieldsOf,Tryz.underlying152]
  go_simp
  by_cases h1:p.name=q.name<;>by_cases h2:p.fi=q.fi<;>by_cases h3:p.uW=q.uW<;>by_cases h4:p.least=q.least<;>simp[h1,h2,h3,h4]
 simp only[aI,Sem.run_bind,run_eqGuard_agg w _ 152 _ _ _ _ hm,Result.andThen_ok,run_neq_struct,he]
theorem HX{c:Nat}{xs ys:List km}(hx:ob H a l xs)(hy:ob H a' l' ys):Sp 110 [.slice a l c,.slice a' l' c'] H fun v _=>v= .bool (decide (xs=ys)):=by
 refine bh Tryz.func110 (fun _ _=>vx110) fun aa hb=>?_;have nb:=hx.len;have uk:=hy.len;have hle:=hx.le;refine⟨fun eE=>?_,fun he=>?_⟩
 ·rw[decide_eq_false];rintro rfl;omega
 refine⟨fun vs _=>∃(b:Bool)(k:Nat),vs=[.bool b,i64 k]/\k<=l/\(xs.drop k=ys.drop k↔xs=ys),aN l 1,⟨false,0,rfl,by omega,by simp⟩,fun b n H' hN hI=>?_⟩;obtain⟨b',k,cv,hk,hI⟩:=hI;obtain⟨rfl,rfl⟩:b=b'/\n=(k:Int):=by simpa using cv
 refine⟨fun bK=>hx.LZ hN.ext (by omega) bK fun p hp=>hy.LZ hN.ext (by omega) (by omega) fun q hq=>⟨_,VR p q,fun h=>?_,fun h=>?_⟩,fun gj=>?_⟩
 ·rw[zz] at hp hq;rw[av hp,av hq] at hI;rw[decide_eq_false];intro e;obtain⟨rfl,_⟩:=yx (hI.2 e);simp at h
 ·rw[zz] at hp hq;rw[av hp,av hq] at hI;have sS:p=q:=by cases p;cases q;simp at h⊢;exact⟨h.1.1.1,h.1.1.2,h.1.2,h.2⟩
  rintro r rfl;rw[aj];exact⟨⟨b,k+1,rfl,by omega,by rw[←hI];simp[sS]⟩,by simp[aN];omega⟩
 ·rw[decide_eq_true];exact hI.1 (by rw[aK nb (by omega),aK uk (by omega)])
theorem Cn{c:Nat}(hx:Sl ft 1 H a l xs)(hy:Sl ft 1 H a' l' ys):Sp 109 [.slice a l c,.slice a' l' c'] H fun v _=>v= .bool (decide (xs=ys)):=by
 refine bh Tryz.func109 (fun _ _=>vx109) fun aa hb=>?_;have nb:=hx.len;have uk:=hy.len;have hle:=hx.le;refine⟨fun eE=>?_,fun he=>?_⟩
 ·rw[decide_eq_false];rintro rfl;omega
 refine⟨fun vs _=>∃(b:Bool)(k:Nat),vs=[.bool b,i64 k]/\k<=l/\(xs.drop k=ys.drop k↔xs=ys),aN l 1,⟨false,0,rfl,by omega,by simp⟩,fun b n H' hN hI=>?_⟩;obtain⟨b',k,cv,hk,hI⟩:=hI;obtain⟨rfl,rfl⟩:b=b'/\n=(k:Int):=by simpa using cv
 refine⟨fun bK=>?_,fun gj=>?_⟩
 ·obtain⟨b1,o1,r1,p,ha,hp,hr,hc⟩:=hx.get (k:=(k:Int)) (by omega) bK;obtain⟨b2,o2,r2,q,FY,hq,we,DP⟩:=hy.get (k:=(k:Int)) (by omega) (by omega)
  cases hr
  cases we
  refine⟨b1,o1,ha,by omega,bK,p,Heap.aJ hN.ext (hc 0 _ rfl),b2,o2,FY,by omega,by omega,q,Heap.aJ hN.ext (DP 0 _ rfl),fun h=>?_,fun h=>?_⟩
  ·rw[zz] at hp hq;rw[av hp,av hq] at hI;rw[decide_eq_false];intro e;exact h (yx (hI.2 e)).1
  ·rw[zz] at hp hq;rw[av hp,av hq] at hI;have sS:p=q:=zx.1 h;rintro r rfl;rw[aj];exact⟨⟨b,k+1,rfl,by omega,by rw[←hI];simp[sS]⟩,by simp[aN];omega⟩
 ·rw[decide_eq_true];exact hI.1 (by rw[aK nb (by omega),aK uk (by omega)])
theorem J9{c:Nat}(hx:Sl ft 1 H a l xs)(hy:Sl ft 1 H a' l' ys):Sp 108 [.slice a l c,.slice a' l' c'] H fun v _=>v= .bool (decide (xs=ys)):=by
 refine bh Tryz.func108 (fun _ _=>vx108) fun aa hb=>?_;exact(Cn hx hy).aO fun H' _ _=>rfl
theorem Ka{c:Nat}(hx:Sl ft 1 H a l xs)(hy:Sl ft 1 H a' l' ys):Sp 190 [.slice a l c,.slice a' l' c'] H fun v _=>v= .bool (decide (xs=ys)):=by
 refine bh Tryz.func190 (fun _ _=>vx190) fun aa hb=>?_;exact(Cn hx hy).aO fun H' _ _=>rfl
theorem M4{c:Nat}{xs ys:List (List Int)}(hx:oc H a l xs)(hy:oc H a' l' ys):Sp 107 [.slice a l c,.slice a' l' c',.func (.func 108) #[] #[]] H fun v _=>v= .bool (decide (xs=ys)):=by
 refine bh Tryz.func107 (fun _ _=>VN) fun aa hb=>?_;have nb:=hx.len;have uk:=hy.len;have hle:=hx.le;refine⟨fun eE=>?_,fun he=>?_⟩
 ·rw[decide_eq_false];rintro rfl;omega
 refine⟨fun vs _=>∃(b:Bool)(k:Nat),vs=[.bool b,i64 k]/\k<=l/\(xs.drop k=ys.drop k↔xs=ys),aN l 1,⟨false,0,rfl,by omega,by simp⟩,fun b n H' hN hI=>?_⟩;obtain⟨b',k,cv,hk,hI⟩:=hI;obtain⟨rfl,rfl⟩:b=b'/\n=(k:Int):=by simpa using cv
 refine⟨fun bK=>hx.slice hN.ext (by omega) bK fun m a1 n1 c1 hm hp=>hy.slice hN.ext (by omega) (by omega) fun m' a2 n2 c2 nT hq=>(J9 (Sl.ext ft.mono hp hN.ext) (Sl.ext ft.mono hq hN.ext)).aO fun H2 e2 _=>⟨fun h=>?_,fun h=>?_⟩,fun gj=>?_⟩
 ·rw[zz] at hm nT;rw[av hm,av nT] at hI;rw[decide_eq_false];intro e;exact absurd (yx (hI.2 e)).1 (of_decide_eq_false h)
 ·rw[zz] at hm nT;rw[av hm,av nT] at hI;have sS:m=m':=by simpa using h
  rintro r rfl;rw[aj];exact⟨⟨b,k+1,rfl,by omega,by rw[←hI];simp[sS]⟩,by simp[aN];omega⟩
 ·rw[decide_eq_true];exact hI.1 (by rw[aK nb (by omega),aK uk (by omega)])
theorem M5{c:Nat}{xs ys:List (List Int)}(hx:oc H a l xs)(hy:oc H a' l' ys):Sp 107 [.slice a l c,.slice a' l' c',.func (.func 190) #[] #[]] H fun v _=>v= .bool (decide (xs=ys)):=by
 refine bh Tryz.func107 (fun _ _=>VO) fun aa hb=>?_;have nb:=hx.len;have uk:=hy.len;have hle:=hx.le;refine⟨fun eE=>?_,fun he=>?_⟩
 ·rw[decide_eq_false];rintro rfl;omega
 refine⟨fun vs _=>∃(b:Bool)(k:Nat),vs=[.bool b,i64 k]/\k<=l/\(xs.drop k=ys.drop k↔xs=ys),aN l 1,⟨false,0,rfl,by omega,by simp⟩,fun b n H' hN hI=>?_⟩;obtain⟨b',k,cv,hk,hI⟩:=hI;obtain⟨rfl,rfl⟩:b=b'/\n=(k:Int):=by simpa using cv
 refine⟨fun bK=>hx.slice hN.ext (by omega) bK fun m a1 n1 c1 hm hp=>hy.slice hN.ext (by omega) (by omega) fun m' a2 n2 c2 nT hq=>(Ka (Sl.ext ft.mono hp hN.ext) (Sl.ext ft.mono hq hN.ext)).aO fun H2 e2 _=>⟨fun h=>?_,fun h=>?_⟩,fun gj=>?_⟩
 ·rw[zz] at hm nT;rw[av hm,av nT] at hI;rw[decide_eq_false];intro e;exact absurd (yx (hI.2 e)).1 (of_decide_eq_false h)
 ·rw[zz] at hm nT;rw[av hm,av nT] at hI;have sS:m=m':=by simpa using h
  rintro r rfl;rw[aj];exact⟨⟨b,k+1,rfl,by omega,by rw[←hI];simp[sS]⟩,by simp[aN];omega⟩
 ·rw[decide_eq_true];exact hI.1 (by rw[aK nb (by omega),aK uk (by omega)])
theorem wL :x=y↔x.up=y.up/\x.a=y.a/\x.d=y.d:=by cases x;cases y;simp;exact⟨fun h=>⟨h.2.2,h.1,h.2.1⟩,fun h=>⟨h.2.1,h.2.2,h.1⟩⟩
theorem R1(hx:kP H x q)(hy:kP H y q'):Sp 112 [B0 x q,B0 y q'] H fun v _=>v= .bool (decide (x=y)):=by
 refine bh Tryz.func112 (fun _ _=>vx112) fun aa hb=>fun b b'=>?_;refine⟨x=y,⟨_,jb,fun h=>(Hk hx.ap hx.ab hy.ap hy.ab).aO fun H1 e1 _=>⟨fun h1=>(C8 (hx.iD.ext e1) (hy.iD.ext e1)).aO fun H2 e2 _=>⟨rfl,aH.trans e1 e2,?_⟩,fun h1=>⟨rfl,e1,?_⟩⟩,fun h=>⟨rfl,dD,?_⟩⟩,?_⟩
 ·rw[wL];simp at h h1⊢;simp[h,h1]
 ·rw[wL];simp at h1;simp[h1]
 ·rw[wL];simp at h;simp[h]
 ·show Value.bool _=Value.bool _
  rw[Rk]
theorem R2(hx:kP H x q)(hy:kP H y q'):Sp 116 [B0 x q,B0 y q'] H fun v _=>v= .bool (decide (x=y)):=by
 refine bh Tryz.func116 (fun _ _=>vx116) fun aa hb=>fun b b'=>?_;refine⟨x=y,⟨_,jb,fun h=>(xF hx.ap hx.ab hy.ap hy.ab).aO fun H1 e1 _=>⟨fun h1=>(C9 (hx.iD.ext e1) (hy.iD.ext e1)).aO fun H2 e2 _=>⟨rfl,aH.trans e1 e2,?_⟩,fun h1=>⟨rfl,e1,?_⟩⟩,fun h=>⟨rfl,dD,?_⟩⟩,?_⟩
 ·rw[wL];simp at h h1⊢;simp[h,h1]
 ·rw[wL];simp at h1;simp[h1]
 ·rw[wL];simp at h;simp[h]
 ·show Value.bool _=Value.bool _
  rw[Rk]
theorem Qg{c:Nat}{xs ys:List ke}(hx:BZ H a l xs)(hy:BZ H a' l' ys):Sp 111 [.slice a l c,.slice a' l' c',.func (.func 112) #[] #[]] H fun v _=>v= .bool (decide (xs=ys)):=by
 refine bh Tryz.func111 (fun _ _=>VP) fun aa hb=>?_;have nb:=hx.len;have uk:=hy.len;have hle:=hx.le;refine⟨fun eE=>?_,fun he=>?_⟩
 ·rw[decide_eq_false];rintro rfl;omega
 refine⟨fun vs _=>∃(b:Bool)(k:Nat),vs=[.bool b,i64 k]/\k<=l/\(xs.drop k=ys.drop k↔xs=ys),aN l 1,⟨false,0,rfl,by omega,by simp⟩,fun b n H' hN hI=>?_⟩;obtain⟨b',k,cv,hk,hI⟩:=hI;obtain⟨rfl,rfl⟩:b=b'/\n=(k:Int):=by simpa using cv
 refine⟨fun bK=>hx.node hN.ext (by omega) bK fun m q1 hm hp=>fun b5=>hy.node hN.ext (by omega) (by omega) fun m' q2 nT hq=>fun Ys=>(R1 (hp.ext hN.ext) (hq.ext hN.ext)).aO fun H2 e2 _=>⟨fun h=>?_,fun h=>?_⟩,fun gj=>?_⟩
 ·rw[zz] at hm nT;rw[av hm,av nT] at hI;rw[decide_eq_false];intro e;exact absurd (yx (hI.2 e)).1 (of_decide_eq_false h)
 ·rw[zz] at hm nT;rw[av hm,av nT] at hI;have sS:m=m':=by simpa using h
  rintro r rfl;rw[aj];exact⟨⟨b,k+1,rfl,by omega,by rw[←hI];simp[sS]⟩,by simp[aN];omega⟩
 ·rw[decide_eq_true];exact hI.1 (by rw[aK nb (by omega),aK uk (by omega)])
theorem Qh{c:Nat}{xs ys:List ke}(hx:BZ H a l xs)(hy:BZ H a' l' ys):Sp 111 [.slice a l c,.slice a' l' c',.func (.func 116) #[] #[]] H fun v _=>v= .bool (decide (xs=ys)):=by
 refine bh Tryz.func111 (fun _ _=>VQ) fun aa hb=>?_;have nb:=hx.len;have uk:=hy.len;have hle:=hx.le;refine⟨fun eE=>?_,fun he=>?_⟩
 ·rw[decide_eq_false];rintro rfl;omega
 refine⟨fun vs _=>∃(b:Bool)(k:Nat),vs=[.bool b,i64 k]/\k<=l/\(xs.drop k=ys.drop k↔xs=ys),aN l 1,⟨false,0,rfl,by omega,by simp⟩,fun b n H' hN hI=>?_⟩;obtain⟨b',k,cv,hk,hI⟩:=hI;obtain⟨rfl,rfl⟩:b=b'/\n=(k:Int):=by simpa using cv
 refine⟨fun bK=>hx.node hN.ext (by omega) bK fun m q1 hm hp=>fun b5=>hy.node hN.ext (by omega) (by omega) fun m' q2 nT hq=>fun Ys=>(R2 (hp.ext hN.ext) (hq.ext hN.ext)).aO fun H2 e2 _=>⟨fun h=>?_,fun h=>?_⟩,fun gj=>?_⟩
 ·rw[zz] at hm nT;rw[av hm,av nT] at hI;rw[decide_eq_false];intro e;exact absurd (yx (hI.2 e)).1 (of_decide_eq_false h)
 ·rw[zz] at hm nT;rw[av hm,av nT] at hI;have sS:m=m':=by simpa using h
  rintro r rfl;rw[aj];exact⟨⟨b,k+1,rfl,by omega,by rw[←hI];simp[sS]⟩,by simp[aN];omega⟩
 ·rw[decide_eq_true];exact hI.1 (by rw[aK nb (by omega),aK uk (by omega)])
open Go Go.Proofs
theorem mX{c c':dM} :c=c'↔(c.first.id=c'.first.id/\c.first.ap=c'.first.ap)/\c.rules=c'.rules/\c.aS=c'.aS/\c.bf=c'.bf:=by
 obtain⟨⟨a,b⟩,d,e,f⟩:=c;obtain⟨⟨a',b'⟩,d',e',f'⟩:=c';simp only[dM.mk.injEq,kU.mk.injEq];constructor<;>(intro h;simp[h])
theorem jU{w':cY} :w=w'↔w.c=w'.c/\w.h.up=w'.h.up/\w.h.l=w'.h.l/\w.h.d=w'.h.d/\w.m=w'.m/\w.n=w'.n:=by
 obtain⟨c,⟨a,b,d⟩,n,m⟩:=w;obtain⟨c',⟨a',b',d'⟩,n',m'⟩:=w';simp only[cY.mk.injEq,Th.mk.injEq];constructor<;>(intro h;simp[h])
section
variable {H : Heap} {w w' : cY} {p p' : WA}
theorem HY(hw:bB H w p)(er:bB H w' p'):Sp 113 [eN w.c p.fa p.fl p.fc p.ra p.rl p.rc p.wa p.wl p.wc,eN w'.c p'.fa p'.fl p'.fc p'.ra p'.rl p'.rc p'.wa p'.wl p'.wc] H fun v _=>v= .bool (@decide (w.c=w'.c) (zh _)):=by
 refine bh Tryz.func113 (fun _ _=>vx113) fun aa hb=>fun b b'=>?_;refine⟨w.c=w'.c,(pg hw.iw.pins er.iw.pins _ _).aO fun H1 e1 _=>⟨fun h1=>(HX ((hw.ext e1).iw.rules) ((er.ext e1).iw.rules)).aO fun H2 e2 _=>⟨fun h2=>⟨fun h3=>(M5 ((hw.ext (aH.trans e1 e2)).iw.bf) ((er.ext (aH.trans e1 e2)).iw.bf)).aO fun H3 e3 _=>⟨rfl,aH.trans (aH.trans e1 e2) e3,?_⟩,fun h3=>⟨rfl,aH.trans e1 e2,?_⟩⟩,fun h2=>⟨rfl,aH.trans e1 e2,?_⟩⟩,fun h1=>⟨rfl,e1,?_⟩⟩,rfl⟩
 ·rw[mX];simp at h1 h2;simp[h1,h2,h3]
 ·rw[mX];simp[h3]
 ·rw[mX];simp at h2;simp[h2]
 ·rw[mX];simp at h1;exact fun h=>h1 h.1.1 h.1.2
theorem fq(hw:bB H w p)(er:bB H w' p'):Sp 33 [cO w p,cO w' p'] H fun v _=>v= .bool (@decide (w=w') (zh _)):=by
 refine bh Tryz.func33 (fun _ _=>vx33) fun aa hb=>fun b b'=>?_;refine⟨w=w',(HY hw er).aO fun H1 e1 _=>⟨fun h1=>⟨_,jb,fun h2=>(xB (hw.ext e1).ji (er.ext e1).ji).aO fun H2 e2 _=>?_,fun h2=>⟨rfl,e1,?_⟩⟩,fun h1=>⟨rfl,e1,?_⟩⟩,rfl⟩
 ·have E2:=aH.trans e1 e2;refine⟨fun h3=>(C9 (hw.ext E2).iD (er.ext E2).iD).aO fun H3 e3 _=>?_,fun h3=>⟨rfl,E2,?_⟩⟩
  ·have E3:=aH.trans E2 e3;refine⟨fun h4=>(Oy (hw.ext E3).cZ (er.ext E3).cZ).aO fun H4 e4 _=>?_,fun h4=>⟨rfl,E3,?_⟩⟩
   ·have E4:=aH.trans E3 e4;refine⟨fun h5=>(Qh (hw.ext E4).dH (er.ext E4).dH).aO fun H5 e5 _=>⟨rfl,aH.trans E4 e5,?_⟩,fun h5=>⟨rfl,E4,?_⟩⟩
    ·rw[jU];simp at h1 h2 h3 h4 h5;simp[h1,h2,h3,h4,h5]
    ·rw[jU];simp at h5;simp[h5]
   ·rw[jU];simp at h4;simp[h4]
  ·rw[jU];simp at h3;simp[h3]
 ·rw[jU];simp at h2;simp[h2]
 ·rw[jU];simp at h1;simp[h1]
theorem HZ(hw:bB H w p)(er:bB H w' p'):Sp 32 [cO w p,cO w' p'] H fun v _=>v= .bool (@decide (w=w') (zh _)):=by
 refine bh Tryz.func32 (fun _ _=>vx32) fun aa hb=>fun b b'=>?_;refine(M4 hw.iw.bf er.iw.bf).aO fun H0 e0 _=>?_;have hw:=hw.ext e0;have er:=er.ext e0;refine⟨w.c.first.id=w'.c.first.id/\w.c.first.ap=w'.c.first.ap,⟨fun h0=>(Ag hw.iw.pins er.iw.pins).aO fun H1 e1 _=>⟨rfl,e1,by simp[h0]⟩,fun h0=>⟨rfl,dD,by simp[h0]⟩⟩,w=w',⟨fun hA=>⟨fun hB=>(HX hw.iw.rules er.iw.rules).aO fun H1 e1 _=>⟨fun h1=>⟨fun VS=>⟨_,jb,fun h2=>(GP (hw.ext e1).ji (er.ext e1).ji).aO fun H2 e2 _=>?_,fun h2=>⟨rfl,e1,?_⟩⟩,fun VS=>⟨rfl,e1,?_⟩⟩,fun h1=>⟨rfl,e1,?_⟩⟩,fun hB=>⟨rfl,dD,?_⟩⟩,fun hA=>⟨rfl,dD,?_⟩⟩,rfl⟩
 ·have E2:=aH.trans e1 e2;have hc:w.c=w'.c:=by rw[mX];simp at hA h1;exact⟨hB,h1,VS,hA⟩
  refine⟨fun h3=>(C8 (hw.ext E2).iD (er.ext E2).iD).aO fun H3 e3 _=>?_,fun h3=>⟨rfl,E2,?_⟩⟩
  ·have E3:=aH.trans E2 e3;refine⟨fun h4=>(Yh (hw.ext E3).cZ (er.ext E3).cZ).aO fun H4 e4 _=>?_,fun h4=>⟨rfl,E3,?_⟩⟩
   ·have E4:=aH.trans E3 e4;refine⟨fun h5=>(Qg (hw.ext E4).dH (er.ext E4).dH).aO fun H5 e5 _=>⟨rfl,aH.trans E4 e5,?_⟩,fun h5=>⟨rfl,E4,?_⟩⟩
    ·rw[jU];simp at h2 h3 h4 h5;simp[hc,h2,h3,h4,h5]
    ·rw[jU];simp at h5;simp[h5]
   ·rw[jU];simp at h4;simp[h4]
  ·rw[jU];simp at h3;simp[h3]
 ·rw[jU];simp at h2;simp[h2]
 ·rw[jU,mX];simp[VS]
 ·rw[jU,mX];simp at h1;simp[h1]
 ·rw[jU,mX];exact fun h=>hB h.1.1
 ·rw[jU,mX];simp at hA;exact fun h=>hA h.1.2.2.2
end
open Go Go.Proofs
theorem VT{c:Nat}(hx:Sl ft 1 H a l xs)(hy:Sl ft 1 H a' l' ys):Sp 40 [.slice a l c,.slice a' l' c'] H fun v _=>v= .bool (decide (xs=ys)):=by
 refine bh Tryz.func40 (fun _ _=>vk40) fun aa hb=>?_;have nb:=hx.len;have uk:=hy.len;have hle:=hx.le;refine⟨fun eE=>?_,fun he=>?_⟩
 ·rw[decide_eq_false];rintro rfl;omega
 refine⟨fun vs _=>∃(b:Bool)(k:Nat),vs=[.bool b,i64 k]/\k<=l/\(xs.drop k=ys.drop k↔xs=ys),aN l 1,⟨false,0,rfl,by omega,by simp⟩,fun b n H' hN hI=>?_⟩;obtain⟨b',k,cv,hk,hI⟩:=hI;obtain⟨rfl,rfl⟩:b=b'/\n=(k:Int):=by simpa using cv
 refine⟨fun bK=>?_,fun gj=>?_⟩
 ·obtain⟨b1,o1,r1,p,ha,hp,hr,hc⟩:=hx.get (k:=(k:Int)) (by omega) bK;obtain⟨b2,o2,r2,q,FY,hq,we,DP⟩:=hy.get (k:=(k:Int)) (by omega) (by omega)
  cases hr
  cases we
  refine⟨b1,o1,ha,by omega,bK,p,Heap.aJ hN.ext (hc 0 _ rfl),b2,o2,FY,by omega,by omega,q,Heap.aJ hN.ext (DP 0 _ rfl),fun h=>?_,fun h=>?_⟩
  ·rw[zz] at hp hq;rw[av hp,av hq] at hI;rw[decide_eq_false];intro e;exact h (yx (hI.2 e)).1
  ·rw[zz] at hp hq;rw[av hp,av hq] at hI;have sS:p=q:=zx.1 h;rintro r rfl;rw[aj];exact⟨⟨b,k+1,rfl,by omega,by rw[←hI];simp[sS]⟩,by simp[aN];omega⟩
 ·rw[decide_eq_true];exact hI.1 (by rw[aK nb (by omega),aK uk (by omega)])
open Go Go.Proofs
set_option maxHeartbeats 1000000 in
theorem Il(hL:Lb H)(hw:bB H w p){x:gX}{c:Nat}(hx:aL H a l x.ap){cf:dM}{rl:Nat}(hc:fB H cf fa fl ra rl wa wl){w2:cY}{p2:WA}(sP:bB H w2 p2):
  Sp 4 [cO w p,jw x a l c,eN cf fa fl fc ra rl rc wa wl wc,cO w2 p2] H fun v _=>v= .bool true:=by
 refine wo Tryz.func4 (fun _ _=>vk4) fun aa hb=>fun b b1 b2 b3=>?_;refine(TQ (fc:=fc) (rc:=rc) (wc:=wc) hc).PN fun pn H1 e1 fh tP=>fun b6=>?_;have hL:=hL.ext e1;have hw:=hw.ext e1;have hx:=hx.ext' e1;have hc:=hc.ext e1;have sP:=sP.ext e1;refine(cDo (c:=c) hL hw hx).PN fun py H2 e2 dZ pu=>fun b9=>?_;have hL:=hL.ext e2;have hw:=hw.ext e2;have hx:=hx.ext' e2;have hc:=hc.ext e2;have sP:=sP.ext e2;have tP:=tP.ext e2;refine(xH hL hw).bY fun H3 e3 fS=>?_;have hL:=hL.ext e3;have hw:=hw.ext e3;have hx:=hx.ext' e3;have hc:=hc.ext e3;have sP:=sP.ext e3;have tP:=tP.ext e3;have pu:=pu.ext e3;refine(qb hc).bY fun H4 e4 iC=>fun Ys=>?_;have hL:=hL.ext e4;have hw:=hw.ext e4;have hx:=hx.ext' e4;have hc:=hc.ext e4;have sP:=sP.ext e4;have tP:=tP.ext e4;have pu:=pu.ext e4;refine⟨fun hcf=>?_,fun hcf=>?_⟩
 ·have hnf:yM cf=ek cf:=by unfold yM;rw[pI hcf]
  refine(VJ (fc:=fc) (rc:=rc) (wc:=wc) hc hcf).wld1 fun pf H5 e5 kT oJ=>?_;have hL:=hL.ext e5;have hw:=hw.ext e5;have hx:=hx.ext' e5;have hc:=hc.ext e5;have sP:=sP.ext e5;have tP:=tP.ext e5;have pu:=pu.ext e5;refine(sO hL).aO fun Ha ea E6=>⟨fun h=>(by cases h),fun _=>?_⟩
  have hL:=hL.ext ea;have hw:=hw.ext ea;have hx:=hx.ext' ea;have hc:=hc.ext ea;have sP:=sP.ext ea;have tP:=tP.ext ea;have pu:=pu.ext ea;have oJ:=oJ.ext ea;refine(EP hL hw).bY fun Hb eb Lm=>⟨fun h=>absurd rfl h,fun _=>?_⟩
  have hL:=hL.ext eb;have hw:=hw.ext eb;have hx:=hx.ext' eb;have hc:=hc.ext eb;have sP:=sP.ext eb;have tP:=tP.ext eb;have pu:=pu.ext eb;have oJ:=oJ.ext eb;refine(HZ hw sP).aO fun Hc ec TO=>?_;have hL:=hL.ext ec;have hw:=hw.ext ec;have hx:=hx.ext' ec;have hc:=hc.ext ec;have sP:=sP.ext ec;have tP:=tP.ext ec;have pu:=pu.ext ec;have oJ:=oJ.ext ec;refine(fq hw sP).aO fun Hd ed hNd=>?_;have hL:=hL.ext ed;have hw:=hw.ext ed;have hx:=hx.ext' ed;have hc:=hc.ext ed;have sP:=sP.ext ed;have tP:=tP.ext ed;have pu:=pu.ext ed;have oJ:=oJ.ext ed;refine⟨_,mV,fun hb=>absurd hb (by simp),fun _=>⟨fun h=>absurd rfl h,fun _=>?_⟩⟩;refine(fq tP oJ).aO fun He ee hNe=>⟨fun hb=>absurd hb (by rw[hnf];simp),fun _=>?_⟩
  have hL:=hL.ext ee;have hw:=hw.ext ee;have hx:=hx.ext' ee;have hc:=hc.ext ee;have sP:=sP.ext ee;have tP:=tP.ext ee;have pu:=pu.ext ee;have oJ:=oJ.ext ee;refine⟨fun pq=>?_,fun pq=>?_⟩
  ·have hE:Fs w x= .error (fp w):=by unfold Fs;rw[pI pq]
   rw[hE] at pu⊢;exact⟨True,⟨fun hf=>(fq pu (w':=ou) (p':=hY) (bB.zero (H:=He))).aO fun Hf ef VD=>⟨rfl,ef,⟨fun _=>uD rfl,fun _=>trivial⟩⟩,fun hf=>absurd rfl hf⟩,kh⟩
  ·have pq:=zx.1 pq;have hR:=gF.1 pq;have hE:Fs w x=bO w x:=by unfold Fs;rw[nI (by omega)]
   rw[hE] at pu⊢;refine(wJ hL hw hR hx).PN fun pY Hf ef VD WN=>fun bq=>?_;exact⟨True,⟨fun hf=>(fq (pu.ext ef) WN).aO fun Hg eg Jm=>⟨rfl,eg,⟨fun _=>uD rfl,fun _=>trivial⟩⟩,fun hf=>absurd rfl hf⟩,kh⟩
 ·have hnf:yM cf=ou:=by unfold yM;rw[nI hcf]
  refine(sO hL).aO fun Ha ea E6=>⟨fun h=>(by cases h),fun _=>?_⟩
  have hL:=hL.ext ea;have hw:=hw.ext ea;have hx:=hx.ext' ea;have hc:=hc.ext ea;have sP:=sP.ext ea;have tP:=tP.ext ea;have pu:=pu.ext ea;refine(EP hL hw).bY fun Hb eb Lm=>⟨fun h=>absurd rfl h,fun _=>?_⟩
  have hL:=hL.ext eb;have hw:=hw.ext eb;have hx:=hx.ext' eb;have hc:=hc.ext eb;have sP:=sP.ext eb;have tP:=tP.ext eb;have pu:=pu.ext eb;refine(HZ hw sP).aO fun Hc ec TO=>?_;have hL:=hL.ext ec;have hw:=hw.ext ec;have hx:=hx.ext' ec;have hc:=hc.ext ec;have sP:=sP.ext ec;have tP:=tP.ext ec;have pu:=pu.ext ec;refine(fq hw sP).aO fun Hd ed hNd=>?_;have hL:=hL.ext ed;have hw:=hw.ext ed;have hx:=hx.ext' ed;have hc:=hc.ext ed;have sP:=sP.ext ed;have tP:=tP.ext ed;have pu:=pu.ext ed;refine⟨_,mV,fun hb=>absurd hb (by simp),fun _=>⟨fun h=>absurd rfl h,fun _=>?_⟩⟩;refine(fq tP (w':=ou) (p':=hY) (bB.zero (H:=Hd))).aO fun He ee hNe=>⟨fun hb=>absurd hb (by rw[hnf];simp),fun _=>?_⟩
  have hL:=hL.ext ee;have hw:=hw.ext ee;have hx:=hx.ext' ee;have hc:=hc.ext ee;have sP:=sP.ext ee;have tP:=tP.ext ee;have pu:=pu.ext ee;refine⟨fun pq=>?_,fun pq=>?_⟩
  ·have hE:Fs w x= .error (fp w):=by unfold Fs;rw[pI pq]
   rw[hE] at pu⊢;exact⟨True,⟨fun hf=>(fq pu (w':=ou) (p':=hY) (bB.zero (H:=He))).aO fun Hf ef VD=>⟨rfl,ef,⟨fun _=>uD rfl,fun _=>trivial⟩⟩,fun hf=>absurd rfl hf⟩,kh⟩
  ·have pq:=zx.1 pq;have hR:=gF.1 pq;have hE:Fs w x=bO w x:=by unfold Fs;rw[nI (by omega)]
   rw[hE] at pu⊢;refine(wJ hL hw hR hx).PN fun pY Hf ef VD WN=>fun bq=>?_;exact⟨True,⟨fun hf=>(fq (pu.ext ef) WN).aO fun Hg eg Jm=>⟨rfl,eg,⟨fun _=>uD rfl,fun _=>trivial⟩⟩,fun hf=>absurd rfl hf⟩,kh⟩
theorem Io(hL:Lb H)(hw:bB H w p){l:List gX}{n c:Nat}(hx:Vr H a n l):
  Sp 9 [cO w p,.slice a n c] H fun v _=>v= .bool true:=by
 refine wo Tryz.func9 (fun _ _=>vk9) fun aa hb=>fun b=>?_;refine(ZU (c:=c) hL hw hx).ZW fun py s sn sc H1 e1 fh pu vN LO=>fun b3=>?_;have hL:=hL.ext e1;have hw:=hw.ext e1;have hx:=Sl.ext ow.mono hx e1;refine(xH hL hw).bY fun H2 e2 dZ=>?_;have hL:=hL.ext e2;have hw:=hw.ext e2;have hx:=Sl.ext ow.mono hx e2;have pu:=pu.ext e2;have vN:=Sl.ext ft.mono vN e2;have Xc:=vN.len;have nb:=hx.len;have hxle:=hx.le;refine⟨fp w=0/\150<(n:Int),⟨fun h0=>⟨rfl,dD,⟨fun h=>h.2,fun h=>⟨h0,h⟩⟩⟩,fun h0=>⟨rfl,dD,fun h=>h0 h.1⟩⟩,fun fT=>?_,fun fT=>?_⟩
 ·have hE:jg w l=2:=by unfold jg;rw[nI (by omega),pI (by omega)]
  have hW:vG w l=ou:=by unfold vG;rw[hE,nI (by omega)]
  have hS:(wH w l).length=0:=by unfold wH;rw[hE,nI (by omega)];rfl
  refine⟨True,(sO hL).aO fun H3 e3 fS=>⟨fun h=>(by cases h),fun _=>⟨rfl,e3,⟨fun _=>by decide,fun _=>trivial⟩⟩⟩,fun _=>?_,fun h=>absurd trivial h⟩;refine⟨True,(sO hL).aO fun H3 e3 fS=>⟨fun _=>⟨fun he=>⟨fun Fg=>(fq (pu.ext e3) (w':=ou) (p':=hY) (bB.zero (H:=H3))).aO fun H4 e4 iC=>⟨rfl,aH.trans e3 e4,⟨fun _=>uD hW,fun _=>trivial⟩⟩,fun Fg=>absurd (by omega) Fg⟩,fun he=>absurd hE he⟩,fun h=>(by cases h)⟩,kh⟩
 refine⟨¬fp w=0,(sO hL).aO fun H3 e3 fS=>⟨fun h=>(by cases h),fun _=>⟨rfl,e3,Iff.rfl⟩⟩,fun pq=>?_,fun pq=>?_⟩
 ·have hE:jg w l=fp w:=by unfold jg;rw[pI pq]
  have hW:vG w l=ou:=by unfold vG;rw[hE,nI pq]
  have hS:(wH w l).length=0:=by unfold wH;rw[hE,nI pq];rfl
  refine⟨True,(sO hL).aO fun H3 e3 fS=>⟨fun _=>⟨fun he=>⟨fun Fg=>(fq (pu.ext e3) (w':=ou) (p':=hY) (bB.zero (H:=H3))).aO fun H4 e4 iC=>⟨rfl,aH.trans e3 e4,⟨fun _=>uD hW,fun _=>trivial⟩⟩,fun Fg=>absurd (by omega) Fg⟩,fun he=>absurd hE he⟩,fun h=>(by cases h)⟩,kh⟩
 have pq:=zx.1 pq;have hR:=gF.1 pq;have h150:¬150<(n:Int):=fun h=>fT ⟨pq,h⟩;have hE:jg w l=0:=by unfold jg;rw[nI (by omega),nI (by omega)]
 have hW:vG w l=(bA w l).1:=by unfold vG;rw[pI hE]
 have hS:wH w l=(bA w l).2:=by unfold wH;rw[pI hE]
 refine⟨fun m vs H'=>∃(k:Nat)(aw:O)(cw:Nat)(z:cY)(q:WA)(said:List Int)(G0:Heap),vs=[.slice aw k cw,i64 k,cO z q]/\m=n-k/\RH aa H2 w l k aw cw z q said G0 H',n,⟨0,none,0,w,p,[],H2,rfl,rfl,⟨Nat.zero_le _,bg.zero,hw,hR,aH.refl _,aH.refl _,iP.none,by simp⟩⟩,?_⟩;intro m a1 k1 c1 nk n1 a2 l2 c2 a3 l3 c3 a4 l4 c4 n5 a6 l6 c6 n7 n8 b9 aA lA cA nB aC lC cC aD lD cD bE aF lF cF aG lG cG H' QH hI;obtain⟨k,aw,cw,z,q,said,G0,cv,rfl,hI⟩:=hI;simp only[List.cons.injEq,Value.slice.injEq,Value.int.injEq,true_and,Value.agg.injEq,Array.mk.injEq,Value.bool.injEq,and_true] at cv;obtain⟨⟨rfl,rfl,rfl⟩,rfl,rfl,⟨rfl,rfl,rfl⟩,⟨rfl,rfl,rfl⟩,⟨rfl,rfl,rfl⟩,rfl,⟨rfl,rfl,rfl⟩,rfl,rfl,rfl,⟨rfl,rfl,rfl⟩,rfl,⟨rfl,rfl,rfl⟩,⟨rfl,rfl,rfl⟩,rfl,⟨rfl,rfl,rfl⟩,rfl,rfl,rfl⟩:=cv;obtain⟨k,hk⟩:∃k,k=k1:=⟨_,rfl⟩
 subst hk;have qu:=hI.le;have eG:aH H2 H':=aH.trans hI.from_ hI.sub;refine⟨fun bK=>?_,fun gj=>?_⟩
 ·obtain⟨b5,o5,r5,x,hxa,mi,⟨ax,lx,cx,rfl,Vt⟩,cI⟩:=hx.get (k:=(k:Int)) (by omega) bK;rw[zz] at mi;have cc:∀j v,(nR x ax lx cx)[j]?=some v->H'.cell b5 (o5+(k:Int).toNat*5+j)=some v:=fun j v hj=>Heap.aJ eG (cI j v hj);refine⟨b5,o5,hxa,by omega,bK,_,_,_,_,_,_,_,⟨cc 0 _ rfl,cc 1 _ rfl,cc 2 _ rfl,cc 3 _ rfl,cc 4 _ rfl,trivial⟩,fun bq=>?_⟩;refine((wJ (c:=cx) (hL.ext hI.from_) hI.ck hI.right (Vt.ext' hI.from_)).grown hI.sub).mono fun v H4 e4 hv=>?_;obtain⟨G1,g1,pY,rfl,WN⟩:=hv;refine⟨_,_,_,_,_,_,_,_,_,_,_,_,_,_,_,_,_,_,_,_,_,_,_,_,_,_,_,_,_,_,_,_,_,_,_,rfl,fun iC=>fun b8=>?_⟩;have PJ:l.drop k=x::l.drop (k+1):=av mi;have PA:=(zw.1 mi).1;have hrow4:=hI.row.ext e4;have kA:=hI.run;rw[PJ] at kA
  have vM:iP G1 a1 c1:=fun hc zb kz hz ha=>by
   obtain⟨r1,r2,r3,r4⟩:=hI.row;rcases r4 with⟨_,h0⟩|⟨g',k',q1,q2,q3,_⟩
   ·exact hc h0
   ·rw[ha] at q1;simp only[Option.some.injEq,Addr.mk.injEq,and_true] at q1;subst q1
    have hG0:G0 zb=none:=by
     cases hg:G0 zb with
     |none=>rfl
     |some kg=>exact absurd ha (hI.apart hc zb kg hg)
    have:=g1.im zb kz hz hG0;rw[q3] at this;cases this
  have step:∀ {y2:cY} {q2:WA} (_:bB G1 y2 q2)(_:cU y2)(_:bA w l=((bA y2 (l.drop (k+1))).1,(said++[bN (bO z x)])++(bA y2 (l.drop (k+1))).2)),
    ∃(xs:List Value),bg aa H4 42 1 a1 k c1 xs/\(k+1)*8<=140737488355328/\k+1<=9223372036854775807/\∀(a':O)(c':Nat)(H5:Heap),cu aa H4 H5 a1 c1 a' c' (k+1)->bg aa H5 42 1 a' (k+1) c' (xs++[.int .i64 (bN (bO z x))])->∀(r:Int),r=IntKind.wrap .i64 ((k:Int)+1)->
     ∃m':Nat,m'<n-k/\∃(k2:Nat)(a:O)(c:Nat)(y3:cY)(q3:WA)(said:List Int)(G0:Heap),([.slice a' (k+1) c',.int .i64 r,cO y2 q2]:List Value)=[.slice a k2 c,i64 k2,cO y3 q3]/\m'=n-k2/\RH aa H2 w l k2 a c y3 q3 said G0 H5:=by
   intro y2 q2 h1 h2 h6;refine⟨said.map i64,hrow4,by omega,by omega,fun a' c' H5 hg hr r GA=>⟨n-(k+1),by omega,k+1,a',c',y2,q2,said++[bN (bO z x)],G1,?_,rfl,?_⟩⟩
   ·rw[GA,wrap_small];rfl
   ·obtain⟨f1,f2⟩:=vM.oB g1.sub hg;exact⟨by omega,by rw[List.map_append];exact hr,h1,h2,aH.trans hI.from_ g1.ext,f1,f2,h6⟩
  cases hh:bO z x with
  |error e=>
   have hz:=B8 hh;rw[hh] at step;refine⟨fun h0=>absurd h0 hz,fun _=>fun b9=>?_⟩;obtain⟨xs,s1,s2,s3,s4⟩:=step (hI.ck.ext g1.ext) hI.right (by rw[kA];simp only[bA,hh,zE,List.singleton_append,bN])
   exact⟨xs,s1,s2,s3,fun a' c' H5 hg hr r GA=>⟨rfl,s4 a' c' H5 hg hr r GA⟩⟩
  |ok y'=>
   rw[hh] at WN step;refine⟨fun _=>fun b9=>?_,fun h0=>absurd rfl h0⟩;obtain⟨xs,s1,s2,s3,s4⟩:=step (y2:=y') (q2:=pY) WN (hI.right.Fj hh).ok (by rw[kA];simp only[bA,hh,zE,List.singleton_append,bN]);exact⟨xs,s1,s2,s3,fun a' c' H5 hg hr r GA=>⟨rfl,s4 a' c' H5 hg hr r GA⟩⟩
 ·have Sa:k=l.length:=by omega
  have kA:=hI.run;rw[zO (by omega)] at kA;simp only[bA,zZ] at kA;rw[kA] at hW hS;have hW:vG w l=z:=hW;have hS:wH w l=said:=hS;rw[hS] at vN;refine⟨True,⟨fun _=>(VT (Sl.ext ft.mono vN eG) (oa hI.row)).aO fun H5 e5 kT=>⟨fun _=>(fq ((pu.ext eG).ext e5) ((hI.ck.ext hI.sub).ext e5)).aO fun H6 e6 Fo=>⟨rfl,aH.trans e5 e6,⟨fun _=>uD hW,fun _=>trivial⟩⟩,fun h=>absurd h (by simp)⟩,fun h=>absurd hE h⟩,kh⟩
end Go.Vg
namespace Go.Proofs.YtgaegoefbekndaaGreatDoor
open Go Go.Proofs Go.Vg
theorem Qi{W:World}(h:laidMetH Tryz.prog Rows.storySaysRow.laid W):laidMet Tryz.prog Rows.storySaysRow.laid W:=by
 rw[MakeChecks.laidMetH_plain _ _ _ (by kernel_rfl)] at h;exact h
theorem Co{P:Program}{W:World}{name:String}{g:Nat}{cs:Array Value}(hg:P.globalNamed name=some g)(h:W.var? P name=some cs):∃t fr,W.heap[g]?=some (.cells cs t fr):=by
 unfold World.var? at h;rw[hg] at h;simp only[yj] at h;split at h
 ·rename_i c t fr hc;obtain rfl:=zy h;exact⟨t,fr,hc⟩
 ·cases h
theorem vO(u:TypeId)(h: Tryz.prog.typeName? 3 u=some ("*"++ "errors.errorString")):u= 334:=
 typeName_ptr_named (nm:= "errors.errorString") (by kernel_rfl) (by kernel_rfl) (by decide) u h
theorem At{W:World}(hL0:laidMetH Tryz.prog Rows.storySaysRow.laid W)(WO:W.ShapedOpen Tryz.prog):Lb (jT W):=by
 have hL:laidMet Tryz.prog Rows.storySaysRow.laid W:=Qi hL0;have h3:=hL.tail.tail;have h5:=h3.tail.tail;have h6:=h5.tail;have hT:=Lib.tabIs_of_head (k:= .u64) (zs:=Lib.pow10Tab) (g:= 5) (t:= 328) (e:= 301) (n:=20) (by kernel_rfl) (by kernel_rfl) Tryz.underlying328 Tryz.underlying301 (by kernel_rfl) (by kernel_rfl) h3;have TT: "*"++ "errors.errorString"= "*errors.errorString":=by decide
 obtain⟨ar,sr,hvr,-,-,-⟩:=laid_sentinel (g:= 2) h5 (by kernel_rfl) (by kernel_rfl) Tryz.underlying263 (fun u h=>vO u (by rw[TT];exact h)) Tryz.underlying334 Tryz.underlying336 rfl rfl Tryz.underlying9 (by kernel_rfl) (by kernel_rfl);obtain⟨aq,sq,cv,-,-,-⟩:=laid_sentinel (g:= 1) h6 (by kernel_rfl) (by kernel_rfl) Tryz.underlying263 (fun u h=>vO u (by rw[TT];exact h)) Tryz.underlying334 Tryz.underlying336 rfl rfl Tryz.underlying9 (by kernel_rfl) (by kernel_rfl);obtain⟨m,hm⟩:=Go.Proofs.cell_of_shapedOpen_int (zero:= #[.int .i64 0]) (g:= 0) (t:= 3) WO (of_decide_eq_true (by kernel_rfl)) (by kernel_rfl) rfl (by kernel_rfl) (by kernel_rfl) Tryz.underlying3;refine⟨⟨m,(rU hm).2⟩,?_,?_,?_⟩
 ·obtain⟨t,fr,h⟩:=Co (g:= 1) (by kernel_rfl) cv;exact⟨_,_,by unfold Heap.cell jT;rw[h];rfl⟩
 ·obtain⟨t,fr,h⟩:=Co (g:= 2) (by kernel_rfl) hvr;exact⟨_,_,by unfold Heap.cell jT;rw[h];rfl⟩
 ·obtain⟨t,fr,h⟩:=Co (g:= 5) (by kernel_rfl) hT;refine⟨_,by unfold jT;rw[h],by simp,fun j z hj=>?_⟩;simp[hj]
theorem Fy:laidOutB Tryz.pinned.checked.prog=true:=by kernel_rfl
theorem Ax:mapsRowed Tryz.pinned.checked.prog=true:=by kernel_rfl
theorem Nt: Tryz.pinned.checked.prog.stopsHeard=true:=by kernel_rfl
theorem R4: Tryz.pinned.checked.prog.plainKeys=Rows.storySaysRow.plainKeys:=by kernel_rfl
theorem R5: Tryz.pinned.checked.prog.mainIs=some (Rows.storySaysCard.stood.harness.1,Rows.storySaysCard.stood.harness.2.toList):=by kernel_rfl
noncomputable def rX (os:Os):World:=World.laidAll Tryz.prog os Rows.storySaysRow.laid
theorem Kb(os:Os):(rX os).os=os:=World.laidAll_os _ _ _
theorem Fx(os:Os)(args:Array Value):laidMetH Tryz.prog Rows.storySaysRow.laid ((rX os).forCall (fun _ _=>0) ⟨#[],args,[]⟩).memory:=by
 rw[MakeChecks.laidMetH_plain _ _ _ (by kernel_rfl)];exact laidMet_laidAll _ (by kernel_rfl) (by kernel_rfl)
end Go.Proofs.YtgaegoefbekndaaGreatDoor
