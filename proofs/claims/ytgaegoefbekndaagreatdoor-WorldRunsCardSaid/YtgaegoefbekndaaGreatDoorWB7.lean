/- What is proved here: a part of the proof of laws of this seat: what a contract is, how it comes of a condition, contracts of the functions that are reached, the plain laws. -/
import Derived.Test.YtgaegoefbekndaaGreatDoorWB6
import Derived.Test.YtgaegoefbekndaaGreatDoorRows
import Derived.ChangeSame
import Derived.OpenShut
import Derived.ProofKit
import Derived.ChangeArms
import Derived.ChangeOld
import Derived.ChangeSlices
import Derived.ChangeStays
set_option linter.unusedSimpArgs false
set_option linter.unusedVariables false
set_option maxRecDepth 100000
open Array renaming getElem?_eq_some_iff → zK
open Option.some renaming inj → zy
open Nat renaming le_refl → ze,zero_add → zS,le_of_ble_eq_true → z8
open Decidable renaming not_not → zx,byContradiction → zC
open Int renaming toNat_natCast → zz
open List renaming length → zo,mem_of_getElem? → zt,getElem?_eq_getElem → zu,mem_cons_of_mem → zj,mem_cons_self → zr,eq_nil_of_length_eq_zero → zG,flatten_cons → zW,length_append → zq,length_cons → zi,replicate → zk,getElem?_set → yh,mem_cons → zm,getElem?_eq_some_iff → zw,length_eq_zero_iff → yp,all_eq_true → yf,map_cons → zB,getElem?_append_left → zU,getElem?_append_right → zY,range → yi,mem_range → yZ,append_assoc → zE,drop_eq_nil_of_le → zO,append_nil → zZ,flatten_append → zI,length_nil → zX
variable{a fa ra wa sa ta xa ga ua va qa la ka na ma ha:Go.Vg.O}{l aa fl fc rc wl wc sc tl tc sz b b' k xl xc gl gc ul uc vl vc ql i qc ll lc kl kc nl nc ml mc hl hc o b0 jS:Nat}{H H' G G' H1:Go.Vg.Heap}{K:Go.Vg.KT}{aS e aU ab nx:Int}{xs:List Int}{r args cs vs:List Go.Value}{ms:List Go.Vg.df}{x:Go.Vg.gX}{d:Go.Vg.pj}{n:Go.Vg.ke}{w:Go.Vg.cY}{y v:Go.Value}{q:List Go.Vg.gX}{g f:Go.FuncId}{kb:Go.Vg.KB}{p p':Go.Vg.WA}{w':Go.World}{fE:Go.Vg.xT}{fn:Go.Func}{ac:Bool}{t:Go.TypeId}{m:Go.Vg.df}
namespace Go.Vg
open Go Go.Proofs
open Go.Value renaming int → I, slice → S, bool → B, agg → A, tuple → T, pointer → P, string → bH
open Go.IntKind renaming i64 → Z, wrap → W
open Go.Addr renaming mk → D
open Go.Vg.Bx renaming mk → J
open Go.Vg renaming Next → X, Sp → Y, eZ → YO, i64 → U
open Go.Vg.Heap renaming cell → C
open Int renaming toNat → N
abbrev Lc(l:Nat)(a:O)(e:Heap)(h:List Value):Prop:=
 l=0∨∃i j,a=some (D i j none)/\ba e i j 0 h
theorem Zz{c:Nat}:
 (fV TryzMutsJ Tryz.f164 aa H [.v (S a l c)] [] K)=(
 ∃b,aR Tryz.prog (aI BinOp.eql 25 (Operand.tmp 3) (Operand.const (S none 0 0)) (S a l c) (S none 0 0)) (B b)/\(b=true->K (S none 0 0) [] H)/\(¬b=true->∀(d:Nat)(e:Heap),X aa H e->H d=none->e d=some (ay 152 [])->∃g h:List Value,bg aa e 152 4 (some (D d 0 none)) 0 0 g/\zo h=l*4/\aM h=true/\(Lc l a e h)/\(0+l)*32<=140737488355328/\0+l<=9223372036854775807/\∀(i:O)(j:Nat)(k:Heap),cu aa e k (some (D d 0 none)) 0 i j (0+l)->bg aa k 152 4 i (0+l) j (g++h)->K (S i (0+l) j) [] k)):=by kernel_rfl
theorem ZA{c:Nat}:
 (fV TryzMutsJ Tryz.f165 aa H [.v (S a l c)] [] K)=(
 ∃b,aR Tryz.prog (aI BinOp.eql 26 (Operand.tmp 3) (Operand.const (S none 0 0)) (S a l c) (S none 0 0)) (B b)/\(b=true->K (S none 0 0) [] H)/\(¬b=true->∀(d:Nat)(e:Heap),X aa H e->H d=none->e d=some (ay 97 [])->∃g h:List Value,bg aa e 97 1 (some (D d 0 none)) 0 0 g/\zo h=l*1/\aM h=true/\(Lc l a e h)/\(0+l)*24<=140737488355328/\0+l<=9223372036854775807/\∀(i:O)(j:Nat)(k:Heap),cu aa e k (some (D d 0 none)) 0 i j (0+l)->bg aa k 97 1 i (0+l) j (g++h)->K (S i (0+l) j) [] k)):=by kernel_rfl
theorem ZB{c:Nat}:
 (fV TryzMutsJ Tryz.f166 aa H [.v (S a l c)] [] K)=(
 ∃b,aR Tryz.prog (aI BinOp.eql 97 (Operand.tmp 3) (Operand.const (S none 0 0)) (S a l c) (S none 0 0)) (B b)/\(b=true->K (S none 0 0) [] H)/\(¬b=true->∀(d:Nat)(e:Heap),X aa H e->H d=none->e d=some (ay 3 [])->∃g h:List Value,bg aa e 3 1 (some (D d 0 none)) 0 0 g/\zo h=l*1/\aM h=true/\(Lc l a e h)/\(0+l)*8<=140737488355328/\0+l<=9223372036854775807/\∀(i:O)(j:Nat)(k:Heap),cu aa e k (some (D d 0 none)) 0 i j (0+l)->bg aa k 3 1 i (0+l) j (g++h)->K (S i (0+l) j) [] k)):=by kernel_rfl
theorem ZC{c:Nat}:
 (fV TryzMutsJ Tryz.f171 aa H [.v (S a l c)] [] K)=(
 ∃b,aR Tryz.prog (aI BinOp.eql 38 (Operand.tmp 3) (Operand.const (S none 0 0)) (S a l c) (S none 0 0)) (B b)/\(b=true->K (S none 0 0) [] H)/\(¬b=true->∀(d:Nat)(e:Heap),X aa H e->H d=none->e d=some (ay 58 [])->∃g h:List Value,bg aa e 58 10 (some (D d 0 none)) 0 0 g/\zo h=l*10/\aM h=true/\(Lc l a e h)/\(0+l)*144<=140737488355328/\0+l<=9223372036854775807/\∀(i:O)(j:Nat)(k:Heap),cu aa e k (some (D d 0 none)) 0 i j (0+l)->bg aa k 58 10 i (0+l) j (g++h)->K (S i (0+l) j) [] k)):=by kernel_rfl
theorem vx87{id:Int}{rl:Nat}:
 (fV TryzMutsJ Tryz.f87 aa H [.v (A #[U id,S fa fl fc,S ra rl rc,S wa wl wc,U aS])] [] K)=(
 ∀a b:Nat,Y 163 [S fa fl fc] H fun c d=>∃e g h,c=S e g h/\(X aa H d->Y 164 [S ra rl rc] d fun i j=>∃k l m,i=S k l m/\(X aa d j->Y 165 [S wa wl wc] j fun n o=>∃p q r,(fun w1:LL=>n=S p q r/\(X aa j o->∃(s:LI)(t:LM),s [U 0] o/\∀(u:Int)(v:Heap),X aa H v->s [U u] v->(u<(q:Int)->∃w x,p=some (D w x none)/\0<=u/\u<(q:Int)/\∃y z a1,C v w (x+N u*1)=some (S y z a1)/\Y 166 [S y z a1] v fun b1 c1=>∃d1 e1 f1,b1=S d1 e1 f1/\(X aa v c1->∃g1 h1,p=some (D g1 h1 none)/\0<=u/\u<(q:Int)/\∃i1:KB,c1 g1=some i1/\KB.free i1=true/\aa<=g1/\h1+N u*1+1<=KB.size i1/\∀j1:Heap,kW c1 g1 (h1+N u*1) i1 [S d1 e1 f1] j1->∀k1:Int,k1=W Z (u+1)->w1=w1/\s [U k1] j1/\t [U k1]<t [U u]))/\(¬u<(q:Int)->K (A #[U id,S e g h,S k l m,S p q r,U aS]) [] v))) [[U id,S e g h,S k l m,S p q r,U aS],[U 0,S none 0 0,S none 0 0,S none 0 0,U 0]]))):=by kernel_rfl
theorem ZD{sl:Nat}:
 (fV TryzMutsJ Tryz.f168 aa H [.v (A #[S sa sl sc,S ta tl tc])] [] K)=(
 ∀a b:Nat,Y 169 [S sa sl sc] H fun c d=>∃e g h,c=S e g h/\(X aa H d->Y 169 [S ta tl tc] d fun i j=>∃k l m,i=S k l m/\(X aa d j->K (A #[S e g h,S k l m]) [] j))):=by kernel_rfl
open Go Go.Proofs
theorem HA{c:Nat}{xs:List km}(hx:ob H a l xs)(hl:l<=100000):Sp 164 [.slice a l c] H fun v H'=>∃a n c,v= .slice a n c/\bZ H H' 152 4 a n c (xs.flatMap sj):=by
 refine bh Tryz.func164 (fun _ _=>Zz) fun aa hb=>⟨_,uZ Tryz.underlying25,fun h=>?_,fun h=>?_⟩
 ·obtain rfl:a=none:=by cases a<;>simp at h⊢
  obtain⟨_,rfl⟩:=hx.kC;exact⟨none,0,0,rfl,bZ.zero⟩
 ·intro g H1 fh _ hg;obtain⟨h1,h2,h3⟩:=hx.copied lQ (fun _=>rfl) fh.ext;exact⟨[],_,bg.zero,h1,h2,h3,by omega,by omega,fun a3 c3 H3 hG hR=>⟨_,_,_,rfl,hR.fresh hb⟩⟩
theorem JH{c:Nat}(hx:Sl ft 1 H a l xs)(hl:l<=100000):Sp 166 [.slice a l c] H fun v H'=>∃a n c,v= .slice a n c/\bZ H H' 3 1 a n c (xs.flatMap fun x=>[i64 x]):=by
 refine bh Tryz.func166 (fun _ _=>ZB) fun aa hb=>⟨_,uZ Tryz.underlying97,fun h=>?_,fun h=>?_⟩
 ·obtain rfl:a=none:=by cases a<;>simp at h⊢
  obtain⟨_,rfl⟩:=hx.kC;exact⟨none,0,0,rfl,bZ.zero⟩
 ·intro g H1 fh _ hg;have V2:Sl (gT fun x:Int=>[i64 x]) 1 H a l xs:=hx;obtain⟨h1,h2,h3⟩:=V2.copied (fun x=>show([i64 x]:List Value).length=1 from rfl) (fun x=>show aM [i64 x]=true from rfl) fh.ext;exact⟨[],_,bg.zero,h1,h2,h3,by omega,by omega,fun a3 c3 H3 hG hR=>⟨_,_,_,rfl,hR.fresh hb⟩⟩
theorem Rz{α:Type}{R:jq α}{x:List α}(h:oX R sz H r x):aM r=true:=by
 obtain⟨a,n,c,rfl,_⟩:=h;rfl
theorem RA{α:Type}{R:jq α}{x:List α}(h:oX R sz H r x):r.length=1:=by
 obtain⟨a,n,c,rfl,_⟩:=h;rfl
theorem HB{c:Nat}{ms:List (List Int)}(hx:oc H a l ms)(hl:l<=100000):Sp 165 [.slice a l c] H fun v H'=>∃a n c rs,v= .slice a n c/\bZ H H' 97 1 a n c rs.flatten/\(∀r∈rs,r.length=1)/\dY (oX ft 1) H rs ms:=by
 refine bh Tryz.func165 (fun _ _=>ZA) fun aa hb=>⟨_,uZ Tryz.underlying26,fun h=>?_,fun h=>?_⟩
 ·obtain rfl:a=none:=by cases a<;>simp at h⊢
  obtain⟨_,rfl⟩:=hx.kC;exact⟨none,0,0,[],rfl,bZ.zero,by simp,trivial⟩
 ·intro g H1 fh _ hg;obtain⟨rs,h1,h2,h3,h4⟩:=hx.rows RA;exact⟨[],_,bg.zero,h3,ev Rz h2,h4.imp id (fun⟨b,o,hb,hc⟩=>⟨b,o,hb,fj fh.ext hc⟩),by omega,by omega,fun a3 c3 H3 hG hR=>⟨_,_,_,rs,rfl,hR.fresh hb,h1,h2⟩⟩
theorem dW.len{x:ke}(h:dW H r x):r.length=10:=by obtain⟨q,rfl,_⟩:=h;rfl
theorem dW.one{x:ke}(h:dW H r x):aM r=true:=by obtain⟨q,rfl,_⟩:=h;rfl
theorem JI{c:Nat}{ms:List ke}(hx:BZ H a l ms)(hl:l<=100000):Sp 171 [.slice a l c] H fun v H'=>∃a n c rs,v= .slice a n c/\bZ H H' 58 10 a n c rs.flatten/\(∀r∈rs,r.length=10)/\dY dW H rs ms:=by
 refine bh Tryz.func171 (fun _ _=>ZC) fun aa hb=>⟨_,uZ Tryz.underlying38,fun h=>?_,fun h=>?_⟩
 ·obtain rfl:a=none:=by cases a<;>simp at h⊢
  obtain⟨_,rfl⟩:=hx.kC;exact⟨none,0,0,[],rfl,bZ.zero,by simp,trivial⟩
 ·intro g H1 fh _ hg;obtain⟨rs,h1,h2,h3,h4⟩:=hx.rows dW.len;exact⟨[],_,bg.zero,h3,ev dW.one h2,h4.imp id (fun⟨b,o,hb,hc⟩=>⟨b,o,hb,fj fh.ext hc⟩),by omega,by omega,fun a3 c3 H3 hG hR=>⟨_,_,_,rs,rfl,hR.fresh hb,h1,h2⟩⟩
theorem vA{sl:Nat}(hd:cr H d sa sl sc ta tl tc)(h1:sl<=100000)(h2:tl<=100000):Sp 168 [eB sa sl sc ta tl tc] H fun v H'=>∃sa sl sc ta tl tc,v=eB sa sl sc ta tl tc/\cr (du H H') d sa sl sc ta tl tc:=by
 refine bh Tryz.func168 (fun _ _=>ZD) fun aa hb=>fun b b'=>?_;refine(p7 hd.safe h1).mono fun v H1 e1 hv=>?_;obtain⟨a1,n1,c1,rfl,Mw⟩:=hv;refine⟨a1,n1,c1,rfl,fun fh=>?_⟩;refine(p7 (hd.wait.ext' e1) h2).mono fun v H2 e2 hv=>?_;obtain⟨a2,n2,c2,rfl,Cs⟩:=hv;refine⟨a2,n2,c2,rfl,fun dZ=>?_⟩;exact⟨a1,n1,c1,a2,n2,c2,rfl,Mw.bytes.ext' (rI e2),Cs.bytes.ext' (lE e1),Mw.le,Cs.le⟩
open Go Go.Proofs
theorem bZ.ints{n c:Nat}(h:bZ H H' 3 1 a n c (xs.flatMap fun x=>[i64 x])):Sl ft 1 (du H H') a n xs:=h.pU (sz:=1) (dk:=fun x:Int=>[i64 x]) (fun _=>rfl) (by decide)
theorem HC{c:dM}{rl:Nat}(hc:fB H c fa fl ra rl wa wl)(h1:fl<=100000)(h2:rl<=100000)(h3:wl<=100000)(h4:∀x∈c.bf,x.length<=100000):
  Sp 87 [eN c fa fl fc ra rl rc wa wl wc] H fun v H'=>∃fa fl fc ra rl rc wa wl wc,v=eN c fa fl fc ra rl rc wa wl wc/\fB H' c fa fl ra rl wa wl:=by
 refine bh Tryz.func87 (fun _ _=>vx87) fun aa hb=>fun b b'=>?_;refine(kH hc.pins h1).mono fun v H1 e1 hv=>?_;obtain⟨a1,n1,c1,rfl,Mw⟩:=hv;refine⟨a1,n1,c1,rfl,fun fh=>?_⟩;refine(HA (hc.ext e1).rules h2).mono fun v H2 e2 hv=>?_;obtain⟨a2,n2,c2,rfl,Cs⟩:=hv;refine⟨a2,n2,c2,rfl,fun dZ=>?_⟩;refine(HB (hc.ext (aH.trans e1 e2)).bf h3).mono fun v H3 e3 hv=>?_;obtain⟨a3,n3,c3,rs,rfl,hF3,hw3,hA3⟩:=hv;refine⟨a3,n3,c3,rfl,fun fS=>?_⟩
 have sG:bV (oX ft 1) 1 97 aa H2 H3 a3 n3 c3 rs c.bf:=⟨hF3.row fS,hw3,hA3,fS.ext,fun qY g hg=>by
  rcases hF3.2.2.2 with⟨_,h0⟩|⟨g',k',q1,q2,_⟩
  ·exact absurd h0 qY
  ·rw[hg] at q1;simp at q1;subst q1;exact q2⟩
 have hP:aL H2 a1 n1 c.first.ap:=Mw.pins.ext' e2;have hR:ob H2 a2 n2 c.rules:=Sl.ext gT.mono (Cs.pU lQ (by omega)) ew;refine⟨fun vs H'=>∃(k:Nat)(G:Heap)(rows:List (List Value)),vs=[i64 k]/\k<=n3/\aH H2 G/\bV (oX ft 1) 1 97 aa G H' a3 n3 c3 rows c.bf,aN n3 0,⟨0,H2,rs,rfl,by omega,aH.refl _,sG⟩,fun n4 H4 iC hI=>?_⟩;obtain⟨k,G,rows,cv,hk,hG,hO⟩:=hI;obtain rfl:n4=(k:Int):=by simpa using cv
 obtain⟨r1,r2⟩:=hO.mb (by omega);have hle:(n3:Int)<=9223372036854775807:=(hO.sl (oX.mono ft.mono) (by omega)).le;refine⟨fun bK=>(hO.sl (oX.mono ft.mono) (by omega)).slice (aH.refl _) (by omega) bK fun x a' n' c' hx hS=>?_,fun gj=>?_⟩
 ·rw[zz] at hx;refine(JH (c:=c') hS (by rw[←hS.len];exact h4 x (zt hx))).mono fun v H5 e5 hv=>?_;obtain⟨a5,n5,c5,rfl,UY⟩:=hv;refine⟨a5,n5,c5,rfl,fun kT=>?_⟩;obtain⟨g,kb,sE,B4,qY,Cq,dj,kv,_⟩:=hO.row.block (by omega);have tR:=hO.row.2.1;refine⟨g,0,sE,by omega,bK,kb,e5 _ _ Cq,dj,B4,by rw[kv,zz];omega,fun H6 hu=>?_⟩;rintro r rfl;rw[aj];have Ew:=hO.grow (oX.mono ft.mono) e5;have fH:rows[k]?=some (rows[k]'(by omega)):=zu (by omega);have ZE:(rows[k]'(by omega)).length=1:=hO.wid _ (List.getElem_mem _)
  have tY:oX ft 1 (G.plus (du H4 H5)) (aV (rows[k]'(by omega)) 0 [.slice a5 n5 c5]) x:=by
   rw[oH (by rw[ZE];rfl)];exact⟨a5,n5,c5,rfl,Sl.ext ft.mono UY.ints (ib hO.sub)⟩
  have OJ:=Ew.put (o:=0+Int.toNat (k:Int)*1) fH (off:=0) (vs:=[.slice a5 n5 c5]) (by simp) (by rw[zz];omega) sE qY (e5 _ _ Cq) hu tY;rw[GY hx] at OJ;exact⟨rfl,⟨k+1,_,_,rfl,by omega,aH.trans hG lu,OJ⟩,by simp[aN];omega⟩
 ·exact⟨_,_,_,_,_,_,_,_,_,rfl,(hP.ext' hG).ext' hO.sub,Sl.ext gT.mono hR (aH.trans hG hO.sub),hO.sl (oX.mono ft.mono) (by omega)⟩
open Go Go.Proofs
abbrev Ld(i3:Heap)(p3 aa q3:Nat)(x1:Int)(w2:O)(x2 y2:Nat)(z2 a3:Int)(b3:Bool)(c3:Int)(d3:O)(e3 f3:Nat)(g3:Bool)(m1:O)(n1:Nat)(j3:O)(k3 l3:Nat)(m3:O)(n3 o3:Nat)(w6:LL)(w1:Nat)(u1:NI):Prop:=
 ∃r3:KB,i3 p3=some r3/\KB.free r3=true/\aa<=p3/\q3+N x1*10+7<=KB.size r3/\∀s3:Heap,kW i3 p3 (q3+N x1*10) r3 [S w2 x2 y2,U z2,U a3,B b3,U c3,S d3 e3 f3,B g3] s3->∃t3 u3,m1=some (D t3 u3 none)/\0<=x1/\x1<(n1:Int)/\∃v3:KB,s3 t3=some v3/\KB.free v3=true/\aa<=t3/\u3+N x1*10+7+2<=KB.size v3/\∀w3:Heap,kW s3 t3 (u3+N x1*10+7) v3 [S j3 k3 l3,S m3 n3 o3] w3->∀x3:Int,x3=W Z (x1+1)->w6=w6/\∃y3:Nat,y3<w1/\u1 y3 [U x3] w3
theorem vx90(id aS:Int)(fa ra wa:O)(fl fc rl rc wl wc:Nat)(aU ab nx:Int)(ac:Bool)(la ka:O)(ll lc kl kc:Nat)(sa ta:O)(sl sc tl tc:Nat)(up:Bool)(na ma:O)(nl nc ml mc:Nat)(aa:Nat)(H:Heap)(K:KT):
 (fV TryzMutsK Tryz.f90 aa H [.v (A #[U id,S fa fl fc,S ra rl rc,S wa wl wc,U aS,S la ll lc,U aU,U ab,B ac,S ka kl kc,U nx,S sa sl sc,S ta tl tc,B up,S na nl nc,S ma ml mc])] [] K)=(
 ∀a b:Nat,Y 87 [A #[U id,S fa fl fc,S ra rl rc,S wa wl wc,U aS]] H fun c d=>∃e g h i j k l m n o p,c=A #[U e,S g h i,S j k l,S m n o,U p]/\(X aa H d->Y 170 [A #[S la ll lc,U aU,U ab,B ac,S ka kl kc,U nx]] d fun q r=>∃s t u v w x y z a1 b1,q=A #[S s t u,U v,U w,B x,S y z a1,U b1]/\(X aa d r->Y 168 [A #[S sa sl sc,S ta tl tc]] r fun c1 d1=>∃e1 f1 g1 h1 i1 j1,c1=A #[S e1 f1 g1,S h1 i1 j1]/\(X aa r d1->Y 171 [S na nl nc] d1 fun k1 l1=>∃m1 n1 o1,k1=S m1 n1 o1/\(X aa d1 l1->Y 172 [S ma ml mc] l1 fun p1 q1=>∃r1 s1 t1,(fun w6:LL=>p1=S r1 s1 t1/\(X aa l1 q1->∃(u1:NI)(v1:Nat),u1 v1 [U 0] q1/\∀(w1:Nat)(x1:Int)(y1:Heap),X aa H y1->u1 w1 [U x1] y1->(x1<(n1:Int)->∃z1 a2,m1=some (D z1 a2 none)/\0<=x1/\x1<(n1:Int)/\∃(b2:O)(c2 d2:Nat)(e2 f2:Int)(g2:Bool)(h2:Int)(i2:O)(j2 k2:Nat)(l2:Bool),(fun w5:LV=>∃(m2:O)(n2 o2:Nat)(p2:O)(q2 r2:Nat),(fun w4:LV=>∃s2:Bool,(C y1 z1 (a2+N x1*10)=some (S b2 c2 d2)/\C y1 z1 (a2+N x1*10+1)=some (U e2)/\C y1 z1 (a2+N x1*10+2)=some (U f2)/\C y1 z1 (a2+N x1*10+3)=some (B g2)/\C y1 z1 (a2+N x1*10+4)=some (U h2)/\C y1 z1 (a2+N x1*10+5)=some (S i2 j2 k2)/\C y1 z1 (a2+N x1*10+6)=some (B l2)/\C y1 z1 (a2+N x1*10+7)=some (S m2 n2 o2)/\C y1 z1 (a2+N x1*10+8)=some (S p2 q2 r2)/\C y1 z1 (a2+N x1*10+9)=some (B s2)/\True)/\∀t2:Nat,(Y 173 w5 y1 fun u2 v2=>∃w2 x2 y2 z2 a3 b3 c3 d3 e3 f3 g3,u2=A #[S w2 x2 y2,U z2,U a3,B b3,U c3,S d3 e3 f3,B g3]/\(X aa y1 v2->Y 168 w4 v2 fun h3 i3=>∃j3 k3 l3 m3 n3 o3,h3=A #[S j3 k3 l3,S m3 n3 o3]/\(X aa v2 i3->∃p3 q3,m1=some (D p3 q3 none)/\0<=x1/\x1<(n1:Int)/\Ld i3 p3 aa q3 x1 w2 x2 y2 z2 a3 b3 c3 d3 e3 f3 g3 m1 n1 j3 k3 l3 m3 n3 o3 w6 w1 u1)))/\Y 173 w5 y1 fun u2 v2=>∃w2 x2 y2 z2 a3 b3 c3 d3 e3 f3 g3,u2=A #[S w2 x2 y2,U z2,U a3,B b3,U c3,S d3 e3 f3,B g3]/\(X aa y1 v2->(Y 168 w4 v2 fun
 h3 i3=>∃j3 k3 l3 m3 n3 o3,h3=A #[S j3 k3 l3,S m3 n3 o3]/\(X aa v2 i3->∃p3 q3,m1=some (D p3 q3 none)/\0<=x1/\x1<(n1:Int)/\Ld i3 p3 aa q3 x1 w2 x2 y2 z2 a3 b3 c3 d3 e3 f3 g3 m1 n1 j3 k3 l3 m3 n3 o3 w6 w1 u1))/\Y 168 w4 v2 fun h3 i3=>∃j3 k3 l3 m3 n3 o3,h3=A #[S j3 k3 l3,S m3 n3 o3]/\(X aa v2 i3->∃p3 q3,m1=some (D p3 q3 none)/\0<=x1/\x1<(n1:Int)/\(Ld i3 p3 aa q3 x1 w2 x2 y2 z2 a3 b3 c3 d3 e3 f3 g3 m1 n1 j3 k3 l3 m3 n3 o3 w6 w1 u1)/\Ld i3 p3 aa q3 x1 w2 x2 y2 z2 a3 b3 c3 d3 e3 f3 g3 m1 n1 j3 k3 l3 m3 n3 o3 w6 w1 u1))) [A #[S m2 n2 o2,S p2 q2 r2]]) [A #[S b2 c2 d2,U e2,U f2,B g2,U h2,S i2 j2 k2,B l2]])/\(¬x1<(n1:Int)->K (A #[U e,S g h i,S j k l,S m n o,U p,S s t u,U v,U w,B x,S y z a1,U b1,S e1 f1 g1,S h1 i1 j1,B up,S m1 n1 o1,S r1 s1 t1]) [] y1))) [[U e,S g h i,S j k l,S m n o,U p,S s t u,U v,U w,B x,S y z a1,U b1,S e1 f1 g1,S h1 i1 j1,B up,S m1 n1 o1,S r1 s1 t1],[U 0,S none 0 0,S none 0 0,S none 0 0,U 0,S none 0 0,U 0,U 0,B false,S none 0 0,U 0,S none 0 0,S none 0 0,B false,S none 0 0,S none 0 0]]))))):=by kernel_rfl
open Go
theorem RB{y:cY}(h:bO w x= .ok y):bA w (x::q)=((bA y q).1,0::(bA y q).2):=by
 conv=>lhs;unfold bA
 rw[h]
theorem Pt(h:bO w x= .error e):bA w (x::q)=((bA w q).1,e::(bA w q).2):=by
 conv=>lhs;unfold bA
 rw[h]
theorem cU.run:∀ {l:List gX} {w:cY},cU w->cU (bA w l).1
 | [],w,h=>h
 |x::q,w,h=>by
  cases hx:bO w x with
  |ok y=>rw[RB hx];exact cU.run (h.Fj hx).ok
  |error e=>rw[Pt hx];exact cU.run h
open Go
def Ahead(w:cY)(j:Int):Prop:=∀(o:Nat)(b:Kn),w.h.l.bX[o]?=some b->lB w.c.bf o<j->b.st=2∨b.st=3
theorem Le:∀ {ws:List (List Int)},(∀w∈ws,w≠[])->ws.length<=ws.flatten.length
 | [],_=>by simp
 |w::r,h=>by
  have ih:=Le (ws:=r) fun x hx=>h x (zj _ hx);have h0:w.length≠0:=fun e=>h w zr (zG e);simp only[zW,zq,zi];omega
open Go
structure JJ where
 a:lS
 rs:List bD
 up:Bool
structure nj where
 c:dM
 l:jh
 rs:List bD
 up:Bool
 n:List JJ
 m:List df
def Dl(s:nj)(r:bD):Except Int nj:=if bU s.c s.l r≠0 then .error (bU s.c s.l r) else .ok { s with l:=bM s.l r,rs:=s.rs++[r] }
def Dm(s:nj)(k:Nat)(r:bD):Except Int nj:=
 match s.n[k]? with
 |none=> .error 5
 |some n=>if bw n.a r≠0 then .error (bw n.a r) else .ok { s with n:=s.n.set k ⟨bW n.a r,n.rs++[r],n.up⟩ }
def HD(s:nj)(m:df):nj:=if iM s.m m=0 then{ s with m:=u7 s.m m } else s
def vB(s:nj)(k:Nat):nj:=
 match s.n[k]? with
 |none=>s
 |some n=>HD s (eQ k n.a)
def Pu(s:nj)(x:gX):Except Int nj:=
 if dU s.c s.l x.ah≠0 then .error (dU s.c s.l x.ah) else
 if x.ae=4 then
  (match s.l.bX[x.ah.toNat]? with
   |none=> .error 5
   |some a=>if a.st≠1∨a.ac≠s.l.ac then .error 7 else .ok (HD s ⟨x.ah,a.au,false,false,ez s.c s.l x.ah⟩))
 else match Dl s ⟨6,x.ah,s.l.nx,0,false,⟨0,[]⟩⟩ with
  | .error e=> .error e
  | .ok y=> .ok (HD y ⟨x.ah,s.l.nx,false,false,ez s.c s.l x.ah⟩)
def Pv(s:nj)(x:gX)(n:JJ):Except Int nj:=
 if n.a.going=false then .error 7 else
 if cT n.a≠0 then .error (cT n.a) else
 if cy n.a≠[] then Dm s x.ah.toNat ⟨2,0,n.a.au,0,false,⟨0,[]⟩⟩ else
 match Dm s x.ah.toNat ⟨3,0,n.a.au,0,x.aP,⟨0,[]⟩⟩ with
 | .error e=> .error e
 | .ok y=> .ok (vB y x.ah.toNat)
def EV(s:nj):Except Int nj->nj
 | .ok y=>y
 | .error _=>s
def Pw(s:nj)(x:gX):Except Int nj:=
 if dz s.m x.cj≠0 then .error (dz s.m x.cj) else
 match s.n[(dw s.m x.cj).ah.toNat]? with
 |none=> .error 5
 |some n=>
  if((dw s.m x.cj).rep=true/\s.up=false)∨((dw s.m x.cj).rep=false/\n.up=false) then .error 7 else
  let s1:nj:= { s with m:=left s.m x.cj (decide (x.ae=10)) }
  if(dw s.m x.cj).rep=true then .ok (EV s1 (Dl s1 ⟨7,(dw s.m x.cj).ah,(dw s.m x.cj).au,0,(dw s.m x.cj).aP,⟨0,[]⟩⟩)) else
  if(dw s.m x.cj).au=n.a.au/\n.a.going=false then .ok (vB s1 (dw s.m x.cj).ah.toNat) else
  .ok (EV s1 (Dm s1 (dw s.m x.cj).ah.toNat ⟨1,0,(dw s.m x.cj).au,0,false,(dw s.m x.cj).cB⟩))
def JK(s:nj)(x:gX):Except Int nj:=
 if x.ah<0 then
  (if s.up=decide (x.ae=13) then .error 7 else
   match aB s.c (if x.ae=12 then [] else s.rs) with
   | .error e=> .error e
   | .ok l=> .ok { s with l:=l,up:= !s.up })
 else match s.n[x.ah.toNat]? with
  |none=> .error 5
  |some n=>
   if n.up=decide (x.ae=13) then .error 7 else
   match az s.c.first (if x.ae=12 then [] else n.rs) with
   | .error e=> .error e
   | .ok a=> .ok { s with n:=s.n.set x.ah.toNat ⟨a,n.rs,!n.up⟩ }
def EW(s:nj)(x:gX):bD:=
 if x.ae=1 then⟨4,0,0,0,false,⟨s.l.bJ.length+1,x.ap⟩⟩ else
 if x.ae=2 then⟨5,0,0,x.cj,false,⟨0,[]⟩⟩ else
 if x.ae=5 then⟨8,0,0,0,false,⟨0,[]⟩⟩ else⟨9,0,0,0,false,⟨0,[]⟩⟩
def RC(s:nj)(x:gX):Except Int nj:=
 if x.ae=9∨x.ae=10 then Pw s x else
 if x.ae=11 then(if dz s.m x.cj≠0 then .error (dz s.m x.cj) else .ok { s with m:=left s.m x.cj false }) else
 if x.ae=1∨x.ae=2∨x.ae=5∨x.ae=6 then(if s.up=false then .error 7 else Dl s (EW s x)) else
 if x.ae<1∨13<x.ae then .error 4 else
 if(s.n.length:Int)<=x.ah∨(x.ah<0/\x.ae≠12/\x.ae≠13) then .error 5 else
 if x.ae=3∨x.ae=4 then(if s.up=false then .error 7 else Pu s x) else
 if x.ae=12∨x.ae=13 then JK s x else
 match s.n[x.ah.toNat]? with
 |none=> .error 5
 |some n=>
  if n.up=false then .error 7 else
  if x.ae=7 then Pv s x n else
  if n.a.going=true∨n.a.au=0 then .error 7 else .ok (vB s x.ah.toNat)
def kR:nj->List gX->nj×List Int
 |s,[]=>(s,[])
 |s,x::q=>match RC s x with
  | .ok y=>((kR y q).1,0::(kR y q).2)
  | .error e=>((kR s q).1,e::(kR s q).2)
def vC(c:dM):nj:=⟨c,dC c,[],true,zk (bo c.bf).toNat ⟨iF c.first,[],true⟩,[]⟩
structure JL(b:Nat)(n:ke)(q:JJ):Prop where
 a:n.a=q.a
 d:De n.d q.rs
 len:q.rs.length<=b
 up:n.up=q.up
structure fu(b:Nat)(w:cY)(s:nj):Prop where
 c:w.c=s.c
 l:w.h.l=s.l
 d:De w.h.d s.rs
 len:s.rs.length<=b
 up:w.h.up=s.up
 n:w.n.length=s.n.length
 ck:∀(k:Nat)(n:ke)(q:JJ),w.n[k]?=some n->s.n[k]?=some q->JL b n q
 m:w.m=s.m
def both(R:cY->nj->Prop):Except Int cY->Except Int nj->Prop
 | .ok w,.ok s=>R w s
 | .error e,.error f=>e=f
 |_,_=>False
theorem JL.mono{q:JJ}(h:JL b n q)(hb:b<=b'):JL b' n q:=⟨h.a,h.d,Nat.le_trans h.len hb,h.up⟩
theorem fu.mono{s:nj}(h:fu b w s)(hb:b<=b'):fu b' w s:=⟨h.c,h.l,h.d,Nat.le_trans h.len hb,h.up,h.n,fun k n q h1 h2=>(h.ck k n q h1 h2).mono hb,h.m⟩
theorem both.mono{R R':cY->nj->Prop}(h:∀w s,R w s->R' w s):∀ {x:Except Int cY} {y:Except Int nj},both R x y->both R' x y
 | .ok _,.ok _,k=>h _ _ k
 | .error _,.error _,k=>k
theorem fu.node{s:nj}(h:fu b w s)(k:Nat):(w.n[k]?=none/\s.n[k]?=none)∨ ∃n q,w.n[k]?=some n/\s.n[k]?=some q/\JL b n q:=by
 have hn:=h.n;rcases Nat.lt_or_ge k w.n.length with hk|hk
 ·refine .inr ⟨w.n[k],s.n[k]'(by omega),zu hk,zu (by omega),h.ck k _ _ (zu hk) (zu (by omega))⟩
 ·exact .inl ⟨List.getElem?_eq_none hk,List.getElem?_eq_none (by omega)⟩
theorem De.room{rs:List bD}{r:bD}(h:De d rs)(hl:rs.length<=b)(hb:b<=100)(hr:bC r=0):∃x,aY d r= .ok x/\De x (rs++[r]):=
 EL h hr (by omega) (by have:=EB h.recs;omega)
theorem JM{c:dM}{l:jh}{r:bD}(h:bU c l r=0):bC r=0:=by
 unfold bU at h;split at h
 ·omega
 ·split at h
  ·omega
  ·omega
theorem fu.lead{s:nj}(h:fu b w s)(hb:b<=100)(r:bD):both (fu (b+1)) (eJ w r) (Dl s r):=by
 unfold eJ Dl;rw[h.c,h.l];by_cases he:bU s.c s.l r≠0
 ·rw[pI he,pI he];rfl
 ·rw[nI he,nI he];obtain⟨x,hx,hd⟩:=h.d.room h.len hb (JM (zx.1 he));rw[hx];exact⟨rfl,rfl,hd,by have:=h.len;simp;omega,h.up,h.n,fun k n q h1 h2=>(h.ck k n q h1 h2).mono (by omega),h.m⟩
theorem fu.set{s:nj}(h:fu b w s)(hb:b<=b'){q:JJ}(hr:JL b' n q):fu b' { w with n:=w.n.set k n } { s with n:=s.n.set k q } :=by
 have hn:=h.n;refine⟨h.c,h.l,h.d,Nat.le_trans h.len hb,h.up,by simp[hn],fun j x y h1 h2=>?_,h.m⟩;have h1:(w.n.set k n)[j]?=some x:=h1;have h2:(s.n.set k q)[j]?=some y:=h2;rw[yh] at h1 h2;by_cases hj:k=j
 ·rw[pI hj] at h1 h2;simp only[Option.ite_none_right_eq_some,Option.some.injEq] at h1 h2;rw[←h1.2,←h2.2];exact hr
 ·rw[nI hj] at h1 h2;exact(h.ck j x y h1 h2).mono hb
theorem fu.s0{s:nj}(h:fu b w s)(hb:b<=100)(k:Nat)(r:bD):both (fu (b+1)) (gq w k r) (Dm s k r):=by
 unfold gq Dm;rcases h.node k with⟨h1,h2⟩|⟨n,q,h1,h2,hr⟩
 ·rw[h1,h2];rfl
 ·rw[h1,h2];dsimp only;unfold dV;rw[hr.a];by_cases he:bw q.a r≠0
  ·rw[pI he,pI he];rfl
  ·rw[nI he,nI he];have he:=zx.1 he;obtain⟨x,hx,hd⟩:=hr.d.room hr.len hb (Df he).2.1;rw[hx];exact h.set (by omega) ⟨rfl,hd,by have:=hr.len;simp;omega,hr.up⟩
theorem fu.post{s:nj}(h:fu b w s)(m:df):fu b (gL w m) (HD s m):=by
 unfold gL HD;rw[h.m];split
 ·exact⟨h.c,h.l,h.d,h.len,h.up,h.n,h.ck,rfl⟩
 ·exact h
theorem fu.report{s:nj}(h:fu b w s)(k:Nat):fu b (eK w k) (vB s k):=by
 unfold eK vB;rcases h.node k with⟨h1,h2⟩|⟨n,q,h1,h2,hr⟩
 ·rw[h1,h2];exact h
 ·rw[h1,h2];dsimp only;rw[hr.a];exact h.post _
theorem fu.cZ{s:nj}(h:fu b w s)(l:List df):fu b { w with m:=l } { s with m:=l } :=⟨h.c,h.l,h.d,h.len,h.up,h.n,h.ck,rfl⟩
theorem both.fU{s:nj}{x:Except Int cY}{y:Except Int nj}(h:both (fu (b+1)) x y)(hs:fu (b+1) w s):fu (b+1) (fU w x) (EV s y):=by
 cases x<;>cases y
 ·exact hs
 ·exact h.elim
 ·exact h.elim
 ·exact h
theorem fu.tell{s:nj}(h:fu b w s)(hb:b<=100)(x:gX):both (fu (b+1)) (iz w x) (Pu s x):=by
 unfold iz Pu;rw[h.c,h.l];by_cases he:dU s.c s.l x.ah≠0
 ·rw[pI he,pI he];rfl
 rw[nI he,nI he];by_cases hk:x.ae=4
 ·rw[pI hk,pI hk]
  cases s.l.bX[x.ah.toNat]? with
  |none=>rfl
  |some a=>
   dsimp only;split
   ·rfl
   ·exact(h.post _).mono (by omega)
 ·rw[nI hk,nI hk];have hl:=h.lead hb ⟨6,x.ah,s.l.nx,0,false,⟨0,[]⟩⟩
  revert hl
  cases eJ w ⟨6,x.ah,s.l.nx,0,false,⟨0,[]⟩⟩<;>cases Dl s ⟨6,x.ah,s.l.nx,0,false,⟨0,[]⟩⟩<;>intro hl
  ·exact hl
  ·exact hl.elim
  ·exact hl.elim
  ·exact fu.post hl _
theorem fu.step{s:nj}(h:fu b w s)(hb:b<=100)(x:gX){q:JJ}(hr:JL b n q):both (fu (b+1)) (js w x n) (Pv s x q):=by
 unfold js Pv;rw[hr.a];split
 ·rfl
 split
 ·rfl
 split
 ·exact h.s0 hb _ _
 ·have hl:=h.s0 hb x.ah.toNat ⟨3,0,q.a.au,0,x.aP,⟨0,[]⟩⟩
  revert hl
  cases gq w x.ah.toNat ⟨3,0,q.a.au,0,x.aP,⟨0,[]⟩⟩<;>cases Dm s x.ah.toNat ⟨3,0,q.a.au,0,x.aP,⟨0,[]⟩⟩<;>intro hl
  ·exact hl
  ·exact hl.elim
  ·exact hl.elim
  ·exact fu.report hl _
theorem fu.hear{s:nj}(h:fu b w s)(hb:b<=100)(x:gX):both (fu (b+1)) (mm w x) (Pw s x):=by
 unfold mm Pw;rw[h.m,h.up];split
 ·rfl
 rcases h.node (dw s.m x.cj).ah.toNat with⟨h1,h2⟩|⟨n,q,h1,h2,hr⟩
 ·rw[h1,h2];rfl
 rw[h1,h2];dsimp only;rw[hr.up,hr.a];split
 ·rfl
 have h1:=h.cZ (left s.m x.cj (decide (x.ae=10)));split
 ·exact both.fU (h1.lead hb _) (h1.mono (by omega))
 split
 ·exact(h1.report _).mono (by omega)
 ·exact both.fU (h1.s0 hb _ _) (h1.mono (by omega))
theorem fu.G9{s:nj}(h:fu b w s)(x:gX):both (fu (b+1)) (fL w x) (JK s x):=by
 unfold fL JK;split
 ·rw[h.up];split
  ·rfl
  obtain⟨e1,e2,e3,_⟩:=h.d.err;rw[nI (by omega),e2,e3,h.c]
  cases aB s.c (if x.ae=12 then [] else s.rs) with
  |error e=>rfl
  |ok l=>
   refine⟨rfl,rfl,?_,by have:=h.len;show s.rs.length<=_;omega,rfl,h.n,fun k n q h1 h2=>(h.ck k n q h1 h2).mono (by omega),h.m⟩
   show De (if x.ae=12 then w.h.d else w.h.d) s.rs
   rw[ite_self];exact h.d
 ·rcases h.node x.ah.toNat with⟨h1,h2⟩|⟨n,q,h1,h2,hr⟩
  ·rw[h1,h2];rfl
  rw[h1,h2];dsimp only;rw[hr.up];split
  ·rfl
  obtain⟨e1,e2,e3,_⟩:=hr.d.err;rw[nI (show¬bj n.d≠0 by omega),e2,e3,h.c]
  cases az s.c.first (if x.ae=12 then [] else q.rs) with
  |error e=>rfl
  |ok l=>
   have hs:=h.set (b':=b+1) (k:=x.ah.toNat) (n:=⟨l,if x.ae=12 then n.d else n.d,!q.up⟩) (q:=⟨l,q.rs,!q.up⟩) (by omega) ⟨rfl,by
    show De (if x.ae=12 then n.d else n.d) q.rs
    rw[ite_self];exact hr.d,by have:=hr.len;show q.rs.length<=_;omega,rfl⟩
   rw[h.c] at hs;exact hs
theorem fu.Fj{s:nj}(h:fu b w s)(hb:b<=100)(x:gX):both (fu (b+1)) (bO w x) (RC s x):=by
 unfold bO RC;have hrec:lK w x=EW s x:=by unfold lK EW;rw[h.l]
 rw[h.m,h.up,h.n,hrec];split
 ·exact h.hear hb x
 split
 ·split
  ·rfl
  ·exact(h.cZ _).mono (by omega)
 split
 ·split
  ·rfl
  ·exact h.lead hb _
 split
 ·rfl
 split
 ·rfl
 split
 ·split
  ·rfl
  ·exact h.tell hb x
 split
 ·exact h.G9 x
 rcases h.node x.ah.toNat with⟨h1,h2⟩|⟨n,q,h1,h2,hr⟩
 ·rw[h1,h2];rfl
 rw[h1,h2];dsimp only;rw[hr.up];split
 ·rfl
 split
 ·exact h.step hb x hr
 rw[hr.a];split
 ·rfl
 ·exact(h.report _).mono (by omega)
theorem fu.run:∀ {l:List gX} {b:Nat} {w:cY} {s:nj},fu b w s->b+l.length<=100->fu (b+l.length) (bA w l).1 (kR s l).1/\(bA w l).2=(kR s l).2
 | [],b,w,s,h,hb=>⟨h,rfl⟩
 |x::q,b,w,s,h,hb=>by
  simp only[zi] at hb⊢;have hx:=h.Fj (by omega) x;unfold bA kR
  revert hx
  cases bO w x<;>cases RC s x<;>intro hx
  ·have hx:_=_:=hx;subst hx;obtain⟨h1,h2⟩:=fu.run (l:=q) h (by omega);exact⟨h1.mono (by omega),by show _::_=_::_;rw[h2]⟩
  ·exact hx.elim
  ·exact hx.elim
  ·obtain⟨h1,h2⟩:=fu.run (l:=q) (show fu (b+1) _ _ from hx) (by omega);exact⟨h1.mono (by omega),by show(0:Int)::_=0::_;rw[h2]⟩
theorem MF(c:dM):fu 0 (ek c) (vC c):=by
 refine⟨rfl,rfl,De.nil,ze _,rfl,by simp[ek,vC],fun k n q h1 h2=>?_,rfl⟩;obtain rfl:=List.eq_of_mem_replicate (zt h1);obtain rfl:=List.eq_of_mem_replicate (zt h2);exact⟨rfl,De.nil,ze _,rfl⟩
def Ex(ae k:Int):gX:=⟨ae,k,0,true,[]⟩
def B5(k:Int):List gX:=[Ex 3 k,Ex 9 0,Ex 7 k,Ex 7 k,Ex 7 k,Ex 9 0]
def mH:List gX:=[⟨1,0,0,false,s2.ap⟩,⟨2,0,2,false,[]⟩,Ex 3 0]++B5 1++B5 0++B5 2++[Ex 6 0]
open Go
theorem uC{α:Type}{ws:List (List α)}{x:List α}(h:x∈ws):x.length<=ws.flatten.length:=by
 induction ws with
 |nil=>cases h
 |cons w r ih=>
  simp only[zW,zq];rcases zm.1 h with rfl|h
  ·omega
  ·have:=ih h;omega
theorem xJ{ws:List (List Int)}{k:Int}(h:dq ws k=0):ws.length<=6/\∀x∈ws,x.length<=6:=by
 have h5:=(fk h).2.2.2.2;unfold dq at h;split at h
 ·cases h
 ·split at h
  ·cases h
  ·have h1:=(pT (by omega) ws (Af _) h).2.1;have hf:=Le h5;simp only[List.nil_append] at h1;exact⟨by omega,fun x hx=>by have:=uC hx;omega⟩
theorem Dn(h:bj d=0):d.safe.length<=100000/\d.wait.length<=100000:=by
 obtain⟨h1,h2,_⟩:=fm h;omega
theorem cU.TA(h:cU w):(w.c.first.ap.length<=100000/\w.c.rules.length<=100000/\w.c.bf.length<=100000/\∀x∈w.c.bf,x.length<=100000)/\(w.h.l.bJ.length<=100000/\w.h.l.bX.length<=100000/\∀m∈w.h.l.bJ,m.ap.length<=100000)/\
  (w.h.d.safe.length<=100000/\w.h.d.wait.length<=100000)/\(w.n.length<=100000/\∀n∈w.n,cT n.a=0/\n.d.safe.length<=100000/\n.d.wait.length<=100000)/\(w.m.length<=100000/\∀m∈w.m,m.cB.ap.length<=100000):=by
 obtain⟨c1,c2,c3,c4,c5,c6,c7⟩:=dv h.iw;obtain⟨b1,b2,b3⟩:=iV.1 c5;obtain⟨w1,w2⟩:=xJ c7;have w3:=(fk c7)
 obtain⟨_,l1⟩:=vv h.head.log;have f:=sJ l1;have hlen:=h.len;have hm:=cM.1 h.cZ;refine⟨⟨by omega,by omega,by omega,fun x hx=>by have:=w2 x hx;omega⟩,⟨by have:=f.many;omega,by have:=(sI l1).1;omega,fun m hm=>?_⟩,Dn h.head.rN,⟨by omega,fun n hn=>?_⟩,by omega,fun m hx=>?_⟩
 ·obtain⟨k,hk⟩:=List.getElem?_of_mem hm;have:=(f.ids k m hk).2.2;omega
 ·have hn:=h.node n hn;exact⟨(vw hn.log).2,Dn hn.rN⟩
 ·have hx:=hm.2 m hx;by_cases hr:m.rep=true
  ·have h2:=hx.2.1;unfold iL je at h2;have:m.cB.ap=[]:=zC fun eE=>h2 (.inl ⟨hr,fun hh=>eE hh.2⟩);rw[this];simp
  ·have:=(ey (hx.2.2 (by simpa using hr))).2.2;omega
open Go Go.Proofs
theorem bV.grown{α:Type}{R:jq α}(hR:R.oW){e:TypeId}{n c:Nat}{rows:List (List Value)}{xs:List α}(h:bV R sz e aa G H a n c rows xs)(g:Grown G H G' H'):bV R sz e aa G' H' a n c rows xs:=
 ⟨h.row.ext g.cR,h.wid,h.all.mono hR g.ext,g.sub,fun hc b hb=>by
  cases hg:G' b with
  |none=>rfl
  |some k=>
   have h1:=g.im b k hg (h.clear hc b hb);obtain⟨b',k',h2,h3⟩:=h.block hc;rw[hb] at h2;simp at h2;subst h2
   rw[h1] at h3;cases h3⟩
theorem bV.nodeAt{n c:Nat}{rows:List (List Value)}{xs:List ke}(h:bV dW 10 58 aa G H a n c rows xs){x:ke}(hx:xs[k]?=some x):
  ∃(b:Nat)(kb:KB)(q:NA),a=some ⟨b,0,none⟩/\aa<=b/\c≠0/\H b=some kb/\kb.free=true/\k<n/\k*10+10<=kb.size/\rows[k]?=some (bR x q)/\kP G x q/\∀j v,(bR x q)[j]?=some v->H.cell b (k*10+j)=some v:=
 mE.node (w:=⟨⟨⟨0,[]⟩,[],[],0⟩,⟨⟨[],0,0,false,[],0⟩,⟨[],[]⟩,false⟩,xs,[]⟩) (p:=⟨none,0,0,none,0,0,none,0,0,none,0,0,none,0,0,none,0,0,none,0,0,a,n,c,none,0,0⟩) ⟨⟨⟨Sl.nil,Sl.nil,Sl.nil⟩,⟨Sl.nil,Sl.nil⟩,⟨Sl.nil,Sl.nil,ze _,ze _⟩,Sl.nil,ze _⟩,h⟩ hx
structure Vm(H G H':Heap)(w:cY)(p:WA)(rows:List (List Value)):Prop where
 parts:lh G w p
 row:bZ H H' 58 10 p.na p.nl p.nc rows.flatten
 wid:∀r∈rows,r.length=10
 all:dY dW G rows w.n
 sub:aH G H'
 clear:p.nc≠0->∀g,p.na=some ⟨g,0,none⟩->G g=none
theorem Vm.own{aa:Nat}{H G H':Heap}{w:cY}{p:WA}{rows:List (List Value)}(h:Vm H G H' w p rows)(hN:Next aa H H'):mE aa G H' w p rows:=⟨h.parts,h.row.row hN,h.wid,h.all,h.sub,h.clear⟩
theorem vD{H4:Heap}{n c:Nat}{rows:List (List Value)}{xs:List ke}(hO:bV dW 10 58 aa G H4 a n c rows xs){x:ke}{q:NA}(fH:rows[k]?=some (bR x q))(hx:xs[k]?=some x)(hq:kP G x q){g:Nat}
  (sE:a=some ⟨g,0,none⟩) (qY:c≠0) (Cq:H4 g=some kb) (dj:kb.free=true) (B4:aa<=g) (gJ:k*10+10<=kb.size)   (p1:aL G xa xl x.a.ap) (p2:aL G ga gl x.a.ab.ap)
    (hD:cr G x.d ua ul uc va vl vc) (bK:k<n) {F:Heap->Prop} (hF:∀H6 rows',bV dW 10 58 aa G H6 a n c rows' xs->F H6):
  ∃(kk:KB),H4 g=some kk/\KB.free kk=true/\aa<=g/\0+Int.toNat (k:Int)*10+7<=KB.size kk/\∀(H5:Heap),kW H4 g (0+Int.toNat (k:Int)*10) kk [.slice xa xl xc,.int .i64 x.a.ck,.int .i64 x.a.au,.bool x.a.going,.int .i64 x.a.ab.id,.slice ga gl gc,.bool x.a.aP] H5->
   ∃(b9 o:Nat),a=some ⟨b9,o,none⟩/\0<=(k:Int)/\(k:Int)<(n:Int)/\∃(k2:KB),H5 b9=some k2/\KB.free k2=true/\aa<=b9/\o+Int.toNat (k:Int)*10+7+2<=KB.size k2/\∀(H6:Heap),kW H5 b9 (o+Int.toNat (k:Int)*10+7) k2 [.slice ua ul uc,.slice va vl vc] H6->F H6:=by
 refine⟨kb,Cq,dj,B4,by rw[zz];omega,fun H5 hu5=>⟨g,0,sE,by omega,by omega,_,hu5.here,dj,B4,by rw[zz];show 0+k*10+7+2<=kb.size;omega,fun H6 hu6=>?_⟩⟩;have qu:=(zw.1 fH).1;have h5:=hO.put (o:=0+Int.toNat (k:Int)*10) fH (off:=0) (vs:=[.slice xa xl xc,.int .i64 x.a.ck,.int .i64 x.a.au,.bool x.a.going,.int .i64 x.a.ab.id,.slice ga gl gc,.bool x.a.aP]) (by simp) (by rw[zz];omega) sE qY Cq hu5 (dW.Zq hq (a:=x.a) p1 p2)
 have nz:(rows.set k (aV (bR x q) 0 [.slice xa xl xc,.int .i64 x.a.ck,.int .i64 x.a.au,.bool x.a.going,.int .i64 x.a.ab.id,.slice ga gl gc,.bool x.a.aP]))[k]?=some (bR x { q with xa:=xa,xl:=xl,xc:=xc,ga:=ga,gl:=gl,gc:=gc }):=by
  rw[yh,pI rfl,pI qu];rfl
 have h6:=h5.put (o:=0+Int.toNat (k:Int)*10+7) nz (off:=7) (vs:=[.slice ua ul uc,.slice va vl vc]) (by simp) (by rw[zz];omega) sE qY hu5.here hu6 (dW.Zr (x:=x) (q:= { q with xa:=xa,xl:=xl,xc:=xc,ga:=ga,gl:=gl,gc:=gc }) ⟨p1,p2,hq.iD⟩ (d:=x.d) hD);simp only[List.set_set] at h6;have e:xs.set k ({ x with d:=x.d } :ke)=xs:=GY hx;rw[e] at h6;exact hF _ _ h6
theorem bS.ZF{P:Program}{c:dM}(h:bS P f args H fun v H'=>∃fa fl fc ra rl rc wa wl wc,v=eN c fa fl fc ra rl rc wa wl wc/\fB H' c fa fl ra rl wa wl){G:Int->O->Nat->Nat->O->Nat->Nat->O->Nat->Nat->Int->Heap->Prop}
  (hG:∀fa fl fc ra rl rc wa wl wc H',aH H H'->Vg.Next aa H H'->fB H' c fa fl ra rl wa wl->G c.first.id fa fl fc ra rl rc wa wl wc c.aS H'):
  bS P f args H fun v H'=>∃(n:Int)(fa:O)(fl fc:Nat)(ra:O)(rl rc:Nat)(wa:O)(wl wc:Nat)(m:Int),v= .agg #[.int .i64 n,.slice fa fl fc,.slice ra rl rc,.slice wa wl wc,.int .i64 m]/\(Vg.Next aa H H'->G n fa fl fc ra rl rc wa wl wc m H'):=
 h.mono fun v H' ex hv=>by
  obtain⟨fa,fl,fc,ra,rl,rc,wa,wl,wc,h1,h2⟩:=hv;exact⟨_,_,_,_,_,_,_,_,_,_,_,h1,fun hN=>hG _ _ _ _ _ _ _ _ _ H' ex hN h2⟩
theorem bS.dsk1{P:Program}{Q:O->Nat->Nat->O->Nat->Nat->Heap->Prop}(h:bS P f args H fun v H'=>∃sa sl sc ta tl tc,v=eB sa sl sc ta tl tc/\Q sa sl sc ta tl tc H'){G:O->Nat->Nat->O->Nat->Nat->Heap->Prop}
  (hG:∀sa sl sc ta tl tc H',aH H H'->Vg.Next aa H H'->Q sa sl sc ta tl tc H'->G sa sl sc ta tl tc H'):
  bS P f args H fun v H'=>∃(sa:O)(sl sc:Nat)(ta:O)(tl tc:Nat),v= .agg #[.slice sa sl sc,.slice ta tl tc]/\(Vg.Next aa H H'->G sa sl sc ta tl tc H'):=
 h.mono fun v H' ex hv=>by
  obtain⟨sa,sl,sc,ta,tl,tc,h1,h2⟩:=hv;exact⟨_,_,_,_,_,_,h1,fun hN=>hG _ _ _ _ _ _ H' ex hN h2⟩
theorem bZ.ZG{e:TypeId}{n c:Nat}{xs:List Value}(h:bZ H H' e sz a n c xs):bg 0 H' e sz a n c xs:=
 ⟨h.1,h.2.1,h.2.2.1,h.2.2.2.imp id fun⟨g,k,h1,h2,h3,h4⟩=>⟨g,k,h1,Nat.zero_le _,h3,h4⟩⟩
theorem bS.TB{P:Program}{x:lS}(h:bS P f args H fun v H'=>∃G',Grown G H G' H'/\∃a n c ga gn gc,v=dL x a n c ga gn gc/\aL G' a n x.ap/\aL G' ga gn x.ab.ap)
  {F:O->Nat->Nat->Int->Int->Bool->Int->O->Nat->Nat->Bool->Heap->Prop} (hF:∀G' H' a n c ga gn gc,Grown G H G' H'->Vg.Next aa H H'->aL G' a n x.ap->aL G' ga gn x.ab.ap->F a n c x.ck x.au x.going x.ab.id ga gn gc x.aP H'):
  bS P f args H fun v H'=>∃(a:O)(n c:Nat)(n2 n3:Int)(b:Bool)(n4:Int)(a2:O)(n5 c1:Nat)(b3:Bool),v= .agg #[.slice a n c,.int .i64 n2,.int .i64 n3,.bool b,.int .i64 n4,.slice a2 n5 c1,.bool b3]/\(Vg.Next aa H H'->F a n c n2 n3 b n4 a2 n5 c1 b3 H'):=
 h.mono fun v H' ex hv=>by
  obtain⟨G',g,a,n,c,ga,gn,gc,h1,h2,h3⟩:=hv;exact⟨_,_,_,_,_,_,_,_,_,_,_,h1,fun hN=>hF G' H' _ _ _ _ _ _ g hN h2 h3⟩
theorem bS.Vn{P:Program}(h:bS P f args H fun v H'=>∃G',Grown G H G' H'/\∃sa sl sc ta tl tc,v=eB sa sl sc ta tl tc/\cr (du G G') d sa sl sc ta tl tc)
  {F:O->Nat->Nat->O->Nat->Nat->Heap->Prop} (hF:∀G' H' sa sl sc ta tl tc,Grown G H G' H'->Vg.Next aa H H'->cr G' d sa sl sc ta tl tc->F sa sl sc ta tl tc H'):
  bS P f args H fun v H'=>∃(sa:O)(sl sc:Nat)(ta:O)(tl tc:Nat),v= .agg #[.slice sa sl sc,.slice ta tl tc]/\(Vg.Next aa H H'->F sa sl sc ta tl tc H'):=
 h.mono fun v H' ex hv=>by
  obtain⟨G',g,sa,sl,sc,ta,tl,tc,h1,h2⟩:=hv;exact⟨_,_,_,_,_,_,h1,fun hN=>hF G' H' _ _ _ _ _ _ g hN (h2.ext ew)⟩
theorem JN(hw:bB H w p)(eC:cU w):Sp 90 [cO w p] H fun v H'=>∃p' G rows,v=cO w p'/\aH H G/\Vm H G H' w p' rows:=by
 obtain⟨⟨s1,s2,s3,s4⟩,⟨s5,s6,s7⟩,⟨s8,s9⟩,⟨s10,s11⟩,s12,s13⟩:=eC.TA;refine wo Tryz.func90 (fun aa K=>vx90 w.c.first.id w.c.aS p.fa p.ra p.wa p.fl p.fc p.rl p.rc p.wl p.wc w.h.l.aU w.h.l.ab w.h.l.nx w.h.l.ac p.la p.ka p.ll p.lc p.kl p.kc p.sa p.ta p.sl p.sc p.tl p.tc w.h.up p.na p.ma p.nl p.nc p.ml p.mc aa H K) fun aa hb=>fun b b'=>?_;refine bS.ZF (HC hw.iw (by rw[←hw.iw.pins.len];exact s1) (by rw[←hw.iw.rules.len];exact s2) (by rw[←hw.iw.bf.len];exact s3) s4) fun fa fl fc ra rl rc wa wl wc H1 e1 fh hC=>?_;refine(O7 ((hw.ext e1).ji) (by rw[←hw.ji.bJ.len];exact s5) (by rw[←hw.ji.bX.len];exact s6) s7).mono fun v H2 e2 hv=>?_;obtain⟨la,ll,lc,ka,kl,kc,G2,B6,rfl,hL2⟩:=hv;refine⟨_,_,_,_,_,_,_,_,_,_,rfl,fun dZ=>?_⟩;have K3:=(hL2.own dZ).ck;have e02:=aH.trans e1 e2;refine bS.dsk1 (vA (hw.ext e02).iD (by rw[←hw.iD.safe.len];exact s8) (by rw[←hw.iD.wait.len];exact s9)) fun sa sl sc ta tl tc H3 e3 fS hD=>?_;have hD3:=hD.ext ew;have e03:=aH.trans e02 e3;refine(JI (hw.ext e03).dH (by rw[←hw.dH.len];exact s10)).mono fun v H4 e4 hv=>?_;obtain⟨na,nl,nc,rs,rfl,Nh,hw4,hA4⟩:=hv;refine⟨na,nl,nc,rfl,fun iC=>?_⟩
 have Ni:bV dW 10 58 aa H3 H4 na nl nc rs w.n:=⟨Nh.row iC,hw4,hA4,iC.ext,fun qY g hg=>by
  rcases Nh.2.2.2 with⟨_,h0⟩|⟨g',k',q1,q2,_⟩
  ·exact absurd h0 qY
  ·rw[hg] at q1;simp at q1;subst q1;exact q2⟩
 have Ah:=(Ni.mb (by omega)).2;refine((Gz (hw.ext e03).cZ (by rw[←hw.cZ.len];exact s12) s13).grown iC.ext).mono fun v H5 e5 hv=>?_;obtain⟨G5,g5,ma,ml,mc,GM,ZH,rfl,hM⟩:=hv;refine⟨ma,ml,mc,rfl,fun kT=>?_⟩;have hM5:iN G5 ma ml w.m:=(⟨hM.row.ZG,hM.wid,hM.all,hM.sub,hM.clear⟩:bV cK 6 74 0 GM G5 ma ml mc ZH w.m).sl cK.mono (by omega);have KQ:=Ni.grown dW.mono g5;refine⟨fun m vs H'=>∃(k:Nat)(G:Heap)(rows:List (List Value)),vs=[i64 k]/\k+m=nl/\aH G5 G/\bV dW 10 58 aa G H' na nl nc rows w.n,nl,⟨0,G5,rs,rfl,by omega,aH.refl _,KQ⟩,fun m n5 H6 Fo hI=>?_⟩;obtain⟨k,G,rows,cv,Ur,hG,hO⟩:=hI;obtain rfl:n5=(k:Int):=by simpa using cv
 have hle:(nl:Int)<=9223372036854775807:=(hO.sl dW.mono (by omega)).le;refine⟨fun bK=>?_,fun gj=>?_⟩
 ·obtain⟨x,hx⟩:∃x,w.n[k]?=some x:=⟨_,zu (by omega)⟩
  obtain⟨g,kb,q,sE,B4,qY,Cq,dj,qu,gJ,fH,hq,hc⟩:=hO.nodeAt hx;obtain⟨t1,t2,t3⟩:=s11 x (zt hx);have c:∀j v,(bR x q)[j]?=some v->H6.cell g (0+Int.toNat (k:Int)*10+j)=some v:=fun j v hj=>by rw[zz,zS];exact hc j v hj
  refine⟨g,0,sE,by omega,bK,_,_,_,_,_,_,_,_,_,_,_,_,_,_,_,_,_,_,⟨c 0 _ rfl,c 1 _ rfl,c 2 _ rfl,c 3 _ rfl,c 4 _ rfl,c 5 _ rfl,c 6 _ rfl,c 7 _ rfl,c 8 _ rfl,c 9 _ rfl,trivial⟩,fun b5=>?_⟩;refine⟨?_,?_⟩
  ·refine bS.TB ((BW hq.ap hq.ab t1).grown hO.sub) fun G7 H7 xa xl xc ga gl gc g7 Mx p1 p2=>?_;refine bS.Vn ((vA (hq.iD.ext g7.ext) (by rw[←hq.iD.safe.len];exact t2) (by rw[←hq.iD.wait.len];exact t3)).grown g7.sub) fun G8 H8 ua ul uc va vl vc g8 Tr Wo=>?_;refine⟨g,0,sE,by omega,bK,vD (hO.grown dW.mono (g7.trans g8)) fH hx (hq.ext (g7.trans g8).ext) sE qY ((g7.trans g8).cR _ _ Cq) dj B4 gJ (p1.ext' g8.ext) (p2.ext' g8.ext) Wo qu fun H9 Dp Wp=>?_⟩;rintro r rfl;rw[aj];exact⟨rfl,m-1,by omega,k+1,_,Dp,rfl,by omega,aH.trans hG (g7.trans g8).ext,Wp⟩
  ·refine bS.TB ((BW hq.ap hq.ab t1).grown hO.sub) fun G7 H7 xa xl xc ga gl gc g7 Mx p1 p2=>⟨?_,?_⟩
   ·refine bS.Vn ((vA (hq.iD.ext g7.ext) (by rw[←hq.iD.safe.len];exact t2) (by rw[←hq.iD.wait.len];exact t3)).grown g7.sub) fun G8 H8 ua ul uc va vl vc g8 Tr Wo=>?_;refine⟨g,0,sE,by omega,bK,vD (hO.grown dW.mono (g7.trans g8)) fH hx (hq.ext (g7.trans g8).ext) sE qY ((g7.trans g8).cR _ _ Cq) dj B4 gJ (p1.ext' g8.ext) (p2.ext' g8.ext) Wo qu fun H9 Dp Wp=>?_⟩;rintro r rfl;rw[aj];exact⟨rfl,m-1,by omega,k+1,_,Dp,rfl,by omega,aH.trans hG (g7.trans g8).ext,Wp⟩
   ·refine bS.Vn ((vA (hq.iD.ext g7.ext) (by rw[←hq.iD.safe.len];exact t2) (by rw[←hq.iD.wait.len];exact t3)).grown g7.sub) fun G8 H8 ua ul uc va vl vc g8 Tr Wo=>?_;refine⟨g,0,sE,by omega,bK,vD (hO.grown dW.mono (g7.trans g8)) fH hx (hq.ext (g7.trans g8).ext) sE qY ((g7.trans g8).cR _ _ Cq) dj B4 gJ (p1.ext' g8.ext) (p2.ext' g8.ext) Wo qu fun H9 Dp Wp=>?_,vD (hO.grown dW.mono (g7.trans g8)) fH hx (hq.ext (g7.trans g8).ext) sE qY ((g7.trans g8).cR _ _ Cq) dj B4 gJ (p1.ext' g8.ext) (p2.ext' g8.ext) Wo qu fun H9 Dp Wp=>?_⟩
    all_goals
     rintro r rfl;rw[aj];exact⟨rfl,m-1,by omega,k+1,_,Dp,rfl,by omega,aH.trans hG (g7.trans g8).ext,Wp⟩
 ·refine⟨⟨fa,fl,fc,ra,rl,rc,wa,wl,wc,la,ll,lc,ka,kl,kc,sa,sl,sc,ta,tl,tc,na,nl,nc,ma,ml,mc⟩,G,rows,rfl,aH.trans (aH.trans e03 g5.ext) hG,⟨⟨hC.ext (aH.trans (aH.trans (aH.trans e2 e3) g5.ext) hG),K3.ext (aH.trans (aH.trans e3 g5.ext) hG),hD3.ext (aH.trans g5.ext hG),Sl.ext cK.mono hM5 hG,hM.row.2.1⟩,hO.row.fresh hb,hO.wid,hO.all,hO.sub,hO.clear⟩⟩
open Go Go.Proofs
theorem nJ.sl0{α:Type}{R:jq α}{e:TypeId}{n c:Nat}{rows:List (List Value)}{xs:List α}(hR:R.oW)(h0:0<sz)(h:nJ R sz e H G H' a n c rows xs):Sl R sz H' a n xs:=
 (⟨h.row.ZG,h.wid,h.all,h.sub,h.clear⟩:bV R sz e 0 G H' a n c rows xs).sl hR h0
theorem mE.len{rows:List (List Value)}(h:mE aa G H w p rows):w.n.length=p.nl/\rows.length=p.nl:=⟨(h.dH.mb (by omega)).2,(h.dH.mb (by omega)).1⟩
theorem iH.start{rows:List (List Value)}(h:iH aa G H w p rows x a l):dN aa G H p w p G rows H:=dN.start h.own
theorem iH.sub{rows:List (List Value)}(h:iH aa G H w p rows x a l):aH G H:=h.own.dH.sub
theorem bS.TC{P:Program}(h:bS P f args G fun v H'=>∃a1 n1 c1 a2 n2 c2 a3 n3 c3 G1 rows,v= .tuple #[eB a1 n1 c1 a2 n2 c2,.slice a3 n3 c3,i64 (bj d)]/\
  cr (du G H') (if bj d=0 then dT d else sW) a1 n1 c1 a2 n2 c2/\nJ kI 7 126 G G1 H' a3 n3 c3 rows (if bj d=0 then aX d else [])) (e:aH G H) 
  {F:O->Nat->Nat->O->Nat->Nat->O->Nat->Nat->Int->Heap->Prop}
  (hF:∀a1 n1 c1 a2 n2 c2 a3 n3 c3 G' H',Grown G H G' H'->cr G' (if bj d=0 then dT d else sW) a1 n1 c1 a2 n2 c2->nV G' a3 n3 (if bj d=0 then aX d else [])->F a1 n1 c1 a2 n2 c2 a3 n3 c3 (bj d) H'):
  bS P f args H fun v H'=>∃(a:O)(n c:Nat)(a1:O)(n1 c1:Nat)(a2:O)(n2 c2:Nat)(n3:Int),v= .tuple #[.agg #[.slice a n c,.slice a1 n1 c1],.slice a2 n2 c2,.int .i64 n3]/\(Vg.Next aa H H'->F a n c a1 n1 c1 a2 n2 c2 n3 H'):=
 (h.grown e).mono fun v H' e' hv=>by
  obtain⟨G',g,a1,n1,c1,a2,n2,c2,a3,n3,c3,G1,rows,hv,hD,hR⟩:=hv;exact⟨_,_,_,_,_,_,_,_,_,_,hv,fun _=>hF _ _ _ _ _ _ _ _ _ G' H' g (hD.ext ew) (hR.sl0 kI.mono (by omega))⟩
theorem Vo{b:Bool} :decide (b=false)= !b:=by cases b<;>rfl
theorem MG{r:bD}(h:dV n r= .error e):e≠0:=by
 unfold dV at h;split at h
 ·rename_i hn;injection h with h;exact h▸hn
 ·cases hd:aY n.d r with
  |error e'=>rw[hd] at h;injection h with h;exact h▸ig hd
  |ok d=>rw[hd] at h;cases h
theorem wF{r:bD}(h:gq w k r= .error e):e≠0:=by
 unfold gq at h;split at h
 ·injection h with h;omega
 ·cases hd:dV _ r with
  |error e'=>rw[hd] at h;injection h with h;exact h▸MG hd
  |ok d=>rw[hd] at h;cases h
theorem MH{α:Type}{l:List α}{x:α}(h:l[k]?=some x):l.set k x=l:=by
 apply List.ext_getElem?;intro j;rw[yh];split
 ·rename_i e;subst e;obtain⟨hk,hx⟩:=zw.1 h
  first|rw[pI hk,h]|rw[h]
 ·rfl
theorem dN.s0{G1:Heap}{rows:List (List Value)}(h:dN aa G H p w p' G1 rows H1)(hL:Lb G1)(hn:w.n[k]?=some n){r:bD}(hq:aL G1 qa ql r.cB.ap):
  ∃(y:Nat)(kb:KB)(q:NA),p'.na=some ⟨y,0,none⟩/\k<p'.nl/\qh aa G1 H1 n q r qa ql y (0+k*10) kb/\
   ∀e n' q' vP G2 H2,kQ G1 H1 n q r y (0+k*10) kb e n' q' vP G2 H2->e=bN (gq w k r)/\(∀p1,aQ (fU w (gq w k r)) p1=aQ w p1)/\dN aa G H p (fU w (gq w k r)) p' G2 (rows.set k (bR n' q')) H2:=by
 obtain⟨y,kb,q,nQ,B2,tR,EX,dj,qu,gJ,fH,EY,cI⟩:=h.own.node hn;have v8:G1 y=none:=h.own.dH.clear tR y nQ;refine⟨y,kb,q,nQ,qu,⟨hL,h.own.dH.sub,v8,EY,hq,EX,dj,B2,by omega,fun j v hj=>?_⟩,fun e n' q' vP G2 H2 hp=>?_⟩
 ·have:=cI j v hj;unfold Heap.cell at this;rw[EX] at this;rw[zS];exact this
 ·have hW:fU w (gq w k r)= { w with n:=w.n.set k n' }/\e=bN (gq w k r):=by
   unfold gq;rw[hn];dsimp only;rw[hp.res,hp.err]
   cases hd:dV n r with
   |ok x=>exact⟨rfl,rfl⟩
   |error e=>refine⟨?_,rfl⟩;show w= { w with n:=w.n.set k n };rw[MH hn]
  rw[hW.1];refine⟨hW.2,fun _=>rfl,?_⟩
  have Rq:G2 y=none:=by
   cases hg:G2 y with
   |none=>rfl
   |some z=>have:=hp.im y z hg v8;rw[EX] at this;cases this
  have hlen:=h.own.len;have Gx:=(zw.1 fH).1
  have M6:(rows.set k (bR n' q')).flatten=aV rows.flatten (k*10+0) (bR n' q'):=by
   rw[Dk fH h.own.dH.wid (off:=0) (by simp),oH (by simp)]
  have hfle:k*10+0+(bR n' q').length<=rows.flatten.length:=by
   rw[iX h.own.dH.wid];simp;omega
  have hO:bV dW 10 58 aa G2 H2 p'.na p'.nl p'.nc (rows.set k (bR n' q')) (w.n.set k n'):=by
   refine⟨?_,fun x hx=>?_,(h.own.dH.all.mono dW.mono hp.ext).set ⟨q',rfl,hp.dH⟩,hp.sub,fun hc x hx=>by rw[nQ] at hx;simp at hx;subst hx;exact Rq⟩
   ·obtain⟨r1,r2,r3,r4⟩:=h.own.dH.row;refine⟨by rw[M6,fG];exact r1,r2,r3,.inr ?_⟩;rcases r4 with⟨_,h5⟩|⟨g,k',hg,N3,hH,h6,h7,h8,h9⟩
    ·exact absurd h5 tR
    ·rw[nQ] at hg;simp only[Option.some.injEq,Addr.mk.injEq,and_true] at hg;subst hg;rw[EX] at hH;obtain rfl:=zy hH;refine⟨y,vP,nQ,N3,hp.ck,hp.ty.trans h6,hp.size.trans h7,hp.free,fun j v hv=>?_⟩;rw[M6,eI _ _ _ _ hfle] at hv;split at hv
     ·rename_i hj;have:=hp.cells _ v hv;rw[show 0+k*10+(j-(k*10+0))=j from by omega] at this;exact this
     ·rename_i hj;rw[hp.rest j (by simp at hj;omega)];exact h9 j v hv
   ·rcases List.mem_or_eq_of_mem_set hx with hx|rfl
    ·exact h.own.dH.wid x hx
    ·simp
  have jK:aH G1 G2:=hp.ext;refine⟨aH.trans h.ext hp.ext,fun x kx hx hxn=>?_,⟨⟨(h.own.parts.ext jK).iw,(h.own.parts.ext jK).ji,(h.own.parts.ext jK).iD,(h.own.parts.ext jK).cZ,h.own.parts.room⟩,hO⟩,fun x kx hx Zs=>?_,fun x hx=>?_,h.same⟩
  ·cases hg:G1 x with
   |some z=>exact h.im x z hg hxn
   |none=>
    have h1:=hp.im x kx hx hg
    cases hh:H x with
    |none=>rfl
    |some z=>exact absurd h1 (h.still x (by rw[hh];simp))
  ·have eE:x≠y:=fun e=>by
    subst e;rcases Zs with h0|h0
    ·exact tR (h.same.2.2.trans h0)
    ·exact h0 (h.same.1.symm.trans nQ)
   exact hp.cR x kx eE (h.cR x kx hx Zs)
  ·by_cases e:x=y
   ·subst e;rw[hp.ck];simp
   ·have h1:=h.still x hx
    cases hh:H1 x with
    |none=>exact absurd hh h1
    |some z=>rw[hp.cR x z e hh];simp
section
variable {aa : Nat} {H0 G H : Heap} {w : cY} {p : WA} {rows : List (List Value)} {x : gX} {a : O} {l c b : Nat} {f : SV->List Bx->Heap->Prop}
theorem Px(h:iH aa G H w p rows x a l)(hx:x.ah<w.n.length)
  (hf:∀w' p' G' rows' H' cV,dN aa G H p w' p' G' rows' H'->w'=fU w (fL w x)->f (.v (.int .i64 (bN (fL w x)))) (⟨b,false,41,aQ w' p'⟩::cV) H'):
  ld ⟨Tryz.prog,Tryz.f178.ntmps,⟨TryzListK,TryzSumS,true⟩,aa,H0⟩ Tryz.f178 [.loc 0 0,.v (jw x a l c)] [⟨b,false,41,aQ w p⟩] H f:=by
 rw[Zy]
 have bad:∀ {e:Int},fL w x= .error e->∀ {G1 H1:Heap},Grown G H G1 H1->∀cV,f (.v (.int .i64 e)) (⟨b,false,41,aQ w p⟩::cV) H1:=fun{e} he {G1 H1} g cV=>by
  have:=hf w p G1 rows H1 cV (h.start.grown g) (by rw[he];rfl);rw[he] at this;exact this
 have aP:∀ {w':cY},fL w x= .ok w'->∀ {p':WA} {G1 H1:Heap} {rT:List (List Value)},dN aa G H p w' p' G1 rT H1->∀cV,f (.v (.int .i64 0)) (⟨b,false,41,aQ w' p'⟩::cV) H1:=fun{w'} he {p' G1 H1 rT} g cV=>by
  have:=hf w' p' G1 rT H1 cV g (by rw[he];rfl);rw[he] at this;exact this
 have g0:Grown G H G H:=⟨aH.refl _,h.sub,aH.refl _,fun y k h1 h2=>(by rw[h1] at h2;cases h2)⟩
 have hP:=h.own.parts;refine fun b1=>⟨fun hn=>?_,fun hn=>?_⟩
 ·refine⟨_,jb,fun hu=>?_,fun hu=>?_⟩
  ·have hu:w.h.up=decide (x.ae=13):=by simpa using hu
   exact bad (by unfold fL;rw[pI hn,pI hu]) g0 _
  ·have hu:¬w.h.up=decide (x.ae=13):=by simpa using hu
   refine bS.TC (BI h.lb hP.iD) h.sub fun a1 n1 c1 a2 n2 c2 a3 n3 c3 G1 H1 g1 hD hR=>fun b3=>⟨fun he=>?_,fun he=>?_⟩
   ·exact bad (by unfold fL;rw[pI hn,nI hu,pI he]) g1 _
   ·have he:=zx.1 he;rw[pI he] at hD hR;have Py:=hP.ext g1.ext
    have hE:fL w x=match aB w.c (if x.ae=12 then [] else aX w.h.d) with
      | .error e=> .error e
      | .ok s=> .ok { w with h:=⟨s,if x.ae=12 then w.h.d else dT w.h.d,!w.h.up⟩ } :=by
     unfold fL;rw[pI hn,nI hu,nI (by omega)];rfl
    refine⟨fun hk=>?_,fun hk=>?_⟩
    ·rw[pI hk,pI hk] at hE;refine((vr (k:=0) Py.iw (Sl.nil:nV G1 none 0 [])).grown g1.sub).mono fun v H2 e2 hv=>?_;obtain⟨G2,g2,la,ll,lc,ka,kl,kc,rfl,hA⟩:=hv;refine⟨_,_,_,_,_,_,_,_,_,_,_,rfl,fun dZ=>fun b5=>⟨fun h0=>?_,fun h0=>?_⟩⟩
     ·cases hr:aB w.c [] with
      |error e=>rw[hr] at h0 hE;exact absurd h0 (fY hr)
      |ok s=>
       rw[hr] at hE hA;have Fu:=Py.ext g2.ext;rw[Vo];exact aP (w':= { w with h:=⟨s,w.h.d,!w.h.up⟩ }) hE (p':= { p with la:=la,ll:=ll,lc:=lc,ka:=ka,kl:=kl,kc:=kc }) ((h.start.grown (g1.trans g2)).be ⟨Fu.iw,hA,Fu.iD,Fu.cZ,Fu.room⟩ rfl rfl rfl rfl) _
     ·cases hr:aB w.c [] with
      |ok s=>rw[hr] at h0;exact absurd rfl h0
      |error e=>rw[hr] at hE;exact bad hE (g1.trans g2) _
    ·rw[nI hk,nI hk] at hE;refine((vr (k:=c3) Py.iw hR).grown g1.sub).mono fun v H2 e2 hv=>?_;obtain⟨G2,g2,la,ll,lc,ka,kl,kc,rfl,hA⟩:=hv;refine⟨_,_,_,_,_,_,_,_,_,_,_,rfl,fun dZ=>fun b5=>⟨fun h0=>?_,fun h0=>?_⟩⟩
     ·cases hr:aB w.c (aX w.h.d) with
      |error e=>rw[hr] at h0 hE;exact absurd h0 (fY hr)
      |ok s=>
       rw[hr] at hE hA;have Fu:=Py.ext g2.ext;rw[Vo];exact aP (w':= { w with h:=⟨s,dT w.h.d,!w.h.up⟩ }) hE (p':= { p with la:=la,ll:=ll,lc:=lc,ka:=ka,kl:=kl,kc:=kc,sa:=a1,sl:=n1,sc:=c1,ta:=a2,tl:=n2,tc:=c2 }) ((h.start.grown (g1.trans g2)).be ⟨Fu.iw,hA,hD.ext g2.ext,Fu.cZ,Fu.room⟩ rfl rfl rfl rfl) _
     ·cases hr:aB w.c (aX w.h.d) with
      |ok s=>rw[hr] at h0;exact absurd rfl h0
      |error e=>rw[hr] at hE;exact bad hE (g1.trans g2) _
 ·have h0:0<=x.ah:=by omega
  have hl:=h.own.len;have hk:x.ah.toNat<w.n.length:=by omega
  obtain⟨n,vQ⟩:∃n,w.n[x.ah.toNat]?=some n:=⟨_,zu hk⟩
  obtain⟨y,kb,q,nQ,B2,tR,EX,dj,qu,gJ,fH,EY,cI⟩:=h.own.node vQ;have cc:∀ {H1:Heap},aH H H1->∀j v,(bR n q)[j]?=some v->H1.cell y (0+x.ah.toNat*10+j)=some v:=fun e j v hj=>Heap.aJ e (by rw[zS];exact cI j v hj);refine⟨y,0,nQ,h0,by omega,_,cc (aH.refl _) 9 _ rfl,_,jb,fun hu=>?_,fun hu=>?_⟩
  ·have hu:n.up=decide (x.ae=13):=by simpa using hu
   exact bad (by unfold fL;rw[nI hn,vQ];dsimp only;rw[pI hu]) g0 _
  ·have hu:¬n.up=decide (x.ae=13):=by simpa using hu
   refine⟨_,_,_,_,_,_,⟨cc (aH.refl _) 7 _ rfl,cc (aH.refl _) 8 _ rfl,trivial⟩,?_⟩;refine bS.TC (BI h.lb EY.iD) h.sub fun a1 n1 c1 a2 n2 c2 a3 n3 c3 G1 H1 g1 hD hR=>fun b3=>⟨fun he=>?_,fun he=>?_⟩
   ·exact bad (by unfold fL;rw[nI hn,vQ];dsimp only;rw[nI hu,pI he]) g1 _
   ·have he:=zx.1 he;rw[pI he] at hD hR;have Py:=hP.ext g1.ext
    have hE:fL w x=match az w.c.first (if x.ae=12 then [] else aX n.d) with
      | .error e=> .error e
      | .ok s=> .ok { w with n:=w.n.set x.ah.toNat ⟨s,if x.ae=12 then n.d else dT n.d,!n.up⟩ } :=by
     unfold fL;rw[nI hn,vQ];dsimp only;rw[nI hu,nI (by omega)];rfl
    have fin:∀ {s:lS} {d:pj} {G2 H2:Heap} (g:Grown G H G2 H2) {xa ga ua va:O} {xl xc gl gc ul uc vl vc:Nat} {cV:List Bx},fL w x= .ok { w with n:=w.n.set x.ah.toNat ⟨s,d,!n.up⟩ }->aL G2 xa xl s.ap->aL G2 ga gl s.ab.ap->cr G2 d ua ul uc va vl vc->
      ∃(b_9:Bool),H2.cell y (0+x.ah.toNat*10+9)=some (.bool b_9)/\∃(k:KB),H2 y=some k/\KB.free k=true/\aa<=y/\0+x.ah.toNat*10+10<=KB.size k/\∀(H':Heap),kW H2 y (0+x.ah.toNat*10) k [.slice xa xl xc,.int .i64 s.ck,.int .i64 s.au,.bool s.going,.int .i64 s.ab.id,.slice ga gl gc,.bool s.aP,.slice ua ul uc,.slice va vl vc,.bool (decide (b_9=false))] H'->
       f (.v (.int .i64 0)) (⟨b,false,41,aQ w p⟩::cV) H':=by
     intro s d G2 H2 g xa ga ua va xl xc gl gc ul uc vl vc cV hW p1 p2 p3;refine⟨_,cc g.cR 9 _ rfl,kb,g.cR _ _ EX,dj,B2,by omega,fun H3 DT=>?_⟩
     have QP:=(h.start.grown g).put fH (off:=0) (o:=0+x.ah.toNat*10) (by simp) (by omega) nQ tR (g.cR _ _ EX) DT (y:=⟨s,d,!n.up⟩) (by
      rw[oH (by simp),Vo]
      exact⟨⟨xa,xl,xc,ga,gl,gc,ua,ul,uc,va,vl,vc⟩,rfl,p1,p2,p3⟩)
     exact aP hW QP cV
    refine⟨fun hk=>?_,fun hk=>?_⟩
    ·rw[pI hk,pI hk] at hE;refine⟨_,_,_,_,_,_,⟨cc g1.cR 7 _ rfl,cc g1.cR 8 _ rfl,trivial⟩,?_⟩;refine((Ak (c:=p.fc) (c':=0) Py.iw.pins (Sl.nil:nV G1 none 0 [])).grown g1.sub).mono fun v H2 e2 hv=>?_;obtain⟨G2,g2,xa,xl,xc,ga,gl,gc,rfl,hA,hB⟩:=hv;refine⟨_,_,_,_,_,_,_,_,_,_,_,_,rfl,fun dZ=>fun b5=>⟨fun h0=>?_,fun h0=>?_⟩⟩
     ·cases hr:az w.c.first [] with
      |error e=>rw[hr] at h0 hE;exact absurd h0 (fZ hr)
      |ok s=>
       rw[hr] at hE hA hB;exact fin (g1.trans g2) hE hA hB (EY.iD.ext (aH.trans g1.ext g2.ext))
     ·cases hr:az w.c.first [] with
      |ok s=>rw[hr] at h0;exact absurd rfl h0
      |error e=>rw[hr] at hE;exact bad hE (g1.trans g2) _
    ·rw[nI hk,nI hk] at hE;refine((Ak (c:=p.fc) (c':=c3) Py.iw.pins hR).grown g1.sub).mono fun v H2 e2 hv=>?_;obtain⟨G2,g2,xa,xl,xc,ga,gl,gc,rfl,hA,hB⟩:=hv;refine⟨_,_,_,_,_,_,_,_,_,_,_,_,rfl,fun dZ=>fun b5=>⟨fun h0=>?_,fun h0=>?_⟩⟩
     ·cases hr:az w.c.first (aX n.d) with
      |error e=>rw[hr] at h0 hE;exact absurd h0 (fZ hr)
      |ok s=>
       rw[hr] at hE hA hB;exact fin (g1.trans g2) hE hA hB (hD.ext g2.ext)
     ·cases hr:az w.c.first (aX n.d) with
      |ok s=>rw[hr] at h0;exact absurd rfl h0
      |error e=>rw[hr] at hE;exact bad hE (g1.trans g2) _
theorem RD(h:iH aa G H w p rows x a l)(h0:0<=x.ah)(vQ:w.n[x.ah.toNat]?=some n)
  (hf:∀w' p' G' rows' H' cV,dN aa G H p w' p' G' rows' H'->w'=fU w (js w x n)->f (.v (.int .i64 (bN (js w x n)))) (⟨b,false,41,aQ w' p'⟩::cV) H'):
  ld ⟨Tryz.prog,Tryz.f179.ntmps,⟨TryzListK,TryzSumS,true⟩,aa,H0⟩ Tryz.f179 [.loc 0 0,.v (jw x a l c)] [⟨b,false,41,aQ w p⟩] H f:=by
 rw[Zx]
 have bad:∀ {e:Int},js w x n= .error e->∀ {G1 H1:Heap},Grown G H G1 H1->∀cV,f (.v (.int .i64 e)) (⟨b,false,41,aQ w p⟩::cV) H1:=fun{e} he {G1 H1} g cV=>by
  have:=hf w p G1 rows H1 cV (h.start.grown g) (by rw[he];rfl);rw[he] at this;exact this
 have g0:Grown G H G H:=⟨aH.refl _,h.sub,aH.refl _,fun y k h1 h2=>(by rw[h1] at h2;cases h2)⟩
 have hl:=h.own.len;have hk:=(zw.1 vQ).1;obtain⟨y,kb,q,nQ,B2,tR,EX,dj,qu,gJ,fH,EY,cI⟩:=h.own.node vQ;have cc:∀ {H1:Heap},aH H H1->∀j v,(bR n q)[j]?=some v->H1.cell y (0+x.ah.toNat*10+j)=some v:=fun e j v hj=>Heap.aJ e (by rw[zS];exact cI j v hj);refine fun b1=>⟨y,0,nQ,h0,by omega,_,cc (aH.refl _) 3 _ rfl,fun hg=>?_,fun hg=>?_⟩
 ·exact bad (by unfold js;rw[pI hg]) g0 _
 ·refine⟨_,_,_,_,_,_,_,_,_,_,_,⟨cc (aH.refl _) 0 _ rfl,cc (aH.refl _) 1 _ rfl,cc (aH.refl _) 2 _ rfl,cc (aH.refl _) 3 _ rfl,cc (aH.refl _) 4 _ rfl,cc (aH.refl _) 5 _ rfl,cc (aH.refl _) 6 _ rfl,trivial⟩,?_⟩;refine((Tn EY.ap EY.ab).grown h.sub).mono fun v H1 e1 hv=>?_;obtain⟨G1,g1,sa,sn,sc,rfl,hS⟩:=hv;refine⟨_,_,_,_,rfl,fun fh=>⟨fun he=>?_,fun he=>?_⟩⟩
  ·exact bad (by unfold js;rw[nI hg,pI he]) g1 _
  ·have he:=zx.1 he;rw[pI he] at hS;have Xc:=hS.len;have rR:=h.start.grown g1;have ZI:=h.lb.ext g1.ext;refine⟨fun hp=>?_,fun hp=>?_⟩
   ·have hE:js w x n=gq w x.ah.toNat ⟨2,0,n.a.au,0,false,⟨0,[]⟩⟩:=by
     unfold js;rw[nI hg,nI (by omega),pI (fun e=>by rw[e] at Xc;simp at Xc;omega)]
    obtain⟨y2,Pz,q2,qi,PA,mq,Qm⟩:=rR.s0 ZI vQ (r:=⟨2,0,n.a.au,0,false,⟨0,[]⟩⟩) (qa:=none) (ql:=0) Sl.nil;rw[nQ] at qi;simp only[Option.some.injEq,Addr.mk.injEq,and_true] at qi;subst qi;refine⟨_,cc g1.cR 2 _ rfl,G1,n,q2,⟨2,0,n.a.au,0,false,⟨0,[]⟩⟩,none,0,0,Pz,⟨rfl,rfl⟩,mq,fun e n' q' vP G2 H2 hP=>?_⟩;obtain⟨rfl,hc,hO⟩:=Qm _ _ _ _ _ _ hP;have:=hf _ _ _ _ _ [⟨b1,false,62,[.int .i64 x.ae,.int .i64 x.ah,.int .i64 x.cj,.bool x.aP,.slice a l c]⟩] hO (by rw[hE]);rw[hE,hc] at this;exact this
   ·have hE:js w x n=match gq w x.ah.toNat ⟨3,0,n.a.au,0,x.aP,⟨0,[]⟩⟩ with
      | .error e=> .error e
      | .ok y=> .ok (eK y x.ah.toNat):=by
     unfold js;rw[nI hg,nI (by omega),nI (fun e=>e (yp.1 (by omega)))];rfl
    obtain⟨y2,Pz,q2,qi,PA,mq,Qm⟩:=rR.s0 ZI vQ (r:=⟨3,0,n.a.au,0,x.aP,⟨0,[]⟩⟩) (qa:=none) (ql:=0) Sl.nil;rw[nQ] at qi;simp only[Option.some.injEq,Addr.mk.injEq,and_true] at qi;subst qi;refine⟨_,cc g1.cR 2 _ rfl,G1,n,q2,⟨3,0,n.a.au,0,x.aP,⟨0,[]⟩⟩,none,0,0,Pz,⟨rfl,rfl⟩,mq,fun e n' q' vP G2 H2 hP=>?_⟩;obtain⟨rfl,hc,hO⟩:=Qm _ _ _ _ _ _ hP
    cases hd:gq w x.ah.toNat ⟨3,0,n.a.au,0,x.aP,⟨0,[]⟩⟩ with
    |error e=>
     rw[hd] at hE hO;have:=hf _ _ _ _ _ [⟨b1,false,62,[.int .i64 x.ae,.int .i64 x.ah,.int .i64 x.cj,.bool x.aP,.slice a l c]⟩] hO (by rw[hE]);rw[hE] at this
     exact⟨fun _=>this,fun h0=>absurd (fun e=>wF hd e) h0⟩
    |ok w2=>
     rw[hd] at hE hO hc;refine⟨fun h0=>absurd rfl h0,fun _=>?_⟩;have M8:aQ w p=aQ w2 p:=(hc p).symm
     refine eZ.mono (Q:=fun v iy H'=>∃G',Grown G2 H2 G' H'/\Vj w2 p (eK w2 x.ah.toNat) v iy G') (by
      have:=EU (w:=w2) (p:=p) hO.own.dH.sub hO.own.parts hO.own.ck.dH h0 (by omega) b;rw[←M8] at this
      exact this) fun v iy H3 e3 hv=>?_
     obtain⟨G3,g3,p3,rfl,mD,hP3,n1,n2,n3,n4⟩:=hv;refine⟨rfl,rS mD fun fS=>?_⟩;have:=hf _ _ _ _ _ [⟨b1,false,62,[.int .i64 x.ae,.int .i64 x.ah,.int .i64 x.cj,.bool x.aP,.slice a l c]⟩] ((hO.grown g3).be hP3 n1 n2 n3 n4) (by rw[hE];rfl);rw[hE] at this;exact this
theorem RE(h:iH aa G H w p rows x a l)
  (hf:∀w' p' G' rows' H' cV,dN aa G H p w' p' G' rows' H'->w'=fU w (mm w x)->f (.v (.int .i64 (bN (mm w x)))) (⟨b,false,41,aQ w' p'⟩::cV) H'):
  ld ⟨Tryz.prog,Tryz.f174.ntmps,⟨TryzListK,TryzSumS,true⟩,aa,H0⟩ Tryz.f174 [.loc 0 0,.v (jw x a l c)] [⟨b,false,41,aQ w p⟩] H f:=by
 rw[Zw]
 have bad:∀ {e:Int},mm w x= .error e->∀ {G1 H1:Heap},Grown G H G1 H1->∀cV,f (.v (.int .i64 e)) (⟨b,false,41,aQ w p⟩::cV) H1:=fun{e} he {G1 H1} g cV=>by
  have:=hf w p G1 rows H1 cV (h.start.grown g) (by rw[he];rfl);rw[he] at this;exact this
 have aP:∀ {w':cY},mm w x= .ok w'->∀ {p':WA} {G1 H1:Heap} {rT:List (List Value)},dN aa G H p w' p' G1 rT H1->∀cV,f (.v (.int .i64 0)) (⟨b,false,41,aQ w' p'⟩::cV) H1:=fun{w'} he {p' G1 H1 rT} g cV=>by
  have:=hf w' p' G1 rT H1 cV g (by rw[he];rfl);rw[he] at this;exact this
 have hl:=h.own.len;have hR:=gF.1 h.ok;refine fun b1=>⟨?_,fun b2=>?_⟩
 all_goals
  refine((Ou (c:=p.mc) h.own.parts.cZ x.cj (decide (x.ae=10))).grown h.sub).mono fun v H1 e1 hv=>?_;obtain⟨G1,g1,ta,tn,tc,la,ln,lc,rfl,hM,hQ,hRm⟩:=hv;by_cases ht:dz w.m x.cj=0
  case neg=>
   refine⟨_,_,_,_,_,_,_,_,_,_,_,_,rfl,fun fh=>?_⟩
   try intro b4
   exact⟨fun _=>bad (by unfold mm;rw[pI ht]) g1 _,fun h0=>absurd ht h0⟩
  case pos=>
   rw[pI ht] at hM hQ;obtain⟨t1,t2,t3,t4⟩:=BV ht;obtain⟨o1,o2,o3⟩:=(cM.1 t4).2 _ t1;have hw:=hR.CR _ t1;unfold jO at o1;obtain⟨n,vQ⟩:∃n,w.n[(dw w.m x.cj).ah.toNat]?=some n:=⟨_,zu (by omega)⟩
   obtain⟨y,kb,q,nQ,B2,tR,EX,dj,qu,gJ,fH,EY,cI⟩:=h.own.node vQ;have cc:∀ {H1:Heap},aH H H1->∀j v,(bR n q)[j]?=some v->H1.cell y (0+(dw w.m x.cj).ah.toNat*10+j)=some v:=fun e j v hj=>Heap.aJ e (by rw[zS];exact cI j v hj)
   have hE:mm w x=if((dw w.m x.cj).rep=true/\w.h.up=false)∨((dw w.m x.cj).rep=false/\n.up=false) then .error 7 else
     if(dw w.m x.cj).rep=true then .ok (fU { w with m:=left w.m x.cj (decide (x.ae=10)) } (eJ { w with m:=left w.m x.cj (decide (x.ae=10)) } ⟨7,(dw w.m x.cj).ah,(dw w.m x.cj).au,0,(dw w.m x.cj).aP,⟨0,[]⟩⟩)) else
     if(dw w.m x.cj).au=n.a.au/\n.a.going=false then .ok (eK { w with m:=left w.m x.cj (decide (x.ae=10)) } (dw w.m x.cj).ah.toNat) else
     .ok (fU { w with m:=left w.m x.cj (decide (x.ae=10)) } (gq { w with m:=left w.m x.cj (decide (x.ae=10)) } (dw w.m x.cj).ah.toNat ⟨1,0,(dw w.m x.cj).au,0,false,(dw w.m x.cj).cB⟩)):=by
    unfold mm;rw[nI (by omega),vQ]
   have hmv:gN (if dz w.m x.cj=0 then dw w.m x.cj else Er) la ln lc=gN (dw w.m x.cj) la ln lc:=by rw[pI ht]
   rw[hmv];generalize dw w.m x.cj=m at*
   have Py:lh G1 { w with m:=left w.m x.cj (decide (x.ae=10)) } { p with ma:=ta,ml:=tn,mc:=tc } :=by
    have:=h.own.parts.ext g1.ext;exact⟨this.iw,this.ji,this.iD,hM,hRm⟩
   have rR:dN aa G H p { w with m:=left w.m x.cj (decide (x.ae=10)) } { p with ma:=ta,ml:=tn,mc:=tc } G1 rows H1:=(h.start.grown g1).be Py rfl rfl rfl rfl;have ZI:=h.lb.ext g1.ext;have Qm:=rR.s0 ZI (k:=m.ah.toNat) (n:=n) vQ (r:=⟨1,0,m.au,0,false,m.cB⟩) hQ;obtain⟨y2,Pz,q2,qi,PA,mq,Qm⟩:=Qm;have qi:p.na=some ⟨y2,0,none⟩:=qi;rw[nQ] at qi;simp only[Option.some.injEq,Addr.mk.injEq,and_true] at qi;subst qi
   have s0:∀(cV:List Bx),¬((m.rep=true/\w.h.up=false)∨(m.rep=false/\n.up=false))->m.rep=false->¬(m.au=n.a.au/\n.a.going=false)->∀(e:Int)(n':ke)(q':NA)(vP:KB)(G' H':Heap),kQ G1 H1 n q2 ⟨1,0,m.au,0,false,m.cB⟩ y (0+m.ah.toNat*10) Pz e n' q' vP G' H'->
     f (.v (.int .i64 0)) (⟨b,false,41,aQ { w with m:=left w.m x.cj (decide (x.ae=10)) } { p with ma:=ta,ml:=tn,mc:=tc }⟩::cV) H':=by
    intro cV fT hr ht e n' q' vP G' H' hP;obtain⟨rfl,hc,hO⟩:=Qm _ _ _ _ _ _ hP;rw[nI fT,nI (by rw[hr];simp),nI ht] at hE;have:=aP hE hO cV;rw[hc] at this;exact this
   refine⟨_,_,_,_,_,_,_,_,_,_,_,_,rfl,fun fh=>?_⟩
   try intro b4
   refine⟨fun h0=>absurd ht h0,fun _=>⟨y,0,nQ,by omega,by omega,(m.rep=true/\w.h.up=false)∨(m.rep=false/\n.up=false),⟨fun hr=>⟨fun hu=>⟨rfl,dD,.inl ⟨hr,hu⟩⟩,fun hu=>⟨fun we=>(by rw[hr] at we;cases we),fun _=>⟨rfl,dD,by rw[hr];simp;simpa using hu⟩⟩⟩,fun hr=>⟨fun _=>⟨_,cc g1.cR 9 _ rfl,rfl,dD,by rw[hr];simp⟩,fun h=>absurd hr h⟩⟩,fun fT=>?_,fun fT=>⟨fun hr=>?_,fun hr=>⟨_,cc g1.cR 2 _ rfl,fun htr=>⟨_,cc g1.cR 3 _ rfl,fun hg=>?_,fun hg=>?_⟩,fun htr=>?_⟩⟩⟩⟩
   ·exact bad (by rw[hE,pI fT]) g1 _
   ·refine((JG ZI Py (r:=⟨7,m.ah,m.au,0,m.aP,⟨0,[]⟩⟩) (qa:=none) (ql:=0) (qc:=0) Sl.nil b).grown g1.sub).mono fun v iy H2 e2 hv=>?_;obtain⟨G2,g2,p2,rfl,mD,Fu,n1,n2,n3,n4⟩:=hv;refine⟨_,rfl,rS mD fun dZ=>?_⟩;rw[nI fT,pI hr] at hE;exact aP hE ((rR.grown g2).be Fu n1 n2 n3 n4) _
   ·refine(EU g1.sub Py rR.own.ck.dH (by omega) (by show m.ah<(p.nl:Int);omega) b).mono fun v iy H2 e2 hv=>?_;obtain⟨G2,g2,p2,rfl,mD,Fu,n1,n2,n3,n4⟩:=hv;refine⟨rfl,rS mD fun dZ=>?_⟩;rw[nI fT,nI (by rw[hr];simp),pI ⟨htr,hg⟩] at hE;exact aP hE ((rR.grown g2).be Fu n1 n2 n3 n4) _
   ·exact⟨G1,n,q2,⟨1,0,m.au,0,false,m.cB⟩,la,ln,lc,Pz,⟨rfl,rfl⟩,mq,s0 _ fT hr fun h=>hg h.2⟩
   ·exact⟨G1,n,q2,⟨1,0,m.au,0,false,m.cB⟩,la,ln,lc,Pz,⟨rfl,rfl⟩,mq,s0 _ fT hr fun h=>htr h.1⟩
end
structure jI(R:Except Int cY)(aa:Nat)(G H:Heap)(w:cY)(p:WA)(e:Int)(w':cY)(p':WA)(G':Heap)(rows':List (List Value))(H':Heap):Prop where
 post:dN aa G H p w' p' G' rows' H'
 err:e=bN R
 res:w'=fU w R
def ZJ(R:cY->gX->Except Int cY)(RF:cY->gX->Prop)(aa i b ty:Nat)(cs:List Value)(v:Value)(own:List Bx)(H:Heap)(f:SV->List Bx->Heap->Prop):Prop:=
 ∃(w:cY)(p:WA)(G:Heap)(rows:List (List Value))(x:gX)(a:O)(l c:Nat),(ty=41/\cs=aQ w p/\v=jw x a l c/\Pr own=true)/\iH aa G H w p rows x a l/\RF w x/\
  ∀(e:Int)(w':cY)(p':WA)(G':Heap)(rows':List (List Value))(H':Heap),jI (R w x) aa G H w p e w' p' G' rows' H'->f (.v (.int .i64 e)) (own.set i ⟨b,false,ty,aQ w' p'⟩) H'
theorem dN.ZK{own:List Bx}{rows:List (List Value)}{w':cY}{rows':List (List Value)}(h:dN aa G (dR own b H) p w' p' G' rows' H1)(h0:mE aa G H w p rows)
  (hid:∀y∈own,H y.b=none) (hb:H b=none) (T6:H1 b=none):dN aa G H p w' p' G' rows' (gZ own H1):=by
 have kX:aH G' (gZ own H1):=fun x k hx=>by
  have h1:=h.own.dH.sub x k hx;unfold gZ
  cases hl:jt own x with
  |none=>exact h1
  |some k'=>
   exfalso;obtain⟨y,hy,rfl,_⟩:=eW hl
   cases hg:G y.b with
   |some k2=>have:=h0.dH.sub _ _ hg;rw[hid y hy] at this;cases this
   |none=>
    have h2:=h.im _ _ hx hg;unfold dR at h2;rw[nI (fun e=>by rw[e,T6] at h1;cases h1),hid y hy] at h2;rw[hl] at h2;cases h2
 have QK:aH H (dR own b H):=jR hb;refine⟨h.ext,fun y k hy hn=>?_,⟨h.own.parts,⟨?_,h.own.dH.wid,h.own.dH.all,kX,h.own.dH.clear⟩⟩,fun y k hy hc=>xI hid hb hy fun hs=>h.cR y k hs hc,fun y hy=>?_,h.same⟩
 ·have h1:=h.im y k hy hn
  cases hh:H y with
  |none=>rfl
  |some z=>rw[QK y z hh] at h1;cases h1
 ·obtain⟨r1,r2,r3,r4⟩:=h.own.dH.row;by_cases hc:p.nc=0
  ·have hz:p'.nc=0:=h.same.2.2.trans hc;exact⟨r1,r2,r3,.inl ⟨by omega,hz⟩⟩
  refine⟨r1,r2,r3,r4.imp id fun⟨g,k,hg,N3,hH,h6,h7,h8,h9⟩=>⟨g,k,hg,N3,?_,h6,h7,h8,h9⟩⟩;unfold gZ
  cases hl:jt own g with
  |none=>exact hH
  |some k'=>
   exfalso;obtain⟨y,hy,rfl,_⟩:=eW hl;obtain⟨g',k',gu,N6⟩:=h0.dH.block hc;rw[h.same.1,gu] at hg;simp only[Option.some.injEq,Addr.mk.injEq,and_true] at hg;rw[hg,hid y hy] at N6;cases N6
 ·cases hh:H y with
  |none=>exact absurd hh hy
  |some z=>
   have h1:=h.still y (by rw[QK y z hh];simp);unfold gZ
   cases hl:jt own y with
   |none=>exact h1
   |some k'=>
    obtain⟨u,hu,rfl,_⟩:=eW hl;rw[hid u hu] at hh;cases hh
theorem Vp{P:Program}(mZ:fy P fE){R:cY->gX->Except Int cY}{RF:cY->gX->Prop}
  (kA:∀ {aa:Nat} {H0 G H:Heap} {w:cY} {p:WA} {rows:List (List Value)} {x:gX} {a:O} {l c b:Nat} {f:SV->List Bx->Heap->Prop},iH aa G H w p rows x a l->RF w x->
   (∀e w' p' G' rows' H' cV,jI (R w x) aa G H w p e w' p' G' rows' H'->f (.v (.int .i64 e)) (⟨b,false,41,aQ w' p'⟩::cV) H')->
   ∃q,fE.inl aa H0 g [.loc 0 0,.v (jw x a l c)] [⟨b,false,41,aQ w p⟩] H f=some q/\q)
  {C:qG} {w0:World} {bc:List Nat} {own:List Bx}  {wd:World} {ty:Nat}   {f:SV->List Bx->Heap->Prop}
  (hX:own[i]?=some ⟨b,false,ty,cs⟩) (h:ZJ R RF C.aa i b ty cs v own H f) (hw:iR C w0 bc own H wd):
  Calls P g (([.loc i 0,.v v]:List SV).map (SV.val own)).toArray wd fun e w'=>∃v dQ H',e= .returned v/\f (.v v) dQ H'/\aW own dQ/\iR C w0 bc dQ H' w':=by
 obtain⟨w,p,G,rows,x,a,l,c,⟨rfl,rfl,rfl,Wn⟩,mq,hP,hf⟩:=h
 have hm:∀y∈own,y.map=false:=fun y hy=>by
  have:=yf.1 Wn y hy;simpa using this
 have hid:=hw.aE.hid;have Vh:=zt hX;have Wm:H b=none:=hid _ Vh;have se:fW own i=b:=by unfold fW;rw[hX]
 have vS:(([.loc i 0,.v (jw x a l c)]:List SV).map (SV.val own))=(([.loc 0 0,.v (jw x a l c)]:List SV).map (SV.val [⟨b,false,41,aQ w p⟩])):=by
  simp only[zB,List.map_nil,SV.val,se];rfl
 rw[vS];have Ps:iH C.aa G (dR own b H) w p rows x a l:=⟨mq.lb,mq.ok,mq.own.ext (jR Wm),mq.ap⟩
 have ZL:=ME mZ hw hX hm (g:=g) (pre:=[.loc 0 0,.v (jw x a l c)]) (by intro s hs;simp at hs;rcases hs with rfl|rfl<;>simp[SV.wf]) (R:=fun y=>p.nc≠0/\p.na=some ⟨y,0,none⟩)
  (fun y hy hc=>by
   obtain⟨g',k',gu,N6⟩:=mq.own.dH.block hc.1;rw[hc.2] at gu;simp only[Option.some.injEq,Addr.mk.injEq,and_true] at gu
   rw[←gu,hid y hy] at N6;cases N6)
  (post:=fun v oI H1=>∃(e:Int)(w':cY)(p':WA)(G':Heap)(rows':List (List Value)),v= .int .i64 e/\oI=aQ w' p'/\jI (R w x) C.aa G (dR own b H) w p e w' p' G' rows' H1) (fun H0=>kA Ps hP fun e w' p' G' rows' H' cV hp=>
   ⟨_,rfl,fun y k hy hnR=>hp.post.cR y k hy (by
    by_cases hc:p.nc=0
    ·exact .inl hc
    ·exact .inr fun e=>hnR ⟨hc,e⟩),e,w',p',G',rows',rfl,rfl,hp⟩)
 refine ZL.mono fun e w' he=>?_;obtain⟨v,oI,H1,rfl,⟨e,w',p',G',rows',rfl,rfl,hp⟩,oU,T6,Fi⟩:=he;exact⟨_,_,_,rfl,hf e w' p' G' rows' _ ⟨hp.post.ZK mq.own hid Wm T6,hp.err,hp.res⟩,aW.set hX rfl rfl rfl,Fi⟩
def sL(w:cY)(x:gX):Except Int cY:=
 match w.n[x.ah.toNat]? with
 |none=> .error 5
 |some n=>js w x n
noncomputable def TryzInT:jV:=qT Tryz.prog TryzListK [(174,Tryz.f174),(179,Tryz.f179),(178,Tryz.f178)] TryzSumS
theorem TryzinT(j:Bool):fy Tryz.prog ⟨TryzListK,TryzInT,j⟩:=rf (TryzsumS true) Tryzmixed fun p hp=>by
 simp only[zm,List.not_mem_nil,or_false] at hp;rcases hp with rfl|rfl|rfl
 ·exact⟨Tryz.func174,dK (by kernel_rfl),ij (by kernel_rfl),by decide⟩
 ·exact⟨Tryz.func179,dK (by kernel_rfl),ij (by kernel_rfl),by decide⟩
 ·exact⟨Tryz.func178,dK (by kernel_rfl),ij (by kernel_rfl),by decide⟩
def MI(R:cY->gX->Except Int cY)(RF:cY->gX->Prop)(aa:Nat)(pre:List SV)(own:List Bx)(H:Heap)(f:SV->List Bx->Heap->Prop):Option Prop:=
 match pre with
 | [.loc i 0,.v v]=>(match own[i]? with
  |some ⟨b,false,ty,cs⟩=>some (ZJ R RF aa i b ty cs v own H f)
  |_=>none)
 |_=>none
theorem Al{P:Program}(mZ:fy P fE){R:cY->gX->Except Int cY}{RF:cY->gX->Prop}
  (kA:∀ {aa:Nat} {H0 G H:Heap} {w:cY} {p:WA} {rows:List (List Value)} {x:gX} {a:O} {l c b:Nat} {f:SV->List Bx->Heap->Prop},iH aa G H w p rows x a l->RF w x->
   (∀e w' p' G' rows' H' cV,jI (R w x) aa G H w p e w' p' G' rows' H'->f (.v (.int .i64 e)) (⟨b,false,41,aQ w' p'⟩::cV) H')->
   ∃q,fE.inl aa H0 g [.loc 0 0,.v (jw x a l c)] [⟨b,false,41,aQ w p⟩] H f=some q/\q)
   {pre:List SV} {own:List Bx}  {f:SV->List Bx->Heap->Prop} {p:Prop} (he:MI R RF aa pre own H f=some p) (hp:p) (C:qG) (w0:World) (bc:List Nat) (w:World) (hb:C.aa=aa) (hw:iR C w0 bc own H w):
  Calls P g (pre.map (SV.val own)).toArray w fun e w'=>∃v dQ H',e= .returned v/\f (.v v) dQ H'/\aW own dQ/\iR C w0 bc dQ H' w':=by
 subst hb;unfold MI at he;split at he
 ·split at he
  ·rename_i hX;obtain rfl:=zy he;exact Vp mZ kA hX hp hw
  ·cases he
 ·cases he
noncomputable def TryzSumT:jV:=fun aa H0 g pre own H f=>
 if g=174 then MI mm (fun w _=>w=w) aa pre own H f
 else if g=179 then MI sL (fun w x=>0<=x.ah/\x.ah<w.n.length) aa pre own H f
 else if g=178 then MI fL (fun w x=>x.ah<w.n.length) aa pre own H f
 else TryzSumS aa H0 g pre own H f
theorem TryzsumT(j:Bool):fy Tryz.prog ⟨TryzListK,TryzSumT,j⟩:=by
 intro aa H0 g pre own H f p hp;unfold TryzSumT at hp;dsimp only at hp;split at hp
 ·rename_i e;subst e;refine⟨by show TryzListK.contains 174=true;decide,fun h C w0 bc w hb _ hw _=>Al (TryzinT true) (fun{aa H0 G H w p rows x a l c b f} h1 _ hf=>⟨_,rfl,RE h1 fun w' p' G' rows' H' cV h3 h4=>hf _ w' p' G' rows' H' cV ⟨h3,rfl,h4⟩⟩) hp h C w0 bc w hb hw⟩
 ·split at hp
  ·rename_i e;subst e;refine⟨by show TryzListK.contains 179=true;decide,fun h C w0 bc w hb _ hw _=>Al (TryzinT true) (fun{aa H0 G H w p rows x a l c b f} h1 hP hf=>?_) hp h C w0 bc w hb hw⟩;obtain⟨n,hn⟩:∃n,w.n[x.ah.toNat]?=some n:=⟨_,zu (by omega)⟩
   have hE:sL w x=js w x n:=by unfold sL;rw[hn]
   exact⟨_,rfl,RD h1 hP.1 hn fun w' p' G' rows' H' cV h3 h4=>hf _ w' p' G' rows' H' cV ⟨h3,by rw[hE],by rw[hE];exact h4⟩⟩
  ·split at hp
   ·rename_i e;subst e;refine⟨by show TryzListK.contains 178=true;decide,fun h C w0 bc w hb _ hw _=>Al (TryzinT true) (fun{aa H0 G H w p rows x a l c b f} h1 hP hf=>⟨_,rfl,Px h1 hP fun w' p' G' rows' H' cV h3 h4=>hf _ w' p' G' rows' H' cV ⟨h3,rfl,h4⟩⟩) hp h C w0 bc w hb hw⟩
   ·exact TryzsumS j aa H0 g pre own H f p hp
def TryzListT:List FuncId:=1000001:: TryzListK
theorem TryzsumTT(j:Bool):fy Tryz.prog ⟨TryzListT,TryzSumT,j⟩:=fun aa H0 g pre own H f p hp=>by
 obtain⟨h1,h2⟩:= TryzsumT j aa H0 g pre own H f p hp;refine⟨?_,h2⟩;have h1: TryzListK.contains g=true:=h1
 show TryzListT.contains g=true
 unfold TryzListT;rw[List.contains_cons,h1,Bool.or_true]
open Go Go.Proofs
abbrev qB(qj:AV)(hk:Int)(k:List Value)(b:Nat)(mI:LV)(H:Heap)(aa:Nat)(f:SV->List Bx->Heap->Prop)(a:Nat)(hg hn:Int)(fM:Bool)(ha:O)(hl hc g:Nat):Prop:=
 ∃(l m n o:Int)(p:Bool)(q:Int)(r:O)(s t:Nat)(u:Bool),ii (A qj) (U hk) k=some (A #[U l,U m,U n,U o,B p,U q,S r s t],u)/\YO Tryz.prog 176 [P (some (D b 0 none)),A #[U l,U m,U n,U o,B p,U q,S r s t]] [J b false 41 mI] H fun v w x=>∃y,v=U y/\∃(z:Int)(a1:O)(b1 c1:Nat)(d1:O)(e1 f1:Nat)(g1:O)(h1 i1:Nat)(j1:Int)(k1:O)(l1 m1:Nat)(n1 o1:Int)(p1:Bool)(q1:O)(r1 s1:Nat)(t1:Int)(u1:O)(v1 w1:Nat)(x1:O)(y1 z1:Nat)(a2:Bool)(b2:O)(c2 d2:Nat)(e2:O)(f2 g2:Nat),(fun w2:LV=>w=[w2]/\(X aa H x->f (SV.v (U y)) [J b false 41 w2,J a false 62 [U hk,U hg,U hn,B fM,S ha hl hc],J g true 217 k] x)) [U z,S a1 b1 c1,S d1 e1 f1,S g1 h1 i1,U j1,S k1 l1 m1,U n1,U o1,B p1,S q1 r1 s1,U t1,S u1 v1 w1,S x1 y1 z1,B a2,S b2 c2 d2,S e2 f2 g2]
abbrev PB(EZ:AV)(i:List Value)(yJ qj:AV)(hk:Int)(b:Nat)(mI:LV)(H:Heap)(aa:Nat)(f:SV->List Bx->Heap->Prop)(a:Nat)(hg hn:Int)(fM:Bool)(ha:O)(hl hc g:Nat):Prop:=
 (∃j:List Value,bI (U 1) (A EZ) i=some j/\∃k:List Value,bI (U 2) (A yJ) j=some k/\qB qj hk k b mI H aa f a hg hn fM ha hl hc g)/\∃j:List Value,bI (U 2) (A yJ) i=some j/\∃k:List Value,bI (U 1) (A EZ) j=some k/\qB qj hk k b mI H aa f a hg hn fM ha hl hc g
abbrev PC(hk:Int)(pt:LB)(H:Heap)(h:Prop):Prop:=
 (hk=12->pt=pt/\ak H H/\(h↔hk=12))/\(¬hk=12->pt=pt/\ak H H/\(h↔hk=13))
abbrev PD(mI:LV)(i:cY)(j:WA)(hk hg hn:Int)(fM:Bool)(ha:O)(hl hc:Nat)(m:gX)(n:O)(o p:Nat):Prop:=
 41=41/\mI=aQ i j/\A #[U hk,U hg,U hn,B fM,S ha hl hc]=A #[U (gX.ae m),U (gX.ah m),U (gX.cj m),B (gX.aP m),S n o p]/\true=true
abbrev TD(f:SV->List Bx->Heap->Prop)(q:Int)(b:Nat)(r:cY)(s:WA)(a:Nat)(hk hg hn:Int)(fM:Bool)(ha:O)(hl hc:Nat)(v:Heap):Prop:=
 f (SV.v (U q)) [J b false 41 (aQ r s),J a false 62 [U hk,U hg,U hn,B fM,S ha hl hc]] v
abbrev PE(hk:Int)(pt:LB)(H:Heap)(up:Bool)(f:SV->List Bx->Heap->Prop)(ZM:LV)(b:Nat)(mI:LV)(aa a:Nat)(hg hn:Int)(fM:Bool)(ha:O)(hl hc:Nat)(na:O)(nl:Nat)(ZN:LV):Prop:=
 ∃g:Prop,((hk=3->pt=pt/\ak H H/\(g↔hk=3))/\(¬hk=3->pt=pt/\ak H H/\(g↔hk=4)))/\(g->(up=false->f (SV.v (U 7)) pt H)/\(¬up=false->YO Tryz.prog 177 ZM [J b false 41 mI] H fun h i j=>∃k,h=U k/\∃(l:Int)(m:O)(n o:Nat)(p:O)(q r:Nat)(s:O)(t u:Nat)(v:Int)(w:O)(x y:Nat)(z a1:Int)(b1:Bool)(c1:O)(d1 e1:Nat)(f1:Int)(g1:O)(h1 i1:Nat)(j1:O)(k1 l1:Nat)(m1:Bool)(n1:O)(o1 p1:Nat)(q1:O)(r1 s1:Nat),(fun w27:LV=>i=[w27]/\(X aa H j->f (SV.v (U k)) [J b false 41 w27,J a false 62 [U hk,U hg,U hn,B fM,S ha hl hc]] j)) [U l,S m n o,S p q r,S s t u,U v,S w x y,U z,U a1,B b1,S c1 d1 e1,U f1,S g1 h1 i1,S j1 k1 l1,B m1,S n1 o1 p1,S q1 r1 s1]))/\(¬g->∃h:Prop,(PC hk pt H h)/\(h->∃(i:cY)(j:WA)(k:Heap)(l:List (List Value))(m:gX)(n:O)(o p:Nat),(PD mI i j hk hg hn fM ha hl hc m n o p)/\iH aa k H i j l m n o/\gX.ah m<(↑(zo (cY.n i)):Int)/\∀(q:Int)(r:cY)(s:WA)(t:Heap)(u:List (List Value))(v:Heap),jI (fL i m) aa k H i j q r s t u v->TD f q b r s a hk hg hn fM ha hl hc v)/\(¬h->∃i j,na=some (D i j none)/\0<=hg/\hg<(nl:Int)/\∃(k:O)(l m:Nat)(n o:Int)(p:Bool)(q:Int)(r:O)(s t:Nat)(u:Bool)(v:O)(w x:Nat)(y:O)(z a1:Nat)(b1:Bool),(fun w30:LV=>(C H i (j+N hg*10)=some (S k l m)/\C H i (j+N hg*10+1)=some (U n)/\C H i (j+N hg*10+2)=some (U o)/\C H i (j+N hg*10+3)=some (B p)/\C H i (j+N hg*10+4)=some (U q)/\C H i (j+N hg*10+5)=some (S r s t)/\C H i (j+N hg*10+6)=some (B u)/\C H i (j+N hg*10+7)=some (S v w x)/\C H i (j+N hg*10+8)=some (S y z a1)/\C H i (j+N hg*10+9)=some (B b1)/\True)/\∀c1:Nat,(fun Wq:LB=>(b1=false->f (SV.v (U 7)) Wq H)/\(¬b1=false->(hk=7->∃(d1:cY)(e1:WA)(f1:Heap)(g1:List (List Value))(h1:gX)(i1:O)(j1 k1:Nat),(PD mI d1 e1 hk hg hn fM ha hl hc h1 i1 j1 k1)/\iH aa f1 H d1 e1 g1 h1 i1 j1/\(0<=gX.ah h1/\gX.ah h1<(↑(zo (cY.n d1)):Int))/\∀(l1:Int)(m1:cY)
 (n1:WA) (o1:Heap) (p1:List (List Value)) (q1:Heap),jI (sL d1 h1) aa f1 H d1 e1 l1 m1 n1 o1 p1 q1->f (SV.v (U l1)) [J b false 41 (aQ m1 n1),J a false 62 [U hk,U hg,U hn,B fM,S ha hl hc],J c1 false 58 w30] q1)/\(¬hk=7->∃d1:Prop,((p=true->Wq=Wq/\ak H H/\d1)/\(p=false->Wq=Wq/\ak H H/\(d1↔o=0)))/\(d1->f (SV.v (U 7)) Wq H)/\(¬d1->YO Tryz.prog 180 ZN [J b false 41 mI] H fun e1 f1 g1=>e1=T #[]/\∃(h1:Int)(i1:O)(j1 k1:Nat)(l1:O)(m1 n1:Nat)(o1:O)(p1 q1:Nat)(r1:Int)(s1:O)(t1 u1:Nat)(v1 w1:Int)(x1:Bool)(y1:O)(z1 a2:Nat)(b2:Int)(c2:O)(d2 e2:Nat)(f2:O)(g2 h2:Nat)(i2:Bool)(j2:O)(k2 l2:Nat)(m2:O)(n2 o2:Nat),(fun w28:LV=>f1=[w28]/\(X aa H g1->f (SV.v (U 0)) [J b false 41 w28,J a false 62 [U hk,U hg,U hn,B fM,S ha hl hc],J c1 false 58 w30] g1)) [U h1,S i1 j1 k1,S l1 m1 n1,S o1 p1 q1,U r1,S s1 t1 u1,U v1,U w1,B x1,S y1 z1 a2,U b2,S c2 d2 e2,S f2 g2 h2,B i2,S j2 k2 l2,S m2 n2 o2])))) [J b false 41 mI,J a false 62 [U hk,U hg,U hn,B fM,S ha hl hc],J c1 false 58 w30]) [S k l m,U n,U o,B p,U q,S r s t,B u,S v w x,S y z a1,B b1]))
abbrev TE(yK:AV)(i:List Value)(kV qj:AV)(hk:Int)(b:Nat)(mI:LV)(H:Heap)(aa:Nat)(f:SV->List Bx->Heap->Prop)(a:Nat)(hg hn:Int)(fM:Bool)(ha:O)(hl hc g:Nat):Prop:=
 (∃j:List Value,bI (U 5) (A yK) i=some j/\∃k:List Value,bI (U 6) (A kV) j=some k/\qB qj hk k b mI H aa f a hg hn fM ha hl hc g)/\∃j:List Value,bI (U 6) (A kV) i=some j/\∃k:List Value,bI (U 5) (A yK) j=some k/\qB qj hk k b mI H aa f a hg hn fM ha hl hc g
abbrev TF(yJ:AV)(i:List Value)(kV qj:AV)(hk:Int)(b:Nat)(mI:LV)(H:Heap)(aa:Nat)(f:SV->List Bx->Heap->Prop)(a:Nat)(hg hn:Int)(fM:Bool)(ha:O)(hl hc g:Nat):Prop:=
 (∃j:List Value,bI (U 2) (A yJ) i=some j/\∃k:List Value,bI (U 6) (A kV) j=some k/\qB qj hk k b mI H aa f a hg hn fM ha hl hc g)/\∃j:List Value,bI (U 6) (A kV) i=some j/\∃k:List Value,bI (U 2) (A yJ) j=some k/\qB qj hk k b mI H aa f a hg hn fM ha hl hc g
abbrev TG(yJ:AV)(i:List Value)(yK qj:AV)(hk:Int)(b:Nat)(mI:LV)(H:Heap)(aa:Nat)(f:SV->List Bx->Heap->Prop)(a:Nat)(hg hn:Int)(fM:Bool)(ha:O)(hl hc g:Nat):Prop:=
 (∃j:List Value,bI (U 2) (A yJ) i=some j/\∃k:List Value,bI (U 5) (A yK) j=some k/\qB qj hk k b mI H aa f a hg hn fM ha hl hc g)/\∃j:List Value,bI (U 5) (A yK) i=some j/\∃k:List Value,bI (U 2) (A yJ) j=some k/\qB qj hk k b mI H aa f a hg hn fM ha hl hc g
abbrev TH(EZ:AV)(i:List Value)(kV qj:AV)(hk:Int)(b:Nat)(mI:LV)(H:Heap)(aa:Nat)(f:SV->List Bx->Heap->Prop)(a:Nat)(hg hn:Int)(fM:Bool)(ha:O)(hl hc g:Nat):Prop:=
 (∃j:List Value,bI (U 1) (A EZ) i=some j/\∃k:List Value,bI (U 6) (A kV) j=some k/\qB qj hk k b mI H aa f a hg hn fM ha hl hc g)/\∃j:List Value,bI (U 6) (A kV) i=some j/\∃k:List Value,bI (U 1) (A EZ) j=some k/\qB qj hk k b mI H aa f a hg hn fM ha hl hc g
abbrev TI(EZ:AV)(i:List Value)(yK qj:AV)(hk:Int)(b:Nat)(mI:LV)(H:Heap)(aa:Nat)(f:SV->List Bx->Heap->Prop)(a:Nat)(hg hn:Int)(fM:Bool)(ha:O)(hl hc g:Nat):Prop:=
 (∃j:List Value,bI (U 1) (A EZ) i=some j/\∃k:List Value,bI (U 5) (A yK) j=some k/\qB qj hk k b mI H aa f a hg hn fM ha hl hc g)/\∃j:List Value,bI (U 5) (A yK) i=some j/\∃k:List Value,bI (U 1) (A EZ) j=some k/\qB qj hk k b mI H aa f a hg hn fM ha hl hc g
theorem vx91(b:Nat)(id aS:Int)(fa ra wa:O)(fl fc rl rc wl wc:Nat)(aU ab nx:Int)(ac:Bool)(la ka:O)(ll lc kl kc:Nat)(sa ta:O)(sl sc tl tc:Nat)(up:Bool)(na ma:O)(nl nc ml mc:Nat)(hk hg hn:Int)(fM:Bool)(ha:O)(hl hc:Nat)(aa:Nat)(H0:Heap)(H:Heap)(f:SV->List Bx->Heap->Prop):
 (ld ⟨Tryz.prog,Tryz.f91.ntmps,⟨TryzListT,TryzSumT,true⟩,aa,H0⟩ Tryz.f91 [.loc 0 0,.v (A #[U hk,U hg,U hn,B fM,S ha hl hc])] [⟨b,false,41,[U id,S fa fl fc,S ra rl rc,S wa wl wc,U aS,S la ll lc,U aU,U ab,B ac,S ka kl kc,U nx,S sa sl sc,S ta tl tc,B up,S na nl nc,S ma ml mc]⟩] H f)=(
 (fun ZN:LV=>(fun ZM:LV=>(fun kV:AV=>(fun yK:AV=>(fun yJ:AV=>(fun qj:AV=>(fun mI:LV=>∀a:Nat,(fun pt:LB=>∃c:Prop,((hk=9->pt=pt/\ak H H/\(c↔hk=9))/\(¬hk=9->pt=pt/\ak H H/\(c↔hk=10)))/\(c->∃(d:cY)(e:WA)(g:Heap)(h:List (List Value))(i:gX)(j:O)(k l:Nat),(PD mI d e hk hg hn fM ha hl hc i j k l)/\iH aa g H d e h i j k/\d=d/\∀(m:Int)(n:cY)(o:WA)(p:Heap)(q:List (List Value))(r:Heap),jI (mm d i) aa g H d e m n o p q r->TD f m b n o a hk hg hn fM ha hl hc r)/\(¬c->(hk=11->(Y 175 [S ma ml mc,U hn,B false] H fun d e=>∃g h i j k l m n o p q r,d=T #[S g h i,A #[U j,U k,B l,B m,U n,S o p q],U r]/\(X aa H e->∀s:Nat,(r=0->f (SV.v (U r)) [J b false 41 [U id,S fa fl fc,S ra rl rc,S wa wl wc,U aS,S la ll lc,U aU,U ab,B ac,S ka kl kc,U nx,S sa sl sc,S ta tl tc,B up,S na nl nc,S g h i],J a false 62 [U hk,U hg,U hn,B fM,S ha hl hc],J s false 74 [U j,U k,B l,B m,U n,S o p q]] e)/\(¬r=0->f (SV.v (U r)) [J b false 41 mI,J a false 62 [U hk,U hg,U hn,B fM,S ha hl hc],J s false 74 [U j,U k,B l,B m,U n,S o p q]] e)))/\∀d:Nat,Y 175 [S ma ml mc,U hn,B false] H fun e g=>∃h i j k l m n o p q r s,e=T #[S h i j,A #[U k,U l,B m,B n,U o,S p q r],U s]/\(X aa H g->(s=0->f (SV.v (U s)) [J b false 41 [U id,S fa fl fc,S ra rl rc,S wa wl wc,U aS,S la ll lc,U aU,U ab,B ac,S ka kl kc,U nx,S sa sl sc,S ta tl tc,B up,S na nl nc,S h i j],J a false 62 [U hk,U hg,U hn,B fM,S ha hl hc],J d false 74 [U k,U l,B m,B n,U o,S p q r]] g)/\(¬s=0->f (SV.v (U s)) [J b false 41 mI,J a false 62 [U hk,U hg,U hn,B fM,S ha hl hc],J d false 74 [U k,U l,B m,B n,U o,S p q r]] g)))/\(¬hk=11->∃d:Prop,((hk=1->pt=pt/\ak H H/\(d↔hk=1))/\(¬hk=1->(hk=2->pt=pt/\ak H H/\(d↔hk=2))/\(¬hk=2->(hk=5->pt=pt/\ak H H/\(d↔hk=5))/\(¬hk=5->pt=pt/\ak H H/\(d↔hk=6)))))/\(d->(up=false->f (SV.v (U 7)) pt H)/\(¬up=false->∀
 e:Int,(fun EZ:AV=>e=W Z ((ll:Int)+1)->∀g:Nat,(∃h:List Value,bI (U 1) (A EZ) []=some h/\(∃i:List Value,bI (U 2) (A yJ) h=some i/\TE yK i kV qj hk b mI H aa f a hg hn fM ha hl hc g)/\(∃i:List Value,bI (U 5) (A yK) h=some i/\TF yJ i kV qj hk b mI H aa f a hg hn fM ha hl hc g)/\∃i:List Value,bI (U 6) (A kV) h=some i/\TG yJ i yK qj hk b mI H aa f a hg hn fM ha hl hc g)/\(∃h:List Value,bI (U 2) (A yJ) []=some h/\(∃i:List Value,bI (U 1) (A EZ) h=some i/\TE yK i kV qj hk b mI H aa f a hg hn fM ha hl hc g)/\(∃i:List Value,bI (U 5) (A yK) h=some i/\TH EZ i kV qj hk b mI H aa f a hg hn fM ha hl hc g)/\∃i:List Value,bI (U 6) (A kV) h=some i/\TI EZ i yK qj hk b mI H aa f a hg hn fM ha hl hc g)/\(∃h:List Value,bI (U 5) (A yK) []=some h/\(∃i:List Value,bI (U 1) (A EZ) h=some i/\TF yJ i kV qj hk b mI H aa f a hg hn fM ha hl hc g)/\(∃i:List Value,bI (U 2) (A yJ) h=some i/\TH EZ i kV qj hk b mI H aa f a hg hn fM ha hl hc g)/\∃i:List Value,bI (U 6) (A kV) h=some i/\PB EZ i yJ qj hk b mI H aa f a hg hn fM ha hl hc g)/\∃h:List Value,bI (U 6) (A kV) []=some h/\(∃i:List Value,bI (U 1) (A EZ) h=some i/\TG yJ i yK qj hk b mI H aa f a hg hn fM ha hl hc g)/\(∃i:List Value,bI (U 2) (A yJ) h=some i/\TI EZ i yK qj hk b mI H aa f a hg hn fM ha hl hc g)/\∃i:List Value,bI (U 5) (A yK) h=some i/\PB EZ i yJ qj hk b mI H aa f a hg hn fM ha hl hc g) #[U 4,U 0,U 0,U 0,B false,U e,S ha hl hc]))/\(¬d->∃e:Prop,((hk=3->pt=pt/\ak H H/\(e↔hk=3))/\(¬hk=3->(hk=4->pt=pt/\ak H H/\(e↔hk=4))/\(¬hk=4->(hk=7->pt=pt/\ak H H/\(e↔hk=7))/\(¬hk=7->(hk=8->pt=pt/\ak H H/\(e↔hk=8))/\(¬hk=8->PC hk pt H e)))))/\(e->((nl:Int)<=hg->f (SV.v (U 5)) pt H)/\(¬(nl:Int)<=hg->(hg<0->(¬hk=12->(¬hk=13->f (SV.v (U 5)) pt H)/\(¬¬hk=
 13->PE hk pt H up f ZM b mI aa a hg hn fM ha hl hc na nl ZN))/\(¬¬hk=12->PE hk pt H up f ZM b mI aa a hg hn fM ha hl hc na nl ZN))/\(¬hg<0->PE hk pt H up f ZM b mI aa a hg hn fM ha hl hc na nl ZN)))/\(¬e->f (SV.v (U 4)) pt H))))) [J b false 41 mI,J a false 62 [U hk,U hg,U hn,B fM,S ha hl hc]]) [U id,S fa fl fc,S ra rl rc,S wa wl wc,U aS,S la ll lc,U aU,U ab,B ac,S ka kl kc,U nx,S sa sl sc,S ta tl tc,B up,S na nl nc,S ma ml mc]) #[U 0,U 0,U 0,U 0,B false,U 0,S none 0 0]) #[U 5,U 0,U 0,U hn,B false,U 0,S none 0 0]) #[U 8,U 0,U 0,U 0,B false,U 0,S none 0 0]) #[U 9,U 0,U 0,U 0,B false,U 0,S none 0 0]) [P (some (D b 0 none)),A #[U hk,U hg,U hn,B fM,S ha hl hc]]) [P (some (D b 0 none)),U hg]):=by kernel_rfl
open Go Go.Proofs
def vE(aa b:Nat)(H:Heap)(f:SV->List Bx->Heap->Prop)(cV:List Bx):Value->List (List Value)->Heap->Prop:=fun v iy H'=>
 ∃n:Int,v= .int .i64 n/\∃i1:Int,∃a2:O,∃l2:Nat,∃c2:Nat,∃a3:O,∃l3:Nat,∃c3:Nat,∃a4:O,∃l4:Nat,∃c4:Nat,∃i5:Int,∃a6:O,∃l6:Nat,∃c6:Nat,∃i7:Int,∃i8:Int,∃b9:Bool,∃ER:O,∃l10:Nat,∃Hq:Nat,∃i11:Int,∃a12:O,∃K5:Nat,∃c12:Nat,∃ES:O,∃K6:Nat,∃Hr:Nat,∃K7:Bool,∃Hu:O,∃K8:Nat,∃JE:Nat,∃ET:O,∃K9:Nat,∃JF:Nat,iy=[[.int .i64 i1,.slice a2 l2 c2,.slice a3 l3 c3,.slice a4 l4 c4,.int .i64 i5,.slice a6 l6 c6,.int .i64 i7,.int .i64 i8,.bool b9,.slice ER l10 Hq,.int .i64 i11,.slice a12 K5 c12,.slice ES K6 Hr,.bool K7,.slice Hu K8 JE,.slice ET K9 JF]]/\(Vg.Next aa H H'->f (.v (.int .i64 n)) (⟨b,false,41,[.int .i64 i1,.slice a2 l2 c2,.slice a3 l3 c3,.slice a4 l4 c4,.int .i64 i5,.slice a6 l6 c6,.int .i64 i7,.int .i64 i8,.bool b9,.slice ER l10 Hq,.int .i64 i11,.slice a12 K5 c12,.slice ES K6 Hr,.bool K7,.slice Hu K8 JE,.slice ET K9 JF]⟩::cV) H')
section
variable {aa : Nat} {H0 G H : Heap} {w : cY} {p : WA} {rows : List (List Value)} {x : gX} {a : O} {l c b : Nat} {f : SV->List Bx->Heap->Prop}
theorem sM(h:iH aa G H w p rows x a l)
  (hf:∀e w' p' G' rows' H' cV,jI (bO w x) aa G H w p e w' p' G' rows' H'->f (.v (.int .i64 e)) (⟨b,false,41,aQ w' p'⟩::cV) H') {r:bD} (hE:bO w x=eJ w r)   (hq:aL G qa ql r.cB.ap) (cV:List Bx):
  eZ Tryz.prog 176 [.pointer (some ⟨b,0,none⟩),gU r qa ql qc] [⟨b,false,41,aQ w p⟩] H (vE aa b H f cV):=by
 refine((JG h.lb h.own.parts hq b).grown h.sub).mono fun v iy H2 e2 hv=>?_;obtain⟨G2,g2,p2,rfl,mD,Fu,n1,n2,n3,n4⟩:=hv;exact⟨_,rfl,rS mD fun dZ=>hf _ _ p2 G2 rows H2 _ ⟨(h.start.grown g2).be Fu n1 n2 n3 n4,by rw[hE],by rw[hE]⟩⟩
theorem RG(h:iH aa G H w p rows x a l)
  (hf:∀e w' p' G' rows' H' cV,jI (bO w x) aa G H w p e w' p' G' rows' H'->f (.v (.int .i64 e)) (⟨b,false,41,aQ w' p'⟩::cV) H'):
  ld ⟨Tryz.prog,Tryz.f91.ntmps,⟨TryzListT,TryzSumT,true⟩,aa,H0⟩ Tryz.f91 [.loc 0 0,.v (jw x a l c)] [⟨b,false,41,aQ w p⟩] H f:=by
 rw[vx91];have g0:Grown G H G H:=⟨aH.refl _,h.sub,aH.refl _,fun y k h1 h2=>(by rw[h1] at h2;cases h2)⟩
 have out:∀ {R:Except Int cY},bO w x=R->∀e w' p' G' rows' H' cV,jI R aa G H w p e w' p' G' rows' H'->f (.v (.int .i64 e)) (⟨b,false,41,aQ w' p'⟩::cV) H':=fun{R} hR e w' p' G' rows' H' cV hP=>hf _ _ _ _ _ _ _ (hR▸hP);have bad:∀ {e:Int},bO w x= .error e->∀ {G1 H1:Heap},Grown G H G1 H1->∀cV,f (.v (.int .i64 e)) (⟨b,false,41,aQ w p⟩::cV) H1:=fun{e} he {G1 H1} g cV=>out he e w p G1 rows H1 cV ⟨h.start.grown g,rfl,rfl⟩;have aP:∀ {w':cY},bO w x= .ok w'->∀ {p':WA} {G1 H1:Heap} {rT:List (List Value)},dN aa G H p w' p' G1 rT H1->∀cV,f (.v (.int .i64 0)) (⟨b,false,41,aQ w' p'⟩::cV) H1:=fun{w'} he {p' G1 H1 rT} g cV=>out he 0 w' p' G1 rT H1 cV ⟨g,rfl,rfl⟩;have hl:=h.own.len;have hR:=gF.1 h.ok;have Ii:w.h.l.bJ.length<=100000:=hR.TA.2.1.1;have Gx:=h.own.parts.ji.bJ.len;refine fun b1=>⟨x.ae=9∨x.ae=10,⟨fun h9=>⟨rfl,dD,⟨fun _=>h9,fun _=> .inl h9⟩⟩,fun h9=>⟨rfl,dD,⟨fun h=>h.resolve_left h9,.inr⟩⟩⟩,fun fT=>?_,fun fT=>⟨fun EQ=>?_,fun EQ=>?_⟩⟩
 ·exact⟨w,p,G,rows,x,a,l,c,⟨rfl,rfl,rfl,rfl⟩,h,rfl,fun e w' p' G' rows' H' hP=>out (by unfold bO;rw[pI fT]) _ _ _ _ _ _ _ hP⟩
 ·have hE:bO w x=if dz w.m x.cj≠0 then .error (dz w.m x.cj) else .ok { w with m:=left w.m x.cj false } :=by
   unfold bO;rw[nI fT,pI EQ]
  refine⟨?_,fun b2=>?_⟩
  all_goals
   refine((Ou (c:=p.mc) h.own.parts.cZ x.cj false).grown h.sub).mono fun v H1 e1 hv=>?_;obtain⟨G1,g1,ta,tn,tc,la,ln,lc,rfl,hM,hQ,hRm⟩:=hv;refine⟨_,_,_,_,_,_,_,_,_,_,_,_,rfl,fun fh=>?_⟩
   try intro b4
   refine⟨fun ht=>?_,fun ht=>?_⟩
   ·rw[pI ht] at hM;rw[nI (by omega)] at hE;have hP:=h.own.parts.ext g1.ext;exact out hE _ { w with m:=left w.m x.cj false } { p with ma:=ta,ml:=tn,mc:=tc } G1 rows H1 _ ⟨(h.start.grown g1).be ⟨hP.iw,hP.ji,hP.iD,hM,hRm⟩ rfl rfl rfl rfl,ht,rfl⟩
   ·rw[pI ht] at hE;exact bad hE g1 _
 ·refine⟨x.ae=1∨x.ae=2∨x.ae=5∨x.ae=6,⟨fun h1=>⟨rfl,dD,⟨fun _=>h1,fun _=> .inl h1⟩⟩,fun h1=>⟨fun h2=>⟨rfl,dD,⟨fun _=>h2,fun _=> .inr (.inl h2)⟩⟩,fun h2=>⟨fun h3=>⟨rfl,dD,⟨fun _=>h3,fun _=> .inr (.inr (.inl h3))⟩⟩,fun h3=>⟨rfl,dD,⟨fun h=>((h.resolve_left h1).resolve_left h2).resolve_left h3,fun h=> .inr (.inr (.inr h))⟩⟩⟩⟩⟩,fun hk=>⟨fun hu=>?_,fun hu r hr b2=>?_⟩,fun hk=>?_⟩
  ·exact bad (by unfold bO;rw[nI fT,nI EQ,pI hk,pI hu]) g0 _
  ·have hE:bO w x=eJ w (lK w x):=by unfold bO;rw[nI fT,nI EQ,pI hk,nI hu]
   have we:r=(w.h.l.bJ.length:Int)+1:=by rw[hr,aj];omega
   have lead:∀cV,(x.ae=1->eZ Tryz.prog 176 [.pointer (some ⟨b,0,none⟩),.agg #[.int .i64 4,.int .i64 0,.int .i64 0,.int .i64 0,.bool false,.int .i64 r,.slice a l c]] [⟨b,false,41,aQ w p⟩] H (vE aa b H f cV))/\
     (x.ae=2->eZ Tryz.prog 176 [.pointer (some ⟨b,0,none⟩),.agg #[.int .i64 5,.int .i64 0,.int .i64 0,.int .i64 x.cj,.bool false,.int .i64 0,.slice none 0 0]] [⟨b,false,41,aQ w p⟩] H (vE aa b H f cV))/\
     (x.ae=5->eZ Tryz.prog 176 [.pointer (some ⟨b,0,none⟩),.agg #[.int .i64 8,.int .i64 0,.int .i64 0,.int .i64 0,.bool false,.int .i64 0,.slice none 0 0]] [⟨b,false,41,aQ w p⟩] H (vE aa b H f cV))/\
     (x.ae=6->eZ Tryz.prog 176 [.pointer (some ⟨b,0,none⟩),.agg #[.int .i64 9,.int .i64 0,.int .i64 0,.int .i64 0,.bool false,.int .i64 0,.slice none 0 0]] [⟨b,false,41,aQ w p⟩] H (vE aa b H f cV)):=by
    intro cV;refine⟨fun k=>?_,fun k=>?_,fun k=>?_,fun k=>?_⟩
    ·rw[we];exact sM h hf (r:=⟨4,0,0,0,false,⟨w.h.l.bJ.length+1,x.ap⟩⟩) (by rw[hE];unfold lK;rw[pI k]) h.ap cV
    ·exact sM h hf (r:=⟨5,0,0,x.cj,false,⟨0,[]⟩⟩) (by rw[hE];unfold lK;rw[nI (by omega),pI k]) Sl.nil cV
    ·exact sM h hf (r:=⟨8,0,0,0,false,⟨0,[]⟩⟩) (by rw[hE];unfold lK;rw[nI (by omega),nI (by omega),pI k]) Sl.nil cV
    ·exact sM h hf (r:=⟨9,0,0,0,false,⟨0,[]⟩⟩) (by rw[hE];unfold lK;rw[nI (by omega),nI (by omega),nI (by omega)]) Sl.nil cV
   clear hE hr we
   refine⟨⟨_,rfl,⟨⟨_,rfl,⟨⟨_,rfl,⟨_,rfl,?_⟩⟩,⟨_,rfl,⟨_,rfl,?_⟩⟩⟩⟩,⟨_,rfl,⟨⟨_,rfl,⟨_,rfl,?_⟩⟩,⟨_,rfl,⟨_,rfl,?_⟩⟩⟩⟩,⟨_,rfl,⟨⟨_,rfl,⟨_,rfl,?_⟩⟩,⟨_,rfl,⟨_,rfl,?_⟩⟩⟩⟩⟩⟩,⟨_,rfl,⟨⟨_,rfl,⟨⟨_,rfl,⟨_,rfl,?_⟩⟩,⟨_,rfl,⟨_,rfl,?_⟩⟩⟩⟩,⟨_,rfl,⟨⟨_,rfl,⟨_,rfl,?_⟩⟩,⟨_,rfl,⟨_,rfl,?_⟩⟩⟩⟩,⟨_,rfl,⟨⟨_,rfl,⟨_,rfl,?_⟩⟩,⟨_,rfl,⟨_,rfl,?_⟩⟩⟩⟩⟩⟩,⟨_,rfl,⟨⟨_,rfl,⟨⟨_,rfl,⟨_,rfl,?_⟩⟩,⟨_,rfl,⟨_,rfl,?_⟩⟩⟩⟩,⟨_,rfl,⟨⟨_,rfl,⟨_,rfl,?_⟩⟩,⟨_,rfl,⟨_,rfl,?_⟩⟩⟩⟩,⟨_,rfl,⟨⟨_,rfl,⟨_,rfl,?_⟩⟩,⟨_,rfl,⟨_,rfl,?_⟩⟩⟩⟩⟩⟩,⟨_,rfl,⟨⟨_,rfl,⟨⟨_,rfl,⟨_,rfl,?_⟩⟩,⟨_,rfl,⟨_,rfl,?_⟩⟩⟩⟩,⟨_,rfl,⟨⟨_,rfl,⟨_,rfl,?_⟩⟩,⟨_,rfl,⟨_,rfl,?_⟩⟩⟩⟩,⟨_,rfl,⟨⟨_,rfl,⟨_,rfl,?_⟩⟩,⟨_,rfl,⟨_,rfl,?_⟩⟩⟩⟩⟩⟩⟩
   all_goals
    rcases hk with k|k|k|k
    ·exact⟨_,_,_,_,_,_,_,_,_,true,by rw[k];rfl,(lead _).1 k⟩
    ·exact⟨_,_,_,_,_,_,_,_,_,true,by rw[k];rfl,(lead _).2.1 k⟩
    ·exact⟨_,_,_,_,_,_,_,_,_,true,by rw[k];rfl,(lead _).2.2.1 k⟩
    ·exact⟨_,_,_,_,_,_,_,_,_,true,by rw[k];rfl,(lead _).2.2.2 k⟩
  ·refine⟨x.ae=3∨x.ae=4∨x.ae=7∨x.ae=8∨x.ae=12∨x.ae=13,⟨fun h1=>⟨rfl,dD,by constructor<;>intro _<;>omega⟩,fun h1=>⟨fun h2=>⟨rfl,dD,by constructor<;>intro _<;>omega⟩,fun h2=>⟨fun h3=>⟨rfl,dD,by constructor<;>intro _<;>omega⟩,fun h3=>⟨fun h4=>⟨rfl,dD,by constructor<;>intro _<;>omega⟩,fun h4=>⟨fun h5=>⟨rfl,dD,by constructor<;>intro _<;>omega⟩,fun h5=>⟨rfl,dD,by constructor<;>intro _<;>omega⟩⟩⟩⟩⟩⟩,fun WZ=>?_,fun WZ=>?_⟩
   ·have hK:¬(x.ae<1∨13<x.ae):=by omega
    refine⟨fun hle=>?_,fun hle=>?_⟩
    ·exact bad (by unfold bO;rw[nI fT,nI EQ,nI hk,nI hK,pI (by omega)]) g0 _
    ·have hW:¬(x.ah<0/\x.ae≠12/\x.ae≠13)->bO w x=if x.ae=3∨x.ae=4 then(if w.h.up=false then .error 7 else iz w x) else
       if x.ae=12∨x.ae=13 then fL w x else
       match w.n[x.ah.toNat]? with
       |none=> .error 5
       |some n=>
        if n.up=false then .error 7 else
        if x.ae=7 then js w x n else
        if n.a.going=true∨n.a.au=0 then .error 7 else .ok (eK w x.ah.toNat):=fun qF=>by
      unfold bO;rw[nI fT,nI EQ,nI hk,nI hK,nI (by omega)];rfl
     refine⟨fun qF=>⟨fun h12=>⟨fun ZO=>?_,fun ZO=>?_⟩,fun h12=>?_⟩,fun qF=>?_⟩
     ·exact bad (by unfold bO;rw[nI fT,nI EQ,nI hk,nI hK,pI (by omega)]) g0 _
     all_goals
      have hW:=hW (by omega);refine⟨x.ae=3∨x.ae=4,⟨fun h1=>⟨rfl,dD,by constructor<;>intro _<;>omega⟩,fun h1=>⟨rfl,dD,by constructor<;>intro _<;>omega⟩⟩,fun h34=>?_,fun h34=>?_⟩
      ·rw[pI h34] at hW;refine⟨fun hu=>?_,fun hu=>?_⟩
       ·rw[pI hu] at hW;exact bad hW g0 _
       ·rw[nI hu] at hW;refine((Zo h.lb h.own.parts (a:=a) (l:=l) (c:=c) b).grown h.sub).mono fun v iy H2 e2 hv=>?_;obtain⟨G2,g2,p2,rfl,mD,Fu,n1,n2,n3,n4⟩:=hv;exact⟨_,rfl,rS mD fun dZ=>out hW _ _ p2 G2 rows H2 _ ⟨(h.start.grown g2).be Fu n1 n2 n3 n4,rfl,rfl⟩⟩
      ·rw[nI h34] at hW;refine⟨x.ae=12∨x.ae=13,⟨fun h1=>⟨rfl,dD,by constructor<;>intro _<;>omega⟩,fun h1=>⟨rfl,dD,by constructor<;>intro _<;>omega⟩⟩,fun Vi=>?_,fun Vi=>?_⟩
       ·rw[pI Vi] at hW;exact⟨w,p,G,rows,x,a,l,c,⟨rfl,rfl,rfl,rfl⟩,h,by omega,fun e w' p' G' rows' H' hP=>out hW _ _ _ _ _ _ _ hP⟩
       ·rw[nI Vi] at hW;have h0:0<=x.ah:=by omega
        obtain⟨n,vQ⟩:∃n,w.n[x.ah.toNat]?=some n:=⟨_,zu (by omega)⟩
        rw[vQ] at hW;dsimp only at hW;obtain⟨y,kb,q,nQ,B2,tR,EX,dj,qu,gJ,fH,EY,cI⟩:=h.own.node vQ;have cc:∀j v,(bR n q)[j]?=some v->H.cell y (0+x.ah.toNat*10+j)=some v:=fun j v hj=>by rw[zS];exact cI j v hj
        refine⟨y,0,nQ,h0,by omega,_,_,_,_,_,_,_,_,_,_,_,_,_,_,_,_,_,_,⟨cc 0 _ rfl,cc 1 _ rfl,cc 2 _ rfl,cc 3 _ rfl,cc 4 _ rfl,cc 5 _ rfl,cc 6 _ rfl,cc 7 _ rfl,cc 8 _ rfl,cc 9 _ rfl,trivial⟩,fun b6=>⟨fun hu=>?_,fun hu=>⟨fun h7=>?_,fun h7=>?_⟩⟩⟩
        ·rw[pI hu] at hW;exact bad hW g0 _
        ·rw[nI hu,pI h7] at hW;have hA:sL w x=js w x n:=by unfold sL;rw[vQ]
         exact⟨w,p,G,rows,x,a,l,c,⟨rfl,rfl,rfl,rfl⟩,h,⟨h0,by omega⟩,fun e w' p' G' rows' H' hP=>out (hW.trans hA.symm) _ _ _ _ _ _ _ hP⟩
        ·rw[nI hu,nI h7] at hW;refine⟨n.a.going=true∨n.a.au=0,⟨fun hg=>⟨rfl,dD,.inl hg⟩,fun hg=>⟨rfl,dD,⟨fun hh=>hh.resolve_left (by rw[hg];simp),.inr⟩⟩⟩,fun hg=>?_,fun hg=>?_⟩
         ·rw[pI hg] at hW;exact bad hW g0 _
         ·rw[nI hg] at hW;refine(EU h.sub h.own.parts h.own.ck.dH h0 (by omega) b).mono fun v iy H2 e2 hv=>?_;obtain⟨G2,g2,p2,rfl,mD,Fu,n1,n2,n3,n4⟩:=hv;exact⟨rfl,rS mD fun dZ=>aP hW ((h.start.grown g2).be Fu n1 n2 n3 n4) _⟩
   ·exact bad (by unfold bO;rw[nI fT,nI EQ,nI hk,pI (by omega)]) g0 _
end
noncomputable def TryzInH:jV:=qT Tryz.prog TryzListT [(91,Tryz.f91)] TryzSumT
theorem TryzinH(j:Bool):fy Tryz.prog ⟨TryzListT,TryzInH,j⟩:=rf (TryzsumTT true) Tryzmixed fun p hp=>by
 simp only[zm,List.not_mem_nil,or_false] at hp;subst hp;exact⟨Tryz.func91,dK (by kernel_rfl),ij (by kernel_rfl),by decide⟩
noncomputable def TryzSumH:jV:=fun aa H0 g pre own H f=>
 if g=91 then MI bO (fun w _=>w=w) aa pre own H f
 else TryzSum aa H0 g pre own H f
theorem TryzsumH(j:Bool):fy Tryz.prog ⟨TryzListK,TryzSumH,j⟩:=by
 intro aa H0 g pre own H f p hp;unfold TryzSumH at hp;dsimp only at hp;split at hp
 ·rename_i e;subst e;refine⟨by show TryzListK.contains 91=true;decide,fun h C w0 bc w hb _ hw _=>Al (TryzinH true) (fun{aa H0 G H w p rows x a l c b f} h1 _ hf=>⟨_,rfl,RG h1 hf⟩) hp h C w0 bc w hb hw⟩
 ·exact TryzsumK j aa H0 g pre own H f p hp
noncomputable def TryzMutsH:xT:=⟨TryzListK,TryzSumH,true⟩
theorem TryzvcH(hf: Tryz.prog.funcs[f]?=some fn)(eC:oV fn=true)(dE:Nat.ble args.length fn.ntmps=true)(Q:Value->Heap->Prop){sv:List SV}(IY:args.map SV.v=sv)
  {F:Nat->(Value->List (List Value)->Heap->Prop)->Prop} (hv:∀aa K,qC ⟨Tryz.prog,fn.ntmps,TryzMutsH,aa,H⟩ (gS fn) fn.results.toList sv [] K=F aa K)
  (h:∀aa,(∀b k,H b=some k->b<aa)->F aa (fun v _ H'=>Q v H')):Sp f args H Q:=
 sf (fE:= TryzMutsH) (TryzsumH true) hf (dK eC) rfl Tryzmixed (ij eC) (z8 dE) fun aa hb=>by
  rw[IY,hv aa];exact h aa hb
theorem ZP(hf: Tryz.prog.funcs[f]?=some fn){Q:Value->Heap->Prop}{F:Nat->(Value->List (List Value)->Heap->Prop)->Prop}(hv:∀aa K,qC ⟨Tryz.prog,fn.ntmps,TryzMutsH,aa,H⟩ (gS fn) fn.results.toList (args.map SV.v) [] K=F aa K)(h:∀aa,(∀b k,H b=some k->b<aa)->F aa (fun v _ H'=>Q v H'))(eC:oV fn=true:=by kernel_rfl)(dE:Nat.ble args.length fn.ntmps=true:=by kernel_rfl):Sp f args H Q:=TryzvcH hf eC dE Q rfl hv h
open Go Go.Proofs
abbrev TJ(s3:Int)(t3:O)(u3 v3:Nat)(w3:O)(x3 y3:Nat)(z3:O)(a4 b4:Nat)(c4:Int)(d4:O)(e4 f4:Nat)(g4 h4:Int)(i4:Bool)(j4:O)(k4 l4:Nat)(m4:Int)(n4:O)(o4 p4:Nat)(q4:O)(r4 s4:Nat)(t4:Bool)(u4:O)(v4 w4:Nat)(x4:O)(y4 z4:Nat)(b5:cY)(c5:WA)(i3 j3 k3:Int)(l3:Bool)(m3:O)(n3 o3:Nat)(f5:gX)(g5:O)(h5 i5:Nat):Prop:=
 41=41/\ [U s3,S t3 u3 v3,S w3 x3 y3,S z3 a4 b4,U c4,S d4 e4 f4,U g4,U h4,B i4,S j4 k4 l4,U m4,S n4 o4 p4,S q4 r4 s4,B t4,S u4 v4 w4,S x4 y4 z4]=aQ b5 c5/\A #[U i3,U j3,U k3,B l3,S m3 n3 o3]=A #[U (gX.ae f5),U (gX.ah f5),U (gX.cj f5),B (gX.aP f5),S g5 h5 i5]/\true=true
theorem vx27{id:Int}{rl:Nat}{sl:Nat}{up:Bool}{hk hg hn:Int}{fM:Bool}:
 (fV TryzMutsH Tryz.f27 aa H [.v (A #[U id,S fa fl fc,S ra rl rc,S wa wl wc,U aS,S la ll lc,U aU,U ab,B ac,S ka kl kc,U nx,S sa sl sc,S ta tl tc,B up,S na nl nc,S ma ml mc]),.v (A #[U hk,U hg,U hn,B fM,S ha hl hc])] [] K)=(
 (fun w3:AV=>(fun w2:LV=>∀a b c:Nat,Y 31 w2 H fun d e=>∃g,d=U g/\(X aa H e->(¬g=0->K (T #[A w3,U g]) [] e)/\(¬¬g=0->Y 90 w2 e fun h i=>∃j k l m n o p q r s t u v w x y z a1 b1 c1 d1 e1 f1 g1 h1 i1 j1 k1 l1 m1 n1 o1 p1 q1,h=A #[U j,S k l m,S n o p,S q r s,U t,S u v w,U x,U y,B z,S a1 b1 c1,U d1,S e1 f1 g1,S h1 i1 j1,B k1,S l1 m1 n1,S o1 p1 q1]/\(X aa e i->∃(r1:cY)(s1:WA)(t1:Heap)(u1:List (List Value))(v1:gX)(w1:O)(x1 y1:Nat),(TJ j k l m n o p q r s t u v w x y z a1 b1 c1 d1 e1 f1 g1 h1 i1 j1 k1 l1 m1 n1 o1 p1 q1 r1 s1 hk hg hn fM ha hl hc v1 w1 x1 y1)/\iH aa t1 i r1 s1 u1 v1 w1 x1/\r1=r1/\∀(z1:Int)(a2:cY)(b2:WA)(c2:Heap)(d2:List (List Value))(e2:Heap),jI (bO r1 v1) aa t1 i r1 s1 z1 a2 b2 c2 d2 e2->(¬z1=0->K (T #[A w3,U z1]) [] e2)/\(¬¬z1=0->K (T #[A (aQ a2 b2).toArray,U 0]) [] e2))))) [A #[U id,S fa fl fc,S ra rl rc,S wa wl wc,U aS,S la ll lc,U aU,U ab,B ac,S ka kl kc,U nx,S sa sl sc,S ta tl tc,B up,S na nl nc,S ma ml mc]]) #[U 0,S none 0 0,S none 0 0,S none 0 0,U 0,S none 0 0,U 0,U 0,B false,S none 0 0,U 0,S none 0 0,S none 0 0,B false,S none 0 0,S none 0 0]):=by kernel_rfl
theorem vx39{id:Int}{rl:Nat}{sl:Nat}{up:Bool}:
 (fV TryzMutsH Tryz.f39 aa H [.v (A #[U id,S fa fl fc,S ra rl rc,S wa wl wc,U aS,S la ll lc,U aU,U ab,B ac,S ka kl kc,U nx,S sa sl sc,S ta tl tc,B up,S na nl nc,S ma ml mc]),.v (S ha hl hc)] [] K)=(
 (fun w8:LV=>(fun w7:LL=>∀a b:Nat,Y 31 w8 H fun c d=>∃e,c=U e/\(X aa H d->(¬e=0->K (T #[A #[U 0,S none 0 0,S none 0 0,S none 0 0,U 0,S none 0 0,U 0,U 0,B false,S none 0 0,U 0,S none 0 0,S none 0 0,B false,S none 0 0,S none 0 0],S none 0 0,U e]) [] d)/\(¬¬e=0->(150<(hl:Int)->K (T #[A #[U 0,S none 0 0,S none 0 0,S none 0 0,U 0,S none 0 0,U 0,U 0,B false,S none 0 0,U 0,S none 0 0,S none 0 0,B false,S none 0 0,S none 0 0],S none 0 0,U 2]) [] d)/\(¬150<(hl:Int)->Y 90 w8 d fun g h=>∃(i:Int)(j:O)(k l:Nat)(m:O)(n o:Nat)(p:O)(q r:Nat)(s:Int)(t:O)(u v:Nat)(w x:Int)(y:Bool)(z:O)(a1 b1:Nat)(c1:Int)(d1:O)(e1 f1:Nat)(g1:O)(h1 i1:Nat)(j1:Bool)(k1:O)(l1 m1:Nat)(n1:O)(o1 p1:Nat),(fun w6:AV=>g=A w6/\(X aa d h->∃(q1:NI)(r1:Nat),q1 r1 [S none 0 0,U 0,A w6] h/\∀(s1:Nat)(t1:O)(u1 v1:Nat)(w1 x1:Int)(y1:O)(z1 a2:Nat)(b2:O)(c2 d2:Nat)(e2:O)(f2 g2:Nat)(h2:Int)(i2:O)(j2 k2:Nat)(l2 m2:Int)(n2:Bool)(o2:O)(p2 q2:Nat)(r2:Int)(s2:O)(t2 u2:Nat)(v2:O)(w2 x2:Nat)(y2:Bool)(z2:O)(a3 b3:Nat)(c3:O)(d3 e3:Nat)(f3:Heap),(fun w5:AV=>X aa H f3->q1 s1 [S t1 u1 v1,U w1,A w5] f3->(w1<(hl:Int)->∃g3 h3,ha=some (D g3 h3 none)/\0<=w1/\w1<(hl:Int)/\∃(i3 j3 k3:Int)(l3:Bool)(m3:O)(n3 o3:Nat),(C f3 g3 (h3+N w1*5)=some (U i3)/\C f3 g3 (h3+N w1*5+1)=some (U j3)/\C f3 g3 (h3+N w1*5+2)=some (U k3)/\C f3 g3 (h3+N w1*5+3)=some (B l3)/\C f3 g3 (h3+N w1*5+4)=some (S m3 n3 o3)/\True)/\∀p3:Nat,Y 90 [A w5] f3 fun q3 r3=>∃s3 t3 u3 v3 w3 x3 y3 z3 a4 b4 c4 d4 e4 f4 g4 h4 i4 j4 k4 l4 m4 n4 o4 p4 q4 r4 s4 t4 u4 v4 w4 x4 y4 z4,q3=A #[U s3,S t3 u3 v3,S w3 x3 y3,S z3 a4 b4,U c4,S d4 e4 f4,U g4,U h4,B i4,S j4 k4 l4,U m4,S n4 o4 p4,S q4 r4 s4,B t4,S u4 v4 w4,S x4 y4 z4]/\(X aa f3 r3->∀a5:Nat,∃(b5:cY)(c5:WA)(d5:Heap)(e5:List (List Value))(f5:gX)(g5:O)(h5 i5:Nat),(TJ s3 t3 u3 v3 w3 x3 y3 z3 a4 b4 c4 d4 e4 f4 g4 h4 i4 j4 k4 l4 m4 n4 o4 p4 q4 r4 s4 t4 u4
 v4 w4 x4 y4 z4 b5 c5 i3 j3 k3 l3 m3 n3 o3 f5 g5 h5 i5)/\iH aa d5 r3 b5 c5 e5 f5 g5 h5/\b5=b5/\∀(j5:Int)(k5:cY)(l5:WA)(m5:Heap)(n5:List (List Value))(o5:Heap),jI (bO b5 f5) aa d5 r3 b5 c5 j5 k5 l5 m5 n5 o5->(j5=0->∀p5:Nat,∃q5:List Value,bg aa o5 42 1 t1 u1 v1 q5/\(u1+1)*8<=140737488355328/\u1+1<=9223372036854775807/\∀(r5:O)(s5:Nat)(t5:Heap),cu aa o5 t5 t1 v1 r5 s5 (u1+1)->bg aa t5 42 1 r5 (u1+1) s5 (q5++[U j5])->∀u5:Int,u5=W Z (w1+1)->w7=w7/\∃v5:Nat,v5<s1/\q1 v5 [S r5 (u1+1) s5,U u5,A (aQ k5 l5).toArray] t5)/\(¬j5=0->∀p5:Nat,∃q5:List Value,bg aa o5 42 1 t1 u1 v1 q5/\(u1+1)*8<=140737488355328/\u1+1<=9223372036854775807/\∀(r5:O)(s5:Nat)(t5:Heap),cu aa o5 t5 t1 v1 r5 s5 (u1+1)->bg aa t5 42 1 r5 (u1+1) s5 (q5++[U j5])->∀u5:Int,u5=W Z (w1+1)->w7=w7/\∃v5:Nat,v5<s1/\q1 v5 [S r5 (u1+1) s5,U u5,A w5] t5)))/\(¬w1<(hl:Int)->K (T #[A w5,S t1 u1 v1,U 0]) [] f3)) #[U x1,S y1 z1 a2,S b2 c2 d2,S e2 f2 g2,U h2,S i2 j2 k2,U l2,U m2,B n2,S o2 p2 q2,U r2,S s2 t2 u2,S v2 w2 x2,B y2,S z2 a3 b3,S c3 d3 e3])) #[U i,S j k l,S m n o,S p q r,U s,S t u v,U w,U x,B y,S z a1 b1,U c1,S d1 e1 f1,S g1 h1 i1,B j1,S k1 l1 m1,S n1 o1 p1])))) [[U 0,S none 0 0,S none 0 0,S none 0 0,U 0,S none 0 0,U 0,U 0,B false,S none 0 0,U 0,S none 0 0,S none 0 0,B false,S none 0 0,S none 0 0]]) [A #[U id,S fa fl fc,S ra rl rc,S wa wl wc,U aS,S la ll lc,U aU,U ab,B ac,S ka kl
 kc,U nx,S sa sl sc,S ta tl tc,B up,S na nl nc,S ma ml mc]]):=by kernel_rfl
open Go Go.Proofs
open Go.ChangeShapes Go.WideShapes Go.ChangeAt Go.RowKit
theorem CS{w:World}(h:bL [] w w'):w.keptBut w' (fun _=>False):=by
 refine⟨h.os,h.output,fun i hi=>?_⟩;rw[h.block i hi (by simp)];split
 ·simp_all
 ·rename_i e1 e2;rw[e1] at e2;cases e2;exact .inr ⟨rfl,rfl⟩
 ·rfl
theorem CU{HH:Type}{dk:TypeId×Value->HH}{P:Program}{f:Func}{s:ChangeSpec}{apart fresh handsOn:Bool}{W W':World}{args:Array Value}{ds gs:List (DataW HH)}{before pa pv:List MemPlace}
  (hW:DataW.Whole dk P f.params.toList s.vars apart W args.toList ds gs before)
  (D3:∀(b:Nat)(sp:Nat->Bool)(hd:Bool),DataW.TrodAll dk P W' b sp hd f.resultTypes.toList (v.resultList f.resultTypes.size) (s.fn HH (ds++gs)).results [])
  (dE:DataW.TrodAll dk P W' 0 (fun b=>decide (b<W.heap.size)) true f.params.toList args.toList (s.fn HH (ds++gs)).args pa)
  (ZQ:DataW.TrodVars dk P W' (fun b=>decide (b<W.heap.size)) s.vars (s.fn HH (ds++gs)).vars pv)
  (hk:bL [] W W'):s.post dk P f apart fresh handsOn false W args v W':=
 ⟨ds,gs,before,[],pa,pv,hW,D3 _ _ _,dE,ZQ,World.keptBut_mono (fun _ hp=>hp.elim) (CS hk),fun h=>by cases h⟩
theorem bS.calls{P:Program}{r:Value}(h:bS P f args H fun v _=>v=r){w:World}(hs:fD H w):Calls P f args.toArray w fun e w'=>e= .returned r/\bL [] w w':=
 Calls.mono (h w hs ⟨by simp,by simp,by simp⟩) fun e w' he=>by
  obtain⟨v,iy,H',h1,h2,h3,h4,h5,h6,h7⟩:=he;exact⟨by rw[h1,h7],by simpa using h3⟩
theorem Tryzown:ownKnob Tryz.prog.godebug=none:=by kernel_rfl
end Go.Vg
namespace Go.Proofs.YtgaegoefbekndaaGreatDoor
open Go Go.Proofs Go.Vg
theorem CV:Program.mayEnter Tryz.pinned.checked.prog=true:=by kernel_rfl
theorem wN:Program.liftsFinal Tryz.pinned.checked.prog=false:=by kernel_rfl
theorem R3:Program.make Tryz.pinned.checked.prog=some .cut:=by kernel_rfl
end Go.Proofs.YtgaegoefbekndaaGreatDoor
namespace Go.Vg
open Go Go.Proofs
open Go.ChangeShapes Go.WideShapes Go.ChangeAt Go.RowKit
def jT(w:World):Heap:=fun b=>
 match w.heap[b]? with
 |some (.cells cur ty fr)=>some ⟨ty,cur.size,decide (fr=(0,0)),fun j=>cur[j]?⟩
 |_=>none
theorem wM(w:World):fD (jT w) w:=by
 intro b k h;unfold jT at h;split at h
 ·rename_i cur ty fr hw;obtain rfl:=zy h;exact⟨cur,fr,hw,rfl,fun h=>by simpa using h,fun j v hj=>hj⟩
 ·cases h
theorem rU{w:World}{s:Option Nat}(h:w.cell? ⟨b,o,s⟩=some v):s=none/\(jT w).cell b o=some v:=by
 unfold World.cell? at h;unfold Heap.cell jT;split at h
 ·rename_i c t f hw;split at h
  ·cases h
  ·rename_i hs;dsimp only at hw;rw[hw];exact⟨by cases s with|none=>rfl|some x=>simp at hs,by simpa using h⟩
 ·cases h
theorem MJ{w:World}{a:Addr}{n:Nat}(h:w.cells? aa a n=some cs):cs.length=n/\∀(j:Nat) v,cs[j]?=some v->w.cell? (a.add j)=some v:=by
 obtain⟨h1,h2⟩:cs.length=n/\∀(j:Nat) v,cs[j]?=some v->w.cell? (a.add j)=some v:=by
  unfold World.cells? at h;split at h
  ·have hl:=mapM_some_length h;refine⟨by simpa using hl,fun j v hj=>?_⟩;have hjn:j<n:=by have:=(zw.1 hj).1;simp at hl;omega
   have:=mapM_some_get h j j (by simp[hjn]);rw[this];exact hj
  ·cases h
 exact⟨h1,h2⟩
theorem xK{α:Type}{Q:Nat->α->Prop} :∀(n:Nat),(∀i,i<n->∃x,Q i x)->∃xs:List α,xs.length=n/\∀(i:Nat) x,xs[i]?=some x->Q i x
 |0,_=>⟨[],rfl,by simp⟩
 |n+1,h=>by
  obtain⟨xs,hl,hq⟩:=xK n fun i hi=>h i (by omega);obtain⟨x,hx⟩:=h n (by omega);refine⟨xs++[x],by simp[hl],fun i y hy=>?_⟩;by_cases hi:i<n
  ·rw[zU (by omega)] at hy;exact hq i y hy
  ·rw[zY (by omega)] at hy
   have:i=n:=by
    have:=(zw.1 hy).1;simp at this;omega
   subst this;rw[hl,Nat.sub_self] at hy;simp at hy;subst hy;exact hx
section
variable {HH : Type} {dk : TypeId × Value->HH} {P : Program} {w : World} {aa : Nat} {spare : Nat->Bool} {held : Bool}
def cP(dk:TypeId×Value->HH)(P:Program)(w:World)(aa:Nat)(spare:Nat->Bool)(held:Bool)(t:TypeId){α:Type}(R:jq α):Prop:=
 ∀(jS:Nat)(cs:List Value)(x:DataW HH×List MemPlace),DataW.trod dk P w aa spare held jS t cs=some x->∃y:α,R (jT w) cs y
theorem MK(ht:P.underlying t=some (.int .i64)):cP dk P w aa spare held t ft:=fun _ _ _ h=>by
 obtain⟨n,rfl,_⟩:=DataW.trod_int ht h;exact⟨n,rfl⟩
theorem gf{e:TypeId}{α:Type}{R:jq α}(ht:P.underlying t=some (.slice e))(hc:P.cellsOf e=sz)(h0:0<sz)(hR:cP dk P w aa spare held e R)(hlen:∀ {H:Heap} {r:List Value} {x:α},R H r x->r.length=sz):
  cP dk P w aa spare held t (oX R sz):=fun jS cs x h=>by
 rcases DataW.trod_slice ht h with⟨rfl,rfl⟩|⟨a,len,cap,elems,rest,n,rfl,rfl,rfl,hb,hl,hm,hlen',hel,_,_⟩
 ·exact⟨[],none,0,0,rfl,Sl.nil⟩
 ·have FL:maxLen=9223372036854775807:=rfl
  have each:∀i,i<len->∃(y:α),∃r,R (jT w) r y/\∀(j:Nat) v,r[j]?=some v->w.cell? ((a.add (i*sz)).add j)=some v:=by
   intro i hi;have:=hel i hi;rw[zu (by omega),Option.bind_eq_some_iff] at this;obtain⟨oI,Ib,hd⟩:=this;obtain⟨y,hy⟩:=hR _ _ _ hd;rw[hc] at Ib;exact⟨y,oI,hy,fun j v hj=>(MJ Ib).2 j v hj⟩
  obtain⟨xs,nb,Se⟩:=xK len each;refine⟨xs,some a,len,cap,rfl,nb,by omega,fun FK=>?_⟩;obtain⟨b,o,s⟩:=a
  have hs:s=none:=by
   obtain⟨y,r,hr,hv⟩:=each 0 FK;have Gx:=hlen hr;have:=hv 0 (r[0]'(by omega)) (zu (by omega));rw[Nat.zero_mul] at this;exact(rU (by simpa[Addr.add] using this)).1
  subst hs;refine⟨b,o,rfl,fun i y hy=>?_⟩;obtain⟨r,hr,hv⟩:=Se i y hy;refine⟨r,hr,fun j v hj=>?_⟩;have h1:=hv j v hj
  have e1:((⟨b,o,none⟩:Addr).add (i*sz)).add j=⟨b,o+i*sz+j,none⟩:=by
   unfold Addr.add;split<;>split<;>simp_all
  rw[e1] at h1;exact(rU h1).2
theorem ft.len{x:Int}(h:ft H r x):r.length=1:=by cases h;rfl
theorem uT.len{x:Bool}(h:uT H r x):r.length=1:=by cases h;rfl
theorem oX.len{α:Type}{R:jq α}{x:List α}(h:oX R sz H r x):r.length=1:=by obtain⟨a,n,c,rfl,_⟩:=h;rfl
theorem Ly{r:Reach}{e:TypeId}{α:Type}{R:jq α}{d:DataW HH}{ps:List MemPlace}(ht:P.underlying t=some (.slice e))(vS:Value.okWide P w r b0 t v)
  (hR:cP dk P w aa spare held t (oX R sz)) (hd:DataW.Trod dk P w aa spare held t v d ps):∃a n c xs,v= .slice a n c/\Sl R sz (jT w) a n xs/\n<=c:=by
 obtain⟨a,n,c,rfl⟩:=okWide_slice ht vS;obtain⟨jS,hf⟩:=hd;obtain⟨xs,a',n',c',h,hs⟩:=hR _ _ _ hf;simp[Value.cells] at h;obtain⟨rfl,rfl,rfl⟩:=h;refine⟨a,n,c,xs,rfl,hs,?_⟩;rcases DataW.trod_slice ht hf with⟨h,_⟩|⟨a2,len,cap,elems,rest,m,_,h,_,_,hl,_⟩
 ·simp[Value.cells] at h;omega
 ·simp[Value.cells] at h;omega
theorem nq{r:Reach}{fs:Array Field}{α:Type}{R:jq α}{d:DataW HH}{ps:List MemPlace}(ht:P.underlying t=some (.struct fs))(vS:Value.okWide P w r b0 t v)
  (hR:cP dk P w aa spare held t R) (hd:DataW.Trod dk P w aa spare held t v d ps):∃(cs:List Value)(x:α),v= .agg cs.toArray/\R (jT w) cs x:=by
 obtain⟨cs,rfl,_⟩:=okWide_struct ht vS;obtain⟨jS,hf⟩:=hd;obtain⟨x,hx⟩:=hR _ _ _ hf;exact⟨cs.toList,x,by simp,by simpa[Value.cells] using hx⟩
theorem yL(h:bL [] w w'){p:MemPlace}(hp:p.block<w.heap.size):w.sameAt w' p:=by
 cases p with
 |cell b o=>
  have:=h.block b hp (by simp)
  show w'.cell? ⟨b,o,none⟩=w.cell? ⟨b,o,none⟩
  unfold World.cell?;dsimp only
  rw[this]
 |map b=>exact h.block b hp (by simp)
theorem tO{w':World}(K:Kids P (· <P.types.size))(kv:∀ {t e:TypeId},t<P.types.size->P.underlying t=some (.slice e)->0<P.cellsOf e)(hb:bL [] w w'):
  ∀ {ts:List TypeId} {vs:List Value} {ds:List (DataW HH)} {ps:List MemPlace},(∀t∈ts,t<P.types.size)->DataW.TrodAll dk P w 0 (fun _=>true) true ts vs ds ps->
   DataW.TrodAll dk P w' 0 (fun b=>decide (b<w.heap.size)) true ts vs ds ps
 | [],[],[],ps,_,h=>h
 |t::ts,v::vs,d::ds,ps,ht,h=>by
  obtain⟨p,q,⟨jS,h1⟩,h2,rfl⟩:=h;refine⟨p,q,⟨jS,?_⟩,tO K kv hb (fun x hx=>ht x (zj _ hx)) h2,rfl⟩;have bK:=DataW.trod_lt jS t _ _ h1
  exact DataW.trod_stays K kv (fun h=>by cases h) (ht t zr) h1 (fun p hp=>yL hb (bK p hp)) (fun p hp=>by simpa using bK p hp)
 | [],_::_,_,_,_,h=>h.elim
 | [],[],_::_,_,_,h=>h.elim
 |_::_,[],_,_,_,h=>h.elim
 |_::_,_::_,[],_,_,h=>h.elim
end
def xL(P:Program):Bool:=(yi P.types.size).all fun t=>match P.underlying t with|some (.slice e)=>decide (0<P.cellsOf e)|_=>true
theorem PF{P:Program}(h:xL P=true){e:TypeId}(ht:t<P.types.size)(hu:P.underlying t=some (.slice e)):0<P.cellsOf e:=by
 have:=yf.1 h t (yZ.2 ht);simpa[hu] using this
theorem Tryzkids:Kids Tryz.prog (· < Tryz.prog.types.size):=kids_rows (by kernel_rfl) (by kernel_rfl)
theorem Tryzsized:xL Tryz.prog=true:=by kernel_rfl
theorem TryztrodAll{HH:Type}{dk:TypeId×Value->HH}{w:World}(hb:bL [] w w'){ts:List TypeId}{ds:List (DataW HH)}{ps:List MemPlace}(ht:∀t∈ts,t< Tryz.prog.types.size)(h:DataW.TrodAll dk Tryz.prog w 0 (fun _=>true) true ts vs ds ps):
  DataW.TrodAll dk Tryz.prog w' 0 (fun b=>decide (b<w.heap.size)) true ts vs ds ps:=tO Tryzkids (PF Tryzsized) hb ht h
open Go Go.Proofs
open Go.ChangeShapes Go.WideShapes Go.ChangeAt Go.RowKit
section
variable {HH : Type} {dk : TypeId × Value->HH} {w : World} {aa : Nat} {spare : Nat->Bool} {held : Bool}
theorem fieldAt{P:Program}{fs:Array Field}{x:DataW HH×List MemPlace}(ht:P.underlying t=some (.struct fs))(h:DataW.trod dk P w aa spare held jS t cs=some x){f:Field}(hf:fs[i]?=some f):
  ∃n y,DataW.trod dk P w aa spare held n f.type ((cs.drop f.offset).take (P.cellsOf f.type))=some y:=by
 obtain⟨xs,n,rfl,rfl,_,hl,hx⟩:=DataW.trod_struct ht h;have hi:i<fs.size:=(zK.1 hf).1;exact⟨n,xs[i]'(by omega),by rw[hx i f hf,zu (by omega)]⟩
theorem fC{P:Program}{fs:Array Field}{x:DataW HH×List MemPlace}(ht:P.underlying t=some (.struct fs))(h:DataW.trod dk P w aa spare held jS t cs=some x):cs.length=P.cellsOf t:=by
 obtain⟨xs,n,rfl,rfl,hl,_⟩:=DataW.trod_struct ht h;exact hl
theorem eo{P:Program}{fs:Array Field}{x:DataW HH×List MemPlace}(ht:P.underlying t=some (.struct fs))(h:DataW.trod dk P w aa spare held jS t cs=some x){f:Field}(hf:fs[i]?=some f)
  (hu:P.underlying f.type=some (.int .i64)) (hc:P.cellsOf f.type=1) (ho:f.offset=k):∃n:Int,cs[k]?=some (i64 n)/\ -9223372036854775808<=n/\n<=9223372036854775807:=by
 obtain⟨m,y,hy⟩:=fieldAt ht h hf;obtain⟨n,h1,_,hw⟩:=DataW.trod_int hu hy;rw[hc,ho] at h1;refine⟨n,?_,bounds_i64 hw⟩;have:((cs.drop k).take 1)[0]?=some (i64 n):=by rw[h1];rfl
 simpa using this
theorem jm{P:Program}{fs:Array Field}{x:DataW HH×List MemPlace}(ht:P.underlying t=some (.struct fs))(h:DataW.trod dk P w aa spare held jS t cs=some x){f:Field}(hf:fs[i]?=some f)
  (hu:P.underlying f.type=some .bool) (hc:P.cellsOf f.type=1) (ho:f.offset=k):∃n:Bool,cs[k]?=some (.bool n):=by
 obtain⟨m,y,hy⟩:=fieldAt ht h hf;obtain⟨n,h1,_⟩:=DataW.trod_bool hu hy;rw[hc,ho] at h1;refine⟨n,?_⟩;have:((cs.drop k).take 1)[0]?=some (.bool n):=by rw[h1];rfl
 simpa using this
theorem JO(h:cs.length=2){x:Value}(h0:cs[0]?=some x)(h1:cs[1]?=some y):cs=[x,y]:=by
 match cs,h with
 | [a,b],_=>simp at h0 h1;rw[h0,h1]
theorem Vq(h:cs.length=4){x z u:Value}(h0:cs[0]?=some x)(h1:cs[1]?=some y)(h2:cs[2]?=some z)(h3:cs[3]?=some u):cs=[x,y,z,u]:=by
 match cs,h with
 | [a,b,c,d],_=>simp at h0 h1 h2 h3;rw[h0,h1,h2,h3]
theorem gT.len{α:Type}{e:α->List Value}(hs:∀x,(e x).length=sz){x:α}(h:gT e H r x):r.length=sz:=by cases h;exact hs x
theorem ML:cP dk Tryz.prog w aa spare held 91 Ul:=fun jS cs x h=>by
 have c3: Tryz.prog.cellsOf 3=1:=by kernel_rfl
 have c48: Tryz.prog.cellsOf 91=2:=by kernel_rfl
 have hl:=fC Tryz.underlying91 h;rw[c48] at hl;obtain⟨a,ha,_⟩:=eo Tryz.underlying91 h (i:=0) rfl Tryz.underlying3 c3 rfl;obtain⟨b,hb,_⟩:=eo Tryz.underlying91 h (i:=1) rfl Tryz.underlying3 c3 rfl;exact⟨⟨a,b⟩,JO hl ha hb⟩
theorem JP:cP dk Tryz.prog w aa spare held 152 N1:=fun jS cs x h=>by
 have c3: Tryz.prog.cellsOf 3=1:=by kernel_rfl
 have c54: Tryz.prog.cellsOf 152=4:=by kernel_rfl
 have hl:=fC Tryz.underlying152 h;rw[c54] at hl;obtain⟨a,ha,_⟩:=eo Tryz.underlying152 h (i:=0) rfl Tryz.underlying3 c3 rfl;obtain⟨b,hb,_⟩:=eo Tryz.underlying152 h (i:=1) rfl Tryz.underlying3 c3 rfl;obtain⟨c,hc,_⟩:=eo Tryz.underlying152 h (i:=2) rfl Tryz.underlying3 c3 rfl;obtain⟨d,hd,_⟩:=eo Tryz.underlying152 h (i:=3) rfl Tryz.underlying3 c3 rfl;exact⟨⟨a,b,c,d⟩,Vq hl ha hb hc hd⟩
theorem qk:cP dk Tryz.prog w aa spare held 22 (oX Ul 2):=gf Tryz.underlying22 (by kernel_rfl) (by omega) ML (gT.len cJ)
theorem HE:cP dk Tryz.prog w aa spare held 25 (oX N1 4):=gf Tryz.underlying25 (by kernel_rfl) (by omega) JP (gT.len lQ)
theorem JQ:cP dk Tryz.prog w aa spare held 97 (oX ft 1):=gf Tryz.underlying97 (by kernel_rfl) (by omega) (MK Tryz.underlying3) ft.len
theorem HF:cP dk Tryz.prog w aa spare held 26 (oX (oX ft 1) 1):=gf Tryz.underlying26 (by kernel_rfl) (by omega) JQ oX.len
end
open Go Go.Proofs
open Go.ChangeShapes Go.WideShapes Go.ChangeAt Go.RowKit
section
variable {HH : Type} {dk : TypeId × Value->HH} {w : World} {aa : Nat} {spare : Nat->Bool} {held : Bool}
theorem lU{P:Program}{fs:Array Field}{x:DataW HH×List MemPlace}(ht:P.underlying t=some (.struct fs))(h:DataW.trod dk P w aa spare held jS t cs=some x){f:Field}(hf:fs[i]?=some f){α:Type}{R:jq α}
  (hR:cP dk P w aa spare held f.type (oX R sz)) (hc:P.cellsOf f.type=1) (ho:f.offset=k):∃a n c xs,cs[k]?=some (.slice a n c)/\Sl R sz (jT w) a n xs:=by
 obtain⟨m,y,hy⟩:=fieldAt ht h hf;obtain⟨xs,a,n,c,h1,hs⟩:=hR _ _ _ hy;rw[hc,ho] at h1;refine⟨a,n,c,xs,?_,hs⟩;have:((cs.drop k).take 1)[0]?=some (.slice a n c):=by rw[h1];rfl
 simpa using this
theorem gG{P:Program}{fs:Array Field}{x:DataW HH×List MemPlace}(ht:P.underlying t=some (.struct fs))(h:DataW.trod dk P w aa spare held jS t cs=some x){f:Field}(hf:fs[i]?=some f){n:Nat}{α:Type}{R:jq α}
  (hR:cP dk P w aa spare held f.type R) (hc:P.cellsOf f.type=n) (ho:f.offset=k):∃x:α,R (jT w) ((cs.drop k).take n) x:=by
 obtain⟨m,y,hy⟩:=fieldAt ht h hf;obtain⟨x,hx⟩:=hR _ _ _ hy;rw[hc,ho] at hx;exact⟨x,hx⟩
def RRel:jq kU:=fun H r x=>∃a n c,r=[i64 x.id,.slice a n c]/\aL H a n x.ap
theorem wG:cP dk Tryz.prog w aa spare held 24 RRel:=fun jS cs x h=>by
 have c3: Tryz.prog.cellsOf 3=1:=by kernel_rfl
 have c40: Tryz.prog.cellsOf 22=1:=by kernel_rfl
 have c59: Tryz.prog.cellsOf 24=2:=by kernel_rfl
 have hl:=fC Tryz.underlying24 h;rw[c59] at hl;obtain⟨i,hi,_⟩:=eo Tryz.underlying24 h (i:=0) rfl Tryz.underlying3 c3 rfl;obtain⟨a,n,c,xs,ha,hp⟩:=lU Tryz.underlying24 h (i:=1) rfl qk c40 rfl;exact⟨⟨i,xs⟩,a,n,c,JO hl hi ha,hp⟩
theorem JR:cP dk Tryz.prog w aa spare held 74 cK:=fun jS cs x h=>by
 have c3: Tryz.prog.cellsOf 3=1:=by kernel_rfl
 have c4: Tryz.prog.cellsOf 4=1:=by kernel_rfl
 have c59: Tryz.prog.cellsOf 24=2:=by kernel_rfl
 have c61: Tryz.prog.cellsOf 74=6:=by kernel_rfl
 have hl:=fC Tryz.underlying74 h;rw[c61] at hl;obtain⟨ag,h0,_⟩:=eo Tryz.underlying74 h (i:=0) rfl Tryz.underlying3 c3 rfl;obtain⟨tr,h1,_⟩:=eo Tryz.underlying74 h (i:=1) rfl Tryz.underlying3 c3 rfl;obtain⟨rp,h2⟩:=jm Tryz.underlying74 h (i:=2) rfl Tryz.underlying4 c4 rfl;obtain⟨gd,h3⟩:=jm Tryz.underlying74 h (i:=3) rfl Tryz.underlying4 c4 rfl;obtain⟨r,a,n,c,h4,hp⟩:=gG Tryz.underlying74 h (i:=4) rfl wG c59 rfl;refine⟨⟨ag,tr,rp,gd,r⟩,a,n,c,?_,hp⟩
 match cs,hl with
 | [x0,x1,x2,x3,x4,x5],_=>
  simp at h0 h1 h2 h3 h4;obtain⟨rfl,rfl⟩:=h4;subst h0 h1 h2 h3;rfl
theorem HG:cP dk Tryz.prog w aa spare held 39 (oX cK 6):=gf Tryz.underlying39 (by kernel_rfl) (by omega) JR cK.len
end
open Go Go.Proofs
open Go.ChangeShapes Go.WideShapes Go.ChangeAt Go.RowKit
section
variable {HH : Type} {dk : TypeId × Value->HH} {w : World} {aa : Nat} {spare : Nat->Bool} {held : Bool}
def RAgt:jq lS:=fun H r x=>∃a n c ga gn gc,r=[.slice a n c,i64 x.ck,i64 x.au,.bool x.going,i64 x.ab.id,.slice ga gn gc,.bool x.aP]/\aL H a n x.ap/\aL H ga gn x.ab.ap
theorem MM:cP dk Tryz.prog w aa spare held 46 RAgt:=fun jS cs x h=>by
 have c3: Tryz.prog.cellsOf 3=1:=by kernel_rfl
 have c4: Tryz.prog.cellsOf 4=1:=by kernel_rfl
 have c40: Tryz.prog.cellsOf 22=1:=by kernel_rfl
 have c59: Tryz.prog.cellsOf 24=2:=by kernel_rfl
 have c86: Tryz.prog.cellsOf 46=7:=by kernel_rfl
 have hl:=fC Tryz.underlying46 h;rw[c86] at hl;obtain⟨a,n,c,xs,h0,hp⟩:=lU Tryz.underlying46 h (i:=0) rfl qk c40 rfl;obtain⟨ck,h1,_⟩:=eo Tryz.underlying46 h (i:=1) rfl Tryz.underlying3 c3 rfl;obtain⟨tr,h2,_⟩:=eo Tryz.underlying46 h (i:=2) rfl Tryz.underlying3 c3 rfl;obtain⟨go,h3⟩:=jm Tryz.underlying46 h (i:=3) rfl Tryz.underlying4 c4 rfl;obtain⟨r,ga,gn,gc,h4,hg⟩:=gG Tryz.underlying46 h (i:=4) rfl wG c59 rfl;obtain⟨gd,h5⟩:=jm Tryz.underlying46 h (i:=5) rfl Tryz.underlying4 c4 rfl;refine⟨⟨xs,ck,tr,go,r,gd⟩,a,n,c,ga,gn,gc,?_,hp,hg⟩
 match cs,hl with
 | [x0,x1,x2,x3,x4,x5,x6],_=>
  simp at h0 h1 h2 h3 h4 h5;obtain⟨rfl,rfl⟩:=h4;subst h0 h1 h2 h3 h5;rfl
end
open Go Go.Proofs
open Go.ChangeShapes Go.WideShapes Go.ChangeAt Go.RowKit
section
variable {HH : Type} {dk : TypeId × Value->HH} {w : World} {aa : Nat} {spare : Nat->Bool} {held : Bool}
theorem PG:cP dk Tryz.prog w aa spare held 95 (gT gP):=fun jS cs x h=>by
 have c3: Tryz.prog.cellsOf 3=1:=by kernel_rfl
 have c4: Tryz.prog.cellsOf 4=1:=by kernel_rfl
 have c111: Tryz.prog.cellsOf 95=3:=by kernel_rfl
 have hl:=fC Tryz.underlying95 h;rw[c111] at hl;obtain⟨st,h0,_⟩:=eo Tryz.underlying95 h (i:=0) rfl Tryz.underlying3 c3 rfl;obtain⟨tr,h1,_⟩:=eo Tryz.underlying95 h (i:=1) rfl Tryz.underlying3 c3 rfl;obtain⟨bk,h2⟩:=jm Tryz.underlying95 h (i:=2) rfl Tryz.underlying4 c4 rfl;refine⟨⟨st,tr,bk⟩,?_⟩
 match cs,hl with
 | [x0,x1,x2],_=>
  simp at h0 h1 h2;subst h0 h1 h2;rfl
theorem MN:cP dk Tryz.prog w aa spare held 30 (oX (gT gP) 3):=gf Tryz.underlying30 (by kernel_rfl) (by omega) PG (gT.len j9)
theorem PH:cP dk Tryz.prog w aa spare held 24 Ai:=fun jS cs x h=>by
 have c3: Tryz.prog.cellsOf 3=1:=by kernel_rfl
 have c40: Tryz.prog.cellsOf 22=1:=by kernel_rfl
 have c59: Tryz.prog.cellsOf 24=2:=by kernel_rfl
 have hl:=fC Tryz.underlying24 h;rw[c59] at hl;obtain⟨i,hi,h1,h2⟩:=eo Tryz.underlying24 h (i:=0) rfl Tryz.underlying3 c3 rfl;obtain⟨a,n,c,xs,ha,hp⟩:=lU Tryz.underlying24 h (i:=1) rfl qk c40 rfl;exact⟨⟨i,xs⟩,a,n,c,JO hl hi ha,hp,h1,h2⟩
theorem MO:cP dk Tryz.prog w aa spare held 29 (oX Ai 2):=gf Tryz.underlying29 (by kernel_rfl) (by omega) PH Ai.len
def ZR:jq dM:=fun H r x=>∃fa fl fc ra rl rc wa wl wc,r=[i64 x.first.id,.slice fa fl fc,.slice ra rl rc,.slice wa wl wc,i64 x.aS]/\fB H x fa fl ra rl wa wl
theorem Au:cP dk Tryz.prog w aa spare held 28 ZR:=fun jS cs x h=>by
 have c3: Tryz.prog.cellsOf 3=1:=by kernel_rfl
 have c41: Tryz.prog.cellsOf 25=1:=by kernel_rfl
 have c27: Tryz.prog.cellsOf 26=1:=by kernel_rfl
 have c59: Tryz.prog.cellsOf 24=2:=by kernel_rfl
 have c101: Tryz.prog.cellsOf 28=5:=by kernel_rfl
 have hl:=fC Tryz.underlying28 h;rw[c101] at hl;obtain⟨r,fa,fl,fc,h0,hp⟩:=gG Tryz.underlying28 h (i:=0) rfl wG c59 rfl;obtain⟨ra,rl,rc,rs,h1,hr⟩:=lU Tryz.underlying28 h (i:=1) rfl HE c41 rfl;obtain⟨wa,wl,wc,ws,h2,hw⟩:=lU Tryz.underlying28 h (i:=2) rfl HF c27 rfl;obtain⟨bd,h3,_⟩:=eo Tryz.underlying28 h (i:=3) rfl Tryz.underlying3 c3 rfl;refine⟨⟨r,rs,ws,bd⟩,fa,fl,fc,ra,rl,rc,wa,wl,wc,?_,hp,hr,hw⟩
 match cs,hl with
 | [x0,x1,x2,x3,x4],_=>
  simp at h0 h1 h2 h3;obtain⟨rfl,rfl⟩:=h0;subst h1 h2 h3;rfl
def RLdr:jq jh:=fun H r x=>∃la ll lc ka kl kc,r=[.slice la ll lc,i64 x.aU,i64 x.ab,.bool x.ac,.slice ka kl kc,i64 x.nx]/\cQ H x la ll ka kl
theorem MP:cP dk Tryz.prog w aa spare held 32 RLdr:=fun jS cs x h=>by
 have c3: Tryz.prog.cellsOf 3=1:=by kernel_rfl
 have c4: Tryz.prog.cellsOf 4=1:=by kernel_rfl
 have c102: Tryz.prog.cellsOf 29=1:=by kernel_rfl
 have c103: Tryz.prog.cellsOf 30=1:=by kernel_rfl
 have c105: Tryz.prog.cellsOf 32=6:=by kernel_rfl
 have hl:=fC Tryz.underlying32 h;rw[c105] at hl;obtain⟨la,ll,lc,rs,h0,hr⟩:=lU Tryz.underlying32 h (i:=0) rfl MO c102 rfl;obtain⟨nw,h1,_⟩:=eo Tryz.underlying32 h (i:=1) rfl Tryz.underlying3 c3 rfl;obtain⟨gl,h2,_⟩:=eo Tryz.underlying32 h (i:=2) rfl Tryz.underlying3 c3 rfl;obtain⟨bk,h3⟩:=jm Tryz.underlying32 h (i:=3) rfl Tryz.underlying4 c4 rfl;obtain⟨ka,kl,kc,ks,h4,hk⟩:=lU Tryz.underlying32 h (i:=4) rfl MN c103 rfl;obtain⟨nx,h5,_⟩:=eo Tryz.underlying32 h (i:=5) rfl Tryz.underlying3 c3 rfl;refine⟨⟨rs,nw,gl,bk,ks,nx⟩,la,ll,lc,ka,kl,kc,?_,hr,hk⟩
 match cs,hl with
 | [x0,x1,x2,x3,x4,x5],_=>
  simp at h0 h1 h2 h3 h4 h5;subst h0 h1 h2 h3 h4 h5;rfl
end
open Go Go.Proofs
open Go.ChangeShapes Go.WideShapes Go.ChangeAt Go.RowKit
def ZS{α:Type}(R:jq α)(sz:Nat):jq (List α):=fun H r xs=>∃a n c,r=[.slice a n c]/\Sl R sz H a n xs/\n<=c
section
variable {HH : Type} {dk : TypeId × Value->HH} {w : World} {aa : Nat} {spare : Nat->Bool} {held : Bool}
theorem vF{P:Program}{e:TypeId}{α:Type}{R:jq α}(ht:P.underlying t=some (.slice e))(hR:cP dk P w aa spare held t (oX R sz)):cP dk P w aa spare held t (ZS R sz):=fun jS cs x h=>by
 obtain⟨xs,a,n,c,rfl,hs⟩:=hR jS cs x h;refine⟨xs,a,n,c,rfl,hs,?_⟩;rcases DataW.trod_slice ht h with⟨h,_⟩|⟨a2,len,cap,elems,rest,m,_,h,_,_,hl,_⟩
 ·simp at h;omega
 ·simp at h;omega
theorem PI{P:Program}(ht:P.underlying t=some (.int .u8)):cP dk P w aa spare held t (gT gz):=fun _ _ _ h=>by
 obtain⟨n,rfl,_,hw⟩:=DataW.trod_int ht h;have hb:0<=n/\n<=255:=bounds_u8 hw;refine⟨UInt8.ofNat n.toNat,?_⟩
 show [Value.int .u8 n]=[Value.int .u8 ((UInt8.ofNat n.toNat).toNat:Int)]
 rw[UInt8.toNat_ofNat']
 congr 2
 omega
theorem gT.len1{x:UInt8}(h:gT gz H r x):r.length=1:=by cases h;rfl
theorem xM:cP dk Tryz.prog w aa spare held 33 (oX (gT gz) 1):=gf Tryz.underlying33 (by kernel_rfl) (by omega) (PI Tryz.underlying5) gT.len1
theorem HI{P:Program}{fs:Array Field}{x:DataW HH×List MemPlace}(ht:P.underlying t=some (.struct fs))(h:DataW.trod dk P w aa spare held jS t cs=some x){f:Field}(hf:fs[i]?=some f){α:Type}{R:jq α}
  (hR:cP dk P w aa spare held f.type (ZS R sz)) (hc:P.cellsOf f.type=1) (ho:f.offset=k):∃a n c xs,cs[k]?=some (.slice a n c)/\Sl R sz (jT w) a n xs/\n<=c:=by
 obtain⟨m,y,hy⟩:=fieldAt ht h hf;obtain⟨xs,a,n,c,h1,hs,hle⟩:=hR _ _ _ hy;rw[hc,ho] at h1;refine⟨a,n,c,xs,?_,hs,hle⟩;have:((cs.drop k).take 1)[0]?=some (.slice a n c):=by rw[h1];rfl
 simpa using this
def RDsk:jq pj:=fun H r x=>∃sa sn sc wa wn wc,r=[.slice sa sn sc,.slice wa wn wc]/\cr H x sa sn sc wa wn wc
theorem B7:cP dk Tryz.prog w aa spare held 35 RDsk:=fun jS cs x h=>by
 have c22: Tryz.prog.cellsOf 33=1:=by kernel_rfl
 have c24: Tryz.prog.cellsOf 35=2:=by kernel_rfl
 have hl:=fC Tryz.underlying35 h;rw[c24] at hl;obtain⟨sa,sn,sc,xs,h0,hx,l0⟩:=HI Tryz.underlying35 h (i:=0) rfl (vF Tryz.underlying33 xM) c22 rfl;obtain⟨wa,wn,wc,ys,h1,hy,l1⟩:=HI Tryz.underlying35 h (i:=1) rfl (vF Tryz.underlying33 xM) c22 rfl;refine⟨⟨xs,ys⟩,sa,sn,sc,wa,wn,wc,?_,hx,hy,l0,l1⟩
 match cs,hl with
 | [x0,x1],_=>
  simp at h0 h1;subst h0 h1;rfl
end
open Go Go.Proofs
open Go.ChangeShapes Go.WideShapes Go.ChangeAt Go.RowKit
section
variable {HH : Type} {dk : TypeId × Value->HH} {w : World} {aa : Nat} {spare : Nat->Bool} {held : Bool}
def RHed:jq Th:=fun H r x=>∃la ll lc ka kl kc sa sl sc ta tl tc,r=[.slice la ll lc,i64 x.l.aU,i64 x.l.ab,.bool x.l.ac,.slice ka kl kc,i64 x.l.nx,.slice sa sl sc,.slice ta tl tc,.bool x.up]/\cQ H x.l la ll ka kl/\cr H x.d sa sl sc ta tl tc
theorem MQ:cP dk Tryz.prog w aa spare held 37 RHed:=fun jS cs x h=>by
 have cb: Tryz.prog.cellsOf 4=1:=by kernel_rfl
 have cL: Tryz.prog.cellsOf 32=6:=by kernel_rfl
 have cD: Tryz.prog.cellsOf 35=2:=by kernel_rfl
 have cH: Tryz.prog.cellsOf 37=9:=by kernel_rfl
 have hl:=fC Tryz.underlying37 h;rw[cH] at hl;obtain⟨l,la,ll,lc,ka,kl,kc,h0,g0⟩:=gG Tryz.underlying37 h (i:=0) rfl MP cL rfl;obtain⟨d,sa,sn,sc,wa,wn,wc,h1,g1⟩:=gG Tryz.underlying37 h (i:=1) rfl B7 cD rfl;obtain⟨u,h2⟩:=jm Tryz.underlying37 h (i:=2) rfl Tryz.underlying4 cb rfl;refine⟨⟨l,d,u⟩,la,ll,lc,ka,kl,kc,sa,sn,sc,wa,wn,wc,?_,g0,g1⟩
 match cs,hl with
 | [x0,x1,x2,x3,x4,x5,x6,x7,x8],_=>
  simp at h0 h1 h2;obtain⟨rfl,rfl,rfl,rfl,rfl,rfl⟩:=h0;obtain⟨rfl,rfl⟩:=h1;subst h2;rfl
theorem MR:cP dk Tryz.prog w aa spare held 58 dW:=fun jS cs x h=>by
 have cb: Tryz.prog.cellsOf 4=1:=by kernel_rfl
 have cA: Tryz.prog.cellsOf 46=7:=by kernel_rfl
 have cD: Tryz.prog.cellsOf 35=2:=by kernel_rfl
 have cN: Tryz.prog.cellsOf 58=10:=by kernel_rfl
 have hl:=fC Tryz.underlying58 h;rw[cN] at hl;obtain⟨l,la,ll,lc,ka,kl,kc,h0,g0,g0'⟩:=gG Tryz.underlying58 h (i:=0) rfl MM cA rfl;obtain⟨d,sa,sn,sc,wa,wn,wc,h1,g1⟩:=gG Tryz.underlying58 h (i:=1) rfl B7 cD rfl;obtain⟨u,h2⟩:=jm Tryz.underlying58 h (i:=2) rfl Tryz.underlying4 cb rfl;refine⟨⟨l,d,u⟩,⟨la,ll,lc,ka,kl,kc,sa,sn,sc,wa,wn,wc⟩,?_,g0,g0',g1⟩
 match cs,hl with
 | [x0,x1,x2,x3,x4,x5,x6,x7,x8,x9],_=>
  simp at h0 h1 h2;obtain⟨rfl,rfl,rfl,rfl,rfl,rfl,rfl⟩:=h0;obtain⟨rfl,rfl⟩:=h1;subst h2;rfl
theorem dW.ZT{x:ke}(h:dW H r x):r.length=10:=by obtain⟨q,rfl,_⟩:=h;rfl
theorem JS:cP dk Tryz.prog w aa spare held 38 (oX dW 10):=gf Tryz.underlying38 (by kernel_rfl) (by omega) MR dW.ZT
def RWld:jq cY:=fun H r x=>∃p,r=aQ x p/\bB H x p
theorem vT:cP dk Tryz.prog w aa spare held 41 RWld:=fun jS cs x h=>by
 have cC: Tryz.prog.cellsOf 28=5:=by kernel_rfl
 have cH: Tryz.prog.cellsOf 37=9:=by kernel_rfl
 have cn: Tryz.prog.cellsOf 38=1:=by kernel_rfl
 have cm: Tryz.prog.cellsOf 39=1:=by kernel_rfl
 have cW: Tryz.prog.cellsOf 41=16:=by kernel_rfl
 have hl:=fC Tryz.underlying41 h;rw[cW] at hl;obtain⟨c,fa,fl,fc,ra,rl,rc,wa,wl,wc,h0,g0⟩:=gG Tryz.underlying41 h (i:=0) rfl Au cC rfl;obtain⟨hd,la,ll,lc,ka,kl,kc,sa,sl,sc,ta,tl,tc,h1,g1,g1'⟩:=gG Tryz.underlying41 h (i:=1) rfl MQ cH rfl;obtain⟨na,nl,nc,ns,h2,g2⟩:=lU Tryz.underlying41 h (i:=2) rfl JS cn rfl;obtain⟨ma,ml,mc,ms,h3,g3⟩:=lU Tryz.underlying41 h (i:=3) rfl HG cm rfl;refine⟨⟨c,hd,ns,ms⟩,⟨fa,fl,fc,ra,rl,rc,wa,wl,wc,la,ll,lc,ka,kl,kc,sa,sl,sc,ta,tl,tc,na,nl,nc,ma,ml,mc⟩,?_,g0,g1,g1',g2,g3⟩
 match cs,hl with
 | [x0,x1,x2,x3,x4,x5,x6,x7,x8,x9,x10,x11,x12,x13,x14,x15],_=>
  simp at h0 h1 h2 h3;obtain⟨rfl,rfl,rfl,rfl,rfl⟩:=h0;obtain⟨rfl,rfl,rfl,rfl,rfl,rfl,rfl,rfl,rfl⟩:=h1;subst h2 h3;rfl
abbrev nR(x:gX)(a:O)(l c:Nat):List Value:=[i64 x.ae,i64 x.ah,i64 x.cj,.bool x.aP,.slice a l c]
def ow:jq gX:=fun H r x=>∃a l c,r=nR x a l c/\aL H a l x.ap
theorem ow.len(h:ow H r x):r.length=5:=by obtain⟨a,l,c,rfl,_⟩:=h;rfl
theorem CT:cP dk Tryz.prog w aa spare held 62 ow:=fun jS cs x h=>by
 have ci: Tryz.prog.cellsOf 3=1:=by kernel_rfl
 have cb: Tryz.prog.cellsOf 4=1:=by kernel_rfl
 have cp: Tryz.prog.cellsOf 22=1:=by kernel_rfl
 have cX: Tryz.prog.cellsOf 62=5:=by kernel_rfl
 have hl:=fC Tryz.underlying62 h;rw[cX] at hl;obtain⟨k,h0,_⟩:=eo Tryz.underlying62 h (i:=0) rfl Tryz.underlying3 ci rfl;obtain⟨g,h1,_⟩:=eo Tryz.underlying62 h (i:=1) rfl Tryz.underlying3 ci rfl;obtain⟨n,h2,_⟩:=eo Tryz.underlying62 h (i:=2) rfl Tryz.underlying3 ci rfl;obtain⟨b,h3⟩:=jm Tryz.underlying62 h (i:=3) rfl Tryz.underlying4 cb rfl;obtain⟨a,l,c,ps,h4,hp⟩:=lU Tryz.underlying62 h (i:=4) rfl qk cp rfl;refine⟨⟨k,g,n,b,ps⟩,a,l,c,?_,hp⟩
 match cs,hl with
 | [x0,x1,x2,x3,x4],_=>
  simp at h0 h1 h2 h3 h4;subst h0 h1 h2 h3 h4;rfl
theorem Im:cP dk Tryz.prog w aa spare held 72 (oX ow 5):=gf Tryz.underlying72 (by kernel_rfl) (by omega) CT ow.len
end
open Go Go.Proofs
def ou:cY:=⟨⟨⟨0,[]⟩,[],[],0⟩,⟨vj,sW,false⟩,[],[]⟩
def hY:WA:=⟨none,0,0,none,0,0,none,0,0,none,0,0,none,0,0,none,0,0,none,0,0,none,0,0,none,0,0⟩
def okW:Except Int cY->cY
 | .ok w=>w
 | .error _=>ou
theorem bB.zero :bB H ou hY:=⟨⟨Sl.nil,Sl.nil,Sl.nil⟩,⟨Sl.nil,Sl.nil⟩,cr.zero,Sl.nil,Sl.nil⟩
theorem MS(h:iz w x= .error e):e≠0:=by
 unfold iz at h;split at h
 ·rename_i hn;injection h with h;exact h▸hn
 ·split at h
  ·split at h
   ·injection h with h;omega
   ·split at h
    ·injection h with h;omega
    ·cases h
  ·split at h
   ·rename_i hl;injection h with h;exact h▸wE hl
   ·cases h
theorem MT(h:js w x n= .error e):e≠0:=by
 unfold js at h;split at h
 ·injection h with h;omega
 ·split at h
  ·rename_i hn;injection h with h;exact h▸hn
  ·split at h
   ·exact wF h
   ·split at h
    ·rename_i hl;injection h with h;exact h▸wF hl
    ·cases h
theorem JT(h:fL w x= .error e):e≠0:=by
 unfold fL at h;split at h
 ·split at h
  ·injection h with h;omega
  ·split at h
   ·rename_i hn;injection h with h;exact h▸hn
   ·split at h
    ·rename_i hl;injection h with h;exact h▸fY hl
    ·cases h
 ·split at h
  ·injection h with h;omega
  ·split at h
   ·injection h with h;omega
   ·split at h
    ·rename_i hn;injection h with h;exact h▸hn
    ·split at h
     ·rename_i hl;injection h with h;exact h▸fZ hl
     ·cases h
theorem MU(h:mm w x= .error e):e≠0:=by
 unfold mm at h;split at h
 ·rename_i hn;injection h with h;exact h▸hn
 ·split at h
  ·injection h with h;omega
  ·split at h
   ·injection h with h;omega
   ·dsimp only at h;split at h
    ·cases h
    ·split at h<;>cases h
theorem B8(h:bO w x= .error e):e≠0:=by
 unfold bO at h;split at h
 ·exact MU h
 ·split at h
  ·split at h
   ·rename_i hn;injection h with h;exact h▸hn
   ·cases h
  ·split at h
   ·split at h
    ·injection h with h;omega
    ·exact wE h
   ·split at h
    ·injection h with h;omega
    ·split at h
     ·injection h with h;omega
     ·split at h
      ·split at h
       ·injection h with h;omega
       ·exact MS h
      ·split at h
       ·exact JT h
       ·split at h
        ·injection h with h;omega
        ·split at h
         ·injection h with h;omega
         ·split at h
          ·exact MT h
          ·split at h
           ·injection h with h;omega
           ·cases h
theorem mE.shut{rows:List (List Value)}(h:mE aa G H w p rows):
  ∃G2,bB G2 w p/\aH G2 H/\aH G G2/\∀x k,G2 x=some k->G x=some k∨(p.nc≠0/\p.na=some ⟨x,0,none⟩):=by
 by_cases hc:p.nc=0
 ·have Ah:p.nl=0:=by have:=h.dH.row.2.1;omega
  have hn:w.n=[]:=yp.1 (by have:=(h.dH.mb (by omega)).2;omega);refine⟨G,⟨h.parts.iw,h.parts.ji,h.parts.iD,?_,h.parts.cZ⟩,h.dH.sub,aH.refl _,fun x k hx=> .inl hx⟩;have hO:bV dW 10 58 aa G G p.na p.nl p.nc rows w.n:=⟨⟨h.dH.row.1,h.dH.row.2.1,h.dH.row.2.2.1,.inl ⟨Ah,hc⟩⟩,h.dH.wid,h.dH.all,aH.refl _,fun h=>absurd hc h⟩
  exact hO.sl dW.mono (by omega)
 ·obtain⟨g,k,hg,hk⟩:=h.dH.block hc;have v8:=h.dH.clear hc g hg
  let G2:Heap:=fun x=>if x=g then H g else G x
  have e1:aH G G2:=fun x kx hx=>by
   have:x≠g:=fun e=>by rw[e,v8] at hx;cases hx
   simp only[G2,nI this];exact hx
  have e2:aH G2 H:=fun x kx hx=>by
   by_cases e:x=g
   ·subst e;simp only[G2,if_true] at hx;exact hx
   ·simp only[G2,nI e] at hx;exact h.dH.sub x kx hx
  have hO:bV dW 10 58 aa G G2 p.na p.nl p.nc rows w.n:=by
   obtain⟨r1,r2,r3,r4⟩:=h.dH.row;refine⟨⟨r1,r2,r3,r4.imp id fun⟨g',k',h1,h2,h3,h4⟩=>⟨g',k',h1,h2,?_,h4⟩⟩,h.dH.wid,h.dH.all,e1,h.dH.clear⟩;have:g'=g:=by rw[hg] at h1;simp at h1;exact h1.symm
   subst this;simp only[G2,if_true];exact h3
  have hp:=h.parts.ext e1;refine⟨G2,⟨hp.iw,hp.ji,hp.iD,hO.sl dW.mono (by omega),hp.cZ⟩,e2,e1,fun x kx hx=>?_⟩;by_cases e:x=g
  ·subst e;exact .inr ⟨hc,hg⟩
  ·simp only[G2,nI e] at hx;exact .inl hx
theorem cDoM(hL:Lb H)(hw:bB H w p){c:Nat}(hx:aL H a l x.ap):
  Sp 27 [cO w p,jw x a l c] H fun v H'=>∃p',v= .tuple #[cO (okW (Fs w x)) p',i64 (bN (Fs w x))]/\bB H' (okW (Fs w x)) p'/\p'.ml<=p'.mc:=by
 refine ZP Tryz.func27 (fun _ _=>vx27) fun aa hb=>fun b b' b''=>?_;refine(EP hL hw).bY fun H1 e1 fh=>⟨fun he=>?_,fun he=>?_⟩
 ·have hE:Fs w x= .error (fp w):=by unfold Fs;rw[pI he]
  rw[hE];exact⟨hY,rfl,bB.zero,ze 0⟩
 ·have he:=zx.1 he;have hR:=gF.1 he;have hE:Fs w x=bO w x:=by unfold Fs;rw[nI (by omega)]
  rw[hE];refine(JN (hw.ext e1) hR).mono fun v H2 e2 hv=>?_;obtain⟨p',G,rows,rfl,eG,hN⟩:=hv;refine⟨_,_,_,_,_,_,_,_,_,_,_,_,_,_,_,_,_,_,_,_,_,_,_,_,_,_,_,_,_,_,_,_,_,_,rfl,fun dZ=>⟨w,p',G,rows,x,a,l,c,⟨rfl,rfl,rfl,rfl⟩,⟨(hL.ext e1).ext eG,he,hN.own dZ,(hx.ext' e1).ext' eG⟩,rfl,fun e w' Vl G' rows' H' hP=>?_⟩⟩;obtain⟨hO,rfl,rfl⟩:=hP
  cases hh:bO w x with
  |error e=>
   rw[hh] at hO
   exact⟨fun _=>⟨hY,rfl,bB.zero,ze 0⟩,fun h0=>absurd (fun e0=>B8 hh e0) h0⟩
  |ok y=>
   rw[hh] at hO;exact⟨fun h0=>absurd rfl h0,fun _=>⟨Vl,rfl,hO.own.ck,hO.own.parts.room⟩⟩
theorem cDo(hL:Lb H)(hw:bB H w p){c:Nat}(hx:aL H a l x.ap):
  Sp 27 [cO w p,jw x a l c] H fun v H'=>∃p',v= .tuple #[cO (okW (Fs w x)) p',i64 (bN (Fs w x))]/\bB H' (okW (Fs w x)) p':=
 (cDoM (c:=c) hL hw hx).mono fun _ _ _ ⟨p',h1,h2,_⟩=>⟨p',h1,h2⟩
abbrev Vr(H:Heap)(a:O)(n:Nat)(l:List gX):Prop:=Sl ow 5 H a n l
def vG(w:cY)(l:List gX):cY:=if jg w l=0 then(bA w l).1 else ou
def wH(w:cY)(l:List gX):List Int:=if jg w l=0 then(bA w l).2 else []
structure RH(aa:Nat)(H:Heap)(w:cY)(l:List gX)(k:Nat)(a:O)(c:Nat)(y:cY)(q:WA)(said:List Int)(G0 H':Heap):Prop where
 le:k<=l.length
 row:bg aa H' 42 1 a k c (said.map i64)
 ck:bB G0 y q
 right:cU y
 from_:aH H G0
 sub:aH G0 H'
 apart:iP G0 a c
 run:bA w l=((bA y (l.drop k)).1,said++(bA y (l.drop k)).2)
set_option maxHeartbeats 1000000 in
theorem ZU(hL:Lb H)(hw:bB H w p){l:List gX}{n c:Nat}(hx:Vr H a n l):
  Sp 39 [cO w p,.slice a n c] H fun v H'=>∃p' s sn sc,v= .tuple #[cO (vG w l) p',.slice s sn sc,i64 (jg w l)]/\bB H' (vG w l) p'/\Sl ft 1 H' s sn (wH w l)/\sn<=sc:=by
 refine ZP Tryz.func39 (fun _ _=>vx39) fun aa hb=>fun b b'=>?_;have hln:=hx.len;refine(EP hL hw).bY fun H1 e1 fh=>⟨fun he=>?_,fun he=>?_⟩
 ·have hE:jg w l=fp w:=by unfold jg;rw[pI he]
  unfold vG wH;rw[hE,nI he,nI he];exact⟨hY,none,0,0,rfl,bB.zero,Sl.nil,ze _⟩
 ·have he:=zx.1 he;have hR:=gF.1 he;refine⟨fun h5=>?_,fun h5=>?_⟩
  ·have hE:jg w l=2:=by unfold jg;rw[nI (by omega),pI (by omega)]
   unfold vG wH;rw[hE,nI (by omega),nI (by omega)];exact⟨hY,none,0,0,rfl,bB.zero,Sl.nil,ze _⟩
  ·have hE:jg w l=0:=by unfold jg;rw[nI (by omega),nI (by omega)]
   unfold vG wH;rw[hE,pI rfl,pI rfl];refine(JN (hw.ext e1) hR).mono fun v H2 e2 hv=>?_;obtain⟨p',G,rows,rfl,eG,hN⟩:=hv;refine⟨_,_,_,_,_,_,_,_,_,_,_,_,_,_,_,_,_,_,_,_,_,_,_,_,_,_,_,_,_,_,_,_,_,_,rfl,fun dZ=>?_⟩;obtain⟨G2,hW2,eG2,eGG,hG2⟩:=(hN.own dZ).shut;refine⟨fun m vs H'=>∃(k:Nat)(a:O)(c:Nat)(y:cY)(q:WA)(said:List Int)(G0:Heap),vs=[.slice a k c,.int .i64 k,cO y q]/\m=l.length-k/\RH aa H w l k a c y q said G0 H',l.length,⟨0,none,0,w,p',[],G2,rfl,rfl,⟨Nat.zero_le _,bg.zero,hW2,hR,aH.trans e1 (aH.trans eG eGG),eG2,iP.none,rfl⟩⟩,?_⟩;intro m a1 n1 c1 Fp Np ER Nq c9 a11 Qw Hq a12 n18 c11 n19 ES n20 c12 n21 n22 bb a14 n23 Hr n24 Hu n25 c14 ET n26 JE bb2 ZV n27 JF a18 n28 c17 H' Vs hI;obtain⟨k,a0,c0,y,q,said,G0,cv,rfl,hI⟩:=hI;simp only[List.cons.injEq,Value.slice.injEq,Value.int.injEq,true_and,Value.agg.injEq,Array.mk.injEq,Value.bool.injEq,and_true] at cv;obtain⟨⟨rfl,rfl,rfl⟩,rfl,rfl,⟨rfl,rfl,rfl⟩,⟨rfl,rfl,rfl⟩,⟨rfl,rfl,rfl⟩,rfl,⟨rfl,rfl,rfl⟩,rfl,rfl,rfl,⟨rfl,rfl,rfl⟩,rfl,⟨rfl,rfl,rfl⟩,⟨rfl,rfl,rfl⟩,rfl,⟨rfl,rfl,rfl⟩,rfl,rfl,rfl⟩:=cv;obtain⟨k,hk⟩:∃k,k=n1:=⟨_,rfl⟩
   subst hk;refine⟨fun bK=>?_,fun gj=>?_⟩
   ·have qu:k<l.length:=by omega
    obtain⟨b3,o,r,x,ha,mi,⟨ax,lx,cx,rfl,Vt⟩,cI⟩:=hx.get (k:=(k:Int)) (by omega) (by omega);have cc:∀j v,(nR x ax lx cx)[j]?=some v->H'.cell b3 (o+(k:Int).toNat*5+j)=some v:=fun j v hj=>Heap.aJ Vs.ext (cI j v hj);refine⟨b3,o,ha,by omega,by omega,_,_,_,_,_,_,_,⟨cc 0 _ rfl,cc 1 _ rfl,cc 2 _ rfl,cc 3 _ rfl,cc 4 _ rfl,trivial⟩,fun b5=>?_⟩;refine((JN hI.ck hI.right).grown hI.sub).mono fun v H3 e3 hv=>?_;obtain⟨G1,g1,p2,Gc,B6,rfl,eGc,u9⟩:=hv;refine⟨_,_,_,_,_,_,_,_,_,_,_,_,_,_,_,_,_,_,_,_,_,_,_,_,_,_,_,_,_,_,_,_,_,_,rfl,fun fS=>fun b8=>?_⟩;have hN01:Vg.Next aa G0 G1:=⟨g1.ext,fun z kz hz hn=>fS.fresh z kz (g1.sub z kz hz) (g1.im z kz hz hn)⟩
    have qD:=(u9.own hN01).ext g1.sub;refine⟨y,p2,Gc,B6,x,ax,lx,cx,⟨rfl,rfl,rfl,rfl⟩,⟨(hL.ext hI.from_).ext eGc,gF.2 hI.right,qD,(Vt.ext' hI.from_).ext' eGc⟩,rfl,fun e w' p3 G' rows' H4 hP=>?_⟩;obtain⟨hO,rfl,rfl⟩:=hP
    have QO:∀g kg,H' g=some kg->(p2.nc=0∨p2.na≠some ⟨g,0,none⟩):=fun g kg hg=>by
     by_cases hc:p2.nc=0
     ·exact .inl hc
     ·refine .inr fun e=>?_;obtain⟨r1,r2,r3,r4⟩:=u9.row;rcases r4 with⟨_,h0⟩|⟨g',k',q1,q2,q3,_⟩
      ·exact hc h0
      ·rw[e] at q1;simp only[Option.some.injEq,Addr.mk.injEq,and_true] at q1;subst q1;rw[g1.im _ _ q3 q2] at hg;cases hg
    have eH4:aH H' H4:=fun z kz hz=>hO.cR z kz (e3 z kz hz) (QO z kz hz);have fH:=hI.row.ext eH4
    have PJ:l.drop k=x::l.drop (k+1):=by
     have:=List.drop_eq_getElem_cons qu;rw[this]
     congr 1
     have h2:=(zw.1 mi).2;simpa using h2
    have kA:=hI.run;rw[PJ] at kA
    have step:∀ {y':cY} {q':WA} {G2:Heap} (_:bB G2 y' q')(_:cU y')(_:aH H G2)(_:aH G2 H4)(_:iP G2 a1 c1)(_:bA w l=((bA y' (l.drop (k+1))).1,(said++[bN (bO y x)])++(bA y' (l.drop (k+1))).2)),
      ∃(xs:List Value),bg aa H4 42 1 a1 k c1 xs/\(k+1)*8<=140737488355328/\k+1<=9223372036854775807/\∀(a':O)(c':Nat)(H5:Heap),cu aa H4 H5 a1 c1 a' c' (k+1)->bg aa H5 42 1 a' (k+1) c' (xs++[.int .i64 (bN (bO y x))])->∀(r:Int),r=IntKind.wrap .i64 ((k:Int)+1)->
       ∃m':Nat,m'<l.length-k/\∃(k2:Nat)(a:O)(c:Nat)(y2:cY)(q:WA)(said:List Int)(G0:Heap),([.slice a' (k+1) c',.int .i64 r,cO y' q']:List Value)=[.slice a k2 c,.int .i64 k2,cO y2 q]/\m'=l.length-k2/\RH aa H w l k2 a c y2 q said G0 H5:=by
     intro y' q' G2 h1 h2 h3 h4 h5' h6;refine⟨said.map i64,fH,by omega,by omega,fun a' c' H5 hg hr r GA=>⟨l.length-(k+1),by omega,k+1,a',c',y',q',said++[bN (bO y x)],G2,?_,rfl,?_⟩⟩
     ·rw[GA,wrap_small];rfl
     ·obtain⟨f1,f2⟩:=h5'.oB h4 hg;exact⟨by omega,by rw[List.map_append];exact hr,h1,h2,h3,f1,f2,h6⟩
    cases hh:bO y x with
    |error e=>
     have hz:=B8 hh;rw[hh] at hO step;refine⟨fun h0=>absurd h0 hz,fun _=>fun b9=>?_⟩;obtain⟨xs,s1,s2,s3,s4⟩:=step hI.ck hI.right hI.from_ (aH.trans hI.sub eH4) hI.apart (by rw[kA];simp only[bA,hh,zE,List.singleton_append,bN])
     exact⟨xs,s1,s2,s3,fun a' c' H5 hg hr r GA=>⟨rfl,s4 a' c' H5 hg hr r GA⟩⟩
    |ok y'=>
     rw[hh] at hO step;refine⟨fun _=>fun b9=>?_,fun h0=>absurd rfl h0⟩;obtain⟨G2,k1,k2,k3,k4⟩:=hO.own.shut
     have Fj:iP G2 a1 c1:=fun hc z kz hz ha=>by
      obtain⟨r1,r2,r3,r4⟩:=hI.row;rcases r4 with⟨_,h0⟩|⟨g',k',q1,q2,q3,_⟩
      ·exact hc h0
      ·rw[ha] at q1;simp only[Option.some.injEq,Addr.mk.injEq,and_true] at q1;subst q1
       have hG0:G0 z=none:=by
        cases hg:G0 z with
        |none=>rfl
        |some kg=>exact absurd ha (hI.apart hc z kg hg)
       have hG1:Gc z=none:=by
        cases hg:Gc z with
        |none=>rfl
        |some kg=>have:=g1.im z kg (u9.sub z kg hg) hG0;rw[q3] at this;cases this
       rcases k4 z kz hz with h1|⟨h1,h2⟩
       ·have:=hO.im z kz h1 hG1;rw[e3 z _ q3] at this;cases this
       ·rcases QO z _ q3 with h3|h3
        ·exact h1 (hO.same.2.2.trans h3)
        ·exact h3 (hO.same.1.symm.trans h2)
     obtain⟨xs,s1,s2,s3,s4⟩:=step k1 (hI.right.Fj hh).ok (aH.trans hI.from_ (aH.trans eGc (aH.trans hO.ext k3))) k2 Fj (by rw[kA];simp only[bA,hh,zE,List.singleton_append,bN,fU]);exact⟨xs,s1,s2,s3,fun a' c' H5 hg hr r GA=>⟨rfl,s4 a' c' H5 hg hr r GA⟩⟩
   ·have qu:k=l.length:=by have:=hI.le;omega
    have kA:=hI.run;rw[zO (by omega)] at kA;simp only[bA,zZ] at kA;rw[kA];exact⟨q,a1,k,c1,rfl,hI.ck.ext hI.sub,oa hI.row,hI.row.2.1⟩
open Go Go.Proofs
theorem Vu{k:Int}(h0:0<=k)(h1:k<=1000000):Sp 193 [.slice none 0 0,.int .i64 k] H fun v H'=>∃a c,v= .slice a 0 c/\bZ H H' 74 6 a 0 c []:=by
 refine bh Tryz.func193 (fun _ _=>XC) fun aa hb=>?_;refine⟨fun h=>by omega,fun _=>fun r hr=>?_⟩;obtain rfl:r=0:=by rw[hr,aj];omega
 rintro r rfl;rw[aj];refine⟨fun h=>⟨by omega,by omega,[],k.toNat,by omega,by omega,by omega,bg.zero,by omega,by omega,fun g c' H1 hN hg hR=>⟨by omega,by omega,?_⟩⟩,fun h=>⟨none,0,rfl,bZ.zero⟩⟩;refine⟨_,_,rfl,?_⟩;have:=hR.short (m:=0) (by omega);rw[Nat.zero_mul,List.take_zero] at this;exact this.fresh hb
theorem PK{c:Nat}{jx:List (List df)}(hx:Sl (oX cK 6) 1 H a l jx)(hl:l<=100)(hn:jx.flatten.length<=200000):Sp 126 [.slice a l c] H fun v H'=>∃a n c rs,v= .slice a n c/\bZ H H' 74 6 a n c rs.flatten/\(∀r∈rs,r.length=6)/\dY cK H rs jx.flatten:=by
 refine bh Tryz.func126 (fun _ _=>XB) fun aa hb=>?_;have Ia:=hx.len
 have nM:∀k,(jx.take k).flatten.length<=jx.flatten.length:=fun k=>by
  have:(jx.take k++jx.drop k).flatten.length=jx.flatten.length:=by rw[List.take_append_drop]
  rw[zI,zq] at this;omega
 have jd:∀k x,jx[k]?=some x->(jx.take (k+1)).flatten=(jx.take k).flatten++x:=fun k x h=>by
  rw[fQ h,zI];simp
 refine⟨fun vs H'=>∃(k:Nat),vs=[i64 ((jx.take k).flatten.length:Nat),i64 k]/\k<=l,aN l 1,⟨0,rfl,by omega⟩,fun n n1 H1 fh hI=>?_⟩;obtain⟨k,cv,hk⟩:=hI;obtain⟨rfl,rfl⟩:n=((jx.take k).flatten.length:Nat)/\n1=(k:Int):=by simpa using cv
 refine⟨fun bK=>hx.slice fh.ext (by omega) bK fun x a' n' c' mi hS=>?_,fun gj=>?_⟩
 ·rw[zz] at mi;have h1:=hS.len;have h2:=nM (k+1);rw[jd k x mi,zq] at h2;rintro r rfl;rw[aj];refine⟨fun h=>by omega,fun _=>?_⟩;rintro r rfl;rw[aj];exact⟨⟨k+1,by rw[jd k x mi,zq,h1];rfl,by omega⟩,by simp[aN];omega⟩
 ·have h2:=nM k;refine(Vu (k:=((jx.take k).flatten.length:Nat)) (by omega) (by omega)).mono fun v H2 e2 hv=>?_;obtain⟨a2,c2,rfl,hF⟩:=hv;refine⟨a2,0,c2,rfl,fun dZ=>?_⟩
  have hO:bV cK 6 74 aa H H2 a2 0 c2 [] ([]:List df):=⟨hF.row dZ,by simp,trivial,aH.trans fh.ext e2,fun hc g hg=>by
   rcases hF.2.2.2 with⟨_,h⟩|⟨g',k',h1,h2,_⟩
   ·exact absurd h hc
   ·rw[hg] at h1;simp at h1;subst h1
    cases hq:H g with
    |none=>rfl
    |some kb=>rw[fh.ext _ _ hq] at h2;cases h2⟩
  refine⟨fun vs H'=>∃(k:Nat)(a3:O)(n3 c3:Nat)(rows:List (List Value)),vs=[.slice a3 n3 c3,i64 k]/\k<=l/\bV cK 6 74 aa H H' a3 n3 c3 rows (jx.take k).flatten,aN l 1,
   ⟨0,a2,0,c2,[],rfl,by omega,hO⟩,fun a3 n3 c3 n4 H3 fS hI=>?_⟩
  obtain⟨k,xp,Gu,xq,rows,cv,hk,sG⟩:=hI;obtain⟨⟨rfl,rfl,rfl⟩,rfl⟩:(a3=xp/\n3=Gu/\c3=xq)/\n4=(k:Int):=by simpa using cv
  obtain⟨r1,r2⟩:=sG.mb (by omega);refine⟨fun bK=>hx.slice fS.ext (by omega) bK fun x a' n' c' mi hS=>?_,fun gj=>?_⟩
  ·rw[zz] at mi;have h1:=hS.len;have h3:=nM (k+1);rw[jd k x mi,zq] at h3;obtain⟨rs,p1,p2,p3,p4⟩:=hS.rows cK.len;refine⟨_,_,sG.row,p3,ev cK.one p2,p4.imp id (fun⟨b,o,Fk,hc⟩=>⟨b,o,Fk,fj fS.ext hc⟩),by omega,by omega,fun a5 c5 H5 OH pd=>?_⟩;rintro r rfl;rw[aj];refine⟨⟨k+1,a5,_,c5,rows++rs,rfl,by omega,?_⟩,by simp[aN];omega⟩;rw[jd k x mi];exact sG.oB OH pd p1 p2
  ·obtain rfl:k=l:=by omega
   rw[←Ia,List.take_length] at sG;exact⟨_,_,_,_,rfl,sG.row.fresh hb,sG.wid,sG.all⟩
theorem HJ{x:pj}{r:bD}(h:eV d r= .ok x):bj x=0:=by
 obtain⟨h1,h2,h3,rfl⟩:=C4 h;obtain⟨z1,z2,z3⟩:=fm h1;unfold bj;rw[nI (by show¬60000<d.safe.length;omega),nI (by show¬60000-d.safe.length<(d.wait++(cl r++[10])).length;rw[zq,zq];simp only[zi,zX];omega)];exact z3
theorem Dq{r:bD}(h:eV d r= .error e):e≠0:=by
 unfold eV at h;split at h
 ·split at h
  ·split at h
   ·injection h with h;omega
   ·cases h
  ·injection h with h;omega
 ·injection h with h;omega
theorem mW(hL:Lb H){sl:Nat}{r:bD}(hd:cr H d sa sl sc ta tl tc)(hr:aL H qa ql r.cB.ap)(h0:bj d=0):Sp 119 [eB sa sl sc ta tl tc,gU r qa ql qc] H fun v H'=>∃sa sl sc ta tl tc,v= .tuple #[eB sa sl sc ta tl tc,i64 (bN (aY d r))]/\(bN (aY d r)=0->cr H' (kM (aY d r)) sa sl sc ta tl tc):=by
 refine wo Tryz.func119 (fun _ _=>XE) fun aa hb=>fun b b1 b2=>?_;refine(U0 hL hd hr h0).mono fun v H1 e1 hv=>?_;obtain⟨Fv,sn1,Fw,wa1,wn1,wc1,rfl,hD⟩:=hv;refine⟨_,_,_,_,_,_,_,rfl,fun fh=>⟨fun h=>?_,fun h=>?_⟩⟩
 ·cases hp:eV d r with
  |ok x=>rw[hp] at h;exact absurd rfl h
  |error e=>
   have:aY d r= .error e:=by unfold aY;rw[hp]
   rw[this];exact⟨_,_,_,_,_,_,rfl,fun h2=>absurd h2 (Dq hp)⟩
 ·cases hp:eV d r with
  |error e=>rw[hp] at h;exact absurd (zx.1 h) (Dq hp)
  |ok x=>
   rw[hp] at hD;have:aY d r=iq x:=by unfold aY;rw[hp]
   rw[this];refine(Rm (hL.ext e1) hD (HJ hp)).mono fun v H2 e2 hv=>?_;obtain⟨sa2,sn2,WQ,wa2,wn2,wc2,rfl,hD2⟩:=hv;exact⟨_,_,_,_,_,_,_,rfl,fun dZ=>⟨_,_,_,_,_,_,rfl,fun _=>hD2⟩⟩
theorem ov(e:Int):Sp 117 [i64 e] H fun v _=>v= .tuple #[cO ou hY,i64 e]:=by
 refine wo Tryz.func117 (fun _ _=>XD) fun aa hb=>fun b=>?_;rfl
open Go
theorem JU(h:bu ms=0)(hm:rM m):iM ms m=0:=by
 unfold iM;rw[pI h];exact cM.2 ⟨by simp,by simpa using hm⟩
theorem nS(h:bu w.m=0)(hm:rM m):gL w m=if w.m.length<40 then{ w with m:=w.m++[m] } else w:=by
 unfold gL u7;rw[pI (JU h hm)];split<;>rfl
theorem JV{a:lS}(hk:k<6)(h1:1<=a.au)(h2:a.au<=200):rM (eQ k a):=by
 refine⟨fun h=>?_,fun h=>?_,fun h=>(by cases h)⟩
 ·unfold jO eQ at h;simp only at h;omega
 ·unfold iL eQ je at h;simp at h
theorem cU.UO(h:cU w):w.n.length<=6:=by
 have h1:=h.len;have h2:=(fk (dv h.iw).2.2.2.2.2.2).2.1;omega
theorem cU.Q8(h:cU w)(hn:n∈w.n):cT n.a=0:=(vw (h.node n hn).log).2
theorem cU.ji(h:cU w):db w.c w.h.l=0:=(vv h.head.log).2
theorem E0(h:cU w){k:Int}(h0:0<=k)(h1:k<w.m.length):dz w.m k=0/\dw w.m k∈w.m/\rM (dw w.m k)/\∃n,w.n[(dw w.m k).ah.toNat]?=some n/\0<=(dw w.m k).ah/\(dw w.m k).ah<w.n.length:=by
 have ht:dz w.m k=0:=by unfold dz;rw[pI h.cZ,nI (by omega)]
 obtain⟨t1,t2,t3,t4⟩:=BV ht;have eC:=(cM.1 h.cZ).2 _ t1;have hw:=h.CR _ t1;have hb:=eC.1;unfold jO at hb;exact⟨ht,t1,eC,_,zu (by omega),by omega,hw⟩
theorem RI(h:cU w)(hk:x.ae=9∨x.ae=10∨x.ae=11)(hn:¬(0<=x.cj/\x.cj<w.m.length)):bO w x= .error 5:=by
 have ht:dz w.m x.cj=5:=by unfold dz;rw[pI h.cZ,pI (by omega)]
 unfold bO;by_cases h9:x.ae=9∨x.ae=10
 ·rw[pI h9];unfold mm;rw[pI (by omega),ht]
 ·rw[nI h9,pI (by omega),pI (by omega),ht]
theorem PL(h:cU w)(hk:x.ae=11)(h0:0<=x.cj)(h1:x.cj<w.m.length):bO w x= .ok { w with m:=left w.m x.cj false } :=by
 have ht:=(E0 h h0 h1).1;unfold bO;rw[nI (by omega),pI hk,nI (by omega)]
theorem PM(h:cU w)(hk:x.ae=9∨x.ae=10)(h0:0<=x.cj)(h1:x.cj<w.m.length)(hn:w.n[(dw w.m x.cj).ah.toNat]?=some n):
  bO w x=if((dw w.m x.cj).rep=true/\w.h.up=false)∨((dw w.m x.cj).rep=false/\n.up=false) then .error 7 else
   if(dw w.m x.cj).rep=true then .ok (fU { w with m:=left w.m x.cj (decide (x.ae=10)) } (eJ { w with m:=left w.m x.cj (decide (x.ae=10)) } ⟨7,(dw w.m x.cj).ah,(dw w.m x.cj).au,0,(dw w.m x.cj).aP,⟨0,[]⟩⟩)) else
   if(dw w.m x.cj).au=n.a.au/\n.a.going=false then .ok (gL { w with m:=left w.m x.cj (decide (x.ae=10)) } (eQ (dw w.m x.cj).ah.toNat n.a)) else
   .ok (fU { w with m:=left w.m x.cj (decide (x.ae=10)) } (gq { w with m:=left w.m x.cj (decide (x.ae=10)) } (dw w.m x.cj).ah.toNat ⟨1,0,(dw w.m x.cj).au,0,false,(dw w.m x.cj).cB⟩)):=by
 have ht:=(E0 h h0 h1).1;unfold bO;rw[pI hk];unfold mm;rw[nI (by omega),hn];dsimp only;unfold eK;dsimp only;rw[hn]
open Go Go.Proofs
structure HO(aa:Nat)(G H:Heap)(w:cY)(p:WA)(rows fb:List (List Value)):Prop where
 iw:fB G w.c p.fa p.fl p.ra p.rl p.wa p.wl
 ji:cQ G w.h.l p.la p.ll p.ka p.kl
 iD:cr G w.h.d p.sa p.sl p.sc p.ta p.tl p.tc
 dH:bV dW 10 58 aa G H p.na p.nl p.nc rows w.n
 cZ:bV cK 6 74 aa G H p.ma p.ml p.mc fb w.m
 im:p.nc≠0->p.mc≠0->p.na≠p.ma
section
variable {aa : Nat} {G H G' H' : Heap} {w : cY} {p : WA} {rows fb : List (List Value)}
theorem HO.ck(h:HO aa G H w p rows fb):bB H w p:=⟨h.iw.ext h.dH.sub,h.ji.ext h.dH.sub,h.iD.ext h.dH.sub,h.dH.sl dW.mono (by omega),h.cZ.sl cK.mono (by omega)⟩
theorem HO.ext(h:HO aa G H w p rows fb)(e:aH H H'):HO aa G H' w p rows fb:=⟨h.iw,h.ji,h.iD,h.dH.ext e,h.cZ.ext e,h.im⟩
theorem HO.grown(h:HO aa G H w p rows fb)(g:Grown G H G' H'):HO aa G' H' w p rows fb:=⟨h.iw.ext g.ext,h.ji.ext g.ext,h.iD.ext g.ext,h.dH.grown dW.mono g,h.cZ.grown cK.mono g,h.im⟩
theorem HO.head(h:HO aa G H w p rows fb){l:jh}{up:Bool}{sl:Nat}(h1:cQ G l la ll ka kl)(h2:cr G d sa sl sc ta tl tc):
  HO aa G H { w with h:=⟨l,d,up⟩ } { p with la:=la,ll:=ll,lc:=lc,ka:=ka,kl:=kl,kc:=kc,sa:=sa,sl:=sl,sc:=sc,ta:=ta,tl:=tl,tc:=tc } rows fb:=⟨h.iw,h1,h2,h.dH,h.cZ,h.im⟩
theorem HO.mails(h:HO aa G H w p rows fb)(g:Grown G H G' H'){ms':List (List Value)}(hm:bV cK 6 74 aa G' H' ma ml mc ms' ms)(ha:p.nc≠0->mc≠0->p.na≠ma):
  HO aa G' H' { w with m:=ms } { p with ma:=ma,ml:=ml,mc:=mc } rows ms':=⟨h.iw.ext g.ext,h.ji.ext g.ext,h.iD.ext g.ext,h.dH.grown dW.mono g,hm,ha⟩
theorem HO.post(h:HO aa G H w p rows fb){a':O}{c' nn:Nat}(hG:cu aa H H' p.ma p.mc a' c' nn)(hR:bg aa H' 74 6 a' (p.ml+1) c' (fb.flatten++gN m qa ql qc))(hq:aL G qa ql m.cB.ap):
  bB H' { w with m:=w.m++[m] } { p with ma:=a',ml:=p.ml+1,mc:=c' } :=by
 have hM:=h.cZ.oB (rows':=[gN m qa ql qc]) (ys:=[m]) hG (by simpa using hR) (by simp[gN]) ⟨⟨qa,ql,qc,rfl,hq⟩,trivial⟩;have hN:=(h.dH.row.stay hG (fun h1 h2 e=>h.im h2 h1 e.symm)).1;have QH:bV dW 10 58 aa G H' p.na p.nl p.nc rows w.n:=⟨hN,h.dH.wid,h.dH.all,hM.sub,h.dH.clear⟩
 exact⟨h.iw.ext hM.sub,h.ji.ext hM.sub,h.iD.ext hM.sub,QH.sl dW.mono (by omega),hM.sl cK.mono (by omega)⟩
theorem HO.put(h:HO aa G H w p rows fb)(hr:rows[k]?=some r){off:Nat}(ho:off+vs.length<=10)(Zp:o=k*10+off)(ha:p.na=some ⟨b,0,none⟩)(hc:p.nc≠0)(hb:H b=some kb)
  (hu:kW H b o kb vs H') {y:ke} (hy:dW G (aV r off vs) y):HO aa G H' { w with n:=w.n.set k y } p (rows.set k (aV r off vs)) fb:=by
 have hN:=h.dH.put hr ho Zp ha hc hb hu hy;have hM:bg aa H' 74 6 p.ma p.ml p.mc fb.flatten:=h.cZ.row.other hu fun TK e=>h.im hc TK (by rw[ha,e]);exact⟨h.iw,h.ji,h.iD,hN,⟨hM,h.cZ.wid,h.cZ.all,hN.sub,h.cZ.clear⟩,h.im⟩
theorem HO.JW{Hc:Heap}(h:HO aa G Hc w p rows fb)(hn:w.n[k]?=some n){a:lS}(p1:aL G xa xl a.ap)(p2:aL G ga gl a.ab.ap)(hD:cr G d ua ul uc va vl vc)
    (sE:p.na=some ⟨b,0,none⟩) (qY:p.nc≠0) (Cq:Hc b=some kb) (dj:kb.free=true) (B4:aa<=b) (gJ:k*10+10<=kb.size) (bK:k<p.nl) {F:Heap->Prop} (hF:∀H2 B6,HO aa G H2 { w with n:=w.n.set k ⟨a,d,n.up⟩ } p B6 fb->F H2):
  ∃(kk:KB),Hc b=some kk/\KB.free kk=true/\aa<=b/\0+Int.toNat (k:Int)*10+7<=KB.size kk/\∀(H1:Heap),kW Hc b (0+Int.toNat (k:Int)*10) kk [.slice xa xl xc,.int .i64 a.ck,.int .i64 a.au,.bool a.going,.int .i64 a.ab.id,.slice ga gl gc,.bool a.aP] H1->
   ∃(b9 o:Nat),p.na=some ⟨b9,o,none⟩/\0<=(k:Int)/\(k:Int)<(p.nl:Int)/\∃(k2:KB),H1 b9=some k2/\KB.free k2=true/\aa<=b9/\o+Int.toNat (k:Int)*10+7+2<=KB.size k2/\∀(H2:Heap),kW H1 b9 (o+Int.toNat (k:Int)*10+7) k2 [.slice ua ul uc,.slice va vl vc] H2->F H2:=by
 refine⟨kb,Cq,dj,B4,by rw[zz];omega,fun H1 M7=>⟨b,0,sE,by omega,by omega,_,M7.here,dj,B4,by rw[zz];show 0+k*10+7+2<=kb.size;omega,fun H2 sb=>?_⟩⟩;obtain⟨b',vP,q,e1,_,_,e4,_,_,_,fH,hq,_⟩:=h.dH.nodeAt hn;have hk:=(zw.1 fH).1;have h1:=h.put (o:=0+Int.toNat (k:Int)*10) fH (off:=0) (vs:=[.slice xa xl xc,.int .i64 a.ck,.int .i64 a.au,.bool a.going,.int .i64 a.ab.id,.slice ga gl gc,.bool a.aP]) (by simp) (by rw[zz];omega) sE qY Cq M7 (dW.Zq hq (a:=a) p1 p2);have iS:kP G { n with a:=a } { q with xa:=xa,xl:=xl,xc:=xc,ga:=ga,gl:=gl,gc:=gc } :=⟨p1,p2,hq.iD⟩
 have h2:=h1.put (o:=0+Int.toNat (k:Int)*10+7) (k:=k) (r:=bR { n with a:=a } { q with xa:=xa,xl:=xl,xc:=xc,ga:=ga,gl:=gl,gc:=gc }) (by
  rw[List.getElem?_set_self hk];rfl) (off:=7) (vs:=[.slice ua ul uc,.slice va vl vc]) (by simp) (by rw[zz];omega) sE qY M7.here sb (dW.Zr iS (d:=d) hD)
 have e:(w.n.set k { n with a:=a }).set k ⟨a,d,n.up⟩=w.n.set k ⟨a,d,n.up⟩:=List.set_set ..;have Kh:HO aa G H2 { w with n:=(w.n.set k { n with a:=a }).set k ⟨a,d,n.up⟩ } p _ fb:=h2;rw[e] at Kh;exact hF H2 _ Kh
end
end Go.Vg
