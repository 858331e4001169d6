/- What is proved here: a part of the proof of laws of this seat: what a contract is, how it comes of a condition, contracts of the functions that are reached, the plain laws. -/
import Derived.Test.YtgaegoefbekndaaGreatDoorWK10
set_option linter.unusedSimpArgs false
set_option linter.unusedVariables false
set_option maxRecDepth 100000
namespace Go.Vg
open Go Go.Proofs
open Go.Value renaming int → I, slice → S, bool → B, agg → A, tuple → T, pointer → P, string → Str
open Go.IntKind renaming i64 → Z, wrap → W
open Go.Addr renaming mk → D
open Go.Vg.Bx renaming mk → J
open Go.Vg renaming Next → X, Spec → Y, SpecO → YO
open Go.Vg.Heap renaming cell → C
open Int renaming toNat → N
theorem vx164(a:O)(l c:Nat)(base:Nat)(H:Heap)(K:KT):
 (fV TryzMutsJ Tryz.f164 base H [.v (S a l c)] [] K)=(
 ∃b,RunsTo Tryz.prog (binRun BinOp.eql 25 (Operand.tmp 3) (Operand.const (S none 0 0)) (S a l c) (S none 0 0)) (B b)/\(b=true->K (S none 0 0) [] H)/\(¬b=true->∀(d:Nat)(e:Heap),X base H e->H d=none->e d=some (boxKB 152 [])->∃g h:List Value,Row base e 152 4 (some (D d 0 none)) 0 0 g/\List.length h=l*4/\allOne h=true/\(l=0∨∃i j,a=some (D i j none)/\cellsAt e i j 0 h)/\(0+l)*32<=140737488355328/\0+l<=9223372036854775807/\∀(i:O)(j:Nat)(k:Heap),Grew base e k (some (D d 0 none)) 0 i j (0+l)->Row base k 152 4 i (0+l) j (g++h)->K (S i (0+l) j) [] k)):=by kernel_rfl
theorem vx165(a:O)(l c:Nat)(base:Nat)(H:Heap)(K:KT):
 (fV TryzMutsJ Tryz.f165 base H [.v (S a l c)] [] K)=(
 ∃b,RunsTo Tryz.prog (binRun BinOp.eql 26 (Operand.tmp 3) (Operand.const (S none 0 0)) (S a l c) (S none 0 0)) (B b)/\(b=true->K (S none 0 0) [] H)/\(¬b=true->∀(d:Nat)(e:Heap),X base H e->H d=none->e d=some (boxKB 97 [])->∃g h:List Value,Row base e 97 1 (some (D d 0 none)) 0 0 g/\List.length h=l*1/\allOne h=true/\(l=0∨∃i j,a=some (D i j none)/\cellsAt e i j 0 h)/\(0+l)*24<=140737488355328/\0+l<=9223372036854775807/\∀(i:O)(j:Nat)(k:Heap),Grew base e k (some (D d 0 none)) 0 i j (0+l)->Row base k 97 1 i (0+l) j (g++h)->K (S i (0+l) j) [] k)):=by kernel_rfl
theorem vx166(a:O)(l c:Nat)(base:Nat)(H:Heap)(K:KT):
 (fV TryzMutsJ Tryz.f166 base H [.v (S a l c)] [] K)=(
 ∃b,RunsTo Tryz.prog (binRun BinOp.eql 97 (Operand.tmp 3) (Operand.const (S none 0 0)) (S a l c) (S none 0 0)) (B b)/\(b=true->K (S none 0 0) [] H)/\(¬b=true->∀(d:Nat)(e:Heap),X base H e->H d=none->e d=some (boxKB 3 [])->∃g h:List Value,Row base e 3 1 (some (D d 0 none)) 0 0 g/\List.length h=l*1/\allOne h=true/\(l=0∨∃i j,a=some (D i j none)/\cellsAt e i j 0 h)/\(0+l)*8<=140737488355328/\0+l<=9223372036854775807/\∀(i:O)(j:Nat)(k:Heap),Grew base e k (some (D d 0 none)) 0 i j (0+l)->Row base k 3 1 i (0+l) j (g++h)->K (S i (0+l) j) [] k)):=by kernel_rfl
theorem vx171(a:O)(l c:Nat)(base:Nat)(H:Heap)(K:KT):
 (fV TryzMutsJ Tryz.f171 base H [.v (S a l c)] [] K)=(
 ∃b,RunsTo Tryz.prog (binRun BinOp.eql 38 (Operand.tmp 3) (Operand.const (S none 0 0)) (S a l c) (S none 0 0)) (B b)/\(b=true->K (S none 0 0) [] H)/\(¬b=true->∀(d:Nat)(e:Heap),X base H e->H d=none->e d=some (boxKB 58 [])->∃g h:List Value,Row base e 58 10 (some (D d 0 none)) 0 0 g/\List.length h=l*10/\allOne h=true/\(l=0∨∃i j,a=some (D i j none)/\cellsAt e i j 0 h)/\(0+l)*144<=140737488355328/\0+l<=9223372036854775807/\∀(i:O)(j:Nat)(k:Heap),Grew base e k (some (D d 0 none)) 0 i j (0+l)->Row base k 58 10 i (0+l) j (g++h)->K (S i (0+l) j) [] k)):=by kernel_rfl
theorem vx87(id bud:Int)(fa ra wa:O)(fl fc rl rc wl wc:Nat)(base:Nat)(H:Heap)(K:KT):
 (fV TryzMutsJ Tryz.f87 base H [.v (A #[I Z id,S fa fl fc,S ra rl rc,S wa wl wc,I Z bud])] [] K)=(
 ∀a b:Nat,Y Tryz.prog 163 [S fa fl fc] H fun c d=>∃e g h,c=S e g h/\(X base H d->Y Tryz.prog 164 [S ra rl rc] d fun i j=>∃k l m,i=S k l m/\(X base d j->Y Tryz.prog 165 [S wa wl wc] j fun n o=>∃p q r,(fun w1:LL=>n=S p q r/\(X base j o->∃(s:LI)(t:LM),s [I Z 0] o/\∀(u:Int)(v:Heap),X base H v->s [I Z u] v->(u<(q:Int)->∃w x,p=some (D w x none)/\0<=u/\u<(q:Int)/\∃y z a1,C v w (x+N u*1)=some (S y z a1)/\Y Tryz.prog 166 [S y z a1] v fun b1 c1=>∃d1 e1 f1,b1=S d1 e1 f1/\(X base v c1->∃g1 h1,p=some (D g1 h1 none)/\0<=u/\u<(q:Int)/\∃i1:KB,c1 g1=some i1/\KB.free i1=true/\base<=g1/\h1+N u*1+1<=KB.size i1/\∀j1:Heap,Upd c1 g1 (h1+N u*1) i1 [S d1 e1 f1] j1->∀k1:Int,k1=W Z (u+1)->w1=w1/\s [I Z k1] j1/\t [I Z k1]<t [I Z u]))/\(¬u<(q:Int)->K (A #[I Z id,S e g h,S k l m,S p q r,I Z bud]) [] v))) [[I Z id,S e g h,S k l m,S p q r,I Z bud],[I Z 0,S none 0 0,S none 0 0,S none 0 0,I Z 0]]))):=by kernel_rfl
theorem vx168(sa ta:O)(sl sc tl tc:Nat)(base:Nat)(H:Heap)(K:KT):
 (fV TryzMutsJ Tryz.f168 base H [.v (A #[S sa sl sc,S ta tl tc])] [] K)=(
 ∀a b:Nat,Y Tryz.prog 169 [S sa sl sc] H fun c d=>∃e g h,c=S e g h/\(X base H d->Y Tryz.prog 169 [S ta tl tc] d fun i j=>∃k l m,i=S k l m/\(X base d j->K (A #[S e g h,S k l m]) [] j))):=by kernel_rfl
open Go Go.Proofs
theorem cCloneRules{H:Heap}{a:O}{l c:Nat}{xs:List Rule}(hx:Rules H a l xs)(hl:l<=100000):Spec Tryz.prog 164 [.slice a l c] H fun v H'=>∃a n c,v= .slice a n c/\Fresh H H' 152 4 a n c (xs.flatMap ruleCells):=by
 refine TryzvcJ Tryz.func164 (by kernel_rfl) (by kernel_rfl) _ rfl (fun base K=>vx164 a l c base H K) fun base hb=>⟨_,eqNil Tryz.underlying25,fun h=> ?_,fun h=> ?_⟩
 ·obtain rfl:a=none:=by cases a<;>simp at h⊢
  obtain⟨_,rfl⟩:=hx.addr_nil
  exact⟨none,0,0,rfl,Fresh.zero⟩
 ·intro g H1 hN1 _ hg
  obtain⟨h1,h2,h3⟩:=hx.copied ruleCells_len (fun _=>rfl) hN1.ext
  exact⟨[],_,Row.zero,h1,h2,h3,by omega,by omega,fun a3 c3 H3 hG hR=>⟨_,_,_,rfl,hR.fresh hb⟩⟩
theorem cCloneInts{H:Heap}{a:O}{l c:Nat}{xs:List Int}(hx:Sl RInt 1 H a l xs)(hl:l<=100000):Spec Tryz.prog 166 [.slice a l c] H fun v H'=>∃a n c,v= .slice a n c/\Fresh H H' 3 1 a n c (xs.flatMap fun x=>[i64 x]):=by
 refine TryzvcJ Tryz.func166 (by kernel_rfl) (by kernel_rfl) _ rfl (fun base K=>vx166 a l c base H K) fun base hb=>⟨_,eqNil Tryz.underlying97,fun h=> ?_,fun h=> ?_⟩
 ·obtain rfl:a=none:=by cases a<;>simp at h⊢
  obtain⟨_,rfl⟩:=hx.addr_nil
  exact⟨none,0,0,rfl,Fresh.zero⟩
 ·intro g H1 hN1 _ hg
  have hx':Sl (REnc fun x:Int=>[i64 x]) 1 H a l xs:=hx
  obtain⟨h1,h2,h3⟩:=hx'.copied (fun x=>show([i64 x]:List Value).length=1 from rfl) (fun x=>show allOne [i64 x]=true from rfl) hN1.ext
  exact⟨[],_,Row.zero,h1,h2,h3,by omega,by omega,fun a3 c3 H3 hG hR=>⟨_,_,_,rfl,hR.fresh hb⟩⟩
theorem rsl_one{α:Type}{R:Rep α}{sz:Nat}{H:Heap}{r:List Value}{x:List α}(h:RSl R sz H r x):allOne r=true:=by
 obtain⟨a,n,c,rfl,_⟩:=h;rfl
theorem rsl_len{α:Type}{R:Rep α}{sz:Nat}{H:Heap}{r:List Value}{x:List α}(h:RSl R sz H r x):r.length=1:=by
 obtain⟨a,n,c,rfl,_⟩:=h;rfl
theorem cCloneWaves{H:Heap}{a:O}{l c:Nat}{ms:List (List Int)}(hx:Waves H a l ms)(hl:l<=100000):Spec Tryz.prog 165 [.slice a l c] H fun v H'=>∃a n c rs,v= .slice a n c/\Fresh H H' 97 1 a n c rs.flatten/\(∀r∈rs,r.length=1)/\AllR (RSl RInt 1) H rs ms:=by
 refine TryzvcJ Tryz.func165 (by kernel_rfl) (by kernel_rfl) _ rfl (fun base K=>vx165 a l c base H K) fun base hb=>⟨_,eqNil Tryz.underlying26,fun h=> ?_,fun h=> ?_⟩
 ·obtain rfl:a=none:=by cases a<;>simp at h⊢
  obtain⟨_,rfl⟩:=hx.addr_nil
  exact⟨none,0,0,[],rfl,Fresh.zero,by simp,trivial⟩
 ·intro g H1 hN1 _ hg
  obtain⟨rs,h1,h2,h3,h4⟩:=hx.rows rsl_len
  exact⟨[],_,Row.zero,h3,allOne_rows rsl_one h2,h4.imp id (fun⟨b,o,hb,hc⟩=>⟨b,o,hb,cellsAt_ext hN1.ext hc⟩),by omega,by omega,fun a3 c3 H3 hG hR=>⟨_,_,_,rs,rfl,hR.fresh hb,h1,h2⟩⟩
theorem RNod.len{H:Heap}{r:List Value}{x:Nod}(h:RNod H r x):r.length=10:=by obtain⟨q,rfl,_⟩:=h;rfl
theorem RNod.one{H:Heap}{r:List Value}{x:Nod}(h:RNod H r x):allOne r=true:=by obtain⟨q,rfl,_⟩:=h;rfl
theorem cCloneNods{H:Heap}{a:O}{l c:Nat}{ms:List Nod}(hx:Nods H a l ms)(hl:l<=100000):Spec Tryz.prog 171 [.slice a l c] H fun v H'=>∃a n c rs,v= .slice a n c/\Fresh H H' 58 10 a n c rs.flatten/\(∀r∈rs,r.length=10)/\AllR RNod H rs ms:=by
 refine TryzvcJ Tryz.func171 (by kernel_rfl) (by kernel_rfl) _ rfl (fun base K=>vx171 a l c base H K) fun base hb=>⟨_,eqNil Tryz.underlying38,fun h=> ?_,fun h=> ?_⟩
 ·obtain rfl:a=none:=by cases a<;>simp at h⊢
  obtain⟨_,rfl⟩:=hx.addr_nil
  exact⟨none,0,0,[],rfl,Fresh.zero,by simp,trivial⟩
 ·intro g H1 hN1 _ hg
  obtain⟨rs,h1,h2,h3,h4⟩:=hx.rows RNod.len
  exact⟨[],_,Row.zero,h3,allOne_rows RNod.one h2,h4.imp id (fun⟨b,o,hb,hc⟩=>⟨b,o,hb,cellsAt_ext hN1.ext hc⟩),by omega,by omega,fun a3 c3 H3 hG hR=>⟨_,_,_,rs,rfl,hR.fresh hb,h1,h2⟩⟩
theorem cOwnDisk{H:Heap}{sa ta:O}{sl sc tl tc:Nat}{d:Dsk}(hd:DskAt H d sa sl sc ta tl tc)(h1:sl<=100000)(h2:tl<=100000):Spec Tryz.prog 168 [dskArg sa sl sc ta tl tc] H fun v H'=>∃sa sl sc ta tl tc,v=dskArg sa sl sc ta tl tc/\DskAt (newOf H H') d sa sl sc ta tl tc:=by
 refine TryzvcJ Tryz.func168 (by kernel_rfl) (by kernel_rfl) _ rfl (fun base K=>vx168 sa ta sl sc tl tc base H K) fun base hb=>fun b b'=> ?_
 refine(cCloneB hd.safe h1).mono fun v H1 e1 hv=> ?_
 obtain⟨a1,n1,c1,rfl,hF1⟩:=hv
 refine⟨a1,n1,c1,rfl,fun hN1=> ?_⟩
 refine(cCloneB (hd.wait.ext' e1) h2).mono fun v H2 e2 hv=> ?_
 obtain⟨a2,n2,c2,rfl,hF2⟩:=hv
 refine⟨a2,n2,c2,rfl,fun hN2=> ?_⟩
 exact⟨a1,n1,c1,a2,n2,c2,rfl,hF1.bytes.ext' (newOf_right e2),hF2.bytes.ext' (newOf_mono e1),hF1.le,hF2.le⟩
open Go Go.Proofs
theorem Fresh.ints{H H':Heap}{a:O}{n c:Nat}{xs:List Int}(h:Fresh H H' 3 1 a n c (xs.flatMap fun x=>[i64 x])):Sl RInt 1 (newOf H H') a n xs:=h.sl_new (sz:=1) (enc:=fun x:Int=>[i64 x]) (fun _=>rfl) (by decide)
theorem cConfigC{H:Heap}{c:Conf}{fa ra wa:O}{fl fc rl rc wl wc:Nat}(hc:CfgAt H c fa fl ra rl wa wl)(h1:fl<=100000)(h2:rl<=100000)(h3:wl<=100000)(h4:∀x∈c.waves,x.length<=100000):
  Spec Tryz.prog 87 [cfgArg c fa fl fc ra rl rc wa wl wc] H fun v H'=>∃fa fl fc ra rl rc wa wl wc,v=cfgArg c fa fl fc ra rl rc wa wl wc/\CfgAt H' c fa fl ra rl wa wl:=by
 refine TryzvcJ Tryz.func87 (by kernel_rfl) (by kernel_rfl) _ rfl (fun base K=>vx87 c.first.id c.bud fa ra wa fl fc rl rc wl wc base H K) fun base hb=>fun b b'=> ?_
 refine(cCloneJ hc.pins h1).mono fun v H1 e1 hv=> ?_
 obtain⟨a1,n1,c1,rfl,hF1⟩:=hv
 refine⟨a1,n1,c1,rfl,fun hN1=> ?_⟩
 refine(cCloneRules (hc.ext e1).rules h2).mono fun v H2 e2 hv=> ?_
 obtain⟨a2,n2,c2,rfl,hF2⟩:=hv
 refine⟨a2,n2,c2,rfl,fun hN2=> ?_⟩
 refine(cCloneWaves (hc.ext (Ext.trans e1 e2)).waves h3).mono fun v H3 e3 hv=> ?_
 obtain⟨a3,n3,c3,rs,rfl,hF3,hw3,hA3⟩:=hv
 refine⟨a3,n3,c3,rfl,fun hN3=> ?_⟩
 have hO3:OwnSl (RSl RInt 1) 1 97 base H2 H3 a3 n3 c3 rs c.waves:=⟨hF3.row hN3,hw3,hA3,hN3.ext,fun hc0 g hg=>by
  rcases hF3.2.2.2 with⟨_,h0⟩|⟨g',k',q1,q2,_⟩
  ·exact absurd h0 hc0
  ·rw[hg] at q1;simp at q1;subst q1;exact q2⟩
 have hP:Pins H2 a1 n1 c.first.lock:=hF1.pins.ext' e2
 have hR:Rules H2 a2 n2 c.rules:=Sl.ext REnc.mono (hF2.sl_new ruleCells_len (by omega)) newOf_ext
 refine⟨fun vs H'=>∃(k:Nat)(G:Heap)(rows:List (List Value)),vs=[i64 k]/\k<=n3/\Ext H2 G/\OwnSl (RSl RInt 1) 1 97 base G H' a3 n3 c3 rows c.waves,upTo n3 0,⟨0,H2,rs,rfl,by omega,Ext.refl _,hO3⟩,fun n4 H4 hN4 hI=> ?_⟩
 obtain⟨k,G,rows,hvs,hk,hG,hO⟩:=hI
 obtain rfl:n4=(k:Int):=by simpa using hvs
 obtain⟨r1,r2⟩:=hO.rlen (by omega)
 have hle:(n3:Int)<=9223372036854775807:=(hO.sl (RSl.mono RInt.mono) (by omega)).le
 refine⟨fun hlt=>(hO.sl (RSl.mono RInt.mono) (by omega)).slice (Ext.refl _) (by omega) hlt fun x a' n' c' hx hS=> ?_,fun hge=> ?_⟩
 ·rw[Int.toNat_natCast] at hx
  refine(cCloneInts (c:=c') hS (by rw[←hS.len];exact h4 x (List.mem_of_getElem? hx))).mono fun v H5 e5 hv=> ?_
  obtain⟨a5,n5,c5,rfl,hF5⟩:=hv
  refine⟨a5,n5,c5,rfl,fun hN5=> ?_⟩
  obtain⟨g,kb,hab,hbb,hc0,hHb,hfree,hsz,_⟩:=hO.row.block (by omega)
  have hnc:=hO.row.2.1
  refine⟨g,0,hab,by omega,hlt,kb,e5 _ _ hHb,hfree,hbb,by rw[hsz,Int.toNat_natCast];omega,fun H6 hu=> ?_⟩
  rintro r rfl
  rw[wrap_in (by omega) (by omega)]
  have hOg:=hO.grow (RSl.mono RInt.mono) e5
  have hrow:rows[k]?=some (rows[k]'(by omega)):=List.getElem?_eq_getElem (by omega)
  have hlen1:(rows[k]'(by omega)).length=1:=hO.wid _ (List.getElem_mem _)
  have hnew:RSl RInt 1 (G.plus (newOf H4 H5)) (setRange (rows[k]'(by omega)) 0 [.slice a5 n5 c5]) x:=by
   rw[setRange_full (by rw[hlen1];rfl)]
   exact⟨a5,n5,c5,rfl,Sl.ext RInt.mono hF5.ints (new_in_grow hO.sub)⟩
  have hO6:=hOg.put (o:=0+Int.toNat (k:Int)*1) hrow (off:=0) (vs:=[.slice a5 n5 c5]) (by simp) (by rw[Int.toNat_natCast];omega) hab hc0 (e5 _ _ hHb) hu hnew
  rw[set_self hx] at hO6
  exact⟨rfl,⟨k+1,_,_,rfl,by omega,Ext.trans hG plus_left,hO6⟩,by simp[upTo];omega⟩
 ·exact⟨_,_,_,_,_,_,_,_,_,rfl,(hP.ext' hG).ext' hO.sub,Sl.ext REnc.mono hR (Ext.trans hG hO.sub),hO.sl (RSl.mono RInt.mono) (by omega)⟩
open Go Go.Proofs
theorem vx90(id bud:Int)(fa ra wa:O)(fl fc rl rc wl wc:Nat)(now goal nx:Int)(back:Bool)(la ka:O)(ll lc kl kc:Nat)(sa ta:O)(sl sc tl tc:Nat)(up:Bool)(na ma:O)(nl nc ml mc:Nat)(base:Nat)(H:Heap)(K:KT):
 (fV TryzMutsK Tryz.f90 base H [.v (A #[I Z id,S fa fl fc,S ra rl rc,S wa wl wc,I Z bud,S la ll lc,I Z now,I Z goal,B back,S ka kl kc,I Z nx,S sa sl sc,S ta tl tc,B up,S na nl nc,S ma ml mc])] [] K)=(
 ∀a b:Nat,Y Tryz.prog 87 [A #[I Z id,S fa fl fc,S ra rl rc,S wa wl wc,I Z bud]] H fun c d=>∃e g h i j k l m n o p,c=A #[I Z e,S g h i,S j k l,S m n o,I Z p]/\(X base H d->Y Tryz.prog 170 [A #[S la ll lc,I Z now,I Z goal,B back,S ka kl kc,I Z nx]] d fun q r=>∃s t u v w x y z a1 b1,q=A #[S s t u,I Z v,I Z w,B x,S y z a1,I Z b1]/\(X base d r->Y Tryz.prog 168 [A #[S sa sl sc,S ta tl tc]] r fun c1 d1=>∃e1 f1 g1 h1 i1 j1,c1=A #[S e1 f1 g1,S h1 i1 j1]/\(X base r d1->Y Tryz.prog 171 [S na nl nc] d1 fun k1 l1=>∃m1 n1 o1,k1=S m1 n1 o1/\(X base d1 l1->Y Tryz.prog 172 [S ma ml mc] l1 fun p1 q1=>∃r1 s1 t1,(fun w6:LL=>p1=S r1 s1 t1/\(X base l1 q1->∃(u1:NI)(v1:Nat),u1 v1 [I Z 0] q1/\∀(w1:Nat)(x1:Int)(y1:Heap),X base H y1->u1 w1 [I Z x1] y1->(x1<(n1:Int)->∃z1 a2,m1=some (D z1 a2 none)/\0<=x1/\x1<(n1:Int)/\∃(b2:O)(c2 d2:Nat)(e2 f2:Int)(g2:Bool)(h2:Int)(i2:O)(j2 k2:Nat)(l2:Bool),(fun w5:LV=>∃(m2:O)(n2 o2:Nat)(p2:O)(q2 r2:Nat),(fun w4:LV=>∃s2:Bool,(C y1 z1 (a2+N x1*10)=some (S b2 c2 d2)/\C y1 z1 (a2+N x1*10+1)=some (I Z e2)/\C y1 z1 (a2+N x1*10+2)=some (I Z f2)/\C y1 z1 (a2+N x1*10+3)=some (B g2)/\C y1 z1 (a2+N x1*10+4)=some (I Z h2)/\C y1 z1 (a2+N x1*10+5)=some (S i2 j2 k2)/\C y1 z1 (a2+N x1*10+6)=some (B l2)/\C y1 z1 (a2+N x1*10+7)=some (S m2 n2 o2)/\C y1 z1 (a2+N x1*10+8)=some (S p2 q2 r2)/\C y1 z1 (a2+N x1*10+9)=some (B s2)/\True)/\∀t2:Nat,(Y Tryz.prog 173 w5 y1 fun u2 v2=>∃w2 x2 y2 z2 a3 b3 c3 d3 e3 f3 g3,u2=A #[S w2 x2 y2,I Z z2,I Z a3,B b3,I Z c3,S d3 e3 f3,B g3]/\(X base y1 v2->Y Tryz.prog 168 w4 v2 fun h3 i3=>∃j3 k3 l3 m3 n3 o3,h3=A #[S j3 k3 l3,S m3 n3 o3]/\(X base v2 i3->∃p3 q3,m1=some (D p3 q3 none)/\0<=x1/\x1<(n1:Int)/\∃r3:KB,i3 p3=some r3/\KB.free r3=true/\base<=p3/\q3+N x1*10+7<=KB.size r3/\∀s3:Heap,Upd i3 p3 (q3+N x1*10) r3 [S w2 x2 y2,I Z z2,I Z a3,B b3,I Z c3,S d3 e3 f3,B g3] s3->∃t3 u3,m1=some (D t3 u3 none)/\0<=x1/\x1<(n1:Int)/\∃v3:KB,s3 t3=some
 v3/\KB.free v3=true/\base<=t3/\u3+N x1*10+7+2<=KB.size v3/\∀w3:Heap,Upd s3 t3 (u3+N x1*10+7) v3 [S j3 k3 l3,S m3 n3 o3] w3->∀x3:Int,x3=W Z (x1+1)->w6=w6/\∃y3:Nat,y3<w1/\u1 y3 [I Z x3] w3)))/\Y Tryz.prog 173 w5 y1 fun u2 v2=>∃w2 x2 y2 z2 a3 b3 c3 d3 e3 f3 g3,u2=A #[S w2 x2 y2,I Z z2,I Z a3,B b3,I Z c3,S d3 e3 f3,B g3]/\(X base y1 v2->(Y Tryz.prog 168 w4 v2 fun h3 i3=>∃j3 k3 l3 m3 n3 o3,h3=A #[S j3 k3 l3,S m3 n3 o3]/\(X base v2 i3->∃p3 q3,m1=some (D p3 q3 none)/\0<=x1/\x1<(n1:Int)/\∃r3:KB,i3 p3=some r3/\KB.free r3=true/\base<=p3/\q3+N x1*10+7<=KB.size r3/\∀s3:Heap,Upd i3 p3 (q3+N x1*10) r3 [S w2 x2 y2,I Z z2,I Z a3,B b3,I Z c3,S d3 e3 f3,B g3] s3->∃t3 u3,m1=some (D t3 u3 none)/\0<=x1/\x1<(n1:Int)/\∃v3:KB,s3 t3=some v3/\KB.free v3=true/\base<=t3/\u3+N x1*10+7+2<=KB.size v3/\∀w3:Heap,Upd s3 t3 (u3+N x1*10+7) v3 [S j3 k3 l3,S m3 n3 o3] w3->∀x3:Int,x3=W Z (x1+1)->w6=w6/\∃y3:Nat,y3<w1/\u1 y3 [I Z x3] w3))/\Y Tryz.prog 168 w4 v2 fun h3 i3=>∃j3 k3 l3 m3 n3 o3,h3=A #[S j3 k3 l3,S m3 n3 o3]/\(X base v2 i3->∃p3 q3,m1=some (D p3 q3 none)/\0<=x1/\x1<(n1:Int)/\(∃r3:KB,i3 p3=some r3/\KB.free r3=true/\base<=p3/\q3+N x1*10+7<=KB.size r3/\∀s3:Heap,Upd i3 p3 (q3+N x1*10) r3 [S w2 x2 y2,I Z z2,I Z a3,B b3,I Z c3,S d3 e3 f3,B g3] s3->∃t3 u3,m1=some (D t3 u3 none)/\0<=x1/\x1<(n1:Int)/\∃v3:KB,s3 t3=some v3/\KB.free v3=true/\base<=t3/\u3+N x1*10+7+2<=KB.size v3/\∀w3:Heap,Upd s3 t3 (u3+N x1*10+7) v3 [S j3 k3 l3,S m3 n3 o3] w3->∀x3:Int,x3=W Z (x1+1)->w6=w6/\∃y3:Nat,y3<w1/\u1 y3 [I Z x3] w3)/\∃r3:KB,i3 p3=some r3/\KB.free r3=true/\base<=p3/\q3+N x1*10+7<=KB.size r3/\∀s3:Heap,Upd i3 p3 (q3+N x1*10) r3 [S w2 x2 y2,I Z z2,I Z a3,B b3,I Z c3,S d3 e3 f3,B g3] s3->∃t3 u3,m1=some (D t3 u3 none)/\0<=x1/\x1<(n1:Int)/\∃v3:KB,s3 t3=some v3/\KB.free v3=true/\base<=t3/\u3+N x1*10+7+2<=KB.size v3/\∀w3:Heap,Upd s3 t3 (u3+N x1*10+7) v3 [S j3 k3 l3,S m3 n3 o3] w3->∀
 x3:Int,x3=W Z (x1+1)->w6=w6/\∃y3:Nat,y3<w1/\u1 y3 [I Z x3] w3))) [A #[S m2 n2 o2,S p2 q2 r2]]) [A #[S b2 c2 d2,I Z e2,I Z f2,B g2,I Z h2,S i2 j2 k2,B l2]])/\(¬x1<(n1:Int)->K (A #[I Z e,S g h i,S j k l,S m n o,I Z p,S s t u,I Z v,I Z w,B x,S y z a1,I Z b1,S e1 f1 g1,S h1 i1 j1,B up,S m1 n1 o1,S r1 s1 t1]) [] y1))) [[I Z e,S g h i,S j k l,S m n o,I Z p,S s t u,I Z v,I Z w,B x,S y z a1,I Z b1,S e1 f1 g1,S h1 i1 j1,B up,S m1 n1 o1,S r1 s1 t1],[I Z 0,S none 0 0,S none 0 0,S none 0 0,I Z 0,S none 0 0,I Z 0,I Z 0,B false,S none 0 0,I Z 0,S none 0 0,S none 0 0,B false,S none 0 0,S none 0 0]]))))):=by kernel_rfl
open Go Go.Proofs
theorem OwnSl.grown{α:Type}{R:Rep α}(hR:R.Mono){sz:Nat}{e:TypeId}{base:Nat}{G H G' H':Heap}{a:O}{n c:Nat}{rows:List (List Value)}{xs:List α}(h:OwnSl R sz e base G H a n c rows xs)(g:Grown G H G' H'):OwnSl R sz e base G' H' a n c rows xs:=
 ⟨h.row.ext g.keep,h.wid,h.all.mono hR g.ext,g.sub,fun hc b hb=>by
  cases hg:G' b with
  |none=>rfl
  |some k=>
   have h1:=g.away b k hg (h.clear hc b hb)
   obtain⟨b',k',h2,h3⟩:=h.block hc
   rw[hb] at h2;simp at h2;subst h2
   rw[h1] at h3;cases h3⟩
theorem OwnSl.nodeAt{base:Nat}{G H:Heap}{a:O}{n c:Nat}{rows:List (List Value)}{xs:List Nod}(h:OwnSl RNod 10 58 base G H a n c rows xs){k:Nat}{x:Nod}(hx:xs[k]?=some x):
  ∃(b:Nat)(kb:KB)(q:NA),a=some ⟨b,0,none⟩/\base<=b/\c≠0/\H b=some kb/\kb.free=true/\k<n/\k*10+10<=kb.size/\rows[k]?=some (nodCells x q)/\NodAt G x q/\∀j v,(nodCells x q)[j]?=some v->H.cell b (k*10+j)=some v:=
 OwnW.node (w:=⟨⟨⟨0,[]⟩,[],[],0⟩,⟨⟨[],0,0,false,[],0⟩,⟨[],[]⟩,false⟩,xs,[]⟩) (p:=⟨none,0,0,none,0,0,none,0,0,none,0,0,none,0,0,none,0,0,none,0,0,a,n,c,none,0,0⟩) ⟨⟨⟨Sl.nil,Sl.nil,Sl.nil⟩,⟨Sl.nil,Sl.nil⟩,⟨Sl.nil,Sl.nil,Nat.le_refl _,Nat.le_refl _⟩,Sl.nil,Nat.le_refl _⟩,h⟩ hx
structure NewW(H G H':Heap)(w:Wld)(p:WA)(rows:List (List Value)):Prop where
 parts:Parts G w p
 row:Fresh H H' 58 10 p.na p.nl p.nc rows.flatten
 wid:∀r∈rows,r.length=10
 all:AllR RNod G rows w.n
 sub:Ext G H'
 clear:p.nc≠0->∀g,p.na=some ⟨g,0,none⟩->G g=none
theorem NewW.own{base:Nat}{H G H':Heap}{w:Wld}{p:WA}{rows:List (List Value)}(h:NewW H G H' w p rows)(hN:Next base H H'):OwnW base G H' w p rows:=⟨h.parts,h.row.row hN,h.wid,h.all,h.sub,h.clear⟩
theorem copy_put{base:Nat}{G H4:Heap}{a:O}{n c:Nat}{rows:List (List Value)}{xs:List Nod}(hO:OwnSl RNod 10 58 base G H4 a n c rows xs){k:Nat}{x:Nod}{q:NA}(hrow:rows[k]?=some (nodCells x q))(hx:xs[k]?=some x)(hq:NodAt G x q){g:Nat}{kb:KB}
  (hab:a=some ⟨g,0,none⟩) (hc0:c≠0) (hHb:H4 g=some kb) (hfree:kb.free=true) (hbb:base<=g) (hroom:k*10+10<=kb.size) {xa ga:O} {xl xc gl gc:Nat} (p1:Pins G xa xl x.a.lock) (p2:Pins G ga gl x.a.goal.lock)
  {ua va:O} {ul uc vl vc:Nat} (hD:DskAt G x.d ua ul uc va vl vc) (hlt:k<n) {F:Heap->Prop} (hF:∀H6 rows',OwnSl RNod 10 58 base G H6 a n c rows' xs->F H6):
  ∃(kk:KB),H4 g=some kk/\KB.free kk=true/\base<=g/\0+Int.toNat (k:Int)*10+7<=KB.size kk/\∀(H5:Heap),Upd H4 g (0+Int.toNat (k:Int)*10) kk [.slice xa xl xc,.int .i64 x.a.at_,.int .i64 x.a.try_,.bool x.a.going,.int .i64 x.a.goal.id,.slice ga gl gc,.bool x.a.good] H5->
   ∃(b9 o:Nat),a=some ⟨b9,o,none⟩/\0<=(k:Int)/\(k:Int)<(n:Int)/\∃(k2:KB),H5 b9=some k2/\KB.free k2=true/\base<=b9/\o+Int.toNat (k:Int)*10+7+2<=KB.size k2/\∀(H6:Heap),Upd H5 b9 (o+Int.toNat (k:Int)*10+7) k2 [.slice ua ul uc,.slice va vl vc] H6->F H6:=by
 refine⟨kb,hHb,hfree,hbb,by rw[Int.toNat_natCast];omega,fun H5 hu5=>⟨g,0,hab,by omega,by omega,_,hu5.here,hfree,hbb,by rw[Int.toNat_natCast];show 0+k*10+7+2<=kb.size;omega,fun H6 hu6=> ?_⟩⟩
 have hkl:=(List.getElem?_eq_some_iff.1 hrow).1
 have h5:=hO.put (o:=0+Int.toNat (k:Int)*10) hrow (off:=0) (vs:=[.slice xa xl xc,.int .i64 x.a.at_,.int .i64 x.a.try_,.bool x.a.going,.int .i64 x.a.goal.id,.slice ga gl gc,.bool x.a.good]) (by simp) (by rw[Int.toNat_natCast];omega) hab hc0 hHb hu5 (RNod.setA hq (a:=x.a) p1 p2)
 have hrow':(rows.set k (setRange (nodCells x q) 0 [.slice xa xl xc,.int .i64 x.a.at_,.int .i64 x.a.try_,.bool x.a.going,.int .i64 x.a.goal.id,.slice ga gl gc,.bool x.a.good]))[k]?=some (nodCells x { q with xa:=xa,xl:=xl,xc:=xc,ga:=ga,gl:=gl,gc:=gc }):=by
  rw[List.getElem?_set,if_pos rfl,if_pos hkl];rfl
 have h6:=h5.put (o:=0+Int.toNat (k:Int)*10+7) hrow' (off:=7) (vs:=[.slice ua ul uc,.slice va vl vc]) (by simp) (by rw[Int.toNat_natCast];omega) hab hc0 hu5.here hu6 (RNod.setD (x:=x) (q:= { q with xa:=xa,xl:=xl,xc:=xc,ga:=ga,gl:=gl,gc:=gc }) ⟨p1,p2,hq.dsk⟩ (d:=x.d) hD)
 simp only[List.set_set] at h6
 have e:xs.set k ({ x with d:=x.d } :Nod)=xs:=set_self hx
 rw[e] at h6
 exact hF _ _ h6
theorem Spec.cfg1{P:Program}{f:FuncId}{args:List Value}{H:Heap}{c:Conf}(h:Spec P f args H fun v H'=>∃fa fl fc ra rl rc wa wl wc,v=cfgArg c fa fl fc ra rl rc wa wl wc/\CfgAt H' c fa fl ra rl wa wl){base:Nat}{G:Int->O->Nat->Nat->O->Nat->Nat->O->Nat->Nat->Int->Heap->Prop}
  (hG:∀fa fl fc ra rl rc wa wl wc H',Ext H H'->Vg.Next base H H'->CfgAt H' c fa fl ra rl wa wl->G c.first.id fa fl fc ra rl rc wa wl wc c.bud H'):
  Spec P f args H fun v H'=>∃(n:Int)(fa:O)(fl fc:Nat)(ra:O)(rl rc:Nat)(wa:O)(wl wc:Nat)(m:Int),v= .agg #[.int .i64 n,.slice fa fl fc,.slice ra rl rc,.slice wa wl wc,.int .i64 m]/\(Vg.Next base H H'->G n fa fl fc ra rl rc wa wl wc m H'):=
 h.mono fun v H' ex hv=>by
  obtain⟨fa,fl,fc,ra,rl,rc,wa,wl,wc,h1,h2⟩:=hv
  exact⟨_,_,_,_,_,_,_,_,_,_,_,h1,fun hN=>hG _ _ _ _ _ _ _ _ _ H' ex hN h2⟩
theorem Spec.dsk1{P:Program}{f:FuncId}{args:List Value}{H:Heap}{Q:O->Nat->Nat->O->Nat->Nat->Heap->Prop}(h:Spec P f args H fun v H'=>∃sa sl sc ta tl tc,v=dskArg sa sl sc ta tl tc/\Q sa sl sc ta tl tc H'){base:Nat}{G:O->Nat->Nat->O->Nat->Nat->Heap->Prop}
  (hG:∀sa sl sc ta tl tc H',Ext H H'->Vg.Next base H H'->Q sa sl sc ta tl tc H'->G sa sl sc ta tl tc H'):
  Spec P f args H fun v H'=>∃(sa:O)(sl sc:Nat)(ta:O)(tl tc:Nat),v= .agg #[.slice sa sl sc,.slice ta tl tc]/\(Vg.Next base H H'->G sa sl sc ta tl tc H'):=
 h.mono fun v H' ex hv=>by
  obtain⟨sa,sl,sc,ta,tl,tc,h1,h2⟩:=hv
  exact⟨_,_,_,_,_,_,h1,fun hN=>hG _ _ _ _ _ _ H' ex hN h2⟩
theorem Fresh.row0{H H':Heap}{e:TypeId}{sz:Nat}{a:O}{n c:Nat}{xs:List Value}(h:Fresh H H' e sz a n c xs):Row 0 H' e sz a n c xs:=
 ⟨h.1,h.2.1,h.2.2.1,h.2.2.2.imp id fun⟨g,k,h1,h2,h3,h4⟩=>⟨g,k,h1,Nat.zero_le _,h3,h4⟩⟩
theorem Spec.agt1G{P:Program}{f:FuncId}{args:List Value}{G H:Heap}{x:Agt}(h:Spec P f args H fun v H'=>∃G',Grown G H G' H'/\∃a n c ga gn gc,v=agtArg x a n c ga gn gc/\Pins G' a n x.lock/\Pins G' ga gn x.goal.lock){base:Nat}
  {F:O->Nat->Nat->Int->Int->Bool->Int->O->Nat->Nat->Bool->Heap->Prop} (hF:∀G' H' a n c ga gn gc,Grown G H G' H'->Vg.Next base H H'->Pins G' a n x.lock->Pins G' ga gn x.goal.lock->F a n c x.at_ x.try_ x.going x.goal.id ga gn gc x.good H'):
  Spec P f args H fun v H'=>∃(a:O)(n c:Nat)(n2 n3:Int)(b:Bool)(n4:Int)(a2:O)(n5 c1:Nat)(b3:Bool),v= .agg #[.slice a n c,.int .i64 n2,.int .i64 n3,.bool b,.int .i64 n4,.slice a2 n5 c1,.bool b3]/\(Vg.Next base H H'->F a n c n2 n3 b n4 a2 n5 c1 b3 H'):=
 h.mono fun v H' ex hv=>by
  obtain⟨G',g,a,n,c,ga,gn,gc,h1,h2,h3⟩:=hv
  exact⟨_,_,_,_,_,_,_,_,_,_,_,h1,fun hN=>hF G' H' _ _ _ _ _ _ g hN h2 h3⟩
theorem Spec.dskG{P:Program}{f:FuncId}{args:List Value}{G H:Heap}{d:Dsk}(h:Spec P f args H fun v H'=>∃G',Grown G H G' H'/\∃sa sl sc ta tl tc,v=dskArg sa sl sc ta tl tc/\DskAt (newOf G G') d sa sl sc ta tl tc){base:Nat}
  {F:O->Nat->Nat->O->Nat->Nat->Heap->Prop} (hF:∀G' H' sa sl sc ta tl tc,Grown G H G' H'->Vg.Next base H H'->DskAt G' d sa sl sc ta tl tc->F sa sl sc ta tl tc H'):
  Spec P f args H fun v H'=>∃(sa:O)(sl sc:Nat)(ta:O)(tl tc:Nat),v= .agg #[.slice sa sl sc,.slice ta tl tc]/\(Vg.Next base H H'->F sa sl sc ta tl tc H'):=
 h.mono fun v H' ex hv=>by
  obtain⟨G',g,sa,sl,sc,ta,tl,tc,h1,h2⟩:=hv
  exact⟨_,_,_,_,_,_,h1,fun hN=>hF G' H' _ _ _ _ _ _ g hN (h2.ext newOf_ext)⟩
theorem cCopyW{H:Heap}{w:Wld}{p:WA}(hw:WldAt H w p)(hok:WRight w):Spec Tryz.prog 90 [wldArg w p] H fun v H'=>∃p' G rows,v=wldArg w p'/\Ext H G/\NewW H G H' w p' rows:=by
 obtain⟨⟨s1,s2,s3,s4⟩,⟨s5,s6,s7⟩,⟨s8,s9⟩,⟨s10,s11⟩,s12,s13⟩:=hok.sizes
 refine TryzvcK Tryz.func90 (by kernel_rfl) (by kernel_rfl) _ rfl (fun base K=>vx90 w.c.first.id w.c.bud p.fa p.ra p.wa p.fl p.fc p.rl p.rc p.wl p.wc w.h.l.now w.h.l.goal w.h.l.nx w.h.l.back p.la p.ka p.ll p.lc p.kl p.kc p.sa p.ta p.sl p.sc p.tl p.tc w.h.up p.na p.ma p.nl p.nc p.ml p.mc base H K) fun base hb=>fun b b'=> ?_
 refine Spec.cfg1 (cConfigC hw.cfg (by rw[←hw.cfg.pins.len];exact s1) (by rw[←hw.cfg.rules.len];exact s2) (by rw[←hw.cfg.waves.len];exact s3) s4) fun fa fl fc ra rl rc wa wl wc H1 e1 hN1 hC=> ?_
 refine(cCopyL ((hw.ext e1).ldr) (by rw[←hw.ldr.rels.len];exact s5) (by rw[←hw.ldr.ags.len];exact s6) s7).mono fun v H2 e2 hv=> ?_
 obtain⟨la,ll,lc,ka,kl,kc,G2,rows2,rfl,hL2⟩:=hv
 refine⟨_,_,_,_,_,_,_,_,_,_,rfl,fun hN2=> ?_⟩
 have hLd:=(hL2.own hN2).at_
 have e02:=Ext.trans e1 e2
 refine Spec.dsk1 (cOwnDisk (hw.ext e02).dsk (by rw[←hw.dsk.safe.len];exact s8) (by rw[←hw.dsk.wait.len];exact s9)) fun sa sl sc ta tl tc H3 e3 hN3 hD=> ?_
 have hD3:=hD.ext newOf_ext
 have e03:=Ext.trans e02 e3
 refine(cCloneNods (hw.ext e03).nod (by rw[←hw.nod.len];exact s10)).mono fun v H4 e4 hv=> ?_
 obtain⟨na,nl,nc,rs,rfl,hF4,hw4,hA4⟩:=hv
 refine⟨na,nl,nc,rfl,fun hN4=> ?_⟩
 have hO4:OwnSl RNod 10 58 base H3 H4 na nl nc rs w.n:=⟨hF4.row hN4,hw4,hA4,hN4.ext,fun hc0 g hg=>by
  rcases hF4.2.2.2 with⟨_,h0⟩|⟨g',k',q1,q2,_⟩
  ·exact absurd h0 hc0
  ·rw[hg] at q1;simp at q1;subst q1;exact q2⟩
 have hnl:=(hO4.rlen (by omega)).2
 refine((cCopy (hw.ext e03).mail (by rw[←hw.mail.len];exact s12) s13).grown hN4.ext).mono fun v H5 e5 hv=> ?_
 obtain⟨G5,g5,ma,ml,mc,GM,rowsM,rfl,hM⟩:=hv
 refine⟨ma,ml,mc,rfl,fun hN5=> ?_⟩
 have hM5:Mails G5 ma ml w.m:=(⟨hM.row.row0,hM.wid,hM.all,hM.sub,hM.clear⟩:OwnSl RMail 6 74 0 GM G5 ma ml mc rowsM w.m).sl RMail.mono (by omega)
 have hO5:=hO4.grown RNod.mono g5
 refine⟨fun m vs H'=>∃(k:Nat)(G:Heap)(rows:List (List Value)),vs=[i64 k]/\k+m=nl/\Ext G5 G/\OwnSl RNod 10 58 base G H' na nl nc rows w.n,nl,⟨0,G5,rs,rfl,by omega,Ext.refl _,hO5⟩,fun m n5 H6 hN6 hI=> ?_⟩
 obtain⟨k,G,rows,hvs,hkm,hG,hO⟩:=hI
 obtain rfl:n5=(k:Int):=by simpa using hvs
 have hle:(nl:Int)<=9223372036854775807:=(hO.sl RNod.mono (by omega)).le
 refine⟨fun hlt=> ?_,fun hge=> ?_⟩
 ·obtain⟨x,hx⟩:∃x,w.n[k]?=some x:=⟨_,List.getElem?_eq_getElem (by omega)⟩
  obtain⟨g,kb,q,hab,hbb,hc0,hHb,hfree,hkl,hroom,hrow,hq,hc⟩:=hO.nodeAt hx
  obtain⟨t1,t2,t3⟩:=s11 x (List.mem_of_getElem? hx)
  have c:∀j v,(nodCells x q)[j]?=some v->H6.cell g (0+Int.toNat (k:Int)*10+j)=some v:=fun j v hj=>by rw[Int.toNat_natCast,Nat.zero_add];exact hc j v hj
  refine⟨g,0,hab,by omega,hlt,_,_,_,_,_,_,_,_,_,_,_,_,_,_,_,_,_,_,⟨c 0 _ rfl,c 1 _ rfl,c 2 _ rfl,c 3 _ rfl,c 4 _ rfl,c 5 _ rfl,c 6 _ rfl,c 7 _ rfl,c 8 _ rfl,c 9 _ rfl,trivial⟩,fun b5=> ?_⟩
  refine⟨?_,?_⟩
  ·refine Spec.agt1G ((cAgtCopy hq.lock hq.goal t1).grown hO.sub) fun G7 H7 xa xl xc ga gl gc g7 hN7 p1 p2=> ?_
   refine Spec.dskG ((cOwnDisk (hq.dsk.ext g7.ext) (by rw[←hq.dsk.safe.len];exact t2) (by rw[←hq.dsk.wait.len];exact t3)).grown g7.sub) fun G8 H8 ua ul uc va vl vc g8 hN8 hD8=> ?_
   refine⟨g,0,hab,by omega,hlt,copy_put (hO.grown RNod.mono (g7.trans g8)) hrow hx (hq.ext (g7.trans g8).ext) hab hc0 ((g7.trans g8).keep _ _ hHb) hfree hbb hroom (p1.ext' g8.ext) (p2.ext' g8.ext) hD8 hkl fun H9 rows9 hO9=> ?_⟩
   rintro r rfl
   rw[wrap_in (by omega) (by omega)]
   exact⟨rfl,m-1,by omega,k+1,_,rows9,rfl,by omega,Ext.trans hG (g7.trans g8).ext,hO9⟩
  ·refine Spec.agt1G ((cAgtCopy hq.lock hq.goal t1).grown hO.sub) fun G7 H7 xa xl xc ga gl gc g7 hN7 p1 p2=>⟨?_,?_⟩
   ·refine Spec.dskG ((cOwnDisk (hq.dsk.ext g7.ext) (by rw[←hq.dsk.safe.len];exact t2) (by rw[←hq.dsk.wait.len];exact t3)).grown g7.sub) fun G8 H8 ua ul uc va vl vc g8 hN8 hD8=> ?_
    refine⟨g,0,hab,by omega,hlt,copy_put (hO.grown RNod.mono (g7.trans g8)) hrow hx (hq.ext (g7.trans g8).ext) hab hc0 ((g7.trans g8).keep _ _ hHb) hfree hbb hroom (p1.ext' g8.ext) (p2.ext' g8.ext) hD8 hkl fun H9 rows9 hO9=> ?_⟩
    rintro r rfl
    rw[wrap_in (by omega) (by omega)]
    exact⟨rfl,m-1,by omega,k+1,_,rows9,rfl,by omega,Ext.trans hG (g7.trans g8).ext,hO9⟩
   ·refine Spec.dskG ((cOwnDisk (hq.dsk.ext g7.ext) (by rw[←hq.dsk.safe.len];exact t2) (by rw[←hq.dsk.wait.len];exact t3)).grown g7.sub) fun G8 H8 ua ul uc va vl vc g8 hN8 hD8=> ?_
    refine⟨g,0,hab,by omega,hlt,copy_put (hO.grown RNod.mono (g7.trans g8)) hrow hx (hq.ext (g7.trans g8).ext) hab hc0 ((g7.trans g8).keep _ _ hHb) hfree hbb hroom (p1.ext' g8.ext) (p2.ext' g8.ext) hD8 hkl fun H9 rows9 hO9=> ?_,copy_put (hO.grown RNod.mono (g7.trans g8)) hrow hx (hq.ext (g7.trans g8).ext) hab hc0 ((g7.trans g8).keep _ _ hHb) hfree hbb hroom (p1.ext' g8.ext) (p2.ext' g8.ext) hD8 hkl fun H9 rows9 hO9=> ?_⟩
    all_goals
     rintro r rfl
     rw[wrap_in (by omega) (by omega)]
     exact⟨rfl,m-1,by omega,k+1,_,rows9,rfl,by omega,Ext.trans hG (g7.trans g8).ext,hO9⟩
 ·refine⟨⟨fa,fl,fc,ra,rl,rc,wa,wl,wc,la,ll,lc,ka,kl,kc,sa,sl,sc,ta,tl,tc,na,nl,nc,ma,ml,mc⟩,G,rows,rfl,Ext.trans (Ext.trans e03 g5.ext) hG,⟨⟨hC.ext (Ext.trans (Ext.trans (Ext.trans e2 e3) g5.ext) hG),hLd.ext (Ext.trans (Ext.trans e3 g5.ext) hG),hD3.ext (Ext.trans g5.ext hG),Sl.ext RMail.mono hM5 hG,hM.row.2.1⟩,hO.row.fresh hb,hO.wid,hO.all,hO.sub,hO.clear⟩⟩
open Go Go.Proofs
theorem NewSl.sl0{α:Type}{R:Rep α}{sz:Nat}{e:TypeId}{H G H':Heap}{a:O}{n c:Nat}{rows:List (List Value)}{xs:List α}(hR:R.Mono)(h0:0<sz)(h:NewSl R sz e H G H' a n c rows xs):Sl R sz H' a n xs:=
 (⟨h.row.row0,h.wid,h.all,h.sub,h.clear⟩:OwnSl R sz e 0 G H' a n c rows xs).sl hR h0
theorem OwnW.len{base:Nat}{G H:Heap}{w:Wld}{p:WA}{rows:List (List Value)}(h:OwnW base G H w p rows):w.n.length=p.nl/\rows.length=p.nl:=⟨(h.nod.rlen (by omega)).2,(h.nod.rlen (by omega)).1⟩
theorem HapPre.start{base:Nat}{G H:Heap}{w:Wld}{p:WA}{rows:List (List Value)}{x:Hap}{a:O}{l:Nat}(h:HapPre base G H w p rows x a l):OwnPost base G H p w p G rows H:=OwnPost.start h.own
theorem HapPre.sub{base:Nat}{G H:Heap}{w:Wld}{p:WA}{rows:List (List Value)}{x:Hap}{a:O}{l:Nat}(h:HapPre base G H w p rows x a l):Ext G H:=h.own.nod.sub
theorem Spec.recov{P:Program}{f:FuncId}{args:List Value}{G H:Heap}{d:Dsk}(h:Spec P f args G fun v H'=>∃a1 n1 c1 a2 n2 c2 a3 n3 c3 G1 rows,v= .tuple #[dskArg a1 n1 c1 a2 n2 c2,.slice a3 n3 c3,i64 (dskErr d)]/\
  DskAt (newOf G H') (if dskErr d=0 then dskBack d else dsk0) a1 n1 c1 a2 n2 c2/\NewSl RRec 7 126 G G1 H' a3 n3 c3 rows (if dskErr d=0 then dskRecs d else [])) (e:Ext G H) {base:Nat}
  {F:O->Nat->Nat->O->Nat->Nat->O->Nat->Nat->Int->Heap->Prop}
  (hF:∀a1 n1 c1 a2 n2 c2 a3 n3 c3 G' H',Grown G H G' H'->DskAt G' (if dskErr d=0 then dskBack d else dsk0) a1 n1 c1 a2 n2 c2->Recs G' a3 n3 (if dskErr d=0 then dskRecs d else [])->F a1 n1 c1 a2 n2 c2 a3 n3 c3 (dskErr d) H'):
  Spec P f args H fun v H'=>∃(a:O)(n c:Nat)(a1:O)(n1 c1:Nat)(a2:O)(n2 c2:Nat)(n3:Int),v= .tuple #[.agg #[.slice a n c,.slice a1 n1 c1],.slice a2 n2 c2,.int .i64 n3]/\(Vg.Next base H H'->F a n c a1 n1 c1 a2 n2 c2 n3 H'):=
 (h.grown e).mono fun v H' e' hv=>by
  obtain⟨G',g,a1,n1,c1,a2,n2,c2,a3,n3,c3,G1,rows,hv,hD,hR⟩:=hv
  exact⟨_,_,_,_,_,_,_,_,_,_,hv,fun _=>hF _ _ _ _ _ _ _ _ _ G' H' g (hD.ext newOf_ext) (hR.sl0 RRec.mono (by omega))⟩
theorem notB{b:Bool} :decide (b=false)= !b:=by cases b<;>rfl
theorem nDoes_err{n:Nod}{r:Recd}{e:Int}(h:nDoes n r= .error e):e≠0:=by
 unfold nDoes at h
 split at h
 ·rename_i hn;injection h with h;exact h▸hn
 ·cases hd:dskSafe n.d r with
  |error e'=>rw[hd] at h;injection h with h;exact h▸dskSafe_err hd
  |ok d=>rw[hd] at h;cases h
theorem wDoes_err{w:Wld}{k:Nat}{r:Recd}{e:Int}(h:wDoes w k r= .error e):e≠0:=by
 unfold wDoes at h
 split at h
 ·injection h with h;omega
 ·cases hd:nDoes _ r with
  |error e'=>rw[hd] at h;injection h with h;exact h▸nDoes_err hd
  |ok d=>rw[hd] at h;cases h
theorem list_same{α:Type}{l:List α}{k:Nat}{x:α}(h:l[k]?=some x):l.set k x=l:=by
 apply List.ext_getElem?
 intro j
 rw[List.getElem?_set]
 split
 ·rename_i e;subst e
  obtain⟨hk,hx⟩:=List.getElem?_eq_some_iff.1 h
  first|rw[if_pos hk,h]|rw[h]
 ·rfl
theorem OwnPost.does{base:Nat}{G H:Heap}{p:WA}{w:Wld}{p':WA}{G1 H1:Heap}{rows:List (List Value)}(h:OwnPost base G H p w p' G1 rows H1)(hL:Lb G1){k:Nat}{n:Nod}(hn:w.n[k]?=some n){r:Recd}{qa:O}{ql:Nat}(hq:Pins G1 qa ql r.rel.lock):
  ∃(y:Nat)(kb:KB)(q:NA),p'.na=some ⟨y,0,none⟩/\k<p'.nl/\DoesPre base G1 H1 n q r qa ql y (0+k*10) kb/\
   ∀e n' q' kb' G2 H2,DoesPost G1 H1 n q r y (0+k*10) kb e n' q' kb' G2 H2->e=errOf (wDoes w k r)/\(∀p1,wldCells (orSame w (wDoes w k r)) p1=wldCells w p1)/\OwnPost base G H p (orSame w (wDoes w k r)) p' G2 (rows.set k (nodCells n' q')) H2:=by
 obtain⟨y,kb,q,hna,hyb,hnc,hyk,hfree,hkl,hroom,hrow,hnod,hcell⟩:=h.own.node hn
 have hcl:G1 y=none:=h.own.nod.clear hnc y hna
 refine⟨y,kb,q,hna,hkl,⟨hL,h.own.nod.sub,hcl,hnod,hq,hyk,hfree,hyb,by omega,fun j v hj=> ?_⟩,fun e n' q' kb' G2 H2 hp=> ?_⟩
 ·have:=hcell j v hj
  unfold Heap.cell at this
  rw[hyk] at this
  rw[Nat.zero_add];exact this
 ·have hW:orSame w (wDoes w k r)= { w with n:=w.n.set k n' }/\e=errOf (wDoes w k r):=by
   unfold wDoes
   rw[hn]
   dsimp only
   rw[hp.res,hp.err]
   cases hd:nDoes n r with
   |ok x=>exact⟨rfl,rfl⟩
   |error e=>refine⟨?_,rfl⟩;show w= { w with n:=w.n.set k n };rw[list_same hn]
  rw[hW.1]
  refine⟨hW.2,fun _=>rfl,?_⟩
  have hcl2:G2 y=none:=by
   cases hg:G2 y with
   |none=>rfl
   |some z=>have:=hp.away y z hg hcl;rw[hyk] at this;cases this
  have hlen:=h.own.len
  have hrl:=(List.getElem?_eq_some_iff.1 hrow).1
  have hfl:(rows.set k (nodCells n' q')).flatten=setRange rows.flatten (k*10+0) (nodCells n' q'):=by
   rw[rows_setk hrow h.own.nod.wid (off:=0) (by simp),setRange_full (by simp)]
  have hfle:k*10+0+(nodCells n' q').length<=rows.flatten.length:=by
   rw[flat_wid h.own.nod.wid];simp;omega
  have hO:OwnSl RNod 10 58 base G2 H2 p'.na p'.nl p'.nc (rows.set k (nodCells n' q')) (w.n.set k n'):=by
   refine⟨?_,fun x hx=> ?_,(h.own.nod.all.mono RNod.mono hp.ext).set ⟨q',rfl,hp.nod⟩,hp.sub,fun hc x hx=>by rw[hna] at hx;simp at hx;subst hx;exact hcl2⟩
   ·obtain⟨r1,r2,r3,r4⟩:=h.own.nod.row
    refine⟨by rw[hfl,setRange_length];exact r1,r2,r3,.inr ?_⟩
    rcases r4 with⟨_,h5⟩|⟨g,k',hg,hbg,hH,h6,h7,h8,h9⟩
    ·exact absurd h5 hnc
    ·rw[hna] at hg
     simp only[Option.some.injEq,Addr.mk.injEq,and_true] at hg
     subst hg
     rw[hyk] at hH
     obtain rfl:=Option.some.inj hH
     refine⟨y,kb',hna,hbg,hp.at_,hp.ty.trans h6,hp.size.trans h7,hp.free,fun j v hv=> ?_⟩
     rw[hfl,setRange_getElem? _ _ _ _ hfle] at hv
     split at hv
     ·rename_i hj
      have:=hp.cells _ v hv
      rw[show 0+k*10+(j-(k*10+0))=j from by omega] at this
      exact this
     ·rename_i hj
      rw[hp.rest j (by simp at hj;omega)]
      exact h9 j v hv
   ·rcases List.mem_or_eq_of_mem_set hx with hx|rfl
    ·exact h.own.nod.wid x hx
    ·simp
  have hext:Ext G1 G2:=hp.ext
  refine⟨Ext.trans h.ext hp.ext,fun x kx hx hxn=> ?_,⟨⟨(h.own.parts.ext hext).cfg,(h.own.parts.ext hext).ldr,(h.own.parts.ext hext).dsk,(h.own.parts.ext hext).mail,h.own.parts.room⟩,hO⟩,fun x kx hx hxc=> ?_,fun x hx=> ?_,h.same⟩
  ·cases hg:G1 x with
   |some z=>exact h.away x z hg hxn
   |none=>
    have h1:=hp.away x kx hx hg
    cases hh:H x with
    |none=>rfl
    |some z=>exact absurd h1 (h.still x (by rw[hh];simp))
  ·have hne:x≠y:=fun e=>by
    subst e
    rcases hxc with h0|h0
    ·exact hnc (h.same.2.2.trans h0)
    ·exact h0 (h.same.1.symm.trans hna)
   exact hp.keep x kx hne (h.keep x kx hx hxc)
  ·by_cases e:x=y
   ·subst e;rw[hp.at_];simp
   ·have h1:=h.still x hx
    cases hh:H1 x with
    |none=>exact absurd hh h1
    |some z=>rw[hp.keep x z e hh];simp
section
variable {base : Nat} {H0 G H : Heap} {w : Wld} {p : WA} {rows : List (List Value)} {x : Hap} {a : O} {l c b : Nat} {f : SV->List Bx->Heap->Prop}
theorem power_in(h:HapPre base G H w p rows x a l)(hx:x.agent<w.n.length)
  (hf:∀w' p' G' rows' H' own1,OwnPost base G H p w' p' G' rows' H'->w'=orSame w (wPower w x)->f (.v (.int .i64 (errOf (wPower w x)))) (⟨b,false,41,wldCells w' p'⟩::own1) H'):
  codeI ⟨Tryz.prog,Tryz.f178.ntmps,⟨TryzListK,TryzSumS,true⟩,base,H0⟩ Tryz.f178 [.loc 0 0,.v (hapArg x a l c)] [⟨b,false,41,wldCells w p⟩] H f:=by
 rw[vx178]
 have bad:∀ {e:Int},wPower w x= .error e->∀ {G1 H1:Heap},Grown G H G1 H1->∀own1,f (.v (.int .i64 e)) (⟨b,false,41,wldCells w p⟩::own1) H1:=fun{e} he {G1 H1} g own1=>by
  have:=hf w p G1 rows H1 own1 (h.start.grown g) (by rw[he];rfl)
  rw[he] at this;exact this
 have good:∀ {w':Wld},wPower w x= .ok w'->∀ {p':WA} {G1 H1:Heap} {rows1:List (List Value)},OwnPost base G H p w' p' G1 rows1 H1->∀own1,f (.v (.int .i64 0)) (⟨b,false,41,wldCells w' p'⟩::own1) H1:=fun{w'} he {p' G1 H1 rows1} g own1=>by
  have:=hf w' p' G1 rows1 H1 own1 g (by rw[he];rfl)
  rw[he] at this;exact this
 have g0:Grown G H G H:=⟨Ext.refl _,h.sub,Ext.refl _,fun y k h1 h2=>(by rw[h1] at h2;cases h2)⟩
 have hP:=h.own.parts
 refine fun b1=>⟨fun hn=> ?_,fun hn=> ?_⟩
 ·refine⟨_,eqBool,fun hu=> ?_,fun hu=> ?_⟩
  ·have hu:w.h.up=decide (x.kind=13):=by simpa using hu
   exact bad (by unfold wPower;rw[if_pos hn,if_pos hu]) g0 _
  ·have hu:¬w.h.up=decide (x.kind=13):=by simpa using hu
   refine Spec.recov (cRecover h.lb hP.dsk) h.sub fun a1 n1 c1 a2 n2 c2 a3 n3 c3 G1 H1 g1 hD hR=>fun b3=>⟨fun he=> ?_,fun he=> ?_⟩
   ·exact bad (by unfold wPower;rw[if_pos hn,if_neg hu,if_pos he]) g1 _
   ·have he:=Decidable.not_not.1 he
    rw[if_pos he] at hD hR
    have hP1:=hP.ext g1.ext
    have hE:wPower w x=match ledReplay w.c (if x.kind=12 then [] else dskRecs w.h.d) with
      | .error e=> .error e
      | .ok s=> .ok { w with h:=⟨s,if x.kind=12 then w.h.d else dskBack w.h.d,!w.h.up⟩ } :=by
     unfold wPower;rw[if_pos hn,if_neg hu,if_neg (by omega)];rfl
    refine⟨fun hk=> ?_,fun hk=> ?_⟩
    ·rw[if_pos hk,if_pos hk] at hE
     refine((cReplayL (k:=0) hP1.cfg (Sl.nil:Recs G1 none 0 [])).grown g1.sub).mono fun v H2 e2 hv=> ?_
     obtain⟨G2,g2,la,ll,lc,ka,kl,kc,rfl,hA⟩:=hv
     refine⟨_,_,_,_,_,_,_,_,_,_,_,rfl,fun hN2=>fun b5=>⟨fun h0=> ?_,fun h0=> ?_⟩⟩
     ·cases hr:ledReplay w.c [] with
      |error e=>rw[hr] at h0 hE;exact absurd h0 (ledReplay_err hr)
      |ok s=>
       rw[hr] at hE hA
       have hP2:=hP1.ext g2.ext
       rw[notB]
       exact good (w':= { w with h:=⟨s,w.h.d,!w.h.up⟩ }) hE (p':= { p with la:=la,ll:=ll,lc:=lc,ka:=ka,kl:=kl,kc:=kc }) ((h.start.grown (g1.trans g2)).be ⟨hP2.cfg,hA,hP2.dsk,hP2.mail,hP2.room⟩ rfl rfl rfl rfl) _
     ·cases hr:ledReplay w.c [] with
      |ok s=>rw[hr] at h0;exact absurd rfl h0
      |error e=>rw[hr] at hE;exact bad hE (g1.trans g2) _
    ·rw[if_neg hk,if_neg hk] at hE
     refine((cReplayL (k:=c3) hP1.cfg hR).grown g1.sub).mono fun v H2 e2 hv=> ?_
     obtain⟨G2,g2,la,ll,lc,ka,kl,kc,rfl,hA⟩:=hv
     refine⟨_,_,_,_,_,_,_,_,_,_,_,rfl,fun hN2=>fun b5=>⟨fun h0=> ?_,fun h0=> ?_⟩⟩
     ·cases hr:ledReplay w.c (dskRecs w.h.d) with
      |error e=>rw[hr] at h0 hE;exact absurd h0 (ledReplay_err hr)
      |ok s=>
       rw[hr] at hE hA
       have hP2:=hP1.ext g2.ext
       rw[notB]
       exact good (w':= { w with h:=⟨s,dskBack w.h.d,!w.h.up⟩ }) hE (p':= { p with la:=la,ll:=ll,lc:=lc,ka:=ka,kl:=kl,kc:=kc,sa:=a1,sl:=n1,sc:=c1,ta:=a2,tl:=n2,tc:=c2 }) ((h.start.grown (g1.trans g2)).be ⟨hP2.cfg,hA,hD.ext g2.ext,hP2.mail,hP2.room⟩ rfl rfl rfl rfl) _
     ·cases hr:ledReplay w.c (dskRecs w.h.d) with
      |ok s=>rw[hr] at h0;exact absurd rfl h0
      |error e=>rw[hr] at hE;exact bad hE (g1.trans g2) _
 ·have h0:0<=x.agent:=by omega
  have hl:=h.own.len
  have hk:x.agent.toNat<w.n.length:=by omega
  obtain⟨n,hnn⟩:∃n,w.n[x.agent.toNat]?=some n:=⟨_,List.getElem?_eq_getElem hk⟩
  obtain⟨y,kb,q,hna,hyb,hnc,hyk,hfree,hkl,hroom,hrow,hnod,hcell⟩:=h.own.node hnn
  have cc:∀ {H1:Heap},Ext H H1->∀j v,(nodCells n q)[j]?=some v->H1.cell y (0+x.agent.toNat*10+j)=some v:=fun e j v hj=>Heap.cell_next e (by rw[Nat.zero_add];exact hcell j v hj)
  refine⟨y,0,hna,h0,by omega,_,cc (Ext.refl _) 9 _ rfl,_,eqBool,fun hu=> ?_,fun hu=> ?_⟩
  ·have hu:n.up=decide (x.kind=13):=by simpa using hu
   exact bad (by unfold wPower;rw[if_neg hn,hnn];dsimp only;rw[if_pos hu]) g0 _
  ·have hu:¬n.up=decide (x.kind=13):=by simpa using hu
   refine⟨_,_,_,_,_,_,⟨cc (Ext.refl _) 7 _ rfl,cc (Ext.refl _) 8 _ rfl,trivial⟩,?_⟩
   refine Spec.recov (cRecover h.lb hnod.dsk) h.sub fun a1 n1 c1 a2 n2 c2 a3 n3 c3 G1 H1 g1 hD hR=>fun b3=>⟨fun he=> ?_,fun he=> ?_⟩
   ·exact bad (by unfold wPower;rw[if_neg hn,hnn];dsimp only;rw[if_neg hu,if_pos he]) g1 _
   ·have he:=Decidable.not_not.1 he
    rw[if_pos he] at hD hR
    have hP1:=hP.ext g1.ext
    have hE:wPower w x=match agtReplay w.c.first (if x.kind=12 then [] else dskRecs n.d) with
      | .error e=> .error e
      | .ok s=> .ok { w with n:=w.n.set x.agent.toNat ⟨s,if x.kind=12 then n.d else dskBack n.d,!n.up⟩ } :=by
     unfold wPower;rw[if_neg hn,hnn];dsimp only;rw[if_neg hu,if_neg (by omega)];rfl
    have fin:∀ {s:Agt} {d:Dsk} {G2 H2:Heap} (g:Grown G H G2 H2) {xa ga ua va:O} {xl xc gl gc ul uc vl vc:Nat} {own1:List Bx},wPower w x= .ok { w with n:=w.n.set x.agent.toNat ⟨s,d,!n.up⟩ }->Pins G2 xa xl s.lock->Pins G2 ga gl s.goal.lock->DskAt G2 d ua ul uc va vl vc->
      ∃(b_9:Bool),H2.cell y (0+x.agent.toNat*10+9)=some (.bool b_9)/\∃(k:KB),H2 y=some k/\KB.free k=true/\base<=y/\0+x.agent.toNat*10+10<=KB.size k/\∀(H':Heap),Upd H2 y (0+x.agent.toNat*10) k [.slice xa xl xc,.int .i64 s.at_,.int .i64 s.try_,.bool s.going,.int .i64 s.goal.id,.slice ga gl gc,.bool s.good,.slice ua ul uc,.slice va vl vc,.bool (decide (b_9=false))] H'->
       f (.v (.int .i64 0)) (⟨b,false,41,wldCells w p⟩::own1) H':=by
     intro s d G2 H2 g xa ga ua va xl xc gl gc ul uc vl vc own1 hW p1 p2 p3
     refine⟨_,cc g.keep 9 _ rfl,kb,g.keep _ _ hyk,hfree,hyb,by omega,fun H3 hu3=> ?_⟩
     have hput:=(h.start.grown g).put hrow (off:=0) (o:=0+x.agent.toNat*10) (by simp) (by omega) hna hnc (g.keep _ _ hyk) hu3 (y:=⟨s,d,!n.up⟩) (by
      rw[setRange_full (by simp),notB]
      exact⟨⟨xa,xl,xc,ga,gl,gc,ua,ul,uc,va,vl,vc⟩,rfl,p1,p2,p3⟩)
     exact good hW hput own1
    refine⟨fun hk=> ?_,fun hk=> ?_⟩
    ·rw[if_pos hk,if_pos hk] at hE
     refine⟨_,_,_,_,_,_,⟨cc g1.keep 7 _ rfl,cc g1.keep 8 _ rfl,trivial⟩,?_⟩
     refine((cReplay (c:=p.fc) (c':=0) hP1.cfg.pins (Sl.nil:Recs G1 none 0 [])).grown g1.sub).mono fun v H2 e2 hv=> ?_
     obtain⟨G2,g2,xa,xl,xc,ga,gl,gc,rfl,hA,hB⟩:=hv
     refine⟨_,_,_,_,_,_,_,_,_,_,_,_,rfl,fun hN2=>fun b5=>⟨fun h0=> ?_,fun h0=> ?_⟩⟩
     ·cases hr:agtReplay w.c.first [] with
      |error e=>rw[hr] at h0 hE;exact absurd h0 (agtReplay_err hr)
      |ok s=>
       rw[hr] at hE hA hB
       exact fin (g1.trans g2) hE hA hB (hnod.dsk.ext (Ext.trans g1.ext g2.ext))
     ·cases hr:agtReplay w.c.first [] with
      |ok s=>rw[hr] at h0;exact absurd rfl h0
      |error e=>rw[hr] at hE;exact bad hE (g1.trans g2) _
    ·rw[if_neg hk,if_neg hk] at hE
     refine((cReplay (c:=p.fc) (c':=c3) hP1.cfg.pins hR).grown g1.sub).mono fun v H2 e2 hv=> ?_
     obtain⟨G2,g2,xa,xl,xc,ga,gl,gc,rfl,hA,hB⟩:=hv
     refine⟨_,_,_,_,_,_,_,_,_,_,_,_,rfl,fun hN2=>fun b5=>⟨fun h0=> ?_,fun h0=> ?_⟩⟩
     ·cases hr:agtReplay w.c.first (dskRecs n.d) with
      |error e=>rw[hr] at h0 hE;exact absurd h0 (agtReplay_err hr)
      |ok s=>
       rw[hr] at hE hA hB
       exact fin (g1.trans g2) hE hA hB (hD.ext g2.ext)
     ·cases hr:agtReplay w.c.first (dskRecs n.d) with
      |ok s=>rw[hr] at h0;exact absurd rfl h0
      |error e=>rw[hr] at hE;exact bad hE (g1.trans g2) _
theorem step_in(h:HapPre base G H w p rows x a l){n:Nod}(h0:0<=x.agent)(hnn:w.n[x.agent.toNat]?=some n)
  (hf:∀w' p' G' rows' H' own1,OwnPost base G H p w' p' G' rows' H'->w'=orSame w (wStep w x n)->f (.v (.int .i64 (errOf (wStep w x n)))) (⟨b,false,41,wldCells w' p'⟩::own1) H'):
  codeI ⟨Tryz.prog,Tryz.f179.ntmps,⟨TryzListK,TryzSumS,true⟩,base,H0⟩ Tryz.f179 [.loc 0 0,.v (hapArg x a l c)] [⟨b,false,41,wldCells w p⟩] H f:=by
 rw[vx179]
 have bad:∀ {e:Int},wStep w x n= .error e->∀ {G1 H1:Heap},Grown G H G1 H1->∀own1,f (.v (.int .i64 e)) (⟨b,false,41,wldCells w p⟩::own1) H1:=fun{e} he {G1 H1} g own1=>by
  have:=hf w p G1 rows H1 own1 (h.start.grown g) (by rw[he];rfl)
  rw[he] at this;exact this
 have g0:Grown G H G H:=⟨Ext.refl _,h.sub,Ext.refl _,fun y k h1 h2=>(by rw[h1] at h2;cases h2)⟩
 have hl:=h.own.len
 have hk:=(List.getElem?_eq_some_iff.1 hnn).1
 obtain⟨y,kb,q,hna,hyb,hnc,hyk,hfree,hkl,hroom,hrow,hnod,hcell⟩:=h.own.node hnn
 have cc:∀ {H1:Heap},Ext H H1->∀j v,(nodCells n q)[j]?=some v->H1.cell y (0+x.agent.toNat*10+j)=some v:=fun e j v hj=>Heap.cell_next e (by rw[Nat.zero_add];exact hcell j v hj)
 refine fun b1=>⟨y,0,hna,h0,by omega,_,cc (Ext.refl _) 3 _ rfl,fun hg=> ?_,fun hg=> ?_⟩
 ·exact bad (by unfold wStep;rw[if_pos hg]) g0 _
 ·refine⟨_,_,_,_,_,_,_,_,_,_,_,⟨cc (Ext.refl _) 0 _ rfl,cc (Ext.refl _) 1 _ rfl,cc (Ext.refl _) 2 _ rfl,cc (Ext.refl _) 3 _ rfl,cc (Ext.refl _) 4 _ rfl,cc (Ext.refl _) 5 _ rfl,cc (Ext.refl _) 6 _ rfl,trivial⟩,?_⟩
  refine((cLeft hnod.lock hnod.goal).grown h.sub).mono fun v H1 e1 hv=> ?_
  obtain⟨G1,g1,sa,sn,sc,rfl,hS⟩:=hv
  refine⟨_,_,_,_,rfl,fun hN1=>⟨fun he=> ?_,fun he=> ?_⟩⟩
  ·exact bad (by unfold wStep;rw[if_neg hg,if_pos he]) g1 _
  ·have he:=Decidable.not_not.1 he
   rw[if_pos he] at hS
   have hsl:=hS.len
   have hpost:=h.start.grown g1
   have hlb:=h.lb.ext g1.ext
   refine⟨fun hp=> ?_,fun hp=> ?_⟩
   ·have hE:wStep w x n=wDoes w x.agent.toNat ⟨2,0,n.a.try_,0,false,⟨0,[]⟩⟩:=by
     unfold wStep;rw[if_neg hg,if_neg (by omega),if_pos (fun e=>by rw[e] at hsl;simp at hsl;omega)]
    obtain⟨y2,kb2,q2,hna2,hkl2,hpre,hdo⟩:=hpost.does hlb hnn (r:=⟨2,0,n.a.try_,0,false,⟨0,[]⟩⟩) (qa:=none) (ql:=0) Sl.nil
    rw[hna] at hna2
    simp only[Option.some.injEq,Addr.mk.injEq,and_true] at hna2
    subst hna2
    refine⟨_,cc g1.keep 2 _ rfl,G1,n,q2,⟨2,0,n.a.try_,0,false,⟨0,[]⟩⟩,none,0,0,kb2,⟨rfl,rfl⟩,hpre,fun e n' q' kb' G2 H2 hP=> ?_⟩
    obtain⟨rfl,hc,hO⟩:=hdo _ _ _ _ _ _ hP
    have:=hf _ _ _ _ _ [⟨b1,false,62,[.int .i64 x.kind,.int .i64 x.agent,.int .i64 x.num,.bool x.good,.slice a l c]⟩] hO (by rw[hE])
    rw[hE,hc] at this
    exact this
   ·have hE:wStep w x n=match wDoes w x.agent.toNat ⟨3,0,n.a.try_,0,x.good,⟨0,[]⟩⟩ with
      | .error e=> .error e
      | .ok y=> .ok (wReport y x.agent.toNat):=by
     unfold wStep;rw[if_neg hg,if_neg (by omega),if_neg (fun e=>e (List.length_eq_zero_iff.1 (by omega)))];rfl
    obtain⟨y2,kb2,q2,hna2,hkl2,hpre,hdo⟩:=hpost.does hlb hnn (r:=⟨3,0,n.a.try_,0,x.good,⟨0,[]⟩⟩) (qa:=none) (ql:=0) Sl.nil
    rw[hna] at hna2
    simp only[Option.some.injEq,Addr.mk.injEq,and_true] at hna2
    subst hna2
    refine⟨_,cc g1.keep 2 _ rfl,G1,n,q2,⟨3,0,n.a.try_,0,x.good,⟨0,[]⟩⟩,none,0,0,kb2,⟨rfl,rfl⟩,hpre,fun e n' q' kb' G2 H2 hP=> ?_⟩
    obtain⟨rfl,hc,hO⟩:=hdo _ _ _ _ _ _ hP
    cases hd:wDoes w x.agent.toNat ⟨3,0,n.a.try_,0,x.good,⟨0,[]⟩⟩ with
    |error e=>
     rw[hd] at hE hO
     have:=hf _ _ _ _ _ [⟨b1,false,62,[.int .i64 x.kind,.int .i64 x.agent,.int .i64 x.num,.bool x.good,.slice a l c]⟩] hO (by rw[hE])
     rw[hE] at this
     exact⟨fun _=>this,fun h0=>absurd (fun e=>wDoes_err hd e) h0⟩
    |ok w2=>
     rw[hd] at hE hO hc
     refine⟨fun h0=>absurd rfl h0,fun _=> ?_⟩
     have hc2:wldCells w p=wldCells w2 p:=(hc p).symm
     refine SpecO.mono (Q:=fun v css H'=>∃G',Grown G2 H2 G' H'/\POut w2 p (wReport w2 x.agent.toNat) v css G') (by
      have:=cReport (w:=w2) (p:=p) hO.own.nod.sub hO.own.parts hO.own.at_.nod h0 (by omega) b
      rw[←hc2] at this
      exact this) fun v css H3 e3 hv=> ?_
     obtain⟨G3,g3,p3,rfl,hcss,hP3,n1,n2,n3,n4⟩:=hv
     refine⟨rfl,wld16 hcss fun hN3=> ?_⟩
     have:=hf _ _ _ _ _ [⟨b1,false,62,[.int .i64 x.kind,.int .i64 x.agent,.int .i64 x.num,.bool x.good,.slice a l c]⟩] ((hO.grown g3).be hP3 n1 n2 n3 n4) (by rw[hE];rfl)
     rw[hE] at this
     exact this
theorem hear_in(h:HapPre base G H w p rows x a l)
  (hf:∀w' p' G' rows' H' own1,OwnPost base G H p w' p' G' rows' H'->w'=orSame w (wHear w x)->f (.v (.int .i64 (errOf (wHear w x)))) (⟨b,false,41,wldCells w' p'⟩::own1) H'):
  codeI ⟨Tryz.prog,Tryz.f174.ntmps,⟨TryzListK,TryzSumS,true⟩,base,H0⟩ Tryz.f174 [.loc 0 0,.v (hapArg x a l c)] [⟨b,false,41,wldCells w p⟩] H f:=by
 rw[vx174]
 have bad:∀ {e:Int},wHear w x= .error e->∀ {G1 H1:Heap},Grown G H G1 H1->∀own1,f (.v (.int .i64 e)) (⟨b,false,41,wldCells w p⟩::own1) H1:=fun{e} he {G1 H1} g own1=>by
  have:=hf w p G1 rows H1 own1 (h.start.grown g) (by rw[he];rfl)
  rw[he] at this;exact this
 have good:∀ {w':Wld},wHear w x= .ok w'->∀ {p':WA} {G1 H1:Heap} {rows1:List (List Value)},OwnPost base G H p w' p' G1 rows1 H1->∀own1,f (.v (.int .i64 0)) (⟨b,false,41,wldCells w' p'⟩::own1) H1:=fun{w'} he {p' G1 H1 rows1} g own1=>by
  have:=hf w' p' G1 rows1 H1 own1 g (by rw[he];rfl)
  rw[he] at this;exact this
 have hl:=h.own.len
 have hR:=wldErr_zero.1 h.ok
 refine fun b1=>⟨?_,fun b2=> ?_⟩
 all_goals
  refine((cTakeR (c:=p.mc) h.own.parts.mail x.num (decide (x.kind=10))).grown h.sub).mono fun v H1 e1 hv=> ?_
  obtain⟨G1,g1,ta,tn,tc,la,ln,lc,rfl,hM,hQ,hRm⟩:=hv
  by_cases ht:takeErr w.m x.num=0
  case neg=>
   refine⟨_,_,_,_,_,_,_,_,_,_,_,_,rfl,fun hN1=> ?_⟩
   try intro b4
   exact⟨fun _=>bad (by unfold wHear;rw[if_pos ht]) g1 _,fun h0=>absurd ht h0⟩
  case pos=>
   rw[if_pos ht] at hM hQ
   obtain⟨t1,t2,t3,t4⟩:=took_mem ht
   obtain⟨o1,o2,o3⟩:=(mailsCheck_iff.1 t4).2 _ t1
   have hw:=hR.who _ t1
   unfold badWho at o1
   obtain⟨n,hnn⟩:∃n,w.n[(took w.m x.num).agent.toNat]?=some n:=⟨_,List.getElem?_eq_getElem (by omega)⟩
   obtain⟨y,kb,q,hna,hyb,hnc,hyk,hfree,hkl,hroom,hrow,hnod,hcell⟩:=h.own.node hnn
   have cc:∀ {H1:Heap},Ext H H1->∀j v,(nodCells n q)[j]?=some v->H1.cell y (0+(took w.m x.num).agent.toNat*10+j)=some v:=fun e j v hj=>Heap.cell_next e (by rw[Nat.zero_add];exact hcell j v hj)
   have hE:wHear w x=if((took w.m x.num).rep=true/\w.h.up=false)∨((took w.m x.num).rep=false/\n.up=false) then .error 7 else
     if(took w.m x.num).rep=true then .ok (orSame { w with m:=left w.m x.num (decide (x.kind=10)) } (wLead { w with m:=left w.m x.num (decide (x.kind=10)) } ⟨7,(took w.m x.num).agent,(took w.m x.num).try_,0,(took w.m x.num).good,⟨0,[]⟩⟩)) else
     if(took w.m x.num).try_=n.a.try_/\n.a.going=false then .ok (wReport { w with m:=left w.m x.num (decide (x.kind=10)) } (took w.m x.num).agent.toNat) else
     .ok (orSame { w with m:=left w.m x.num (decide (x.kind=10)) } (wDoes { w with m:=left w.m x.num (decide (x.kind=10)) } (took w.m x.num).agent.toNat ⟨1,0,(took w.m x.num).try_,0,false,(took w.m x.num).rel⟩)):=by
    unfold wHear;rw[if_neg (by omega),hnn]
   have hmv:mailVal (if takeErr w.m x.num=0 then took w.m x.num else noMail) la ln lc=mailVal (took w.m x.num) la ln lc:=by rw[if_pos ht]
   rw[hmv]
   generalize took w.m x.num=m at*
   have hP1:Parts G1 { w with m:=left w.m x.num (decide (x.kind=10)) } { p with ma:=ta,ml:=tn,mc:=tc } :=by
    have:=h.own.parts.ext g1.ext
    exact⟨this.cfg,this.ldr,this.dsk,hM,hRm⟩
   have hpost:OwnPost base G H p { w with m:=left w.m x.num (decide (x.kind=10)) } { p with ma:=ta,ml:=tn,mc:=tc } G1 rows H1:=(h.start.grown g1).be hP1 rfl rfl rfl rfl
   have hlb:=h.lb.ext g1.ext
   have hdo:=hpost.does hlb (k:=m.agent.toNat) (n:=n) hnn (r:=⟨1,0,m.try_,0,false,m.rel⟩) hQ
   obtain⟨y2,kb2,q2,hna2,hkl2,hpre,hdo⟩:=hdo
   have hna2:p.na=some ⟨y2,0,none⟩:=hna2
   rw[hna] at hna2
   simp only[Option.some.injEq,Addr.mk.injEq,and_true] at hna2
   subst hna2
   have does:∀(own1:List Bx),¬((m.rep=true/\w.h.up=false)∨(m.rep=false/\n.up=false))->m.rep=false->¬(m.try_=n.a.try_/\n.a.going=false)->∀(e:Int)(n':Nod)(q':NA)(kb':KB)(G' H':Heap),DoesPost G1 H1 n q2 ⟨1,0,m.try_,0,false,m.rel⟩ y (0+m.agent.toNat*10) kb2 e n' q' kb' G' H'->
     f (.v (.int .i64 0)) (⟨b,false,41,wldCells { w with m:=left w.m x.num (decide (x.kind=10)) } { p with ma:=ta,ml:=tn,mc:=tc }⟩::own1) H':=by
    intro own1 hφ hr ht e n' q' kb' G' H' hP
    obtain⟨rfl,hc,hO⟩:=hdo _ _ _ _ _ _ hP
    rw[if_neg hφ,if_neg (by rw[hr];simp),if_neg ht] at hE
    have:=good hE hO own1
    rw[hc] at this
    exact this
   refine⟨_,_,_,_,_,_,_,_,_,_,_,_,rfl,fun hN1=> ?_⟩
   try intro b4
   refine⟨fun h0=>absurd ht h0,fun _=>⟨y,0,hna,by omega,by omega,(m.rep=true/\w.h.up=false)∨(m.rep=false/\n.up=false),⟨fun hr=>⟨fun hu=>⟨rfl,subH,.inl ⟨hr,hu⟩⟩,fun hu=>⟨fun hr'=>(by rw[hr] at hr';cases hr'),fun _=>⟨rfl,subH,by rw[hr];simp;simpa using hu⟩⟩⟩,fun hr=>⟨fun _=>⟨_,cc g1.keep 9 _ rfl,rfl,subH,by rw[hr];simp⟩,fun h=>absurd hr h⟩⟩,fun hφ=> ?_,fun hφ=>⟨fun hr=> ?_,fun hr=>⟨_,cc g1.keep 2 _ rfl,fun htr=>⟨_,cc g1.keep 3 _ rfl,fun hg=> ?_,fun hg=> ?_⟩,fun htr=> ?_⟩⟩⟩⟩
   ·exact bad (by rw[hE,if_pos hφ]) g1 _
   ·refine((cLeads hlb hP1 (r:=⟨7,m.agent,m.try_,0,m.good,⟨0,[]⟩⟩) (qa:=none) (ql:=0) (qc:=0) Sl.nil b).grown g1.sub).mono fun v css H2 e2 hv=> ?_
    obtain⟨G2,g2,p2,rfl,hcss,hP2,n1,n2,n3,n4⟩:=hv
    refine⟨_,rfl,wld16 hcss fun hN2=> ?_⟩
    rw[if_neg hφ,if_pos hr] at hE
    exact good hE ((hpost.grown g2).be hP2 n1 n2 n3 n4) _
   ·refine(cReport g1.sub hP1 hpost.own.at_.nod (by omega) (by show m.agent<(p.nl:Int);omega) b).mono fun v css H2 e2 hv=> ?_
    obtain⟨G2,g2,p2,rfl,hcss,hP2,n1,n2,n3,n4⟩:=hv
    refine⟨rfl,wld16 hcss fun hN2=> ?_⟩
    rw[if_neg hφ,if_neg (by rw[hr];simp),if_pos ⟨htr,hg⟩] at hE
    exact good hE ((hpost.grown g2).be hP2 n1 n2 n3 n4) _
   ·exact⟨G1,n,q2,⟨1,0,m.try_,0,false,m.rel⟩,la,ln,lc,kb2,⟨rfl,rfl⟩,hpre,does _ hφ hr fun h=>hg h.2⟩
   ·exact⟨G1,n,q2,⟨1,0,m.try_,0,false,m.rel⟩,la,ln,lc,kb2,⟨rfl,rfl⟩,hpre,does _ hφ hr fun h=>htr h.1⟩
end
structure RunPost(R:Except Int Wld)(base:Nat)(G H:Heap)(w:Wld)(p:WA)(e:Int)(w':Wld)(p':WA)(G':Heap)(rows':List (List Value))(H':Heap):Prop where
 post:OwnPost base G H p w' p' G' rows' H'
 err:e=errOf R
 res:w'=orSame w R
def genP(R:Wld->Hap->Except Int Wld)(Pre:Wld->Hap->Prop)(base i b ty:Nat)(cs:List Value)(v:Value)(own:List Bx)(H:Heap)(f:SV->List Bx->Heap->Prop):Prop:=
 ∃(w:Wld)(p:WA)(G:Heap)(rows:List (List Value))(x:Hap)(a:O)(l c:Nat),(ty=41/\cs=wldCells w p/\v=hapArg x a l c/\noMaps own=true)/\HapPre base G H w p rows x a l/\Pre w x/\
  ∀(e:Int)(w':Wld)(p':WA)(G':Heap)(rows':List (List Value))(H':Heap),RunPost (R w x) base G H w p e w' p' G' rows' H'->f (.v (.int .i64 e)) (own.set i ⟨b,false,ty,wldCells w' p'⟩) H'
theorem OwnPost.unsee{base:Nat}{G H H1:Heap}{own:List Bx}{w:Wld}{p:WA}{rows:List (List Value)}{w':Wld}{p':WA}{G':Heap}{rows':List (List Value)}{b:Nat}(h:OwnPost base G (seenBy own b H) p w' p' G' rows' H1)(h0:OwnW base G H w p rows)
  (hid:∀y∈own,H y.b=none) (hb:H b=none) (hb1:H1 b=none):OwnPost base G H p w' p' G' rows' (unseen own H1):=by
 have hsub:Ext G' (unseen own H1):=fun x k hx=>by
  have h1:=h.own.nod.sub x k hx
  unfold unseen
  cases hl:lookB own x with
  |none=>exact h1
  |some k'=>
   exfalso
   obtain⟨y,hy,rfl,_⟩:=lookB_mem hl
   cases hg:G y.b with
   |some k2=>have:=h0.nod.sub _ _ hg;rw[hid y hy] at this;cases this
   |none=>
    have h2:=h.away _ _ hx hg
    unfold seenBy at h2
    rw[if_neg (fun e=>by rw[e,hb1] at h1;cases h1),hid y hy] at h2
    rw[hl] at h2;cases h2
 have hsee:Ext H (seenBy own b H):=seenBy_ext hb
 refine⟨h.ext,fun y k hy hn=> ?_,⟨h.own.parts,⟨?_,h.own.nod.wid,h.own.nod.all,hsub,h.own.nod.clear⟩⟩,fun y k hy hc=>unseen_keep hid hb hy fun hs=>h.keep y k hs hc,fun y hy=> ?_,h.same⟩
 ·have h1:=h.away y k hy hn
  cases hh:H y with
  |none=>rfl
  |some z=>rw[hsee y z hh] at h1;cases h1
 ·obtain⟨r1,r2,r3,r4⟩:=h.own.nod.row
  by_cases hc:p.nc=0
  ·have hz:p'.nc=0:=h.same.2.2.trans hc
   exact⟨r1,r2,r3,.inl ⟨by omega,hz⟩⟩
  refine⟨r1,r2,r3,r4.imp id fun⟨g,k,hg,hbg,hH,h6,h7,h8,h9⟩=>⟨g,k,hg,hbg,?_,h6,h7,h8,h9⟩⟩
  unfold unseen
  cases hl:lookB own g with
  |none=>exact hH
  |some k'=>
   exfalso
   obtain⟨y,hy,rfl,_⟩:=lookB_mem hl
   obtain⟨g',k',hg',hH'⟩:=h0.nod.block hc
   rw[h.same.1,hg'] at hg
   simp only[Option.some.injEq,Addr.mk.injEq,and_true] at hg
   rw[hg,hid y hy] at hH';cases hH'
 ·cases hh:H y with
  |none=>exact absurd hh hy
  |some z=>
   have h1:=h.still y (by rw[hsee y z hh];simp)
   unfold unseen
   cases hl:lookB own y with
   |none=>exact h1
   |some k'=>
    obtain⟨u,hu,rfl,_⟩:=lookB_mem hl
    rw[hid u hu] at hh;cases hh
theorem gen_ok{P:Program}{muts:Muts}(hin:InlOk P muts){g:FuncId}{R:Wld->Hap->Except Int Wld}{Pre:Wld->Hap->Prop}
  (hrun:∀ {base:Nat} {H0 G H:Heap} {w:Wld} {p:WA} {rows:List (List Value)} {x:Hap} {a:O} {l c b:Nat} {f:SV->List Bx->Heap->Prop},HapPre base G H w p rows x a l->Pre w x->
   (∀e w' p' G' rows' H' own1,RunPost (R w x) base G H w p e w' p' G' rows' H'->f (.v (.int .i64 e)) (⟨b,false,41,wldCells w' p'⟩::own1) H')->
   ∃q,muts.inl base H0 g [.loc 0 0,.v (hapArg x a l c)] [⟨b,false,41,wldCells w p⟩] H f=some q/\q)
  {C:Cfg} {w0:World} {own0:List Nat} {own:List Bx} {H:Heap} {wd:World} {i b ty:Nat} {cs:List Value} {v:Value} {f:SV->List Bx->Heap->Prop}
  (hX:own[i]?=some ⟨b,false,ty,cs⟩) (h:genP R Pre C.base i b ty cs v own H f) (hw:StW C w0 own0 own H wd):
  Calls P g (([.loc i 0,.v v]:List SV).map (SV.val own)).toArray wd fun e w'=>∃v own' H',e= .returned v/\f (.v v) own' H'/\OwnExt own own'/\StW C w0 own0 own' H' w':=by
 obtain⟨w,p,G,rows,x,a,l,c,⟨rfl,rfl,rfl,hnm⟩,hpre,hP,hf⟩:=h
 have hm:∀y∈own,y.map=false:=fun y hy=>by
  have:=List.all_eq_true.1 hnm y hy
  simpa using this
 have hid:=hw.boxes.hid
 have hXm:=List.mem_of_getElem? hX
 have hHX:H b=none:=hid _ hXm
 have hbx:boxNo own i=b:=by unfold boxNo;rw[hX]
 have hval:(([.loc i 0,.v (hapArg x a l c)]:List SV).map (SV.val own))=(([.loc 0 0,.v (hapArg x a l c)]:List SV).map (SV.val [⟨b,false,41,wldCells w p⟩])):=by
  simp only[List.map_cons,List.map_nil,SV.val,hbx];rfl
 rw[hval]
 have hpre':HapPre C.base G (seenBy own b H) w p rows x a l:=⟨hpre.lb,hpre.ok,hpre.own.ext (seenBy_ext hHX),hpre.lock⟩
 have hrun':=local_run hin hw hX hm (g:=g) (pre:=[.loc 0 0,.v (hapArg x a l c)]) (by intro s hs;simp at hs;rcases hs with rfl|rfl<;>simp[SV.wf]) (R:=fun y=>p.nc≠0/\p.na=some ⟨y,0,none⟩)
  (fun y hy hc=>by
   obtain⟨g',k',hg',hH'⟩:=hpre.own.nod.block hc.1
   rw[hc.2] at hg'
   simp only[Option.some.injEq,Addr.mk.injEq,and_true] at hg'
   rw[←hg',hid y hy] at hH';cases hH')
  (post:=fun v cs' H1=>∃(e:Int)(w':Wld)(p':WA)(G':Heap)(rows':List (List Value)),v= .int .i64 e/\cs'=wldCells w' p'/\RunPost (R w x) C.base G (seenBy own b H) w p e w' p' G' rows' H1) (fun H0=>hrun hpre' hP fun e w' p' G' rows' H' own1 hp=>
   ⟨_,rfl,fun y k hy hnR=>hp.post.keep y k hy (by
    by_cases hc:p.nc=0
    ·exact .inl hc
    ·exact .inr fun e=>hnR ⟨hc,e⟩),e,w',p',G',rows',rfl,rfl,hp⟩)
 refine hrun'.mono fun e w' he=> ?_
 obtain⟨v,cs',H1,rfl,⟨e,w',p',G',rows',rfl,rfl,hp⟩,hkeep,hb1,hst⟩:=he
 exact⟨_,_,_,rfl,hf e w' p' G' rows' _ ⟨hp.post.unsee hpre.own hid hHX hb1,hp.err,hp.res⟩,OwnExt.set hX rfl rfl rfl,hst⟩
def wStepAt(w:Wld)(x:Hap):Except Int Wld:=
 match w.n[x.agent.toNat]? with
 |none=> .error 5
 |some n=>wStep w x n
noncomputable def TryzInT:InlFn:=inlOf Tryz.prog TryzListK [(174,Tryz.f174),(179,Tryz.f179),(178,Tryz.f178)] TryzSumS
theorem TryzinT(j:Bool):InlOk Tryz.prog ⟨TryzListK,TryzInT,j⟩:=inl_ok (TryzsumS true) Tryzmixed fun p hp=>by
 simp only[List.mem_cons,List.not_mem_nil,or_false] at hp
 rcases hp with rfl|rfl|rfl
 ·exact⟨Tryz.func174,body_some (by kernel_rfl),ops_ok (by kernel_rfl),by decide⟩
 ·exact⟨Tryz.func179,body_some (by kernel_rfl),ops_ok (by kernel_rfl),by decide⟩
 ·exact⟨Tryz.func178,body_some (by kernel_rfl),ops_ok (by kernel_rfl),by decide⟩
def genC(R:Wld->Hap->Except Int Wld)(Pre:Wld->Hap->Prop)(base:Nat)(pre:List SV)(own:List Bx)(H:Heap)(f:SV->List Bx->Heap->Prop):Option Prop:=
 match pre with
 | [.loc i 0,.v v]=>(match own[i]? with
  |some ⟨b,false,ty,cs⟩=>some (genP R Pre base i b ty cs v own H f)
  |_=>none)
 |_=>none
theorem genC_ok{P:Program}{muts:Muts}(hin:InlOk P muts){g:FuncId}{R:Wld->Hap->Except Int Wld}{Pre:Wld->Hap->Prop}
  (hrun:∀ {base:Nat} {H0 G H:Heap} {w:Wld} {p:WA} {rows:List (List Value)} {x:Hap} {a:O} {l c b:Nat} {f:SV->List Bx->Heap->Prop},HapPre base G H w p rows x a l->Pre w x->
   (∀e w' p' G' rows' H' own1,RunPost (R w x) base G H w p e w' p' G' rows' H'->f (.v (.int .i64 e)) (⟨b,false,41,wldCells w' p'⟩::own1) H')->
   ∃q,muts.inl base H0 g [.loc 0 0,.v (hapArg x a l c)] [⟨b,false,41,wldCells w p⟩] H f=some q/\q)
  {base:Nat} {pre:List SV} {own:List Bx} {H:Heap} {f:SV->List Bx->Heap->Prop} {p:Prop} (he:genC R Pre base pre own H f=some p) (hp:p) (C:Cfg) (w0:World) (own0:List Nat) (w:World) (hb:C.base=base) (hw:StW C w0 own0 own H w):
  Calls P g (pre.map (SV.val own)).toArray w fun e w'=>∃v own' H',e= .returned v/\f (.v v) own' H'/\OwnExt own own'/\StW C w0 own0 own' H' w':=by
 subst hb
 unfold genC at he
 split at he
 ·split at he
  ·rename_i hX
   obtain rfl:=Option.some.inj he
   exact gen_ok hin hrun hX hp hw
  ·cases he
 ·cases he
noncomputable def TryzSumT:InlFn:=fun base H0 g pre own H f=>
 if g=174 then genC wHear (fun w _=>w=w) base pre own H f
 else if g=179 then genC wStepAt (fun w x=>0<=x.agent/\x.agent<w.n.length) base pre own H f
 else if g=178 then genC wPower (fun w x=>x.agent<w.n.length) base pre own H f
 else TryzSumS base H0 g pre own H f
theorem TryzsumT(j:Bool):InlOk Tryz.prog ⟨TryzListK,TryzSumT,j⟩:=by
 intro base H0 g pre own H f p hp
 unfold TryzSumT at hp
 dsimp only at hp
 split at hp
 ·rename_i e;subst e
  refine⟨by show TryzListK.contains 174=true;decide,fun h C w0 own0 w hb _ hw _=>genC_ok (TryzinT true) (fun{base H0 G H w p rows x a l c b f} h1 _ hf=>⟨_,rfl,hear_in h1 fun w' p' G' rows' H' own1 h3 h4=>hf _ w' p' G' rows' H' own1 ⟨h3,rfl,h4⟩⟩) hp h C w0 own0 w hb hw⟩
 ·split at hp
  ·rename_i e;subst e
   refine⟨by show TryzListK.contains 179=true;decide,fun h C w0 own0 w hb _ hw _=>genC_ok (TryzinT true) (fun{base H0 G H w p rows x a l c b f} h1 hP hf=> ?_) hp h C w0 own0 w hb hw⟩
   obtain⟨n,hn⟩:∃n,w.n[x.agent.toNat]?=some n:=⟨_,List.getElem?_eq_getElem (by omega)⟩
   have hE:wStepAt w x=wStep w x n:=by unfold wStepAt;rw[hn]
   exact⟨_,rfl,step_in h1 hP.1 hn fun w' p' G' rows' H' own1 h3 h4=>hf _ w' p' G' rows' H' own1 ⟨h3,by rw[hE],by rw[hE];exact h4⟩⟩
  ·split at hp
   ·rename_i e;subst e
    refine⟨by show TryzListK.contains 178=true;decide,fun h C w0 own0 w hb _ hw _=>genC_ok (TryzinT true) (fun{base H0 G H w p rows x a l c b f} h1 hP hf=>⟨_,rfl,power_in h1 hP fun w' p' G' rows' H' own1 h3 h4=>hf _ w' p' G' rows' H' own1 ⟨h3,rfl,h4⟩⟩) hp h C w0 own0 w hb hw⟩
   ·exact TryzsumS j base H0 g pre own H f p hp
def TryzListT:List FuncId:=1000001:: TryzListK
theorem TryzsumTT(j:Bool):InlOk Tryz.prog ⟨TryzListT,TryzSumT,j⟩:=fun base H0 g pre own H f p hp=>by
 obtain⟨h1,h2⟩:= TryzsumT j base H0 g pre own H f p hp
 refine⟨?_,h2⟩
 have h1: TryzListK.contains g=true:=h1
 show TryzListT.contains g=true
 unfold TryzListT
 rw[List.contains_cons,h1,Bool.or_true]
open Go Go.Proofs
theorem vx91(b:Nat)(id bud:Int)(fa ra wa:O)(fl fc rl rc wl wc:Nat)(now goal nx:Int)(back:Bool)(la ka:O)(ll lc kl kc:Nat)(sa ta:O)(sl sc tl tc:Nat)(up:Bool)(na ma:O)(nl nc ml mc:Nat)(hk hg hn:Int)(hgd:Bool)(ha:O)(hl hc:Nat)(base:Nat)(H0:Heap)(H:Heap)(f:SV->List Bx->Heap->Prop):
 (codeI ⟨Tryz.prog,Tryz.f91.ntmps,⟨TryzListT,TryzSumT,true⟩,base,H0⟩ Tryz.f91 [.loc 0 0,.v (A #[I Z hk,I Z hg,I Z hn,B hgd,S ha hl hc])] [⟨b,false,41,[I Z id,S fa fl fc,S ra rl rc,S wa wl wc,I Z bud,S la ll lc,I Z now,I Z goal,B back,S ka kl kc,I Z nx,S sa sl sc,S ta tl tc,B up,S na nl nc,S ma ml mc]⟩] H f)=(
 (fun w46:LV=>(fun w45:LV=>(fun w44:AV=>(fun w43:AV=>(fun w42:AV=>(fun w41:AV=>(fun w40:LV=>∀a:Nat,(fun w39:LB=>∃c:Prop,((hk=9->w39=w39/\SubH H H/\(c↔hk=9))/\(¬hk=9->w39=w39/\SubH H H/\(c↔hk=10)))/\(c->∃(d:Wld)(e:WA)(g:Heap)(h:List (List Value))(i:Hap)(j:O)(k l:Nat),(41=41/\w40=wldCells d e/\A #[I Z hk,I Z hg,I Z hn,B hgd,S ha hl hc]=A #[I Z (Hap.kind i),I Z (Hap.agent i),I Z (Hap.num i),B (Hap.good i),S j k l]/\true=true)/\HapPre base g H d e h i j k/\d=d/\∀(m:Int)(n:Wld)(o:WA)(p:Heap)(q:List (List Value))(r:Heap),RunPost (wHear d i) base g H d e m n o p q r->f (SV.v (I Z m)) [J b false 41 (wldCells n o),J a false 62 [I Z hk,I Z hg,I Z hn,B hgd,S ha hl hc]] r)/\(¬c->(hk=11->(Y Tryz.prog 175 [S ma ml mc,I Z hn,B false] H fun d e=>∃g h i j k l m n o p q r,d=T #[S g h i,A #[I Z j,I Z k,B l,B m,I Z n,S o p q],I Z r]/\(X base H e->∀s:Nat,(r=0->f (SV.v (I Z r)) [J b false 41 [I Z id,S fa fl fc,S ra rl rc,S wa wl wc,I Z bud,S la ll lc,I Z now,I Z goal,B back,S ka kl kc,I Z nx,S sa sl sc,S ta tl tc,B
 up,S na nl nc,S g h i],J a false 62 [I Z hk,I Z hg,I Z hn,B hgd,S ha hl hc],J s false 74 [I Z j,I Z k,B l,B m,I Z n,S o p q]] e)/\(¬r=0->f (SV.v (I Z r)) [J b false 41 w40,J a false 62 [I Z hk,I Z hg,I Z hn,B hgd,S ha hl hc],J s false 74 [I Z j,I Z k,B l,B m,I Z n,S o p q]] e)))/\∀d:Nat,Y Tryz.prog 175 [S ma ml mc,I Z hn,B false] H fun e g=>∃h i j k l m n o p q r s,e=T #[S h i j,A #[I Z k,I Z l,B m,B n,I Z o,S p q r],I Z s]/\(X base H g->(s=0->f (SV.v (I Z s)) [J b false 41 [I Z id,S fa fl fc,S ra rl rc,S wa wl wc,I Z bud,S la ll lc,I Z now,I Z goal,B back,S ka kl kc,I Z nx,S sa sl sc,S ta tl tc,B up,S na nl nc,S h i j],J a false 62 [I Z hk,I Z hg,I Z hn,B hgd,S ha hl hc],J d false 74 [I Z k,I Z l,B m,B n,I Z o,S p q r]] g)/\(¬s=0->f (SV.v (I Z s)) [J b false 41 w40,J a false 62 [I Z hk,I Z hg,I Z hn,B hgd,S ha hl hc],J d false 74 [I Z k,I Z l,B m,B n,I Z o,S p q r]] g)))/\(¬hk=11->∃d:Prop,((hk=1->w39=w39/\SubH H H/\(d↔hk=1))/\(¬hk=1->(hk=2->w39=w39/\SubH H H/\(d↔hk=2))/\(¬hk=2->(hk=5->w39=w39/\SubH H H/\(d↔hk=5))/\(¬hk=5->w39=w39/\SubH H H/\(d↔hk=6)))))/\(d->(up=false->f (SV.v (I Z 7)) w39 H)/\(¬up=false->∀e:Int,(fun w26:AV=>e=W Z ((ll:Int)+1)->∀g:Nat,(∃h:List Value,mapSet (I Z 1) (A w26) []=some h/\(∃i:List Value,mapSet (I Z 2) (A w42) h=some i/\(∃j:List Value,mapSet (I Z 5) (A w43) i=some j/\∃k:List Value,mapSet (I Z 6) (A w44) j=some k/\∃(l m n o:Int)(p:Bool)(q:Int)(r:O)(s t:Nat)(u:Bool),mapGet (A w41) (I Z hk) k=some (A #[I Z l,I Z m,I Z n,I Z o,B p,I Z q,S r s t],u)/\YO Tryz.prog 176 [P (some (D b 0 none)),A #[I Z l,I Z m,I Z n,I Z o,B p,I Z q,S r s t]] [J b false 41 w40] H fun v w x=>∃y,v=I Z y/\∃(z:Int)(a1:O)(b1 c1:Nat)(d1:O)(e1 f1:Nat)(g1:O)(h1 i1:Nat)(j1:Int)(k1:O)(l1 m1:Nat)(n1 o1:Int)(p1:Bool)(q1:O)(r1 s1:Nat)(t1:Int)(u1:O)(v1 w1:Nat)(x1:O)(y1 z1:Nat)(a2:Bool)(b2:O)(c2 d2:Nat)(e2:O)(f2 g2:Nat),(fun w2:LV=>w=[w2]/\(X base H x->f (SV.v (I Z y)) [J b false 41 w2,J a false 62 [I Z hk,I Z hg,I Z hn,B
 hgd,S ha hl hc],J g true 217 k] x)) [I Z z,S a1 b1 c1,S d1 e1 f1,S g1 h1 i1,I Z j1,S k1 l1 m1,I Z n1,I Z o1,B p1,S q1 r1 s1,I Z t1,S u1 v1 w1,S x1 y1 z1,B a2,S b2 c2 d2,S e2 f2 g2])/\∃j:List Value,mapSet (I Z 6) (A w44) i=some j/\∃k:List Value,mapSet (I Z 5) (A w43) j=some k/\∃(l m n o:Int)(p:Bool)(q:Int)(r:O)(s t:Nat)(u:Bool),mapGet (A w41) (I Z hk) k=some (A #[I Z l,I Z m,I Z n,I Z o,B p,I Z q,S r s t],u)/\YO Tryz.prog 176 [P (some (D b 0 none)),A #[I Z l,I Z m,I Z n,I Z o,B p,I Z q,S r s t]] [J b false 41 w40] H fun v w x=>∃y,v=I Z y/\∃(z:Int)(a1:O)(b1 c1:Nat)(d1:O)(e1 f1:Nat)(g1:O)(h1 i1:Nat)(j1:Int)(k1:O)(l1 m1:Nat)(n1 o1:Int)(p1:Bool)(q1:O)(r1 s1:Nat)(t1:Int)(u1:O)(v1 w1:Nat)(x1:O)(y1 z1:Nat)(a2:Bool)(b2:O)(c2 d2:Nat)(e2:O)(f2 g2:Nat),(fun w3:LV=>w=[w3]/\(X base H x->f (SV.v (I Z y)) [J b false 41 w3,J a false 62 [I Z hk,I Z hg,I Z hn,B hgd,S ha hl hc],J g true 217 k] x)) [I Z z,S a1 b1 c1,S d1 e1 f1,S g1 h1 i1,I Z j1,S k1 l1 m1,I Z n1,I Z o1,B p1,S q1 r1 s1,I Z t1,S u1 v1 w1,S x1 y1 z1,B a2,S b2 c2 d2,S e2 f2 g2])/\(∃i:List Value,mapSet (I Z 5) (A w43) h=some i/\(∃j:List Value,mapSet (I Z 2) (A w42) i=some j/\∃k:List Value,mapSet (I Z 6) (A w44) j=some k/\∃(l m n o:Int)(p:Bool)(q:Int)(r:O)(s t:Nat)(u:Bool),mapGet (A w41) (I Z hk) k=some (A #[I Z l,I Z m,I Z n,I Z o,B p,I Z q,S r s t],u)/\YO Tryz.prog 176 [P (some (D b 0 none)),A #[I Z l,I Z m,I Z n,I Z o,B p,I Z q,S r s t]] [J b false 41 w40] H fun v w x=>∃y,v=I Z y/\∃(z:Int)(a1:O)(b1 c1:Nat)(d1:O)(e1 f1:Nat)(g1:O)(h1 i1:Nat)(j1:Int)(k1:O)(l1 m1:Nat)(n1 o1:Int)(p1:Bool)(q1:O)(r1 s1:Nat)(t1:Int)(u1:O)(v1 w1:Nat)(x1:O)(y1 z1:Nat)(a2:Bool)(b2:O)(c2 d2:Nat)(e2:O)(f2 g2:Nat),(fun w4:LV=>w=[w4]/\(X base H x->f (SV.v (I Z y)) [J b false 41 w4,J a false 62 [I Z hk,I Z hg,I Z hn,B hgd,S ha hl hc],J g true 217 k] x)) [I Z z,S a1 b1 c1,S d1 e1 f1,S g1 h1 i1,I Z j1,S k1 l1 m1,I Z n1,I Z o1,B p1,S q1 r1 s1,I Z t1,S u1 v1 w1,S x1 y1 z1,B a2,S b2 c2
 d2,S e2 f2 g2])/\∃j:List Value,mapSet (I Z 6) (A w44) i=some j/\∃k:List Value,mapSet (I Z 2) (A w42) j=some k/\∃(l m n o:Int)(p:Bool)(q:Int)(r:O)(s t:Nat)(u:Bool),mapGet (A w41) (I Z hk) k=some (A #[I Z l,I Z m,I Z n,I Z o,B p,I Z q,S r s t],u)/\YO Tryz.prog 176 [P (some (D b 0 none)),A #[I Z l,I Z m,I Z n,I Z o,B p,I Z q,S r s t]] [J b false 41 w40] H fun v w x=>∃y,v=I Z y/\∃(z:Int)(a1:O)(b1 c1:Nat)(d1:O)(e1 f1:Nat)(g1:O)(h1 i1:Nat)(j1:Int)(k1:O)(l1 m1:Nat)(n1 o1:Int)(p1:Bool)(q1:O)(r1 s1:Nat)(t1:Int)(u1:O)(v1 w1:Nat)(x1:O)(y1 z1:Nat)(a2:Bool)(b2:O)(c2 d2:Nat)(e2:O)(f2 g2:Nat),(fun w5:LV=>w=[w5]/\(X base H x->f (SV.v (I Z y)) [J b false 41 w5,J a false 62 [I Z hk,I Z hg,I Z hn,B hgd,S ha hl hc],J g true 217 k] x)) [I Z z,S a1 b1 c1,S d1 e1 f1,S g1 h1 i1,I Z j1,S k1 l1 m1,I Z n1,I Z o1,B p1,S q1 r1 s1,I Z t1,S u1 v1 w1,S x1 y1 z1,B a2,S b2 c2 d2,S e2 f2 g2])/\∃i:List Value,mapSet (I Z 6) (A w44) h=some i/\(∃j:List Value,mapSet (I Z 2) (A w42) i=some j/\∃k:List Value,mapSet (I Z 5) (A w43) j=some k/\∃(l m n o:Int)(p:Bool)(q:Int)(r:O)(s t:Nat)(u:Bool),mapGet (A w41) (I Z hk) k=some (A #[I Z l,I Z m,I Z n,I Z o,B p,I Z q,S r s t],u)/\YO Tryz.prog 176 [P (some (D b 0 none)),A #[I Z l,I Z m,I Z n,I Z o,B p,I Z q,S r s t]] [J b false 41 w40] H fun v w x=>∃y,v=I Z y/\∃(z:Int)(a1:O)(b1 c1:Nat)(d1:O)(e1 f1:Nat)(g1:O)(h1 i1:Nat)(j1:Int)(k1:O)(l1 m1:Nat)(n1 o1:Int)(p1:Bool)(q1:O)(r1 s1:Nat)(t1:Int)(u1:O)(v1 w1:Nat)(x1:O)(y1 z1:Nat)(a2:Bool)(b2:O)(c2 d2:Nat)(e2:O)(f2 g2:Nat),(fun w6:LV=>w=[w6]/\(X base H x->f (SV.v (I Z y)) [J b false 41 w6,J a false 62 [I Z hk,I Z hg,I Z hn,B hgd,S ha hl hc],J g true 217 k] x)) [I Z z,S a1 b1 c1,S d1 e1 f1,S g1 h1 i1,I Z j1,S k1 l1 m1,I Z n1,I Z o1,B p1,S q1 r1 s1,I Z t1,S u1 v1 w1,S x1 y1 z1,B a2,S b2 c2 d2,S e2 f2 g2])/\∃j:List Value,mapSet (I Z 5) (A w43) i=some j/\∃k:List Value,mapSet (I Z 2) (A w42) j=some k/\∃(l m n o:Int)(p:Bool)(q:Int)(r:O)(s t:Nat)
 (u:Bool),mapGet (A w41) (I Z hk) k=some (A #[I Z l,I Z m,I Z n,I Z o,B p,I Z q,S r s t],u)/\YO Tryz.prog 176 [P (some (D b 0 none)),A #[I Z l,I Z m,I Z n,I Z o,B p,I Z q,S r s t]] [J b false 41 w40] H fun v w x=>∃y,v=I Z y/\∃(z:Int)(a1:O)(b1 c1:Nat)(d1:O)(e1 f1:Nat)(g1:O)(h1 i1:Nat)(j1:Int)(k1:O)(l1 m1:Nat)(n1 o1:Int)(p1:Bool)(q1:O)(r1 s1:Nat)(t1:Int)(u1:O)(v1 w1:Nat)(x1:O)(y1 z1:Nat)(a2:Bool)(b2:O)(c2 d2:Nat)(e2:O)(f2 g2:Nat),(fun w7:LV=>w=[w7]/\(X base H x->f (SV.v (I Z y)) [J b false 41 w7,J a false 62 [I Z hk,I Z hg,I Z hn,B hgd,S ha hl hc],J g true 217 k] x)) [I Z z,S a1 b1 c1,S d1 e1 f1,S g1 h1 i1,I Z j1,S k1 l1 m1,I Z n1,I Z o1,B p1,S q1 r1 s1,I Z t1,S u1 v1 w1,S x1 y1 z1,B a2,S b2 c2 d2,S e2 f2 g2])/\(∃h:List Value,mapSet (I Z 2) (A w42) []=some h/\(∃i:List Value,mapSet (I Z 1) (A w26) h=some i/\(∃j:List Value,mapSet (I Z 5) (A w43) i=some j/\∃k:List Value,mapSet (I Z 6) (A w44) j=some k/\∃(l m n o:Int)(p:Bool)(q:Int)(r:O)(s t:Nat)(u:Bool),mapGet (A w41) (I Z hk) k=some (A #[I Z l,I Z m,I Z n,I Z o,B p,I Z q,S r s t],u)/\YO Tryz.prog 176 [P (some (D b 0 none)),A #[I Z l,I Z m,I Z n,I Z o,B p,I Z q,S r s t]] [J b false 41 w40] H fun v w x=>∃y,v=I Z y/\∃(z:Int)(a1:O)(b1 c1:Nat)(d1:O)(e1 f1:Nat)(g1:O)(h1 i1:Nat)(j1:Int)(k1:O)(l1 m1:Nat)(n1 o1:Int)(p1:Bool)(q1:O)(r1 s1:Nat)(t1:Int)(u1:O)(v1 w1:Nat)(x1:O)(y1 z1:Nat)(a2:Bool)(b2:O)(c2 d2:Nat)(e2:O)(f2 g2:Nat),(fun w8:LV=>w=[w8]/\(X base H x->f (SV.v (I Z y)) [J b false 41 w8,J a false 62 [I Z hk,I Z hg,I Z hn,B hgd,S ha hl hc],J g true 217 k] x)) [I Z z,S a1 b1 c1,S d1 e1 f1,S g1 h1 i1,I Z j1,S k1 l1 m1,I Z n1,I Z o1,B p1,S q1 r1 s1,I Z t1,S u1 v1 w1,S x1 y1 z1,B a2,S b2 c2 d2,S e2 f2 g2])/\∃j:List Value,mapSet (I Z 6) (A w44) i=some j/\∃k:List Value,mapSet (I Z 5) (A w43) j=some k/\∃(l m n o:Int)(p:Bool)(q:Int)(r:O)(s t:Nat)(u:Bool),mapGet (A w41) (I Z hk) k=some (A #[I Z l,I Z m,I Z n,I Z o,B p,I Z q,S r s t],u)/\YO Tryz.prog 176 [P
 (some (D b 0 none)),A #[I Z l,I Z m,I Z n,I Z o,B p,I Z q,S r s t]] [J b false 41 w40] H fun v w x=>∃y,v=I Z y/\∃(z:Int)(a1:O)(b1 c1:Nat)(d1:O)(e1 f1:Nat)(g1:O)(h1 i1:Nat)(j1:Int)(k1:O)(l1 m1:Nat)(n1 o1:Int)(p1:Bool)(q1:O)(r1 s1:Nat)(t1:Int)(u1:O)(v1 w1:Nat)(x1:O)(y1 z1:Nat)(a2:Bool)(b2:O)(c2 d2:Nat)(e2:O)(f2 g2:Nat),(fun w9:LV=>w=[w9]/\(X base H x->f (SV.v (I Z y)) [J b false 41 w9,J a false 62 [I Z hk,I Z hg,I Z hn,B hgd,S ha hl hc],J g true 217 k] x)) [I Z z,S a1 b1 c1,S d1 e1 f1,S g1 h1 i1,I Z j1,S k1 l1 m1,I Z n1,I Z o1,B p1,S q1 r1 s1,I Z t1,S u1 v1 w1,S x1 y1 z1,B a2,S b2 c2 d2,S e2 f2 g2])/\(∃i:List Value,mapSet (I Z 5) (A w43) h=some i/\(∃j:List Value,mapSet (I Z 1) (A w26) i=some j/\∃k:List Value,mapSet (I Z 6) (A w44) j=some k/\∃(l m n o:Int)(p:Bool)(q:Int)(r:O)(s t:Nat)(u:Bool),mapGet (A w41) (I Z hk) k=some (A #[I Z l,I Z m,I Z n,I Z o,B p,I Z q,S r s t],u)/\YO Tryz.prog 176 [P (some (D b 0 none)),A #[I Z l,I Z m,I Z n,I Z o,B p,I Z q,S r s t]] [J b false 41 w40] H fun v w x=>∃y,v=I Z y/\∃(z:Int)(a1:O)(b1 c1:Nat)(d1:O)(e1 f1:Nat)(g1:O)(h1 i1:Nat)(j1:Int)(k1:O)(l1 m1:Nat)(n1 o1:Int)(p1:Bool)(q1:O)(r1 s1:Nat)(t1:Int)(u1:O)(v1 w1:Nat)(x1:O)(y1 z1:Nat)(a2:Bool)(b2:O)(c2 d2:Nat)(e2:O)(f2 g2:Nat),(fun w10:LV=>w=[w10]/\(X base H x->f (SV.v (I Z y)) [J b false 41 w10,J a false 62 [I Z hk,I Z hg,I Z hn,B hgd,S ha hl hc],J g true 217 k] x)) [I Z z,S a1 b1 c1,S d1 e1 f1,S g1 h1 i1,I Z j1,S k1 l1 m1,I Z n1,I Z o1,B p1,S q1 r1 s1,I Z t1,S u1 v1 w1,S x1 y1 z1,B a2,S b2 c2 d2,S e2 f2 g2])/\∃j:List Value,mapSet (I Z 6) (A w44) i=some j/\∃k:List Value,mapSet (I Z 1) (A w26) j=some k/\∃(l m n o:Int)(p:Bool)(q:Int)(r:O)(s t:Nat)(u:Bool),mapGet (A w41) (I Z hk) k=some (A #[I Z l,I Z m,I Z n,I Z o,B p,I Z q,S r s t],u)/\YO Tryz.prog 176 [P (some (D b 0 none)),A #[I Z l,I Z m,I Z n,I Z o,B p,I Z q,S r s t]] [J b false 41 w40] H fun v w x=>∃y,v=I Z y/\∃(z:Int)(a1:O)(b1 c1:Nat)(d1:O)(e1 f1:Nat)
 (g1:O) (h1 i1:Nat) (j1:Int) (k1:O) (l1 m1:Nat) (n1 o1:Int) (p1:Bool) (q1:O) (r1 s1:Nat) (t1:Int) (u1:O) (v1 w1:Nat) (x1:O) (y1 z1:Nat) (a2:Bool) (b2:O) (c2 d2:Nat) (e2:O) (f2 g2:Nat),(fun w11:LV=>w=[w11]/\(X base H x->f (SV.v (I Z y)) [J b false 41 w11,J a false 62 [I Z hk,I Z hg,I Z hn,B hgd,S ha hl hc],J g true 217 k] x)) [I Z z,S a1 b1 c1,S d1 e1 f1,S g1 h1 i1,I Z j1,S k1 l1 m1,I Z n1,I Z o1,B p1,S q1 r1 s1,I Z t1,S u1 v1 w1,S x1 y1 z1,B a2,S b2 c2 d2,S e2 f2 g2])/\∃i:List Value,mapSet (I Z 6) (A w44) h=some i/\(∃j:List Value,mapSet (I Z 1) (A w26) i=some j/\∃k:List Value,mapSet (I Z 5) (A w43) j=some k/\∃(l m n o:Int)(p:Bool)(q:Int)(r:O)(s t:Nat)(u:Bool),mapGet (A w41) (I Z hk) k=some (A #[I Z l,I Z m,I Z n,I Z o,B p,I Z q,S r s t],u)/\YO Tryz.prog 176 [P (some (D b 0 none)),A #[I Z l,I Z m,I Z n,I Z o,B p,I Z q,S r s t]] [J b false 41 w40] H fun v w x=>∃y,v=I Z y/\∃(z:Int)(a1:O)(b1 c1:Nat)(d1:O)(e1 f1:Nat)(g1:O)(h1 i1:Nat)(j1:Int)(k1:O)(l1 m1:Nat)(n1 o1:Int)(p1:Bool)(q1:O)(r1 s1:Nat)(t1:Int)(u1:O)(v1 w1:Nat)(x1:O)(y1 z1:Nat)(a2:Bool)(b2:O)(c2 d2:Nat)(e2:O)(f2 g2:Nat),(fun w12:LV=>w=[w12]/\(X base H x->f (SV.v (I Z y)) [J b false 41 w12,J a false 62 [I Z hk,I Z hg,I Z hn,B hgd,S ha hl hc],J g true 217 k] x)) [I Z z,S a1 b1 c1,S d1 e1 f1,S g1 h1 i1,I Z j1,S k1 l1 m1,I Z n1,I Z o1,B p1,S q1 r1 s1,I Z t1,S u1 v1 w1,S x1 y1 z1,B a2,S b2 c2 d2,S e2 f2 g2])/\∃j:List Value,mapSet (I Z 5) (A w43) i=some j/\∃k:List Value,mapSet (I Z 1) (A w26) j=some k/\∃(l m n o:Int)(p:Bool)(q:Int)(r:O)(s t:Nat)(u:Bool),mapGet (A w41) (I Z hk) k=some (A #[I Z l,I Z m,I Z n,I Z o,B p,I Z q,S r s t],u)/\YO Tryz.prog 176 [P (some (D b 0 none)),A #[I Z l,I Z m,I Z n,I Z o,B p,I Z q,S r s t]] [J b false 41 w40] H fun v w x=>∃y,v=I Z y/\∃(z:Int)(a1:O)(b1 c1:Nat)(d1:O)(e1 f1:Nat)(g1:O)(h1 i1:Nat)(j1:Int)(k1:O)(l1 m1:Nat)(n1 o1:Int)(p1:Bool)(q1:O)(r1 s1:Nat)(t1:Int)(u1:O)(v1 w1:Nat)(x1:O)(y1 z1:Nat)(a2:Bool)(b2:O)(c2
 d2:Nat) (e2:O) (f2 g2:Nat),(fun w13:LV=>w=[w13]/\(X base H x->f (SV.v (I Z y)) [J b false 41 w13,J a false 62 [I Z hk,I Z hg,I Z hn,B hgd,S ha hl hc],J g true 217 k] x)) [I Z z,S a1 b1 c1,S d1 e1 f1,S g1 h1 i1,I Z j1,S k1 l1 m1,I Z n1,I Z o1,B p1,S q1 r1 s1,I Z t1,S u1 v1 w1,S x1 y1 z1,B a2,S b2 c2 d2,S e2 f2 g2])/\(∃h:List Value,mapSet (I Z 5) (A w43) []=some h/\(∃i:List Value,mapSet (I Z 1) (A w26) h=some i/\(∃j:List Value,mapSet (I Z 2) (A w42) i=some j/\∃k:List Value,mapSet (I Z 6) (A w44) j=some k/\∃(l m n o:Int)(p:Bool)(q:Int)(r:O)(s t:Nat)(u:Bool),mapGet (A w41) (I Z hk) k=some (A #[I Z l,I Z m,I Z n,I Z o,B p,I Z q,S r s t],u)/\YO Tryz.prog 176 [P (some (D b 0 none)),A #[I Z l,I Z m,I Z n,I Z o,B p,I Z q,S r s t]] [J b false 41 w40] H fun v w x=>∃y,v=I Z y/\∃(z:Int)(a1:O)(b1 c1:Nat)(d1:O)(e1 f1:Nat)(g1:O)(h1 i1:Nat)(j1:Int)(k1:O)(l1 m1:Nat)(n1 o1:Int)(p1:Bool)(q1:O)(r1 s1:Nat)(t1:Int)(u1:O)(v1 w1:Nat)(x1:O)(y1 z1:Nat)(a2:Bool)(b2:O)(c2 d2:Nat)(e2:O)(f2 g2:Nat),(fun w14:LV=>w=[w14]/\(X base H x->f (SV.v (I Z y)) [J b false 41 w14,J a false 62 [I Z hk,I Z hg,I Z hn,B hgd,S ha hl hc],J g true 217 k] x)) [I Z z,S a1 b1 c1,S d1 e1 f1,S g1 h1 i1,I Z j1,S k1 l1 m1,I Z n1,I Z o1,B p1,S q1 r1 s1,I Z t1,S u1 v1 w1,S x1 y1 z1,B a2,S b2 c2 d2,S e2 f2 g2])/\∃j:List Value,mapSet (I Z 6) (A w44) i=some j/\∃k:List Value,mapSet (I Z 2) (A w42) j=some k/\∃(l m n o:Int)(p:Bool)(q:Int)(r:O)(s t:Nat)(u:Bool),mapGet (A w41) (I Z hk) k=some (A #[I Z l,I Z m,I Z n,I Z o,B p,I Z q,S r s t],u)/\YO Tryz.prog 176 [P (some (D b 0 none)),A #[I Z l,I Z m,I Z n,I Z o,B p,I Z q,S r s t]] [J b false 41 w40] H fun v w x=>∃y,v=I Z y/\∃(z:Int)(a1:O)(b1 c1:Nat)(d1:O)(e1 f1:Nat)(g1:O)(h1 i1:Nat)(j1:Int)(k1:O)(l1 m1:Nat)(n1 o1:Int)(p1:Bool)(q1:O)(r1 s1:Nat)(t1:Int)(u1:O)(v1 w1:Nat)(x1:O)(y1 z1:Nat)(a2:Bool)(b2:O)(c2 d2:Nat)(e2:O)(f2 g2:Nat),(fun w15:LV=>w=[w15]/\(X base H x->f (SV.v (I Z y)) [J b false 41 w15,J a false 62
 [I Z hk,I Z hg,I Z hn,B hgd,S ha hl hc],J g true 217 k] x)) [I Z z,S a1 b1 c1,S d1 e1 f1,S g1 h1 i1,I Z j1,S k1 l1 m1,I Z n1,I Z o1,B p1,S q1 r1 s1,I Z t1,S u1 v1 w1,S x1 y1 z1,B a2,S b2 c2 d2,S e2 f2 g2])/\(∃i:List Value,mapSet (I Z 2) (A w42) h=some i/\(∃j:List Value,mapSet (I Z 1) (A w26) i=some j/\∃k:List Value,mapSet (I Z 6) (A w44) j=some k/\∃(l m n o:Int)(p:Bool)(q:Int)(r:O)(s t:Nat)(u:Bool),mapGet (A w41) (I Z hk) k=some (A #[I Z l,I Z m,I Z n,I Z o,B p,I Z q,S r s t],u)/\YO Tryz.prog 176 [P (some (D b 0 none)),A #[I Z l,I Z m,I Z n,I Z o,B p,I Z q,S r s t]] [J b false 41 w40] H fun v w x=>∃y,v=I Z y/\∃(z:Int)(a1:O)(b1 c1:Nat)(d1:O)(e1 f1:Nat)(g1:O)(h1 i1:Nat)(j1:Int)(k1:O)(l1 m1:Nat)(n1 o1:Int)(p1:Bool)(q1:O)(r1 s1:Nat)(t1:Int)(u1:O)(v1 w1:Nat)(x1:O)(y1 z1:Nat)(a2:Bool)(b2:O)(c2 d2:Nat)(e2:O)(f2 g2:Nat),(fun w16:LV=>w=[w16]/\(X base H x->f (SV.v (I Z y)) [J b false 41 w16,J a false 62 [I Z hk,I Z hg,I Z hn,B hgd,S ha hl hc],J g true 217 k] x)) [I Z z,S a1 b1 c1,S d1 e1 f1,S g1 h1 i1,I Z j1,S k1 l1 m1,I Z n1,I Z o1,B p1,S q1 r1 s1,I Z t1,S u1 v1 w1,S x1 y1 z1,B a2,S b2 c2 d2,S e2 f2 g2])/\∃j:List Value,mapSet (I Z 6) (A w44) i=some j/\∃k:List Value,mapSet (I Z 1) (A w26) j=some k/\∃(l m n o:Int)(p:Bool)(q:Int)(r:O)(s t:Nat)(u:Bool),mapGet (A w41) (I Z hk) k=some (A #[I Z l,I Z m,I Z n,I Z o,B p,I Z q,S r s t],u)/\YO Tryz.prog 176 [P (some (D b 0 none)),A #[I Z l,I Z m,I Z n,I Z o,B p,I Z q,S r s t]] [J b false 41 w40] H fun v w x=>∃y,v=I Z y/\∃(z:Int)(a1:O)(b1 c1:Nat)(d1:O)(e1 f1:Nat)(g1:O)(h1 i1:Nat)(j1:Int)(k1:O)(l1 m1:Nat)(n1 o1:Int)(p1:Bool)(q1:O)(r1 s1:Nat)(t1:Int)(u1:O)(v1 w1:Nat)(x1:O)(y1 z1:Nat)(a2:Bool)(b2:O)(c2 d2:Nat)(e2:O)(f2 g2:Nat),(fun w17:LV=>w=[w17]/\(X base H x->f (SV.v (I Z y)) [J b false 41 w17,J a false 62 [I Z hk,I Z hg,I Z hn,B hgd,S ha hl hc],J g true 217 k] x)) [I Z z,S a1 b1 c1,S d1 e1 f1,S g1 h1 i1,I Z j1,S k1 l1 m1,I Z n1,I Z o1,B p1,S q1 r1 s1,I Z t1,S u1
 v1 w1,S x1 y1 z1,B a2,S b2 c2 d2,S e2 f2 g2])/\∃i:List Value,mapSet (I Z 6) (A w44) h=some i/\(∃j:List Value,mapSet (I Z 1) (A w26) i=some j/\∃k:List Value,mapSet (I Z 2) (A w42) j=some k/\∃(l m n o:Int)(p:Bool)(q:Int)(r:O)(s t:Nat)(u:Bool),mapGet (A w41) (I Z hk) k=some (A #[I Z l,I Z m,I Z n,I Z o,B p,I Z q,S r s t],u)/\YO Tryz.prog 176 [P (some (D b 0 none)),A #[I Z l,I Z m,I Z n,I Z o,B p,I Z q,S r s t]] [J b false 41 w40] H fun v w x=>∃y,v=I Z y/\∃(z:Int)(a1:O)(b1 c1:Nat)(d1:O)(e1 f1:Nat)(g1:O)(h1 i1:Nat)(j1:Int)(k1:O)(l1 m1:Nat)(n1 o1:Int)(p1:Bool)(q1:O)(r1 s1:Nat)(t1:Int)(u1:O)(v1 w1:Nat)(x1:O)(y1 z1:Nat)(a2:Bool)(b2:O)(c2 d2:Nat)(e2:O)(f2 g2:Nat),(fun w18:LV=>w=[w18]/\(X base H x->f (SV.v (I Z y)) [J b false 41 w18,J a false 62 [I Z hk,I Z hg,I Z hn,B hgd,S ha hl hc],J g true 217 k] x)) [I Z z,S a1 b1 c1,S d1 e1 f1,S g1 h1 i1,I Z j1,S k1 l1 m1,I Z n1,I Z o1,B p1,S q1 r1 s1,I Z t1,S u1 v1 w1,S x1 y1 z1,B a2,S b2 c2 d2,S e2 f2 g2])/\∃j:List Value,mapSet (I Z 2) (A w42) i=some j/\∃k:List Value,mapSet (I Z 1) (A w26) j=some k/\∃(l m n o:Int)(p:Bool)(q:Int)(r:O)(s t:Nat)(u:Bool),mapGet (A w41) (I Z hk) k=some (A #[I Z l,I Z m,I Z n,I Z o,B p,I Z q,S r s t],u)/\YO Tryz.prog 176 [P (some (D b 0 none)),A #[I Z l,I Z m,I Z n,I Z o,B p,I Z q,S r s t]] [J b false 41 w40] H fun v w x=>∃y,v=I Z y/\∃(z:Int)(a1:O)(b1 c1:Nat)(d1:O)(e1 f1:Nat)(g1:O)(h1 i1:Nat)(j1:Int)(k1:O)(l1 m1:Nat)(n1 o1:Int)(p1:Bool)(q1:O)(r1 s1:Nat)(t1:Int)(u1:O)(v1 w1:Nat)(x1:O)(y1 z1:Nat)(a2:Bool)(b2:O)(c2 d2:Nat)(e2:O)(f2 g2:Nat),(fun w19:LV=>w=[w19]/\(X base H x->f (SV.v (I Z y)) [J b false 41 w19,J a false 62 [I Z hk,I Z hg,I Z hn,B hgd,S ha hl hc],J g true 217 k] x)) [I Z z,S a1 b1 c1,S d1 e1 f1,S g1 h1 i1,I Z j1,S k1 l1 m1,I Z n1,I Z o1,B p1,S q1 r1 s1,I Z t1,S u1 v1 w1,S x1 y1 z1,B a2,S b2 c2 d2,S e2 f2 g2])/\∃h:List Value,mapSet (I Z 6) (A w44) []=some h/\(∃i:List Value,mapSet (I Z 1) (A w26) h=some i/\(∃j:List
 Value,mapSet (I Z 2) (A w42) i=some j/\∃k:List Value,mapSet (I Z 5) (A w43) j=some k/\∃(l m n o:Int)(p:Bool)(q:Int)(r:O)(s t:Nat)(u:Bool),mapGet (A w41) (I Z hk) k=some (A #[I Z l,I Z m,I Z n,I Z o,B p,I Z q,S r s t],u)/\YO Tryz.prog 176 [P (some (D b 0 none)),A #[I Z l,I Z m,I Z n,I Z o,B p,I Z q,S r s t]] [J b false 41 w40] H fun v w x=>∃y,v=I Z y/\∃(z:Int)(a1:O)(b1 c1:Nat)(d1:O)(e1 f1:Nat)(g1:O)(h1 i1:Nat)(j1:Int)(k1:O)(l1 m1:Nat)(n1 o1:Int)(p1:Bool)(q1:O)(r1 s1:Nat)(t1:Int)(u1:O)(v1 w1:Nat)(x1:O)(y1 z1:Nat)(a2:Bool)(b2:O)(c2 d2:Nat)(e2:O)(f2 g2:Nat),(fun w20:LV=>w=[w20]/\(X base H x->f (SV.v (I Z y)) [J b false 41 w20,J a false 62 [I Z hk,I Z hg,I Z hn,B hgd,S ha hl hc],J g true 217 k] x)) [I Z z,S a1 b1 c1,S d1 e1 f1,S g1 h1 i1,I Z j1,S k1 l1 m1,I Z n1,I Z o1,B p1,S q1 r1 s1,I Z t1,S u1 v1 w1,S x1 y1 z1,B a2,S b2 c2 d2,S e2 f2 g2])/\∃j:List Value,mapSet (I Z 5) (A w43) i=some j/\∃k:List Value,mapSet (I Z 2) (A w42) j=some k/\∃(l m n o:Int)(p:Bool)(q:Int)(r:O)(s t:Nat)(u:Bool),mapGet (A w41) (I Z hk) k=some (A #[I Z l,I Z m,I Z n,I Z o,B p,I Z q,S r s t],u)/\YO Tryz.prog 176 [P (some (D b 0 none)),A #[I Z l,I Z m,I Z n,I Z o,B p,I Z q,S r s t]] [J b false 41 w40] H fun v w x=>∃y,v=I Z y/\∃(z:Int)(a1:O)(b1 c1:Nat)(d1:O)(e1 f1:Nat)(g1:O)(h1 i1:Nat)(j1:Int)(k1:O)(l1 m1:Nat)(n1 o1:Int)(p1:Bool)(q1:O)(r1 s1:Nat)(t1:Int)(u1:O)(v1 w1:Nat)(x1:O)(y1 z1:Nat)(a2:Bool)(b2:O)(c2 d2:Nat)(e2:O)(f2 g2:Nat),(fun w21:LV=>w=[w21]/\(X base H x->f (SV.v (I Z y)) [J b false 41 w21,J a false 62 [I Z hk,I Z hg,I Z hn,B hgd,S ha hl hc],J g true 217 k] x)) [I Z z,S a1 b1 c1,S d1 e1 f1,S g1 h1 i1,I Z j1,S k1 l1 m1,I Z n1,I Z o1,B p1,S q1 r1 s1,I Z t1,S u1 v1 w1,S x1 y1 z1,B a2,S b2 c2 d2,S e2 f2 g2])/\(∃i:List Value,mapSet (I Z 2) (A w42) h=some i/\(∃j:List Value,mapSet (I Z 1) (A w26) i=some j/\∃k:List Value,mapSet (I Z 5) (A w43) j=some k/\∃(l m n o:Int)(p:Bool)(q:Int)(r:O)(s t:Nat)(u:Bool),mapGet (A w41)
 (I Z hk) k=some (A #[I Z l,I Z m,I Z n,I Z o,B p,I Z q,S r s t],u)/\YO Tryz.prog 176 [P (some (D b 0 none)),A #[I Z l,I Z m,I Z n,I Z o,B p,I Z q,S r s t]] [J b false 41 w40] H fun v w x=>∃y,v=I Z y/\∃(z:Int)(a1:O)(b1 c1:Nat)(d1:O)(e1 f1:Nat)(g1:O)(h1 i1:Nat)(j1:Int)(k1:O)(l1 m1:Nat)(n1 o1:Int)(p1:Bool)(q1:O)(r1 s1:Nat)(t1:Int)(u1:O)(v1 w1:Nat)(x1:O)(y1 z1:Nat)(a2:Bool)(b2:O)(c2 d2:Nat)(e2:O)(f2 g2:Nat),(fun w22:LV=>w=[w22]/\(X base H x->f (SV.v (I Z y)) [J b false 41 w22,J a false 62 [I Z hk,I Z hg,I Z hn,B hgd,S ha hl hc],J g true 217 k] x)) [I Z z,S a1 b1 c1,S d1 e1 f1,S g1 h1 i1,I Z j1,S k1 l1 m1,I Z n1,I Z o1,B p1,S q1 r1 s1,I Z t1,S u1 v1 w1,S x1 y1 z1,B a2,S b2 c2 d2,S e2 f2 g2])/\∃j:List Value,mapSet (I Z 5) (A w43) i=some j/\∃k:List Value,mapSet (I Z 1) (A w26) j=some k/\∃(l m n o:Int)(p:Bool)(q:Int)(r:O)(s t:Nat)(u:Bool),mapGet (A w41) (I Z hk) k=some (A #[I Z l,I Z m,I Z n,I Z o,B p,I Z q,S r s t],u)/\YO Tryz.prog 176 [P (some (D b 0 none)),A #[I Z l,I Z m,I Z n,I Z o,B p,I Z q,S r s t]] [J b false 41 w40] H fun v w x=>∃y,v=I Z y/\∃(z:Int)(a1:O)(b1 c1:Nat)(d1:O)(e1 f1:Nat)(g1:O)(h1 i1:Nat)(j1:Int)(k1:O)(l1 m1:Nat)(n1 o1:Int)(p1:Bool)(q1:O)(r1 s1:Nat)(t1:Int)(u1:O)(v1 w1:Nat)(x1:O)(y1 z1:Nat)(a2:Bool)(b2:O)(c2 d2:Nat)(e2:O)(f2 g2:Nat),(fun w23:LV=>w=[w23]/\(X base H x->f (SV.v (I Z y)) [J b false 41 w23,J a false 62 [I Z hk,I Z hg,I Z hn,B hgd,S ha hl hc],J g true 217 k] x)) [I Z z,S a1 b1 c1,S d1 e1 f1,S g1 h1 i1,I Z j1,S k1 l1 m1,I Z n1,I Z o1,B p1,S q1 r1 s1,I Z t1,S u1 v1 w1,S x1 y1 z1,B a2,S b2 c2 d2,S e2 f2 g2])/\∃i:List Value,mapSet (I Z 5) (A w43) h=some i/\(∃j:List Value,mapSet (I Z 1) (A w26) i=some j/\∃k:List Value,mapSet (I Z 2) (A w42) j=some k/\∃(l m n o:Int)(p:Bool)(q:Int)(r:O)(s t:Nat)(u:Bool),mapGet (A w41) (I Z hk) k=some (A #[I Z l,I Z m,I Z n,I Z o,B p,I Z q,S r s t],u)/\YO Tryz.prog 176 [P (some (D b 0 none)),A #[I Z l,I Z m,I Z n,I Z o,B p,I Z q,S r s t]] [J b
 false 41 w40] H fun v w x=>∃y,v=I Z y/\∃(z:Int)(a1:O)(b1 c1:Nat)(d1:O)(e1 f1:Nat)(g1:O)(h1 i1:Nat)(j1:Int)(k1:O)(l1 m1:Nat)(n1 o1:Int)(p1:Bool)(q1:O)(r1 s1:Nat)(t1:Int)(u1:O)(v1 w1:Nat)(x1:O)(y1 z1:Nat)(a2:Bool)(b2:O)(c2 d2:Nat)(e2:O)(f2 g2:Nat),(fun w24:LV=>w=[w24]/\(X base H x->f (SV.v (I Z y)) [J b false 41 w24,J a false 62 [I Z hk,I Z hg,I Z hn,B hgd,S ha hl hc],J g true 217 k] x)) [I Z z,S a1 b1 c1,S d1 e1 f1,S g1 h1 i1,I Z j1,S k1 l1 m1,I Z n1,I Z o1,B p1,S q1 r1 s1,I Z t1,S u1 v1 w1,S x1 y1 z1,B a2,S b2 c2 d2,S e2 f2 g2])/\∃j:List Value,mapSet (I Z 2) (A w42) i=some j/\∃k:List Value,mapSet (I Z 1) (A w26) j=some k/\∃(l m n o:Int)(p:Bool)(q:Int)(r:O)(s t:Nat)(u:Bool),mapGet (A w41) (I Z hk) k=some (A #[I Z l,I Z m,I Z n,I Z o,B p,I Z q,S r s t],u)/\YO Tryz.prog 176 [P (some (D b 0 none)),A #[I Z l,I Z m,I Z n,I Z o,B p,I Z q,S r s t]] [J b false 41 w40] H fun v w x=>∃y,v=I Z y/\∃(z:Int)(a1:O)(b1 c1:Nat)(d1:O)(e1 f1:Nat)(g1:O)(h1 i1:Nat)(j1:Int)(k1:O)(l1 m1:Nat)(n1 o1:Int)(p1:Bool)(q1:O)(r1 s1:Nat)(t1:Int)(u1:O)(v1 w1:Nat)(x1:O)(y1 z1:Nat)(a2:Bool)(b2:O)(c2 d2:Nat)(e2:O)(f2 g2:Nat),(fun w25:LV=>w=[w25]/\(X base H x->f (SV.v (I Z y)) [J b false 41 w25,J a false 62 [I Z hk,I Z hg,I Z hn,B hgd,S ha hl hc],J g true 217 k] x)) [I Z z,S a1 b1 c1,S d1 e1 f1,S g1 h1 i1,I Z j1,S k1 l1 m1,I Z n1,I Z o1,B p1,S q1 r1 s1,I Z t1,S u1 v1 w1,S x1 y1 z1,B a2,S b2 c2 d2,S e2 f2 g2]) #[I Z 4,I Z 0,I Z 0,I Z 0,B false,I Z e,S ha hl hc]))/\(¬d->∃e:Prop,((hk=3->w39=w39/\SubH H H/\(e↔hk=3))/\(¬hk=3->(hk=4->w39=w39/\SubH H H/\(e↔hk=4))/\(¬hk=4->(hk=7->w39=w39/\SubH H H/\(e↔hk=7))/\(¬hk=7->(hk=8->w39=w39/\SubH H H/\(e↔hk=8))/\(¬hk=8->(hk=12->w39=w39/\SubH H H/\(e↔hk=12))/\(¬hk=12->w39=w39/\SubH H H/\(e↔hk=13)))))))/\(e->((nl:Int)<=hg->f (SV.v (I Z 5)) w39 H)/\(¬(nl:Int)<=hg->(hg<0->(¬hk=12->(¬hk=13->f (SV.v (I Z 5)) w39 H)/\(¬¬hk=13->∃g:Prop,((hk=3->w39=w39/\SubH H H/\(g↔hk=3))/\(¬hk=3->w39=w39/\SubH H
 H/\(g↔hk=4)))/\(g->(up=false->f (SV.v (I Z 7)) w39 H)/\(¬up=false->YO Tryz.prog 177 w45 [J b false 41 w40] H fun h i j=>∃k,h=I Z k/\∃(l:Int)(m:O)(n o:Nat)(p:O)(q r:Nat)(s:O)(t u:Nat)(v:Int)(w:O)(x y:Nat)(z a1:Int)(b1:Bool)(c1:O)(d1 e1:Nat)(f1:Int)(g1:O)(h1 i1:Nat)(j1:O)(k1 l1:Nat)(m1:Bool)(n1:O)(o1 p1:Nat)(q1:O)(r1 s1:Nat),(fun w27:LV=>i=[w27]/\(X base H j->f (SV.v (I Z k)) [J b false 41 w27,J a false 62 [I Z hk,I Z hg,I Z hn,B hgd,S ha hl hc]] j)) [I Z l,S m n o,S p q r,S s t u,I Z v,S w x y,I Z z,I Z a1,B b1,S c1 d1 e1,I Z f1,S g1 h1 i1,S j1 k1 l1,B m1,S n1 o1 p1,S q1 r1 s1]))/\(¬g->∃h:Prop,((hk=12->w39=w39/\SubH H H/\(h↔hk=12))/\(¬hk=12->w39=w39/\SubH H H/\(h↔hk=13)))/\(h->∃(i:Wld)(j:WA)(k:Heap)(l:List (List Value))(m:Hap)(n:O)(o p:Nat),(41=41/\w40=wldCells i j/\A #[I Z hk,I Z hg,I Z hn,B hgd,S ha hl hc]=A #[I Z (Hap.kind m),I Z (Hap.agent m),I Z (Hap.num m),B (Hap.good m),S n o p]/\true=true)/\HapPre base k H i j l m n o/\Hap.agent m<(↑(List.length (Wld.n i)):Int)/\∀(q:Int)(r:Wld)(s:WA)(t:Heap)(u:List (List Value))(v:Heap),RunPost (wPower i m) base k H i j q r s t u v->f (SV.v (I Z q)) [J b false 41 (wldCells r s),J a false 62 [I Z hk,I Z hg,I Z hn,B hgd,S ha hl hc]] v)/\(¬h->∃i j,na=some (D i j none)/\0<=hg/\hg<(nl:Int)/\∃(k:O)(l m:Nat)(n o:Int)(p:Bool)(q:Int)(r:O)(s t:Nat)(u:Bool)(v:O)(w x:Nat)(y:O)(z a1:Nat)(b1:Bool),(fun w30:LV=>(C H i (j+N hg*10)=some (S k l m)/\C H i (j+N hg*10+1)=some (I Z n)/\C H i (j+N hg*10+2)=some (I Z o)/\C H i (j+N hg*10+3)=some (B p)/\C H i (j+N hg*10+4)=some (I Z q)/\C H i (j+N hg*10+5)=some (S r s t)/\C H i (j+N hg*10+6)=some (B u)/\C H i (j+N hg*10+7)=some (S v w x)/\C H i (j+N hg*10+8)=some (S y z a1)/\C H i (j+N hg*10+9)=some (B b1)/\True)/\∀c1:Nat,(fun w29:LB=>(b1=false->f (SV.v (I Z 7)) w29 H)/\(¬b1=false->(hk=7->∃(d1:Wld)(e1:WA)(f1:Heap)(g1:List (List Value))(h1:Hap)(i1:O)(j1 k1:Nat),(41=41/\w40=wldCells d1 e1/\A #[I Z hk,I Z hg,I Z hn,B hgd,S ha hl hc]=A #[I Z (Hap.kind h1),I Z (Hap.agent h1),I Z (Hap.num h1),B (Hap.good h1),S i1 j1 k1]/\true=true)/\HapPre base f1 H d1 e1 g1 h1 i1 j1/\(0<=Hap.agent h1/\Hap.agent h1<(↑(List.length (Wld.n d1)):Int))/\∀(l1:Int)(m1:Wld)(n1:WA)(o1:Heap)(p1:List (List Value))(q1:Heap),RunPost (wStepAt d1 h1) base f1 H d1 e1 l1 m1 n1 o1 p1 q1->f (SV.v (I Z l1)) [J b false 41 (wldCells m1 n1),J a false 62 [I Z hk,I Z hg,I Z hn,B hgd,S ha hl hc],J c1 false 58 w30] q1)/\(¬hk=7->∃d1:Prop,((p=true->w29=w29/\SubH H H/\d1)/\(p=false->w29=w29/\SubH H H/\(d1↔o=0)))/\(d1->f (SV.v (I Z 7)) w29 H)/\(¬d1->YO Tryz.prog 180 w46 [J b false 41 w40] H fun e1 f1 g1=>e1=T #[]/\∃(h1:Int)(i1:O)(j1 k1:Nat)(l1:O)(m1 n1:Nat)(o1:O)(p1 q1:Nat)(r1:Int)(s1:O)(t1 u1:Nat)(v1 w1:Int)(x1:Bool)(y1:O)(z1 a2:Nat)(b2:Int)(c2:O)(d2 e2:Nat)(f2:O)(g2 h2:Nat)(i2:Bool)(j2:O)(k2 l2:Nat)(m2:O)(n2 o2:Nat),(fun w28:LV=>f1=[w28]/\(X base H g1->f (SV.v (I Z 0)) [J b false 41 w28,J a false 62 [I Z hk,I Z hg,I Z hn,B hgd,S ha hl hc],J c1 false 58 w30] g1)) [I Z h1,S i1 j1 k1,S l1 m1 n1,S o1 p1 q1,I Z r1,S s1 t1 u1,I Z v1,I Z w1,B x1,S y1 z1 a2,I Z b2,S c2 d2 e2,S f2 g2 h2,B i2,S j2 k2 l2,S m2 n2 o2])))) [J b false 41 w40,J a false 62 [I Z hk,I Z hg,I Z hn,B hgd,S ha hl hc],J c1 false 58 w30]) [S k l m,I Z n,I Z o,B p,I Z q,S r s t,B u,S v w x,S y z a1,B b1]))))/\(¬¬hk=12->∃g:Prop,((hk=3->w39=w39/\SubH H H/\(g↔hk=3))/\(¬hk=3->w39=w39/\SubH H H/\(g↔hk=4)))/\(g->(up=false->f (SV.v (I Z 7)) w39 H)/\(¬up=false->YO Tryz.prog 177 w45 [J b false 41 w40] H fun h i j=>∃k,h=I Z k/\∃(l:Int)(m:O)(n o:Nat)(p:O)(q r:Nat)(s:O)(t u:Nat)(v:Int)(w:O)(x y:Nat)(z a1:Int)(b1:Bool)(c1:O)(d1 e1:Nat)(f1:Int)(g1:O)(h1 i1:Nat)(j1:O)(k1 l1:Nat)(m1:Bool)(n1:O)(o1 p1:Nat)(q1:O)(r1 s1:Nat),(fun w31:LV=>i=[w31]/\(X base H j->f (SV.v (I Z k)) [J b false 41 w31,J a false 62 [I Z hk,I Z hg,I Z hn,B hgd,S ha hl hc]] j)) [I Z l,S m n
 o,S p q r,S s t u,I Z v,S w x y,I Z z,I Z a1,B b1,S c1 d1 e1,I Z f1,S g1 h1 i1,S j1 k1 l1,B m1,S n1 o1 p1,S q1 r1 s1]))/\(¬g->∃h:Prop,((hk=12->w39=w39/\SubH H H/\(h↔hk=12))/\(¬hk=12->w39=w39/\SubH H H/\(h↔hk=13)))/\(h->∃(i:Wld)(j:WA)(k:Heap)(l:List (List Value))(m:Hap)(n:O)(o p:Nat),(41=41/\w40=wldCells i j/\A #[I Z hk,I Z hg,I Z hn,B hgd,S ha hl hc]=A #[I Z (Hap.kind m),I Z (Hap.agent m),I Z (Hap.num m),B (Hap.good m),S n o p]/\true=true)/\HapPre base k H i j l m n o/\Hap.agent m<(↑(List.length (Wld.n i)):Int)/\∀(q:Int)(r:Wld)(s:WA)(t:Heap)(u:List (List Value))(v:Heap),RunPost (wPower i m) base k H i j q r s t u v->f (SV.v (I Z q)) [J b false 41 (wldCells r s),J a false 62 [I Z hk,I Z hg,I Z hn,B hgd,S ha hl hc]] v)/\(¬h->∃i j,na=some (D i j none)/\0<=hg/\hg<(nl:Int)/\∃(k:O)(l m:Nat)(n o:Int)(p:Bool)(q:Int)(r:O)(s t:Nat)(u:Bool)(v:O)(w x:Nat)(y:O)(z a1:Nat)(b1:Bool),(fun w34:LV=>(C H i (j+N hg*10)=some (S k l m)/\C H i (j+N hg*10+1)=some (I Z n)/\C H i (j+N hg*10+
 2)=some (I Z o)/\C H i (j+N hg*10+3)=some (B p)/\C H i (j+N hg*10+4)=some (I Z q)/\C H i (j+N hg*10+5)=some (S r s t)/\C H i (j+N hg*10+6)=some (B u)/\C H i (j+N hg*10+7)=some (S v w x)/\C H i (j+N hg*10+8)=some (S y z a1)/\C H i (j+N hg*10+9)=some (B b1)/\True)/\∀c1:Nat,(fun w33:LB=>(b1=false->f (SV.v (I Z 7)) w33 H)/\(¬b1=false->(hk=7->∃(d1:Wld)(e1:WA)(f1:Heap)(g1:List (List Value))(h1:Hap)(i1:O)(j1 k1:Nat),(41=41/\w40=wldCells d1 e1/\A #[I Z hk,I Z hg,I Z hn,B hgd,S ha hl hc]=A #[I Z (Hap.kind h1),I Z (Hap.agent h1),I Z (Hap.num h1),B (Hap.good h1),S i1 j1 k1]/\true=true)/\HapPre base f1 H d1 e1 g1 h1 i1 j1/\(0<=Hap.agent h1/\Hap.agent h1<(↑(List.length (Wld.n d1)):Int))/\∀(l1:Int)(m1:Wld)(n1:WA)(o1:Heap)(p1:List (List Value))(q1:Heap),RunPost (wStepAt d1 h1) base f1 H d1 e1 l1 m1 n1 o1 p1 q1->f (SV.v (I Z l1)) [J b false 41 (wldCells m1 n1),J a false 62 [I Z hk,I Z hg,I Z hn,B
 hgd,S ha hl hc],J c1 false 58 w34] q1)/\(¬hk=7->∃d1:Prop,((p=true->w33=w33/\SubH H H/\d1)/\(p=false->w33=w33/\SubH H H/\(d1↔o=0)))/\(d1->f (SV.v (I Z 7)) w33 H)/\(¬d1->YO Tryz.prog 180 w46 [J b false 41 w40] H fun e1 f1 g1=>e1=T #[]/\∃(h1:Int)(i1:O)(j1 k1:Nat)(l1:O)(m1 n1:Nat)(o1:O)(p1 q1:Nat)(r1:Int)(s1:O)(t1 u1:Nat)(v1 w1:Int)(x1:Bool)(y1:O)(z1 a2:Nat)(b2:Int)(c2:O)(d2 e2:Nat)(f2:O)(g2 h2:Nat)(i2:Bool)(j2:O)(k2 l2:Nat)(m2:O)(n2 o2:Nat),(fun w32:LV=>f1=[w32]/\(X base H g1->f (SV.v (I Z 0)) [J b false 41 w32,J a false 62 [I Z hk,I Z hg,I Z hn,B hgd,S ha hl hc],J c1 false 58 w34] g1)) [I Z h1,S i1 j1 k1,S l1 m1 n1,S o1 p1 q1,I Z r1,S s1 t1 u1,I Z v1,I Z w1,B x1,S y1 z1 a2,I Z b2,S c2 d2 e2,S f2 g2 h2,B i2,S j2 k2 l2,S m2 n2 o2])))) [J b false 41 w40,J a false 62 [I Z hk,I Z hg,I Z hn,B hgd,S ha hl hc],J c1 false 58 w34]) [S k l m,I Z n,I Z o,B p,I Z q,S r s t,B u,S v w x,S y z a1,B b1]))))/\(¬hg<0->∃g:Prop,((hk=3->w39=w39/\SubH H H/\(g↔hk=3))/\(¬hk=3->w39=w39/\SubH H H/\(g↔hk=4)))/\(g->(up=false->f (SV.v (I Z 7)) w39 H)/\(¬up=false->YO Tryz.prog 177 w45 [J b false 41 w40] H fun h i j=>∃k,h=I Z k/\∃(l:Int)(m:O)(n o:Nat)(p:O)(q r:Nat)(s:O)(t u:Nat)(v:Int)(w:O)(x y:Nat)(z a1:Int)(b1:Bool)(c1:O)(d1 e1:Nat)(f1:Int)(g1:O)(h1 i1:Nat)(j1:O)(k1 l1:Nat)(m1:Bool)(n1:O)(o1 p1:Nat)(q1:O)(r1 s1:Nat),(fun w35:LV=>i=[w35]/\(X base H j->f (SV.v (I Z k)) [J b false 41 w35,J a false 62 [I Z hk,I Z hg,I Z hn,B hgd,S ha hl hc]] j)) [I Z l,S m n o,S p q r,S s t u,I Z v,S w x y,I Z z,I Z a1,B b1,S c1 d1 e1,I Z f1,S g1 h1 i1,S j1 k1 l1,B m1,S n1 o1 p1,S q1 r1 s1]))/\(¬g->∃h:Prop,((hk=12->w39=w39/\SubH H H/\(h↔hk=12))/\(¬hk=12->w39=w39/\SubH H H/\(h↔hk=13)))/\(h->∃(i:Wld)(j:WA)(k:Heap)(l:List (List Value))(m:Hap)(n:O)(o p:Nat),(41=41/\w40=wldCells i j/\A #[I Z hk,I Z hg,I Z hn,B hgd,S ha hl hc]=A #[I Z (Hap.kind m),I Z (Hap.agent m),I Z (Hap.num m),B (Hap.good m),S n o p]/\true=true)/\HapPre base k H i j l m n o/\Hap.agent m<(↑(List.length (Wld.n i)):Int)/\∀(q:Int)(r:Wld)(s:WA)(t:Heap)(u:List (List Value))(v:Heap),RunPost (wPower i m) base k H i j q r s t u v->f (SV.v (I Z q)) [J b false 41 (wldCells r s),J a false 62 [I Z hk,I Z hg,I Z hn,B hgd,S ha hl hc]] v)/\(¬h->∃i j,na=some (D i j none)/\0<=hg/\hg<(nl:Int)/\∃(k:O)(l m:Nat)(n o:Int)(p:Bool)(q:Int)(r:O)(s t:Nat)(u:Bool)(v:O)(w x:Nat)(y:O)(z a1:Nat)(b1:Bool),(fun w38:LV=>(C H i (j+N hg*10)=some (S k l m)/\C H i (j+N hg*10+1)=some (I Z n)/\C H i (j+N hg*10+2)=some (I Z o)/\C H i (j+N hg*10+3)=some (B p)/\C H i (j+N hg*10+4)=some (I Z q)/\C H i (j+N hg*10+5)=some (S r s t)/\C H i (j+N hg*10+6)=some (B u)/\C H i (j+N hg*10+7)=some (S v w x)/\C H i (j+N hg*10+8)=some (S y z a1)/\C H i (j+N hg*10+9)=some (B b1)/\True)/\∀c1:Nat,(fun w37:LB=>(b1=false->f (SV.v (I Z 7)) w37 H)/\(¬b1=false->(hk=7->∃(d1:Wld)(e1:WA)(f1:Heap)(g1:List (List Value))(h1:Hap)(i1:O)(j1 k1:Nat),(41=41/\w40=[I Z
 (Rls.id (Conf.first (Wld.c d1))),S (WA.fa e1) (WA.fl e1) (WA.fc e1),S (WA.ra e1) (WA.rl e1) (WA.rc e1),S (WA.wa e1) (WA.wl e1) (WA.wc e1),I Z (Conf.bud (Wld.c d1)),S (WA.la e1) (WA.ll e1) (WA.lc e1),I Z (Ldr.now (Hed.l (Wld.h d1))),I Z (Ldr.goal (Hed.l (Wld.h d1))),B (Ldr.back (Hed.l (Wld.h d1))),S (WA.ka e1) (WA.kl e1) (WA.kc e1),I Z (Ldr.nx (Hed.l (Wld.h d1))),S (WA.sa e1) (WA.sl e1) (WA.sc e1),S (WA.ta e1) (WA.tl e1) (WA.tc e1),B (Hed.up (Wld.h d1)),S (WA.na e1) (WA.nl e1) (WA.nc e1),S (WA.ma e1) (WA.ml e1) (WA.mc e1)]/\A #[I Z hk,I Z hg,I Z hn,B hgd,S ha hl hc]=A #[I Z (Hap.kind h1),I Z (Hap.agent h1),I Z (Hap.num h1),B (Hap.good h1),S i1 j1 k1]/\true=true)/\HapPre base f1 H d1 e1 g1 h1 i1 j1/\(0<=Hap.agent h1/\Hap.agent h1<(↑(List.length (Wld.n d1)):Int))/\∀(l1:Int)(m1:Wld)(n1:WA)(o1:Heap)(p1:List (List Value))(q1:Heap),RunPost (wStepAt d1 h1) base f1 H d1 e1 l1 m1 n1 o1 p1 q1->f (SV.v (I Z l1)) [J b false 41 (wldCells m1 n1),J a false 62 [I Z hk,I Z hg,I Z hn,B hgd,S ha hl hc],J c1 false 58 w38] q1)/\(¬hk=7->∃d1:Prop,((p=true->w37=w37/\SubH H H/\d1)/\(p=false->w37=w37/\SubH H H/\(d1↔o=0)))/\(d1->f (SV.v (I Z 7)) w37 H)/\(¬d1->YO Tryz.prog 180 w46 [J b false 41 w40] H fun e1 f1 g1=>e1=T #[]/\∃(h1:Int)(i1:O)(j1 k1:Nat)(l1:O)(m1 n1:Nat)(o1:O)(p1 q1:Nat)(r1:Int)(s1:O)(t1 u1:Nat)(v1 w1:Int)(x1:Bool)(y1:O)(z1 a2:Nat)(b2:Int)(c2:O)(d2 e2:Nat)(f2:O)(g2 h2:Nat)(i2:Bool)(j2:O)(k2 l2:Nat)(m2:O)(n2 o2:Nat),(fun w36:LV=>f1=[w36]/\(X
 base H g1->f (SV.v (I Z 0)) [J b false 41 w36,J a false 62 [I Z hk,I Z hg,I Z hn,B hgd,S ha hl hc],J c1 false 58 w38] g1)) [I Z h1,S i1 j1 k1,S l1 m1 n1,S o1 p1 q1,I Z r1,S s1 t1 u1,I Z v1,I Z w1,B x1,S y1 z1 a2,I Z b2,S c2 d2 e2,S f2 g2 h2,B i2,S j2 k2 l2,S m2 n2 o2])))) [J b false 41 w40,J a false 62 [I Z hk,I Z hg,I Z hn,B hgd,S ha hl hc],J c1 false 58 w38]) [S k l m,I Z n,I Z o,B p,I Z q,S r s t,B u,S v w x,S y z a1,B b1])))))/\(¬e->f (SV.v (I Z 4)) w39 H))))) [J b false 41 w40,J a false 62 [I Z hk,I Z hg,I Z hn,B hgd,S ha hl hc]]) [I Z id,S fa fl fc,S ra rl rc,S wa wl wc,I Z bud,S la ll lc,I Z now,I Z goal,B back,S ka kl kc,I Z nx,S sa sl sc,S ta tl tc,B up,S na nl nc,S ma ml mc]) #[I Z 0,I Z 0,I Z 0,I Z 0,B false,I Z 0,S none 0 0]) #[I Z 5,I Z 0,I Z 0,I Z hn,B false,I Z 0,S none 0 0]) #[I Z 8,I Z 0,I Z 0,I Z 0,B false,I Z 0,S none 0 0]) #[I Z 9,I Z 0,I Z 0,I Z 0,B false,I Z 0,S none 0 0]) [P (some (D b 0 none)),A #[I Z hk,I Z hg,I Z hn,B hgd,S ha hl hc]]) [P (some (D b 0 none)),I Z hg]):=by kernel_rfl
end Go.Vg
