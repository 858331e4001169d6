/- What is proved here: a part of the proof of laws of this seat: what a contract is, how it comes of a condition, contracts of the functions that are reached, the plain laws. -/
import Derived.Test.YtgaegoefbekndaaGreatDoorSE13
import Derived.Test.YtgaegoefbekndaaGreatDoorCards
import Derived.Test.YtgaegoefbekndaaGreatDoorTie
import Derived.Deep.DeepHandedRow
import Derived.JoinedCond
import Derived.Lay
import Derived.MakeChecks
import Derived.SevenTiedAt
import Derived.Stop.LaidErr
set_option linter.unusedSimpArgs false
set_option linter.unusedVariables false
set_option maxRecDepth 100000
namespace Go.Vg
open Go Go.Proofs
open Go.Value renaming int → I, slice → S, bool → B, agg → A, tuple → T, pointer → P, string → Str
open Go.IntKind renaming i64 → Z, wrap → W
open Go.Addr renaming mk → D
open Go.Vg.Bx renaming mk → J
open Go.Vg renaming Next → X, Spec → Y, SpecO → YO
open Go.Vg.Heap renaming cell → C
open Int renaming toNat → N
theorem vk141a(a:O)(l c:Nat)(base:Nat)(H:Heap)(K:KT):
 (fV TryzMutsK Tryz.f141 base H [.v (S a l c),.v (.func (.func 63) #[] #[])] [] K)=(
 ∃(b:NI)(d:Nat),b d [I Z 0,I Z 0] H/\∀(e:Nat)(g h:Int)(i:Heap),X base H i->b e [I Z g,I Z h] i->(h<(l:Int)->∃j k,a=some (D j k none)/\0<=h/\h<(l:Int)/\∃(m:O)(n o:Nat)(p q:Int)(r:Bool)(s:Int)(t:O)(u v:Nat)(w:Bool)(x:O)(y z:Nat)(a1:O)(b1 c1:Nat)(d1:Bool),(C i j (k+N h*10)=some (S m n o)/\C i j (k+N h*10+1)=some (I Z p)/\C i j (k+N h*10+2)=some (I Z q)/\C i j (k+N h*10+3)=some (B r)/\C i j (k+N h*10+4)=some (I Z s)/\C i j (k+N h*10+5)=some (S t u v)/\C i j (k+N h*10+6)=some (B w)/\C i j (k+N h*10+7)=some (S x y z)/\C i j (k+N h*10+8)=some (S a1 b1 c1)/\C i j (k+N h*10+9)=some (B d1)/\True)/\Y Tryz.prog 63 [A #[S m n o,I Z p,I Z q,B r,I Z s,S t u v,B w,S x y z,S a1 b1 c1,B d1]] i fun e1 f1=>∃g1,e1=B g1/\(X base i f1->(g1=true->K (I Z h) [] f1)/\(g1=false->∀h1:Int,h1=W Z (h+1)->∃i1:Nat,i1<e/\b i1 [I Z g,I Z h1] f1)))/\(¬h<(l:Int)->K (I Z (-1)) [] i)):=by kernel_rfl
theorem vk62a(a:O)(l c:Nat)(base:Nat)(H:Heap)(K:KT):
 (fV TryzMutsK Tryz.f62 base H [.v (S a l c),.v (.func (.func 63) #[] #[])] [] K)=(
 Y Tryz.prog 141 [S a l c,Value.func (Fn.func 63) #[] #[]] H fun b d=>∃e,b=I Z e/\(X base H d->K (B (decide (0<=e))) [] d)):=by kernel_rfl
theorem vk141b(a:O)(l c:Nat)(p:Nat)(base:Nat)(H:Heap)(K:KT):
 (fV TryzMutsK Tryz.f141 base H [.v (S a l c),.v (.func (.func 65) #[] #[.pointer (some ⟨p,0,none⟩)])] [] K)=(
 ∃(b:NI)(d:Nat),b d [I Z 0,I Z 0] H/\∀(e:Nat)(g h:Int)(i:Heap),X base H i->b e [I Z g,I Z h] i->(h<(l:Int)->∃j k,a=some (D j k none)/\0<=h/\h<(l:Int)/\∃(m:O)(n o:Nat)(q r:Int)(s:Bool)(t:Int)(u:O)(v w:Nat)(x:Bool)(y:O)(z a1:Nat)(b1:O)(c1 d1:Nat)(e1:Bool),(C i j (k+N h*10)=some (S m n o)/\C i j (k+N h*10+1)=some (I Z q)/\C i j (k+N h*10+2)=some (I Z r)/\C i j (k+N h*10+3)=some (B s)/\C i j (k+N h*10+4)=some (I Z t)/\C i j (k+N h*10+5)=some (S u v w)/\C i j (k+N h*10+6)=some (B x)/\C i j (k+N h*10+7)=some (S y z a1)/\C i j (k+N h*10+8)=some (S b1 c1 d1)/\C i j (k+N h*10+9)=some (B e1)/\True)/\Y Tryz.prog 65 [A #[S m n o,I Z q,I Z r,B s,I Z t,S u v w,B x,S y z a1,S b1 c1 d1,B e1],P (some (D p 0 none))] i fun f1 g1=>∃h1,f1=B h1/\(X base i g1->(h1=true->K (I Z h) [] g1)/\(h1=false->∀i1:Int,i1=W Z (h+1)->∃j1:Nat,j1<e/\b j1 [I Z g,I Z i1] g1)))/\(¬h<(l:Int)->K (I Z (-1)) [] i)):=by kernel_rfl
theorem vk62b(a:O)(l c:Nat)(p:Nat)(base:Nat)(H:Heap)(K:KT):
 (fV TryzMutsK Tryz.f62 base H [.v (S a l c),.v (.func (.func 65) #[] #[.pointer (some ⟨p,0,none⟩)])] [] K)=(
 Y Tryz.prog 141 [S a l c,Value.func (Fn.func 65) #[] #[P (some (D p 0 none))]] H fun b d=>∃e,b=I Z e/\(X base H d->K (B (decide (0<=e))) [] d)):=by kernel_rfl
theorem vk63(aat tr gid:Int)(going good:Bool)(xa ga:O)(xl xc gl gc:Nat)(ua va:O)(ul uc vl vc:Nat)(nup:Bool)(base:Nat)(H:Heap)(K:KT):
 (fV TryzMutsK Tryz.f63 base H [.v (A #[S xa xl xc,I Z aat,I Z tr,B going,I Z gid,S ga gl gc,B good,S ua ul uc,S va vl vc,B nup])] [] K)=(
 ∀a:Nat,K (B (decide (30000<(ul:Int)))) [] H):=by kernel_rfl
theorem vk65(aat tr gid:Int)(going good:Bool)(xa ga:O)(xl xc gl gc:Nat)(ua va:O)(ul uc vl vc:Nat)(nup:Bool)(p:Nat)(base:Nat)(H:Heap)(K:KT):
 (fV TryzMutsK Tryz.f65 base H [.v (A #[S xa xl xc,I Z aat,I Z tr,B going,I Z gid,S ga gl gc,B good,S ua ul uc,S va vl vc,B nup]),.v (.pointer (some ⟨p,0,none⟩))] [] K)=(
 ∀a:Nat,(fun w1:LB=>∃b:Prop,((going=true->w1=w1/\SubH H H/\b)/\(going=false->∃c,C H p 6=some (I Z c)/\w1=w1/\SubH H H/\(b↔¬aat=c)))/\K (B (@decide b (Classical.propDecidable b))) [] H) [J a false 58 [S xa xl xc,I Z aat,I Z tr,B going,I Z gid,S ga gl gc,B good,S ua ul uc,S va vl vc,B nup]]):=by kernel_rfl
open Go Go.Proofs
def ndIdx(f:Nod->Bool):Int->List Nod->Int
 |_,[]=> -1
 |i,x::r=>if f x=true then i else ndIdx f (i+1) r
theorem ndIdx_any(f:Nod->Bool):∀(l:List Nod)(i:Int),0<=i->(0<=ndIdx f i l↔l.any f=true)
 | [],i,_=>by simp[ndIdx]
 |x::r,i,h=>by
  unfold ndIdx
  split
  ·rename_i e;simp[h,e]
  ·rename_i e;rw[ndIdx_any f r (i+1) (by omega)];simp[e]
def fullN(x:Nod):Bool:=decide (30000<x.d.safe.length)
def awayN(now:Int)(x:Nod):Bool:=x.a.going||decide (¬x.a.at_=now)
theorem cNoda{H:Heap}{x:Nod}{q:NA}(hx:NodAt H x q):Spec Tryz.prog 63 [nodArg x q] H fun v _=>v= .bool (fullN x):=by
 refine TryzvcK Tryz.func63 (by kernel_rfl) (by kernel_rfl) _ rfl (fun base K=>vk63 x.a.at_ x.a.try_ x.a.goal.id x.a.going x.a.good q.xa q.ga q.xl q.xc q.gl q.gc q.ua q.va q.ul q.uc q.vl q.vc x.up base H K) fun base hb=>fun b=> ?_
 have:=hx.dsk.safe.len
 show Value.bool _=Value.bool _
 unfold fullN
 congr 1
 exact decide_eq_decide.2 (by omega)
theorem cAnya{H:Heap}{a:O}{l c:Nat}{xs:List Nod}(hx:Nods H a l xs):Spec Tryz.prog 62 [.slice a l c,.func (.func 63) #[] #[]] H fun v _=>v= .bool (xs.any (fullN)):=by
 have h141:Spec Tryz.prog 141 [.slice a l c,.func (.func 63) #[] #[]] H fun r _=>r=i64 (ndIdx (fullN) 0 xs):=by
  refine TryzvcK Tryz.func141 (by kernel_rfl) (by kernel_rfl) _ rfl (fun base K=>vk141a a l c base H K) fun base hb=> ?_
  have hle:=hx.le
  have hln:=hx.len
  refine⟨fun m vs H'=>∃(d:Int)(k:Nat),vs=[i64 d,i64 k]/\m=l-k/\k<=l/\ndIdx (fullN) k (xs.drop k)=ndIdx (fullN) 0 xs,l,⟨0,0,rfl,rfl,by omega,rfl⟩,fun m d n H' hN hI=> ?_⟩
  obtain⟨d',k,hvs,rfl,hk,hI⟩:=hI
  obtain⟨rfl,rfl⟩:d=d'/\n=(k:Int):=by simpa using hvs
  refine⟨fun hlt=> ?_,fun hge=> ?_⟩
  ·obtain⟨b,o,r,x,ha,hxk,⟨q,rfl,hq⟩,hc⟩:=(Sl.ext RNod.mono hx hN.ext).get (k:=(k:Int)) (by omega) hlt
   rw[Int.toNat_natCast] at hxk
   rw[drop_at hxk,ndIdx] at hI
   refine⟨b,o,ha,by omega,hlt,_,_,_,_,_,_,_,_,_,_,_,_,_,_,_,_,_,_,⟨hc 0 _ rfl,hc 1 _ rfl,hc 2 _ rfl,hc 3 _ rfl,hc 4 _ rfl,hc 5 _ rfl,hc 6 _ rfl,hc 7 _ rfl,hc 8 _ rfl,hc 9 _ rfl,trivial⟩,?_⟩
   refine(cNoda hq).bool1 fun H2 e2 _=>⟨fun he=> ?_,fun he=>fun r hr=>⟨l-(k+1),by omega,d,k+1,?_,rfl,by omega,?_⟩⟩
   ·rw[if_pos he] at hI
    rw[hI]
   ·rw[hr,wrap_in (by omega) (by omega)];rfl
   ·rw[if_neg (by rw[he];simp)] at hI
    exact hI
  ·have hkk:k=l:=by omega
   rw[List.drop_eq_nil_of_le (by omega)] at hI
   rw[←hI];rfl
 refine TryzvcK Tryz.func62 (by kernel_rfl) (by kernel_rfl) _ rfl (fun base K=>vk62a a l c base H K) fun base hb=> ?_
 refine h141.int1 fun H1 e1 hN1=> ?_
 have:=ndIdx_any (fullN) xs 0 (by omega)
 show Value.bool _=Value.bool _
 congr 1
 cases hq:xs.any (fullN) with
 |true=>exact decide_eq_true (this.2 hq)
 |false=>exact decide_eq_false fun h0=>by rw[this.1 h0] at hq;cases hq
theorem cNodb{H:Heap}{p:Nat}{now:Int}(hp:H.cell p 6=some (.int .i64 now)){x:Nod}{q:NA}(hx:NodAt H x q):Spec Tryz.prog 65 [nodArg x q,.pointer (some ⟨p,0,none⟩)] H fun v _=>v= .bool (awayN now x):=by
 refine TryzvcK Tryz.func65 (by kernel_rfl) (by kernel_rfl) _ rfl (fun base K=>vk65 x.a.at_ x.a.try_ x.a.goal.id x.a.going x.a.good q.xa q.ga q.xl q.xc q.gl q.gc q.ua q.va q.ul q.uc q.vl q.vc x.up p base H K) fun base hb=>fun b=> ?_
 refine⟨awayN now x=true,⟨fun hg=>⟨rfl,subH,by unfold awayN;rw[hg];rfl⟩,fun hg=>⟨now,hp,rfl,subH,by unfold awayN;rw[hg];simp⟩⟩,?_⟩
 show Value.bool _=Value.bool _
 simp
theorem cAnyb{H:Heap}{p:Nat}{now:Int}(hp:H.cell p 6=some (.int .i64 now)){a:O}{l c:Nat}{xs:List Nod}(hx:Nods H a l xs):Spec Tryz.prog 62 [.slice a l c,.func (.func 65) #[] #[.pointer (some ⟨p,0,none⟩)]] H fun v _=>v= .bool (xs.any (awayN now)):=by
 have h141:Spec Tryz.prog 141 [.slice a l c,.func (.func 65) #[] #[.pointer (some ⟨p,0,none⟩)]] H fun r _=>r=i64 (ndIdx (awayN now) 0 xs):=by
  refine TryzvcK Tryz.func141 (by kernel_rfl) (by kernel_rfl) _ rfl (fun base K=>vk141b a l c p base H K) fun base hb=> ?_
  have hle:=hx.le
  have hln:=hx.len
  refine⟨fun m vs H'=>∃(d:Int)(k:Nat),vs=[i64 d,i64 k]/\m=l-k/\k<=l/\ndIdx (awayN now) k (xs.drop k)=ndIdx (awayN now) 0 xs,l,⟨0,0,rfl,rfl,by omega,rfl⟩,fun m d n H' hN hI=> ?_⟩
  obtain⟨d',k,hvs,rfl,hk,hI⟩:=hI
  obtain⟨rfl,rfl⟩:d=d'/\n=(k:Int):=by simpa using hvs
  refine⟨fun hlt=> ?_,fun hge=> ?_⟩
  ·obtain⟨b,o,r,x,ha,hxk,⟨q,rfl,hq⟩,hc⟩:=(Sl.ext RNod.mono hx hN.ext).get (k:=(k:Int)) (by omega) hlt
   rw[Int.toNat_natCast] at hxk
   rw[drop_at hxk,ndIdx] at hI
   refine⟨b,o,ha,by omega,hlt,_,_,_,_,_,_,_,_,_,_,_,_,_,_,_,_,_,_,⟨hc 0 _ rfl,hc 1 _ rfl,hc 2 _ rfl,hc 3 _ rfl,hc 4 _ rfl,hc 5 _ rfl,hc 6 _ rfl,hc 7 _ rfl,hc 8 _ rfl,hc 9 _ rfl,trivial⟩,?_⟩
   refine(cNodb (Heap.cell_next hN.ext hp) hq).bool1 fun H2 e2 _=>⟨fun he=> ?_,fun he=>fun r hr=>⟨l-(k+1),by omega,d,k+1,?_,rfl,by omega,?_⟩⟩
   ·rw[if_pos he] at hI
    rw[hI]
   ·rw[hr,wrap_in (by omega) (by omega)];rfl
   ·rw[if_neg (by rw[he];simp)] at hI
    exact hI
  ·have hkk:k=l:=by omega
   rw[List.drop_eq_nil_of_le (by omega)] at hI
   rw[←hI];rfl
 refine TryzvcK Tryz.func62 (by kernel_rfl) (by kernel_rfl) _ rfl (fun base K=>vk62b a l c p base H K) fun base hb=> ?_
 refine h141.int1 fun H1 e1 hN1=> ?_
 have:=ndIdx_any (awayN now) xs 0 (by omega)
 show Value.bool _=Value.bool _
 congr 1
 cases hq:xs.any (awayN now) with
 |true=>exact decide_eq_true (this.2 hq)
 |false=>exact decide_eq_false fun h0=>by rw[this.1 h0] at hq;cases hq
open Go Go.Proofs
theorem fresh_right{c:Conf}(h:cfgErr c=0):WRight (freshWld c):=by
 have hw:=(waveCheck_zero (cfgErr_zero h).2.2.2.2.2.2)
 obtain⟨e1,e2,e3,e4⟩:=DOk.nil.err
 have hlog:∀up,logOf dsk0 up= .ok []:=fun up=>logOf_zero.2 ⟨e1,fun _=>e4,by rw[e2];cases up<;>rfl⟩
 refine⟨h,?_,rfl,fun m hm=>(by cases hm),hedErr_zero.1 ?_,fun n hn=>nodErr_zero.1 ?_⟩
 ·show((List.replicate (agentsOf c.waves).toNat (freshNod c.first)).length:Int)=agentsOf c.waves
  rw[List.length_replicate];omega
 ·show hedErr c ⟨newLdr c,dsk0,true⟩=0
  unfold hedErr
  rw[hlog]
  have:ledReplay c []= .ok (newLdr c):=by unfold ledReplay;rw[if_neg (by omega),if_neg (by simp)];rfl
  dsimp only
  rw[this]
  dsimp only
  rw[if_pos rfl]
 ·obtain rfl:=List.eq_of_mem_replicate hn
  show nodErr c.first ⟨newAgt c.first,dsk0,true⟩=0
  unfold nodErr
  rw[hlog]
  have hr:=(cfgErr_zero h).1
  have:agtReplay c.first []= .ok (newAgt c.first):=by unfold agtReplay;rw[if_neg (by omega),if_neg (by simp)];rfl
  dsimp only
  rw[this]
  dsimp only
  rw[if_pos rfl]
def toldS:Skl:=(sRunFrom (freshSkl cS) tellS).1
theorem tell_said:(sRunFrom (freshSkl cS) tellS).2=[0,0,0,0,0,0,0]:=by decide+kernel
theorem tell_led:(match ledReplay cS toldS.rs with| .ok l=>decide (l.goal=2)&&decide ((l.ags[1]?.map Kn.st)=some 1)| .error _=>false)=true:=by decide+kernel
theorem tell_agt:(match toldS.n[1]? with|none=>false|some n=>match agtReplay cS.first n.rs with| .ok a=>a.going&&decide (a.try_=1)&&decide (find a.lock 1=2)&&decide (find a.lock 2=0)| .error _=>false)=true:=by decide+kernel
theorem cS_ok:cfgErr cS=0:=by decide+kernel
theorem told_rel:SRel 7 (wRunFrom (freshWld cS) tellS).1 toldS/\(wRunFrom (freshWld cS) tellS).2=[0,0,0,0,0,0,0]:=by
 obtain⟨h1,h2⟩:=SRel.run (l:=tellS) (fresh_rel cS) (by decide)
 exact⟨h1,h2.trans tell_said⟩
theorem told_run:runErr (freshWld cS) tellS=0:=by
 unfold runErr
 rw[if_neg (by rw[wldErr_zero.2 (fresh_right cS_ok)];simp),if_neg (by decide)]
theorem sto_of{b:Nat}{w:Wld}{s:Skl}(h:SRel b w s)(hw:WRight w):stoL w=ledReplay s.c s.rs:=by
 unfold stoL
 rw[if_neg (by rw[wldErr_zero.2 hw];simp),h.d.err.2.1,h.c]
theorem stoA_of{b:Nat}{w:Wld}{s:Skl}(h:SRel b w s)(hw:WRight w){k:Nat}{q:SNod}(hq:s.n[k]?=some q):stoA w k=agtReplay s.c.first q.rs:=by
 obtain⟨n,hn⟩:∃n,w.n[k]?=some n:=⟨_,List.getElem?_eq_getElem (by rw[h.n];exact(List.getElem?_eq_some_iff.1 hq).1)⟩
 unfold stoA
 rw[if_neg (by rw[wldErr_zero.2 hw];simp),if_neg (by omega),Int.toNat_natCast,hn]
 dsimp only
 rw[(h.at_ k n q hn hq).d.err.2.1,h.c]
theorem told_c:toldS.c=cS:=by kernel_rfl
theorem told_led:∃l,stoL (wRunFrom (freshWld cS) tellS).1= .ok l/\l.goal=2/\∃a,l.ags[1]?=some a/\a.st=1:=by
 have hw:=(fresh_right cS_ok).run (l:=tellS)
 have h:=tell_led
 rw[sto_of told_rel.1 hw,told_c]
 cases hl:ledReplay cS toldS.rs with
 |error e=>rw[hl] at h;cases h
 |ok l=>
  rw[hl] at h
  simp only[Bool.and_eq_true,decide_eq_true_eq] at h
  refine⟨l,rfl,h.1,?_⟩
  cases ha:l.ags[1]? with
  |none=>rw[ha] at h;cases h.2
  |some a=>rw[ha] at h;exact⟨a,rfl,by simpa using h.2⟩
theorem told_agt:∃a,stoA (wRunFrom (freshWld cS) tellS).1 1= .ok a/\a.going=true/\a.try_=1/\find a.lock 1=2/\find a.lock 2=0:=by
 have hw:=(fresh_right cS_ok).run (l:=tellS)
 have h:=tell_agt
 cases hn:toldS.n[1]? with
 |none=>rw[hn] at h;cases h
 |some n=>
  rw[hn] at h
  dsimp only at h
  have hs:=stoA_of told_rel.1 hw hn
  rw[told_c] at hs
  have hs:stoA (wRunFrom (freshWld cS) tellS).1 1=agtReplay cS.first n.rs:=hs
  rw[hs]
  cases hl:agtReplay cS.first n.rs with
  |error e=>rw[hl] at h;cases h
  |ok a=>
   rw[hl] at h
   simp only[Bool.and_eq_true,decide_eq_true_eq] at h
   exact⟨a,rfl,h.1.1.1,h.1.1.2,h.1.2,h.2⟩
open Go Go.Proofs
theorem cTold{H:Heap}(hL:Lb H):Spec Tryz.prog 20 [] H fun v _=>v= .bool true:=by
 refine TryzvcK Tryz.func20 (by kernel_rfl) (by kernel_rfl) _ rfl (fun base K=>vk20 base H K) fun base hb=> ?_
 refine cSmall.mono fun v H1 e1 hv=> ?_
 obtain⟨a,n,c,a1,n1,c1,a2,n2,c2,rfl,hC⟩:=hv
 refine⟨_,_,_,_,_,_,_,_,_,_,_,rfl,fun hN1=> ?_⟩
 have hNW:=cNewW (fc:=c) (rc:=c1) (wc:=c2) hC
 rw[cS_ok,show newW cS=freshWld cS from by unfold newW;rw[if_pos cS_ok]] at hNW
 refine hNW.mono fun v H2 e2 hv=> ?_
 obtain⟨p,rfl,hW⟩:=hv
 refine⟨_,_,_,_,_,_,_,_,_,_,_,_,_,_,_,_,_,_,_,_,_,_,_,_,_,_,_,_,_,_,_,_,_,_,_,rfl,fun hN2=>fun b2=> ?_⟩
 refine cSecond.mono fun v H3 e3 hv=> ?_
 obtain⟨sa,sn,sc,rfl,hS⟩:=hv
 refine⟨_,_,_,_,rfl,fun hN3=>fun g H4 hN4 hgn hg=> ?_⟩
 have e4:=hN4.ext
 have hL4:Lb H4:=(((hL.ext e1).ext e2).ext e3).ext e4
 have hH:Haps H4 (some ⟨g,0,none⟩) 7 tellS:=sl_of_rows (rs:=[hapCells ⟨1,0,0,false,s2.lock⟩ sa sn sc,hapCells ⟨2,0,2,false,[]⟩ none 0 0,hapCells ⟨3,1,0,false,[]⟩ none 0 0,hapCells ⟨9,0,0,false,[]⟩ none 0 0,hapCells ⟨7,1,0,false,[]⟩ none 0 0,hapCells ⟨12,1,0,false,[]⟩ none 0 0,hapCells ⟨12,-1,0,false,[]⟩ none 0 0]) hg (by simp) ⟨⟨_,_,_,rfl,hS.ext' e4⟩,⟨_,_,_,rfl,Sl.nil⟩,⟨_,_,_,rfl,Sl.nil⟩,⟨_,_,_,rfl,Sl.nil⟩,⟨_,_,_,rfl,Sl.nil⟩,⟨_,_,_,rfl,Sl.nil⟩,⟨_,_,_,rfl,Sl.nil⟩,trivial⟩ rfl (by decide)
 have hRun:=cRun (c:=7) hL4 ((hW.ext e3).ext e4) hH
 rw[told_run,show ranW (freshWld cS) tellS=(wRunFrom (freshWld cS) tellS).1 from by unfold ranW;rw[if_pos told_run],show ranS (freshWld cS) tellS=[0,0,0,0,0,0,0] from by unfold ranS;rw[if_pos told_run];exact told_rel.2] at hRun
 obtain⟨l,hl,hl1,kn,hl2,hl3⟩:=told_led
 obtain⟨ag,hag,ha1,ha2,ha3,ha4⟩:=told_agt
 generalize (wRunFrom (freshWld cS) tellS).1=w at*
 refine hRun.mono fun v H5 e5 hv=> ?_
 obtain⟨p2,ra,rn,rc,rfl,hW2,hRS,_⟩:=hv
 refine⟨_,_,_,_,_,_,_,_,_,_,_,_,_,_,_,_,_,_,_,_,_,_,_,_,_,_,_,_,_,_,_,_,_,_,_,_,_,_,rfl,fun hN5=> ?_⟩
 have hSL:=cStoryLeader (hL4.ext e5) hW2
 rw[hl] at hSL
 refine hSL.ldr fun la ll lc ka kl kc H6 e6 hN6 hA=>fun b5=> ?_
 have hSA:=cStoryAgent ((hL4.ext e5).ext e6) (hW2.ext e6) 1
 rw[hag] at hSA
 refine hSA.agt fun xa xl xc ga gl gc H7 e7 hN7 hp hq=>fun b8=>⟨True,⟨fun _=>⟨fun _=>⟨fun _=>⟨fun _=> ?_,fun h=>absurd rfl h⟩,fun h=>absurd rfl h⟩,fun h=>absurd rfl h⟩,fun h=>absurd rfl h⟩,?_⟩
 ·refine(cAnyNon (c:=rc) ((Sl.ext RInt.mono hRS e6).ext RInt.mono e7)).bool1 fun H8 e8 hN8=>⟨fun _=>⟨fun _=> ?_,fun h=>absurd hl1 h⟩,fun h=>absurd rfl h⟩
  have hkl:l.ags.length=kl:=hA.ags.len
  have h1k:1<l.ags.length:=(List.getElem?_eq_some_iff.1 hl2).1
  have hA8:Kns H8 ka kl l.ags:=((hA.ags.ext' e7).ext' e8)
  obtain⟨b3,o,r,x,ha,hx,hr,hcell⟩:=hA8.get (k:=1) (by omega) (by omega)
  have hxk:x=kn:=by
   have hx:l.ags[1]?=some x:=hx
   rw[hl2] at hx;exact(Option.some.inj hx).symm
  subst hxk
  obtain rfl:=hr
  refine⟨b3,o,ha,by decide,by omega,_,hcell 0 _ rfl,fun _=>⟨fun _=>⟨fun _=> ?_,fun h=>absurd ha2 h⟩,fun h=> ?_⟩,fun h=>absurd hl3 h⟩
  ·refine(cFind (c:=xc) (hp.ext' e8) 1).int1 fun H9 e9 hN9=>⟨fun _=> ?_,fun h=>absurd ha3 h⟩
   refine(cFind (c:=xc) ((hp.ext' e8).ext' e9) 2).int1 fun H10 e10 hN10=>⟨rfl,fun b k hb=>e10 b k (e9 b k (e8 b k hb)),⟨fun _=>ha4,fun _=>trivial⟩⟩
  ·rw[show(okA (Except.ok (ε:=Int) ag)).going=ag.going from rfl,ha1] at h;cases h
 ·show Value.bool _=Value.bool _
  simp
open Go Go.Proofs
theorem roomy_of{w:Wld}(h1:w.h.l.nx<=180)(h2:w.h.d.safe.length<=30000)(h3:w.n.any fullN=false)(h4:(dskRecs w.h.d).length<=160)(h5:∀n∈w.n,(dskRecs n.d).length<=160):Roomy w:=
 ⟨h1,⟨h4,h2⟩,fun n hn=>⟨h5 n hn,by
  have:=List.any_eq_false.1 h3 n hn
  unfold fullN at this
  simp only[decide_eq_true_eq] at this
  omega⟩⟩
theorem none_away{w:Wld}(h:∀n∈w.n,n.a.going=false/\n.a.at_=w.h.l.now):w.n.any (awayN w.h.l.now)=false:=
 List.any_eq_false.2 fun n hn=>by
  obtain⟨h1,h2⟩:=h n hn
  unfold awayN
  rw[h1,h2]
  simp
theorem cnt_take{l:List Kn}{j:Nat}{a:Kn}(h:l[j]?=some a):cnt 3 (l.take (j+1))=if a.st=3 then cnt 3 (l.take j)+1 else cnt 3 (l.take j):=by
 unfold cnt
 rw[take_at h,List.filter_append,List.length_append]
 by_cases e:a.st=3
 ·rw[if_pos e];simp[e]
 ·rw[if_neg e];simp[e]
theorem cnt_le{l:List Kn}(j:Nat):0<=cnt 3 (l.take j)/\cnt 3 (l.take j)<=j:=by
 unfold cnt
 have:=List.length_filter_le (fun a:Kn=>decide (a.st=3)) (l.take j)
 rw[List.length_take] at this
 omega
theorem cEnds59{H:Heap}{L:Ldr}{la ka xa:O}{ll lc kl kc xn xc:Nat} :Spec Tryz.prog 59 [ldrArg L la ll lc ka kl kc,.slice xa xn xc] H fun v _=>v= .bool true:=by
 refine TryzvcK Tryz.func59 (by kernel_rfl) (by kernel_rfl) _ rfl (fun base K=>vk59 L.now L.goal L.nx L.back la ka ll lc kl kc xa xn xc base H K) fun base hb=>fun b=> ?_
 rfl
set_option maxHeartbeats 1000000 in
theorem cStoryEnds{H:Heap}(hL:Lb H){c:Conf}{fa ra wa:O}{fl fc rl rc wl wc:Nat}(hc:CfgAt H c fa fl ra rl wa wl){l:List Hap}{a:O}{n cc:Nat}(hx:Haps H a n l)(hcap:n<=cc):
  Spec Tryz.prog 16 [cfgArg c fa fl fc ra rl rc wa wl wc,.slice a n cc] H fun v _=>v= .bool true:=by
 refine TryzvcE Tryz.func16 (by kernel_rfl) (by kernel_rfl) _ rfl (fun base K=>ve16 c.first.id c.bud fa ra wa fl fc rl rc wl wc a n cc base H K) fun base hb=>fun b=> ?_
 refine(cPlayedf hL hc hx hcap fun e hS hLd hA=>cEnds59).mono fun v H1 e1 hv=> ?_
 obtain⟨p,w,rfl,hw,hwe⟩:=hv
 refine⟨_,_,_,_,_,_,_,_,_,_,_,_,_,_,_,_,_,_,_,_,_,_,_,_,_,_,_,_,_,_,_,_,_,_,_,rfl,fun hN1=>fun b4=> ?_⟩
 refine⟨(p.nl:Int)=0,(cTold (hL.ext e1)).bool1 fun H2 e2 hN2=>⟨fun h=>(by cases h),fun _=>⟨fun h=>(by cases h),fun _=>⟨rfl,e2,Iff.rfl⟩⟩⟩,fun _=>⟨True,(cTold (hL.ext e1)).bool1 fun H2 e2 hN2=>⟨fun _=>⟨rfl,e2,by simp⟩,fun h=>(by cases h)⟩,true_bool⟩,fun h0=>fun b5=> ?_⟩
 have hnl:=hw.nod.len
 have hcf:cfgErr c=0:=Decidable.byContradiction fun hcf=>by
  rw[if_neg hcf] at hwe
  rw[hwe] at hnl
  exact h0 (by rw[←hnl];rfl)
 rw[if_pos hcf] at hwe
 obtain⟨L0,A0,hS⟩:=(Sto.fresh hcf).run (l:=l.take 90)
 have hS:Sto c w L0 A0:=by rw[hwe];exact hS
 clear hwe
 have h6:=right_n hw hS.right
 obtain⟨N,hN⟩:∃N:Nat,N=w.n.length:=⟨_,rfl⟩
 have hN6:N<=6:=by omega
 refine⟨fun m vs H'=>∃(k:Int)(y:Wld)(q:WA),vs=[i64 k,wldArg y q]/\m=((N:Int)-k).toNat/\ -1<=k/\k<=N/\WldAt H' y q/\BootI c N y k/\Ext H1 H',N+1,⟨-1,w,p,rfl,by omega,by omega,by omega,hw,⟨⟨L0,A0,hS⟩,hN.symm,fun h=>by omega,fun i n hi hlt=>by omega⟩,Ext.refl _⟩,?_⟩
 intro m n0 n1 a2 l2 c2 a3 l3 c3 a4 l4 c4 n5 a6 l6 c6 n7 n8 b9 aA lA cA nB aC lC cC aD lD cD bE aF lF cF aG lG cG H' hN' hI
 obtain⟨k,y,q,hvs,rfl,hk0,hk1,hy,hB,eH⟩:=hI
 simp only[List.cons.injEq,Value.slice.injEq,Value.int.injEq,true_and,Value.agg.injEq,Array.mk.injEq,Value.bool.injEq,and_true] at hvs
 obtain⟨rfl,rfl,⟨rfl,rfl,rfl⟩,⟨rfl,rfl,rfl⟩,⟨rfl,rfl,rfl⟩,rfl,⟨rfl,rfl,rfl⟩,rfl,rfl,rfl,⟨rfl,rfl,rfl⟩,rfl,⟨rfl,rfl,rfl⟩,⟨rfl,rfl,rfl⟩,rfl,⟨rfl,rfl,rfl⟩,rfl,rfl,rfl⟩:=hvs
 have hyl:=hy.nod.len
 have hBl:=hB.len
 refine⟨fun hlt=> ?_,fun hge=> ?_⟩
 ·refine⟨y,q,⟨rfl,rfl,rfl,rfl⟩,hL.ext hN'.ext,hy,hB.right,?_⟩
  rintro _ q2 H2 rfl hN2 hw2
  intro r hr
  have hr:r=n0+1:=by rw[hr,wrap_in (by omega) (by omega)]
  exact⟨rfl,((N:Int)-(n0+1)).toNat,by omega,n0+1,eDo y 13 n0,q2,by rw[hr],rfl,by omega,by omega,hw2,hB.next hk0 (by omega),Ext.trans eH hN2.ext⟩
 have hkN:(N:Int)<=n0:=by omega
 obtain⟨hLive,hyc⟩:=hB.live hkN
 intro r hr r1 hr1
 have hr1:r1=((2*N+4:Nat):Int):=by
  rw[wrap_in (by omega) (by omega)] at hr
  rw[hr1,wrap_in (by omega) (by omega)]
  omega
 obtain⟨V,hV⟩:∃V,V=endsF (2*N+4) y:=⟨_,rfl⟩
 have hFin:Roomy V->V.h.l.goal=0/\V.n.any (awayN V.h.l.now)=false:=fun hR=>by
  have hs:=story_ends hLive (by rw[hBl,←hV];exact hR)
  rw[hBl,←hV] at hs
  exact⟨hs.1,none_away hs.2⟩
 refine⟨fun m vs H'=>∃(i:Nat)(z:Wld)(q:WA),vs=[i64 i,wldArg z q]/\m=2*N+4-i/\i<=2*N+4/\WldAt H' z q/\EndI c N V z (2*N+4-i)/\Ext H1 H',2*N+4,⟨0,y,q,rfl,by omega,by omega,hy,⟨hLive,hyc,hBl,hV.symm⟩,eH⟩,?_⟩
 clear hr hge
 intro m ni n1 a2 l2 c2 a3 l3 c3 a4 l4 c4 n5 a6 l6 c6 n7 n8 b9 aA lA cA nB aC lC cC aD lD cD bE aF lF cF aG lG cG H' hN2' hI
 obtain⟨i,z,qz,hvs,rfl,hi,hz,hE,eZ⟩:=hI
 simp only[List.cons.injEq,Value.slice.injEq,Value.int.injEq,true_and,Value.agg.injEq,Array.mk.injEq,Value.bool.injEq,and_true] at hvs
 obtain⟨rfl,rfl,⟨rfl,rfl,rfl⟩,⟨rfl,rfl,rfl⟩,⟨rfl,rfl,rfl⟩,rfl,⟨rfl,rfl,rfl⟩,rfl,rfl,rfl,⟨rfl,rfl,rfl⟩,rfl,⟨rfl,rfl,rfl⟩,⟨rfl,rfl,rfl⟩,rfl,⟨rfl,rfl,rfl⟩,rfl,rfl,rfl⟩:=hvs
 refine⟨fun hlt=> ?_,fun hge=> ?_⟩
 ·obtain⟨f,hf⟩:∃f,2*N+4-i=f+1:=⟨2*N+4-i-1,by omega⟩
  rw[hf] at hE
  obtain⟨d1,d2,d3,d4,d5⟩:=hE.live.drained
  refine⟨z,qz,⟨rfl,rfl,rfl,rfl⟩,hL.ext hN2'.ext,hz,hE.live,?_⟩
  rintro _ p2 H2 rfl hN2 hw2
  have e2:Ext H1 H2:=Ext.trans eZ hN2.ext
  refine⟨fun hg=> ?_,fun hg=> ?_⟩
  ·have hstop:=hE.stop hg
   have hFinY:Roomy (drainF 200 z)->(drainF 200 z).h.l.goal=0/\(drainF 200 z).n.any (awayN (drainF 200 z).h.l.now)=false:=by rw[hstop];exact hFin
   have hLx:=(hL.ext hN2'.ext).ext hN2.ext
   have hwy:=hw2
   have hlv:Live (drainF 200 z):=d1
   have hsl:=hwy.dsk.safe.len
   have hd0:dskErr (drainF 200 z).h.d=0:=hlv.logs.hd.err.1
   have hnl2:=hwy.nod.len
   have hle2:=hwy.nod.le
   refine⟨180<(drainF 200 z).h.l.nx∨(30000:Int)<(p2.sl:Int)∨(drainF 200 z).n.any fullN=true,⟨fun h=>⟨rfl,subH,.inl h⟩,fun h1=>⟨fun h=>⟨rfl,subH,.inr (.inl h)⟩,fun h2=>(cAnya hwy.nod).bool1 fun Hb eb hNb=>⟨rfl,eb,⟨fun h=>(h.resolve_left h1).resolve_left h2,fun h=> .inr (.inr h)⟩⟩⟩⟩,fun _=>rfl,fun hφ=> ?_⟩
   have hφ1:¬180<(drainF 200 z).h.l.nx:=fun h=>hφ (.inl h)
   have hφ2:¬(30000:Int)<(p2.sl:Int):=fun h=>hφ (.inr (.inl h))
   have hφ3:¬(drainF 200 z).n.any fullN=true:=fun h=>hφ (.inr (.inr h))
   refine(cRecover hLx hwy.dsk).mono fun v Hr er hv=> ?_
   obtain⟨a1,n1,c1,a2,n2,c2,a3,n3,c3,G,rows,rfl,hD,hS⟩:=hv
   refine⟨_,_,_,_,_,_,_,_,_,_,rfl,fun hNr=>fun b10=>⟨fun _=>rfl,fun hr3=> ?_⟩⟩
   have hSl:=(hS.sl RRec.mono (by omega) hNr).len
   rw[if_pos hd0] at hSl
   refine⟨fun m vs H'=>∃k:Nat,vs=[.bool false,i64 k,wldArg (drainF 200 z) p2]/\m=p2.nl-k/\k<=p2.nl/\Ext Hr H'/\∀(i:Nat)(n:Nod),i<k->(drainF 200 z).n[i]?=some n->(dskRecs n.d).length<=160,p2.nl,⟨0,rfl,by omega,by omega,Ext.refl _,fun i n hi=>by omega⟩,?_⟩
   intro m bb nn m1 a2_ l2_ c2_ a3_ l3_ c3_ a4 l4 c4 n5 a6 l6 c6 n7 n8 b9 aA lA cA nB aC lC cC aD lD cD bE aF lF cF aG lG cG H' hN' hI
   obtain⟨k,hvs,rfl,hk,eH',hrec⟩:=hI
   simp only[List.cons.injEq,Value.slice.injEq,Value.int.injEq,true_and,Value.agg.injEq,Array.mk.injEq,Value.bool.injEq,and_true] at hvs
   obtain⟨rfl,rfl,rfl,⟨rfl,rfl,rfl⟩,⟨rfl,rfl,rfl⟩,⟨rfl,rfl,rfl⟩,rfl,⟨rfl,rfl,rfl⟩,rfl,rfl,rfl,⟨rfl,rfl,rfl⟩,rfl,⟨rfl,rfl,rfl⟩,⟨rfl,rfl,rfl⟩,rfl,⟨rfl,rfl,rfl⟩,rfl,rfl,rfl⟩:=hvs
   have hwy':=(hwy.ext er).ext eH'
   refine⟨fun hlt=> ?_,fun hge=> ?_⟩
   ·obtain⟨bw,ow,rw1,x1,haw,hx1,⟨q1,rfl,hq1⟩,hcw⟩:=hwy'.nod.get (k:=(k:Int)) (by omega) hlt
    rw[Int.toNat_natCast] at hx1
    refine⟨bw,ow,haw,by omega,hlt,_,_,_,_,_,_,_,_,_,_,_,_,_,_,_,_,_,_,⟨hcw 0 _ rfl,hcw 1 _ rfl,hcw 2 _ rfl,hcw 3 _ rfl,hcw 4 _ rfl,hcw 5 _ rfl,hcw 6 _ rfl,hcw 7 _ rfl,hcw 8 _ rfl,hcw 9 _ rfl,trivial⟩,fun b11=> ?_⟩
    refine(cRecover ((hLx.ext er).ext eH') hq1.dsk).mono fun v Hs es hv=> ?_
    obtain⟨a1',n1',c1',a2',n2',c2',a3',n3',c3',G',rows',rfl,hD',hS'⟩:=hv
    refine⟨_,_,_,_,_,_,_,_,_,_,rfl,fun hNs=>fun b12=>⟨fun _=>rfl,fun hr4=>fun r hr=>⟨rfl,p2.nl-(k+1),by omega,k+1,by rw[hr,wrap_in (by omega) (by omega)];rfl,rfl,by omega,Ext.trans eH' es,fun i n hi hn=> ?_⟩⟩⟩
    have hSl':=(hS'.sl RRec.mono (by omega) hNs).len
    rw[if_pos (hlv.node hx1).1.err.1] at hSl'
    by_cases e:i=k
    ·subst e
     rw[hx1] at hn
     obtain rfl:=Option.some.inj hn
     omega
    ·exact hrec i n (by omega) hn
   ·have hAll:=hFinY (roomy_of (by omega) (by omega) (by simpa using hφ3) (by omega) fun n hn=>by
     obtain⟨i,hi⟩:=List.getElem?_of_mem hn
     have:=(List.getElem?_eq_some_iff.1 hi).1
     exact hrec i n (by omega) hi)
    refine⟨True,⟨fun _=>⟨rfl,fun Hl hNl hbx=> ?_⟩,fun hg=>absurd hAll.1 hg⟩,true_bool⟩
    refine(cAnyb (p:=b4) (now:=(drainF 200 z).h.l.now) (by unfold Heap.cell;rw[hbx.1];rfl) (hwy'.ext hNl.ext).nod).mono fun v Ht et hv=>⟨_,hv,fun Hu hNu _=>⟨rfl,hNu.ext,⟨fun _=>hAll.2,fun _=>trivial⟩⟩⟩
  have hvl:=hw2.nod.len
  have hzl:z.n.length=N:=hE.len
  refine⟨fun m vs H'=>∃(k:Nat)(x:Wld)(q:WA),vs=[i64 k,wldArg x q]/\m=N-k/\k<=N/\WldAt H' x q/\RoundI (drainF 200 z) x k/\Ext H1 H',N,⟨0,drainF 200 z,p2,rfl,by omega,by omega,hw2,hE.begins hg,e2⟩,?_⟩
  intro m nk n1 a2 l2 c2 a3 l3 c3 a4 l4 c4 n5 a6 l6 c6 n7 n8 b9 aA lA cA nB aC lC cC aD lD cD bE aF lF cF aG lG cG H' hN3' hI
  obtain⟨k,x,qx,hvs,rfl,hk,hxw,hR,eX⟩:=hI
  simp only[List.cons.injEq,Value.slice.injEq,Value.int.injEq,true_and,Value.agg.injEq,Array.mk.injEq,Value.bool.injEq,and_true] at hvs
  obtain⟨rfl,rfl,⟨rfl,rfl,rfl⟩,⟨rfl,rfl,rfl⟩,⟨rfl,rfl,rfl⟩,rfl,⟨rfl,rfl,rfl⟩,rfl,rfl,rfl,⟨rfl,rfl,rfl⟩,rfl,⟨rfl,rfl,rfl⟩,⟨rfl,rfl,rfl⟩,rfl,⟨rfl,rfl,rfl⟩,rfl,rfl,rfl⟩:=hvs
  refine⟨fun hlt=> ?_,fun hge=> ?_⟩
  ·have hkx:k<x.n.length:=by rw[hR.len];omega
   obtain⟨t1,t2,t3,t4⟩:=hR.live.toldF hR.mail hR.goal hkx
   obtain⟨u1,u2,u3⟩:=t3.saidF (k:=k) (by rw[t4];exact hkx)
   refine⟨x,qx,⟨rfl,rfl,rfl,rfl⟩,hL.ext hN3'.ext,hxw,hR.live.right,?_⟩
   rintro _ q3 H3 rfl hN3 hw3
   refine⟨_,q3,⟨rfl,rfl,rfl,rfl⟩,(hL.ext hN3'.ext).ext hN3.ext,hw3,t1.right,?_⟩
   rintro _ q4 H4 rfl hN4 hw4
   refine⟨_,q4,⟨rfl,rfl,rfl,rfl⟩,((hL.ext hN3'.ext).ext hN3.ext).ext hN4.ext,hw4,t2,?_⟩
   rintro _ q5 H5 rfl hN5 hw5
   have e5:Ext H1 H5:=Ext.trans (Ext.trans (Ext.trans eX hN3.ext) hN4.ext) hN5.ext
   refine⟨fun m vs H'=>∃(s:Wld)(q:WA),vs=[wldArg s q]/\WldAt H' s q/\StepI (drainF 200 (eDo (eDo x 3 k) 4 k)) s k m/\Ext H1 H',200,⟨_,q5,rfl,hw5,StepI.start t3 (by rw[t4];exact hkx),e5⟩,?_⟩
   intro m n1 a2 l2 c2 a3 l3 c3 a4 l4 c4 n5 a6 l6 c6 n7 n8 b9 aA lA cA nB aC lC cC aD lD cD bE aF lF cF aG lG cG H' hN4' hI
   obtain⟨s,qs,hvs,hsw,hSt,eS⟩:=hI
   simp only[List.cons.injEq,Value.slice.injEq,Value.int.injEq,true_and,Value.agg.injEq,Array.mk.injEq,Value.bool.injEq,and_true] at hvs
   obtain⟨rfl,⟨rfl,rfl,rfl⟩,⟨rfl,rfl,rfl⟩,⟨rfl,rfl,rfl⟩,rfl,⟨rfl,rfl,rfl⟩,rfl,rfl,rfl,⟨rfl,rfl,rfl⟩,rfl,⟨rfl,rfl,rfl⟩,⟨rfl,rfl,rfl⟩,rfl,⟨rfl,rfl,rfl⟩,rfl,rfl,rfl⟩:=hvs
   have hLs:=hL.ext hN4'.ext
   refine⟨s,qs,⟨rfl,rfl,rfl,rfl⟩,hLs,hsw,hSt.live.right,?_⟩
   rintro _ q6 H6 rfl hN6' hw6
   obtain⟨s1,s2⟩:=hSt.next
   refine⟨fun hok=> ?_,fun hok=> ?_⟩
   ·obtain⟨g,hg',hS'⟩:=s1 hok
    exact⟨rfl,g,hg',_,q6,rfl,hw6,hS',Ext.trans eS hN6'.ext⟩
   ·have hEq:=s2 hok
    refine⟨_,q6,⟨rfl,rfl,rfl,rfl⟩,hLs.ext hN6'.ext,hw6,by rw[hEq];exact u1.right,?_⟩
    rintro _ q7 H7 rfl hN7 hw7
    refine⟨_,q7,⟨rfl,rfl,rfl,rfl⟩,(hLs.ext hN6'.ext).ext hN7.ext,hw7,by rw[hEq];exact u2,?_⟩
    rintro _ q8 H8 rfl hN8 hw8
    intro r hr
    exact⟨rfl,N-(k+1),by omega,k+1,_,q8,by rw[hr,wrap_in (by omega) (by omega)];rfl,rfl,by omega,hw8,by rw[hEq];exact hR.next (by omega),Ext.trans (Ext.trans (Ext.trans eS hN6'.ext) hN7.ext) hN8.ext⟩
  have hkN2:k=N:=by omega
  subst hkN2
  have hal:=hxw.ldr.ags.len
  have hale:=hxw.ldr.ags.le
  refine⟨fun m vs Hj=>∃j:Nat,vs=[i64 (cnt 3 (x.h.l.ags.take j)),i64 j,wldArg x qx]/\m=qx.kl-j/\j<=qx.kl/\Ext H' Hj,qx.kl,⟨0,rfl,by omega,by omega,Ext.refl _⟩,?_⟩
  intro m nc nj n1 a2 l2 c2 a3 l3 c3 a4 l4 c4 n5 a6 l6 c6 n7 n8 b9 aA lA cA nB aC lC cC aD lD cD bE aF lF cF aG lG cG Hj hN5' hI
  obtain⟨j,hvs,rfl,hj,eJ⟩:=hI
  simp only[List.cons.injEq,Value.slice.injEq,Value.int.injEq,true_and,Value.agg.injEq,Array.mk.injEq,Value.bool.injEq,and_true] at hvs
  obtain⟨rfl,rfl,rfl,⟨rfl,rfl,rfl⟩,⟨rfl,rfl,rfl⟩,⟨rfl,rfl,rfl⟩,rfl,⟨rfl,rfl,rfl⟩,rfl,rfl,rfl,⟨rfl,rfl,rfl⟩,rfl,⟨rfl,rfl,rfl⟩,⟨rfl,rfl,rfl⟩,rfl,⟨rfl,rfl,rfl⟩,rfl,rfl,rfl⟩:=hvs
  have hxj:=hxw.ext eJ
  obtain⟨cl1,cl2⟩:=cnt_le (l:=x.h.l.ags) j
  refine⟨fun hlt=> ?_,fun hge=> ?_⟩
  ·refine hxj.ldr.ags.kn (Ext.refl _) (by omega) hlt fun a2 ha2=>fun b14=> ?_
   rw[Int.toNat_natCast] at ha2
   have hct:=cnt_take ha2
   refine⟨fun h3=>fun r hr r2 hr2=>⟨rfl,qx.kl-(j+1),by omega,j+1,?_,rfl,by omega,eJ⟩,fun h3=>fun r hr=>⟨rfl,qx.kl-(j+1),by omega,j+1,?_,rfl,by omega,eJ⟩⟩
   ·rw[if_pos h3] at hct
    rw[hr,hr2,wrap_in (by omega) (by omega),wrap_in (by omega) (by omega),hct];rfl
   ·rw[if_neg h3] at hct
    rw[hr,wrap_in (by omega) (by omega),hct];rfl
  have hjl:x.h.l.ags.take j=x.h.l.ags:=List.take_of_length_le (by omega)
  rw[hjl]
  obtain⟨x1,x2⟩:=hE.next hg hR
  unfold wRound at x1
  have hLj:=hL.ext hN5'.ext
  have eXj:=Ext.trans eX eJ
  refine⟨fun hb=> ?_,fun hb=> ?_⟩
  ·rw[if_pos hb] at x1 x2
   refine⟨x,qx,⟨rfl,rfl,rfl,rfl⟩,hLj,hxj,hR.live.right,?_⟩
   rintro _ q9 H9 rfl hN9 hw9
   refine⟨_,q9,⟨rfl,rfl,rfl,rfl⟩,hLj.ext hN9.ext,hw9,x2.right,?_⟩
   rintro _ q10 H10 rfl hN10 hw10
   intro r hr
   exact⟨rfl,2*k+4-(i+1),by omega,i+1,_,q10,by rw[hr,wrap_in (by omega) (by omega)];rfl,rfl,by omega,hw10,by rw[show 2*k+4-(i+1)=f from by omega];exact x1,Ext.trans (Ext.trans eXj hN9.ext) hN10.ext⟩
  ·rw[if_neg hb] at x1 x2
   refine⟨x,qx,⟨rfl,rfl,rfl,rfl⟩,hLj,hxj,hR.live.right,?_⟩
   rintro _ q10 H10 rfl hN10 hw10
   intro r hr
   exact⟨rfl,2*k+4-(i+1),by omega,i+1,_,q10,by rw[hr,wrap_in (by omega) (by omega)];rfl,rfl,by omega,hw10,by rw[show 2*k+4-(i+1)=f from by omega];exact x1,Ext.trans eXj hN10.ext⟩
 ·have hiN:i=2*N+4:=by omega
  have hzV:z=V:=by
   have:=hE.same
   rw[show 2*N+4-i=0 from by omega] at this
   exact this
  have hFinY:Roomy z->z.h.l.goal=0/\z.n.any (awayN z.h.l.now)=false:=by rw[hzV];exact hFin
  have hLx:=hL.ext hN2'.ext
  have hwy:=hz
  have hlv:Live z:=hE.live
  have hsl:=hwy.dsk.safe.len
  have hd0:dskErr z.h.d=0:=hlv.logs.hd.err.1
  have hnl2:=hwy.nod.len
  have hle2:=hwy.nod.le
  refine⟨180<z.h.l.nx∨(30000:Int)<(qz.sl:Int)∨z.n.any fullN=true,⟨fun h=>⟨rfl,subH,.inl h⟩,fun h1=>⟨fun h=>⟨rfl,subH,.inr (.inl h)⟩,fun h2=>(cAnya hwy.nod).bool1 fun Hb eb hNb=>⟨rfl,eb,⟨fun h=>(h.resolve_left h1).resolve_left h2,fun h=> .inr (.inr h)⟩⟩⟩⟩,fun _=>rfl,fun hφ=> ?_⟩
  have hφ1:¬180<z.h.l.nx:=fun h=>hφ (.inl h)
  have hφ2:¬(30000:Int)<(qz.sl:Int):=fun h=>hφ (.inr (.inl h))
  have hφ3:¬z.n.any fullN=true:=fun h=>hφ (.inr (.inr h))
  refine(cRecover hLx hwy.dsk).mono fun v Hr er hv=> ?_
  obtain⟨a1,n1,c1,a2,n2,c2,a3,n3,c3,G,rows,rfl,hD,hS⟩:=hv
  refine⟨_,_,_,_,_,_,_,_,_,_,rfl,fun hNr=>fun b10=>⟨fun _=>rfl,fun hr3=> ?_⟩⟩
  have hSl:=(hS.sl RRec.mono (by omega) hNr).len
  rw[if_pos hd0] at hSl
  refine⟨fun m vs H'=>∃k:Nat,vs=[.bool false,i64 k,wldArg z qz]/\m=qz.nl-k/\k<=qz.nl/\Ext Hr H'/\∀(i:Nat)(n:Nod),i<k->z.n[i]?=some n->(dskRecs n.d).length<=160,qz.nl,⟨0,rfl,by omega,by omega,Ext.refl _,fun i n hi=>by omega⟩,?_⟩
  intro m bb nn m1 a2_ l2_ c2_ a3_ l3_ c3_ a4 l4 c4 n5 a6 l6 c6 n7 n8 b9 aA lA cA nB aC lC cC aD lD cD bE aF lF cF aG lG cG H' hN' hI
  obtain⟨k,hvs,rfl,hk,eH',hrec⟩:=hI
  simp only[List.cons.injEq,Value.slice.injEq,Value.int.injEq,true_and,Value.agg.injEq,Array.mk.injEq,Value.bool.injEq,and_true] at hvs
  obtain⟨rfl,rfl,rfl,⟨rfl,rfl,rfl⟩,⟨rfl,rfl,rfl⟩,⟨rfl,rfl,rfl⟩,rfl,⟨rfl,rfl,rfl⟩,rfl,rfl,rfl,⟨rfl,rfl,rfl⟩,rfl,⟨rfl,rfl,rfl⟩,⟨rfl,rfl,rfl⟩,rfl,⟨rfl,rfl,rfl⟩,rfl,rfl,rfl⟩:=hvs
  have hwy':=(hwy.ext er).ext eH'
  refine⟨fun hlt=> ?_,fun hge=> ?_⟩
  ·obtain⟨bw,ow,rw1,x1,haw,hx1,⟨q1,rfl,hq1⟩,hcw⟩:=hwy'.nod.get (k:=(k:Int)) (by omega) hlt
   rw[Int.toNat_natCast] at hx1
   refine⟨bw,ow,haw,by omega,hlt,_,_,_,_,_,_,_,_,_,_,_,_,_,_,_,_,_,_,⟨hcw 0 _ rfl,hcw 1 _ rfl,hcw 2 _ rfl,hcw 3 _ rfl,hcw 4 _ rfl,hcw 5 _ rfl,hcw 6 _ rfl,hcw 7 _ rfl,hcw 8 _ rfl,hcw 9 _ rfl,trivial⟩,fun b11=> ?_⟩
   refine(cRecover ((hLx.ext er).ext eH') hq1.dsk).mono fun v Hs es hv=> ?_
   obtain⟨a1',n1',c1',a2',n2',c2',a3',n3',c3',G',rows',rfl,hD',hS'⟩:=hv
   refine⟨_,_,_,_,_,_,_,_,_,_,rfl,fun hNs=>fun b12=>⟨fun _=>rfl,fun hr4=>fun r hr=>⟨rfl,qz.nl-(k+1),by omega,k+1,by rw[hr,wrap_in (by omega) (by omega)];rfl,rfl,by omega,Ext.trans eH' es,fun i n hi hn=> ?_⟩⟩⟩
   have hSl':=(hS'.sl RRec.mono (by omega) hNs).len
   rw[if_pos (hlv.node hx1).1.err.1] at hSl'
   by_cases e:i=k
   ·subst e
    rw[hx1] at hn
    obtain rfl:=Option.some.inj hn
    omega
   ·exact hrec i n (by omega) hn
  ·have hAll:=hFinY (roomy_of (by omega) (by omega) (by simpa using hφ3) (by omega) fun n hn=>by
    obtain⟨i,hi⟩:=List.getElem?_of_mem hn
    have:=(List.getElem?_eq_some_iff.1 hi).1
    exact hrec i n (by omega) hi)
   refine⟨True,⟨fun _=>⟨rfl,fun Hl hNl hbx=> ?_⟩,fun hg=>absurd hAll.1 hg⟩,true_bool⟩
   refine(cAnyb (p:=b4) (now:=z.h.l.now) (by unfold Heap.cell;rw[hbx.1];rfl) (hwy'.ext hNl.ext).nod).mono fun v Ht et hv=>⟨_,hv,fun Hu hNu _=>⟨rfl,hNu.ext,⟨fun _=>hAll.2,fun _=>trivial⟩⟩⟩
end Go.Vg
namespace Go.Proofs.YtgaegoefbekndaaGreatDoor
open Go Go.Proofs Go.Vg
theorem noHandle{W:World}(h:laidMetH Tryz.prog Rows.storySaysRow.laid W):laidMet Tryz.prog Rows.storySaysRow.laid W:=by
 rw[MakeChecks.laidMetH_plain _ _ _ (by kernel_rfl)] at h
 exact h
theorem var_heap{P:Program}{W:World}{name:String}{g:Nat}{cs:Array Value}(hg:P.globalNamed name=some g)(h:W.var? P name=some cs):∃t fr,W.heap[g]?=some (.cells cs t fr):=by
 unfold World.var? at h
 rw[hg] at h
 simp only[Option.bind_some] at h
 split at h
 ·rename_i c t fr hc
  obtain rfl:=Option.some.inj h
  exact⟨t,fr,hc⟩
 ·cases h
theorem sentinel_row(u:TypeId)(h: Tryz.prog.typeName? 3 u=some ("*"++ "errors.errorString")):u= 334:=
 typeName_ptr_named (nm:= "errors.errorString") (by kernel_rfl) (by kernel_rfl) (by decide) u h
theorem lb_of_laid{W:World}(hL0:laidMetH Tryz.prog Rows.storySaysRow.laid W)(hsh:W.ShapedOpen Tryz.prog):Lb (heapOf W):=by
 have hL:laidMet Tryz.prog Rows.storySaysRow.laid W:=noHandle hL0
 have h3:=hL.tail.tail
 have h5:=h3.tail.tail
 have h6:=h5.tail
 have hT:=Lib.tabIs_of_head (k:= .u64) (zs:=Lib.pow10Tab) (g:= 5) (t:= 328) (e:= 301) (n:=20) (by kernel_rfl) (by kernel_rfl) Tryz.underlying328 Tryz.underlying301 (by kernel_rfl) (by kernel_rfl) h3
 have hstar: "*"++ "errors.errorString"= "*errors.errorString":=by decide
 obtain⟨ar,sr,hvr,-,-,-⟩:=laid_sentinel (g:= 2) h5 (by kernel_rfl) (by kernel_rfl) Tryz.underlying263 (fun u h=>sentinel_row u (by rw[hstar];exact h)) Tryz.underlying334 Tryz.underlying336 rfl rfl Tryz.underlying9 (by kernel_rfl) (by kernel_rfl)
 obtain⟨aq,sq,hvs,-,-,-⟩:=laid_sentinel (g:= 1) h6 (by kernel_rfl) (by kernel_rfl) Tryz.underlying263 (fun u h=>sentinel_row u (by rw[hstar];exact h)) Tryz.underlying334 Tryz.underlying336 rfl rfl Tryz.underlying9 (by kernel_rfl) (by kernel_rfl)
 obtain⟨m,hm⟩:=Go.Proofs.cell_of_shapedOpen_int (zero:= #[.int .i64 0]) (g:= 0) (t:= 3) hsh (of_decide_eq_true (by kernel_rfl)) (by kernel_rfl) rfl (by kernel_rfl) (by kernel_rfl) Tryz.underlying3
 refine⟨⟨m,(heapOf_cell hm).2⟩,?_,?_,?_⟩
 ·obtain⟨t,fr,h⟩:=var_heap (g:= 1) (by kernel_rfl) hvs
  exact⟨_,_,by unfold Heap.cell heapOf;rw[h];rfl⟩
 ·obtain⟨t,fr,h⟩:=var_heap (g:= 2) (by kernel_rfl) hvr
  exact⟨_,_,by unfold Heap.cell heapOf;rw[h];rfl⟩
 ·obtain⟨t,fr,h⟩:=var_heap (g:= 5) (by kernel_rfl) hT
  refine⟨_,by unfold heapOf;rw[h],by simp,fun j z hj=> ?_⟩
  simp[hj]
theorem laidOutT:laidOutB Tryz.pinned.checked.prog=true:=by kernel_rfl
theorem mapsRowedT:mapsRowed Tryz.pinned.checked.prog=true:=by kernel_rfl
theorem heardT: Tryz.pinned.checked.prog.stopsHeard=true:=by kernel_rfl
theorem keysT: Tryz.pinned.checked.prog.plainKeys=Rows.storySaysRow.plainKeys:=by kernel_rfl
theorem mainT: Tryz.pinned.checked.prog.mainIs=some (Rows.storySaysCard.stood.harness.1,Rows.storySaysCard.stood.harness.2.toList):=by kernel_rfl
noncomputable def laidWorld (os:Os):World:=World.laidAll Tryz.prog os Rows.storySaysRow.laid
theorem laid_os(os:Os):(laidWorld os).os=os:=World.laidAll_os _ _ _
theorem laid_met(os:Os)(args:Array Value):laidMetH Tryz.prog Rows.storySaysRow.laid ((laidWorld os).forCall (fun _ _=>0) ⟨#[],args,[]⟩).memory:=by
 rw[MakeChecks.laidMetH_plain _ _ _ (by kernel_rfl)]
 exact laidMet_laidAll _ (by kernel_rfl) (by kernel_rfl)
end Go.Proofs.YtgaegoefbekndaaGreatDoor
