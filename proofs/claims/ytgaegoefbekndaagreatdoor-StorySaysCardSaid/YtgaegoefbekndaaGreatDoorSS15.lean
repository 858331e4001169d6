/- What is proved here: a part of the proof of laws of this seat: what a contract is, how it comes of a condition, contracts of the functions that are reached, the plain laws. -/
import Derived.Test.YtgaegoefbekndaaGreatDoorSS14
import Derived.Test.YtgaegoefbekndaaGreatDoorCards
import Derived.Test.YtgaegoefbekndaaGreatDoorTie
import Derived.Deep.DeepHandedRow
import Derived.JoinedCond
import Derived.Lay
import Derived.MakeChecks
import Derived.SevenTiedAt
import Derived.Stop.LaidErr
set_option linter.unusedSimpArgs false
set_option linter.unusedVariables false
set_option maxRecDepth 100000
namespace Go.Vg
open Go Go.Proofs
theorem Sl.nodeD{H H':Heap}{a:O}{n:Nat}{xs:List Nod}(h:Nods H a n xs)(e:Ext H H'){k:Int}(h0:0<=k)(h1:k<n){F:O->Nat->Nat->O->Nat->Nat->Prop}
  (hF:∀x q,xs[k.toNat]?=some x->NodAt H x q->F q.ua q.ul q.uc q.va q.vl q.vc):
  ∃(b o:Nat),a=some ⟨b,o,none⟩/\0<=k/\k<n/\∃(a2:O)(n7 c2:Nat)(a3:O)(n8 c3:Nat),
   (H'.cell b (o+k.toNat*10+7)=some (.slice a2 n7 c2)/\H'.cell b (o+k.toNat*10+7+1)=some (.slice a3 n8 c3)/\True)/\F a2 n7 c2 a3 n8 c3:=by
 obtain⟨b,o,r,x,ha,hx,hr,hc⟩:=h.get h0 h1
 obtain⟨q,rfl,hq⟩:=hr
 have g:∀j v,(nodCells x q)[j]?=some v->H'.cell b (o+k.toNat*10+j)=some v:=fun j v hj=>Heap.cell_next e (hc j v hj)
 exact⟨b,o,ha,h0,h1,_,_,_,_,_,_,⟨g 7 _ rfl,g 8 _ rfl,trivial⟩,hF x q hx hq⟩
def stoL(w:Wld):Except Int Ldr:=if wldErr w≠0 then .error (wldErr w) else ledReplay w.c (dskRecs w.h.d)
def stoA(w:Wld)(k:Int):Except Int Agt:=if wldErr w≠0 then .error (wldErr w) else if k<0 then .error 5 else match w.n[k.toNat]? with
 |none=> .error 5
 |some n=>agtReplay w.c.first (dskRecs n.d)
theorem lgErr_zero{d:Dsk}{up:Bool}(h:lgErr d up=0):dskErr d=0:=by
 unfold lgErr at h
 split at h
 ·omega
 ·omega
theorem nodsErr_mem{f:Rls} :∀ {ns:List Nod} {k:Nat} {n:Nod},nodsErr f ns=0->ns[k]?=some n->nodErr f n=0
 | [],_,_,_,h=>by simp at h
 |x::q,k,n,h0,h=>by
  unfold nodsErr at h0
  split at h0
  ·omega
  ·cases k with
   |zero=>simp at h;subst h;omega
   |succ k=>exact nodsErr_mem h0 (by simpa using h)
theorem wldErr_disks{w:Wld}(h:wldErr w=0):dskErr w.h.d=0/\∀(k:Nat)(n:Nod),w.n[k]?=some n->dskErr n.d=0:=by
 have key:hedErr w.c w.h=0/\nodsErr w.c.first w.n=0:=by
  unfold wldErr at h
  split at h
  ·omega
  ·split at h
   ·omega
   ·split at h
    ·omega
    ·split at h
     ·omega
     ·split at h
      ·omega
      ·exact⟨by omega,h⟩
 refine⟨?_,fun k n hn=> ?_⟩
 ·have:=key.1
  unfold hedErr at this
  rw[logOf_lg] at this
  by_cases hz:lgErr w.h.d w.h.up=0
  ·exact lgErr_zero hz
  ·rw[if_pos hz] at this;exact absurd this hz
 ·have:=nodsErr_mem key.2 hn
  unfold nodErr at this
  rw[logOf_lg] at this
  by_cases hz:lgErr n.d n.up=0
  ·exact lgErr_zero hz
  ·rw[if_pos hz] at this;exact absurd this hz
section
variable {H : Heap} (hL : Lb H)
include hL
theorem cStoryLeader{w:Wld}{p:WA}(hw:WldAt H w p):Spec Tryz.prog 17 [wldArg w p] H fun v H'=>∃la ll lc ka kl kc,v= .tuple #[ldrArg (okLd (stoL w)) la ll lc ka kl kc,i64 (errOf (stoL w))]/\LdrAt H' (okLd (stoL w)) la ll ka kl:=by
 refine TryzvcJ Tryz.func17 (by kernel_rfl) (by kernel_rfl) _ rfl (fun base K=>vx17 w.c.first.id w.c.bud p.fa p.ra p.wa p.fl p.fc p.rl p.rc p.wl p.wc w.h.l.now w.h.l.goal w.h.l.nx w.h.l.back p.la p.ka p.ll p.lc p.kl p.kc p.sa p.ta p.sl p.sc p.tl p.tc w.h.up p.na p.ma p.nl p.nc p.ml p.mc base H K) fun base hb=>fun b b'=> ?_
 refine(cCheck hL hw).int1 fun H1 e1 hN1=>⟨fun h=> ?_,fun h=> ?_⟩
 ·have e:stoL w= .error (wldErr w):=by unfold stoL;rw[if_pos h]
  rw[e]
  exact⟨none,0,0,none,0,0,rfl,⟨Sl.nil,Sl.nil⟩⟩
 have h:=Decidable.not_not.1 h
 have e:stoL w=ledReplay w.c (dskRecs w.h.d):=by unfold stoL;rw[if_neg (by omega)]
 rw[e]
 refine(cRecover (hL.ext e1) (hw.dsk.ext e1)).mono fun v H2 e2 hv=> ?_
 obtain⟨a1,n1,c1,a2,n2,c2,a3,n3,c3,G,rows,hv,hD,hS⟩:=hv
 refine⟨_,_,_,_,_,_,_,_,_,_,hv,fun hN2=>fun b2=> ?_⟩
 have hR:=hS.sl RRec.mono (by omega) hN2
 rw[if_pos (wldErr_disks h).1] at hR
 refine(cReplayL (hw.cfg.ext (Ext.trans e1 e2)) hR).ldr fun la ll lc ka kl kc H3 e3 hN3 hLd=> ?_
 exact⟨la,ll,lc,ka,kl,kc,rfl,hLd⟩
theorem cStoryAgent{w:Wld}{p:WA}(hw:WldAt H w p)(k:Int):Spec Tryz.prog 18 [wldArg w p,.int .i64 k] H fun v H'=>∃a n c ga gn gc,v= .tuple #[agtArg (okA (stoA w k)) a n c ga gn gc,i64 (errOf (stoA w k))]/\Pins H' a n (okA (stoA w k)).lock/\Pins H' ga gn (okA (stoA w k)).goal.lock:=by
 refine TryzvcJ Tryz.func18 (by kernel_rfl) (by kernel_rfl) _ rfl (fun base K=>vx18 w.c.first.id w.c.bud p.fa p.ra p.wa p.fl p.fc p.rl p.rc p.wl p.wc w.h.l.now w.h.l.goal w.h.l.nx w.h.l.back p.la p.ka p.ll p.lc p.kl p.kc p.sa p.ta p.sl p.sc p.tl p.tc w.h.up p.na p.ma p.nl p.nc p.ml p.mc k base H K) fun base hb=>fun b b'=> ?_
 have hnl:=hw.nod.len
 refine(cCheck hL hw).int1 fun H1 e1 hN1=>⟨fun h=> ?_,fun h=> ?_⟩
 ·have e:stoA w k= .error (wldErr w):=by unfold stoA;rw[if_pos h]
  rw[e]
  exact⟨none,0,0,none,0,0,rfl,Sl.nil,Sl.nil⟩
 have h:=Decidable.not_not.1 h
 refine⟨k<0∨(p.nl:Int)<=k,⟨fun h0=>⟨rfl,subH,.inl h0⟩,fun h0=>⟨rfl,subH,⟨fun h=>h.resolve_left h0,fun h=> .inr h⟩⟩⟩,fun h2=> ?_,fun h2=> ?_⟩
 ·have e:stoA w k= .error 5:=by
   unfold stoA
   rw[if_neg (by omega)]
   by_cases h0:k<0
   ·rw[if_pos h0]
   ·rw[if_neg h0,List.getElem?_eq_none (by omega)]
  rw[e]
  exact⟨none,0,0,none,0,0,rfl,Sl.nil,Sl.nil⟩
 ·refine hw.nod.nodeD e1 (by omega) (by omega) fun x q hx hq=> ?_
  have e:stoA w k=agtReplay w.c.first (dskRecs x.d):=by
   unfold stoA
   rw[if_neg (by omega),if_neg (by omega),hx]
  rw[e]
  refine(cRecover (hL.ext e1) (hq.dsk.ext e1)).mono fun v H2 e2 hv=> ?_
  obtain⟨a1,n1,c1,a2,n2,c2,a3,n3,c3,G,rows,hv,hD,hS⟩:=hv
  refine⟨_,_,_,_,_,_,_,_,_,_,hv,fun hN2=>fun b2=> ?_⟩
  have hR:=hS.sl RRec.mono (by omega) hN2
  rw[if_pos ((wldErr_disks h).2 _ x hx)] at hR
  refine(cReplay (hw.cfg.pins.ext' (Ext.trans e1 e2)) hR).agt fun ya yl yc za zl zc H3 e3 hN3 hA hB=> ?_
  exact⟨ya,yl,yc,za,zl,zc,rfl,hA,hB⟩
end
open Go Go.Proofs
theorem fresh_right{c:Conf}(h:cfgErr c=0):WRight (freshWld c):=by
 have hw:=(waveCheck_zero (cfgErr_zero h).2.2.2.2.2.2)
 obtain⟨e1,e2,e3,e4⟩:=DOk.nil.err
 have hlog:∀up,logOf dsk0 up= .ok []:=fun up=>logOf_zero.2 ⟨e1,fun _=>e4,by rw[e2];cases up<;>rfl⟩
 refine⟨h,?_,rfl,fun m hm=>(by cases hm),hedErr_zero.1 ?_,fun n hn=>nodErr_zero.1 ?_⟩
 ·show((List.replicate (agentsOf c.waves).toNat (freshNod c.first)).length:Int)=agentsOf c.waves
  rw[List.length_replicate];omega
 ·show hedErr c ⟨newLdr c,dsk0,true⟩=0
  unfold hedErr
  rw[hlog]
  have:ledReplay c []= .ok (newLdr c):=by unfold ledReplay;rw[if_neg (by omega),if_neg (by simp)];rfl
  dsimp only
  rw[this]
  dsimp only
  rw[if_pos rfl]
 ·obtain rfl:=List.eq_of_mem_replicate hn
  show nodErr c.first ⟨newAgt c.first,dsk0,true⟩=0
  unfold nodErr
  rw[hlog]
  have hr:=(cfgErr_zero h).1
  have:agtReplay c.first []= .ok (newAgt c.first):=by unfold agtReplay;rw[if_neg (by omega),if_neg (by simp)];rfl
  dsimp only
  rw[this]
  dsimp only
  rw[if_pos rfl]
def toldS:Skl:=(sRunFrom (freshSkl cS) tellS).1
theorem tell_said:(sRunFrom (freshSkl cS) tellS).2=[0,0,0,0,0,0,0]:=by decide+kernel
theorem tell_led:(match ledReplay cS toldS.rs with| .ok l=>decide (l.goal=2)&&decide ((l.ags[1]?.map Kn.st)=some 1)| .error _=>false)=true:=by decide+kernel
theorem tell_agt:(match toldS.n[1]? with|none=>false|some n=>match agtReplay cS.first n.rs with| .ok a=>a.going&&decide (a.try_=1)&&decide (find a.lock 1=2)&&decide (find a.lock 2=0)| .error _=>false)=true:=by decide+kernel
theorem cS_ok:cfgErr cS=0:=by decide+kernel
theorem told_rel:SRel 7 (wRunFrom (freshWld cS) tellS).1 toldS/\(wRunFrom (freshWld cS) tellS).2=[0,0,0,0,0,0,0]:=by
 obtain⟨h1,h2⟩:=SRel.run (l:=tellS) (fresh_rel cS) (by decide)
 exact⟨h1,h2.trans tell_said⟩
theorem told_run:runErr (freshWld cS) tellS=0:=by
 unfold runErr
 rw[if_neg (by rw[wldErr_zero.2 (fresh_right cS_ok)];simp),if_neg (by decide)]
theorem sto_of{b:Nat}{w:Wld}{s:Skl}(h:SRel b w s)(hw:WRight w):stoL w=ledReplay s.c s.rs:=by
 unfold stoL
 rw[if_neg (by rw[wldErr_zero.2 hw];simp),h.d.err.2.1,h.c]
theorem stoA_of{b:Nat}{w:Wld}{s:Skl}(h:SRel b w s)(hw:WRight w){k:Nat}{q:SNod}(hq:s.n[k]?=some q):stoA w k=agtReplay s.c.first q.rs:=by
 obtain⟨n,hn⟩:∃n,w.n[k]?=some n:=⟨_,List.getElem?_eq_getElem (by rw[h.n];exact(List.getElem?_eq_some_iff.1 hq).1)⟩
 unfold stoA
 rw[if_neg (by rw[wldErr_zero.2 hw];simp),if_neg (by omega),Int.toNat_natCast,hn]
 dsimp only
 rw[(h.at_ k n q hn hq).d.err.2.1,h.c]
theorem told_c:toldS.c=cS:=by kernel_rfl
theorem told_led:∃l,stoL (wRunFrom (freshWld cS) tellS).1= .ok l/\l.goal=2/\∃a,l.ags[1]?=some a/\a.st=1:=by
 have hw:=(fresh_right cS_ok).run (l:=tellS)
 have h:=tell_led
 rw[sto_of told_rel.1 hw,told_c]
 cases hl:ledReplay cS toldS.rs with
 |error e=>rw[hl] at h;cases h
 |ok l=>
  rw[hl] at h
  simp only[Bool.and_eq_true,decide_eq_true_eq] at h
  refine⟨l,rfl,h.1,?_⟩
  cases ha:l.ags[1]? with
  |none=>rw[ha] at h;cases h.2
  |some a=>rw[ha] at h;exact⟨a,rfl,by simpa using h.2⟩
theorem told_agt:∃a,stoA (wRunFrom (freshWld cS) tellS).1 1= .ok a/\a.going=true/\a.try_=1/\find a.lock 1=2/\find a.lock 2=0:=by
 have hw:=(fresh_right cS_ok).run (l:=tellS)
 have h:=tell_agt
 cases hn:toldS.n[1]? with
 |none=>rw[hn] at h;cases h
 |some n=>
  rw[hn] at h
  dsimp only at h
  have hs:=stoA_of told_rel.1 hw hn
  rw[told_c] at hs
  have hs:stoA (wRunFrom (freshWld cS) tellS).1 1=agtReplay cS.first n.rs:=hs
  rw[hs]
  cases hl:agtReplay cS.first n.rs with
  |error e=>rw[hl] at h;cases h
  |ok a=>
   rw[hl] at h
   simp only[Bool.and_eq_true,decide_eq_true_eq] at h
   exact⟨a,rfl,h.1.1.1,h.1.1.2,h.1.2,h.2⟩
open Go Go.Proofs
theorem cTold{H:Heap}(hL:Lb H):Spec Tryz.prog 20 [] H fun v _=>v= .bool true:=by
 refine TryzvcK Tryz.func20 (by kernel_rfl) (by kernel_rfl) _ rfl (fun base K=>vk20 base H K) fun base hb=> ?_
 refine cSmall.mono fun v H1 e1 hv=> ?_
 obtain⟨a,n,c,a1,n1,c1,a2,n2,c2,rfl,hC⟩:=hv
 refine⟨_,_,_,_,_,_,_,_,_,_,_,rfl,fun hN1=> ?_⟩
 have hNW:=cNewW (fc:=c) (rc:=c1) (wc:=c2) hC
 rw[cS_ok,show newW cS=freshWld cS from by unfold newW;rw[if_pos cS_ok]] at hNW
 refine hNW.mono fun v H2 e2 hv=> ?_
 obtain⟨p,rfl,hW⟩:=hv
 refine⟨_,_,_,_,_,_,_,_,_,_,_,_,_,_,_,_,_,_,_,_,_,_,_,_,_,_,_,_,_,_,_,_,_,_,_,rfl,fun hN2=>fun b2=> ?_⟩
 refine cSecond.mono fun v H3 e3 hv=> ?_
 obtain⟨sa,sn,sc,rfl,hS⟩:=hv
 refine⟨_,_,_,_,rfl,fun hN3=>fun g H4 hN4 hgn hg=> ?_⟩
 have e4:=hN4.ext
 have hL4:Lb H4:=(((hL.ext e1).ext e2).ext e3).ext e4
 have hH:Haps H4 (some ⟨g,0,none⟩) 7 tellS:=sl_of_rows (rs:=[hapCells ⟨1,0,0,false,s2.lock⟩ sa sn sc,hapCells ⟨2,0,2,false,[]⟩ none 0 0,hapCells ⟨3,1,0,false,[]⟩ none 0 0,hapCells ⟨9,0,0,false,[]⟩ none 0 0,hapCells ⟨7,1,0,false,[]⟩ none 0 0,hapCells ⟨12,1,0,false,[]⟩ none 0 0,hapCells ⟨12,-1,0,false,[]⟩ none 0 0]) hg (by simp) ⟨⟨_,_,_,rfl,hS.ext' e4⟩,⟨_,_,_,rfl,Sl.nil⟩,⟨_,_,_,rfl,Sl.nil⟩,⟨_,_,_,rfl,Sl.nil⟩,⟨_,_,_,rfl,Sl.nil⟩,⟨_,_,_,rfl,Sl.nil⟩,⟨_,_,_,rfl,Sl.nil⟩,trivial⟩ rfl (by decide)
 have hRun:=cRun (c:=7) hL4 ((hW.ext e3).ext e4) hH
 rw[told_run,show ranW (freshWld cS) tellS=(wRunFrom (freshWld cS) tellS).1 from by unfold ranW;rw[if_pos told_run],show ranS (freshWld cS) tellS=[0,0,0,0,0,0,0] from by unfold ranS;rw[if_pos told_run];exact told_rel.2] at hRun
 obtain⟨l,hl,hl1,kn,hl2,hl3⟩:=told_led
 obtain⟨ag,hag,ha1,ha2,ha3,ha4⟩:=told_agt
 generalize (wRunFrom (freshWld cS) tellS).1=w at*
 refine hRun.mono fun v H5 e5 hv=> ?_
 obtain⟨p2,ra,rn,rc,rfl,hW2,hRS,_⟩:=hv
 refine⟨_,_,_,_,_,_,_,_,_,_,_,_,_,_,_,_,_,_,_,_,_,_,_,_,_,_,_,_,_,_,_,_,_,_,_,_,_,_,rfl,fun hN5=> ?_⟩
 have hSL:=cStoryLeader (hL4.ext e5) hW2
 rw[hl] at hSL
 refine hSL.ldr fun la ll lc ka kl kc H6 e6 hN6 hA=>fun b5=> ?_
 have hSA:=cStoryAgent ((hL4.ext e5).ext e6) (hW2.ext e6) 1
 rw[hag] at hSA
 refine hSA.agt fun xa xl xc ga gl gc H7 e7 hN7 hp hq=>fun b8=>⟨True,⟨fun _=>⟨fun _=>⟨fun _=>⟨fun _=> ?_,fun h=>absurd rfl h⟩,fun h=>absurd rfl h⟩,fun h=>absurd rfl h⟩,fun h=>absurd rfl h⟩,?_⟩
 ·refine(cAnyNon (c:=rc) ((Sl.ext RInt.mono hRS e6).ext RInt.mono e7)).bool1 fun H8 e8 hN8=>⟨fun _=>⟨fun _=> ?_,fun h=>absurd hl1 h⟩,fun h=>absurd rfl h⟩
  have hkl:l.ags.length=kl:=hA.ags.len
  have h1k:1<l.ags.length:=(List.getElem?_eq_some_iff.1 hl2).1
  have hA8:Kns H8 ka kl l.ags:=((hA.ags.ext' e7).ext' e8)
  obtain⟨b3,o,r,x,ha,hx,hr,hcell⟩:=hA8.get (k:=1) (by omega) (by omega)
  have hxk:x=kn:=by
   have hx:l.ags[1]?=some x:=hx
   rw[hl2] at hx;exact(Option.some.inj hx).symm
  subst hxk
  obtain rfl:=hr
  refine⟨b3,o,ha,by decide,by omega,_,hcell 0 _ rfl,fun _=>⟨fun _=>⟨fun _=> ?_,fun h=>absurd ha2 h⟩,fun h=> ?_⟩,fun h=>absurd hl3 h⟩
  ·refine(cFind (c:=xc) (hp.ext' e8) 1).int1 fun H9 e9 hN9=>⟨fun _=> ?_,fun h=>absurd ha3 h⟩
   refine(cFind (c:=xc) ((hp.ext' e8).ext' e9) 2).int1 fun H10 e10 hN10=>⟨rfl,fun b k hb=>e10 b k (e9 b k (e8 b k hb)),⟨fun _=>ha4,fun _=>trivial⟩⟩
  ·rw[show(okA (Except.ok (ε:=Int) ag)).going=ag.going from rfl,ha1] at h;cases h
 ·show Value.bool _=Value.bool _
  simp
open Go Go.Proofs
theorem true_bool:Value.bool (@decide True (Classical.propDecidable True))= .bool true:=by simp
open Go Go.Proofs
theorem cStorySays{H:Heap}(hL:Lb H){w:Wld}{p:WA}(hw:WldAt H w p)(k:Int):Spec Tryz.prog 3 [wldArg w p,.int .i64 k] H fun v _=>v= .bool true:=by
 refine TryzvcK Tryz.func3 (by kernel_rfl) (by kernel_rfl) _ rfl (fun base K=>vk3 w.c.first.id w.c.bud p.fa p.ra p.wa p.fl p.fc p.rl p.rc p.wl p.wc w.h.l.now w.h.l.goal w.h.l.nx w.h.l.back p.la p.ka p.ll p.lc p.kl p.kc p.sa p.ta p.sl p.sc p.tl p.tc w.h.up p.na p.ma p.nl p.nc p.ml p.mc k base H K) fun base hb=>fun b=> ?_
 refine(cStoryLeader hL hw).ldr fun la ll lc ka kl kc H1 e1 hN1 hA=>fun b2=> ?_
 refine(cStoryAgent (hL.ext e1) (hw.ext e1) k).agt fun xa xl xc ga gl gc H2 e2 hN2 hp hq=>fun b5=> ?_
 have hw2:=(hw.ext e1).ext e2
 refine(cCheckWorld ((hL.ext e1).ext e2) hw2).int1 fun H3 e3 hN3=> ?_
 have hL3:=((hL.ext e1).ext e2).ext e3
 have hw3:=hw2.ext e3
 have hA3:=(hA.ext e2).ext e3
 have hp3:=hp.ext' e3
 have hq3:=hq.ext' e3
 refine⟨¬wldErr w=0,(cTold hL3).bool1 fun H4 e4 hN4=>⟨fun h=>(by cases h),fun _=>⟨rfl,e4,Iff.rfl⟩⟩,fun hφ=> ?_,fun hφ=> ?_⟩
 ·have h1:stoL w= .error (wldErr w):=by unfold stoL;rw[if_pos hφ]
  have h2:stoA w k= .error (wldErr w):=by unfold stoA;rw[if_pos hφ]
  rw[h1] at hA3
  rw[h2] at hp3 hq3
  rw[h1,h2]
  refine⟨True,(cTold hL3).bool1 fun H4 e4 hN4=>⟨fun _=>⟨fun _=>⟨fun _=> ?_,fun h=>absurd rfl h⟩,fun h=>absurd rfl h⟩,fun h=>(by cases h)⟩,true_bool⟩
  refine(cRefLdrSame (lc:=lc) (kc:=kc) (lc':=0) (kc':=0) (hA3.ext e4) (y:=noLdr) (la':=none) (ll':=0) (ka':=none) (kl':=0) ⟨Sl.nil,Sl.nil⟩).bool1 fun H5 e5 hN5=>⟨fun _=> ?_,fun h=> ?_⟩
  ·refine(cRefAgtSame (c:=xc) (gc:=gc) (c':=0) (gc':=0) ((hp3.ext' e4).ext' e5) ((hq3.ext' e4).ext' e5) (y:=noAgt) (a':=none) (l':=0) (ga':=none) (gl':=0) Sl.nil Sl.nil).bool1 fun H6 e6 hN6=>⟨rfl,fun b k hb=>e6 b k (e5 b k (e4 b k hb)),⟨fun _=>decide_eq_true rfl,fun _=>trivial⟩⟩
  ·exact absurd h (by simp[okLd])
 ·have h0:=Decidable.not_not.1 hφ
  have hR:=wldErr_zero.1 h0
  have h1:stoL w=ledReplay w.c (dskRecs w.h.d):=by unfold stoL;rw[if_neg hφ]
  rw[h1] at hA3
  rw[h1]
  refine(cRecovered hL3 hw3.dsk hR.head.disk).mono fun v H4 e4 hv=> ?_
  obtain⟨a1,n1,c1,a2,n2,c2,a3,n3,c3,rfl,hD,hn3,hRs⟩:=hv
  refine⟨_,_,_,_,_,_,_,_,_,rfl,fun hN4=>fun b6=> ?_⟩
  have hw4:=hw3.ext e4
  refine(cRefReplayL (k:=c3) hw4.cfg hRs).ldr fun la' ll' lc' ka' kl' kc' H5 e5 hN5 hA'=>fun b8=> ?_
  have hw5:=hw4.ext e5
  refine⟨False,⟨fun h=>absurd rfl h,fun _=>(cRefLdrSame (lc:=lc) (kc:=kc) (lc':=lc') (kc':=kc') ((hA3.ext e4).ext e5) hA').bool1 fun H6 e6 hN6=>⟨rfl,e6,by simp⟩⟩,fun h=>h.elim,fun _=> ?_⟩
  have hnl:=hw.nod.len
  refine⟨k<0∨(p.nl:Int)<=k,⟨fun h=>⟨rfl,subH,.inl h⟩,fun h=>⟨rfl,subH,⟨fun hh=>hh.resolve_left h,.inr⟩⟩⟩,fun hk=> ?_,fun hk=> ?_⟩
  ·have h2:stoA w k= .error 5:=by
    unfold stoA
    rw[if_neg hφ]
    by_cases hneg:k<0
    ·rw[if_pos hneg]
    ·rw[if_neg hneg,List.getElem?_eq_none (by omega)]
   rw[h2] at hp3 hq3
   rw[h2]
   refine⟨True,⟨fun _=> ?_,fun h=>absurd rfl h⟩,true_bool⟩
   refine(cRefAgtSame (c:=xc) (gc:=gc) (c':=0) (gc':=0) ((hp3.ext' e4).ext' e5) ((hq3.ext' e4).ext' e5) (y:=noAgt) (a':=none) (l':=0) (ga':=none) (gl':=0) Sl.nil Sl.nil).bool1 fun H6 e6 hN6=>⟨rfl,e6,⟨fun _=>decide_eq_true rfl,fun _=>trivial⟩⟩
  ·have hk0:0<=k:=by omega
   have hk1:k<(p.nl:Int):=by omega
   obtain⟨b9,o,r,x,ha,hx,⟨q,rfl,hq9⟩,hcell⟩:=hw5.nod.get hk0 hk1
   have h2:stoA w k=agtReplay w.c.first (dskRecs x.d):=by
    unfold stoA
    rw[if_neg hφ,if_neg (by omega),hx]
   rw[h2] at hp3 hq3
   rw[h2]
   refine⟨b9,o,ha,hk0,hk1,_,_,_,_,_,_,⟨hcell 7 _ rfl,hcell 8 _ rfl,trivial⟩,?_⟩
   refine(cRecovered ((hL3.ext e4).ext e5) hq9.dsk (hR.node x (List.mem_of_getElem? hx)).disk).mono fun v H6 e6 hv=> ?_
   obtain⟨a1,n1,c1,a2,n2,c2,a3',n3',c3',rfl,hD',hn3',hRs'⟩:=hv
   refine⟨_,_,_,_,_,_,_,_,_,rfl,fun hN6=> ?_⟩
   refine(cRefReplay (c:=p.fc) (c':=c3') (hw5.cfg.pins.ext' e6) hRs').agt fun ya yl yc za zl zc H7 e7 hN7 hp' hq'=>fun b12=>⟨True,⟨fun _=> ?_,fun h=>absurd rfl h⟩,true_bool⟩
   refine(cRefAgtSame (c:=xc) (gc:=gc) (c':=yc) (gc':=zc) ((((hp3.ext' e4).ext' e5).ext' e6).ext' e7) ((((hq3.ext' e4).ext' e5).ext' e6).ext' e7) hp' hq').bool1 fun H8 e8 hN8=>⟨rfl,e8,⟨fun _=>decide_eq_true rfl,fun _=>trivial⟩⟩
end Go.Vg
namespace Go.Proofs.YtgaegoefbekndaaGreatDoor
open Go Go.Proofs Go.Vg
theorem noHandle{W:World}(h:laidMetH Tryz.prog Rows.storySaysRow.laid W):laidMet Tryz.prog Rows.storySaysRow.laid W:=by
 rw[MakeChecks.laidMetH_plain _ _ _ (by kernel_rfl)] at h
 exact h
theorem var_heap{P:Program}{W:World}{name:String}{g:Nat}{cs:Array Value}(hg:P.globalNamed name=some g)(h:W.var? P name=some cs):∃t fr,W.heap[g]?=some (.cells cs t fr):=by
 unfold World.var? at h
 rw[hg] at h
 simp only[Option.bind_some] at h
 split at h
 ·rename_i c t fr hc
  obtain rfl:=Option.some.inj h
  exact⟨t,fr,hc⟩
 ·cases h
theorem sentinel_row(u:TypeId)(h: Tryz.prog.typeName? 3 u=some ("*"++ "errors.errorString")):u= 334:=
 typeName_ptr_named (nm:= "errors.errorString") (by kernel_rfl) (by kernel_rfl) (by decide) u h
theorem lb_of_laid{W:World}(hL0:laidMetH Tryz.prog Rows.storySaysRow.laid W)(hsh:W.ShapedOpen Tryz.prog):Lb (heapOf W):=by
 have hL:laidMet Tryz.prog Rows.storySaysRow.laid W:=noHandle hL0
 have h3:=hL.tail.tail
 have h5:=h3.tail.tail
 have h6:=h5.tail
 have hT:=Lib.tabIs_of_head (k:= .u64) (zs:=Lib.pow10Tab) (g:= 5) (t:= 328) (e:= 301) (n:=20) (by kernel_rfl) (by kernel_rfl) Tryz.underlying328 Tryz.underlying301 (by kernel_rfl) (by kernel_rfl) h3
 have hstar: "*"++ "errors.errorString"= "*errors.errorString":=by decide
 obtain⟨ar,sr,hvr,-,-,-⟩:=laid_sentinel (g:= 2) h5 (by kernel_rfl) (by kernel_rfl) Tryz.underlying263 (fun u h=>sentinel_row u (by rw[hstar];exact h)) Tryz.underlying334 Tryz.underlying336 rfl rfl Tryz.underlying9 (by kernel_rfl) (by kernel_rfl)
 obtain⟨aq,sq,hvs,-,-,-⟩:=laid_sentinel (g:= 1) h6 (by kernel_rfl) (by kernel_rfl) Tryz.underlying263 (fun u h=>sentinel_row u (by rw[hstar];exact h)) Tryz.underlying334 Tryz.underlying336 rfl rfl Tryz.underlying9 (by kernel_rfl) (by kernel_rfl)
 obtain⟨m,hm⟩:=Go.Proofs.cell_of_shapedOpen_int (zero:= #[.int .i64 0]) (g:= 0) (t:= 3) hsh (of_decide_eq_true (by kernel_rfl)) (by kernel_rfl) rfl (by kernel_rfl) (by kernel_rfl) Tryz.underlying3
 refine⟨⟨m,(heapOf_cell hm).2⟩,?_,?_,?_⟩
 ·obtain⟨t,fr,h⟩:=var_heap (g:= 1) (by kernel_rfl) hvs
  exact⟨_,_,by unfold Heap.cell heapOf;rw[h];rfl⟩
 ·obtain⟨t,fr,h⟩:=var_heap (g:= 2) (by kernel_rfl) hvr
  exact⟨_,_,by unfold Heap.cell heapOf;rw[h];rfl⟩
 ·obtain⟨t,fr,h⟩:=var_heap (g:= 5) (by kernel_rfl) hT
  refine⟨_,by unfold heapOf;rw[h],by simp,fun j z hj=> ?_⟩
  simp[hj]
theorem laidOutT:laidOutB Tryz.pinned.checked.prog=true:=by kernel_rfl
theorem mapsRowedT:mapsRowed Tryz.pinned.checked.prog=true:=by kernel_rfl
theorem heardT: Tryz.pinned.checked.prog.stopsHeard=true:=by kernel_rfl
theorem keysT: Tryz.pinned.checked.prog.plainKeys=Rows.storySaysRow.plainKeys:=by kernel_rfl
theorem mainT: Tryz.pinned.checked.prog.mainIs=some (Rows.storySaysCard.stood.harness.1,Rows.storySaysCard.stood.harness.2.toList):=by kernel_rfl
noncomputable def laidWorld (os:Os):World:=World.laidAll Tryz.prog os Rows.storySaysRow.laid
theorem laid_os(os:Os):(laidWorld os).os=os:=World.laidAll_os _ _ _
theorem laid_met(os:Os)(args:Array Value):laidMetH Tryz.prog Rows.storySaysRow.laid ((laidWorld os).forCall (fun _ _=>0) ⟨#[],args,[]⟩).memory:=by
 rw[MakeChecks.laidMetH_plain _ _ _ (by kernel_rfl)]
 exact laidMet_laidAll _ (by kernel_rfl) (by kernel_rfl)
end Go.Proofs.YtgaegoefbekndaaGreatDoor
