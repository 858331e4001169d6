/- What is proved here: a part of the proof of laws of this seat: what a contract is, how it comes of a condition, contracts of the functions that are reached, the plain laws. -/
import Derived.Test.YtgaegoefbekndaaGreatDoorSE11
import Derived.Test.YtgaegoefbekndaaGreatDoorRows
import Derived.ChangeSame
import Derived.OpenShut
import Derived.ProofKit
import Derived.ChangeArms
import Derived.ChangeOld
import Derived.ChangeSlices
import Derived.ChangeStays
set_option linter.unusedSimpArgs false
set_option linter.unusedVariables false
set_option maxRecDepth 100000
namespace Go.Vg
open Go Go.Proofs
theorem NewSl.sl0{α:Type}{R:Rep α}{sz:Nat}{e:TypeId}{H G H':Heap}{a:O}{n c:Nat}{rows:List (List Value)}{xs:List α}(hR:R.Mono)(h0:0<sz)(h:NewSl R sz e H G H' a n c rows xs):Sl R sz H' a n xs:=
 (⟨h.row.row0,h.wid,h.all,h.sub,h.clear⟩:OwnSl R sz e 0 G H' a n c rows xs).sl hR h0
theorem OwnW.len{base:Nat}{G H:Heap}{w:Wld}{p:WA}{rows:List (List Value)}(h:OwnW base G H w p rows):w.n.length=p.nl/\rows.length=p.nl:=⟨(h.nod.rlen (by omega)).2,(h.nod.rlen (by omega)).1⟩
theorem HapPre.start{base:Nat}{G H:Heap}{w:Wld}{p:WA}{rows:List (List Value)}{x:Hap}{a:O}{l:Nat}(h:HapPre base G H w p rows x a l):OwnPost base G H p w p G rows H:=OwnPost.start h.own
theorem HapPre.sub{base:Nat}{G H:Heap}{w:Wld}{p:WA}{rows:List (List Value)}{x:Hap}{a:O}{l:Nat}(h:HapPre base G H w p rows x a l):Ext G H:=h.own.nod.sub
theorem Spec.recov{P:Program}{f:FuncId}{args:List Value}{G H:Heap}{d:Dsk}(h:Spec P f args G fun v H'=>∃a1 n1 c1 a2 n2 c2 a3 n3 c3 G1 rows,v= .tuple #[dskArg a1 n1 c1 a2 n2 c2,.slice a3 n3 c3,i64 (dskErr d)]/\
  DskAt (newOf G H') (if dskErr d=0 then dskBack d else dsk0) a1 n1 c1 a2 n2 c2/\NewSl RRec 7 126 G G1 H' a3 n3 c3 rows (if dskErr d=0 then dskRecs d else [])) (e:Ext G H) {base:Nat}
  {F:O->Nat->Nat->O->Nat->Nat->O->Nat->Nat->Int->Heap->Prop}
  (hF:∀a1 n1 c1 a2 n2 c2 a3 n3 c3 G' H',Grown G H G' H'->DskAt G' (if dskErr d=0 then dskBack d else dsk0) a1 n1 c1 a2 n2 c2->Recs G' a3 n3 (if dskErr d=0 then dskRecs d else [])->F a1 n1 c1 a2 n2 c2 a3 n3 c3 (dskErr d) H'):
  Spec P f args H fun v H'=>∃(a:O)(n c:Nat)(a1:O)(n1 c1:Nat)(a2:O)(n2 c2:Nat)(n3:Int),v= .tuple #[.agg #[.slice a n c,.slice a1 n1 c1],.slice a2 n2 c2,.int .i64 n3]/\(Vg.Next base H H'->F a n c a1 n1 c1 a2 n2 c2 n3 H'):=
 (h.grown e).mono fun v H' e' hv=>by
  obtain⟨G',g,a1,n1,c1,a2,n2,c2,a3,n3,c3,G1,rows,hv,hD,hR⟩:=hv
  exact⟨_,_,_,_,_,_,_,_,_,_,hv,fun _=>hF _ _ _ _ _ _ _ _ _ G' H' g (hD.ext newOf_ext) (hR.sl0 RRec.mono (by omega))⟩
theorem notB{b:Bool} :decide (b=false)= !b:=by cases b<;>rfl
theorem nDoes_err{n:Nod}{r:Recd}{e:Int}(h:nDoes n r= .error e):e≠0:=by
 unfold nDoes at h
 split at h
 ·rename_i hn;injection h with h;exact h▸hn
 ·cases hd:dskSafe n.d r with
  |error e'=>rw[hd] at h;injection h with h;exact h▸dskSafe_err hd
  |ok d=>rw[hd] at h;cases h
theorem wDoes_err{w:Wld}{k:Nat}{r:Recd}{e:Int}(h:wDoes w k r= .error e):e≠0:=by
 unfold wDoes at h
 split at h
 ·injection h with h;omega
 ·cases hd:nDoes _ r with
  |error e'=>rw[hd] at h;injection h with h;exact h▸nDoes_err hd
  |ok d=>rw[hd] at h;cases h
theorem list_same{α:Type}{l:List α}{k:Nat}{x:α}(h:l[k]?=some x):l.set k x=l:=by
 apply List.ext_getElem?
 intro j
 rw[List.getElem?_set]
 split
 ·rename_i e;subst e
  obtain⟨hk,hx⟩:=List.getElem?_eq_some_iff.1 h
  first|rw[if_pos hk,h]|rw[h]
 ·rfl
theorem OwnPost.does{base:Nat}{G H:Heap}{p:WA}{w:Wld}{p':WA}{G1 H1:Heap}{rows:List (List Value)}(h:OwnPost base G H p w p' G1 rows H1)(hL:Lb G1){k:Nat}{n:Nod}(hn:w.n[k]?=some n){r:Recd}{qa:O}{ql:Nat}(hq:Pins G1 qa ql r.rel.lock):
  ∃(y:Nat)(kb:KB)(q:NA),p'.na=some ⟨y,0,none⟩/\k<p'.nl/\DoesPre base G1 H1 n q r qa ql y (0+k*10) kb/\
   ∀e n' q' kb' G2 H2,DoesPost G1 H1 n q r y (0+k*10) kb e n' q' kb' G2 H2->e=errOf (wDoes w k r)/\(∀p1,wldCells (orSame w (wDoes w k r)) p1=wldCells w p1)/\OwnPost base G H p (orSame w (wDoes w k r)) p' G2 (rows.set k (nodCells n' q')) H2:=by
 obtain⟨y,kb,q,hna,hyb,hnc,hyk,hfree,hkl,hroom,hrow,hnod,hcell⟩:=h.own.node hn
 have hcl:G1 y=none:=h.own.nod.clear hnc y hna
 refine⟨y,kb,q,hna,hkl,⟨hL,h.own.nod.sub,hcl,hnod,hq,hyk,hfree,hyb,by omega,fun j v hj=> ?_⟩,fun e n' q' kb' G2 H2 hp=> ?_⟩
 ·have:=hcell j v hj
  unfold Heap.cell at this
  rw[hyk] at this
  rw[Nat.zero_add];exact this
 ·have hW:orSame w (wDoes w k r)= { w with n:=w.n.set k n' }/\e=errOf (wDoes w k r):=by
   unfold wDoes
   rw[hn]
   dsimp only
   rw[hp.res,hp.err]
   cases hd:nDoes n r with
   |ok x=>exact⟨rfl,rfl⟩
   |error e=>refine⟨?_,rfl⟩;show w= { w with n:=w.n.set k n };rw[list_same hn]
  rw[hW.1]
  refine⟨hW.2,fun _=>rfl,?_⟩
  have hcl2:G2 y=none:=by
   cases hg:G2 y with
   |none=>rfl
   |some z=>have:=hp.away y z hg hcl;rw[hyk] at this;cases this
  have hlen:=h.own.len
  have hrl:=(List.getElem?_eq_some_iff.1 hrow).1
  have hfl:(rows.set k (nodCells n' q')).flatten=setRange rows.flatten (k*10+0) (nodCells n' q'):=by
   rw[rows_setk hrow h.own.nod.wid (off:=0) (by simp),setRange_full (by simp)]
  have hfle:k*10+0+(nodCells n' q').length<=rows.flatten.length:=by
   rw[flat_wid h.own.nod.wid];simp;omega
  have hO:OwnSl RNod 10 58 base G2 H2 p'.na p'.nl p'.nc (rows.set k (nodCells n' q')) (w.n.set k n'):=by
   refine⟨?_,fun x hx=> ?_,(h.own.nod.all.mono RNod.mono hp.ext).set ⟨q',rfl,hp.nod⟩,hp.sub,fun hc x hx=>by rw[hna] at hx;simp at hx;subst hx;exact hcl2⟩
   ·obtain⟨r1,r2,r3,r4⟩:=h.own.nod.row
    refine⟨by rw[hfl,setRange_length];exact r1,r2,r3,.inr ?_⟩
    rcases r4 with⟨_,h5⟩|⟨g,k',hg,hbg,hH,h6,h7,h8,h9⟩
    ·exact absurd h5 hnc
    ·rw[hna] at hg
     simp only[Option.some.injEq,Addr.mk.injEq,and_true] at hg
     subst hg
     rw[hyk] at hH
     obtain rfl:=Option.some.inj hH
     refine⟨y,kb',hna,hbg,hp.at_,hp.ty.trans h6,hp.size.trans h7,hp.free,fun j v hv=> ?_⟩
     rw[hfl,setRange_getElem? _ _ _ _ hfle] at hv
     split at hv
     ·rename_i hj
      have:=hp.cells _ v hv
      rw[show 0+k*10+(j-(k*10+0))=j from by omega] at this
      exact this
     ·rename_i hj
      rw[hp.rest j (by simp at hj;omega)]
      exact h9 j v hv
   ·rcases List.mem_or_eq_of_mem_set hx with hx|rfl
    ·exact h.own.nod.wid x hx
    ·simp
  have hext:Ext G1 G2:=hp.ext
  refine⟨Ext.trans h.ext hp.ext,fun x kx hx hxn=> ?_,⟨⟨(h.own.parts.ext hext).cfg,(h.own.parts.ext hext).ldr,(h.own.parts.ext hext).dsk,(h.own.parts.ext hext).mail,h.own.parts.room⟩,hO⟩,fun x kx hx hxc=> ?_,fun x hx=> ?_,h.same⟩
  ·cases hg:G1 x with
   |some z=>exact h.away x z hg hxn
   |none=>
    have h1:=hp.away x kx hx hg
    cases hh:H x with
    |none=>rfl
    |some z=>exact absurd h1 (h.still x (by rw[hh];simp))
  ·have hne:x≠y:=fun e=>by
    subst e
    rcases hxc with h0|h0
    ·exact hnc (h.same.2.2.trans h0)
    ·exact h0 (h.same.1.symm.trans hna)
   exact hp.keep x kx hne (h.keep x kx hx hxc)
  ·by_cases e:x=y
   ·subst e;rw[hp.at_];simp
   ·have h1:=h.still x hx
    cases hh:H1 x with
    |none=>exact absurd hh h1
    |some z=>rw[hp.keep x z e hh];simp
section
variable {base : Nat} {H0 G H : Heap} {w : Wld} {p : WA} {rows : List (List Value)} {x : Hap} {a : O} {l c b : Nat} {f : SV->List Bx->Heap->Prop}
theorem power_in(h:HapPre base G H w p rows x a l)(hx:x.agent<w.n.length)
  (hf:∀w' p' G' rows' H' own1,OwnPost base G H p w' p' G' rows' H'->w'=orSame w (wPower w x)->f (.v (.int .i64 (errOf (wPower w x)))) (⟨b,false,41,wldCells w' p'⟩::own1) H'):
  codeI ⟨Tryz.prog,Tryz.f178.ntmps,⟨TryzListK,TryzSumS,true⟩,base,H0⟩ Tryz.f178 [.loc 0 0,.v (hapArg x a l c)] [⟨b,false,41,wldCells w p⟩] H f:=by
 rw[vx178]
 have bad:∀ {e:Int},wPower w x= .error e->∀ {G1 H1:Heap},Grown G H G1 H1->∀own1,f (.v (.int .i64 e)) (⟨b,false,41,wldCells w p⟩::own1) H1:=fun{e} he {G1 H1} g own1=>by
  have:=hf w p G1 rows H1 own1 (h.start.grown g) (by rw[he];rfl)
  rw[he] at this;exact this
 have good:∀ {w':Wld},wPower w x= .ok w'->∀ {p':WA} {G1 H1:Heap} {rows1:List (List Value)},OwnPost base G H p w' p' G1 rows1 H1->∀own1,f (.v (.int .i64 0)) (⟨b,false,41,wldCells w' p'⟩::own1) H1:=fun{w'} he {p' G1 H1 rows1} g own1=>by
  have:=hf w' p' G1 rows1 H1 own1 g (by rw[he];rfl)
  rw[he] at this;exact this
 have g0:Grown G H G H:=⟨Ext.refl _,h.sub,Ext.refl _,fun y k h1 h2=>(by rw[h1] at h2;cases h2)⟩
 have hP:=h.own.parts
 refine fun b1=>⟨fun hn=> ?_,fun hn=> ?_⟩
 ·refine⟨_,eqBool,fun hu=> ?_,fun hu=> ?_⟩
  ·have hu:w.h.up=decide (x.kind=13):=by simpa using hu
   exact bad (by unfold wPower;rw[if_pos hn,if_pos hu]) g0 _
  ·have hu:¬w.h.up=decide (x.kind=13):=by simpa using hu
   refine Spec.recov (cRecover h.lb hP.dsk) h.sub fun a1 n1 c1 a2 n2 c2 a3 n3 c3 G1 H1 g1 hD hR=>fun b3=>⟨fun he=> ?_,fun he=> ?_⟩
   ·exact bad (by unfold wPower;rw[if_pos hn,if_neg hu,if_pos he]) g1 _
   ·have he:=Decidable.not_not.1 he
    rw[if_pos he] at hD hR
    have hP1:=hP.ext g1.ext
    have hE:wPower w x=match ledReplay w.c (if x.kind=12 then [] else dskRecs w.h.d) with
      | .error e=> .error e
      | .ok s=> .ok { w with h:=⟨s,if x.kind=12 then w.h.d else dskBack w.h.d,!w.h.up⟩ } :=by
     unfold wPower;rw[if_pos hn,if_neg hu,if_neg (by omega)];rfl
    refine⟨fun hk=> ?_,fun hk=> ?_⟩
    ·rw[if_pos hk,if_pos hk] at hE
     refine((cReplayL (k:=0) hP1.cfg (Sl.nil:Recs G1 none 0 [])).grown g1.sub).mono fun v H2 e2 hv=> ?_
     obtain⟨G2,g2,la,ll,lc,ka,kl,kc,rfl,hA⟩:=hv
     refine⟨_,_,_,_,_,_,_,_,_,_,_,rfl,fun hN2=>fun b5=>⟨fun h0=> ?_,fun h0=> ?_⟩⟩
     ·cases hr:ledReplay w.c [] with
      |error e=>rw[hr] at h0 hE;exact absurd h0 (ledReplay_err hr)
      |ok s=>
       rw[hr] at hE hA
       have hP2:=hP1.ext g2.ext
       rw[notB]
       exact good (w':= { w with h:=⟨s,w.h.d,!w.h.up⟩ }) hE (p':= { p with la:=la,ll:=ll,lc:=lc,ka:=ka,kl:=kl,kc:=kc }) ((h.start.grown (g1.trans g2)).be ⟨hP2.cfg,hA,hP2.dsk,hP2.mail,hP2.room⟩ rfl rfl rfl rfl) _
     ·cases hr:ledReplay w.c [] with
      |ok s=>rw[hr] at h0;exact absurd rfl h0
      |error e=>rw[hr] at hE;exact bad hE (g1.trans g2) _
    ·rw[if_neg hk,if_neg hk] at hE
     refine((cReplayL (k:=c3) hP1.cfg hR).grown g1.sub).mono fun v H2 e2 hv=> ?_
     obtain⟨G2,g2,la,ll,lc,ka,kl,kc,rfl,hA⟩:=hv
     refine⟨_,_,_,_,_,_,_,_,_,_,_,rfl,fun hN2=>fun b5=>⟨fun h0=> ?_,fun h0=> ?_⟩⟩
     ·cases hr:ledReplay w.c (dskRecs w.h.d) with
      |error e=>rw[hr] at h0 hE;exact absurd h0 (ledReplay_err hr)
      |ok s=>
       rw[hr] at hE hA
       have hP2:=hP1.ext g2.ext
       rw[notB]
       exact good (w':= { w with h:=⟨s,dskBack w.h.d,!w.h.up⟩ }) hE (p':= { p with la:=la,ll:=ll,lc:=lc,ka:=ka,kl:=kl,kc:=kc,sa:=a1,sl:=n1,sc:=c1,ta:=a2,tl:=n2,tc:=c2 }) ((h.start.grown (g1.trans g2)).be ⟨hP2.cfg,hA,hD.ext g2.ext,hP2.mail,hP2.room⟩ rfl rfl rfl rfl) _
     ·cases hr:ledReplay w.c (dskRecs w.h.d) with
      |ok s=>rw[hr] at h0;exact absurd rfl h0
      |error e=>rw[hr] at hE;exact bad hE (g1.trans g2) _
 ·have h0:0<=x.agent:=by omega
  have hl:=h.own.len
  have hk:x.agent.toNat<w.n.length:=by omega
  obtain⟨n,hnn⟩:∃n,w.n[x.agent.toNat]?=some n:=⟨_,List.getElem?_eq_getElem hk⟩
  obtain⟨y,kb,q,hna,hyb,hnc,hyk,hfree,hkl,hroom,hrow,hnod,hcell⟩:=h.own.node hnn
  have cc:∀ {H1:Heap},Ext H H1->∀j v,(nodCells n q)[j]?=some v->H1.cell y (0+x.agent.toNat*10+j)=some v:=fun e j v hj=>Heap.cell_next e (by rw[Nat.zero_add];exact hcell j v hj)
  refine⟨y,0,hna,h0,by omega,_,cc (Ext.refl _) 9 _ rfl,_,eqBool,fun hu=> ?_,fun hu=> ?_⟩
  ·have hu:n.up=decide (x.kind=13):=by simpa using hu
   exact bad (by unfold wPower;rw[if_neg hn,hnn];dsimp only;rw[if_pos hu]) g0 _
  ·have hu:¬n.up=decide (x.kind=13):=by simpa using hu
   refine⟨_,_,_,_,_,_,⟨cc (Ext.refl _) 7 _ rfl,cc (Ext.refl _) 8 _ rfl,trivial⟩,?_⟩
   refine Spec.recov (cRecover h.lb hnod.dsk) h.sub fun a1 n1 c1 a2 n2 c2 a3 n3 c3 G1 H1 g1 hD hR=>fun b3=>⟨fun he=> ?_,fun he=> ?_⟩
   ·exact bad (by unfold wPower;rw[if_neg hn,hnn];dsimp only;rw[if_neg hu,if_pos he]) g1 _
   ·have he:=Decidable.not_not.1 he
    rw[if_pos he] at hD hR
    have hP1:=hP.ext g1.ext
    have hE:wPower w x=match agtReplay w.c.first (if x.kind=12 then [] else dskRecs n.d) with
      | .error e=> .error e
      | .ok s=> .ok { w with n:=w.n.set x.agent.toNat ⟨s,if x.kind=12 then n.d else dskBack n.d,!n.up⟩ } :=by
     unfold wPower;rw[if_neg hn,hnn];dsimp only;rw[if_neg hu,if_neg (by omega)];rfl
    have fin:∀ {s:Agt} {d:Dsk} {G2 H2:Heap} (g:Grown G H G2 H2) {xa ga ua va:O} {xl xc gl gc ul uc vl vc:Nat} {own1:List Bx},wPower w x= .ok { w with n:=w.n.set x.agent.toNat ⟨s,d,!n.up⟩ }->Pins G2 xa xl s.lock->Pins G2 ga gl s.goal.lock->DskAt G2 d ua ul uc va vl vc->
      ∃(b_9:Bool),H2.cell y (0+x.agent.toNat*10+9)=some (.bool b_9)/\∃(k:KB),H2 y=some k/\KB.free k=true/\base<=y/\0+x.agent.toNat*10+10<=KB.size k/\∀(H':Heap),Upd H2 y (0+x.agent.toNat*10) k [.slice xa xl xc,.int .i64 s.at_,.int .i64 s.try_,.bool s.going,.int .i64 s.goal.id,.slice ga gl gc,.bool s.good,.slice ua ul uc,.slice va vl vc,.bool (decide (b_9=false))] H'->
       f (.v (.int .i64 0)) (⟨b,false,41,wldCells w p⟩::own1) H':=by
     intro s d G2 H2 g xa ga ua va xl xc gl gc ul uc vl vc own1 hW p1 p2 p3
     refine⟨_,cc g.keep 9 _ rfl,kb,g.keep _ _ hyk,hfree,hyb,by omega,fun H3 hu3=> ?_⟩
     have hput:=(h.start.grown g).put hrow (off:=0) (o:=0+x.agent.toNat*10) (by simp) (by omega) hna hnc (g.keep _ _ hyk) hu3 (y:=⟨s,d,!n.up⟩) (by
      rw[setRange_full (by simp),notB]
      exact⟨⟨xa,xl,xc,ga,gl,gc,ua,ul,uc,va,vl,vc⟩,rfl,p1,p2,p3⟩)
     exact good hW hput own1
    refine⟨fun hk=> ?_,fun hk=> ?_⟩
    ·rw[if_pos hk,if_pos hk] at hE
     refine⟨_,_,_,_,_,_,⟨cc g1.keep 7 _ rfl,cc g1.keep 8 _ rfl,trivial⟩,?_⟩
     refine((cReplay (c:=p.fc) (c':=0) hP1.cfg.pins (Sl.nil:Recs G1 none 0 [])).grown g1.sub).mono fun v H2 e2 hv=> ?_
     obtain⟨G2,g2,xa,xl,xc,ga,gl,gc,rfl,hA,hB⟩:=hv
     refine⟨_,_,_,_,_,_,_,_,_,_,_,_,rfl,fun hN2=>fun b5=>⟨fun h0=> ?_,fun h0=> ?_⟩⟩
     ·cases hr:agtReplay w.c.first [] with
      |error e=>rw[hr] at h0 hE;exact absurd h0 (agtReplay_err hr)
      |ok s=>
       rw[hr] at hE hA hB
       exact fin (g1.trans g2) hE hA hB (hnod.dsk.ext (Ext.trans g1.ext g2.ext))
     ·cases hr:agtReplay w.c.first [] with
      |ok s=>rw[hr] at h0;exact absurd rfl h0
      |error e=>rw[hr] at hE;exact bad hE (g1.trans g2) _
    ·rw[if_neg hk,if_neg hk] at hE
     refine((cReplay (c:=p.fc) (c':=c3) hP1.cfg.pins hR).grown g1.sub).mono fun v H2 e2 hv=> ?_
     obtain⟨G2,g2,xa,xl,xc,ga,gl,gc,rfl,hA,hB⟩:=hv
     refine⟨_,_,_,_,_,_,_,_,_,_,_,_,rfl,fun hN2=>fun b5=>⟨fun h0=> ?_,fun h0=> ?_⟩⟩
     ·cases hr:agtReplay w.c.first (dskRecs n.d) with
      |error e=>rw[hr] at h0 hE;exact absurd h0 (agtReplay_err hr)
      |ok s=>
       rw[hr] at hE hA hB
       exact fin (g1.trans g2) hE hA hB (hD.ext g2.ext)
     ·cases hr:agtReplay w.c.first (dskRecs n.d) with
      |ok s=>rw[hr] at h0;exact absurd rfl h0
      |error e=>rw[hr] at hE;exact bad hE (g1.trans g2) _
theorem step_in(h:HapPre base G H w p rows x a l){n:Nod}(h0:0<=x.agent)(hnn:w.n[x.agent.toNat]?=some n)
  (hf:∀w' p' G' rows' H' own1,OwnPost base G H p w' p' G' rows' H'->w'=orSame w (wStep w x n)->f (.v (.int .i64 (errOf (wStep w x n)))) (⟨b,false,41,wldCells w' p'⟩::own1) H'):
  codeI ⟨Tryz.prog,Tryz.f179.ntmps,⟨TryzListK,TryzSumS,true⟩,base,H0⟩ Tryz.f179 [.loc 0 0,.v (hapArg x a l c)] [⟨b,false,41,wldCells w p⟩] H f:=by
 rw[vx179]
 have bad:∀ {e:Int},wStep w x n= .error e->∀ {G1 H1:Heap},Grown G H G1 H1->∀own1,f (.v (.int .i64 e)) (⟨b,false,41,wldCells w p⟩::own1) H1:=fun{e} he {G1 H1} g own1=>by
  have:=hf w p G1 rows H1 own1 (h.start.grown g) (by rw[he];rfl)
  rw[he] at this;exact this
 have g0:Grown G H G H:=⟨Ext.refl _,h.sub,Ext.refl _,fun y k h1 h2=>(by rw[h1] at h2;cases h2)⟩
 have hl:=h.own.len
 have hk:=(List.getElem?_eq_some_iff.1 hnn).1
 obtain⟨y,kb,q,hna,hyb,hnc,hyk,hfree,hkl,hroom,hrow,hnod,hcell⟩:=h.own.node hnn
 have cc:∀ {H1:Heap},Ext H H1->∀j v,(nodCells n q)[j]?=some v->H1.cell y (0+x.agent.toNat*10+j)=some v:=fun e j v hj=>Heap.cell_next e (by rw[Nat.zero_add];exact hcell j v hj)
 refine fun b1=>⟨y,0,hna,h0,by omega,_,cc (Ext.refl _) 3 _ rfl,fun hg=> ?_,fun hg=> ?_⟩
 ·exact bad (by unfold wStep;rw[if_pos hg]) g0 _
 ·refine⟨_,_,_,_,_,_,_,_,_,_,_,⟨cc (Ext.refl _) 0 _ rfl,cc (Ext.refl _) 1 _ rfl,cc (Ext.refl _) 2 _ rfl,cc (Ext.refl _) 3 _ rfl,cc (Ext.refl _) 4 _ rfl,cc (Ext.refl _) 5 _ rfl,cc (Ext.refl _) 6 _ rfl,trivial⟩,?_⟩
  refine((cLeft hnod.lock hnod.goal).grown h.sub).mono fun v H1 e1 hv=> ?_
  obtain⟨G1,g1,sa,sn,sc,rfl,hS⟩:=hv
  refine⟨_,_,_,_,rfl,fun hN1=>⟨fun he=> ?_,fun he=> ?_⟩⟩
  ·exact bad (by unfold wStep;rw[if_neg hg,if_pos he]) g1 _
  ·have he:=Decidable.not_not.1 he
   rw[if_pos he] at hS
   have hsl:=hS.len
   have hpost:=h.start.grown g1
   have hlb:=h.lb.ext g1.ext
   refine⟨fun hp=> ?_,fun hp=> ?_⟩
   ·have hE:wStep w x n=wDoes w x.agent.toNat ⟨2,0,n.a.try_,0,false,⟨0,[]⟩⟩:=by
     unfold wStep;rw[if_neg hg,if_neg (by omega),if_pos (fun e=>by rw[e] at hsl;simp at hsl;omega)]
    obtain⟨y2,kb2,q2,hna2,hkl2,hpre,hdo⟩:=hpost.does hlb hnn (r:=⟨2,0,n.a.try_,0,false,⟨0,[]⟩⟩) (qa:=none) (ql:=0) Sl.nil
    rw[hna] at hna2
    simp only[Option.some.injEq,Addr.mk.injEq,and_true] at hna2
    subst hna2
    refine⟨_,cc g1.keep 2 _ rfl,G1,n,q2,⟨2,0,n.a.try_,0,false,⟨0,[]⟩⟩,none,0,0,kb2,⟨rfl,rfl⟩,hpre,fun e n' q' kb' G2 H2 hP=> ?_⟩
    obtain⟨rfl,hc,hO⟩:=hdo _ _ _ _ _ _ hP
    have:=hf _ _ _ _ _ [⟨b1,false,62,[.int .i64 x.kind,.int .i64 x.agent,.int .i64 x.num,.bool x.good,.slice a l c]⟩] hO (by rw[hE])
    rw[hE,hc] at this
    exact this
   ·have hE:wStep w x n=match wDoes w x.agent.toNat ⟨3,0,n.a.try_,0,x.good,⟨0,[]⟩⟩ with
      | .error e=> .error e
      | .ok y=> .ok (wReport y x.agent.toNat):=by
     unfold wStep;rw[if_neg hg,if_neg (by omega),if_neg (fun e=>e (List.length_eq_zero_iff.1 (by omega)))];rfl
    obtain⟨y2,kb2,q2,hna2,hkl2,hpre,hdo⟩:=hpost.does hlb hnn (r:=⟨3,0,n.a.try_,0,x.good,⟨0,[]⟩⟩) (qa:=none) (ql:=0) Sl.nil
    rw[hna] at hna2
    simp only[Option.some.injEq,Addr.mk.injEq,and_true] at hna2
    subst hna2
    refine⟨_,cc g1.keep 2 _ rfl,G1,n,q2,⟨3,0,n.a.try_,0,x.good,⟨0,[]⟩⟩,none,0,0,kb2,⟨rfl,rfl⟩,hpre,fun e n' q' kb' G2 H2 hP=> ?_⟩
    obtain⟨rfl,hc,hO⟩:=hdo _ _ _ _ _ _ hP
    cases hd:wDoes w x.agent.toNat ⟨3,0,n.a.try_,0,x.good,⟨0,[]⟩⟩ with
    |error e=>
     rw[hd] at hE hO
     have:=hf _ _ _ _ _ [⟨b1,false,62,[.int .i64 x.kind,.int .i64 x.agent,.int .i64 x.num,.bool x.good,.slice a l c]⟩] hO (by rw[hE])
     rw[hE] at this
     exact⟨fun _=>this,fun h0=>absurd (fun e=>wDoes_err hd e) h0⟩
    |ok w2=>
     rw[hd] at hE hO hc
     refine⟨fun h0=>absurd rfl h0,fun _=> ?_⟩
     have hc2:wldCells w p=wldCells w2 p:=(hc p).symm
     refine SpecO.mono (Q:=fun v css H'=>∃G',Grown G2 H2 G' H'/\POut w2 p (wReport w2 x.agent.toNat) v css G') (by
      have:=cReport (w:=w2) (p:=p) hO.own.nod.sub hO.own.parts hO.own.at_.nod h0 (by omega) b
      rw[←hc2] at this
      exact this) fun v css H3 e3 hv=> ?_
     obtain⟨G3,g3,p3,rfl,hcss,hP3,n1,n2,n3,n4⟩:=hv
     refine⟨rfl,wld16 hcss fun hN3=> ?_⟩
     have:=hf _ _ _ _ _ [⟨b1,false,62,[.int .i64 x.kind,.int .i64 x.agent,.int .i64 x.num,.bool x.good,.slice a l c]⟩] ((hO.grown g3).be hP3 n1 n2 n3 n4) (by rw[hE];rfl)
     rw[hE] at this
     exact this
theorem hear_in(h:HapPre base G H w p rows x a l)
  (hf:∀w' p' G' rows' H' own1,OwnPost base G H p w' p' G' rows' H'->w'=orSame w (wHear w x)->f (.v (.int .i64 (errOf (wHear w x)))) (⟨b,false,41,wldCells w' p'⟩::own1) H'):
  codeI ⟨Tryz.prog,Tryz.f174.ntmps,⟨TryzListK,TryzSumS,true⟩,base,H0⟩ Tryz.f174 [.loc 0 0,.v (hapArg x a l c)] [⟨b,false,41,wldCells w p⟩] H f:=by
 rw[vx174]
 have bad:∀ {e:Int},wHear w x= .error e->∀ {G1 H1:Heap},Grown G H G1 H1->∀own1,f (.v (.int .i64 e)) (⟨b,false,41,wldCells w p⟩::own1) H1:=fun{e} he {G1 H1} g own1=>by
  have:=hf w p G1 rows H1 own1 (h.start.grown g) (by rw[he];rfl)
  rw[he] at this;exact this
 have good:∀ {w':Wld},wHear w x= .ok w'->∀ {p':WA} {G1 H1:Heap} {rows1:List (List Value)},OwnPost base G H p w' p' G1 rows1 H1->∀own1,f (.v (.int .i64 0)) (⟨b,false,41,wldCells w' p'⟩::own1) H1:=fun{w'} he {p' G1 H1 rows1} g own1=>by
  have:=hf w' p' G1 rows1 H1 own1 g (by rw[he];rfl)
  rw[he] at this;exact this
 have hl:=h.own.len
 have hR:=wldErr_zero.1 h.ok
 refine fun b1=>⟨?_,fun b2=> ?_⟩
 all_goals
  refine((cTakeR (c:=p.mc) h.own.parts.mail x.num (decide (x.kind=10))).grown h.sub).mono fun v H1 e1 hv=> ?_
  obtain⟨G1,g1,ta,tn,tc,la,ln,lc,rfl,hM,hQ,hRm⟩:=hv
  by_cases ht:takeErr w.m x.num=0
  case neg=>
   refine⟨_,_,_,_,_,_,_,_,_,_,_,_,rfl,fun hN1=> ?_⟩
   try intro b4
   exact⟨fun _=>bad (by unfold wHear;rw[if_pos ht]) g1 _,fun h0=>absurd ht h0⟩
  case pos=>
   rw[if_pos ht] at hM hQ
   obtain⟨t1,t2,t3,t4⟩:=took_mem ht
   obtain⟨o1,o2,o3⟩:=(mailsCheck_iff.1 t4).2 _ t1
   have hw:=hR.who _ t1
   unfold badWho at o1
   obtain⟨n,hnn⟩:∃n,w.n[(took w.m x.num).agent.toNat]?=some n:=⟨_,List.getElem?_eq_getElem (by omega)⟩
   obtain⟨y,kb,q,hna,hyb,hnc,hyk,hfree,hkl,hroom,hrow,hnod,hcell⟩:=h.own.node hnn
   have cc:∀ {H1:Heap},Ext H H1->∀j v,(nodCells n q)[j]?=some v->H1.cell y (0+(took w.m x.num).agent.toNat*10+j)=some v:=fun e j v hj=>Heap.cell_next e (by rw[Nat.zero_add];exact hcell j v hj)
   have hE:wHear w x=if((took w.m x.num).rep=true/\w.h.up=false)∨((took w.m x.num).rep=false/\n.up=false) then .error 7 else
     if(took w.m x.num).rep=true then .ok (orSame { w with m:=left w.m x.num (decide (x.kind=10)) } (wLead { w with m:=left w.m x.num (decide (x.kind=10)) } ⟨7,(took w.m x.num).agent,(took w.m x.num).try_,0,(took w.m x.num).good,⟨0,[]⟩⟩)) else
     if(took w.m x.num).try_=n.a.try_/\n.a.going=false then .ok (wReport { w with m:=left w.m x.num (decide (x.kind=10)) } (took w.m x.num).agent.toNat) else
     .ok (orSame { w with m:=left w.m x.num (decide (x.kind=10)) } (wDoes { w with m:=left w.m x.num (decide (x.kind=10)) } (took w.m x.num).agent.toNat ⟨1,0,(took w.m x.num).try_,0,false,(took w.m x.num).rel⟩)):=by
    unfold wHear;rw[if_neg (by omega),hnn]
   have hmv:mailVal (if takeErr w.m x.num=0 then took w.m x.num else noMail) la ln lc=mailVal (took w.m x.num) la ln lc:=by rw[if_pos ht]
   rw[hmv]
   generalize took w.m x.num=m at*
   have hP1:Parts G1 { w with m:=left w.m x.num (decide (x.kind=10)) } { p with ma:=ta,ml:=tn,mc:=tc } :=by
    have:=h.own.parts.ext g1.ext
    exact⟨this.cfg,this.ldr,this.dsk,hM,hRm⟩
   have hpost:OwnPost base G H p { w with m:=left w.m x.num (decide (x.kind=10)) } { p with ma:=ta,ml:=tn,mc:=tc } G1 rows H1:=(h.start.grown g1).be hP1 rfl rfl rfl rfl
   have hlb:=h.lb.ext g1.ext
   have hdo:=hpost.does hlb (k:=m.agent.toNat) (n:=n) hnn (r:=⟨1,0,m.try_,0,false,m.rel⟩) hQ
   obtain⟨y2,kb2,q2,hna2,hkl2,hpre,hdo⟩:=hdo
   have hna2:p.na=some ⟨y2,0,none⟩:=hna2
   rw[hna] at hna2
   simp only[Option.some.injEq,Addr.mk.injEq,and_true] at hna2
   subst hna2
   have does:∀(own1:List Bx),¬((m.rep=true/\w.h.up=false)∨(m.rep=false/\n.up=false))->m.rep=false->¬(m.try_=n.a.try_/\n.a.going=false)->∀(e:Int)(n':Nod)(q':NA)(kb':KB)(G' H':Heap),DoesPost G1 H1 n q2 ⟨1,0,m.try_,0,false,m.rel⟩ y (0+m.agent.toNat*10) kb2 e n' q' kb' G' H'->
     f (.v (.int .i64 0)) (⟨b,false,41,wldCells { w with m:=left w.m x.num (decide (x.kind=10)) } { p with ma:=ta,ml:=tn,mc:=tc }⟩::own1) H':=by
    intro own1 hφ hr ht e n' q' kb' G' H' hP
    obtain⟨rfl,hc,hO⟩:=hdo _ _ _ _ _ _ hP
    rw[if_neg hφ,if_neg (by rw[hr];simp),if_neg ht] at hE
    have:=good hE hO own1
    rw[hc] at this
    exact this
   refine⟨_,_,_,_,_,_,_,_,_,_,_,_,rfl,fun hN1=> ?_⟩
   try intro b4
   refine⟨fun h0=>absurd ht h0,fun _=>⟨y,0,hna,by omega,by omega,(m.rep=true/\w.h.up=false)∨(m.rep=false/\n.up=false),⟨fun hr=>⟨fun hu=>⟨rfl,subH,.inl ⟨hr,hu⟩⟩,fun hu=>⟨fun hr'=>(by rw[hr] at hr';cases hr'),fun _=>⟨rfl,subH,by rw[hr];simp;simpa using hu⟩⟩⟩,fun hr=>⟨fun _=>⟨_,cc g1.keep 9 _ rfl,rfl,subH,by rw[hr];simp⟩,fun h=>absurd hr h⟩⟩,fun hφ=> ?_,fun hφ=>⟨fun hr=> ?_,fun hr=>⟨_,cc g1.keep 2 _ rfl,fun htr=>⟨_,cc g1.keep 3 _ rfl,fun hg=> ?_,fun hg=> ?_⟩,fun htr=> ?_⟩⟩⟩⟩
   ·exact bad (by rw[hE,if_pos hφ]) g1 _
   ·refine((cLeads hlb hP1 (r:=⟨7,m.agent,m.try_,0,m.good,⟨0,[]⟩⟩) (qa:=none) (ql:=0) (qc:=0) Sl.nil b).grown g1.sub).mono fun v css H2 e2 hv=> ?_
    obtain⟨G2,g2,p2,rfl,hcss,hP2,n1,n2,n3,n4⟩:=hv
    refine⟨_,rfl,wld16 hcss fun hN2=> ?_⟩
    rw[if_neg hφ,if_pos hr] at hE
    exact good hE ((hpost.grown g2).be hP2 n1 n2 n3 n4) _
   ·refine(cReport g1.sub hP1 hpost.own.at_.nod (by omega) (by show m.agent<(p.nl:Int);omega) b).mono fun v css H2 e2 hv=> ?_
    obtain⟨G2,g2,p2,rfl,hcss,hP2,n1,n2,n3,n4⟩:=hv
    refine⟨rfl,wld16 hcss fun hN2=> ?_⟩
    rw[if_neg hφ,if_neg (by rw[hr];simp),if_pos ⟨htr,hg⟩] at hE
    exact good hE ((hpost.grown g2).be hP2 n1 n2 n3 n4) _
   ·exact⟨G1,n,q2,⟨1,0,m.try_,0,false,m.rel⟩,la,ln,lc,kb2,⟨rfl,rfl⟩,hpre,does _ hφ hr fun h=>hg h.2⟩
   ·exact⟨G1,n,q2,⟨1,0,m.try_,0,false,m.rel⟩,la,ln,lc,kb2,⟨rfl,rfl⟩,hpre,does _ hφ hr fun h=>htr h.1⟩
end
structure RunPost(R:Except Int Wld)(base:Nat)(G H:Heap)(w:Wld)(p:WA)(e:Int)(w':Wld)(p':WA)(G':Heap)(rows':List (List Value))(H':Heap):Prop where
 post:OwnPost base G H p w' p' G' rows' H'
 err:e=errOf R
 res:w'=orSame w R
def genP(R:Wld->Hap->Except Int Wld)(Pre:Wld->Hap->Prop)(base i b ty:Nat)(cs:List Value)(v:Value)(own:List Bx)(H:Heap)(f:SV->List Bx->Heap->Prop):Prop:=
 ∃(w:Wld)(p:WA)(G:Heap)(rows:List (List Value))(x:Hap)(a:O)(l c:Nat),(ty=41/\cs=wldCells w p/\v=hapArg x a l c/\noMaps own=true)/\HapPre base G H w p rows x a l/\Pre w x/\
  ∀(e:Int)(w':Wld)(p':WA)(G':Heap)(rows':List (List Value))(H':Heap),RunPost (R w x) base G H w p e w' p' G' rows' H'->f (.v (.int .i64 e)) (own.set i ⟨b,false,ty,wldCells w' p'⟩) H'
theorem OwnPost.unsee{base:Nat}{G H H1:Heap}{own:List Bx}{w:Wld}{p:WA}{rows:List (List Value)}{w':Wld}{p':WA}{G':Heap}{rows':List (List Value)}{b:Nat}(h:OwnPost base G (seenBy own b H) p w' p' G' rows' H1)(h0:OwnW base G H w p rows)
  (hid:∀y∈own,H y.b=none) (hb:H b=none) (hb1:H1 b=none):OwnPost base G H p w' p' G' rows' (unseen own H1):=by
 have hsub:Ext G' (unseen own H1):=fun x k hx=>by
  have h1:=h.own.nod.sub x k hx
  unfold unseen
  cases hl:lookB own x with
  |none=>exact h1
  |some k'=>
   exfalso
   obtain⟨y,hy,rfl,_⟩:=lookB_mem hl
   cases hg:G y.b with
   |some k2=>have:=h0.nod.sub _ _ hg;rw[hid y hy] at this;cases this
   |none=>
    have h2:=h.away _ _ hx hg
    unfold seenBy at h2
    rw[if_neg (fun e=>by rw[e,hb1] at h1;cases h1),hid y hy] at h2
    rw[hl] at h2;cases h2
 have hsee:Ext H (seenBy own b H):=seenBy_ext hb
 refine⟨h.ext,fun y k hy hn=> ?_,⟨h.own.parts,⟨?_,h.own.nod.wid,h.own.nod.all,hsub,h.own.nod.clear⟩⟩,fun y k hy hc=>unseen_keep hid hb hy fun hs=>h.keep y k hs hc,fun y hy=> ?_,h.same⟩
 ·have h1:=h.away y k hy hn
  cases hh:H y with
  |none=>rfl
  |some z=>rw[hsee y z hh] at h1;cases h1
 ·obtain⟨r1,r2,r3,r4⟩:=h.own.nod.row
  by_cases hc:p.nc=0
  ·have hz:p'.nc=0:=h.same.2.2.trans hc
   exact⟨r1,r2,r3,.inl ⟨by omega,hz⟩⟩
  refine⟨r1,r2,r3,r4.imp id fun⟨g,k,hg,hbg,hH,h6,h7,h8,h9⟩=>⟨g,k,hg,hbg,?_,h6,h7,h8,h9⟩⟩
  unfold unseen
  cases hl:lookB own g with
  |none=>exact hH
  |some k'=>
   exfalso
   obtain⟨y,hy,rfl,_⟩:=lookB_mem hl
   obtain⟨g',k',hg',hH'⟩:=h0.nod.block hc
   rw[h.same.1,hg'] at hg
   simp only[Option.some.injEq,Addr.mk.injEq,and_true] at hg
   rw[hg,hid y hy] at hH';cases hH'
 ·cases hh:H y with
  |none=>exact absurd hh hy
  |some z=>
   have h1:=h.still y (by rw[hsee y z hh];simp)
   unfold unseen
   cases hl:lookB own y with
   |none=>exact h1
   |some k'=>
    obtain⟨u,hu,rfl,_⟩:=lookB_mem hl
    rw[hid u hu] at hh;cases hh
theorem gen_ok{P:Program}{muts:Muts}(hin:InlOk P muts){g:FuncId}{R:Wld->Hap->Except Int Wld}{Pre:Wld->Hap->Prop}
  (hrun:∀ {base:Nat} {H0 G H:Heap} {w:Wld} {p:WA} {rows:List (List Value)} {x:Hap} {a:O} {l c b:Nat} {f:SV->List Bx->Heap->Prop},HapPre base G H w p rows x a l->Pre w x->
   (∀e w' p' G' rows' H' own1,RunPost (R w x) base G H w p e w' p' G' rows' H'->f (.v (.int .i64 e)) (⟨b,false,41,wldCells w' p'⟩::own1) H')->
   ∃q,muts.inl base H0 g [.loc 0 0,.v (hapArg x a l c)] [⟨b,false,41,wldCells w p⟩] H f=some q/\q)
  {C:Cfg} {w0:World} {own0:List Nat} {own:List Bx} {H:Heap} {wd:World} {i b ty:Nat} {cs:List Value} {v:Value} {f:SV->List Bx->Heap->Prop}
  (hX:own[i]?=some ⟨b,false,ty,cs⟩) (h:genP R Pre C.base i b ty cs v own H f) (hw:StW C w0 own0 own H wd):
  Calls P g (([.loc i 0,.v v]:List SV).map (SV.val own)).toArray wd fun e w'=>∃v own' H',e= .returned v/\f (.v v) own' H'/\OwnExt own own'/\StW C w0 own0 own' H' w':=by
 obtain⟨w,p,G,rows,x,a,l,c,⟨rfl,rfl,rfl,hnm⟩,hpre,hP,hf⟩:=h
 have hm:∀y∈own,y.map=false:=fun y hy=>by
  have:=List.all_eq_true.1 hnm y hy
  simpa using this
 have hid:=hw.boxes.hid
 have hXm:=List.mem_of_getElem? hX
 have hHX:H b=none:=hid _ hXm
 have hbx:boxNo own i=b:=by unfold boxNo;rw[hX]
 have hval:(([.loc i 0,.v (hapArg x a l c)]:List SV).map (SV.val own))=(([.loc 0 0,.v (hapArg x a l c)]:List SV).map (SV.val [⟨b,false,41,wldCells w p⟩])):=by
  simp only[List.map_cons,List.map_nil,SV.val,hbx];rfl
 rw[hval]
 have hpre':HapPre C.base G (seenBy own b H) w p rows x a l:=⟨hpre.lb,hpre.ok,hpre.own.ext (seenBy_ext hHX),hpre.lock⟩
 have hrun':=local_run hin hw hX hm (g:=g) (pre:=[.loc 0 0,.v (hapArg x a l c)]) (by intro s hs;simp at hs;rcases hs with rfl|rfl<;>simp[SV.wf]) (R:=fun y=>p.nc≠0/\p.na=some ⟨y,0,none⟩)
  (fun y hy hc=>by
   obtain⟨g',k',hg',hH'⟩:=hpre.own.nod.block hc.1
   rw[hc.2] at hg'
   simp only[Option.some.injEq,Addr.mk.injEq,and_true] at hg'
   rw[←hg',hid y hy] at hH';cases hH')
  (post:=fun v cs' H1=>∃(e:Int)(w':Wld)(p':WA)(G':Heap)(rows':List (List Value)),v= .int .i64 e/\cs'=wldCells w' p'/\RunPost (R w x) C.base G (seenBy own b H) w p e w' p' G' rows' H1) (fun H0=>hrun hpre' hP fun e w' p' G' rows' H' own1 hp=>
   ⟨_,rfl,fun y k hy hnR=>hp.post.keep y k hy (by
    by_cases hc:p.nc=0
    ·exact .inl hc
    ·exact .inr fun e=>hnR ⟨hc,e⟩),e,w',p',G',rows',rfl,rfl,hp⟩)
 refine hrun'.mono fun e w' he=> ?_
 obtain⟨v,cs',H1,rfl,⟨e,w',p',G',rows',rfl,rfl,hp⟩,hkeep,hb1,hst⟩:=he
 exact⟨_,_,_,rfl,hf e w' p' G' rows' _ ⟨hp.post.unsee hpre.own hid hHX hb1,hp.err,hp.res⟩,OwnExt.set hX rfl rfl rfl,hst⟩
def wStepAt(w:Wld)(x:Hap):Except Int Wld:=
 match w.n[x.agent.toNat]? with
 |none=> .error 5
 |some n=>wStep w x n
noncomputable def TryzInT:InlFn:=inlOf Tryz.prog TryzListK [(174,Tryz.f174),(179,Tryz.f179),(178,Tryz.f178)] TryzSumS
theorem TryzinT(j:Bool):InlOk Tryz.prog ⟨TryzListK,TryzInT,j⟩:=inl_ok (TryzsumS true) Tryzmixed fun p hp=>by
 simp only[List.mem_cons,List.not_mem_nil,or_false] at hp
 rcases hp with rfl|rfl|rfl
 ·exact⟨Tryz.func174,body_some (by kernel_rfl),ops_ok (by kernel_rfl),by decide⟩
 ·exact⟨Tryz.func179,body_some (by kernel_rfl),ops_ok (by kernel_rfl),by decide⟩
 ·exact⟨Tryz.func178,body_some (by kernel_rfl),ops_ok (by kernel_rfl),by decide⟩
def genC(R:Wld->Hap->Except Int Wld)(Pre:Wld->Hap->Prop)(base:Nat)(pre:List SV)(own:List Bx)(H:Heap)(f:SV->List Bx->Heap->Prop):Option Prop:=
 match pre with
 | [.loc i 0,.v v]=>(match own[i]? with
  |some ⟨b,false,ty,cs⟩=>some (genP R Pre base i b ty cs v own H f)
  |_=>none)
 |_=>none
theorem genC_ok{P:Program}{muts:Muts}(hin:InlOk P muts){g:FuncId}{R:Wld->Hap->Except Int Wld}{Pre:Wld->Hap->Prop}
  (hrun:∀ {base:Nat} {H0 G H:Heap} {w:Wld} {p:WA} {rows:List (List Value)} {x:Hap} {a:O} {l c b:Nat} {f:SV->List Bx->Heap->Prop},HapPre base G H w p rows x a l->Pre w x->
   (∀e w' p' G' rows' H' own1,RunPost (R w x) base G H w p e w' p' G' rows' H'->f (.v (.int .i64 e)) (⟨b,false,41,wldCells w' p'⟩::own1) H')->
   ∃q,muts.inl base H0 g [.loc 0 0,.v (hapArg x a l c)] [⟨b,false,41,wldCells w p⟩] H f=some q/\q)
  {base:Nat} {pre:List SV} {own:List Bx} {H:Heap} {f:SV->List Bx->Heap->Prop} {p:Prop} (he:genC R Pre base pre own H f=some p) (hp:p) (C:Cfg) (w0:World) (own0:List Nat) (w:World) (hb:C.base=base) (hw:StW C w0 own0 own H w):
  Calls P g (pre.map (SV.val own)).toArray w fun e w'=>∃v own' H',e= .returned v/\f (.v v) own' H'/\OwnExt own own'/\StW C w0 own0 own' H' w':=by
 subst hb
 unfold genC at he
 split at he
 ·split at he
  ·rename_i hX
   obtain rfl:=Option.some.inj he
   exact gen_ok hin hrun hX hp hw
  ·cases he
 ·cases he
noncomputable def TryzSumT:InlFn:=fun base H0 g pre own H f=>
 if g=174 then genC wHear (fun w _=>w=w) base pre own H f
 else if g=179 then genC wStepAt (fun w x=>0<=x.agent/\x.agent<w.n.length) base pre own H f
 else if g=178 then genC wPower (fun w x=>x.agent<w.n.length) base pre own H f
 else TryzSumS base H0 g pre own H f
theorem TryzsumT(j:Bool):InlOk Tryz.prog ⟨TryzListK,TryzSumT,j⟩:=by
 intro base H0 g pre own H f p hp
 unfold TryzSumT at hp
 dsimp only at hp
 split at hp
 ·rename_i e;subst e
  refine⟨by show TryzListK.contains 174=true;decide,fun h C w0 own0 w hb _ hw _=>genC_ok (TryzinT true) (fun{base H0 G H w p rows x a l c b f} h1 _ hf=>⟨_,rfl,hear_in h1 fun w' p' G' rows' H' own1 h3 h4=>hf _ w' p' G' rows' H' own1 ⟨h3,rfl,h4⟩⟩) hp h C w0 own0 w hb hw⟩
 ·split at hp
  ·rename_i e;subst e
   refine⟨by show TryzListK.contains 179=true;decide,fun h C w0 own0 w hb _ hw _=>genC_ok (TryzinT true) (fun{base H0 G H w p rows x a l c b f} h1 hP hf=> ?_) hp h C w0 own0 w hb hw⟩
   obtain⟨n,hn⟩:∃n,w.n[x.agent.toNat]?=some n:=⟨_,List.getElem?_eq_getElem (by omega)⟩
   have hE:wStepAt w x=wStep w x n:=by unfold wStepAt;rw[hn]
   exact⟨_,rfl,step_in h1 hP.1 hn fun w' p' G' rows' H' own1 h3 h4=>hf _ w' p' G' rows' H' own1 ⟨h3,by rw[hE],by rw[hE];exact h4⟩⟩
  ·split at hp
   ·rename_i e;subst e
    refine⟨by show TryzListK.contains 178=true;decide,fun h C w0 own0 w hb _ hw _=>genC_ok (TryzinT true) (fun{base H0 G H w p rows x a l c b f} h1 hP hf=>⟨_,rfl,power_in h1 hP fun w' p' G' rows' H' own1 h3 h4=>hf _ w' p' G' rows' H' own1 ⟨h3,rfl,h4⟩⟩) hp h C w0 own0 w hb hw⟩
   ·exact TryzsumS j base H0 g pre own H f p hp
def TryzListT:List FuncId:=1000001:: TryzListK
theorem TryzsumTT(j:Bool):InlOk Tryz.prog ⟨TryzListT,TryzSumT,j⟩:=fun base H0 g pre own H f p hp=>by
 obtain⟨h1,h2⟩:= TryzsumT j base H0 g pre own H f p hp
 refine⟨?_,h2⟩
 have h1: TryzListK.contains g=true:=h1
 show TryzListT.contains g=true
 unfold TryzListT
 rw[List.contains_cons,h1,Bool.or_true]
open Go Go.Proofs
open Go.Value renaming int → I, slice → S, bool → B, agg → A, tuple → T, pointer → P, string → Str
open Go.IntKind renaming i64 → Z, wrap → W
open Go.Addr renaming mk → D
open Go.Vg.Bx renaming mk → J
open Go.Vg renaming Next → X, Spec → Y, SpecO → YO
open Go.Vg.Heap renaming cell → C
open Int renaming toNat → N
theorem vx91(b:Nat)(id bud:Int)(fa ra wa:O)(fl fc rl rc wl wc:Nat)(now goal nx:Int)(back:Bool)(la ka:O)(ll lc kl kc:Nat)(sa ta:O)(sl sc tl tc:Nat)(up:Bool)(na ma:O)(nl nc ml mc:Nat)(hk hg hn:Int)(hgd:Bool)(ha:O)(hl hc:Nat)(base:Nat)(H0:Heap)(H:Heap)(f:SV->List Bx->Heap->Prop):
 (codeI ⟨Tryz.prog,Tryz.f91.ntmps,⟨TryzListT,TryzSumT,true⟩,base,H0⟩ Tryz.f91 [.loc 0 0,.v (A #[I Z hk,I Z hg,I Z hn,B hgd,S ha hl hc])] [⟨b,false,41,[I Z id,S fa fl fc,S ra rl rc,S wa wl wc,I Z bud,S la ll lc,I Z now,I Z goal,B back,S ka kl kc,I Z nx,S sa sl sc,S ta tl tc,B up,S na nl nc,S ma ml mc]⟩] H f)=(
 (fun w46:LV=>(fun w45:LV=>(fun w44:AV=>(fun w43:AV=>(fun w42:AV=>(fun w41:AV=>(fun w40:LV=>∀a:Nat,(fun w39:LB=>∃c:Prop,((hk=9->w39=w39/\SubH H H/\(c↔hk=9))/\(¬hk=9->w39=w39/\SubH H H/\(c↔hk=10)))/\(c->∃(d:Wld)(e:WA)(g:Heap)(h:List (List Value))(i:Hap)(j:O)(k l:Nat),(41=41/\w40=wldCells d e/\A #[I Z hk,I Z hg,I Z hn,B hgd,S ha hl hc]=A #[I Z (Hap.kind i),I Z (Hap.agent i),I Z (Hap.num i),B (Hap.good i),S j k l]/\true=true)/\HapPre base g H d e h i j k/\d=d/\∀(m:Int)(n:Wld)(o:WA)(p:Heap)(q:List (List Value))(r:Heap),RunPost (wHear d i) base g H d e m n o p q r->f (SV.v (I Z m)) [J b false 41 (wldCells n o),J a false 62 [I Z hk,I Z hg,I Z hn,B hgd,S ha hl hc]] r)/\(¬c->(hk=11->(Y Tryz.prog 175 [S ma ml mc,I Z hn,B false] H fun d e=>∃g h i j k l m n o p q r,d=T #[S g h i,A #[I Z j,I Z k,B l,B m,I Z n,S o p q],I Z r]/\(X base H e->∀s:Nat,(r=0->f (SV.v (I Z r)) [J b false 41 [I Z id,S fa fl fc,S ra rl rc,S wa wl wc,I Z bud,S la ll lc,I Z now,I Z goal,B back,S ka kl kc,I Z nx,S sa sl sc,S ta tl tc,B
 up,S na nl nc,S g h i],J a false 62 [I Z hk,I Z hg,I Z hn,B hgd,S ha hl hc],J s false 74 [I Z j,I Z k,B l,B m,I Z n,S o p q]] e)/\(¬r=0->f (SV.v (I Z r)) [J b false 41 w40,J a false 62 [I Z hk,I Z hg,I Z hn,B hgd,S ha hl hc],J s false 74 [I Z j,I Z k,B l,B m,I Z n,S o p q]] e)))/\∀d:Nat,Y Tryz.prog 175 [S ma ml mc,I Z hn,B false] H fun e g=>∃h i j k l m n o p q r s,e=T #[S h i j,A #[I Z k,I Z l,B m,B n,I Z o,S p q r],I Z s]/\(X base H g->(s=0->f (SV.v (I Z s)) [J b false 41 [I Z id,S fa fl fc,S ra rl rc,S wa wl wc,I Z bud,S la ll lc,I Z now,I Z goal,B back,S ka kl kc,I Z nx,S sa sl sc,S ta tl tc,B up,S na nl nc,S h i j],J a false 62 [I Z hk,I Z hg,I Z hn,B hgd,S ha hl hc],J d false 74 [I Z k,I Z l,B m,B n,I Z o,S p q r]] g)/\(¬s=0->f (SV.v (I Z s)) [J b false 41 w40,J a false 62 [I Z hk,I Z hg,I Z hn,B hgd,S ha hl hc],J d false 74 [I Z k,I Z l,B m,B n,I Z o,S p q r]] g)))/\(¬hk=11->∃d:Prop,((hk=1->w39=w39/\SubH H H/\(d↔hk=1))/\(¬hk=1->(hk=2->w39=w39/\SubH H H/\(d↔hk=2))/\(¬hk=2->(hk=5->w39=w39/\SubH H H/\(d↔hk=5))/\(¬hk=5->w39=w39/\SubH H H/\(d↔hk=6)))))/\(d->(up=false->f (SV.v (I Z 7)) w39 H)/\(¬up=false->∀e:Int,(fun w26:AV=>e=W Z ((ll:Int)+1)->∀g:Nat,(∃h:List Value,mapSet (I Z 1) (A w26) []=some h/\(∃i:List Value,mapSet (I Z 2) (A w42) h=some i/\(∃j:List Value,mapSet (I Z 5) (A w43) i=some j/\∃k:List Value,mapSet (I Z 6) (A w44) j=some k/\∃(l m n o:Int)(p:Bool)(q:Int)(r:O)(s t:Nat)(u:Bool),mapGet (A w41) (I Z hk) k=some (A #[I Z l,I Z m,I Z n,I Z o,B p,I Z q,S r s t],u)/\YO Tryz.prog 176 [P (some (D b 0 none)),A #[I Z l,I Z m,I Z n,I Z o,B p,I Z q,S r s t]] [J b false 41 w40] H fun v w x=>∃y,v=I Z y/\∃(z:Int)(a1:O)(b1 c1:Nat)(d1:O)(e1 f1:Nat)(g1:O)(h1 i1:Nat)(j1:Int)(k1:O)(l1 m1:Nat)(n1 o1:Int)(p1:Bool)(q1:O)(r1 s1:Nat)(t1:Int)(u1:O)(v1 w1:Nat)(x1:O)(y1 z1:Nat)(a2:Bool)(b2:O)(c2 d2:Nat)(e2:O)(f2 g2:Nat),(fun w2:LV=>w=[w2]/\(X base H x->f (SV.v (I Z y)) [J b false 41 w2,J a false 62 [I Z hk,I Z hg,I Z hn,B
 hgd,S ha hl hc],J g true 217 k] x)) [I Z z,S a1 b1 c1,S d1 e1 f1,S g1 h1 i1,I Z j1,S k1 l1 m1,I Z n1,I Z o1,B p1,S q1 r1 s1,I Z t1,S u1 v1 w1,S x1 y1 z1,B a2,S b2 c2 d2,S e2 f2 g2])/\∃j:List Value,mapSet (I Z 6) (A w44) i=some j/\∃k:List Value,mapSet (I Z 5) (A w43) j=some k/\∃(l m n o:Int)(p:Bool)(q:Int)(r:O)(s t:Nat)(u:Bool),mapGet (A w41) (I Z hk) k=some (A #[I Z l,I Z m,I Z n,I Z o,B p,I Z q,S r s t],u)/\YO Tryz.prog 176 [P (some (D b 0 none)),A #[I Z l,I Z m,I Z n,I Z o,B p,I Z q,S r s t]] [J b false 41 w40] H fun v w x=>∃y,v=I Z y/\∃(z:Int)(a1:O)(b1 c1:Nat)(d1:O)(e1 f1:Nat)(g1:O)(h1 i1:Nat)(j1:Int)(k1:O)(l1 m1:Nat)(n1 o1:Int)(p1:Bool)(q1:O)(r1 s1:Nat)(t1:Int)(u1:O)(v1 w1:Nat)(x1:O)(y1 z1:Nat)(a2:Bool)(b2:O)(c2 d2:Nat)(e2:O)(f2 g2:Nat),(fun w3:LV=>w=[w3]/\(X base H x->f (SV.v (I Z y)) [J b false 41 w3,J a false 62 [I Z hk,I Z hg,I Z hn,B hgd,S ha hl hc],J g true 217 k] x)) [I Z z,S a1 b1 c1,S d1 e1 f1,S g1 h1 i1,I Z j1,S k1 l1 m1,I Z n1,I Z o1,B p1,S q1 r1 s1,I Z t1,S u1 v1 w1,S x1 y1 z1,B a2,S b2 c2 d2,S e2 f2 g2])/\(∃i:List Value,mapSet (I Z 5) (A w43) h=some i/\(∃j:List Value,mapSet (I Z 2) (A w42) i=some j/\∃k:List Value,mapSet (I Z 6) (A w44) j=some k/\∃(l m n o:Int)(p:Bool)(q:Int)(r:O)(s t:Nat)(u:Bool),mapGet (A w41) (I Z hk) k=some (A #[I Z l,I Z m,I Z n,I Z o,B p,I Z q,S r s t],u)/\YO Tryz.prog 176 [P (some (D b 0 none)),A #[I Z l,I Z m,I Z n,I Z o,B p,I Z q,S r s t]] [J b false 41 w40] H fun v w x=>∃y,v=I Z y/\∃(z:Int)(a1:O)(b1 c1:Nat)(d1:O)(e1 f1:Nat)(g1:O)(h1 i1:Nat)(j1:Int)(k1:O)(l1 m1:Nat)(n1 o1:Int)(p1:Bool)(q1:O)(r1 s1:Nat)(t1:Int)(u1:O)(v1 w1:Nat)(x1:O)(y1 z1:Nat)(a2:Bool)(b2:O)(c2 d2:Nat)(e2:O)(f2 g2:Nat),(fun w4:LV=>w=[w4]/\(X base H x->f (SV.v (I Z y)) [J b false 41 w4,J a false 62 [I Z hk,I Z hg,I Z hn,B hgd,S ha hl hc],J g true 217 k] x)) [I Z z,S a1 b1 c1,S d1 e1 f1,S g1 h1 i1,I Z j1,S k1 l1 m1,I Z n1,I Z o1,B p1,S q1 r1 s1,I Z t1,S u1 v1 w1,S x1 y1 z1,B a2,S b2 c2
 d2,S e2 f2 g2])/\∃j:List Value,mapSet (I Z 6) (A w44) i=some j/\∃k:List Value,mapSet (I Z 2) (A w42) j=some k/\∃(l m n o:Int)(p:Bool)(q:Int)(r:O)(s t:Nat)(u:Bool),mapGet (A w41) (I Z hk) k=some (A #[I Z l,I Z m,I Z n,I Z o,B p,I Z q,S r s t],u)/\YO Tryz.prog 176 [P (some (D b 0 none)),A #[I Z l,I Z m,I Z n,I Z o,B p,I Z q,S r s t]] [J b false 41 w40] H fun v w x=>∃y,v=I Z y/\∃(z:Int)(a1:O)(b1 c1:Nat)(d1:O)(e1 f1:Nat)(g1:O)(h1 i1:Nat)(j1:Int)(k1:O)(l1 m1:Nat)(n1 o1:Int)(p1:Bool)(q1:O)(r1 s1:Nat)(t1:Int)(u1:O)(v1 w1:Nat)(x1:O)(y1 z1:Nat)(a2:Bool)(b2:O)(c2 d2:Nat)(e2:O)(f2 g2:Nat),(fun w5:LV=>w=[w5]/\(X base H x->f (SV.v (I Z y)) [J b false 41 w5,J a false 62 [I Z hk,I Z hg,I Z hn,B hgd,S ha hl hc],J g true 217 k] x)) [I Z z,S a1 b1 c1,S d1 e1 f1,S g1 h1 i1,I Z j1,S k1 l1 m1,I Z n1,I Z o1,B p1,S q1 r1 s1,I Z t1,S u1 v1 w1,S x1 y1 z1,B a2,S b2 c2 d2,S e2 f2 g2])/\∃i:List Value,mapSet (I Z 6) (A w44) h=some i/\(∃j:List Value,mapSet (I Z 2) (A w42) i=some j/\∃k:List Value,mapSet (I Z 5) (A w43) j=some k/\∃(l m n o:Int)(p:Bool)(q:Int)(r:O)(s t:Nat)(u:Bool),mapGet (A w41) (I Z hk) k=some (A #[I Z l,I Z m,I Z n,I Z o,B p,I Z q,S r s t],u)/\YO Tryz.prog 176 [P (some (D b 0 none)),A #[I Z l,I Z m,I Z n,I Z o,B p,I Z q,S r s t]] [J b false 41 w40] H fun v w x=>∃y,v=I Z y/\∃(z:Int)(a1:O)(b1 c1:Nat)(d1:O)(e1 f1:Nat)(g1:O)(h1 i1:Nat)(j1:Int)(k1:O)(l1 m1:Nat)(n1 o1:Int)(p1:Bool)(q1:O)(r1 s1:Nat)(t1:Int)(u1:O)(v1 w1:Nat)(x1:O)(y1 z1:Nat)(a2:Bool)(b2:O)(c2 d2:Nat)(e2:O)(f2 g2:Nat),(fun w6:LV=>w=[w6]/\(X base H x->f (SV.v (I Z y)) [J b false 41 w6,J a false 62 [I Z hk,I Z hg,I Z hn,B hgd,S ha hl hc],J g true 217 k] x)) [I Z z,S a1 b1 c1,S d1 e1 f1,S g1 h1 i1,I Z j1,S k1 l1 m1,I Z n1,I Z o1,B p1,S q1 r1 s1,I Z t1,S u1 v1 w1,S x1 y1 z1,B a2,S b2 c2 d2,S e2 f2 g2])/\∃j:List Value,mapSet (I Z 5) (A w43) i=some j/\∃k:List Value,mapSet (I Z 2) (A w42) j=some k/\∃(l m n o:Int)(p:Bool)(q:Int)(r:O)(s t:Nat)
 (u:Bool),mapGet (A w41) (I Z hk) k=some (A #[I Z l,I Z m,I Z n,I Z o,B p,I Z q,S r s t],u)/\YO Tryz.prog 176 [P (some (D b 0 none)),A #[I Z l,I Z m,I Z n,I Z o,B p,I Z q,S r s t]] [J b false 41 w40] H fun v w x=>∃y,v=I Z y/\∃(z:Int)(a1:O)(b1 c1:Nat)(d1:O)(e1 f1:Nat)(g1:O)(h1 i1:Nat)(j1:Int)(k1:O)(l1 m1:Nat)(n1 o1:Int)(p1:Bool)(q1:O)(r1 s1:Nat)(t1:Int)(u1:O)(v1 w1:Nat)(x1:O)(y1 z1:Nat)(a2:Bool)(b2:O)(c2 d2:Nat)(e2:O)(f2 g2:Nat),(fun w7:LV=>w=[w7]/\(X base H x->f (SV.v (I Z y)) [J b false 41 w7,J a false 62 [I Z hk,I Z hg,I Z hn,B hgd,S ha hl hc],J g true 217 k] x)) [I Z z,S a1 b1 c1,S d1 e1 f1,S g1 h1 i1,I Z j1,S k1 l1 m1,I Z n1,I Z o1,B p1,S q1 r1 s1,I Z t1,S u1 v1 w1,S x1 y1 z1,B a2,S b2 c2 d2,S e2 f2 g2])/\(∃h:List Value,mapSet (I Z 2) (A w42) []=some h/\(∃i:List Value,mapSet (I Z 1) (A w26) h=some i/\(∃j:List Value,mapSet (I Z 5) (A w43) i=some j/\∃k:List Value,mapSet (I Z 6) (A w44) j=some k/\∃(l m n o:Int)(p:Bool)(q:Int)(r:O)(s t:Nat)(u:Bool),mapGet (A w41) (I Z hk) k=some (A #[I Z l,I Z m,I Z n,I Z o,B p,I Z q,S r s t],u)/\YO Tryz.prog 176 [P (some (D b 0 none)),A #[I Z l,I Z m,I Z n,I Z o,B p,I Z q,S r s t]] [J b false 41 w40] H fun v w x=>∃y,v=I Z y/\∃(z:Int)(a1:O)(b1 c1:Nat)(d1:O)(e1 f1:Nat)(g1:O)(h1 i1:Nat)(j1:Int)(k1:O)(l1 m1:Nat)(n1 o1:Int)(p1:Bool)(q1:O)(r1 s1:Nat)(t1:Int)(u1:O)(v1 w1:Nat)(x1:O)(y1 z1:Nat)(a2:Bool)(b2:O)(c2 d2:Nat)(e2:O)(f2 g2:Nat),(fun w8:LV=>w=[w8]/\(X base H x->f (SV.v (I Z y)) [J b false 41 w8,J a false 62 [I Z hk,I Z hg,I Z hn,B hgd,S ha hl hc],J g true 217 k] x)) [I Z z,S a1 b1 c1,S d1 e1 f1,S g1 h1 i1,I Z j1,S k1 l1 m1,I Z n1,I Z o1,B p1,S q1 r1 s1,I Z t1,S u1 v1 w1,S x1 y1 z1,B a2,S b2 c2 d2,S e2 f2 g2])/\∃j:List Value,mapSet (I Z 6) (A w44) i=some j/\∃k:List Value,mapSet (I Z 5) (A w43) j=some k/\∃(l m n o:Int)(p:Bool)(q:Int)(r:O)(s t:Nat)(u:Bool),mapGet (A w41) (I Z hk) k=some (A #[I Z l,I Z m,I Z n,I Z o,B p,I Z q,S r s t],u)/\YO Tryz.prog 176 [P
 (some (D b 0 none)),A #[I Z l,I Z m,I Z n,I Z o,B p,I Z q,S r s t]] [J b false 41 w40] H fun v w x=>∃y,v=I Z y/\∃(z:Int)(a1:O)(b1 c1:Nat)(d1:O)(e1 f1:Nat)(g1:O)(h1 i1:Nat)(j1:Int)(k1:O)(l1 m1:Nat)(n1 o1:Int)(p1:Bool)(q1:O)(r1 s1:Nat)(t1:Int)(u1:O)(v1 w1:Nat)(x1:O)(y1 z1:Nat)(a2:Bool)(b2:O)(c2 d2:Nat)(e2:O)(f2 g2:Nat),(fun w9:LV=>w=[w9]/\(X base H x->f (SV.v (I Z y)) [J b false 41 w9,J a false 62 [I Z hk,I Z hg,I Z hn,B hgd,S ha hl hc],J g true 217 k] x)) [I Z z,S a1 b1 c1,S d1 e1 f1,S g1 h1 i1,I Z j1,S k1 l1 m1,I Z n1,I Z o1,B p1,S q1 r1 s1,I Z t1,S u1 v1 w1,S x1 y1 z1,B a2,S b2 c2 d2,S e2 f2 g2])/\(∃i:List Value,mapSet (I Z 5) (A w43) h=some i/\(∃j:List Value,mapSet (I Z 1) (A w26) i=some j/\∃k:List Value,mapSet (I Z 6) (A w44) j=some k/\∃(l m n o:Int)(p:Bool)(q:Int)(r:O)(s t:Nat)(u:Bool),mapGet (A w41) (I Z hk) k=some (A #[I Z l,I Z m,I Z n,I Z o,B p,I Z q,S r s t],u)/\YO Tryz.prog 176 [P (some (D b 0 none)),A #[I Z l,I Z m,I Z n,I Z o,B p,I Z q,S r s t]] [J b false 41 w40] H fun v w x=>∃y,v=I Z y/\∃(z:Int)(a1:O)(b1 c1:Nat)(d1:O)(e1 f1:Nat)(g1:O)(h1 i1:Nat)(j1:Int)(k1:O)(l1 m1:Nat)(n1 o1:Int)(p1:Bool)(q1:O)(r1 s1:Nat)(t1:Int)(u1:O)(v1 w1:Nat)(x1:O)(y1 z1:Nat)(a2:Bool)(b2:O)(c2 d2:Nat)(e2:O)(f2 g2:Nat),(fun w10:LV=>w=[w10]/\(X base H x->f (SV.v (I Z y)) [J b false 41 w10,J a false 62 [I Z hk,I Z hg,I Z hn,B hgd,S ha hl hc],J g true 217 k] x)) [I Z z,S a1 b1 c1,S d1 e1 f1,S g1 h1 i1,I Z j1,S k1 l1 m1,I Z n1,I Z o1,B p1,S q1 r1 s1,I Z t1,S u1 v1 w1,S x1 y1 z1,B a2,S b2 c2 d2,S e2 f2 g2])/\∃j:List Value,mapSet (I Z 6) (A w44) i=some j/\∃k:List Value,mapSet (I Z 1) (A w26) j=some k/\∃(l m n o:Int)(p:Bool)(q:Int)(r:O)(s t:Nat)(u:Bool),mapGet (A w41) (I Z hk) k=some (A #[I Z l,I Z m,I Z n,I Z o,B p,I Z q,S r s t],u)/\YO Tryz.prog 176 [P (some (D b 0 none)),A #[I Z l,I Z m,I Z n,I Z o,B p,I Z q,S r s t]] [J b false 41 w40] H fun v w x=>∃y,v=I Z y/\∃(z:Int)(a1:O)(b1 c1:Nat)(d1:O)(e1 f1:Nat)
 (g1:O) (h1 i1:Nat) (j1:Int) (k1:O) (l1 m1:Nat) (n1 o1:Int) (p1:Bool) (q1:O) (r1 s1:Nat) (t1:Int) (u1:O) (v1 w1:Nat) (x1:O) (y1 z1:Nat) (a2:Bool) (b2:O) (c2 d2:Nat) (e2:O) (f2 g2:Nat),(fun w11:LV=>w=[w11]/\(X base H x->f (SV.v (I Z y)) [J b false 41 w11,J a false 62 [I Z hk,I Z hg,I Z hn,B hgd,S ha hl hc],J g true 217 k] x)) [I Z z,S a1 b1 c1,S d1 e1 f1,S g1 h1 i1,I Z j1,S k1 l1 m1,I Z n1,I Z o1,B p1,S q1 r1 s1,I Z t1,S u1 v1 w1,S x1 y1 z1,B a2,S b2 c2 d2,S e2 f2 g2])/\∃i:List Value,mapSet (I Z 6) (A w44) h=some i/\(∃j:List Value,mapSet (I Z 1) (A w26) i=some j/\∃k:List Value,mapSet (I Z 5) (A w43) j=some k/\∃(l m n o:Int)(p:Bool)(q:Int)(r:O)(s t:Nat)(u:Bool),mapGet (A w41) (I Z hk) k=some (A #[I Z l,I Z m,I Z n,I Z o,B p,I Z q,S r s t],u)/\YO Tryz.prog 176 [P (some (D b 0 none)),A #[I Z l,I Z m,I Z n,I Z o,B p,I Z q,S r s t]] [J b false 41 w40] H fun v w x=>∃y,v=I Z y/\∃(z:Int)(a1:O)(b1 c1:Nat)(d1:O)(e1 f1:Nat)(g1:O)(h1 i1:Nat)(j1:Int)(k1:O)(l1 m1:Nat)(n1 o1:Int)(p1:Bool)(q1:O)(r1 s1:Nat)(t1:Int)(u1:O)(v1 w1:Nat)(x1:O)(y1 z1:Nat)(a2:Bool)(b2:O)(c2 d2:Nat)(e2:O)(f2 g2:Nat),(fun w12:LV=>w=[w12]/\(X base H x->f (SV.v (I Z y)) [J b false 41 w12,J a false 62 [I Z hk,I Z hg,I Z hn,B hgd,S ha hl hc],J g true 217 k] x)) [I Z z,S a1 b1 c1,S d1 e1 f1,S g1 h1 i1,I Z j1,S k1 l1 m1,I Z n1,I Z o1,B p1,S q1 r1 s1,I Z t1,S u1 v1 w1,S x1 y1 z1,B a2,S b2 c2 d2,S e2 f2 g2])/\∃j:List Value,mapSet (I Z 5) (A w43) i=some j/\∃k:List Value,mapSet (I Z 1) (A w26) j=some k/\∃(l m n o:Int)(p:Bool)(q:Int)(r:O)(s t:Nat)(u:Bool),mapGet (A w41) (I Z hk) k=some (A #[I Z l,I Z m,I Z n,I Z o,B p,I Z q,S r s t],u)/\YO Tryz.prog 176 [P (some (D b 0 none)),A #[I Z l,I Z m,I Z n,I Z o,B p,I Z q,S r s t]] [J b false 41 w40] H fun v w x=>∃y,v=I Z y/\∃(z:Int)(a1:O)(b1 c1:Nat)(d1:O)(e1 f1:Nat)(g1:O)(h1 i1:Nat)(j1:Int)(k1:O)(l1 m1:Nat)(n1 o1:Int)(p1:Bool)(q1:O)(r1 s1:Nat)(t1:Int)(u1:O)(v1 w1:Nat)(x1:O)(y1 z1:Nat)(a2:Bool)(b2:O)(c2
 d2:Nat) (e2:O) (f2 g2:Nat),(fun w13:LV=>w=[w13]/\(X base H x->f (SV.v (I Z y)) [J b false 41 w13,J a false 62 [I Z hk,I Z hg,I Z hn,B hgd,S ha hl hc],J g true 217 k] x)) [I Z z,S a1 b1 c1,S d1 e1 f1,S g1 h1 i1,I Z j1,S k1 l1 m1,I Z n1,I Z o1,B p1,S q1 r1 s1,I Z t1,S u1 v1 w1,S x1 y1 z1,B a2,S b2 c2 d2,S e2 f2 g2])/\(∃h:List Value,mapSet (I Z 5) (A w43) []=some h/\(∃i:List Value,mapSet (I Z 1) (A w26) h=some i/\(∃j:List Value,mapSet (I Z 2) (A w42) i=some j/\∃k:List Value,mapSet (I Z 6) (A w44) j=some k/\∃(l m n o:Int)(p:Bool)(q:Int)(r:O)(s t:Nat)(u:Bool),mapGet (A w41) (I Z hk) k=some (A #[I Z l,I Z m,I Z n,I Z o,B p,I Z q,S r s t],u)/\YO Tryz.prog 176 [P (some (D b 0 none)),A #[I Z l,I Z m,I Z n,I Z o,B p,I Z q,S r s t]] [J b false 41 w40] H fun v w x=>∃y,v=I Z y/\∃(z:Int)(a1:O)(b1 c1:Nat)(d1:O)(e1 f1:Nat)(g1:O)(h1 i1:Nat)(j1:Int)(k1:O)(l1 m1:Nat)(n1 o1:Int)(p1:Bool)(q1:O)(r1 s1:Nat)(t1:Int)(u1:O)(v1 w1:Nat)(x1:O)(y1 z1:Nat)(a2:Bool)(b2:O)(c2 d2:Nat)(e2:O)(f2 g2:Nat),(fun w14:LV=>w=[w14]/\(X base H x->f (SV.v (I Z y)) [J b false 41 w14,J a false 62 [I Z hk,I Z hg,I Z hn,B hgd,S ha hl hc],J g true 217 k] x)) [I Z z,S a1 b1 c1,S d1 e1 f1,S g1 h1 i1,I Z j1,S k1 l1 m1,I Z n1,I Z o1,B p1,S q1 r1 s1,I Z t1,S u1 v1 w1,S x1 y1 z1,B a2,S b2 c2 d2,S e2 f2 g2])/\∃j:List Value,mapSet (I Z 6) (A w44) i=some j/\∃k:List Value,mapSet (I Z 2) (A w42) j=some k/\∃(l m n o:Int)(p:Bool)(q:Int)(r:O)(s t:Nat)(u:Bool),mapGet (A w41) (I Z hk) k=some (A #[I Z l,I Z m,I Z n,I Z o,B p,I Z q,S r s t],u)/\YO Tryz.prog 176 [P (some (D b 0 none)),A #[I Z l,I Z m,I Z n,I Z o,B p,I Z q,S r s t]] [J b false 41 w40] H fun v w x=>∃y,v=I Z y/\∃(z:Int)(a1:O)(b1 c1:Nat)(d1:O)(e1 f1:Nat)(g1:O)(h1 i1:Nat)(j1:Int)(k1:O)(l1 m1:Nat)(n1 o1:Int)(p1:Bool)(q1:O)(r1 s1:Nat)(t1:Int)(u1:O)(v1 w1:Nat)(x1:O)(y1 z1:Nat)(a2:Bool)(b2:O)(c2 d2:Nat)(e2:O)(f2 g2:Nat),(fun w15:LV=>w=[w15]/\(X base H x->f (SV.v (I Z y)) [J b false 41 w15,J a false 62
 [I Z hk,I Z hg,I Z hn,B hgd,S ha hl hc],J g true 217 k] x)) [I Z z,S a1 b1 c1,S d1 e1 f1,S g1 h1 i1,I Z j1,S k1 l1 m1,I Z n1,I Z o1,B p1,S q1 r1 s1,I Z t1,S u1 v1 w1,S x1 y1 z1,B a2,S b2 c2 d2,S e2 f2 g2])/\(∃i:List Value,mapSet (I Z 2) (A w42) h=some i/\(∃j:List Value,mapSet (I Z 1) (A w26) i=some j/\∃k:List Value,mapSet (I Z 6) (A w44) j=some k/\∃(l m n o:Int)(p:Bool)(q:Int)(r:O)(s t:Nat)(u:Bool),mapGet (A w41) (I Z hk) k=some (A #[I Z l,I Z m,I Z n,I Z o,B p,I Z q,S r s t],u)/\YO Tryz.prog 176 [P (some (D b 0 none)),A #[I Z l,I Z m,I Z n,I Z o,B p,I Z q,S r s t]] [J b false 41 w40] H fun v w x=>∃y,v=I Z y/\∃(z:Int)(a1:O)(b1 c1:Nat)(d1:O)(e1 f1:Nat)(g1:O)(h1 i1:Nat)(j1:Int)(k1:O)(l1 m1:Nat)(n1 o1:Int)(p1:Bool)(q1:O)(r1 s1:Nat)(t1:Int)(u1:O)(v1 w1:Nat)(x1:O)(y1 z1:Nat)(a2:Bool)(b2:O)(c2 d2:Nat)(e2:O)(f2 g2:Nat),(fun w16:LV=>w=[w16]/\(X base H x->f (SV.v (I Z y)) [J b false 41 w16,J a false 62 [I Z hk,I Z hg,I Z hn,B hgd,S ha hl hc],J g true 217 k] x)) [I Z z,S a1 b1 c1,S d1 e1 f1,S g1 h1 i1,I Z j1,S k1 l1 m1,I Z n1,I Z o1,B p1,S q1 r1 s1,I Z t1,S u1 v1 w1,S x1 y1 z1,B a2,S b2 c2 d2,S e2 f2 g2])/\∃j:List Value,mapSet (I Z 6) (A w44) i=some j/\∃k:List Value,mapSet (I Z 1) (A w26) j=some k/\∃(l m n o:Int)(p:Bool)(q:Int)(r:O)(s t:Nat)(u:Bool),mapGet (A w41) (I Z hk) k=some (A #[I Z l,I Z m,I Z n,I Z o,B p,I Z q,S r s t],u)/\YO Tryz.prog 176 [P (some (D b 0 none)),A #[I Z l,I Z m,I Z n,I Z o,B p,I Z q,S r s t]] [J b false 41 w40] H fun v w x=>∃y,v=I Z y/\∃(z:Int)(a1:O)(b1 c1:Nat)(d1:O)(e1 f1:Nat)(g1:O)(h1 i1:Nat)(j1:Int)(k1:O)(l1 m1:Nat)(n1 o1:Int)(p1:Bool)(q1:O)(r1 s1:Nat)(t1:Int)(u1:O)(v1 w1:Nat)(x1:O)(y1 z1:Nat)(a2:Bool)(b2:O)(c2 d2:Nat)(e2:O)(f2 g2:Nat),(fun w17:LV=>w=[w17]/\(X base H x->f (SV.v (I Z y)) [J b false 41 w17,J a false 62 [I Z hk,I Z hg,I Z hn,B hgd,S ha hl hc],J g true 217 k] x)) [I Z z,S a1 b1 c1,S d1 e1 f1,S g1 h1 i1,I Z j1,S k1 l1 m1,I Z n1,I Z o1,B p1,S q1 r1 s1,I Z t1,S u1
 v1 w1,S x1 y1 z1,B a2,S b2 c2 d2,S e2 f2 g2])/\∃i:List Value,mapSet (I Z 6) (A w44) h=some i/\(∃j:List Value,mapSet (I Z 1) (A w26) i=some j/\∃k:List Value,mapSet (I Z 2) (A w42) j=some k/\∃(l m n o:Int)(p:Bool)(q:Int)(r:O)(s t:Nat)(u:Bool),mapGet (A w41) (I Z hk) k=some (A #[I Z l,I Z m,I Z n,I Z o,B p,I Z q,S r s t],u)/\YO Tryz.prog 176 [P (some (D b 0 none)),A #[I Z l,I Z m,I Z n,I Z o,B p,I Z q,S r s t]] [J b false 41 w40] H fun v w x=>∃y,v=I Z y/\∃(z:Int)(a1:O)(b1 c1:Nat)(d1:O)(e1 f1:Nat)(g1:O)(h1 i1:Nat)(j1:Int)(k1:O)(l1 m1:Nat)(n1 o1:Int)(p1:Bool)(q1:O)(r1 s1:Nat)(t1:Int)(u1:O)(v1 w1:Nat)(x1:O)(y1 z1:Nat)(a2:Bool)(b2:O)(c2 d2:Nat)(e2:O)(f2 g2:Nat),(fun w18:LV=>w=[w18]/\(X base H x->f (SV.v (I Z y)) [J b false 41 w18,J a false 62 [I Z hk,I Z hg,I Z hn,B hgd,S ha hl hc],J g true 217 k] x)) [I Z z,S a1 b1 c1,S d1 e1 f1,S g1 h1 i1,I Z j1,S k1 l1 m1,I Z n1,I Z o1,B p1,S q1 r1 s1,I Z t1,S u1 v1 w1,S x1 y1 z1,B a2,S b2 c2 d2,S e2 f2 g2])/\∃j:List Value,mapSet (I Z 2) (A w42) i=some j/\∃k:List Value,mapSet (I Z 1) (A w26) j=some k/\∃(l m n o:Int)(p:Bool)(q:Int)(r:O)(s t:Nat)(u:Bool),mapGet (A w41) (I Z hk) k=some (A #[I Z l,I Z m,I Z n,I Z o,B p,I Z q,S r s t],u)/\YO Tryz.prog 176 [P (some (D b 0 none)),A #[I Z l,I Z m,I Z n,I Z o,B p,I Z q,S r s t]] [J b false 41 w40] H fun v w x=>∃y,v=I Z y/\∃(z:Int)(a1:O)(b1 c1:Nat)(d1:O)(e1 f1:Nat)(g1:O)(h1 i1:Nat)(j1:Int)(k1:O)(l1 m1:Nat)(n1 o1:Int)(p1:Bool)(q1:O)(r1 s1:Nat)(t1:Int)(u1:O)(v1 w1:Nat)(x1:O)(y1 z1:Nat)(a2:Bool)(b2:O)(c2 d2:Nat)(e2:O)(f2 g2:Nat),(fun w19:LV=>w=[w19]/\(X base H x->f (SV.v (I Z y)) [J b false 41 w19,J a false 62 [I Z hk,I Z hg,I Z hn,B hgd,S ha hl hc],J g true 217 k] x)) [I Z z,S a1 b1 c1,S d1 e1 f1,S g1 h1 i1,I Z j1,S k1 l1 m1,I Z n1,I Z o1,B p1,S q1 r1 s1,I Z t1,S u1 v1 w1,S x1 y1 z1,B a2,S b2 c2 d2,S e2 f2 g2])/\∃h:List Value,mapSet (I Z 6) (A w44) []=some h/\(∃i:List Value,mapSet (I Z 1) (A w26) h=some i/\(∃j:List
 Value,mapSet (I Z 2) (A w42) i=some j/\∃k:List Value,mapSet (I Z 5) (A w43) j=some k/\∃(l m n o:Int)(p:Bool)(q:Int)(r:O)(s t:Nat)(u:Bool),mapGet (A w41) (I Z hk) k=some (A #[I Z l,I Z m,I Z n,I Z o,B p,I Z q,S r s t],u)/\YO Tryz.prog 176 [P (some (D b 0 none)),A #[I Z l,I Z m,I Z n,I Z o,B p,I Z q,S r s t]] [J b false 41 w40] H fun v w x=>∃y,v=I Z y/\∃(z:Int)(a1:O)(b1 c1:Nat)(d1:O)(e1 f1:Nat)(g1:O)(h1 i1:Nat)(j1:Int)(k1:O)(l1 m1:Nat)(n1 o1:Int)(p1:Bool)(q1:O)(r1 s1:Nat)(t1:Int)(u1:O)(v1 w1:Nat)(x1:O)(y1 z1:Nat)(a2:Bool)(b2:O)(c2 d2:Nat)(e2:O)(f2 g2:Nat),(fun w20:LV=>w=[w20]/\(X base H x->f (SV.v (I Z y)) [J b false 41 w20,J a false 62 [I Z hk,I Z hg,I Z hn,B hgd,S ha hl hc],J g true 217 k] x)) [I Z z,S a1 b1 c1,S d1 e1 f1,S g1 h1 i1,I Z j1,S k1 l1 m1,I Z n1,I Z o1,B p1,S q1 r1 s1,I Z t1,S u1 v1 w1,S x1 y1 z1,B a2,S b2 c2 d2,S e2 f2 g2])/\∃j:List Value,mapSet (I Z 5) (A w43) i=some j/\∃k:List Value,mapSet (I Z 2) (A w42) j=some k/\∃(l m n o:Int)(p:Bool)(q:Int)(r:O)(s t:Nat)(u:Bool),mapGet (A w41) (I Z hk) k=some (A #[I Z l,I Z m,I Z n,I Z o,B p,I Z q,S r s t],u)/\YO Tryz.prog 176 [P (some (D b 0 none)),A #[I Z l,I Z m,I Z n,I Z o,B p,I Z q,S r s t]] [J b false 41 w40] H fun v w x=>∃y,v=I Z y/\∃(z:Int)(a1:O)(b1 c1:Nat)(d1:O)(e1 f1:Nat)(g1:O)(h1 i1:Nat)(j1:Int)(k1:O)(l1 m1:Nat)(n1 o1:Int)(p1:Bool)(q1:O)(r1 s1:Nat)(t1:Int)(u1:O)(v1 w1:Nat)(x1:O)(y1 z1:Nat)(a2:Bool)(b2:O)(c2 d2:Nat)(e2:O)(f2 g2:Nat),(fun w21:LV=>w=[w21]/\(X base H x->f (SV.v (I Z y)) [J b false 41 w21,J a false 62 [I Z hk,I Z hg,I Z hn,B hgd,S ha hl hc],J g true 217 k] x)) [I Z z,S a1 b1 c1,S d1 e1 f1,S g1 h1 i1,I Z j1,S k1 l1 m1,I Z n1,I Z o1,B p1,S q1 r1 s1,I Z t1,S u1 v1 w1,S x1 y1 z1,B a2,S b2 c2 d2,S e2 f2 g2])/\(∃i:List Value,mapSet (I Z 2) (A w42) h=some i/\(∃j:List Value,mapSet (I Z 1) (A w26) i=some j/\∃k:List Value,mapSet (I Z 5) (A w43) j=some k/\∃(l m n o:Int)(p:Bool)(q:Int)(r:O)(s t:Nat)(u:Bool),mapGet (A w41)
 (I Z hk) k=some (A #[I Z l,I Z m,I Z n,I Z o,B p,I Z q,S r s t],u)/\YO Tryz.prog 176 [P (some (D b 0 none)),A #[I Z l,I Z m,I Z n,I Z o,B p,I Z q,S r s t]] [J b false 41 w40] H fun v w x=>∃y,v=I Z y/\∃(z:Int)(a1:O)(b1 c1:Nat)(d1:O)(e1 f1:Nat)(g1:O)(h1 i1:Nat)(j1:Int)(k1:O)(l1 m1:Nat)(n1 o1:Int)(p1:Bool)(q1:O)(r1 s1:Nat)(t1:Int)(u1:O)(v1 w1:Nat)(x1:O)(y1 z1:Nat)(a2:Bool)(b2:O)(c2 d2:Nat)(e2:O)(f2 g2:Nat),(fun w22:LV=>w=[w22]/\(X base H x->f (SV.v (I Z y)) [J b false 41 w22,J a false 62 [I Z hk,I Z hg,I Z hn,B hgd,S ha hl hc],J g true 217 k] x)) [I Z z,S a1 b1 c1,S d1 e1 f1,S g1 h1 i1,I Z j1,S k1 l1 m1,I Z n1,I Z o1,B p1,S q1 r1 s1,I Z t1,S u1 v1 w1,S x1 y1 z1,B a2,S b2 c2 d2,S e2 f2 g2])/\∃j:List Value,mapSet (I Z 5) (A w43) i=some j/\∃k:List Value,mapSet (I Z 1) (A w26) j=some k/\∃(l m n o:Int)(p:Bool)(q:Int)(r:O)(s t:Nat)(u:Bool),mapGet (A w41) (I Z hk) k=some (A #[I Z l,I Z m,I Z n,I Z o,B p,I Z q,S r s t],u)/\YO Tryz.prog 176 [P (some (D b 0 none)),A #[I Z l,I Z m,I Z n,I Z o,B p,I Z q,S r s t]] [J b false 41 w40] H fun v w x=>∃y,v=I Z y/\∃(z:Int)(a1:O)(b1 c1:Nat)(d1:O)(e1 f1:Nat)(g1:O)(h1 i1:Nat)(j1:Int)(k1:O)(l1 m1:Nat)(n1 o1:Int)(p1:Bool)(q1:O)(r1 s1:Nat)(t1:Int)(u1:O)(v1 w1:Nat)(x1:O)(y1 z1:Nat)(a2:Bool)(b2:O)(c2 d2:Nat)(e2:O)(f2 g2:Nat),(fun w23:LV=>w=[w23]/\(X base H x->f (SV.v (I Z y)) [J b false 41 w23,J a false 62 [I Z hk,I Z hg,I Z hn,B hgd,S ha hl hc],J g true 217 k] x)) [I Z z,S a1 b1 c1,S d1 e1 f1,S g1 h1 i1,I Z j1,S k1 l1 m1,I Z n1,I Z o1,B p1,S q1 r1 s1,I Z t1,S u1 v1 w1,S x1 y1 z1,B a2,S b2 c2 d2,S e2 f2 g2])/\∃i:List Value,mapSet (I Z 5) (A w43) h=some i/\(∃j:List Value,mapSet (I Z 1) (A w26) i=some j/\∃k:List Value,mapSet (I Z 2) (A w42) j=some k/\∃(l m n o:Int)(p:Bool)(q:Int)(r:O)(s t:Nat)(u:Bool),mapGet (A w41) (I Z hk) k=some (A #[I Z l,I Z m,I Z n,I Z o,B p,I Z q,S r s t],u)/\YO Tryz.prog 176 [P (some (D b 0 none)),A #[I Z l,I Z m,I Z n,I Z o,B p,I Z q,S r s t]] [J b
 false 41 w40] H fun v w x=>∃y,v=I Z y/\∃(z:Int)(a1:O)(b1 c1:Nat)(d1:O)(e1 f1:Nat)(g1:O)(h1 i1:Nat)(j1:Int)(k1:O)(l1 m1:Nat)(n1 o1:Int)(p1:Bool)(q1:O)(r1 s1:Nat)(t1:Int)(u1:O)(v1 w1:Nat)(x1:O)(y1 z1:Nat)(a2:Bool)(b2:O)(c2 d2:Nat)(e2:O)(f2 g2:Nat),(fun w24:LV=>w=[w24]/\(X base H x->f (SV.v (I Z y)) [J b false 41 w24,J a false 62 [I Z hk,I Z hg,I Z hn,B hgd,S ha hl hc],J g true 217 k] x)) [I Z z,S a1 b1 c1,S d1 e1 f1,S g1 h1 i1,I Z j1,S k1 l1 m1,I Z n1,I Z o1,B p1,S q1 r1 s1,I Z t1,S u1 v1 w1,S x1 y1 z1,B a2,S b2 c2 d2,S e2 f2 g2])/\∃j:List Value,mapSet (I Z 2) (A w42) i=some j/\∃k:List Value,mapSet (I Z 1) (A w26) j=some k/\∃(l m n o:Int)(p:Bool)(q:Int)(r:O)(s t:Nat)(u:Bool),mapGet (A w41) (I Z hk) k=some (A #[I Z l,I Z m,I Z n,I Z o,B p,I Z q,S r s t],u)/\YO Tryz.prog 176 [P (some (D b 0 none)),A #[I Z l,I Z m,I Z n,I Z o,B p,I Z q,S r s t]] [J b false 41 w40] H fun v w x=>∃y,v=I Z y/\∃(z:Int)(a1:O)(b1 c1:Nat)(d1:O)(e1 f1:Nat)(g1:O)(h1 i1:Nat)(j1:Int)(k1:O)(l1 m1:Nat)(n1 o1:Int)(p1:Bool)(q1:O)(r1 s1:Nat)(t1:Int)(u1:O)(v1 w1:Nat)(x1:O)(y1 z1:Nat)(a2:Bool)(b2:O)(c2 d2:Nat)(e2:O)(f2 g2:Nat),(fun w25:LV=>w=[w25]/\(X base H x->f (SV.v (I Z y)) [J b false 41 w25,J a false 62 [I Z hk,I Z hg,I Z hn,B hgd,S ha hl hc],J g true 217 k] x)) [I Z z,S a1 b1 c1,S d1 e1 f1,S g1 h1 i1,I Z j1,S k1 l1 m1,I Z n1,I Z o1,B p1,S q1 r1 s1,I Z t1,S u1 v1 w1,S x1 y1 z1,B a2,S b2 c2 d2,S e2 f2 g2]) #[I Z 4,I Z 0,I Z 0,I Z 0,B false,I Z e,S ha hl hc]))/\(¬d->∃e:Prop,((hk=3->w39=w39/\SubH H H/\(e↔hk=3))/\(¬hk=3->(hk=4->w39=w39/\SubH H H/\(e↔hk=4))/\(¬hk=4->(hk=7->w39=w39/\SubH H H/\(e↔hk=7))/\(¬hk=7->(hk=8->w39=w39/\SubH H H/\(e↔hk=8))/\(¬hk=8->(hk=12->w39=w39/\SubH H H/\(e↔hk=12))/\(¬hk=12->w39=w39/\SubH H H/\(e↔hk=13)))))))/\(e->((nl:Int)<=hg->f (SV.v (I Z 5)) w39 H)/\(¬(nl:Int)<=hg->(hg<0->(¬hk=12->(¬hk=13->f (SV.v (I Z 5)) w39 H)/\(¬¬hk=13->∃g:Prop,((hk=3->w39=w39/\SubH H H/\(g↔hk=3))/\(¬hk=3->w39=w39/\SubH H
 H/\(g↔hk=4)))/\(g->(up=false->f (SV.v (I Z 7)) w39 H)/\(¬up=false->YO Tryz.prog 177 w45 [J b false 41 w40] H fun h i j=>∃k,h=I Z k/\∃(l:Int)(m:O)(n o:Nat)(p:O)(q r:Nat)(s:O)(t u:Nat)(v:Int)(w:O)(x y:Nat)(z a1:Int)(b1:Bool)(c1:O)(d1 e1:Nat)(f1:Int)(g1:O)(h1 i1:Nat)(j1:O)(k1 l1:Nat)(m1:Bool)(n1:O)(o1 p1:Nat)(q1:O)(r1 s1:Nat),(fun w27:LV=>i=[w27]/\(X base H j->f (SV.v (I Z k)) [J b false 41 w27,J a false 62 [I Z hk,I Z hg,I Z hn,B hgd,S ha hl hc]] j)) [I Z l,S m n o,S p q r,S s t u,I Z v,S w x y,I Z z,I Z a1,B b1,S c1 d1 e1,I Z f1,S g1 h1 i1,S j1 k1 l1,B m1,S n1 o1 p1,S q1 r1 s1]))/\(¬g->∃h:Prop,((hk=12->w39=w39/\SubH H H/\(h↔hk=12))/\(¬hk=12->w39=w39/\SubH H H/\(h↔hk=13)))/\(h->∃(i:Wld)(j:WA)(k:Heap)(l:List (List Value))(m:Hap)(n:O)(o p:Nat),(41=41/\w40=wldCells i j/\A #[I Z hk,I Z hg,I Z hn,B hgd,S ha hl hc]=A #[I Z (Hap.kind m),I Z (Hap.agent m),I Z (Hap.num m),B (Hap.good m),S n o p]/\true=true)/\HapPre base k H i j l m n o/\Hap.agent m<(↑(List.length (Wld.n i)):Int)/\∀(q:Int)(r:Wld)(s:WA)(t:Heap)(u:List (List Value))(v:Heap),RunPost (wPower i m) base k H i j q r s t u v->f (SV.v (I Z q)) [J b false 41 (wldCells r s),J a false 62 [I Z hk,I Z hg,I Z hn,B hgd,S ha hl hc]] v)/\(¬h->∃i j,na=some (D i j none)/\0<=hg/\hg<(nl:Int)/\∃(k:O)(l m:Nat)(n o:Int)(p:Bool)(q:Int)(r:O)(s t:Nat)(u:Bool)(v:O)(w x:Nat)(y:O)(z a1:Nat)(b1:Bool),(fun w30:LV=>(C H i (j+N hg*10)=some (S k l m)/\C H i (j+N hg*10+1)=some (I Z n)/\C H i (j+N hg*10+2)=some (I Z o)/\C H i (j+N hg*10+3)=some (B p)/\C H i (j+N hg*10+4)=some (I Z q)/\C H i (j+N hg*10+5)=some (S r s t)/\C H i (j+N hg*10+6)=some (B u)/\C H i (j+N hg*10+7)=some (S v w x)/\C H i (j+N hg*10+8)=some (S y z a1)/\C H i (j+N hg*10+9)=some (B b1)/\True)/\∀c1:Nat,(fun w29:LB=>(b1=false->f (SV.v (I Z 7)) w29 H)/\(¬b1=false->(hk=7->∃(d1:Wld)(e1:WA)(f1:Heap)(g1:List (List Value))(h1:Hap)(i1:O)(j1 k1:Nat),(41=41/\w40=wldCells d1 e1/\A #[I Z hk,I Z hg,I Z hn,B hgd,S ha hl hc]=A #[I Z (Hap.kind h1),I Z (Hap.agent h1),I Z (Hap.num h1),B (Hap.good h1),S i1 j1 k1]/\true=true)/\HapPre base f1 H d1 e1 g1 h1 i1 j1/\(0<=Hap.agent h1/\Hap.agent h1<(↑(List.length (Wld.n d1)):Int))/\∀(l1:Int)(m1:Wld)(n1:WA)(o1:Heap)(p1:List (List Value))(q1:Heap),RunPost (wStepAt d1 h1) base f1 H d1 e1 l1 m1 n1 o1 p1 q1->f (SV.v (I Z l1)) [J b false 41 (wldCells m1 n1),J a false 62 [I Z hk,I Z hg,I Z hn,B hgd,S ha hl hc],J c1 false 58 w30] q1)/\(¬hk=7->∃d1:Prop,((p=true->w29=w29/\SubH H H/\d1)/\(p=false->w29=w29/\SubH H H/\(d1↔o=0)))/\(d1->f (SV.v (I Z 7)) w29 H)/\(¬d1->YO Tryz.prog 180 w46 [J b false 41 w40] H fun e1 f1 g1=>e1=T #[]/\∃(h1:Int)(i1:O)(j1 k1:Nat)(l1:O)(m1 n1:Nat)(o1:O)(p1 q1:Nat)(r1:Int)(s1:O)(t1 u1:Nat)(v1 w1:Int)(x1:Bool)(y1:O)(z1 a2:Nat)(b2:Int)(c2:O)(d2 e2:Nat)(f2:O)(g2 h2:Nat)(i2:Bool)(j2:O)(k2 l2:Nat)(m2:O)(n2 o2:Nat),(fun w28:LV=>f1=[w28]/\(X base H g1->f (SV.v (I Z 0)) [J b false 41 w28,J a false 62 [I Z hk,I Z hg,I Z hn,B hgd,S ha hl hc],J c1 false 58 w30] g1)) [I Z h1,S i1 j1 k1,S l1 m1 n1,S o1 p1 q1,I Z r1,S s1 t1 u1,I Z v1,I Z w1,B x1,S y1 z1 a2,I Z b2,S c2 d2 e2,S f2 g2 h2,B i2,S j2 k2 l2,S m2 n2 o2])))) [J b false 41 w40,J a false 62 [I Z hk,I Z hg,I Z hn,B hgd,S ha hl hc],J c1 false 58 w30]) [S k l m,I Z n,I Z o,B p,I Z q,S r s t,B u,S v w x,S y z a1,B b1]))))/\(¬¬hk=12->∃g:Prop,((hk=3->w39=w39/\SubH H H/\(g↔hk=3))/\(¬hk=3->w39=w39/\SubH H H/\(g↔hk=4)))/\(g->(up=false->f (SV.v (I Z 7)) w39 H)/\(¬up=false->YO Tryz.prog 177 w45 [J b false 41 w40] H fun h i j=>∃k,h=I Z k/\∃(l:Int)(m:O)(n o:Nat)(p:O)(q r:Nat)(s:O)(t u:Nat)(v:Int)(w:O)(x y:Nat)(z a1:Int)(b1:Bool)(c1:O)(d1 e1:Nat)(f1:Int)(g1:O)(h1 i1:Nat)(j1:O)(k1 l1:Nat)(m1:Bool)(n1:O)(o1 p1:Nat)(q1:O)(r1 s1:Nat),(fun w31:LV=>i=[w31]/\(X base H j->f (SV.v (I Z k)) [J b false 41 w31,J a false 62 [I Z hk,I Z hg,I Z hn,B hgd,S ha hl hc]] j)) [I Z l,S m n
 o,S p q r,S s t u,I Z v,S w x y,I Z z,I Z a1,B b1,S c1 d1 e1,I Z f1,S g1 h1 i1,S j1 k1 l1,B m1,S n1 o1 p1,S q1 r1 s1]))/\(¬g->∃h:Prop,((hk=12->w39=w39/\SubH H H/\(h↔hk=12))/\(¬hk=12->w39=w39/\SubH H H/\(h↔hk=13)))/\(h->∃(i:Wld)(j:WA)(k:Heap)(l:List (List Value))(m:Hap)(n:O)(o p:Nat),(41=41/\w40=wldCells i j/\A #[I Z hk,I Z hg,I Z hn,B hgd,S ha hl hc]=A #[I Z (Hap.kind m),I Z (Hap.agent m),I Z (Hap.num m),B (Hap.good m),S n o p]/\true=true)/\HapPre base k H i j l m n o/\Hap.agent m<(↑(List.length (Wld.n i)):Int)/\∀(q:Int)(r:Wld)(s:WA)(t:Heap)(u:List (List Value))(v:Heap),RunPost (wPower i m) base k H i j q r s t u v->f (SV.v (I Z q)) [J b false 41 (wldCells r s),J a false 62 [I Z hk,I Z hg,I Z hn,B hgd,S ha hl hc]] v)/\(¬h->∃i j,na=some (D i j none)/\0<=hg/\hg<(nl:Int)/\∃(k:O)(l m:Nat)(n o:Int)(p:Bool)(q:Int)(r:O)(s t:Nat)(u:Bool)(v:O)(w x:Nat)(y:O)(z a1:Nat)(b1:Bool),(fun w34:LV=>(C H i (j+N hg*10)=some (S k l m)/\C H i (j+N hg*10+1)=some (I Z n)/\C H i (j+N hg*10+
 2)=some (I Z o)/\C H i (j+N hg*10+3)=some (B p)/\C H i (j+N hg*10+4)=some (I Z q)/\C H i (j+N hg*10+5)=some (S r s t)/\C H i (j+N hg*10+6)=some (B u)/\C H i (j+N hg*10+7)=some (S v w x)/\C H i (j+N hg*10+8)=some (S y z a1)/\C H i (j+N hg*10+9)=some (B b1)/\True)/\∀c1:Nat,(fun w33:LB=>(b1=false->f (SV.v (I Z 7)) w33 H)/\(¬b1=false->(hk=7->∃(d1:Wld)(e1:WA)(f1:Heap)(g1:List (List Value))(h1:Hap)(i1:O)(j1 k1:Nat),(41=41/\w40=wldCells d1 e1/\A #[I Z hk,I Z hg,I Z hn,B hgd,S ha hl hc]=A #[I Z (Hap.kind h1),I Z (Hap.agent h1),I Z (Hap.num h1),B (Hap.good h1),S i1 j1 k1]/\true=true)/\HapPre base f1 H d1 e1 g1 h1 i1 j1/\(0<=Hap.agent h1/\Hap.agent h1<(↑(List.length (Wld.n d1)):Int))/\∀(l1:Int)(m1:Wld)(n1:WA)(o1:Heap)(p1:List (List Value))(q1:Heap),RunPost (wStepAt d1 h1) base f1 H d1 e1 l1 m1 n1 o1 p1 q1->f (SV.v (I Z l1)) [J b false 41 (wldCells m1 n1),J a false 62 [I Z hk,I Z hg,I Z hn,B
 hgd,S ha hl hc],J c1 false 58 w34] q1)/\(¬hk=7->∃d1:Prop,((p=true->w33=w33/\SubH H H/\d1)/\(p=false->w33=w33/\SubH H H/\(d1↔o=0)))/\(d1->f (SV.v (I Z 7)) w33 H)/\(¬d1->YO Tryz.prog 180 w46 [J b false 41 w40] H fun e1 f1 g1=>e1=T #[]/\∃(h1:Int)(i1:O)(j1 k1:Nat)(l1:O)(m1 n1:Nat)(o1:O)(p1 q1:Nat)(r1:Int)(s1:O)(t1 u1:Nat)(v1 w1:Int)(x1:Bool)(y1:O)(z1 a2:Nat)(b2:Int)(c2:O)(d2 e2:Nat)(f2:O)(g2 h2:Nat)(i2:Bool)(j2:O)(k2 l2:Nat)(m2:O)(n2 o2:Nat),(fun w32:LV=>f1=[w32]/\(X base H g1->f (SV.v (I Z 0)) [J b false 41 w32,J a false 62 [I Z hk,I Z hg,I Z hn,B hgd,S ha hl hc],J c1 false 58 w34] g1)) [I Z h1,S i1 j1 k1,S l1 m1 n1,S o1 p1 q1,I Z r1,S s1 t1 u1,I Z v1,I Z w1,B x1,S y1 z1 a2,I Z b2,S c2 d2 e2,S f2 g2 h2,B i2,S j2 k2 l2,S m2 n2 o2])))) [J b false 41 w40,J a false 62 [I Z hk,I Z hg,I Z hn,B hgd,S ha hl hc],J c1 false 58 w34]) [S k l m,I Z n,I Z o,B p,I Z q,S r s t,B u,S v w x,S y z a1,B b1]))))/\(¬hg<0->∃g:Prop,((hk=3->w39=w39/\SubH H H/\(g↔hk=3))/\(¬hk=3->w39=w39/\SubH H H/\(g↔hk=4)))/\(g->(up=false->f (SV.v (I Z 7)) w39 H)/\(¬up=false->YO Tryz.prog 177 w45 [J b false 41 w40] H fun h i j=>∃k,h=I Z k/\∃(l:Int)(m:O)(n o:Nat)(p:O)(q r:Nat)(s:O)(t u:Nat)(v:Int)(w:O)(x y:Nat)(z a1:Int)(b1:Bool)(c1:O)(d1 e1:Nat)(f1:Int)(g1:O)(h1 i1:Nat)(j1:O)(k1 l1:Nat)(m1:Bool)(n1:O)(o1 p1:Nat)(q1:O)(r1 s1:Nat),(fun w35:LV=>i=[w35]/\(X base H j->f (SV.v (I Z k)) [J b false 41 w35,J a false 62 [I Z hk,I Z hg,I Z hn,B hgd,S ha hl hc]] j)) [I Z l,S m n o,S p q r,S s t u,I Z v,S w x y,I Z z,I Z a1,B b1,S c1 d1 e1,I Z f1,S g1 h1 i1,S j1 k1 l1,B m1,S n1 o1 p1,S q1 r1 s1]))/\(¬g->∃h:Prop,((hk=12->w39=w39/\SubH H H/\(h↔hk=12))/\(¬hk=12->w39=w39/\SubH H H/\(h↔hk=13)))/\(h->∃(i:Wld)(j:WA)(k:Heap)(l:List (List Value))(m:Hap)(n:O)(o p:Nat),(41=41/\w40=wldCells i j/\A #[I Z hk,I Z hg,I Z hn,B hgd,S ha hl hc]=A #[I Z (Hap.kind m),I Z (Hap.agent m),I Z (Hap.num m),B (Hap.good m),S n o p]/\true=true)/\HapPre base k H i j l m n o/\Hap.agent m<(↑(List.length (Wld.n i)):Int)/\∀(q:Int)(r:Wld)(s:WA)(t:Heap)(u:List (List Value))(v:Heap),RunPost (wPower i m) base k H i j q r s t u v->f (SV.v (I Z q)) [J b false 41 (wldCells r s),J a false 62 [I Z hk,I Z hg,I Z hn,B hgd,S ha hl hc]] v)/\(¬h->∃i j,na=some (D i j none)/\0<=hg/\hg<(nl:Int)/\∃(k:O)(l m:Nat)(n o:Int)(p:Bool)(q:Int)(r:O)(s t:Nat)(u:Bool)(v:O)(w x:Nat)(y:O)(z a1:Nat)(b1:Bool),(fun w38:LV=>(C H i (j+N hg*10)=some (S k l m)/\C H i (j+N hg*10+1)=some (I Z n)/\C H i (j+N hg*10+2)=some (I Z o)/\C H i (j+N hg*10+3)=some (B p)/\C H i (j+N hg*10+4)=some (I Z q)/\C H i (j+N hg*10+5)=some (S r s t)/\C H i (j+N hg*10+6)=some (B u)/\C H i (j+N hg*10+7)=some (S v w x)/\C H i (j+N hg*10+8)=some (S y z a1)/\C H i (j+N hg*10+9)=some (B b1)/\True)/\∀c1:Nat,(fun w37:LB=>(b1=false->f (SV.v (I Z 7)) w37 H)/\(¬b1=false->(hk=7->∃(d1:Wld)(e1:WA)(f1:Heap)(g1:List (List Value))(h1:Hap)(i1:O)(j1 k1:Nat),(41=41/\w40=[I Z
 (Rls.id (Conf.first (Wld.c d1))),S (WA.fa e1) (WA.fl e1) (WA.fc e1),S (WA.ra e1) (WA.rl e1) (WA.rc e1),S (WA.wa e1) (WA.wl e1) (WA.wc e1),I Z (Conf.bud (Wld.c d1)),S (WA.la e1) (WA.ll e1) (WA.lc e1),I Z (Ldr.now (Hed.l (Wld.h d1))),I Z (Ldr.goal (Hed.l (Wld.h d1))),B (Ldr.back (Hed.l (Wld.h d1))),S (WA.ka e1) (WA.kl e1) (WA.kc e1),I Z (Ldr.nx (Hed.l (Wld.h d1))),S (WA.sa e1) (WA.sl e1) (WA.sc e1),S (WA.ta e1) (WA.tl e1) (WA.tc e1),B (Hed.up (Wld.h d1)),S (WA.na e1) (WA.nl e1) (WA.nc e1),S (WA.ma e1) (WA.ml e1) (WA.mc e1)]/\A #[I Z hk,I Z hg,I Z hn,B hgd,S ha hl hc]=A #[I Z (Hap.kind h1),I Z (Hap.agent h1),I Z (Hap.num h1),B (Hap.good h1),S i1 j1 k1]/\true=true)/\HapPre base f1 H d1 e1 g1 h1 i1 j1/\(0<=Hap.agent h1/\Hap.agent h1<(↑(List.length (Wld.n d1)):Int))/\∀(l1:Int)(m1:Wld)(n1:WA)(o1:Heap)(p1:List (List Value))(q1:Heap),RunPost (wStepAt d1 h1) base f1 H d1 e1 l1 m1 n1 o1 p1 q1->f (SV.v (I Z l1)) [J b false 41 (wldCells m1 n1),J a false 62 [I Z hk,I Z hg,I Z hn,B hgd,S ha hl hc],J c1 false 58 w38] q1)/\(¬hk=7->∃d1:Prop,((p=true->w37=w37/\SubH H H/\d1)/\(p=false->w37=w37/\SubH H H/\(d1↔o=0)))/\(d1->f (SV.v (I Z 7)) w37 H)/\(¬d1->YO Tryz.prog 180 w46 [J b false 41 w40] H fun e1 f1 g1=>e1=T #[]/\∃(h1:Int)(i1:O)(j1 k1:Nat)(l1:O)(m1 n1:Nat)(o1:O)(p1 q1:Nat)(r1:Int)(s1:O)(t1 u1:Nat)(v1 w1:Int)(x1:Bool)(y1:O)(z1 a2:Nat)(b2:Int)(c2:O)(d2 e2:Nat)(f2:O)(g2 h2:Nat)(i2:Bool)(j2:O)(k2 l2:Nat)(m2:O)(n2 o2:Nat),(fun w36:LV=>f1=[w36]/\(X
 base H g1->f (SV.v (I Z 0)) [J b false 41 w36,J a false 62 [I Z hk,I Z hg,I Z hn,B hgd,S ha hl hc],J c1 false 58 w38] g1)) [I Z h1,S i1 j1 k1,S l1 m1 n1,S o1 p1 q1,I Z r1,S s1 t1 u1,I Z v1,I Z w1,B x1,S y1 z1 a2,I Z b2,S c2 d2 e2,S f2 g2 h2,B i2,S j2 k2 l2,S m2 n2 o2])))) [J b false 41 w40,J a false 62 [I Z hk,I Z hg,I Z hn,B hgd,S ha hl hc],J c1 false 58 w38]) [S k l m,I Z n,I Z o,B p,I Z q,S r s t,B u,S v w x,S y z a1,B b1])))))/\(¬e->f (SV.v (I Z 4)) w39 H))))) [J b false 41 w40,J a false 62 [I Z hk,I Z hg,I Z hn,B hgd,S ha hl hc]]) [I Z id,S fa fl fc,S ra rl rc,S wa wl wc,I Z bud,S la ll lc,I Z now,I Z goal,B back,S ka kl kc,I Z nx,S sa sl sc,S ta tl tc,B up,S na nl nc,S ma ml mc]) #[I Z 0,I Z 0,I Z 0,I Z 0,B false,I Z 0,S none 0 0]) #[I Z 5,I Z 0,I Z 0,I Z hn,B false,I Z 0,S none 0 0]) #[I Z 8,I Z 0,I Z 0,I Z 0,B false,I Z 0,S none 0 0]) #[I Z 9,I Z 0,I Z 0,I Z 0,B false,I Z 0,S none 0 0]) [P (some (D b 0 none)),A #[I Z hk,I Z hg,I Z hn,B hgd,S ha hl hc]]) [P (some (D b 0 none)),I Z hg]):=by kernel_rfl
open Go Go.Proofs
def LeadOut(base b:Nat)(H:Heap)(f:SV->List Bx->Heap->Prop)(own1:List Bx):Value->List (List Value)->Heap->Prop:=fun v css H'=>
 ∃n:Int,v= .int .i64 n/\∃i1:Int,∃a2:O,∃l2:Nat,∃c2:Nat,∃a3:O,∃l3:Nat,∃c3:Nat,∃a4:O,∃l4:Nat,∃c4:Nat,∃i5:Int,∃a6:O,∃l6:Nat,∃c6:Nat,∃i7:Int,∃i8:Int,∃b9:Bool,∃a10:O,∃l10:Nat,∃c10:Nat,∃i11:Int,∃a12:O,∃l12:Nat,∃c12:Nat,∃a13:O,∃l13:Nat,∃c13:Nat,∃b14:Bool,∃a15:O,∃l15:Nat,∃c15:Nat,∃a16:O,∃l16:Nat,∃c16:Nat,css=[[.int .i64 i1,.slice a2 l2 c2,.slice a3 l3 c3,.slice a4 l4 c4,.int .i64 i5,.slice a6 l6 c6,.int .i64 i7,.int .i64 i8,.bool b9,.slice a10 l10 c10,.int .i64 i11,.slice a12 l12 c12,.slice a13 l13 c13,.bool b14,.slice a15 l15 c15,.slice a16 l16 c16]]/\(Vg.Next base H H'->f (.v (.int .i64 n)) (⟨b,false,41,[.int .i64 i1,.slice a2 l2 c2,.slice a3 l3 c3,.slice a4 l4 c4,.int .i64 i5,.slice a6 l6 c6,.int .i64 i7,.int .i64 i8,.bool b9,.slice a10 l10 c10,.int .i64 i11,.slice a12 l12 c12,.slice a13 l13 c13,.bool b14,.slice a15 l15 c15,.slice a16 l16 c16]⟩::own1) H')
section
variable {base : Nat} {H0 G H : Heap} {w : Wld} {p : WA} {rows : List (List Value)} {x : Hap} {a : O} {l c b : Nat} {f : SV->List Bx->Heap->Prop}
theorem happ_lead(h:HapPre base G H w p rows x a l)
  (hf:∀e w' p' G' rows' H' own1,RunPost (wHap w x) base G H w p e w' p' G' rows' H'->f (.v (.int .i64 e)) (⟨b,false,41,wldCells w' p'⟩::own1) H') {r:Recd} (hE:wHap w x=wLead w r) {qa:O} {ql qc:Nat} (hq:Pins G qa ql r.rel.lock) (own1:List Bx):
  SpecO Tryz.prog 176 [.pointer (some ⟨b,0,none⟩),recArg r qa ql qc] [⟨b,false,41,wldCells w p⟩] H (LeadOut base b H f own1):=by
 refine((cLeads h.lb h.own.parts hq b).grown h.sub).mono fun v css H2 e2 hv=> ?_
 obtain⟨G2,g2,p2,rfl,hcss,hP2,n1,n2,n3,n4⟩:=hv
 exact⟨_,rfl,wld16 hcss fun hN2=>hf _ _ p2 G2 rows H2 _ ⟨(h.start.grown g2).be hP2 n1 n2 n3 n4,by rw[hE],by rw[hE]⟩⟩
theorem happ_in(h:HapPre base G H w p rows x a l)
  (hf:∀e w' p' G' rows' H' own1,RunPost (wHap w x) base G H w p e w' p' G' rows' H'->f (.v (.int .i64 e)) (⟨b,false,41,wldCells w' p'⟩::own1) H'):
  codeI ⟨Tryz.prog,Tryz.f91.ntmps,⟨TryzListT,TryzSumT,true⟩,base,H0⟩ Tryz.f91 [.loc 0 0,.v (hapArg x a l c)] [⟨b,false,41,wldCells w p⟩] H f:=by
 rw[vx91]
 have g0:Grown G H G H:=⟨Ext.refl _,h.sub,Ext.refl _,fun y k h1 h2=>(by rw[h1] at h2;cases h2)⟩
 have out:∀ {R:Except Int Wld},wHap w x=R->∀e w' p' G' rows' H' own1,RunPost R base G H w p e w' p' G' rows' H'->f (.v (.int .i64 e)) (⟨b,false,41,wldCells w' p'⟩::own1) H':=fun{R} hR e w' p' G' rows' H' own1 hP=>hf _ _ _ _ _ _ _ (hR▸hP)
 have bad:∀ {e:Int},wHap w x= .error e->∀ {G1 H1:Heap},Grown G H G1 H1->∀own1,f (.v (.int .i64 e)) (⟨b,false,41,wldCells w p⟩::own1) H1:=fun{e} he {G1 H1} g own1=>out he e w p G1 rows H1 own1 ⟨h.start.grown g,rfl,rfl⟩
 have good:∀ {w':Wld},wHap w x= .ok w'->∀ {p':WA} {G1 H1:Heap} {rows1:List (List Value)},OwnPost base G H p w' p' G1 rows1 H1->∀own1,f (.v (.int .i64 0)) (⟨b,false,41,wldCells w' p'⟩::own1) H1:=fun{w'} he {p' G1 H1 rows1} g own1=>out he 0 w' p' G1 rows1 H1 own1 ⟨g,rfl,rfl⟩
 have hl:=h.own.len
 have hR:=wldErr_zero.1 h.ok
 have hll:w.h.l.rels.length<=100000:=hR.sizes.2.1.1
 have hrl:=h.own.parts.ldr.rels.len
 refine fun b1=>⟨x.kind=9∨x.kind=10,⟨fun h9=>⟨rfl,subH,⟨fun _=>h9,fun _=> .inl h9⟩⟩,fun h9=>⟨rfl,subH,⟨fun h=>h.resolve_left h9,.inr⟩⟩⟩,fun hφ=> ?_,fun hφ=>⟨fun h11=> ?_,fun h11=> ?_⟩⟩
 ·exact⟨w,p,G,rows,x,a,l,c,⟨rfl,rfl,rfl,rfl⟩,h,rfl,fun e w' p' G' rows' H' hP=>out (by unfold wHap;rw[if_pos hφ]) _ _ _ _ _ _ _ hP⟩
 ·have hE:wHap w x=if takeErr w.m x.num≠0 then .error (takeErr w.m x.num) else .ok { w with m:=left w.m x.num false } :=by
   unfold wHap;rw[if_neg hφ,if_pos h11]
  refine⟨?_,fun b2=> ?_⟩
  all_goals
   refine((cTakeR (c:=p.mc) h.own.parts.mail x.num false).grown h.sub).mono fun v H1 e1 hv=> ?_
   obtain⟨G1,g1,ta,tn,tc,la,ln,lc,rfl,hM,hQ,hRm⟩:=hv
   refine⟨_,_,_,_,_,_,_,_,_,_,_,_,rfl,fun hN1=> ?_⟩
   try intro b4
   refine⟨fun ht=> ?_,fun ht=> ?_⟩
   ·rw[if_pos ht] at hM
    rw[if_neg (by omega)] at hE
    have hP:=h.own.parts.ext g1.ext
    exact out hE _ { w with m:=left w.m x.num false } { p with ma:=ta,ml:=tn,mc:=tc } G1 rows H1 _ ⟨(h.start.grown g1).be ⟨hP.cfg,hP.ldr,hP.dsk,hM,hRm⟩ rfl rfl rfl rfl,ht,rfl⟩
   ·rw[if_pos ht] at hE
    exact bad hE g1 _
 ·refine⟨x.kind=1∨x.kind=2∨x.kind=5∨x.kind=6,⟨fun h1=>⟨rfl,subH,⟨fun _=>h1,fun _=> .inl h1⟩⟩,fun h1=>⟨fun h2=>⟨rfl,subH,⟨fun _=>h2,fun _=> .inr (.inl h2)⟩⟩,fun h2=>⟨fun h3=>⟨rfl,subH,⟨fun _=>h3,fun _=> .inr (.inr (.inl h3))⟩⟩,fun h3=>⟨rfl,subH,⟨fun h=>((h.resolve_left h1).resolve_left h2).resolve_left h3,fun h=> .inr (.inr (.inr h))⟩⟩⟩⟩⟩,fun hk=>⟨fun hu=> ?_,fun hu r hr b2=> ?_⟩,fun hk=> ?_⟩
  ·exact bad (by unfold wHap;rw[if_neg hφ,if_neg h11,if_pos hk,if_pos hu]) g0 _
  ·have hE:wHap w x=wLead w (hapRec w x):=by unfold wHap;rw[if_neg hφ,if_neg h11,if_pos hk,if_neg hu]
   have hr':r=(w.h.l.rels.length:Int)+1:=by rw[hr,wrap_in (by omega) (by omega)];omega
   have lead:∀own1,(x.kind=1->SpecO Tryz.prog 176 [.pointer (some ⟨b,0,none⟩),.agg #[.int .i64 4,.int .i64 0,.int .i64 0,.int .i64 0,.bool false,.int .i64 r,.slice a l c]] [⟨b,false,41,wldCells w p⟩] H (LeadOut base b H f own1))/\
     (x.kind=2->SpecO Tryz.prog 176 [.pointer (some ⟨b,0,none⟩),.agg #[.int .i64 5,.int .i64 0,.int .i64 0,.int .i64 x.num,.bool false,.int .i64 0,.slice none 0 0]] [⟨b,false,41,wldCells w p⟩] H (LeadOut base b H f own1))/\
     (x.kind=5->SpecO Tryz.prog 176 [.pointer (some ⟨b,0,none⟩),.agg #[.int .i64 8,.int .i64 0,.int .i64 0,.int .i64 0,.bool false,.int .i64 0,.slice none 0 0]] [⟨b,false,41,wldCells w p⟩] H (LeadOut base b H f own1))/\
     (x.kind=6->SpecO Tryz.prog 176 [.pointer (some ⟨b,0,none⟩),.agg #[.int .i64 9,.int .i64 0,.int .i64 0,.int .i64 0,.bool false,.int .i64 0,.slice none 0 0]] [⟨b,false,41,wldCells w p⟩] H (LeadOut base b H f own1)):=by
    intro own1
    refine⟨fun k=> ?_,fun k=> ?_,fun k=> ?_,fun k=> ?_⟩
    ·rw[hr']
     exact happ_lead h hf (r:=⟨4,0,0,0,false,⟨w.h.l.rels.length+1,x.lock⟩⟩) (by rw[hE];unfold hapRec;rw[if_pos k]) h.lock own1
    ·exact happ_lead h hf (r:=⟨5,0,0,x.num,false,⟨0,[]⟩⟩) (by rw[hE];unfold hapRec;rw[if_neg (by omega),if_pos k]) Sl.nil own1
    ·exact happ_lead h hf (r:=⟨8,0,0,0,false,⟨0,[]⟩⟩) (by rw[hE];unfold hapRec;rw[if_neg (by omega),if_neg (by omega),if_pos k]) Sl.nil own1
    ·exact happ_lead h hf (r:=⟨9,0,0,0,false,⟨0,[]⟩⟩) (by rw[hE];unfold hapRec;rw[if_neg (by omega),if_neg (by omega),if_neg (by omega)]) Sl.nil own1
   clear hE hr hr'
   refine⟨⟨_,rfl,⟨⟨_,rfl,⟨⟨_,rfl,⟨_,rfl,?_⟩⟩,⟨_,rfl,⟨_,rfl,?_⟩⟩⟩⟩,⟨_,rfl,⟨⟨_,rfl,⟨_,rfl,?_⟩⟩,⟨_,rfl,⟨_,rfl,?_⟩⟩⟩⟩,⟨_,rfl,⟨⟨_,rfl,⟨_,rfl,?_⟩⟩,⟨_,rfl,⟨_,rfl,?_⟩⟩⟩⟩⟩⟩,⟨_,rfl,⟨⟨_,rfl,⟨⟨_,rfl,⟨_,rfl,?_⟩⟩,⟨_,rfl,⟨_,rfl,?_⟩⟩⟩⟩,⟨_,rfl,⟨⟨_,rfl,⟨_,rfl,?_⟩⟩,⟨_,rfl,⟨_,rfl,?_⟩⟩⟩⟩,⟨_,rfl,⟨⟨_,rfl,⟨_,rfl,?_⟩⟩,⟨_,rfl,⟨_,rfl,?_⟩⟩⟩⟩⟩⟩,⟨_,rfl,⟨⟨_,rfl,⟨⟨_,rfl,⟨_,rfl,?_⟩⟩,⟨_,rfl,⟨_,rfl,?_⟩⟩⟩⟩,⟨_,rfl,⟨⟨_,rfl,⟨_,rfl,?_⟩⟩,⟨_,rfl,⟨_,rfl,?_⟩⟩⟩⟩,⟨_,rfl,⟨⟨_,rfl,⟨_,rfl,?_⟩⟩,⟨_,rfl,⟨_,rfl,?_⟩⟩⟩⟩⟩⟩,⟨_,rfl,⟨⟨_,rfl,⟨⟨_,rfl,⟨_,rfl,?_⟩⟩,⟨_,rfl,⟨_,rfl,?_⟩⟩⟩⟩,⟨_,rfl,⟨⟨_,rfl,⟨_,rfl,?_⟩⟩,⟨_,rfl,⟨_,rfl,?_⟩⟩⟩⟩,⟨_,rfl,⟨⟨_,rfl,⟨_,rfl,?_⟩⟩,⟨_,rfl,⟨_,rfl,?_⟩⟩⟩⟩⟩⟩⟩
   all_goals
    rcases hk with k|k|k|k
    ·exact⟨_,_,_,_,_,_,_,_,_,true,by rw[k];rfl,(lead _).1 k⟩
    ·exact⟨_,_,_,_,_,_,_,_,_,true,by rw[k];rfl,(lead _).2.1 k⟩
    ·exact⟨_,_,_,_,_,_,_,_,_,true,by rw[k];rfl,(lead _).2.2.1 k⟩
    ·exact⟨_,_,_,_,_,_,_,_,_,true,by rw[k];rfl,(lead _).2.2.2 k⟩
  ·refine⟨x.kind=3∨x.kind=4∨x.kind=7∨x.kind=8∨x.kind=12∨x.kind=13,⟨fun h1=>⟨rfl,subH,by constructor<;>intro _<;>omega⟩,fun h1=>⟨fun h2=>⟨rfl,subH,by constructor<;>intro _<;>omega⟩,fun h2=>⟨fun h3=>⟨rfl,subH,by constructor<;>intro _<;>omega⟩,fun h3=>⟨fun h4=>⟨rfl,subH,by constructor<;>intro _<;>omega⟩,fun h4=>⟨fun h5=>⟨rfl,subH,by constructor<;>intro _<;>omega⟩,fun h5=>⟨rfl,subH,by constructor<;>intro _<;>omega⟩⟩⟩⟩⟩⟩,fun hk2=> ?_,fun hk2=> ?_⟩
   ·have hK:¬(x.kind<1∨13<x.kind):=by omega
    refine⟨fun hle=> ?_,fun hle=> ?_⟩
    ·exact bad (by unfold wHap;rw[if_neg hφ,if_neg h11,if_neg hk,if_neg hK,if_pos (by omega)]) g0 _
    ·have hW:¬(x.agent<0/\x.kind≠12/\x.kind≠13)->wHap w x=if x.kind=3∨x.kind=4 then(if w.h.up=false then .error 7 else wTell w x) else
       if x.kind=12∨x.kind=13 then wPower w x else
       match w.n[x.agent.toNat]? with
       |none=> .error 5
       |some n=>
        if n.up=false then .error 7 else
        if x.kind=7 then wStep w x n else
        if n.a.going=true∨n.a.try_=0 then .error 7 else .ok (wReport w x.agent.toNat):=fun hneg=>by
      unfold wHap;rw[if_neg hφ,if_neg h11,if_neg hk,if_neg hK,if_neg (by omega)];rfl
     refine⟨fun hneg=>⟨fun h12=>⟨fun h13=> ?_,fun h13=> ?_⟩,fun h12=> ?_⟩,fun hneg=> ?_⟩
     ·exact bad (by unfold wHap;rw[if_neg hφ,if_neg h11,if_neg hk,if_neg hK,if_pos (by omega)]) g0 _
     all_goals
      have hW:=hW (by omega)
      refine⟨x.kind=3∨x.kind=4,⟨fun h1=>⟨rfl,subH,by constructor<;>intro _<;>omega⟩,fun h1=>⟨rfl,subH,by constructor<;>intro _<;>omega⟩⟩,fun h34=> ?_,fun h34=> ?_⟩
      ·rw[if_pos h34] at hW
       refine⟨fun hu=> ?_,fun hu=> ?_⟩
       ·rw[if_pos hu] at hW
        exact bad hW g0 _
       ·rw[if_neg hu] at hW
        refine((cTell h.lb h.own.parts (a:=a) (l:=l) (c:=c) b).grown h.sub).mono fun v css H2 e2 hv=> ?_
        obtain⟨G2,g2,p2,rfl,hcss,hP2,n1,n2,n3,n4⟩:=hv
        exact⟨_,rfl,wld16 hcss fun hN2=>out hW _ _ p2 G2 rows H2 _ ⟨(h.start.grown g2).be hP2 n1 n2 n3 n4,rfl,rfl⟩⟩
      ·rw[if_neg h34] at hW
       refine⟨x.kind=12∨x.kind=13,⟨fun h1=>⟨rfl,subH,by constructor<;>intro _<;>omega⟩,fun h1=>⟨rfl,subH,by constructor<;>intro _<;>omega⟩⟩,fun hpw=> ?_,fun hpw=> ?_⟩
       ·rw[if_pos hpw] at hW
        exact⟨w,p,G,rows,x,a,l,c,⟨rfl,rfl,rfl,rfl⟩,h,by omega,fun e w' p' G' rows' H' hP=>out hW _ _ _ _ _ _ _ hP⟩
       ·rw[if_neg hpw] at hW
        have h0:0<=x.agent:=by omega
        obtain⟨n,hnn⟩:∃n,w.n[x.agent.toNat]?=some n:=⟨_,List.getElem?_eq_getElem (by omega)⟩
        rw[hnn] at hW
        dsimp only at hW
        obtain⟨y,kb,q,hna,hyb,hnc,hyk,hfree,hkl,hroom,hrow,hnod,hcell⟩:=h.own.node hnn
        have cc:∀j v,(nodCells n q)[j]?=some v->H.cell y (0+x.agent.toNat*10+j)=some v:=fun j v hj=>by rw[Nat.zero_add];exact hcell j v hj
        refine⟨y,0,hna,h0,by omega,_,_,_,_,_,_,_,_,_,_,_,_,_,_,_,_,_,_,⟨cc 0 _ rfl,cc 1 _ rfl,cc 2 _ rfl,cc 3 _ rfl,cc 4 _ rfl,cc 5 _ rfl,cc 6 _ rfl,cc 7 _ rfl,cc 8 _ rfl,cc 9 _ rfl,trivial⟩,fun b6=>⟨fun hu=> ?_,fun hu=>⟨fun h7=> ?_,fun h7=> ?_⟩⟩⟩
        ·rw[if_pos hu] at hW
         exact bad hW g0 _
        ·rw[if_neg hu,if_pos h7] at hW
         have hA:wStepAt w x=wStep w x n:=by unfold wStepAt;rw[hnn]
         exact⟨w,p,G,rows,x,a,l,c,⟨rfl,rfl,rfl,rfl⟩,h,⟨h0,by omega⟩,fun e w' p' G' rows' H' hP=>out (hW.trans hA.symm) _ _ _ _ _ _ _ hP⟩
        ·rw[if_neg hu,if_neg h7] at hW
         refine⟨n.a.going=true∨n.a.try_=0,⟨fun hg=>⟨rfl,subH,.inl hg⟩,fun hg=>⟨rfl,subH,⟨fun hh=>hh.resolve_left (by rw[hg];simp),.inr⟩⟩⟩,fun hg=> ?_,fun hg=> ?_⟩
         ·rw[if_pos hg] at hW
          exact bad hW g0 _
         ·rw[if_neg hg] at hW
          refine(cReport h.sub h.own.parts h.own.at_.nod h0 (by omega) b).mono fun v css H2 e2 hv=> ?_
          obtain⟨G2,g2,p2,rfl,hcss,hP2,n1,n2,n3,n4⟩:=hv
          exact⟨rfl,wld16 hcss fun hN2=>good hW ((h.start.grown g2).be hP2 n1 n2 n3 n4) _⟩
   ·exact bad (by unfold wHap;rw[if_neg hφ,if_neg h11,if_neg hk,if_pos (by omega)]) g0 _
end
noncomputable def TryzInH:InlFn:=inlOf Tryz.prog TryzListT [(91,Tryz.f91)] TryzSumT
theorem TryzinH(j:Bool):InlOk Tryz.prog ⟨TryzListT,TryzInH,j⟩:=inl_ok (TryzsumTT true) Tryzmixed fun p hp=>by
 simp only[List.mem_cons,List.not_mem_nil,or_false] at hp
 subst hp
 exact⟨Tryz.func91,body_some (by kernel_rfl),ops_ok (by kernel_rfl),by decide⟩
noncomputable def TryzSumH:InlFn:=fun base H0 g pre own H f=>
 if g=91 then genC wHap (fun w _=>w=w) base pre own H f
 else TryzSum base H0 g pre own H f
theorem TryzsumH(j:Bool):InlOk Tryz.prog ⟨TryzListK,TryzSumH,j⟩:=by
 intro base H0 g pre own H f p hp
 unfold TryzSumH at hp
 dsimp only at hp
 split at hp
 ·rename_i e;subst e
  refine⟨by show TryzListK.contains 91=true;decide,fun h C w0 own0 w hb _ hw _=>genC_ok (TryzinH true) (fun{base H0 G H w p rows x a l c b f} h1 _ hf=>⟨_,rfl,happ_in h1 hf⟩) hp h C w0 own0 w hb hw⟩
 ·exact TryzsumK j base H0 g pre own H f p hp
noncomputable def TryzMutsH:Muts:=⟨TryzListK,TryzSumH,true⟩
theorem TryzvcH{f:FuncId}{fn:Func}(hf: Tryz.prog.funcs[f]?=some fn)(hok:okFn fn=true){args:List Value}(hargs:Nat.ble args.length fn.ntmps=true){H:Heap}(Q:Value->Heap->Prop){sv:List SV}(hsv:args.map SV.v=sv)
  {F:Nat->(Value->List (List Value)->Heap->Prop)->Prop} (hv:∀base K,funV ⟨Tryz.prog,fn.ntmps,TryzMutsH,base,H⟩ (bodyOf fn) fn.results.toList sv [] K=F base K)
  (h:∀base,(∀b k,H b=some k->b<base)->F base (fun v _ H'=>Q v H')):Spec Tryz.prog f args H Q:=
 spec_of (muts:= TryzMutsH) (TryzsumH true) hf (body_some hok) rfl Tryzmixed (ops_ok hok) (Nat.le_of_ble_eq_true hargs) fun base hb=>by
  rw[hsv,hv base]
  exact h base hb
open Go Go.Proofs
theorem vx27(id bud:Int)(fa ra wa:O)(fl fc rl rc wl wc:Nat)(now goal nx:Int)(back:Bool)(la ka:O)(ll lc kl kc:Nat)(sa ta:O)(sl sc tl tc:Nat)(up:Bool)(na ma:O)(nl nc ml mc:Nat)(hk hg hn:Int)(hgd:Bool)(ha:O)(hl hc:Nat)(base:Nat)(H:Heap)(K:KT):
 (fV TryzMutsH Tryz.f27 base H [.v (A #[I Z id,S fa fl fc,S ra rl rc,S wa wl wc,I Z bud,S la ll lc,I Z now,I Z goal,B back,S ka kl kc,I Z nx,S sa sl sc,S ta tl tc,B up,S na nl nc,S ma ml mc]),.v (A #[I Z hk,I Z hg,I Z hn,B hgd,S ha hl hc])] [] K)=(
 (fun w3:AV=>(fun w2:LV=>∀a b c:Nat,Y Tryz.prog 31 w2 H fun d e=>∃g,d=I Z g/\(X base H e->(¬g=0->K (T #[A w3,I Z g]) [] e)/\(¬¬g=0->Y Tryz.prog 90 w2 e fun h i=>∃j k l m n o p q r s t u v w x y z a1 b1 c1 d1 e1 f1 g1 h1 i1 j1 k1 l1 m1 n1 o1 p1 q1,h=A #[I Z j,S k l m,S n o p,S q r s,I Z t,S u v w,I Z x,I Z y,B z,S a1 b1 c1,I Z d1,S e1 f1 g1,S h1 i1 j1,B k1,S l1 m1 n1,S o1 p1 q1]/\(X base e i->∃(r1:Wld)(s1:WA)(t1:Heap)(u1:List (List Value))(v1:Hap)(w1:O)(x1 y1:Nat),(41=41/\ [I Z j,S k l m,S n o p,S q r s,I Z t,S u v w,I Z x,I Z y,B z,S a1 b1 c1,I Z d1,S e1 f1 g1,S h1 i1 j1,B k1,S l1 m1 n1,S o1 p1 q1]=wldCells r1 s1/\A #[I Z hk,I Z hg,I Z hn,B hgd,S ha hl hc]=A #[I Z (Hap.kind v1),I Z (Hap.agent v1),I Z (Hap.num v1),B (Hap.good v1),S w1 x1 y1]/\true=true)/\HapPre base t1 i r1 s1 u1 v1 w1 x1/\r1=r1/\∀(z1:Int)(a2:Wld)(b2:WA)(c2:Heap)(d2:List (List Value))(e2:Heap),RunPost (wHap r1 v1) base t1 i r1 s1 z1 a2 b2 c2 d2 e2->(¬z1=0->K (T #[A w3,I Z z1]) [] e2)/\(¬¬z1=0->K (T #[A (wldCells a2 b2).toArray,I Z 0]) [] e2))))) [A #[I Z id,S fa fl fc,S ra rl rc,S wa wl wc,I Z bud,S la ll lc,I Z now,I Z goal,B back,S ka kl kc,I Z nx,S sa sl sc,S ta tl tc,B up,S na nl nc,S ma ml mc]]) #[I Z 0,S none 0 0,S none 0 0,S none 0 0,I Z 0,S none 0 0,I Z 0,I Z 0,B false,S none 0 0,I Z 0,S none 0 0,S none 0 0,B false,S none 0 0,S none 0 0]):=by kernel_rfl
theorem vx39(id bud:Int)(fa ra wa:O)(fl fc rl rc wl wc:Nat)(now goal nx:Int)(back:Bool)(la ka:O)(ll lc kl kc:Nat)(sa ta:O)(sl sc tl tc:Nat)(up:Bool)(na ma:O)(nl nc ml mc:Nat)(ha:O)(hl hc:Nat)(base:Nat)(H:Heap)(K:KT):
 (fV TryzMutsH Tryz.f39 base H [.v (A #[I Z id,S fa fl fc,S ra rl rc,S wa wl wc,I Z bud,S la ll lc,I Z now,I Z goal,B back,S ka kl kc,I Z nx,S sa sl sc,S ta tl tc,B up,S na nl nc,S ma ml mc]),.v (S ha hl hc)] [] K)=(
 (fun w8:LV=>(fun w7:LL=>∀a b:Nat,Y Tryz.prog 31 w8 H fun c d=>∃e,c=I Z e/\(X base H d->(¬e=0->K (T #[A #[I Z 0,S none 0 0,S none 0 0,S none 0 0,I Z 0,S none 0 0,I Z 0,I Z 0,B false,S none 0 0,I Z 0,S none 0 0,S none 0 0,B false,S none 0 0,S none 0 0],S none 0 0,I Z e]) [] d)/\(¬¬e=0->(150<(hl:Int)->K (T #[A #[I Z 0,S none 0 0,S none 0 0,S none 0 0,I Z 0,S none 0 0,I Z 0,I Z 0,B false,S none 0 0,I Z 0,S none 0 0,S none 0 0,B false,S none 0 0,S none 0 0],S none 0 0,I Z 2]) [] d)/\(¬150<(hl:Int)->Y Tryz.prog 90 w8 d fun g h=>∃(i:Int)(j:O)(k l:Nat)(m:O)(n o:Nat)(p:O)(q r:Nat)(s:Int)(t:O)(u v:Nat)(w x:Int)(y:Bool)(z:O)(a1 b1:Nat)(c1:Int)(d1:O)(e1 f1:Nat)(g1:O)(h1 i1:Nat)(j1:Bool)(k1:O)(l1 m1:Nat)(n1:O)(o1 p1:Nat),(fun w6:AV=>g=A w6/\(X base d h->∃(q1:NI)(r1:Nat),q1 r1 [S none 0 0,I Z 0,A w6] h/\∀(s1:Nat)(t1:O)(u1 v1:Nat)(w1 x1:Int)(y1:O)(z1 a2:Nat)(b2:O)(c2 d2:Nat)(e2:O)(f2 g2:Nat)(h2:Int)(i2:O)(j2 k2:Nat)(l2 m2:Int)(n2:Bool)(o2:O)(p2 q2:Nat)(r2:Int)(s2:O)(t2 u2:Nat)(v2:O)(w2 x2:Nat)(y2:Bool)(z2:O)(a3 b3:Nat)(c3:O)(d3 e3:Nat)(f3:Heap),(fun w5:AV=>X base H f3->q1 s1 [S t1 u1 v1,I Z w1,A w5] f3->(w1<(hl:Int)->∃g3 h3,ha=some (D g3 h3 none)/\0<=w1/\w1<(hl:Int)/\∃(i3 j3 k3:Int)(l3:Bool)(m3:O)(n3 o3:Nat),(C f3 g3 (h3+N w1*5)=some (I Z i3)/\C f3 g3 (h3+N w1*5+1)=some (I Z j3)/\C f3 g3 (h3+N w1*5+2)=some (I Z k3)/\C f3 g3 (h3+N w1*5+3)=some (B l3)/\C f3 g3 (h3+N w1*5+4)=some (S m3 n3 o3)/\True)/\∀p3:Nat,Y Tryz.prog 90 [A w5] f3 fun q3 r3=>∃s3 t3 u3 v3 w3 x3 y3 z3 a4 b4 c4 d4 e4 f4 g4 h4 i4 j4 k4 l4 m4 n4 o4 p4 q4 r4 s4 t4 u4 v4 w4 x4 y4 z4,q3=A #[I Z s3,S t3 u3 v3,S w3 x3 y3,S z3 a4 b4,I Z c4,S d4 e4 f4,I Z g4,I Z h4,B i4,S j4 k4 l4,I Z m4,S n4 o4 p4,S q4 r4 s4,B t4,S u4 v4 w4,S x4 y4 z4]/\(X base f3 r3->∀a5:Nat,∃(b5:Wld)(c5:WA)(d5:Heap)(e5:List (List Value))(f5:Hap)(g5:O)(h5 i5:Nat),(41=41/\ [I Z s3,S t3 u3 v3,S w3 x3 y3,S z3 a4 b4,I Z c4,S d4 e4 f4,I Z g4,I Z h4,B i4,S j4
 k4 l4,I Z m4,S n4 o4 p4,S q4 r4 s4,B t4,S u4 v4 w4,S x4 y4 z4]=wldCells b5 c5/\A #[I Z i3,I Z j3,I Z k3,B l3,S m3 n3 o3]=A #[I Z (Hap.kind f5),I Z (Hap.agent f5),I Z (Hap.num f5),B (Hap.good f5),S g5 h5 i5]/\true=true)/\HapPre base d5 r3 b5 c5 e5 f5 g5 h5/\b5=b5/\∀(j5:Int)(k5:Wld)(l5:WA)(m5:Heap)(n5:List (List Value))(o5:Heap),RunPost (wHap b5 f5) base d5 r3 b5 c5 j5 k5 l5 m5 n5 o5->(j5=0->∀p5:Nat,∃q5:List Value,Row base o5 42 1 t1 u1 v1 q5/\(u1+1)*8<=140737488355328/\u1+1<=9223372036854775807/\∀(r5:O)(s5:Nat)(t5:Heap),Grew base o5 t5 t1 v1 r5 s5 (u1+1)->Row base t5 42 1 r5 (u1+1) s5 (q5++[I Z j5])->∀u5:Int,u5=W Z (w1+1)->w7=w7/\∃v5:Nat,v5<s1/\q1 v5 [S r5 (u1+1) s5,I Z u5,A (wldCells k5 l5).toArray] t5)/\(¬j5=0->∀p5:Nat,∃q5:List Value,Row base o5 42 1 t1 u1 v1 q5/\(u1+1)*8<=140737488355328/\u1+1<=9223372036854775807/\∀(r5:O)(s5:Nat)(t5:Heap),Grew base o5 t5 t1 v1 r5 s5 (u1+1)->Row base t5 42 1 r5 (u1+1) s5 (q5++
 [I Z j5])->∀u5:Int,u5=W Z (w1+1)->w7=w7/\∃v5:Nat,v5<s1/\q1 v5 [S r5 (u1+1) s5,I Z u5,A w5] t5)))/\(¬w1<(hl:Int)->K (T #[A w5,S t1 u1 v1,I Z 0]) [] f3)) #[I Z x1,S y1 z1 a2,S b2 c2 d2,S e2 f2 g2,I Z h2,S i2 j2 k2,I Z l2,I Z m2,B n2,S o2 p2 q2,I Z r2,S s2 t2 u2,S v2 w2 x2,B y2,S z2 a3 b3,S c3 d3 e3])) #[I Z i,S j k l,S m n o,S p q r,I Z s,S t u v,I Z w,I Z x,B y,S z a1 b1,I Z c1,S d1 e1 f1,S g1 h1 i1,B j1,S k1 l1 m1,S n1 o1 p1])))) [[I Z 0,S none 0 0,S none 0 0,S none 0 0,I Z 0,S none 0 0,I Z 0,I Z 0,B false,S none 0 0,I Z 0,S none 0 0,S none 0 0,B false,S none 0 0,S none 0 0]]) [A #[I Z id,S fa fl fc,S ra rl rc,S wa wl wc,I Z bud,S la ll lc,I Z now,I Z goal,B back,S ka kl kc,I Z nx,S sa sl sc,S ta tl tc,B up,S na nl nc,S ma ml mc]]):=by kernel_rfl
open Go Go.Proofs
open Go.ChangeShapes Go.WideShapes Go.ChangeAt Go.RowKit
theorem kept_of_below{w w':World}(h:BelowX [] w w'):w.keptBut w' (fun _=>False):=by
 refine⟨h.os,h.output,fun i hi=> ?_⟩
 rw[h.block i hi (by simp)]
 split
 ·simp_all
 ·rename_i e1 e2;rw[e1] at e2;cases e2;exact .inr ⟨rfl,rfl⟩
 ·rfl
theorem post_mine{HH:Type}{enc:TypeId×Value->HH}{P:Program}{f:Func}{s:ChangeSpec}{apart fresh handsOn:Bool}{W W':World}{args:Array Value}{v:Value}{ds gs:List (DataW HH)}{before pa pv:List MemPlace}
  (hW:DataW.Whole enc P f.params.toList s.vars apart W args.toList ds gs before)
  (hres:∀(b:Nat)(sp:Nat->Bool)(hd:Bool),DataW.TrodAll enc P W' b sp hd f.resultTypes.toList (v.resultList f.resultTypes.size) (s.fn HH (ds++gs)).results [])
  (hargs:DataW.TrodAll enc P W' 0 (fun b=>decide (b<W.heap.size)) true f.params.toList args.toList (s.fn HH (ds++gs)).args pa)
  (hvars:DataW.TrodVars enc P W' (fun b=>decide (b<W.heap.size)) s.vars (s.fn HH (ds++gs)).vars pv)
  (hk:BelowX [] W W'):s.post enc P f apart fresh handsOn false W args v W':=
 ⟨ds,gs,before,[],pa,pv,hW,hres _ _ _,hargs,hvars,World.keptBut_mono (fun _ hp=>hp.elim) (kept_of_below hk),fun h=>by cases h⟩
theorem Spec.calls{P:Program}{f:FuncId}{args:List Value}{H:Heap}{r:Value}(h:Spec P f args H fun v _=>v=r){w:World}(hs:Sees H w):Calls P f args.toArray w fun e w'=>e= .returned r/\BelowX [] w w':=
 Calls.mono (h w hs ⟨by simp,by simp,by simp⟩) fun e w' he=>by
  obtain⟨v,css,H',h1,h2,h3,h4,h5,h6,h7⟩:=he
  exact⟨by rw[h1,h7],by simpa using h3⟩
theorem Tryzown:ownKnob Tryz.prog.godebug=none:=by kernel_rfl
end Go.Vg
namespace Go.Proofs.YtgaegoefbekndaaGreatDoor
open Go Go.Proofs Go.Vg
theorem mayEnterT:Program.mayEnter Tryz.pinned.checked.prog=true:=by kernel_rfl
theorem liftsFinalT:Program.liftsFinal Tryz.pinned.checked.prog=false:=by kernel_rfl
theorem makeT:Program.make Tryz.pinned.checked.prog=some .cut:=by kernel_rfl
end Go.Proofs.YtgaegoefbekndaaGreatDoor
namespace Go.Vg
open Go Go.Proofs
open Go.ChangeShapes Go.WideShapes Go.ChangeAt Go.RowKit
def heapOf(w:World):Heap:=fun b=>
 match w.heap[b]? with
 |some (.cells cur ty fr)=>some ⟨ty,cur.size,decide (fr=(0,0)),fun j=>cur[j]?⟩
 |_=>none
theorem sees_heapOf(w:World):Sees (heapOf w) w:=by
 intro b k h
 unfold heapOf at h
 split at h
 ·rename_i cur ty fr hw
  obtain rfl:=Option.some.inj h
  exact⟨cur,fr,hw,rfl,fun h=>by simpa using h,fun j v hj=>hj⟩
 ·cases h
theorem heapOf_cell{w:World}{b o:Nat}{s:Option Nat}{v:Value}(h:w.cell? ⟨b,o,s⟩=some v):s=none/\(heapOf w).cell b o=some v:=by
 unfold World.cell? at h
 unfold Heap.cell heapOf
 split at h
 ·rename_i c t f hw
  split at h
  ·cases h
  ·rename_i hs
   dsimp only at hw
   rw[hw]
   exact⟨by cases s with|none=>rfl|some x=>simp at hs,by simpa using h⟩
 ·cases h
theorem cells_get{w:World}{base:Nat}{a:Addr}{n:Nat}{cs:List Value}(h:w.cells? base a n=some cs):cs.length=n/\∀(j:Nat) v,cs[j]?=some v->w.cell? (a.add j)=some v:=by
 obtain⟨h1,h2⟩:cs.length=n/\∀(j:Nat) v,cs[j]?=some v->w.cell? (a.add j)=some v:=by
  unfold World.cells? at h
  split at h
  ·have hl:=mapM_some_length h
   refine⟨by simpa using hl,fun j v hj=> ?_⟩
   have hjn:j<n:=by have:=(List.getElem?_eq_some_iff.1 hj).1;simp at hl;omega
   have:=mapM_some_get h j j (by simp[hjn])
   rw[this];exact hj
  ·cases h
 exact⟨h1,h2⟩
theorem list_of_all{α:Type}{Q:Nat->α->Prop} :∀(n:Nat),(∀i,i<n->∃x,Q i x)->∃xs:List α,xs.length=n/\∀(i:Nat) x,xs[i]?=some x->Q i x
 |0,_=>⟨[],rfl,by simp⟩
 |n+1,h=>by
  obtain⟨xs,hl,hq⟩:=list_of_all n fun i hi=>h i (by omega)
  obtain⟨x,hx⟩:=h n (by omega)
  refine⟨xs++[x],by simp[hl],fun i y hy=> ?_⟩
  by_cases hi:i<n
  ·rw[List.getElem?_append_left (by omega)] at hy;exact hq i y hy
  ·rw[List.getElem?_append_right (by omega)] at hy
   have:i=n:=by
    have:=(List.getElem?_eq_some_iff.1 hy).1
    simp at this;omega
   subst this
   rw[hl,Nat.sub_self] at hy
   simp at hy;subst hy;exact hx
section
variable {HH : Type} {enc : TypeId × Value->HH} {P : Program} {w : World} {base : Nat} {spare : Nat->Bool} {held : Bool}
def ReadsAs(enc:TypeId×Value->HH)(P:Program)(w:World)(base:Nat)(spare:Nat->Bool)(held:Bool)(t:TypeId){α:Type}(R:Rep α):Prop:=
 ∀(fuel:Nat)(cs:List Value)(x:DataW HH×List MemPlace),DataW.trod enc P w base spare held fuel t cs=some x->∃y:α,R (heapOf w) cs y
theorem reads_int{t:TypeId}(ht:P.underlying t=some (.int .i64)):ReadsAs enc P w base spare held t RInt:=fun _ _ _ h=>by
 obtain⟨n,rfl,_⟩:=DataW.trod_int ht h
 exact⟨n,rfl⟩
theorem reads_slice{t e:TypeId}{sz:Nat}{α:Type}{R:Rep α}(ht:P.underlying t=some (.slice e))(hc:P.cellsOf e=sz)(h0:0<sz)(hR:ReadsAs enc P w base spare held e R)(hlen:∀ {H:Heap} {r:List Value} {x:α},R H r x->r.length=sz):
  ReadsAs enc P w base spare held t (RSl R sz):=fun fuel cs x h=>by
 rcases DataW.trod_slice ht h with⟨rfl,rfl⟩|⟨a,len,cap,elems,rest,n,rfl,rfl,rfl,hb,hl,hm,hlen',hel,_,_⟩
 ·exact⟨[],none,0,0,rfl,Sl.nil⟩
 ·have hmax:maxLen=9223372036854775807:=rfl
  have each:∀i,i<len->∃(y:α),∃r,R (heapOf w) r y/\∀(j:Nat) v,r[j]?=some v->w.cell? ((a.add (i*sz)).add j)=some v:=by
   intro i hi
   have:=hel i hi
   rw[List.getElem?_eq_getElem (by omega),Option.bind_eq_some_iff] at this
   obtain⟨cs',hcs,hd⟩:=this
   obtain⟨y,hy⟩:=hR _ _ _ hd
   rw[hc] at hcs
   exact⟨y,cs',hy,fun j v hj=>(cells_get hcs).2 j v hj⟩
  obtain⟨xs,hxl,hxs⟩:=list_of_all len each
  refine⟨xs,some a,len,cap,rfl,hxl,by omega,fun hpos=> ?_⟩
  obtain⟨b,o,s⟩:=a
  have hs:s=none:=by
   obtain⟨y,r,hr,hv⟩:=each 0 hpos
   have hrl:=hlen hr
   have:=hv 0 (r[0]'(by omega)) (List.getElem?_eq_getElem (by omega))
   rw[Nat.zero_mul] at this
   exact(heapOf_cell (by simpa[Addr.add] using this)).1
  subst hs
  refine⟨b,o,rfl,fun i y hy=> ?_⟩
  obtain⟨r,hr,hv⟩:=hxs i y hy
  refine⟨r,hr,fun j v hj=> ?_⟩
  have h1:=hv j v hj
  have e1:((⟨b,o,none⟩:Addr).add (i*sz)).add j=⟨b,o+i*sz+j,none⟩:=by
   unfold Addr.add
   split<;>split<;>simp_all
  rw[e1] at h1
  exact(heapOf_cell h1).2
theorem RInt.len{H:Heap}{r:List Value}{x:Int}(h:RInt H r x):r.length=1:=by cases h;rfl
theorem RSl.len{α:Type}{R:Rep α}{sz:Nat}{H:Heap}{r:List Value}{x:List α}(h:RSl R sz H r x):r.length=1:=by obtain⟨a,n,c,rfl,_⟩:=h;rfl
theorem arg_slice{r:Reach}{b0:Nat}{t e:TypeId}{sz:Nat}{α:Type}{R:Rep α}{v:Value}{d:DataW HH}{ps:List MemPlace}(ht:P.underlying t=some (.slice e))(hval:Value.okWide P w r b0 t v)
  (hR:ReadsAs enc P w base spare held t (RSl R sz)) (hd:DataW.Trod enc P w base spare held t v d ps):∃a n c xs,v= .slice a n c/\Sl R sz (heapOf w) a n xs/\n<=c:=by
 obtain⟨a,n,c,rfl⟩:=okWide_slice ht hval
 obtain⟨fuel,hf⟩:=hd
 obtain⟨xs,a',n',c',h,hs⟩:=hR _ _ _ hf
 simp[Value.cells] at h
 obtain⟨rfl,rfl,rfl⟩:=h
 refine⟨a,n,c,xs,rfl,hs,?_⟩
 rcases DataW.trod_slice ht hf with⟨h,_⟩|⟨a2,len,cap,elems,rest,m,_,h,_,_,hl,_⟩
 ·simp[Value.cells] at h;omega
 ·simp[Value.cells] at h;omega
theorem arg_struct{r:Reach}{b0:Nat}{t:TypeId}{fs:Array Field}{α:Type}{R:Rep α}{v:Value}{d:DataW HH}{ps:List MemPlace}(ht:P.underlying t=some (.struct fs))(hval:Value.okWide P w r b0 t v)
  (hR:ReadsAs enc P w base spare held t R) (hd:DataW.Trod enc P w base spare held t v d ps):∃(cs:List Value)(x:α),v= .agg cs.toArray/\R (heapOf w) cs x:=by
 obtain⟨cs,rfl,_⟩:=okWide_struct ht hval
 obtain⟨fuel,hf⟩:=hd
 obtain⟨x,hx⟩:=hR _ _ _ hf
 exact⟨cs.toList,x,by simp,by simpa[Value.cells] using hx⟩
theorem sameAt_of_below{w':World}(h:BelowX [] w w'){p:MemPlace}(hp:p.block<w.heap.size):w.sameAt w' p:=by
 cases p with
 |cell b o=>
  have:=h.block b hp (by simp)
  show w'.cell? ⟨b,o,none⟩=w.cell? ⟨b,o,none⟩
  unfold World.cell?
  dsimp only
  rw[this]
 |map b=>exact h.block b hp (by simp)
theorem trodAll_stays{w':World}(K:Kids P (· <P.types.size))(hsz:∀ {t e:TypeId},t<P.types.size->P.underlying t=some (.slice e)->0<P.cellsOf e)(hb:BelowX [] w w'):
  ∀ {ts:List TypeId} {vs:List Value} {ds:List (DataW HH)} {ps:List MemPlace},(∀t∈ts,t<P.types.size)->DataW.TrodAll enc P w 0 (fun _=>true) true ts vs ds ps->
   DataW.TrodAll enc P w' 0 (fun b=>decide (b<w.heap.size)) true ts vs ds ps
 | [],[],[],ps,_,h=>h
 |t::ts,v::vs,d::ds,ps,ht,h=>by
  obtain⟨p,q,⟨fuel,h1⟩,h2,rfl⟩:=h
  refine⟨p,q,⟨fuel,?_⟩,trodAll_stays K hsz hb (fun x hx=>ht x (List.mem_cons_of_mem _ hx)) h2,rfl⟩
  have hlt:=DataW.trod_lt fuel t _ _ h1
  exact DataW.trod_stays K hsz (fun h=>by cases h) (ht t List.mem_cons_self) h1 (fun p hp=>sameAt_of_below hb (hlt p hp)) (fun p hp=>by simpa using hlt p hp)
 | [],_::_,_,_,_,h=>h.elim
 | [],[],_::_,_,_,h=>h.elim
 |_::_,[],_,_,_,h=>h.elim
 |_::_,_::_,[],_,_,h=>h.elim
end
def sizedSlices(P:Program):Bool:=(List.range P.types.size).all fun t=>match P.underlying t with|some (.slice e)=>decide (0<P.cellsOf e)|_=>true
theorem sized_of{P:Program}(h:sizedSlices P=true){t e:TypeId}(ht:t<P.types.size)(hu:P.underlying t=some (.slice e)):0<P.cellsOf e:=by
 have:=List.all_eq_true.1 h t (List.mem_range.2 ht)
 simpa[hu] using this
theorem Tryzkids:Kids Tryz.prog (· < Tryz.prog.types.size):=kids_rows (by kernel_rfl) (by kernel_rfl)
theorem Tryzsized:sizedSlices Tryz.prog=true:=by kernel_rfl
theorem TryztrodAll{HH:Type}{enc:TypeId×Value->HH}{w w':World}(hb:BelowX [] w w'){ts:List TypeId}{vs:List Value}{ds:List (DataW HH)}{ps:List MemPlace}(ht:∀t∈ts,t< Tryz.prog.types.size)(h:DataW.TrodAll enc Tryz.prog w 0 (fun _=>true) true ts vs ds ps):
  DataW.TrodAll enc Tryz.prog w' 0 (fun b=>decide (b<w.heap.size)) true ts vs ds ps:=trodAll_stays Tryzkids (sized_of Tryzsized) hb ht h
open Go Go.Proofs
open Go.ChangeShapes Go.WideShapes Go.ChangeAt Go.RowKit
section
variable {HH : Type} {enc : TypeId × Value->HH} {w : World} {base : Nat} {spare : Nat->Bool} {held : Bool}
theorem fieldAt{P:Program}{t:TypeId}{fs:Array Field}{fuel:Nat}{cs:List Value}{x:DataW HH×List MemPlace}(ht:P.underlying t=some (.struct fs))(h:DataW.trod enc P w base spare held fuel t cs=some x){i:Nat}{f:Field}(hf:fs[i]?=some f):
  ∃n y,DataW.trod enc P w base spare held n f.type ((cs.drop f.offset).take (P.cellsOf f.type))=some y:=by
 obtain⟨xs,n,rfl,rfl,_,hl,hx⟩:=DataW.trod_struct ht h
 have hi:i<fs.size:=(Array.getElem?_eq_some_iff.1 hf).1
 exact⟨n,xs[i]'(by omega),by rw[hx i f hf,List.getElem?_eq_getElem (by omega)]⟩
theorem structLen{P:Program}{t:TypeId}{fs:Array Field}{fuel:Nat}{cs:List Value}{x:DataW HH×List MemPlace}(ht:P.underlying t=some (.struct fs))(h:DataW.trod enc P w base spare held fuel t cs=some x):cs.length=P.cellsOf t:=by
 obtain⟨xs,n,rfl,rfl,hl,_⟩:=DataW.trod_struct ht h
 exact hl
theorem fieldInt{P:Program}{t:TypeId}{fs:Array Field}{fuel:Nat}{cs:List Value}{x:DataW HH×List MemPlace}(ht:P.underlying t=some (.struct fs))(h:DataW.trod enc P w base spare held fuel t cs=some x){i:Nat}{f:Field}(hf:fs[i]?=some f){k:Nat}
  (hu:P.underlying f.type=some (.int .i64)) (hc:P.cellsOf f.type=1) (ho:f.offset=k):∃n:Int,cs[k]?=some (i64 n)/\ -9223372036854775808<=n/\n<=9223372036854775807:=by
 obtain⟨m,y,hy⟩:=fieldAt ht h hf
 obtain⟨n,h1,_,hw⟩:=DataW.trod_int hu hy
 rw[hc,ho] at h1
 refine⟨n,?_,bounds_i64 hw⟩
 have:((cs.drop k).take 1)[0]?=some (i64 n):=by rw[h1];rfl
 simpa using this
theorem fieldBool{P:Program}{t:TypeId}{fs:Array Field}{fuel:Nat}{cs:List Value}{x:DataW HH×List MemPlace}(ht:P.underlying t=some (.struct fs))(h:DataW.trod enc P w base spare held fuel t cs=some x){i:Nat}{f:Field}(hf:fs[i]?=some f){k:Nat}
  (hu:P.underlying f.type=some .bool) (hc:P.cellsOf f.type=1) (ho:f.offset=k):∃n:Bool,cs[k]?=some (.bool n):=by
 obtain⟨m,y,hy⟩:=fieldAt ht h hf
 obtain⟨n,h1,_⟩:=DataW.trod_bool hu hy
 rw[hc,ho] at h1
 refine⟨n,?_⟩
 have:((cs.drop k).take 1)[0]?=some (.bool n):=by rw[h1];rfl
 simpa using this
theorem cells2{cs:List Value}(h:cs.length=2){x y:Value}(h0:cs[0]?=some x)(h1:cs[1]?=some y):cs=[x,y]:=by
 match cs,h with
 | [a,b],_=>simp at h0 h1;rw[h0,h1]
theorem cells4{cs:List Value}(h:cs.length=4){x y z u:Value}(h0:cs[0]?=some x)(h1:cs[1]?=some y)(h2:cs[2]?=some z)(h3:cs[3]?=some u):cs=[x,y,z,u]:=by
 match cs,h with
 | [a,b,c,d],_=>simp at h0 h1 h2 h3;rw[h0,h1,h2,h3]
theorem REnc.len{α:Type}{e:α->List Value}{sz:Nat}(hs:∀x,(e x).length=sz){H:Heap}{r:List Value}{x:α}(h:REnc e H r x):r.length=sz:=by cases h;exact hs x
theorem reads_pin:ReadsAs enc Tryz.prog w base spare held 91 RPin:=fun fuel cs x h=>by
 have c3: Tryz.prog.cellsOf 3=1:=by kernel_rfl
 have c48: Tryz.prog.cellsOf 91=2:=by kernel_rfl
 have hl:=structLen Tryz.underlying91 h
 rw[c48] at hl
 obtain⟨a,ha,_⟩:=fieldInt Tryz.underlying91 h (i:=0) rfl Tryz.underlying3 c3 rfl
 obtain⟨b,hb,_⟩:=fieldInt Tryz.underlying91 h (i:=1) rfl Tryz.underlying3 c3 rfl
 exact⟨⟨a,b⟩,cells2 hl ha hb⟩
theorem reads_rule:ReadsAs enc Tryz.prog w base spare held 152 RRule:=fun fuel cs x h=>by
 have c3: Tryz.prog.cellsOf 3=1:=by kernel_rfl
 have c54: Tryz.prog.cellsOf 152=4:=by kernel_rfl
 have hl:=structLen Tryz.underlying152 h
 rw[c54] at hl
 obtain⟨a,ha,_⟩:=fieldInt Tryz.underlying152 h (i:=0) rfl Tryz.underlying3 c3 rfl
 obtain⟨b,hb,_⟩:=fieldInt Tryz.underlying152 h (i:=1) rfl Tryz.underlying3 c3 rfl
 obtain⟨c,hc,_⟩:=fieldInt Tryz.underlying152 h (i:=2) rfl Tryz.underlying3 c3 rfl
 obtain⟨d,hd,_⟩:=fieldInt Tryz.underlying152 h (i:=3) rfl Tryz.underlying3 c3 rfl
 exact⟨⟨a,b,c,d⟩,cells4 hl ha hb hc hd⟩
theorem reads_pins:ReadsAs enc Tryz.prog w base spare held 22 (RSl RPin 2):=reads_slice Tryz.underlying22 (by kernel_rfl) (by omega) reads_pin (REnc.len pinCells_len)
theorem reads_rules:ReadsAs enc Tryz.prog w base spare held 25 (RSl RRule 4):=reads_slice Tryz.underlying25 (by kernel_rfl) (by omega) reads_rule (REnc.len ruleCells_len)
theorem reads_ints:ReadsAs enc Tryz.prog w base spare held 97 (RSl RInt 1):=reads_slice Tryz.underlying97 (by kernel_rfl) (by omega) (reads_int Tryz.underlying3) RInt.len
theorem reads_waves:ReadsAs enc Tryz.prog w base spare held 26 (RSl (RSl RInt 1) 1):=reads_slice Tryz.underlying26 (by kernel_rfl) (by omega) reads_ints RSl.len
end
open Go Go.Proofs
open Go.ChangeShapes Go.WideShapes Go.ChangeAt Go.RowKit
section
variable {HH : Type} {enc : TypeId × Value->HH} {w : World} {base : Nat} {spare : Nat->Bool} {held : Bool}
theorem fieldSl{P:Program}{t:TypeId}{fs:Array Field}{fuel:Nat}{cs:List Value}{x:DataW HH×List MemPlace}(ht:P.underlying t=some (.struct fs))(h:DataW.trod enc P w base spare held fuel t cs=some x){i:Nat}{f:Field}(hf:fs[i]?=some f){k:Nat}{α:Type}{R:Rep α}{sz:Nat}
  (hR:ReadsAs enc P w base spare held f.type (RSl R sz)) (hc:P.cellsOf f.type=1) (ho:f.offset=k):∃a n c xs,cs[k]?=some (.slice a n c)/\Sl R sz (heapOf w) a n xs:=by
 obtain⟨m,y,hy⟩:=fieldAt ht h hf
 obtain⟨xs,a,n,c,h1,hs⟩:=hR _ _ _ hy
 rw[hc,ho] at h1
 refine⟨a,n,c,xs,?_,hs⟩
 have:((cs.drop k).take 1)[0]?=some (.slice a n c):=by rw[h1];rfl
 simpa using this
theorem fieldStruct{P:Program}{t:TypeId}{fs:Array Field}{fuel:Nat}{cs:List Value}{x:DataW HH×List MemPlace}(ht:P.underlying t=some (.struct fs))(h:DataW.trod enc P w base spare held fuel t cs=some x){i:Nat}{f:Field}(hf:fs[i]?=some f){k n:Nat}{α:Type}{R:Rep α}
  (hR:ReadsAs enc P w base spare held f.type R) (hc:P.cellsOf f.type=n) (ho:f.offset=k):∃x:α,R (heapOf w) ((cs.drop k).take n) x:=by
 obtain⟨m,y,hy⟩:=fieldAt ht h hf
 obtain⟨x,hx⟩:=hR _ _ _ hy
 rw[hc,ho] at hx
 exact⟨x,hx⟩
def RRel:Rep Rls:=fun H r x=>∃a n c,r=[i64 x.id,.slice a n c]/\Pins H a n x.lock
theorem reads_rel:ReadsAs enc Tryz.prog w base spare held 24 RRel:=fun fuel cs x h=>by
 have c3: Tryz.prog.cellsOf 3=1:=by kernel_rfl
 have c40: Tryz.prog.cellsOf 22=1:=by kernel_rfl
 have c59: Tryz.prog.cellsOf 24=2:=by kernel_rfl
 have hl:=structLen Tryz.underlying24 h
 rw[c59] at hl
 obtain⟨i,hi,_⟩:=fieldInt Tryz.underlying24 h (i:=0) rfl Tryz.underlying3 c3 rfl
 obtain⟨a,n,c,xs,ha,hp⟩:=fieldSl Tryz.underlying24 h (i:=1) rfl reads_pins c40 rfl
 exact⟨⟨i,xs⟩,a,n,c,cells2 hl hi ha,hp⟩
end
open Go Go.Proofs
open Go.ChangeShapes Go.WideShapes Go.ChangeAt Go.RowKit
section
variable {HH : Type} {enc : TypeId × Value->HH} {w : World} {base : Nat} {spare : Nat->Bool} {held : Bool}
def RAgt:Rep Agt:=fun H r x=>∃a n c ga gn gc,r=[.slice a n c,i64 x.at_,i64 x.try_,.bool x.going,i64 x.goal.id,.slice ga gn gc,.bool x.good]/\Pins H a n x.lock/\Pins H ga gn x.goal.lock
end
open Go Go.Proofs
open Go.ChangeShapes Go.WideShapes Go.ChangeAt Go.RowKit
section
variable {HH : Type} {enc : TypeId × Value->HH} {w : World} {base : Nat} {spare : Nat->Bool} {held : Bool}
def RConf:Rep Conf:=fun H r x=>∃fa fl fc ra rl rc wa wl wc,r=[i64 x.first.id,.slice fa fl fc,.slice ra rl rc,.slice wa wl wc,i64 x.bud]/\CfgAt H x fa fl ra rl wa wl
theorem reads_conf:ReadsAs enc Tryz.prog w base spare held 28 RConf:=fun fuel cs x h=>by
 have c3: Tryz.prog.cellsOf 3=1:=by kernel_rfl
 have c41: Tryz.prog.cellsOf 25=1:=by kernel_rfl
 have c27: Tryz.prog.cellsOf 26=1:=by kernel_rfl
 have c59: Tryz.prog.cellsOf 24=2:=by kernel_rfl
 have c101: Tryz.prog.cellsOf 28=5:=by kernel_rfl
 have hl:=structLen Tryz.underlying28 h
 rw[c101] at hl
 obtain⟨r,fa,fl,fc,h0,hp⟩:=fieldStruct Tryz.underlying28 h (i:=0) rfl reads_rel c59 rfl
 obtain⟨ra,rl,rc,rs,h1,hr⟩:=fieldSl Tryz.underlying28 h (i:=1) rfl reads_rules c41 rfl
 obtain⟨wa,wl,wc,ws,h2,hw⟩:=fieldSl Tryz.underlying28 h (i:=2) rfl reads_waves c27 rfl
 obtain⟨bd,h3,_⟩:=fieldInt Tryz.underlying28 h (i:=3) rfl Tryz.underlying3 c3 rfl
 refine⟨⟨r,rs,ws,bd⟩,fa,fl,fc,ra,rl,rc,wa,wl,wc,?_,hp,hr,hw⟩
 match cs,hl with
 | [x0,x1,x2,x3,x4],_=>
  simp at h0 h1 h2 h3
  obtain⟨rfl,rfl⟩:=h0
  subst h1 h2 h3
  rfl
end
end Go.Vg
