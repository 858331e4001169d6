/- What is proved here: a part of the proof of laws of this seat: what a contract is, how it comes of a condition, contracts of the functions that are reached, the plain laws. -/
import Derived.Test.YtgaegoefbekndaaGreatDoorSE7
set_option linter.unusedSimpArgs false
set_option linter.unusedVariables false
set_option maxRecDepth 100000
namespace Go.Vg
open Go
abbrev uTell(k t:Int):Recd:=⟨6,k,t,0,false,⟨0,[]⟩⟩
abbrev uHeard(m:Mail):Recd:=⟨7,m.agent,m.try_,0,m.good,⟨0,[]⟩⟩
abbrev uBegin(m:Mail):Recd:=⟨1,0,m.try_,0,false,m.rel⟩
abbrev uStep(a:Agt):Recd:=⟨2,0,a.try_,0,false,⟨0,[]⟩⟩
abbrev uDone(a:Agt)(g:Bool):Recd:=⟨3,0,a.try_,0,g,⟨0,[]⟩⟩
abbrev toMail(c:Conf)(l:Ldr)(k:Nat)(t:Int):Mail:=⟨k,t,false,false,turnRel c l k⟩
inductive Mv (c:Conf) (L:Ldr) (A:List Agt) (M:List Mail):Ldr->List Agt->List Mail->Prop
 |rest {M':List Mail} (h:∀m∈M',m∈M):Mv c L A M L A M'
 |led (r:Recd) (h:ledErr c L r=0) (k:r.kind≠6/\r.kind≠7):Mv c L A M (ledNext L r) A M
 |send {M':List Mail} (k:Nat) (h:ledErr c L (uTell k L.nx)=0) (hm:∀m∈M',m∈M∨m=toMail c L k L.nx):Mv c L A M (ledNext L (uTell k L.nx)) A M'
 |again {M':List Mail} (k:Nat) (b:Kn) (hk:L.ags[k]?=some b) (h1:b.st=1) (h2:b.back=L.back) (hg:L.goal≠0) (hm:∀m∈M',m∈M∨m=toMail c L k b.try_):Mv c L A M L A M'
 |got {M':List Mail} (m:Mail) (hm:m∈M) (hr:m.rep=true) (h:ledErr c L (uHeard m)=0) (hM:∀m∈M',m∈M):Mv c L A M (ledNext L (uHeard m)) A M'
 |begin {M':List Mail} (m:Mail) (a:Agt) (hm:m∈M) (hr:m.rep=false) (ha:A[m.agent.toNat]?=some a) (h:nextErr a (uBegin m)=0) (hM:∀m∈M',m∈M):Mv c L A M L (A.set m.agent.toNat (agtNext a (uBegin m))) M'
 |step (k:Nat) (a:Agt) (ha:A[k]?=some a) (h:nextErr a (uStep a)=0):Mv c L A M L (A.set k (agtNext a (uStep a))) M
 |done {M':List Mail} (k:Nat) (a:Agt) (g:Bool) (ha:A[k]?=some a) (h:nextErr a (uDone a g)=0) (hM:∀m∈M',m∈M∨m=repMail k (agtNext a (uDone a g))):Mv c L A M L (A.set k (agtNext a (uDone a g))) M'
 |report {M':List Mail} (k:Nat) (a:Agt) (ha:A[k]?=some a) (hg:a.going=false) (hM:∀m∈M',m∈M∨m=repMail k a):Mv c L A M L A M'
def tgt(L:Ldr)(back:Bool):Rls:=(L.rels[((if back=true then L.now else L.goal)-1).toNat]?).getD ⟨0,[]⟩
def AtR(a:Agt)(r:Rls):Prop:=a.going=false/\a.at_=r.id/\a.lock=r.lock
def OnR(a:Agt)(r:Rls):Prop:=AtR a r∨(a.going=true/\a.goal=r)
structure AInv(L:Ldr)(b:Kn)(a:Agt):Prop where
 ok:agtErr a=0
 le:a.try_<=b.try_
 idle:b.st=0->a.try_=b.try_/\AtR a (tgt L true)
 on:b.st≠0->a.try_=b.try_->OnR a (tgt L b.back)
 late:b.st≠0->a.try_<b.try_->b.st=1/\(AtR a (tgt L true)∨(b.back=true/\OnR a (tgt L false)))
 said:b.st=2∨b.st=3->a.try_=b.try_/\a.going=false/\(a.good=true↔b.st=2)
 pins:∀p∈a.lock,∃r∈L.rels,p∈r.lock
 low:a.at_<=L.rels.length
structure MInv(L:Ldr)(b:Kn)(a:Agt)(m:Mail):Prop where
 rep:m.rep=true->m.try_<=a.try_/\(m.try_=a.try_->a.going=false/\m.good=a.good)
 told:m.rep=false->m.try_<=b.try_/\(a.try_<m.try_->(m.try_=b.try_->m.rel=tgt L b.back)/\(m.try_<b.try_->b.back=true/\m.rel=tgt L false))
def WInv(c:Conf)(L:Ldr):Prop:=L.back=false->∀(k o:Nat)(b b':Kn),L.ags[k]?=some b->b.st≠0->L.ags[o]?=some b'->waveOf c.waves o<waveOf c.waves k->b'.st=2∨b'.st=3
def illAt(c:Conf)(L:Ldr)(j:Int)(k:Nat):Bool:=match L.ags[k]? with
 |some b=>decide (b.st=3/\waveOf c.waves k≠j)
 |none=>false
def IInv(c:Conf)(L:Ldr):Prop:=L.back=false->∃j:Int,(∀(k:Nat)(b:Kn),L.ags[k]?=some b->b.st=1->waveOf c.waves k=j)/\((List.range L.ags.length).countP (illAt c L j):Int)<=c.bud
structure SInv(c:Conf)(L:Ldr)(A:List Agt)(M:List Mail):Prop where
 led:ldrErr c L=0
 len:A.length=L.ags.length
 agt:∀(k:Nat)(a:Agt)(b:Kn),A[k]?=some a->L.ags[k]?=some b->AInv L b a/\∀m∈M,m.agent.toNat=k->MInv L b a m
 wave:WInv c L
 ill:IInv c L
structure LFacts(c:Conf)(L:Ldr):Prop where
 now:1<=L.now/\L.now<=L.rels.length
 goal:0<=L.goal/\L.goal<=L.rels.length
 many:1<=L.rels.length/\L.rels.length<=6
 ids:∀(j:Nat)(r:Rls),L.rels[j]?=some r->r.id=j+1/\Lk r.lock/\r.lock.length<=12
 ne:L.goal≠L.now
 home:L.goal=0->L.back=false
 kn:∀(k:Nat)(b:Kn),L.ags[k]?=some b->0<=b.st/\b.st<=3/\0<=b.try_/\b.try_<L.nx/\(b.st≠0->L.goal≠0/\b.try_≠0)/\(b.back=true->L.back=true/\b.st≠0)
 nx:1<=L.nx/\L.nx<=201
theorem ldr_facts{c:Conf}{L:Ldr}(h:ldrErr c L=0):LFacts c L:=by
 obtain⟨g1,g2,g3,g4,g5,g6,g7⟩:=ldrErr_zero.1 h
 obtain⟨f1,f2,f3,f4⟩:=form_parts g6
 have hkn:=knErr_zero.1 g7
 unfold ldrRange at g5
 refine⟨by omega,by omega,⟨g2,g3⟩,fun j r hj=> ?_,f1,fun h0=> ?_,fun k b hb=> ?_,by omega⟩
 ·have h1:=relsErr_zero.1 g4 j r hj
  have h2:=rel_lock g4 r (List.mem_of_getElem? hj)
  exact⟨by omega,h2.1,h2.2⟩
 ·cases hb:L.back with
  |false=>rfl
  |true=>exact absurd ⟨h0,hb⟩ f2
 ·obtain⟨x1,x2⟩:=hkn b (List.mem_of_getElem? hb)
  unfold badKn at x1
  unfold oddKn at x2
  refine⟨by omega,by omega,by omega,by omega,fun hs=>⟨fun h0=>x2 (.inl ⟨hs,.inl h0⟩),fun h0=>x2 (.inl ⟨hs,.inr h0⟩)⟩,fun hb=>⟨?_,fun h0=>x2 (.inr ⟨hb,.inr h0⟩)⟩⟩
  cases hl:L.back with
  |true=>rfl
  |false=>exact absurd (.inr ⟨hb,.inl hl⟩) x2
theorem LFacts.tgt{c:Conf}{L:Ldr}(f:LFacts c L)(b:Bool):(b=true∨L.goal≠0)->tgt L b∈L.rels/\(tgt L b).id=(if b=true then L.now else L.goal)/\Lk (tgt L b).lock/\(tgt L b).lock.length<=12:=fun h=>by
 have h1:=f.now
 have h2:=f.goal
 have hlt:((if b=true then L.now else L.goal)-1).toNat<L.rels.length:=by split<;>omega
 have hx:=List.getElem?_eq_getElem hlt
 have ht:Vg.tgt L b=L.rels[((if b=true then L.now else L.goal)-1).toNat]:=by unfold Vg.tgt;rw[hx];rfl
 obtain⟨i1,i2,i3⟩:=f.ids _ _ hx
 rw[ht]
 refine⟨List.getElem_mem hlt,?_,i2,i3⟩
 rw[i1]
 rcases h with h|h
 ·rw[h] at hlt⊢;simp only[if_true] at hlt⊢;omega
 ·split<;>omega
theorem tgt_of{c:Conf}{L:Ldr}(f:LFacts c L){L':Ldr}(hn:L'.now=L.now)(hg:L'.goal=L.goal)(hr:L'.rels.take L.rels.length=L.rels)(b:Bool):tgt L' b=tgt L b:=by
 have h1:=f.now
 have h2:=f.goal
 have h3:=f.many
 have hlt:((if b=true then L.now else L.goal)-1).toNat<L.rels.length:=by split<;>omega
 unfold tgt
 rw[hn,hg]
 congr 1
 conv=>rhs;rw[←hr]
 rw[List.getElem?_take,if_pos hlt]
theorem turnRel_tgt{c:Conf}{L:Ldr}{k:Nat}(h:turnErr c L k=0):turnRel c L k=tgt L L.back:=by
 unfold turnRel tgt goalOf
 rw[if_pos h]
theorem turnErr_of{c:Conf}{L:Ldr}(h:ldrErr c L=0){k:Nat}(hk:k<L.ags.length)(hg:L.goal≠0):turnErr c L k=0:=by
 unfold turnErr
 rw[if_neg (by omega),if_neg (by omega),if_neg hg]
theorem next_zero{a:Agt}{r:Recd}(h:nextErr a r=0):agtErr a=0/\recErr r=0/\((r.kind=1/\a.try_<r.try_)∨((r.kind=2∨r.kind=3)/\a.going=true/\r.try_=a.try_/\(r.kind=2->agtLeft a≠[])/\(r.kind=3->agtLeft a=[]))):=by
 unfold nextErr at h
 split at h
 ·omega
 ·split at h
  ·omega
  ·refine⟨by omega,by omega,?_⟩
   split at h
   ·rename_i k
    split at h
    ·omega
    ·exact .inl ⟨k,by omega⟩
   ·split at h
    ·omega
    ·rename_i k1 k2
     split at h
     ·omega
     ·rename_i k3
      refine .inr ⟨by omega,?_,?_,fun k hl=> ?_,fun k=> ?_⟩
      ·cases hg:a.going with
       |true=>rfl
       |false=>exact absurd (.inl hg) k3
      ·exact Decidable.byContradiction fun e=>k3 (.inr (.inl e))
      ·exact k3 (.inr (.inr (.inl ⟨k,hl⟩)))
      ·exact Decidable.byContradiction fun e=>k3 (.inr (.inr (.inr ⟨k,e⟩)))
theorem next_begin{a:Agt}{m:Mail} :agtNext a (uBegin m)=⟨a.lock,a.at_,m.try_,true,m.rel,false⟩:=by
 unfold agtNext;rw[if_pos rfl]
theorem next_step{a:Agt}{o:Step}{q:List Step}(hl:agtLeft a=o::q):agtNext a (uStep a)=⟨applied a.lock o,a.at_,a.try_,a.going,a.goal,a.good⟩:=by
 unfold agtNext;rw[if_neg (show¬(2:Int)=1 by omega),if_pos rfl,hl]
theorem next_done{a:Agt}{g:Bool} :agtNext a (uDone a g)=⟨a.lock,a.goal.id,a.try_,false,⟨0,[]⟩,g⟩:=by
 unfold agtNext;rw[if_neg (show¬(3:Int)=1 by omega),if_neg (show¬(3:Int)=2 by omega)]
theorem agtErr_of{a:Agt}(h1:Lk a.lock/\a.lock.length<=12)(h2:1<=a.at_/\a.at_<=6)(h3:0<=a.try_/\a.try_<=200)(h4:a.going=true->a.try_≠0/\a.good=false/\relErr a.goal=0)(h5:a.going=false->noRel a.goal):agtErr a=0:=by
 unfold agtErr
 rw[if_neg (by rw[lockCheck_zero.2 h1];omega),if_neg (by omega)]
 cases hg:a.going with
 |true=>
  obtain⟨x,y,z⟩:=h4 hg
  rw[if_pos rfl,if_neg (by rintro(e|e);exact x e;rw[y] at e;cases e),z]
 |false=>rw[if_neg (by simp),if_pos (h5 hg)]
theorem left_step{a:Agt}(h:agtErr a=0)(hg:a.going=true){o:Step}{q:List Step}(hl:agtLeft a=o::q):(Lk (applied a.lock o)/\(applied a.lock o).length<=12)/\agtLeft ⟨applied a.lock o,a.at_,a.try_,a.going,a.goal,a.good⟩=q/\∀p∈applied a.lock o,p∈a.lock∨p∈a.goal.lock:=by
 obtain⟨⟨z1,z2⟩,_⟩:=agtErr_zero h
 obtain⟨y1,y2⟩:=agt_goal h
 have hd:diffs a.lock a.goal.lock=o::q:=by unfold agtLeft at hl;rw[if_pos hg] at hl;exact hl
 have hok:=diffs_mem z1 y1 (hd▸List.mem_cons_self:o∈diffs a.lock a.goal.lock)
 refine⟨⟨(hok.applied z1 y1).1,(diffs_fits z1 y1 z2 y2 hd).2⟩,?_,fun p hp=> ?_⟩
 ·unfold agtLeft;rw[if_pos hg];exact diffs_step z1 y1 hd
 ·unfold applied at hp
  split at hp
  ·left
   unfold del at hp
   exact(List.mem_filter.1 hp).1
  ·rename_i k
   rcases up_mem hp with rfl|hp
   ·right
    have hv:=hok.ver
    have hne:find a.goal.lock o.name≠0:=by rcases hok.kind with e|e|e<;>omega
    obtain⟨q',hq,e1,e2⟩:=find_pos hne
    have:q'=⟨o.name,o.ver⟩:=by cases q';simp_all
    rw[←this];exact hq
   ·exact .inl hp
theorem left_none{a:Agt}(h:agtErr a=0)(hg:a.going=true)(hl:agtLeft a=[]):a.lock=a.goal.lock:=by
 unfold agtLeft at hl
 rw[if_pos hg] at hl
 exact diffs_nil (agtErr_zero h).1.1 (agt_goal h).1 hl
theorem next_ok{a:Agt}{r:Recd}(h:nextErr a r=0):agtErr (agtNext a r)=0:=by
 obtain⟨h1,h2,h3⟩:=next_zero h
 obtain⟨z1,z2,z3,z4,z5,z6,z7⟩:=agtErr_zero h1
 obtain⟨y1,y2,y3,y4⟩:=rec_zero h2
 unfold recRange at y3
 rcases h3 with⟨k,ht⟩|⟨k,hg,ht,hl2,hl3⟩
 ·unfold agtNext
  rw[if_pos k]
  exact agtErr_of z1 ⟨z2,z3⟩ ⟨by simp only;omega,by simp only;omega⟩ (fun _=>⟨by simp only;omega,rfl,y4 (.inl k)⟩) (fun e=>by cases e)
 ·rcases k with k|k
  ·obtain⟨o,q,hl⟩:=List.exists_cons_of_ne_nil (hl2 k)
   unfold agtNext
   rw[if_neg (by omega),if_pos k,hl]
   exact agtErr_of (left_step h1 hg hl).1 ⟨z2,z3⟩ ⟨z4,z5⟩ z6 z7
  ·unfold agtNext
   rw[if_neg (by omega),if_neg (by omega)]
   have hid:=(relErr_zero (z6 hg).2.2).1
   exact agtErr_of z1 hid ⟨z4,z5⟩ (fun e=>by cases e) (fun _=>by simp[noRel])
def KInv(L:Ldr)(M:List Mail)(k:Nat)(b:Kn)(a:Agt):Prop:=AInv L b a/\∀m∈M,m.agent.toNat=k->MInv L b a m
theorem AInv.tr{L L':Ldr}{b:Kn}{a:Agt}(h:AInv L b a)(ht:∀x,tgt L' x=tgt L x)(hr:∀r∈L.rels,r∈L'.rels)(hn:L.rels.length<=L'.rels.length):AInv L' b a:=
 ⟨h.ok,h.le,fun x=>by rw[ht];exact h.idle x,fun x y=>by rw[ht];exact h.on x y,fun x y=>by rw[ht,ht];exact h.late x y,h.said,fun p hp=>(by obtain⟨r,h1,h2⟩:=h.pins p hp;exact⟨r,hr r h1,h2⟩),by have:=h.low;omega⟩
theorem MInv.tr{L L':Ldr}{b:Kn}{a:Agt}{m:Mail}(h:MInv L b a m)(ht:∀x,tgt L' x=tgt L x):MInv L' b a m:=
 ⟨h.rep,fun x=>by rw[ht,ht];exact h.told x⟩
theorem KInv.tr{L L':Ldr}{M:List Mail}{k:Nat}{b:Kn}{a:Agt}(h:KInv L M k b a)(ht:∀x,tgt L' x=tgt L x)(hr:∀r∈L.rels,r∈L'.rels)(hn:L.rels.length<=L'.rels.length):KInv L' M k b a:=⟨h.1.tr ht hr hn,fun m hm hk=>(h.2 m hm hk).tr ht⟩
theorem KInv.sub{L:Ldr}{M M':List Mail}{k:Nat}{b:Kn}{a:Agt}(h:KInv L M k b a)(hM:∀m∈M',m∈M):KInv L M' k b a:=⟨h.1,fun m hm hk=>h.2 m (hM m hm) hk⟩
theorem KInv.more{L:Ldr}{M M':List Mail}{k j:Nat}{b:Kn}{a:Agt}{x:Mail}(h:KInv L M k b a)(hM:∀m∈M',m∈M∨m=x)(hj:x.agent.toNat=j)(hx:j=k->MInv L b a x):KInv L M' k b a:=
 ⟨h.1,fun m hm hk=>by
  rcases hM m hm with h1|rfl
  ·exact h.2 m h1 hk
  ·exact hx (hj.symm.trans hk)⟩
theorem set_self{α:Type}{xs:List α}{k:Nat}{x:α}(h:xs[k]?=some x):xs.set k x=xs:=by
 obtain⟨hk,rfl⟩:=List.getElem?_eq_some_iff.1 h
 exact List.set_getElem_self hk
theorem left_set{α β:Type}{P:Nat->α->β->Prop}{xs:List α}{ys:List β}{k:Nat}{x:α}(h:∀j a b,j≠k->xs[j]?=some a->ys[j]?=some b->P j a b)(hp:∀b,ys[k]?=some b->P k x b):∀j a b,(xs.set k x)[j]?=some a->ys[j]?=some b->P j a b:=by
 intro j a b ha hb
 by_cases e:k=j
 ·subst e
  rw[List.getElem?_set,if_pos rfl] at ha
  split at ha
  ·obtain rfl:=Option.some.inj ha
   exact hp b hb
  ·cases ha
 ·rw[List.getElem?_set,if_neg e] at ha;exact h j a b (Ne.symm e) ha hb
theorem AtR.not{a:Agt}{r:Rls}(h:AtR a r)(hg:a.going=true){p:Prop} :p:=by
 unfold AtR at h
 rw[h.1] at hg
 cases hg
theorem OnR.keep{a a':Agt}{r:Rls}(h:OnR a r)(hg:a.going=true)(hg':a'.going=true)(e:a'.goal=a.goal):OnR a' r:=by
 rcases h with h|h
 ·exact h.not hg
 ·exact .inr ⟨hg',by rw[e];exact h.2⟩
theorem KInv.begin{L:Ldr}{M M':List Mail}{b:Kn}{a:Agt}{m:Mail}(h:KInv L M m.agent.toNat b a)(hm:m∈M)(hr:m.rep=false)(hn:nextErr a (uBegin m)=0)(hM:∀m∈M',m∈M):KInv L M' m.agent.toNat b (agtNext a (uBegin m)):=by
 have hok:=next_ok hn
 obtain⟨h1,h2,h3⟩:=next_zero hn
 have ht:a.try_<m.try_:=by
  rcases h3 with h3|h3
  ·exact h3.2
  ·rcases h3.1 with e|e<;>exact absurd e (by simp)
 rw[next_begin] at hok⊢
 obtain⟨t1,t2⟩:=(h.2 m hm rfl).told hr
 obtain⟨t3,t4⟩:=t2 ht
 have hst:b.st≠0:=fun e=>by have:=(h.1.idle e).1;omega
 obtain⟨l1,l2⟩:=h.1.late hst (by omega)
 refine⟨⟨hok,t1,fun e=>absurd e hst,fun _ e=> .inr ⟨rfl,t3 e⟩,fun _ e=>⟨l1,.inr ⟨(t4 e).1,.inr ⟨rfl,(t4 e).2⟩⟩⟩,fun e=>by omega,h.1.pins,h.1.low⟩,fun m' hm' hk=> ?_⟩
 have hI:=h.2 m' (hM m' hm') hk
 refine⟨fun e=> ?_,fun e=>⟨(hI.told e).1,fun e2=> ?_⟩⟩
 ·have:=(hI.rep e).1
  exact⟨by simp only;omega,fun e3=>by simp only at e3;omega⟩
 ·simp only at e2
  exact(hI.told e).2 (by omega)
theorem KInv.step{L:Ldr}{M:List Mail}{k:Nat}{b:Kn}{a:Agt}(h:KInv L M k b a)(hr:∀x,(x=true∨b.st≠0)->tgt L x∈L.rels)(hn:nextErr a (uStep a)=0):KInv L M k b (agtNext a (uStep a)):=by
 have hok:=next_ok hn
 obtain⟨h1,h2,h3⟩:=next_zero hn
 obtain⟨hg,hl⟩:a.going=true/\agtLeft a≠[]:=by
  rcases h3 with h3|h3
  ·exact absurd h3.1 (by simp)
  ·exact⟨h3.2.1,h3.2.2.2.1 rfl⟩
 obtain⟨o,q,hl⟩:=List.exists_cons_of_ne_nil hl
 rw[next_step hl] at hok⊢
 have hp:=(left_step h1 hg hl).2.2
 have hst:b.st≠0:=fun e=>by have:=(h.1.idle e).2.1;rw[hg] at this;cases this
 have hgoal:a.goal∈L.rels:=by
  by_cases e:a.try_=b.try_
  ·rcases h.1.on hst e with w|w
   ·exact w.not hg
   ·rw[w.2];exact hr _ (.inr hst)
  ·rcases(h.1.late hst (by have:=h.1.le;omega)).2 with w|⟨_,w|w⟩
   ·exact w.not hg
   ·exact w.not hg
   ·rw[w.2];exact hr _ (.inr hst)
 refine⟨⟨hok,h.1.le,fun e=>absurd e hst,fun x y=>(h.1.on x y).keep hg hg rfl,fun x y=> ?_,fun e=> ?_,fun p hp'=> ?_,h.1.low⟩,fun m hm hk=> ?_⟩
 ·obtain⟨w1,w2⟩:=h.1.late x y
  refine⟨w1,?_⟩
  rcases w2 with w|⟨w3,w⟩
  ·exact w.not hg
  ·exact .inr ⟨w3,w.keep hg hg rfl⟩
 ·have:=(h.1.said e).2.1;rw[hg] at this;cases this
 ·rcases hp p hp' with w|w
  ·exact h.1.pins p w
  ·exact⟨_,hgoal,w⟩
 ·have hI:=h.2 m hm hk
  refine⟨fun e=>⟨(hI.rep e).1,fun e2=> ?_⟩,fun e=>hI.told e⟩
  have:=((hI.rep e).2 e2).1
  rw[hg] at this;cases this
theorem OnR.there{a a':Agt}{r:Rls}(h:OnR a r)(hg:a.going=true)(hl:a.lock=a.goal.lock)(h1:a'.going=false)(h2:a'.at_=a.goal.id)(h3:a'.lock=a.lock):AtR a' r:=by
 rcases h with h|h
 ·exact h.not hg
 ·exact⟨h1,by rw[h2,h.2],by rw[h3,hl,h.2]⟩
theorem KInv.done{L:Ldr}{M M':List Mail}{k:Nat}{b:Kn}{a:Agt}{g:Bool}(h:KInv L M k b a)(hr:∀x,(x=true∨b.st≠0)->(tgt L x).id<=L.rels.length)(hn:nextErr a (uDone a g)=0)(hM:∀m∈M',m∈M∨m=repMail k (agtNext a (uDone a g))):KInv L M' k b (agtNext a (uDone a g)):=by
 have hok:=next_ok hn
 obtain⟨h1,h2,h3⟩:=next_zero hn
 obtain⟨hg,hl⟩:a.going=true/\agtLeft a=[]:=by
  rcases h3 with h3|h3
  ·exact absurd h3.1 (by simp)
  ·exact⟨h3.2.1,h3.2.2.2.2 rfl⟩
 have hlk:=left_none h1 hg hl
 rw[next_done] at hok hM⊢
 have hst:b.st≠0:=fun e=>by have:=(h.1.idle e).2.1;rw[hg] at this;cases this
 refine⟨⟨hok,h.1.le,fun e=>absurd e hst,fun x y=> .inl ((h.1.on x y).there hg hlk rfl rfl rfl),fun x y=> ?_,fun e=> ?_,h.1.pins,?_⟩,fun m hm hk=> ?_⟩
 ·obtain⟨w1,w2⟩:=h.1.late x y
  refine⟨w1,?_⟩
  rcases w2 with w|⟨w3,w⟩
  ·exact w.not hg
  ·exact .inr ⟨w3,.inl (w.there hg hlk rfl rfl rfl)⟩
 ·have:=(h.1.said e).2.1;rw[hg] at this;cases this
 ·show a.goal.id<=L.rels.length
  by_cases e:a.try_=b.try_
  ·rcases h.1.on hst e with w|w
   ·exact w.not hg
   ·rw[w.2];exact hr _ (.inr hst)
  ·rcases(h.1.late hst (by have:=h.1.le;omega)).2 with w|⟨_,w|w⟩
   ·exact w.not hg
   ·exact w.not hg
   ·rw[w.2];exact hr _ (.inr hst)
 ·rcases hM m hm with hm|rfl
  ·have hI:=h.2 m hm hk
   refine⟨fun e=>⟨(hI.rep e).1,fun e2=> ?_⟩,fun e=>hI.told e⟩
   have:=((hI.rep e).2 e2).1
   rw[hg] at this;cases this
  ·exact⟨fun _=>⟨Int.le_refl _,fun _=>⟨rfl,rfl⟩⟩,fun e=>by cases e⟩
open Go
theorem led_eq4{L:Ldr}{r:Recd}(k:r.kind=4):ledNext L r= { L with rels:=L.rels++[r.rel] } :=by rw[ledNext,if_pos k]
theorem led_eq5{L:Ldr}{r:Recd}(k:r.kind=5):ledNext L r= { L with goal:=r.num } :=by rw[ledNext,if_neg (by omega),if_pos k]
theorem led_eq6{L:Ldr}{r:Recd}(k:r.kind=6):ledNext L r= { L with ags:=L.ags.set r.agent.toNat ⟨1,r.try_,L.back⟩,nx:=L.nx+1 } :=by rw[ledNext,if_neg (by omega),if_neg (by omega),if_pos k]
theorem led_eq7{L:Ldr}{r:Recd}(k:r.kind=7){a:Kn}(h:L.ags[r.agent.toNat]?=some a):ledNext L r= { L with ags:=L.ags.set r.agent.toNat (got r a) } :=by rw[ledNext,if_neg (by omega),if_neg (by omega),if_neg (by omega),if_pos k,h]
theorem led_eq8{L:Ldr}{r:Recd}(k:r.kind=8):ledNext L r= { L with back:=true } :=by rw[ledNext,if_neg (by omega),if_neg (by omega),if_neg (by omega),if_neg (by omega),if_pos k]
theorem led_eq9{L:Ldr}{r:Recd}(k:r.kind=9):ledNext L r= { L with now:=(if L.back=false then L.goal else L.now),goal:=0,back:=false,ags:=L.ags.map fun a=>⟨0,a.try_,false⟩ } :=by rw[ledNext,if_neg (by omega),if_neg (by omega),if_neg (by omega),if_neg (by omega),if_neg (by omega)]
theorem tgt_true{L:Ldr} :tgt L true=(L.rels[(L.now-1).toNat]?).getD ⟨0,[]⟩:=by simp[tgt]
theorem tgt_false{L:Ldr} :tgt L false=(L.rels[(L.goal-1).toNat]?).getD ⟨0,[]⟩:=by simp[tgt]
theorem LFacts.low{c:Conf}{L:Ldr}(f:LFacts c L){k:Nat}{b:Kn}(hb:L.ags[k]?=some b):∀x,(x=true∨b.st≠0)->(Vg.tgt L x).id<=L.rels.length:=fun x h=>by
 have h1:=(f.tgt x (h.imp id fun e=>((f.kn k b hb).2.2.2.2.1 e).1)).2.1
 have h2:=f.now
 have h3:=f.goal
 rw[h1];split<;>omega
theorem LFacts.rel{c:Conf}{L:Ldr}(f:LFacts c L){k:Nat}{b:Kn}(hb:L.ags[k]?=some b):∀x,(x=true∨b.st≠0)->Vg.tgt L x∈L.rels:=fun x h=>
 (f.tgt x (h.imp id fun e=>((f.kn k b hb).2.2.2.2.1 e).1)).1
theorem SInv.move_led{c:Conf}{L:Ldr}{A:List Agt}{M:List Mail}(h:SInv c L A M){r:Recd}(hr:ledErr c L r=0)(hk:r.kind≠6/\r.kind≠7):SInv c (ledNext L r) A M:=by
 have f:=ldr_facts h.led
 have hok:=led_ok hr
 obtain⟨z1,z2,z3⟩:=led_zero hr
 rcases led_cases z3 with⟨k,w1,w2,w3,w4⟩|⟨k,w1,w2,w3⟩|⟨k,w1,w2,w3,w4⟩|⟨k,w1,a,w2,w3,w4⟩|⟨k,w1,w2⟩|⟨k,w1,w2⟩
 ·rw[led_eq4 k] at hok⊢
  have ht:∀x,tgt { L with rels:=L.rels++[r.rel] } x=tgt L x:=tgt_of f rfl rfl (by simp)
  exact⟨hok,h.len,fun k a b ha hb=>KInv.tr (h.agt k a b ha hb) ht (fun q hq=>List.mem_append_left _ hq) (by simp),h.wave,h.ill⟩
 ·rw[led_eq5 k] at hok⊢
  have hst:∀(k:Nat)(b:Kn),L.ags[k]?=some b->b.st=0:=fun k b hb=>Decidable.byContradiction fun e=>((f.kn k b hb).2.2.2.2.1 e).1 w1
  refine⟨hok,h.len,fun k a b ha hb=> ?_,fun _ k o b b' hb hs=>absurd (hst k b hb) hs,fun _=>⟨0,fun k b hb hs=>(by rw[hst k b hb] at hs;cases hs),?_⟩⟩
  ·obtain⟨i1,i2⟩:=h.agt k a b ha hb
   have hb0:=hst k b hb
   obtain⟨d1,d2⟩:=i1.idle hb0
   refine⟨⟨i1.ok,i1.le,fun _=>⟨d1,?_⟩,fun e=>absurd hb0 e,fun e=>absurd hb0 e,fun e=>(by omega),i1.pins,i1.low⟩,fun m hm hmk=> ?_⟩
   ·rw[tgt_true] at d2⊢;exact d2
   ·have hI:=i2 m hm hmk
    refine⟨hI.rep,fun e=>⟨(hI.told e).1,fun e2=> ?_⟩⟩
    have:=(hI.told e).1
    omega
  ·have:(List.range L.ags.length).countP (illAt c L 0)=0:=List.countP_eq_zero.2 fun k hk=>by
    unfold illAt
    cases hb:L.ags[k]? with
    |none=>simp
    |some b=>simp[hst k b hb]
   have h2:(List.range L.ags.length).countP (illAt c { L with goal:=r.num } 0)=0:=this
   show((List.range L.ags.length).countP (illAt c { L with goal:=r.num } 0):Int)<=c.bud
   rw[h2]
   obtain⟨y1,y2,y3,y4,y5⟩:=cfgErr_zero (ldrErr_zero.1 z1).1
   omega
 ·exact absurd k hk.1
 ·exact absurd k hk.2
 ·rw[led_eq8 k] at hok⊢
  have ht:∀x,tgt { L with back:=true } x=tgt L x:=tgt_of f rfl rfl (by simp)
  exact⟨hok,h.len,fun k a b ha hb=>KInv.tr (h.agt k a b ha hb) ht (fun q hq=>hq) (Nat.le_refl _),fun e=>(by cases e),fun e=>(by cases e)⟩
 ·rw[led_eq9 k] at hok⊢
  have hz:∀(k:Nat)(b:Kn),(L.ags.map fun a=>(⟨0,a.try_,false⟩:Kn))[k]?=some b->∃b0,L.ags[k]?=some b0/\b=⟨0,b0.try_,false⟩:=fun k b hb=>by
   rw[List.getElem?_map] at hb
   obtain⟨b0,h0,e⟩:=Option.map_eq_some_iff.1 hb
   exact⟨b0,h0,e.symm⟩
  refine⟨hok,by simp[h.len],fun k a b ha hb=> ?_,fun _ k o b b' hb hs=> ?_,fun _=>⟨0,fun k b hb hs=> ?_,?_⟩⟩
  ·obtain⟨b0,hb0,rfl⟩:=hz k b hb
   obtain⟨i1,i2⟩:=h.agt k a b0 ha hb0
   obtain⟨q1,q2,q3,q4,q5,q6⟩:=f.kn k b0 hb0
   have hat:a.try_=b0.try_/\AtR a (if L.back=false then tgt L false else tgt L true):=by
    by_cases hs:b0.st=0
    ·obtain⟨d1,d2⟩:=i1.idle hs
     refine⟨d1,?_⟩
     cases hb:L.back with
     |true=>rw[if_neg (by simp)];exact d2
     |false=>
      exfalso
      unfold overOf at w2
      rw[if_pos hb,decide_eq_true_eq] at w2
      refine w2.2 (List.mem_map.2 ⟨b0,List.mem_of_getElem? hb0,?_⟩)
      simp[hs]
    ·have hst:(b0.st=2∨b0.st=3)/\b0.back=L.back:=by
      unfold overOf at w2
      cases hb:L.back with
      |false=>
       rw[if_pos hb,decide_eq_true_eq] at w2
       refine⟨Decidable.byContradiction fun e=>w2.2 (List.mem_map.2 ⟨b0,List.mem_of_getElem? hb0,by simpa using e⟩),?_⟩
       cases h0:b0.back with
       |false=>rfl
       |true=>have:=(q6 h0).1;rw[hb] at this;cases this
      |true=>
       rw[if_neg (by rw[hb];simp),decide_eq_true_eq] at w2
       have:=w2 b0 (List.mem_of_getElem? hb0)
       unfold busy at this
       refine⟨by omega,?_⟩
       cases h0:b0.back with
       |true=>rfl
       |false=>exact absurd (.inr ⟨hs,h0⟩) this
     obtain⟨s1,s2,s3⟩:=i1.said hst.1
     refine⟨s1,?_⟩
     have hon:=i1.on hs s1
     rw[hst.2] at hon
     have:AtR a (tgt L L.back):=by
      rcases hon with w|w
      ·exact w
      ·rw[s2] at w;cases w.1
     cases hb:L.back with
     |true=>rw[hb] at this;rw[if_neg (by simp)];exact this
     |false=>rw[hb] at this;rw[if_pos rfl];exact this
   refine⟨⟨i1.ok,i1.le,fun _=>⟨hat.1,?_⟩,fun e=>absurd rfl e,fun e=>absurd rfl e,fun e=>(by simp at e),i1.pins,i1.low⟩,fun m hm hmk=> ?_⟩
   ·have:=hat.2
    rw[tgt_true]
    cases hb:L.back with
    |true=>rw[hb,if_neg (by simp),tgt_true] at this;simpa[hb] using this
    |false=>rw[hb,if_pos rfl,tgt_false] at this;simpa[hb] using this
   ·have hI:=i2 m hm hmk
    refine⟨hI.rep,fun e=>⟨(hI.told e).1,fun e2=> ?_⟩⟩
    have:=(hI.told e).1
    omega
  ·obtain⟨b0,_,rfl⟩:=hz k b hb
   exact absurd rfl hs
  ·obtain⟨b0,_,rfl⟩:=hz k b hb
   cases hs
  ·have:(List.range (L.ags.map fun a=>(⟨0,a.try_,false⟩:Kn)).length).countP (illAt c { L with now:=(if L.back=false then L.goal else L.now),goal:=0,back:=false,ags:=L.ags.map fun a=>⟨0,a.try_,false⟩ } 0)=0:=List.countP_eq_zero.2 fun k hk=>by
    unfold illAt
    dsimp only
    cases hb:(L.ags.map fun a=>(⟨0,a.try_,false⟩:Kn))[k]? with
    |none=>simp
    |some b=>obtain⟨b0,_,rfl⟩:=hz k b hb;simp
   rw[this]
   obtain⟨y1,y2,y3,y4,y5⟩:=cfgErr_zero (ldrErr_zero.1 z1).1
   omega
def atK{α:Type}(q:α->Bool):Option α->Bool
 |some b=>q b
 |none=>false
theorem range_count{α:Type}(q:α->Bool)(xs:List α):(List.range xs.length).countP (fun k=>atK q xs[k]?)=xs.countP q:=by
 have h:(List.range xs.length).map (fun k=>xs[k]?)=xs.map some:=by
  apply List.ext_getElem?
  intro i
  rw[List.getElem?_map,List.getElem?_map]
  by_cases hi:i<xs.length
  ·rw[List.getElem?_range hi];simp[hi]
  ·simp[hi]
 have h2:(List.range xs.length).countP (fun k=>atK q xs[k]?)=((List.range xs.length).map (fun k=>xs[k]?)).countP (atK q):=by
  rw[List.countP_map];rfl
 rw[h2,h,List.countP_map]
 rfl
theorem ill_cnt{c:Conf}{L:Ldr}{j:Int} :((List.range L.ags.length).countP (illAt c L j):Int)<=cnt 3 L.ags:=by
 have h1:=range_count (fun b:Kn=>decide (b.st=3)) L.ags
 have h2:(List.range L.ags.length).countP (illAt c L j)<=(List.range L.ags.length).countP (fun k=>atK (fun b:Kn=>decide (b.st=3)) L.ags[k]?):=by
  refine List.countP_mono_left fun k hk hx=> ?_
  unfold illAt at hx
  cases hb:L.ags[k]? with
  |none=>rw[hb] at hx;cases hx
  |some b=>rw[hb] at hx;simp at hx;simp[atK,hx.1]
 unfold cnt
 rw[←List.countP_eq_length_filter]
 omega
theorem SInv.move_send{c:Conf}{L:Ldr}{A:List Agt}{M M':List Mail}(h:SInv c L A M){k:Nat}(hr:ledErr c L (uTell k L.nx)=0)(hm:∀m∈M',m∈M∨m=toMail c L k L.nx):SInv c (ledNext L (uTell k L.nx)) A M':=by
 have f:=ldr_facts h.led
 have hok:=led_ok hr
 obtain⟨z1,z2,z3⟩:=led_zero hr
 obtain⟨w1,w2,w4⟩:k<L.ags.length/\L.goal≠0/\turnOf c L k=true:=by
  rcases led_cases z3 with⟨k,_⟩|⟨k,_⟩|⟨k,w⟩|⟨k,_⟩|⟨k,_⟩|⟨k,_⟩
  ·simp at k
  ·simp at k
  ·exact⟨by have:=w.1;simp only at this;omega,w.2.1,w.2.2.2⟩
  ·simp at k
  ·simp at k
  ·simp at k
 obtain⟨b,hb⟩:∃b,L.ags[k]?=some b:=⟨_,List.getElem?_eq_getElem w1⟩
 obtain⟨q1,q2,q3,q4,q5,q6⟩:=f.kn k b hb
 have hte:=turnErr_of z1 w1 w2
 have heq:ledNext L (uTell k L.nx)= { L with ags:=L.ags.set k ⟨1,L.nx,L.back⟩,nx:=L.nx+1 } :=by rw[led_eq6 rfl];simp
 have hturn:=w4
 unfold turnOf at w4
 rw[Int.toNat_natCast,hb] at w4
 dsimp only at w4
 rw[heq] at hok⊢
 have ht:∀x,tgt { L with ags:=L.ags.set k ⟨1,L.nx,L.back⟩,nx:=L.nx+1 } x=tgt L x:=tgt_of f rfl rfl (by simp)
 have hset:∀(j:Nat)(x:Kn),(L.ags.set k ⟨1,L.nx,L.back⟩)[j]?=some x->(j=k/\x=⟨1,L.nx,L.back⟩)∨(j≠k/\L.ags[j]?=some x):=fun j x hx=>by
  rw[List.getElem?_set] at hx
  by_cases e:k=j
  ·subst e
   rw[if_pos rfl,if_pos w1] at hx
   exact .inl ⟨rfl,(Option.some.inj hx).symm⟩
  ·rw[if_neg e] at hx
   exact .inr ⟨Ne.symm e,hx⟩
 have hthr:L.back=false->∀(o:Nat)(m:Kn),L.ags[o]?=some m->waveOf c.waves o<waveOf c.waves k->m.st=2∨m.st=3:=fun hbk o m hm hlt=>by
  obtain⟨p,e1,e2,e3,e4,e5,e6⟩:=led_turn hr rfl hbk
  exact e6 o m (by omega) (by simpa using hm) hlt
 have hidle:L.back=false->b.st=0/\cnt 3 L.ags<=c.bud:=fun hbk=>by
  rw[if_neg (by rw[hbk];simp),decide_eq_true_eq] at w4
  exact⟨w4.2.1,w4.2.2.2⟩
 refine⟨hok,by simp[h.len],fun j a b' ha hb'=> ?_,fun hbk i o x x' hx hs hx' hlt=> ?_,fun hbk=>⟨waveOf c.waves k,fun i x hx hs=> ?_,?_⟩⟩
 ·rcases hset j b' hb' with⟨rfl,rfl⟩|⟨hj,hb'⟩
  ·obtain⟨i1,i2⟩:=h.agt j a b ha hb
   refine⟨?_,fun m hmM hmk=> ?_⟩
   ·have hle:=i1.le
    refine⟨i1.ok,by simp only;omega,fun e=>(by cases e),fun _ e=>(by simp only at e;omega),fun _ _=>⟨rfl,?_⟩,fun e=>(by simp at e),i1.pins,i1.low⟩
    rw[ht,ht]
    cases hbk:L.back with
    |false=>exact .inl (i1.idle (hidle hbk).1).2
    |true=>
     rw[if_pos hbk,decide_eq_true_eq] at w4
     by_cases e:a.try_=b.try_
     ·have:=i1.on w4.1 e
      rw[w4.2] at this
      exact .inr ⟨rfl,this⟩
     ·rcases(i1.late w4.1 (by omega)).2 with w|w
      ·exact .inl w
      ·rw[w4.2] at w;cases w.1
   ·rcases hm m hmM with hmM|rfl
    ·have hI:=i2 m hmM hmk
     refine⟨hI.rep,fun e=>⟨by have:=(hI.told e).1;simp only;omega,fun e2=> ?_⟩⟩
     obtain⟨t1,t2⟩:=hI.told e
     obtain⟨t3,t4⟩:=t2 e2
     have hs:b.st≠0:=fun e0=>by have:=(i1.idle e0).1;omega
     rw[ht,ht]
     refine⟨fun e3=>by simp only at e3;omega,fun _=> ?_⟩
     have hbk:L.back=true:=by
      cases hbk:L.back with
      |true=>rfl
      |false=>exact absurd (hidle hbk).1 hs
     rw[if_pos hbk,decide_eq_true_eq] at w4
     refine⟨hbk,?_⟩
     by_cases e3:m.try_=b.try_
     ·rw[t3 e3,w4.2]
     ·have:=(t4 (by omega)).1
      rw[w4.2] at this;cases this
    ·refine⟨fun e=>(by cases e),fun _=>⟨Int.le_refl _,fun _=>⟨fun _=> ?_,fun e=> ?_⟩⟩⟩
     ·rw[ht];exact turnRel_tgt hte
     ·exact absurd e (Int.lt_irrefl _)
  ·refine KInv.more (L:= { L with ags:=L.ags.set k ⟨1,L.nx,L.back⟩,nx:=L.nx+1 }) (M:=M) (x:=toMail c L k L.nx) (j:=k) (KInv.tr (h.agt j a b' ha hb') ht (fun q hq=>hq) (Nat.le_refl _)) hm (by simp) fun e=>absurd e.symm hj
 ·have hbk:L.back=false:=hbk
  have hx:(L.ags.set k ⟨1,L.nx,L.back⟩)[i]?=some x:=hx
  have hx':(L.ags.set k ⟨1,L.nx,L.back⟩)[o]?=some x':=hx'
  rcases hset i x hx with⟨rfl,rfl⟩|⟨hi,hy⟩
  ·rcases hset o x' hx' with⟨rfl,rfl⟩|⟨ho,hy'⟩
   ·omega
   ·exact hthr hbk o x' hy' hlt
  ·rcases hset o x' hx' with⟨rfl,rfl⟩|⟨ho,hy'⟩
   ·have:=h.wave hbk i _ x b hy hs hb hlt
    have:=(hidle hbk).1
    omega
   ·exact h.wave hbk i o x x' hy hs hy' hlt
 ·have hbk:L.back=false:=hbk
  have hx:(L.ags.set k ⟨1,L.nx,L.back⟩)[i]?=some x:=hx
  rcases hset i x hx with⟨rfl,rfl⟩|⟨hi,hx⟩
  ·rfl
  ·rcases Int.lt_trichotomy (waveOf c.waves i) (waveOf c.waves k) with e|e|e
   ·have:=hthr hbk i x hx e;omega
   ·exact e
   ·have:=h.wave hbk i k x b hx (by omega) hb e
    have:=(hidle hbk).1
    omega
 ·have hbk:L.back=false:=hbk
  have h1:=ill_cnt (c:=c) (L:= { L with ags:=L.ags.set k ⟨1,L.nx,L.back⟩,nx:=L.nx+1 }) (j:=waveOf c.waves k)
  have h2:cnt 3 (L.ags.set k ⟨1,L.nx,L.back⟩)<=cnt 3 L.ags:=by
   unfold cnt
   rw[←List.countP_eq_length_filter,←List.countP_eq_length_filter]
   obtain⟨hk,hbe⟩:=List.getElem?_eq_some_iff.1 hb
   rw[List.countP_set hk]
   simp only[hbe,(hidle hbk).1]
   simp
  exact Int.le_trans h1 (Int.le_trans h2 (hidle hbk).2)
theorem SInv.move_got{c:Conf}{L:Ldr}{A:List Agt}{M M':List Mail}(h:SInv c L A M){m:Mail}(hm:m∈M)(hrep:m.rep=true)(hr:ledErr c L (uHeard m)=0)(hM:∀m∈M',m∈M):SInv c (ledNext L (uHeard m)) A M':=by
 have f:=ldr_facts h.led
 have hok:=led_ok hr
 obtain⟨z1,z2,z3⟩:=led_zero hr
 obtain⟨b,hb,hs,htr⟩:∃b,L.ags[m.agent.toNat]?=some b/\b.st=1/\m.try_=b.try_:=by
  rcases led_cases z3 with⟨k,_⟩|⟨k,_⟩|⟨k,w⟩|⟨k,_,w⟩|⟨k,_⟩|⟨k,_⟩
  ·simp at k
  ·simp at k
  ·simp at k
  ·exact w
  ·simp at k
  ·simp at k
 have heq:ledNext L (uHeard m)= { L with ags:=L.ags.set m.agent.toNat (got (uHeard m) b) } :=led_eq7 rfl hb
 rw[heq] at hok⊢
 have hk:m.agent.toNat<L.ags.length:=(List.getElem?_eq_some_iff.1 hb).1
 have ht:∀x,tgt { L with ags:=L.ags.set m.agent.toNat (got (uHeard m) b) } x=tgt L x:=tgt_of f rfl rfl (by simp)
 have hgot:(got (uHeard m) b).try_=b.try_/\(got (uHeard m) b).back=b.back/\((got (uHeard m) b).st=2∨(got (uHeard m) b).st=3)/\((got (uHeard m) b).st=2↔m.good=true):=by
  unfold got
  refine⟨rfl,rfl,?_,?_⟩
  ·dsimp only;split<;>simp
  ·dsimp only;split
   ·rename_i e;simp[e]
   ·rename_i e;simp[e]
 generalize got (uHeard m) b=g at hgot ht hok
 obtain⟨g1,g2,g3,g4⟩:=hgot
 have hset:∀(j:Nat)(x:Kn),(L.ags.set m.agent.toNat g)[j]?=some x->(j=m.agent.toNat/\x=g)∨(j≠m.agent.toNat/\L.ags[j]?=some x):=fun j x hx=>by
  rw[List.getElem?_set] at hx
  by_cases e:m.agent.toNat=j
  ·rw[if_pos e,if_pos (by omega)] at hx
   exact .inl ⟨e.symm,(Option.some.inj hx).symm⟩
  ·rw[if_neg e] at hx
   exact .inr ⟨Ne.symm e,hx⟩
 refine⟨hok,by simp[h.len],fun j a b' ha hb'=> ?_,fun hbk i o x x' hx hs' hx' hlt=> ?_,fun hbk=> ?_⟩
 ·rcases hset j b' hb' with⟨rfl,rfl⟩|⟨hj,hb'⟩
  ·obtain⟨i1,i2⟩:=h.agt _ a b ha hb
   obtain⟨r1,r2⟩:=(i2 m hm rfl).rep hrep
   have hle:=i1.le
   have he:a.try_=b.try_:=by omega
   obtain⟨r3,r4⟩:=r2 (by omega)
   have hon:=i1.on (by omega) he
   refine⟨⟨i1.ok,by omega,fun e=>(by omega),fun _ _=>by rw[ht,g2];exact hon,fun _ e=>(by omega),fun _=>⟨by omega,r3,by rw[g4,r4]⟩,i1.pins,i1.low⟩,fun m' hm' hk'=> ?_⟩
   have hI:=i2 m' (hM m' hm') hk'
   refine⟨hI.rep,fun e=>⟨by have:=(hI.told e).1;omega,fun e2=> ?_⟩⟩
   have:=(hI.told e).1
   omega
  ·exact KInv.sub (KInv.tr (h.agt j a b' ha hb') ht (fun q hq=>hq) (Nat.le_refl _)) hM
 ·have hbk:L.back=false:=hbk
  have hx:(L.ags.set m.agent.toNat g)[i]?=some x:=hx
  have hx':(L.ags.set m.agent.toNat g)[o]?=some x':=hx'
  rcases hset o x' hx' with⟨rfl,rfl⟩|⟨ho,hy'⟩
  ·exact g3
  ·rcases hset i x hx with⟨rfl,rfl⟩|⟨hi,hy⟩
   ·exact h.wave hbk _ o b x' hb (by omega) hy' hlt
   ·exact h.wave hbk i o x x' hy hs' hy' hlt
 ·have hbk:L.back=false:=hbk
  obtain⟨j,j1,j2⟩:=h.ill hbk
  refine⟨j,fun i x hx hs'=> ?_,?_⟩
  ·have hx:(L.ags.set m.agent.toNat g)[i]?=some x:=hx
   rcases hset i x hx with⟨rfl,rfl⟩|⟨hi,hx⟩
   ·omega
   ·exact j1 i x hx hs'
  ·have hj:=j1 _ b hb hs
   have h2:(List.range L.ags.length).countP (illAt c { L with ags:=L.ags.set m.agent.toNat g } j)<=(List.range L.ags.length).countP (illAt c L j):=by
    refine List.countP_mono_left fun i hi hx=> ?_
    unfold illAt at hx⊢
    dsimp only at hx
    cases hy:(L.ags.set m.agent.toNat g)[i]? with
    |none=>rw[hy] at hx;cases hx
    |some x=>
     rw[hy] at hx
     rcases hset i x hy with⟨rfl,rfl⟩|⟨_,hy⟩
     ·simp only[decide_eq_true_eq] at hx;exact absurd hj hx.2
     ·rw[hy];exact hx
   show((List.range (L.ags.set m.agent.toNat g).length).countP (illAt c { L with ags:=L.ags.set m.agent.toNat g } j):Int)<=c.bud
   rw[List.length_set]
   omega
theorem SInv.move{c:Conf}{L L':Ldr}{A A':List Agt}{M M':List Mail}(h:SInv c L A M)(hv:Mv c L A M L' A' M'):SInv c L' A' M':=by
 have f:=ldr_facts h.led
 cases hv with
 |rest hM=>exact⟨h.led,h.len,fun k a b ha hb=>KInv.sub (h.agt k a b ha hb) hM,h.wave,h.ill⟩
 |led r hr hk=>exact h.move_led hr hk
 |send k hr hm=>exact h.move_send hr hm
 |again k b hk h1 h2 hg hm=>
  refine⟨h.led,h.len,fun j a b' ha hb'=>KInv.more (x:=toMail c _ k b.try_) (j:=k) (h.agt j a b' ha hb') hm (by simp) fun e=> ?_,h.wave,h.ill⟩
  subst e
  obtain rfl:b=b':=by rw[hk] at hb';exact Option.some.inj hb'
  have hte:=turnErr_of h.led (List.getElem?_eq_some_iff.1 hk).1 hg
  refine⟨fun e=>(by cases e),fun _=>⟨Int.le_refl _,fun _=>⟨fun _=> ?_,fun e=>absurd e (Int.lt_irrefl _)⟩⟩⟩
  rw[h2];exact turnRel_tgt hte
 |got m hm hr he hM=>exact h.move_got hm hr he hM
 |begin m a hm hr ha he hM=>
  refine⟨h.led,by simp[h.len],left_set (P:=fun k a b=>KInv L _ k b a) (fun j x b _ hx hb=>KInv.sub (h.agt j x b hx hb) hM) fun b hb=>KInv.begin (h.agt _ a b ha hb) hm hr he hM,h.wave,h.ill⟩
 |step k a ha he=>
  refine⟨h.led,by simp[h.len],left_set (P:=fun k a b=>KInv L _ k b a) (fun j x b _ hx hb=>h.agt j x b hx hb) fun b hb=>KInv.step (h.agt _ a b ha hb) (f.rel hb) he,h.wave,h.ill⟩
 |done k a g ha he hM=>
  refine⟨h.led,by simp[h.len],left_set (P:=fun k a b=>KInv L _ k b a) (fun j x b hj hx hb=>KInv.more (x:=repMail k (agtNext a (uDone a g))) (j:=k) (h.agt j x b hx hb) hM (by simp[repMail]) fun e=>absurd e.symm hj) fun b hb=>KInv.done (h.agt _ a b ha hb) (f.low hb) he hM,h.wave,h.ill⟩
 |report k a ha hg hM=>
  refine⟨h.led,h.len,fun j x b hx hb=>KInv.more (x:=repMail k a) (j:=k) (h.agt j x b hx hb) hM (by simp[repMail]) fun e=> ?_,h.wave,h.ill⟩
  subst e
  obtain rfl:a=x:=by rw[ha] at hx;exact Option.some.inj hx
  exact⟨fun _=>⟨Int.le_refl _,fun _=>⟨hg,rfl⟩⟩,fun e=>by cases e⟩
open Go
theorem ledFrom_snoc{c:Conf}{r:Recd}{L:Ldr} :∀ {rs:List Recd} {l:Ldr},ledFrom c l rs= .ok L->ledErr c L r=0->ledFrom c l (rs++[r])= .ok (ledNext L r)
 | [],l,h,hr=>by
  obtain rfl:=Except.ok.inj (show Except.ok l=Except.ok L from h)
  show ledFrom c l [r]=_
  unfold ledFrom;rw[if_pos hr];rfl
 |q::rs,l,h,hr=>by
  show ledFrom c l (q::(rs++[r]))=_
  unfold ledFrom at h⊢
  split at h
  ·rename_i hq;rw[if_pos hq];exact ledFrom_snoc h hr
  ·cases h
theorem ledReplay_snoc{c:Conf}{rs:List Recd}{r:Recd}{L:Ldr}(h:ledReplay c rs= .ok L)(hr:ledErr c L r=0)(hn:(rs++[r]).length<=200):ledReplay c (rs++[r])= .ok (ledNext L r):=by
 unfold ledReplay at h⊢
 split at h
 ·cases h
 ·rename_i hc
  rw[if_neg hc]
  split at h
  ·cases h
  ·rw[if_neg (by omega)];exact ledFrom_snoc h hr
theorem ledFrom_ok{c:Conf}{L:Ldr} :∀ {rs:List Recd} {l:Ldr},ldrErr c l=0->ledFrom c l rs= .ok L->ldrErr c L=0
 | [],l,h,e=>by obtain rfl:=Except.ok.inj (show Except.ok l=Except.ok L from e);exact h
 |q::rs,l,h,e=>by
  unfold ledFrom at e
  split at e
  ·rename_i hq;exact ledFrom_ok (led_ok hq) e
  ·cases e
theorem ledReplay_ok{c:Conf}{rs:List Recd}{L:Ldr}(h:ledReplay c rs= .ok L):cfgErr c=0/\ldrErr c L=0:=by
 unfold ledReplay at h
 split at h
 ·cases h
 ·rename_i hc
  split at h
  ·cases h
  ·exact⟨by omega,ledFrom_ok (new_ok (by omega)) h⟩
theorem ledReplay_nil{c:Conf}(h:cfgErr c=0):ledReplay c []= .ok (newLdr c):=by
 unfold ledReplay;rw[if_neg (by omega),if_neg (by simp)];rfl
theorem replayFrom_snoc{r:Recd}{A:Agt} :∀ {rs:List Recd} {a:Agt},replayFrom a rs= .ok A->nextErr A r=0->replayFrom a (rs++[r])= .ok (agtNext A r)
 | [],l,h,hr=>by
  obtain rfl:=Except.ok.inj (show Except.ok l=Except.ok A from h)
  show replayFrom l [r]=_
  unfold replayFrom;rw[if_pos hr];rfl
 |q::rs,l,h,hr=>by
  show replayFrom l (q::(rs++[r]))=_
  unfold replayFrom at h⊢
  split at h
  ·rename_i hq;rw[if_pos hq];exact replayFrom_snoc h hr
  ·cases h
theorem agtReplay_snoc{f:Rls}{rs:List Recd}{r:Recd}{A:Agt}(h:agtReplay f rs= .ok A)(hr:nextErr A r=0)(hn:(rs++[r]).length<=200):agtReplay f (rs++[r])= .ok (agtNext A r):=by
 unfold agtReplay at h⊢
 split at h
 ·cases h
 ·rename_i hc
  rw[if_neg hc]
  split at h
  ·cases h
  ·rw[if_neg (by omega)];exact replayFrom_snoc h hr
theorem newAgt_ok{f:Rls}(h:relErr f=0):agtErr (newAgt f)=0:=by
 obtain⟨h1,h2⟩:=relErr_zero h
 exact agtErr_of h2 h1 ⟨Int.le_refl _,by unfold newAgt;simp⟩ (fun e=>by cases e) (fun _=>by simp[newAgt,noRel])
theorem replayFrom_ok{A:Agt} :∀ {rs:List Recd} {a:Agt},agtErr a=0->replayFrom a rs= .ok A->agtErr A=0
 | [],l,h,e=>by obtain rfl:=Except.ok.inj (show Except.ok l=Except.ok A from e);exact h
 |q::rs,l,h,e=>by
  unfold replayFrom at e
  split at e
  ·rename_i hq;exact replayFrom_ok (next_ok hq) e
  ·cases e
theorem agtReplay_ok{f:Rls}{rs:List Recd}{A:Agt}(h:agtReplay f rs= .ok A):relErr f=0/\agtErr A=0:=by
 unfold agtReplay at h
 split at h
 ·cases h
 ·rename_i hc
  split at h
  ·cases h
  ·exact⟨by omega,replayFrom_ok (newAgt_ok (by omega)) h⟩
theorem agtReplay_nil{f:Rls}(h:relErr f=0):agtReplay f []= .ok (newAgt f):=by
 unfold agtReplay;rw[if_neg (by omega),if_neg (by simp)];rfl
def mailOk(m:Mail):Prop:=¬badWho m/\¬badForm m/\(m.rep=false->relErr m.rel=0)
theorem mailsFrom_iff:∀ {l:List Mail},mailsFrom l=0↔ ∀m∈l,mailOk m
 | []=>by simp[mailsFrom]
 |x::q=>by
  unfold mailsFrom
  constructor
  ·intro h
   split at h
   ·omega
   ·split at h
    ·omega
    ·rename_i h1 h2
     split at h
     ·rename_i h3
      intro m hm
      rcases List.mem_cons.1 hm with rfl|hm
      ·exact⟨h1,h2,fun e=>by rw[h3] at e;cases e⟩
      ·exact mailsFrom_iff.1 h m hm
     ·split at h
      ·omega
      ·rename_i h3 h4
       intro m hm
       rcases List.mem_cons.1 hm with rfl|hm
       ·exact⟨h1,h2,fun _=>by omega⟩
       ·exact mailsFrom_iff.1 h m hm
  ·intro h
   obtain⟨h1,h2,h3⟩:=h x List.mem_cons_self
   have h4:=mailsFrom_iff.2 fun m hm=>h m (List.mem_cons_of_mem _ hm)
   rw[if_neg h1,if_neg h2]
   split
   ·exact h4
   ·rename_i h5
    rw[if_neg (by rw[h3 (by simpa using h5)];omega)]
    exact h4
theorem mailsCheck_iff{l:List Mail} :mailsCheck l=0↔l.length<=40/\∀m∈l,mailOk m:=by
 unfold mailsCheck
 constructor
 ·intro h
  split at h
  ·omega
  ·exact⟨by omega,mailsFrom_iff.1 h⟩
 ·rintro⟨h1,h2⟩
  rw[if_neg (by omega)];exact mailsFrom_iff.2 h2
theorem sentOk{l:List Mail}{m:Mail}(h:sendErr l m=0):mailsCheck (sent l m)=0/\mailOk m:=by
 unfold sendErr at h
 split at h
 ·rename_i h0
  obtain⟨a1,a2⟩:=mailsCheck_iff.1 h0
  obtain⟨b1,b2⟩:=mailsCheck_iff.1 h
  refine⟨?_,b2 m (by simp)⟩
  unfold sent
  split
  ·refine mailsCheck_iff.2 ⟨by simp;omega,fun x hx=> ?_⟩
   rcases List.mem_append.1 hx with hx|hx
   ·exact a2 x hx
   ·exact b2 x hx
  ·exact h0
 ·omega
theorem sent_mem{l:List Mail}{m x:Mail}(h:x∈sent l m):x∈l∨x=m:=by
 unfold sent at h
 split at h
 ·rcases List.mem_append.1 h with h|h
  ·exact .inl h
  ·exact .inr (by simpa using h)
 ·exact .inl h
theorem left_mem{l:List Mail}{k:Int}{tw:Bool}{x:Mail}(h:x∈left l k tw):x∈l:=by
 unfold left at h
 split at h
 ·exact h
 ·rcases List.mem_append.1 h with h|h
  ·exact List.mem_of_mem_take h
  ·exact List.mem_of_mem_drop h
theorem left_len{l:List Mail}{k:Int}{tw:Bool} :(left l k tw).length<=l.length:=by
 unfold left
 split
 ·exact Nat.le_refl _
 ·rw[List.length_append,List.length_take,List.length_drop];omega
theorem left_ok{l:List Mail}{k:Int}{tw:Bool}(h:mailsCheck l=0):mailsCheck (left l k tw)=0:=by
 obtain⟨a1,a2⟩:=mailsCheck_iff.1 h
 have:=left_len (l:=l) (k:=k) (tw:=tw)
 exact mailsCheck_iff.2 ⟨by omega,fun x hx=>a2 x (left_mem hx)⟩
theorem took_mem{l:List Mail}{k:Int}(h:takeErr l k=0):took l k∈l/\0<=k/\k<l.length/\mailsCheck l=0:=by
 unfold takeErr at h
 split at h
 ·rename_i h0
  split at h
  ·omega
  ·refine⟨?_,by omega,by omega,h0⟩
   unfold took
   have hk:k.toNat<l.length:=by omega
   rw[List.getD_eq_getElem?_getD,List.getElem?_eq_getElem hk]
   exact List.getElem_mem hk
 ·omega
structure Logs(w:Wld)(L:Ldr)(A:List Agt):Prop where
 cfg:cfgErr w.c=0
 len:(w.n.length:Int)=agentsOf w.c.waves
 alen:A.length=w.n.length
 mail:mailsCheck w.m=0
 who:∀m∈w.m,m.agent<w.n.length
 hd:DOk w.h.d (dskRecs w.h.d)
 hl:ledReplay w.c (dskRecs w.h.d)= .ok L
 hi:w.h.l=if w.h.up=true then L else newLdr w.c
 nd:∀(k:Nat)(n:Nod)(a:Agt),w.n[k]?=some n->A[k]?=some a->DOk n.d (dskRecs n.d)/\agtReplay w.c.first (dskRecs n.d)= .ok a/\n.a=if n.up=true then a else newAgt w.c.first
theorem logOf_ok{d:Dsk}{up:Bool}(h:DOk d (dskRecs d)):logOf d up= .ok (if up=true then dskRecs d else []):=by
 obtain⟨e1,e2,e3,e4⟩:=h.err
 unfold logOf
 rw[if_neg (by omega),if_neg (fun e=>e.2 e4)]
theorem nodsErr_zero{f:Rls} :∀ {l:List Nod},nodsErr f l=0↔ ∀n∈l,nodErr f n=0
 | []=>by simp[nodsErr]
 |x::q=>by
  unfold nodsErr
  constructor
  ·intro h
   split at h
   ·omega
   ·intro n hn
    rcases List.mem_cons.1 hn with rfl|hn
    ·omega
    ·exact nodsErr_zero.1 h n hn
  ·intro h
   rw[if_neg (by rw[h x List.mem_cons_self];omega)]
   exact nodsErr_zero.2 fun n hn=>h n (List.mem_cons_of_mem _ hn)
theorem farMail_false{k:Int}{l:List Mail} :farMail k l=false↔ ∀m∈l,m.agent<k:=by
 unfold farMail
 rw[List.any_eq_false]
 simp
theorem Logs.ok{w:Wld}{L:Ldr}{A:List Agt}(h:Logs w L A):wldErr w=0:=by
 have hrel:relErr w.c.first=0:=(cfgErr_zero h.cfg).1
 have hH:hedErr w.c w.h=0:=by
  unfold hedErr
  rw[logOf_ok h.hd]
  dsimp only
  cases hu:w.h.up with
  |true=>rw[if_pos rfl,h.hl];dsimp only;rw[h.hi,hu,if_pos rfl,if_pos rfl]
  |false=>rw[if_neg (show¬(false=true) by simp),ledReplay_nil h.cfg];dsimp only;rw[h.hi,hu,if_neg (show¬(false=true) by simp),if_pos rfl]
 have hN:nodsErr w.c.first w.n=0:=nodsErr_zero.2 fun n hn=>by
  obtain⟨k,hk⟩:=List.getElem?_of_mem hn
  have hka:k<A.length:=by rw[h.alen];exact(List.getElem?_eq_some_iff.1 hk).1
  obtain⟨n1,n2,n3⟩:=h.nd k n _ hk (List.getElem?_eq_getElem hka)
  unfold nodErr
  rw[logOf_ok n1]
  dsimp only
  cases hu:n.up with
  |true=>rw[if_pos rfl,n2];dsimp only;rw[n3,hu,if_pos rfl,if_pos rfl]
  |false=>rw[if_neg (show¬(false=true) by simp),agtReplay_nil hrel];dsimp only;rw[n3,hu,if_neg (show¬(false=true) by simp),if_pos rfl]
 unfold wldErr
 rw[if_neg (by rw[h.cfg];omega),if_neg (by rw[h.len];omega),if_neg (by rw[h.mail];omega),if_neg (by rw[farMail_false.2 h.who];simp),if_neg (by rw[hH];omega),hN]
theorem Logs.lead{w y:Wld}{L:Ldr}{A:List Agt}{r:Recd}(h:Logs w L A)(hu:w.h.up=true)(hy:wLead w r= .ok y):
  ledErr w.c L r=0/\Logs y (ledNext L r) A/\y.c=w.c/\y.n=w.n/\y.m=w.m/\y.h.up=true/\y.h.l=ledNext L r/\dskRecs y.h.d=dskRecs w.h.d++[r]:=by
 have hi:=h.hi
 rw[if_pos hu] at hi
 unfold wLead at hy
 rw[hi] at hy
 split at hy
 ·cases hy
 ·rename_i he
  split at hy
  ·cases hy
  ·rename_i d hd
   obtain rfl:=Except.ok.inj hy
   have hD:=dskSafe_ok h.hd hd
   have hr:=hD.err.2.1
   have he:ledErr w.c L r=0:=by omega
   refine⟨he,⟨h.cfg,h.len,h.alen,h.mail,h.who,by rw[hr];exact hD,by rw[hr];exact ledReplay_snoc h.hl he hD.many,by simp[hu],h.nd⟩,rfl,rfl,rfl,hu,rfl,hr⟩
theorem Logs.does{w y:Wld}{L:Ldr}{A:List Agt}{r:Recd}{k:Nat}{n:Nod}{a:Agt}(h:Logs w L A)(hn:w.n[k]?=some n)(ha:A[k]?=some a)(hu:n.up=true)(hy:wDoes w k r= .ok y):
  nextErr a r=0/\Logs y L (A.set k (agtNext a r))/\y.c=w.c/\y.h=w.h/\y.m=w.m/\∃n',y.n=w.n.set k n'/\n'.a=agtNext a r/\n'.up=true/\dskRecs n'.d=dskRecs n.d++[r]:=by
 obtain⟨n1,n2,n3⟩:=h.nd k n a hn ha
 rw[if_pos hu] at n3
 unfold wDoes at hy
 rw[hn] at hy
 dsimp only at hy
 unfold nDoes at hy
 rw[n3] at hy
 split at hy
 ·cases hy
 ·rename_i n' hn'
  obtain rfl:=Except.ok.inj hy
  split at hn'
  ·cases hn'
  ·rename_i he
   split at hn'
   ·cases hn'
   ·rename_i d hd
    obtain rfl:=Except.ok.inj hn'
    have hD:=dskSafe_ok n1 hd
    have hr:=hD.err.2.1
    have he:nextErr a r=0:=by omega
    refine⟨he,⟨h.cfg,by simp[h.len],by simp[h.alen],h.mail,fun m hm=>by simpa using h.who m hm,h.hd,h.hl,h.hi,fun j x b hx hb=> ?_⟩,rfl,rfl,rfl,⟨_,rfl,rfl,hu,hr⟩⟩
    rw[List.getElem?_set] at hx hb
    by_cases e:k=j
    ·rw[if_pos e] at hx hb
     split at hx
     ·split at hb
      ·obtain rfl:=Option.some.inj hx
       obtain rfl:=Option.some.inj hb
       exact⟨by rw[hr];exact hD,by rw[hr];exact agtReplay_snoc n2 he hD.many,by rw[if_pos hu]⟩
      ·cases hb
     ·cases hx
    ·rw[if_neg e] at hx hb
     exact h.nd j x b hx hb
theorem Logs.post{w:Wld}{L:Ldr}{A:List Agt}{m:Mail}(h:Logs w L A)(hm:m.agent<w.n.length):
  Logs (wPost w m) L A/\(∀x∈(wPost w m).m,x∈w.m∨x=m)/\(wPost w m).c=w.c/\(wPost w m).n=w.n/\(wPost w m).h=w.h:=by
 unfold wPost
 split
 ·rename_i he
  refine⟨⟨h.cfg,h.len,h.alen,(sentOk he).1,fun x hx=> ?_,h.hd,h.hl,h.hi,h.nd⟩,fun x hx=>sent_mem hx,rfl,rfl,rfl⟩
  rcases sent_mem hx with hx|rfl
  ·exact h.who x hx
  ·exact hm
 ·exact⟨h,fun x hx=> .inl hx,rfl,rfl,rfl⟩
theorem Logs.less{w:Wld}{L:Ldr}{A:List Agt}{k:Int}{tw:Bool}(h:Logs w L A):Logs { w with m:=left w.m k tw } L A:=
 ⟨h.cfg,h.len,h.alen,left_ok h.mail,fun m hm=>h.who m (left_mem hm),h.hd,h.hl,h.hi,h.nd⟩
theorem Logs.agent{w:Wld}{L:Ldr}{A:List Agt}{k:Nat}{n:Nod}(h:Logs w L A)(hn:w.n[k]?=some n):∃a,A[k]?=some a/\DOk n.d (dskRecs n.d)/\agtReplay w.c.first (dskRecs n.d)= .ok a/\n.a=if n.up=true then a else newAgt w.c.first:=by
 have hk:k<A.length:=by rw[h.alen];exact(List.getElem?_eq_some_iff.1 hn).1
 exact⟨_,List.getElem?_eq_getElem hk,h.nd k n _ hn (List.getElem?_eq_getElem hk)⟩
theorem Logs.ags{w:Wld}{L:Ldr}{A:List Agt}(h:Logs w L A):ldrErr w.c L=0/\L.ags.length=w.n.length:=by
 have h1:=(ledReplay_ok h.hl).2
 obtain⟨g1,g2,g3,g4,g5,g6,g7⟩:=ldrErr_zero.1 h1
 have:=(form_parts g6).2.2.1
 have:=h.len
 exact⟨h1,by omega⟩
theorem turnErr_zero{c:Conf}{l:Ldr}{k:Int}(h:turnErr c l k=0):ldrErr c l=0/\0<=k/\k<l.ags.length/\l.goal≠0:=by
 unfold turnErr at h
 split at h
 ·omega
 ·split at h
  ·omega
  ·split at h
   ·omega
   ·exact⟨by omega,by omega,by omega,by assumption⟩
theorem Logs.tell{w y:Wld}{L:Ldr}{A:List Agt}{x:Hap}(h:Logs w L A)(hu:w.h.up=true)(hy:wTell w x= .ok y):∃L' A',Logs y L' A'/\Mv w.c L A w.m L' A' y.m/\y.c=w.c:=by
 have hi:=h.hi
 rw[if_pos hu] at hi
 unfold wTell at hy
 rw[hi] at hy
 split at hy
 ·cases hy
 ·rename_i ht
  obtain⟨t1,t2,t3,t4⟩:=turnErr_zero (Decidable.not_not.1 ht)
  have hag:=h.ags.2
  have hk:((x.agent.toNat:Nat):Int)=x.agent:=by omega
  split at hy
  ·split at hy
   ·cases hy
   ·rename_i b hb
    split at hy
    ·cases hy
    ·rename_i hs
     obtain rfl:=Except.ok.inj hy
     obtain⟨p1,p2,p3,p4,p5⟩:=h.post (m:=⟨x.agent,b.try_,false,false,turnRel w.c L x.agent⟩) (by simp only;omega)
     refine⟨L,A,p1,.again x.agent.toNat b hb (Decidable.byContradiction fun e=>hs (.inl e)) (Decidable.byContradiction fun e=>hs (.inr e)) t4 fun m hm=> ?_,p3⟩
     unfold toMail
     rw[hk]
     exact p2 m hm
  ·split at hy
   ·cases hy
   ·rename_i z hz
    obtain rfl:=Except.ok.inj hy
    obtain⟨l1,l2,l3,l4,l5,l6,l7,l8⟩:=h.lead hu hz
    obtain⟨p1,p2,p3,p4,p5⟩:=l2.post (m:=⟨x.agent,L.nx,false,false,turnRel w.c L x.agent⟩) (by rw[l4];simp only;omega)
    refine⟨_,A,p1,?_,by rw[p3,l3]⟩
    have:=Mv.send (c:=w.c) (L:=L) (A:=A) (M:=w.m) (M':=(wPost z ⟨x.agent,L.nx,false,false,turnRel w.c L x.agent⟩).m) x.agent.toNat (by rw[hk];exact l1) fun m hm=>by
     rw[←l5];unfold toMail;rw[hk];exact p2 m hm
    rw[hk] at this
    exact this
theorem Logs.step{w y:Wld}{L:Ldr}{A:List Agt}{x:Hap}{n:Nod}(h:Logs w L A)(h0:0<=x.agent)(hn:w.n[x.agent.toNat]?=some n)(hu:n.up=true)(hy:wStep w x n= .ok y):∃L' A',Logs y L' A'/\Mv w.c L A w.m L' A' y.m/\y.c=w.c:=by
 obtain⟨a,ha,n1,n2,n3⟩:=h.agent hn
 rw[if_pos hu] at n3
 unfold wStep at hy
 rw[n3] at hy
 split at hy
 ·cases hy
 ·split at hy
  ·cases hy
  ·split at hy
   ·obtain⟨d1,d2,d3,d4,d5,_⟩:=h.does hn ha hu hy
    exact⟨L,_,d2,by rw[d5];exact .step _ a ha d1,d3⟩
   ·split at hy
    ·cases hy
    ·rename_i z hz
     obtain rfl:=Except.ok.inj hy
     obtain⟨d1,d2,d3,d4,d5,n',e1,e2,e3,e4⟩:=h.does hn ha hu hz
     have hkl:=(List.getElem?_eq_some_iff.1 hn).1
     have hz':z.n[x.agent.toNat]?=some n':=by rw[e1,List.getElem?_set,if_pos rfl,if_pos hkl]
     have hrep:wReport z x.agent.toNat=wPost z (repMail x.agent.toNat (agtNext a (uDone a x.good))):=by unfold wReport;rw[hz'];dsimp only;rw[e2]
     obtain⟨p1,p2,p3,p4,p5⟩:=d2.post (m:=repMail x.agent.toNat (agtNext a (uDone a x.good))) (by rw[e1];simp[repMail];omega)
     rw[hrep]
     refine⟨L,_,p1,.done x.agent.toNat a x.good ha d1 fun m hm=> ?_,by rw[p3,d3]⟩
     rw[←d5];exact p2 m hm
theorem Logs.hear{w y:Wld}{L:Ldr}{A:List Agt}{x:Hap}(h:Logs w L A)(hy:wHear w x= .ok y):∃L' A',Logs y L' A'/\Mv w.c L A w.m L' A' y.m/\y.c=w.c:=by
 unfold wHear at hy
 split at hy
 ·cases hy
 ·rename_i ht
  obtain⟨t1,t2,t3,t4⟩:=took_mem (Decidable.not_not.1 ht)
  obtain⟨o1,o2,o3⟩:=(mailsCheck_iff.1 t4).2 _ t1
  have hw:=h.who _ t1
  generalize took w.m x.num=m at*
  unfold badWho at o1
  split at hy
  ·cases hy
  ·rename_i n hn
   obtain⟨a,ha,n1,n2,n3⟩:=h.agent hn
   split at hy
   ·cases hy
   ·rename_i hup
    dsimp only at hy
    have hL:=h.less (k:=x.num) (tw:=decide (x.kind=10))
    have hsub:∀q∈left w.m x.num (decide (x.kind=10)),q∈w.m:=fun q hq=>left_mem hq
    split at hy
    ·rename_i hr
     have hu:w.h.up=true:=by
      cases hu:w.h.up with
      |true=>rfl
      |false=>exact absurd (.inl ⟨hr,hu⟩) hup
     obtain rfl:=Except.ok.inj hy
     cases hl:wLead { w with m:=left w.m x.num (decide (x.kind=10)) } (uHeard m) with
     |error e=>exact⟨L,A,hL,.rest hsub,rfl⟩
     |ok z=>
      obtain⟨l1,l2,l3,l4,l5,_⟩:=hL.lead hu hl
      refine⟨_,A,l2,.got m t1 hr l1 fun q hq=>hsub q ?_,l3⟩
      have:(orSame { w with m:=left w.m x.num (decide (x.kind=10)) } (.ok z)).m=left w.m x.num (decide (x.kind=10)):=l5
      rw[this] at hq;exact hq
    ·rename_i hr
     have hr:m.rep=false:=by simpa using hr
     have hu:n.up=true:=by
      cases hu:n.up with
      |true=>rfl
      |false=>exact absurd (.inr ⟨hr,hu⟩) hup
     rw[if_pos hu] at n3
     have hk:((m.agent.toNat:Nat):Int)=m.agent:=by omega
     split at hy
     ·rename_i hg
      obtain rfl:=Except.ok.inj hy
      rw[n3] at hg
      have hn':(({ w with m:=left w.m x.num (decide (x.kind=10)) } :Wld).n)[m.agent.toNat]?=some n:=hn
      have hrep:wReport { w with m:=left w.m x.num (decide (x.kind=10)) } m.agent.toNat=wPost { w with m:=left w.m x.num (decide (x.kind=10)) } (repMail m.agent.toNat a):=by unfold wReport;rw[hn'];dsimp only;rw[n3]
      obtain⟨p1,p2,p3,p4,p5⟩:=hL.post (m:=repMail m.agent.toNat a) (by simp only[repMail];omega)
      rw[hrep]
      exact⟨L,A,p1,.report m.agent.toNat a ha hg.2 fun q hq=>(p2 q hq).imp (hsub q) id,p3⟩
     ·obtain rfl:=Except.ok.inj hy
      cases hl:wDoes { w with m:=left w.m x.num (decide (x.kind=10)) } m.agent.toNat (uBegin m) with
      |error e=>exact⟨L,A,hL,.rest hsub,rfl⟩
      |ok z=>
       obtain⟨d1,d2,d3,d4,d5,_⟩:=hL.does hn ha hu hl
       refine⟨L,_,d2,.begin m a t1 hr ha d1 fun q hq=>hsub q ?_,d3⟩
       have:(orSame { w with m:=left w.m x.num (decide (x.kind=10)) } (.ok z)).m=left w.m x.num (decide (x.kind=10)):=d5
       rw[this] at hq;exact hq
theorem Logs.power{w y:Wld}{L:Ldr}{A:List Agt}{x:Hap}(h:Logs w L A)(hk:x.kind=12∨x.kind=13)(hy:wPower w x= .ok y):Logs y L A/\y.m=w.m/\y.c=w.c:=by
 have hrel:relErr w.c.first=0:=(cfgErr_zero h.cfg).1
 obtain⟨e1,e2,e3,e4⟩:=h.hd.err
 unfold wPower at hy
 split at hy
 ·split at hy
  ·cases hy
  ·rename_i hu
   split at hy
   ·cases hy
   ·rcases hk with k|k
    ·have hup:w.h.up=true:=by simpa[k] using hu
     rw[if_pos k,ledReplay_nil h.cfg] at hy
     dsimp only at hy
     obtain rfl:=Except.ok.inj hy
     rw[if_pos k]
     exact⟨⟨h.cfg,h.len,h.alen,h.mail,h.who,h.hd,h.hl,by simp[hup],h.nd⟩,rfl,rfl⟩
    ·have hup:w.h.up=false:=by simpa[k] using hu
     rw[if_neg (by omega),h.hl] at hy
     dsimp only at hy
     obtain rfl:=Except.ok.inj hy
     rw[if_neg (by omega),e3]
     exact⟨⟨h.cfg,h.len,h.alen,h.mail,h.who,h.hd,h.hl,by simp[hup],h.nd⟩,rfl,rfl⟩
 ·split at hy
  ·cases hy
  ·rename_i n hn
   obtain⟨a,ha,n1,n2,n3⟩:=h.agent hn
   obtain⟨f1,f2,f3,f4⟩:=n1.err
   have key:∀n',DOk n'.d (dskRecs n'.d)->agtReplay w.c.first (dskRecs n'.d)= .ok a->(n'.a=if n'.up=true then a else newAgt w.c.first)->Logs { w with n:=w.n.set x.agent.toNat n' } L A:=fun n' q1 q2 q3=>by
    refine⟨h.cfg,by simp[h.len],by simp[h.alen],h.mail,fun m hm=>by simpa using h.who m hm,h.hd,h.hl,h.hi,fun j z b hz hb=> ?_⟩
    have hz:(w.n.set x.agent.toNat n')[j]?=some z:=hz
    rw[List.getElem?_set] at hz
    by_cases e:x.agent.toNat=j
    ·rw[if_pos e] at hz
     split at hz
     ·obtain rfl:=Option.some.inj hz
      obtain rfl:a=b:=by rw[e,hb] at ha;exact(Option.some.inj ha).symm
      exact⟨q1,q2,q3⟩
     ·cases hz
    ·rw[if_neg e] at hz
     exact h.nd j z b hz hb
   split at hy
   ·cases hy
   ·rename_i hu
    split at hy
    ·cases hy
    ·rcases hk with k|k
     ·have hup:n.up=true:=by simpa[k] using hu
      rw[if_pos k,agtReplay_nil hrel] at hy
      dsimp only at hy
      obtain rfl:=Except.ok.inj hy
      rw[if_pos k]
      exact⟨key _ n1 n2 (by simp[hup]),rfl,rfl⟩
     ·have hup:n.up=false:=by simpa[k] using hu
      rw[if_neg (by omega),n2] at hy
      dsimp only at hy
      obtain rfl:=Except.ok.inj hy
      rw[if_neg (by omega),f3]
      exact⟨key _ n1 n2 (by simp[hup]),rfl,rfl⟩
theorem Logs.hap{w y:Wld}{L:Ldr}{A:List Agt}{x:Hap}(h:Logs w L A)(hy:wHap w x= .ok y):∃L' A',Logs y L' A'/\Mv w.c L A w.m L' A' y.m/\y.c=w.c:=by
 unfold wHap at hy
 split at hy
 ·exact h.hear hy
 ·split at hy
  ·split at hy
   ·cases hy
   ·obtain rfl:=Except.ok.inj hy
    exact⟨L,A,h.less,.rest fun q hq=>left_mem (show q∈left w.m x.num false from hq),rfl⟩
  ·split at hy
   ·split at hy
    ·cases hy
    ·rename_i hu
     obtain⟨l1,l2,l3,l4,l5,_⟩:=h.lead (by simpa using hu) hy
     refine⟨_,A,l2,?_,l3⟩
     rw[l5]
     refine .led _ l1 ?_
     unfold hapRec
     split
     ·simp
     ·split
      ·simp
      ·split<;>simp
   ·split at hy
    ·cases hy
    ·split at hy
     ·cases hy
     ·rename_i k1 k2 k3 k4 hwho
      split at hy
      ·split at hy
       ·cases hy
       ·rename_i hu
        exact h.tell (by simpa using hu) hy
      ·split at hy
       ·rename_i hk
        obtain⟨p1,p2,p3⟩:=h.power hk hy
        exact⟨L,A,p1,by rw[p2];exact .rest fun q hq=>hq,p3⟩
       ·rename_i hk
        split at hy
        ·cases hy
        ·rename_i n hn
         split at hy
         ·cases hy
         ·rename_i hu
          have hu:n.up=true:=by simpa using hu
          split at hy
          ·exact h.step (by omega) hn hu hy
          ·split at hy
           ·cases hy
           ·rename_i hg
            obtain rfl:=Except.ok.inj hy
            obtain⟨a,ha,n1,n2,n3⟩:=h.agent hn
            rw[if_pos hu] at n3
            have hrep:wReport w x.agent.toNat=wPost w (repMail x.agent.toNat a):=by unfold wReport;rw[hn];dsimp only;rw[n3]
            have hkl:=(List.getElem?_eq_some_iff.1 hn).1
            obtain⟨p1,p2,p3,p4,p5⟩:=h.post (m:=repMail x.agent.toNat a) (by simp only[repMail];omega)
            rw[hrep]
            refine⟨L,A,p1,.report x.agent.toNat a ha ?_ p2,p3⟩
            rw[←n3]
            cases hga:n.a.going with
            |false=>rfl
            |true=>exact absurd (.inl hga) hg
theorem fresh_logs{c:Conf}(h:cfgErr c=0):Logs (freshWld c) (newLdr c) (List.replicate (agentsOf c.waves).toNat (newAgt c.first)):=by
 obtain⟨y1,y2,y3,y4,y5,y6,y7⟩:=cfgErr_zero h
 have ha:=(agents_same y7).2
 have hr:dskRecs dsk0=[]:=DOk.nil.err.2.1
 have hd:DOk dsk0 (dskRecs dsk0):=by rw[hr];exact DOk.nil
 refine⟨h,?_,by simp[freshWld],by simp[freshWld,mailsCheck,mailsFrom],by simp[freshWld],hd,by show ledReplay c (dskRecs dsk0)=_;rw[hr];exact ledReplay_nil h,by simp[freshWld],fun k n a hn ha=> ?_⟩
 ·show((List.replicate (agentsOf c.waves).toNat (freshNod c.first)).length:Int)=agentsOf c.waves
  rw[List.length_replicate];omega
 ·have hn:=List.mem_of_getElem? hn
  have ha:=List.mem_of_getElem? ha
  obtain rfl:=List.eq_of_mem_replicate hn
  obtain rfl:=List.eq_of_mem_replicate ha
  exact⟨hd,by show agtReplay c.first (dskRecs dsk0)=_;rw[hr];exact agtReplay_nil y1,by simp[freshNod]⟩
theorem fresh_inv{c:Conf}(h:cfgErr c=0):SInv c (newLdr c) (List.replicate (agentsOf c.waves).toNat (newAgt c.first)) []:=by
 obtain⟨y1,y2,y3,y4,y5,y6,y7⟩:=cfgErr_zero h
 have hb0:∀(k:Nat)(b:Kn),(newLdr c).ags[k]?=some b->b=⟨0,0,false⟩:=fun k b hb=>List.eq_of_mem_replicate (List.mem_of_getElem? hb)
 have ht:tgt (newLdr c) true=c.first:=by rw[tgt_true];rfl
 refine⟨new_ok h,by simp[newLdr],fun k a b ha hb=>⟨?_,by simp⟩,fun _ k o b b' hb hs=> ?_,fun _=>⟨0,fun k b hb hs=> ?_,?_⟩⟩
 ·obtain rfl:=List.eq_of_mem_replicate (List.mem_of_getElem? ha)
  obtain rfl:=hb0 k b hb
  refine⟨newAgt_ok y1,Int.le_refl _,fun _=>⟨rfl,?_⟩,fun e=>absurd rfl e,fun e=>absurd rfl e,fun e=>by simp at e,fun p hp=>⟨c.first,by simp[newLdr],hp⟩,?_⟩
  ·rw[ht];exact⟨rfl,rfl,rfl⟩
  ·simp[newAgt,newLdr];omega
 ·rw[hb0 k b hb] at hs;exact absurd rfl hs
 ·rw[hb0 k b hb] at hs;cases hs
 ·have:(List.range (newLdr c).ags.length).countP (illAt c (newLdr c) 0)=0:=List.countP_eq_zero.2 fun k hk=>by
   unfold illAt
   cases hb:(newLdr c).ags[k]? with
   |none=>simp
   |some b=>simp[hb0 k b hb]
  rw[this];omega
open Go
theorem logOf_zero{d:Dsk}{up:Bool}{l:List Recd} :logOf d up= .ok l↔dskErr d=0/\(up=true->d.wait=[])/\l=if up=true then dskRecs d else []:=by
 unfold logOf
 constructor
 ·intro h
  split at h
  ·cases h
  ·split at h
   ·cases h
   ·rename_i h1 h2
    refine⟨by omega,fun e=>Decidable.byContradiction fun e2=>h2 ⟨e,e2⟩,(Except.ok.inj h).symm⟩
 ·rintro⟨h1,h2,rfl⟩
  rw[if_neg (by omega),if_neg (fun e=>e.2 (h2 e.1))]
structure HOk(c:Conf)(h:Hed):Prop where
 disk:dskErr h.d=0
 dry:h.up=true->h.d.wait=[]
 log:ledReplay c (if h.up=true then dskRecs h.d else [])= .ok h.l
structure NOk(f:Rls)(n:Nod):Prop where
 disk:dskErr n.d=0
 dry:n.up=true->n.d.wait=[]
 log:agtReplay f (if n.up=true then dskRecs n.d else [])= .ok n.a
theorem logOf_err{d:Dsk}{up:Bool}{e:Int}(h:logOf d up= .error e):e≠0:=by
 unfold logOf at h
 split at h
 ·rename_i h0;injection h with h;omega
 ·split at h
  ·injection h with h;omega
  ·cases h
theorem ledFrom_err{c:Conf}{e:Int} :∀ {rs:List Recd} {l:Ldr},ledFrom c l rs= .error e->e≠0
 | [],l,h=>by cases h
 |r::q,l,h=>by
  unfold ledFrom at h
  split at h
  ·exact ledFrom_err h
  ·rename_i h0;injection h with h;omega
theorem ledReplay_err{c:Conf}{rs:List Recd}{e:Int}(h:ledReplay c rs= .error e):e≠0:=by
 unfold ledReplay at h
 split at h
 ·rename_i h0;injection h with h;omega
 ·split at h
  ·injection h with h;omega
  ·exact ledFrom_err h
theorem replayFrom_err{e:Int} :∀ {rs:List Recd} {l:Agt},replayFrom l rs= .error e->e≠0
 | [],l,h=>by cases h
 |r::q,l,h=>by
  unfold replayFrom at h
  split at h
  ·exact replayFrom_err h
  ·rename_i h0;injection h with h;omega
theorem agtReplay_err{f:Rls}{rs:List Recd}{e:Int}(h:agtReplay f rs= .error e):e≠0:=by
 unfold agtReplay at h
 split at h
 ·rename_i h0;injection h with h;omega
 ·split at h
  ·injection h with h;omega
  ·exact replayFrom_err h
theorem hedErr_zero{c:Conf}{h:Hed} :hedErr c h=0↔HOk c h:=by
 unfold hedErr
 constructor
 ·intro e
  split at e
  ·rename_i x hx;exact absurd e (logOf_err hx)
  ·rename_i l hl
   obtain⟨h1,h2,rfl⟩:=logOf_zero.1 hl
   split at e
   ·rename_i x hx;exact absurd e (ledReplay_err hx)
   ·rename_i x hx
    split at e
    ·rename_i he;exact⟨h1,h2,by rw[hx,he]⟩
    ·cases e
 ·rintro⟨h1,h2,h3⟩
  rw[logOf_zero.2 ⟨h1,h2,rfl⟩]
  dsimp only
  rw[h3]
  dsimp only
  rw[if_pos rfl]
theorem nodErr_zero{f:Rls}{n:Nod} :nodErr f n=0↔NOk f n:=by
 unfold nodErr
 constructor
 ·intro e
  split at e
  ·rename_i x hx;exact absurd e (logOf_err hx)
  ·rename_i l hl
   obtain⟨h1,h2,rfl⟩:=logOf_zero.1 hl
   split at e
   ·rename_i x hx;exact absurd e (agtReplay_err hx)
   ·rename_i x hx
    split at e
    ·rename_i he;exact⟨h1,h2,by rw[hx,he]⟩
    ·cases e
 ·rintro⟨h1,h2,h3⟩
  rw[logOf_zero.2 ⟨h1,h2,rfl⟩]
  dsimp only
  rw[h3]
  dsimp only
  rw[if_pos rfl]
structure WRight(w:Wld):Prop where
 cfg:cfgErr w.c=0
 len:(w.n.length:Int)=agentsOf w.c.waves
 mail:mailsCheck w.m=0
 who:∀m∈w.m,m.agent<w.n.length
 head:HOk w.c w.h
 node:∀n∈w.n,NOk w.c.first n
theorem wldErr_zero{w:Wld} :wldErr w=0↔WRight w:=by
 unfold wldErr
 constructor
 ·intro h
  split at h
  ·omega
  ·split at h
   ·omega
   ·split at h
    ·omega
    ·split at h
     ·omega
     ·split at h
      ·omega
      ·rename_i h1 h2 h3 h4 h5
       exact⟨by omega,by omega,by omega,farMail_false.1 (by simpa using h4),hedErr_zero.1 (by omega),fun n hn=>nodErr_zero.1 (nodsErr_zero.1 h n hn)⟩
 ·rintro⟨h1,h2,h3,h4,h5,h6⟩
  rw[if_neg (by omega),if_neg (by omega),if_neg (by omega),if_neg (by rw[farMail_false.2 h4];simp),if_neg (by rw[hedErr_zero.2 h5];omega)]
  exact nodsErr_zero.2 fun n hn=>nodErr_zero.2 (h6 n hn)
theorem HOk.lead{c:Conf}{h:Hed}(k:HOk c h)(hu:h.up=true){r:Recd}(hr:ledErr c h.l r=0){d:Dsk}(hd:dskSafe h.d r= .ok d):HOk c ⟨ledNext h.l r,d,h.up⟩:=by
 have hD:=dskSafe_ok (dok_of k.disk (k.dry hu)) hd
 obtain⟨e1,e2,e3,e4⟩:=hD.err
 have hl:=k.log
 rw[if_pos hu] at hl
 refine⟨e1,fun _=>e4,?_⟩
 dsimp only
 rw[if_pos hu,e2]
 exact ledReplay_snoc hl hr hD.many
theorem NOk.does{f:Rls}{n n':Nod}(k:NOk f n)(hu:n.up=true){r:Recd}(hd:nDoes n r= .ok n'):NOk f n'/\n'.up=true/\n'.a=agtNext n.a r/\nextErr n.a r=0/\dskRecs n'.d=dskRecs n.d++[r]:=by
 unfold nDoes at hd
 split at hd
 ·cases hd
 ·rename_i hr
  split at hd
  ·cases hd
  ·rename_i d hd'
   obtain rfl:=Except.ok.inj hd
   have hD:=dskSafe_ok (dok_of k.disk (k.dry hu)) hd'
   obtain⟨e1,e2,e3,e4⟩:=hD.err
   have hl:=k.log
   rw[if_pos hu] at hl
   refine⟨⟨e1,fun _=>e4,?_⟩,hu,rfl,by omega,e2⟩
   dsimp only
   rw[if_pos hu,e2]
   exact agtReplay_snoc hl (by omega) hD.many
theorem HOk.power{c:Conf}{h:Hed}(k:HOk c h){kind:Int}(hk:kind=12∨kind=13)(hu:¬h.up=decide (kind=13)){s:Ldr}(hs:ledReplay c (if kind=12 then [] else dskRecs h.d)= .ok s):HOk c ⟨s,if kind=12 then h.d else dskBack h.d,!h.up⟩:=by
 rcases hk with rfl|rfl
 ·have hup:h.up=true:=by simpa using hu
  simp only[if_pos] at hs⊢
  exact⟨k.disk,fun e=>(by rw[hup] at e;cases e),by simp only[hup];exact hs⟩
 ·have hup:h.up=false:=by simpa using hu
  have hD:=dok_back k.disk
  obtain⟨e1,e2,e3,e4⟩:=hD.err
  rw[if_neg (by omega)] at hs⊢
  exact⟨e1,fun _=>e4,by simp only[hup,Bool.not_false,if_true];rw[e2];exact hs⟩
theorem NOk.power{f:Rls}{n:Nod}(k:NOk f n){kind:Int}(hk:kind=12∨kind=13)(hu:¬n.up=decide (kind=13)){s:Agt}(hs:agtReplay f (if kind=12 then [] else dskRecs n.d)= .ok s):NOk f ⟨s,if kind=12 then n.d else dskBack n.d,!n.up⟩:=by
 rcases hk with rfl|rfl
 ·have hup:n.up=true:=by simpa using hu
  simp only[if_pos] at hs⊢
  exact⟨k.disk,fun e=>(by rw[hup] at e;cases e),by simp only[hup];exact hs⟩
 ·have hup:n.up=false:=by simpa using hu
  have hD:=dok_back k.disk
  obtain⟨e1,e2,e3,e4⟩:=hD.err
  rw[if_neg (by omega)] at hs⊢
  exact⟨e1,fun _=>e4,by simp only[hup,Bool.not_false,if_true];rw[e2];exact hs⟩
structure Eff(w y:Wld)(who:Int)(l:List Mail):Prop where
 c:y.c=w.c
 ok:WRight y
 head:0<=who->y.h=w.h
 len:y.n.length=w.n.length
 node:∀i:Nat,(i:Int)≠who->y.n[i]?=w.n[i]?
 mail:y.m=l∨ ∃m,y.m=l++[m]
theorem WRight.less{w:Wld}(h:WRight w){k:Int}{tw:Bool} :WRight { w with m:=left w.m k tw } :=
 ⟨h.cfg,h.len,left_ok h.mail,fun m hm=>h.who m (left_mem hm),h.head,h.node⟩
theorem wLead_ok{w y:Wld}{r:Recd}(hy:wLead w r= .ok y):ledErr w.c w.h.l r=0/\∃d,dskSafe w.h.d r= .ok d/\y= { w with h:=⟨ledNext w.h.l r,d,w.h.up⟩ } :=by
 unfold wLead at hy
 split at hy
 ·cases hy
 ·rename_i he
  split at hy
  ·cases hy
  ·rename_i d hd
   exact⟨by omega,d,hd,(Except.ok.inj hy).symm⟩
theorem WRight.lead{w y:Wld}(h:WRight w)(hu:w.h.up=true){r:Recd}(hy:wLead w r= .ok y):Eff w y (-1) w.m:=by
 obtain⟨he,d,hd,rfl⟩:=wLead_ok hy
 exact⟨rfl,⟨h.cfg,h.len,h.mail,h.who,h.head.lead hu he hd,h.node⟩,fun e=>by omega,rfl,fun i _=>rfl,.inl rfl⟩
theorem wDoes_ok{w y:Wld}{k:Nat}{r:Recd}(hy:wDoes w k r= .ok y):∃n n',w.n[k]?=some n/\nDoes n r= .ok n'/\y= { w with n:=w.n.set k n' } :=by
 unfold wDoes at hy
 split at hy
 ·cases hy
 ·rename_i n hn
  split at hy
  ·cases hy
  ·rename_i n' hn'
   exact⟨n,n',hn,hn',(Except.ok.inj hy).symm⟩
theorem WRight.set{w:Wld}(h:WRight w){k:Nat}{n':Nod}(hn:NOk w.c.first n'):Eff w { w with n:=w.n.set k n' } k w.m:=
 ⟨rfl,⟨h.cfg,by simp[h.len],h.mail,fun m hm=>by simpa using h.who m hm,h.head,fun n hn'=>by
  rcases List.mem_or_eq_of_mem_set hn' with hx|rfl
  ·exact h.node n hx
  ·exact hn⟩,fun _=>rfl,by simp,fun i hi=>by
   show(w.n.set k n')[i]?=_
   rw[List.getElem?_set,if_neg (by omega)],.inl rfl⟩
theorem WRight.does{w y:Wld}(h:WRight w){k:Nat}{r:Recd}{n:Nod}(hn:w.n[k]?=some n)(hu:n.up=true)(hy:wDoes w k r= .ok y):Eff w y k w.m/\∃n',y.n[k]?=some n'/\n'.up=true/\n'.a=agtNext n.a r/\nextErr n.a r=0:=by
 obtain⟨m,n',hm,hn',rfl⟩:=wDoes_ok hy
 obtain rfl:n=m:=by rw[hn] at hm;exact Option.some.inj hm
 obtain⟨d1,d2,d3,d4,d5⟩:=(h.node n (List.mem_of_getElem? hn)).does hu hn'
 refine⟨h.set d1,n',?_,d2,d3,d4⟩
 show(w.n.set k n')[k]?=_
 rw[List.getElem?_set,if_pos rfl,if_pos (List.getElem?_eq_some_iff.1 hn).1]
theorem Eff.post{w y:Wld}{who:Int}{m:Mail}{l:List Mail}(h:Eff w y who l)(hm:m.agent<w.n.length)(hl:y.m=l):Eff w (wPost y m) who l:=by
 subst hl
 unfold wPost
 split
 ·rename_i he
  refine⟨h.c,⟨h.ok.cfg,h.ok.len,(sentOk he).1,fun x hx=> ?_,h.ok.head,h.ok.node⟩,h.head,h.len,h.node,?_⟩
  ·have hx:x∈sent y.m m:=hx
   rcases sent_mem hx with hx|rfl
   ·exact h.ok.who x hx
   ·have:=h.len
    show x.agent<(y.n.length:Int)
    omega
  ·show sent y.m m=y.m∨_
   unfold sent
   split
   ·exact .inr ⟨m,rfl⟩
   ·exact .inl rfl
 ·exact h
theorem WRight.same{w:Wld}(h:WRight w)(who:Int):Eff w w who w.m:=⟨rfl,h,fun _=>rfl,rfl,fun _ _=>rfl,.inl rfl⟩
def hapWho(w:Wld)(x:Hap):Int:=
 if 1<=x.kind/\x.kind<=6 then-1 else
 if x.kind=9∨x.kind=10 then(if(took w.m x.num).rep=true then-1 else(took w.m x.num).agent) else
 if x.agent<0 then-1 else x.agent
def hapLeft(w:Wld)(x:Hap):List Mail:=if x.kind=9∨x.kind=11 then left w.m x.num false else w.m
theorem Eff.trans{w z y:Wld}{who:Int}{l:List Mail}(h:Eff z y who l)(e:z.c=w.c/\z.h=w.h/\z.n=w.n):Eff w y who l:=
 ⟨h.c.trans e.1,h.ok,fun k=>(h.head k).trans e.2.1,by rw[h.len,e.2.2],fun i hi=>by rw[h.node i hi,e.2.2],h.mail⟩
theorem WRight.hap{w y:Wld}(h:WRight w){x:Hap}(hy:wHap w x= .ok y):Eff w y (hapWho w x) (hapLeft w x):=by
 unfold wHap at hy
 split at hy
 ·rename_i hk
  have hwho:hapWho w x=if(took w.m x.num).rep=true then-1 else(took w.m x.num).agent:=by
   unfold hapWho;rw[if_neg (by omega),if_pos hk]
  have hleft:hapLeft w x=left w.m x.num (decide (x.kind=10)):=by
   unfold hapLeft
   rcases hk with k|k
   ·rw[if_pos (.inl k)];simp[k]
   ·rw[if_neg (by omega)];simp[k,left]
  rw[hwho,hleft]
  unfold wHear at hy
  split at hy
  ·cases hy
  ·rename_i ht
   obtain⟨t1,t2,t3,t4⟩:=took_mem (Decidable.not_not.1 ht)
   obtain⟨o1,o2,o3⟩:=(mailsCheck_iff.1 t4).2 _ t1
   have hw:=h.who _ t1
   generalize took w.m x.num=m at*
   unfold badWho at o1
   have hL:=h.less (k:=x.num) (tw:=decide (x.kind=10))
   split at hy
   ·cases hy
   ·rename_i n hn
    split at hy
    ·cases hy
    ·rename_i hup
     dsimp only at hy
     split at hy
     ·rename_i hr
      have hu:w.h.up=true:=by
       cases hu:w.h.up with
       |true=>rfl
       |false=>exact absurd (.inl ⟨hr,hu⟩) hup
      rw[if_pos hr]
      obtain rfl:=Except.ok.inj hy
      cases hl:wLead { w with m:=left w.m x.num (decide (x.kind=10)) } ⟨7,m.agent,m.try_,0,m.good,⟨0,[]⟩⟩ with
      |error e=>exact Eff.trans (hL.same _) ⟨rfl,rfl,rfl⟩
      |ok z=>exact Eff.trans (hL.lead hu hl) ⟨rfl,rfl,rfl⟩
     ·rename_i hr
      rw[if_neg hr]
      have hr:m.rep=false:=by simpa using hr
      have hu:n.up=true:=by
       cases hu:n.up with
       |true=>rfl
       |false=>exact absurd (.inr ⟨hr,hu⟩) hup
      have hk:((m.agent.toNat:Nat):Int)=m.agent:=by omega
      split at hy
      ·obtain rfl:=Except.ok.inj hy
       have hn':(({ w with m:=left w.m x.num (decide (x.kind=10)) } :Wld).n)[m.agent.toNat]?=some n:=hn
       unfold wReport
       rw[hn']
       exact Eff.trans ((hL.same _).post (by simp only[repMail];omega) rfl) ⟨rfl,rfl,rfl⟩
      ·obtain rfl:=Except.ok.inj hy
       cases hl:wDoes { w with m:=left w.m x.num (decide (x.kind=10)) } m.agent.toNat ⟨1,0,m.try_,0,false,m.rel⟩ with
       |error e=>exact Eff.trans (hL.same _) ⟨rfl,rfl,rfl⟩
       |ok z=>
        have:=(hL.does hn hu hl).1
        rw[hk] at this
        exact Eff.trans this ⟨rfl,rfl,rfl⟩
 ·rename_i hk
  split at hy
  ·rename_i k11
   split at hy
   ·cases hy
   ·obtain rfl:=Except.ok.inj hy
    have hleft:hapLeft w x=left w.m x.num false:=by unfold hapLeft;rw[if_pos (.inr k11)]
    rw[hleft]
    exact Eff.trans (h.less.same _) ⟨rfl,rfl,rfl⟩
  ·rename_i k11
   have hleft:hapLeft w x=w.m:=by unfold hapLeft;rw[if_neg (by omega)]
   rw[hleft]
   split at hy
   ·rename_i hk2
    have hwho:hapWho w x= -1:=by unfold hapWho;rw[if_pos (by omega)]
    rw[hwho]
    split at hy
    ·cases hy
    ·rename_i hu;exact h.lead (by simpa using hu) hy
   ·rename_i hk2
    split at hy
    ·cases hy
    ·rename_i hk3
     split at hy
     ·cases hy
     ·rename_i hwho0
      split at hy
      ·rename_i hk4
       have hwho:hapWho w x= -1:=by unfold hapWho;rw[if_pos (by omega)]
       rw[hwho]
       split at hy
       ·cases hy
       ·rename_i hu
        have hu:w.h.up=true:=by simpa using hu
        unfold wTell at hy
        split at hy
        ·cases hy
        ·rename_i ht
         split at hy
         ·split at hy
          ·cases hy
          ·split at hy
           ·cases hy
           ·obtain rfl:=Except.ok.inj hy
            exact(h.same _).post (by simp only;omega) rfl
         ·split at hy
          ·cases hy
          ·rename_i z hz
           obtain rfl:=Except.ok.inj hy
           exact(h.lead hu hz).post (by simp only;omega) (by obtain⟨he,d,hd,rfl⟩:=wLead_ok hz;rfl)
      ·rename_i hk4
       have hwho:hapWho w x=if x.agent<0 then-1 else x.agent:=by unfold hapWho;rw[if_neg (by omega),if_neg hk]
       split at hy
       ·rename_i hk5
        unfold wPower at hy
        split at hy
        ·rename_i hneg
         rw[hwho,if_pos hneg]
         split at hy
         ·cases hy
         ·rename_i hu
          split at hy
          ·cases hy
          ·split at hy
           ·cases hy
           ·rename_i s hs
            obtain rfl:=Except.ok.inj hy
            exact⟨rfl,⟨h.cfg,h.len,h.mail,h.who,h.head.power hk5 hu hs,h.node⟩,fun e=>by omega,rfl,fun i _=>rfl,.inl rfl⟩
        ·rename_i hneg
         rw[hwho,if_neg hneg]
         have hka:((x.agent.toNat:Nat):Int)=x.agent:=by omega
         split at hy
         ·cases hy
         ·rename_i n hn
          split at hy
          ·cases hy
          ·rename_i hu
           split at hy
           ·cases hy
           ·split at hy
            ·cases hy
            ·rename_i s hs
             obtain rfl:=Except.ok.inj hy
             have:=h.set (k:=x.agent.toNat) ((h.node n (List.mem_of_getElem? hn)).power hk5 hu hs)
             rw[hka] at this
             exact this
       ·rename_i hk5
        rw[hwho,if_neg (by omega)]
        have hka:((x.agent.toNat:Nat):Int)=x.agent:=by omega
        split at hy
        ·cases hy
        ·rename_i n hn
         split at hy
         ·cases hy
         ·rename_i hu
          have hu:n.up=true:=by simpa using hu
          split at hy
          ·unfold wStep at hy
           split at hy
           ·cases hy
           ·split at hy
            ·cases hy
            ·split at hy
             ·have:=(h.does hn hu hy).1
              rw[hka] at this
              exact this
             ·split at hy
              ·cases hy
              ·rename_i z hz
               obtain rfl:=Except.ok.inj hy
               obtain⟨e1,n',e2,e3,e4,e5⟩:=h.does hn hu hz
               rw[hka] at e1
               have hzm:z.m=w.m:=by obtain⟨m0,n0,hm0,hn0,rfl⟩:=wDoes_ok hz;rfl
               unfold wReport
               rw[e2]
               exact e1.post (by simp only[repMail];omega) hzm
          ·split at hy
           ·cases hy
           ·obtain rfl:=Except.ok.inj hy
            unfold wReport
            rw[hn]
            exact(h.same _).post (by simp only[repMail];omega) rfl
open Go Go.Proofs
theorem neqBool{xo yo:Operand}{a b:Bool} :RunsTo Tryz.prog (binRun .neq 4 xo yo (.bool a) (.bool b)) (.bool (a !=b)):=by
 intro w
 have hg:(eqGuard .neq 4 xo yo (.bool a) (.bool b)).run Tryz.prog w= .ok () w:=by simp[eqGuard]
 simp only[binRun,Sem.run_bind,hg,Result.andThen_ok]
 have:=run_equal_bool w 4 a b Tryz.underlying4
 simp[binOp,this]
 cases a<;>cases b<;>rfl
open Go Go.Proofs
open Go.Value renaming int → I, slice → S, bool → B, agg → A, tuple → T, pointer → P, string → Str
open Go.IntKind renaming i64 → Z, wrap → W
open Go.Addr renaming mk → D
open Go.Vg.Bx renaming mk → J
open Go.Vg renaming Next → X, Spec → Y, SpecO → YO
open Go.Vg.Heap renaming cell → C
open Int renaming toNat → N
theorem vc67(a ga:O)(l c gl gc:Nat)(at_ tr gid:Int)(go gd:Bool)(base:Nat)(H:Heap)(K:KT):
 (fV TryzMutsJ Tryz.f233 base H [.v (A #[S a l c,I Z at_,I Z tr,B go,I Z gid,S ga gl gc,B gd])] [] K)=(
 ∀b:Nat,(fun w1:LB=>Y Tryz.prog 140 [S a l c] H fun d e=>∃g,d=I Z g/\(X base H e->(¬g=0->K (I Z g) [] e)/\(¬¬g=0->∃h:Prop,((at_<1->w1=w1/\SubH e e/\h)/\(¬at_<1->(6<at_->w1=w1/\SubH e e/\h)/\(¬6<at_->(tr<0->w1=w1/\SubH e e/\h)/\(¬tr<0->w1=w1/\SubH e e/\(h↔200<tr)))))/\(h->K (I Z 3) [] e)/\(¬h->(go=true->∃i:Prop,((tr=0->w1=w1/\SubH e e/\i)/\(¬tr=0->w1=w1/\SubH e e/\(i↔gd=true)))/\(i->K (I Z 4) [] e)/\(¬i->Y Tryz.prog 167 [A #[I Z gid,S ga gl gc]] e fun j k=>∃m,j=I Z m/\(X base e k->K (I Z m) [] k)))/\(go=false->∃i:Prop,((¬gid=0->w1=w1/\SubH e e/\i)/\(¬¬gid=0->w1=w1/\SubH e e/\(i↔0<(gl:Int))))/\(i->K (I Z 4) [] e)/\(¬i->K (I Z 0) [] e)))))) [J b false 46 [S a l c,I Z at_,I Z tr,B go,I Z gid,S ga gl gc,B gd]]):=by kernel_rfl
theorem vc125(a ga:O)(l c gl gc:Nat)(at_ tr gid:Int)(go gd:Bool)(base:Nat)(H:Heap)(K:KT):
 (fV TryzMutsJ Tryz.f173 base H [.v (A #[S a l c,I Z at_,I Z tr,B go,I Z gid,S ga gl gc,B gd])] [] K)=(
 ∀b d:Nat,Y Tryz.prog 163 [S a l c] H fun e g=>∃h i j,e=S h i j/\(X base H g->Y Tryz.prog 163 [S ga gl gc] g fun k m=>∃n o p,k=S n o p/\(X base g m->K (A #[S h i j,I Z at_,I Z tr,B go,I Z gid,S n o p,B gd]) [] m))):=by kernel_rfl
theorem vc70(a ga:O)(l c gl gc:Nat)(at_ tr gid:Int)(go gd:Bool)(base:Nat)(H:Heap)(K:KT):
 (fV TryzMutsJ Tryz.f203 base H [.v (A #[S a l c,I Z at_,I Z tr,B go,I Z gid,S ga gl gc,B gd])] [] K)=(
 ∀b:Nat,Y Tryz.prog 233 [A #[S a l c,I Z at_,I Z tr,B go,I Z gid,S ga gl gc,B gd]] H fun d e=>∃g,d=I Z g/\(X base H e->(¬g=0->K (T #[S none 0 0,I Z g]) [] e)/\(¬¬g=0->(go=false->K (T #[S none 0 0,I Z 0]) [] e)/\(¬go=false->Y Tryz.prog 57 [S a l c,S ga gl gc] e fun h i=>∃j k m n,h=T #[S j k m,I Z n]/\(X base e i->K (T #[S j k m,I Z n]) [] i))))):=by kernel_rfl
theorem vc71(id:Int)(a:O)(l c:Nat)(base:Nat)(H:Heap)(K:KT):
 (fV TryzMutsJ Tryz.f89 base H [.v (A #[I Z id,S a l c])] [] K)=(
 ∀b d:Nat,Y Tryz.prog 167 [A #[I Z id,S a l c]] H fun e g=>∃h,e=I Z h/\(X base H g->(¬h=0->K (T #[A #[S none 0 0,I Z 0,I Z 0,B false,I Z 0,S none 0 0,B false],I Z h]) [] g)/\(¬¬h=0->Y Tryz.prog 163 [S a l c] g fun i j=>∃k m n,i=S k m n/\(X base g j->K (T #[A #[S k m n,I Z id,I Z 0,B false,I Z 0,S none 0 0,B true],I Z 0]) [] j)))):=by kernel_rfl
theorem vc75(a ga a' ga':O)(l c gl gc l' c' gl' gc':Nat)(at_ tr gid at_' tr' gid':Int)(go gd go' gd':Bool)(base:Nat)(H:Heap)(K:KT):
 (fV TryzMutsJ Tryz.f38 base H [.v (A #[S a l c,I Z at_,I Z tr,B go,I Z gid,S ga gl gc,B gd]),.v (A #[S a' l' c',I Z at_',I Z tr',B go',I Z gid',S ga' gl' gc',B gd'])] [] K)=(
 ∀b d:Nat,(fun w1:LB=>∃e:Prop,(Y Tryz.prog 47 [S a l c,S a' l' c'] H fun g h=>∃i,g=B i/\(X base H h->(i=true->(at_=at_'->(tr=tr'->∃j,RunsTo Tryz.prog (binRun BinOp.eql 4 (Operand.tmp 26) (Operand.tmp 28) (B go) (B go')) (B j)/\(j=true->∃k,RunsTo Tryz.prog (binRun BinOp.eql 4 (Operand.tmp 33) (Operand.tmp 35) (B gd) (B gd')) (B k)/\(k=true->Y Tryz.prog 56 [A #[I Z gid,S ga gl gc],A #[I Z gid',S ga' gl' gc']] h fun m n=>∃o,m=B o/\(X base h n->w1=w1/\SubH H n/\(e↔o=true)))/\(¬k=true->w1=w1/\SubH H h/\¬e))/\(¬j=true->w1=w1/\SubH H h/\¬e))/\(¬tr=tr'->w1=w1/\SubH H h/\¬e))/\(¬at_=at_'->w1=w1/\SubH H h/\¬e))/\(i=false->w1=w1/\SubH H h/\¬e)))/\K (B (@decide e (Classical.propDecidable e))) [] H) [J b false 46 [S a l c,I Z at_,I Z tr,B go,I Z gid,S ga gl gc,B gd],J d false 46 [S a' l' c',I Z at_',I Z tr',B go',I Z gid',S ga' gl' gc',B gd']]):=by kernel_rfl
theorem vc69(a ga ra:O)(l c gl gc rl rc:Nat)(at_ tr gid kd ag tr' n id:Int)(go gd gd':Bool)(base:Nat)(H:Heap)(K:KT):
 (fV TryzMutsJ Tryz.f145 base H [.v (A #[S a l c,I Z at_,I Z tr,B go,I Z gid,S ga gl gc,B gd]),.v (A #[I Z kd,I Z ag,I Z tr',I Z n,B gd',I Z id,S ra rl rc])] [] K)=(
 (fun w5:LV=>(fun w4:AV=>(fun w3:AV=>∀b d e:Nat,Y Tryz.prog 203 w5 H fun g h=>∃i j k m,g=T #[S i j k,I Z m]/\(X base H h->(¬m=0->K (T #[A #[S none 0 0,I Z 0,I Z 0,B false,I Z 0,S none 0 0,B false],I Z m]) [] h)/\(¬¬m=0->Y Tryz.prog 198 [A #[I Z kd,I Z ag,I Z tr',I Z n,B gd',I Z id,S ra rl rc]] h fun o p=>∃q,o=I Z q/\(X base h p->(¬q=0->K (T #[A #[S none 0 0,I Z 0,I Z 0,B false,I Z 0,S none 0 0,B false],I Z q]) [] p)/\(¬¬q=0->Y Tryz.prog 173 w5 p fun r s=>∃t u v w x y z,(fun w2:AV=>∃a1 b1 c1 d1,(fun w1:LB=>r=A #[S t u v,I Z w,I Z x,B y,I Z z,S a1 b1 c1,B d1]/\(X base p s->(kd=1->(tr'<=x->K (T w3) [] s)/\(¬tr'<=x->Y Tryz.prog 163 [S ra rl rc] s fun e1 f1=>∃g1 h1 i1,e1=S g1 h1 i1/\(X base s f1->K (T #[A #[S t u v,I Z w,I Z tr',B true,I Z id,S g1 h1 i1,B false],I Z 0]) [] f1)))/\(¬kd=1->(kd=2->(kd=2->∃e1:Prop,((y=false->w1=w1/\SubH s s/\e1)/\(¬y=false->(¬tr'=x->w1=w1/\SubH s s/\e1)/\(¬¬tr'=x->∃f1,RunsTo Tryz.prog (binRun BinOp.neq 4 (Operand.tmp 68) (Operand.tmp 71) (B (decide (0<(j:Int)))) (B (decide (kd=2)))) (B f1)/\w1=w1/\SubH s s/\(e1↔f1=true))))/\(e1->K (T w3) [] s)/\(¬e1->(kd=2->∃f1 g1,i=some (D f1 g1 none)/\Int.ofNat 0<=0/\0<(j:Int)/\∃h1 i1 j1:Int,(C s f1 (g1+0*3)=some (I Z h1)/\C s f1 (g1+0*3+1)=some (I Z i1)/\C s f1 (g1+0*3+2)=some (I Z j1)/\True)/\Y Tryz.prog 204 [S t u v,A #[I Z h1,I Z i1,I Z j1]] s fun k1 l1=>∃m1 n1 o1 p1,k1=T #[S m1 n1 o1,I Z p1]/\(X base s l1->K (T #[A #[S m1 n1 o1,I Z w,I Z x,B y,I Z z,S a1 b1 c1,B d1],I Z p1]) [] l1))/\(¬kd=2->K (T w2) [] s/\K (T w2) [] s/\K (T w2) [] s/\K (T w2) [] s)))/\(¬kd=2->K (T w4) [] s))/\(¬kd=2->(kd=3->∃e1:Prop,((y=false->w1=w1/\SubH s s/\e1)/\(¬y=false->(¬tr'=x->w1=w1/\SubH s s/\e1)/\(¬¬tr'=x->∃f1,RunsTo Tryz.prog (binRun BinOp.neq 4 (Operand.tmp 68) (Operand.tmp 71) (B (decide (0<(j:Int)))) (B (decide (kd=2)))) (B f1)/\w1=w1/\SubH s s/\(e1↔f1=true))))/\(e1->K (T w3) [] s)/\(¬e1->(kd=2->∃f1 g1,i=some (D f1 g1 none)/\Int.ofNat 0<=0/\0<(j:Int)/\∃h1 i1 j1:Int,(C s f1
 (g1+0*3)=some (I Z h1)/\C s f1 (g1+0*3+1)=some (I Z i1)/\C s f1 (g1+0*3+2)=some (I Z j1)/\True)/\Y Tryz.prog 204 [S t u v,A #[I Z h1,I Z i1,I Z j1]] s fun k1 l1=>∃m1 n1 o1 p1,k1=T #[S m1 n1 o1,I Z p1]/\(X base s l1->K (T #[A #[S m1 n1 o1,I Z w,I Z x,B y,I Z z,S a1 b1 c1,B d1],I Z p1]) [] l1))/\(¬kd=2->K (T w2) [] s/\K (T w2) [] s/\K (T w2) [] s/\K (T w2) [] s)))/\(¬kd=3->K (T w4) [] s))))) [J b false 46 [S t u v,I Z w,I Z x,B y,I Z z,S a1 b1 c1,B d1],J d false 126 [I Z kd,I Z ag,I Z tr',I Z n,B gd',I Z id,S ra rl rc],J e false 46 [S none 0 0,I Z 0,I Z 0,B false,I Z 0,S none 0 0,B false]]) #[A #[S t u v,I Z z,I Z x,B false,I Z 0,S none 0 0,B gd'],I Z 0]))))) #[A #[S none 0 0,I Z 0,I Z 0,B false,I Z 0,S none 0 0,B false],I Z 7]) #[A #[S none 0 0,I Z 0,I Z 0,B false,I Z 0,S none 0 0,B false],I Z 4]) [A #[S a l c,I Z at_,I Z tr,B go,I Z gid,S ga gl gc,B gd]]):=by kernel_rfl
theorem vc63(id:Int)(a a':O)(l c l' c':Nat)(base:Nat)(H:Heap)(K:KT):
 (fV TryzMutsJ Tryz.f67 base H [.v (A #[I Z id,S a l c]),.v (S a' l' c')] [] K)=(
 (fun w7:AV=>∀b d:Nat,Y Tryz.prog 89 [A #[I Z id,S a l c]] H fun e g=>∃h i j k m n o p q r s t,e=T #[A #[S h i j,I Z k,I Z m,B n,I Z o,S p q r,B s],I Z t]/\(X base H g->∀u:Nat,(¬t=0->K (T #[A w7,I Z t]) [] g)/\(¬¬t=0->(200<(l':Int)->K (T #[A w7,I Z 2]) [] g)/\(¬200<(l':Int)->∃(v:LI)(w:LM),v [I Z 0,I Z t,I Z 0,A w7,A #[S h i j,I Z k,I Z m,B n,I Z o,S p q r,B s]] g/\∀(x y z:Int)(a1:O)(b1 c1:Nat)(d1 e1:Int)(f1:Bool)(g1:Int)(h1:O)(i1 j1:Nat)(k1:Bool)(l1:O)(m1 n1:Nat)(o1 p1:Int)(q1:Bool)(r1:Int)(s1:O)(t1 u1:Nat)(v1:Bool)(w1:Heap),(fun w6:AV=>(fun w5:AV=>X base H w1->v [I Z x,I Z y,I Z z,A w6,A w5] w1->(z<(l':Int)->∃x1 y1,a'=some (D x1 y1 none)/\0<=z/\z<(l':Int)/\∃(z1 a2 b2 c2:Int)(d2:Bool)(e2:Int)(f2:O)(g2 h2:Nat),(C w1 x1 (y1+N z*7)=some (I Z z1)/\C w1 x1 (y1+N z*7+1)=some (I Z a2)/\C w1 x1 (y1+N z*7+2)=some (I Z b2)/\C w1 x1 (y1+N z*7+3)=some (I Z c2)/\C w1 x1 (y1+N z*7+4)=some (B d2)/\C w1 x1 (y1+N z*7+5)=some (I Z e2)/\C w1 x1 (y1+N z*7+6)=some (S f2 g2 h2)/\True)/\∀i2:Nat,Y Tryz.prog 145 [A w5,A #[I Z z1,I Z a2,I Z b2,I Z c2,B d2,I Z e2,S f2 g2 h2]] w1 fun j2 k2=>∃(l2:O)(m2 n2:Nat)(o2 p2:Int)(q2:Bool)(r2:Int)(s2:O)(t2 u2:Nat)(v2:Bool),(fun w4:AV=>∃w2,j2=T #[A w4,I Z w2]/\(X base w1 k2->(¬w2=0->K (T #[A w7,I Z w2]) [] k2)/\(¬¬w2=0->∀x2:Int,(fun w3:LV=>x2=W Z (z+1)->[[I Z id,S a l c]]=[[I Z id,S a l c]]/\v w3 k2/\w w3<w [I Z x,I Z y,I Z z,A w6,A w5]) [I Z x,I Z w2,I Z x2,A w6,A w4]))) #[S l2 m2 n2,I Z o2,I Z p2,B q2,I Z r2,S s2 t2 u2,B v2])/\(¬z<(l':Int)->K (T #[A w5,I Z 0]) [] w1)) #[S l1 m1 n1,I Z o1,I Z p1,B q1,I Z r1,S s1 t1 u1,B v1]) #[S a1 b1 c1,I Z d1,I Z e1,B f1,I Z g1,S h1 i1 j1,B k1])))) #[S none 0 0,I Z 0,I Z 0,B false,I Z 0,S none 0 0,B false]):=by kernel_rfl
open Go Go.Proofs
section
variable {H : Heap} {a ga : O} {l c gl gc : Nat} {x : Agt}
theorem cAgtCheck(hp:Pins H a l x.lock)(hg:Pins H ga gl x.goal.lock):Spec Tryz.prog 233 [agtArg x a l c ga gl gc] H fun v _=>v=i64 (agtErr x):=by
 refine TryzvcJ Tryz.func233 (by kernel_rfl) (by kernel_rfl) _ rfl (fun base K=>vc67 a ga l c gl gc x.at_ x.try_ x.goal.id x.going x.good base H K) fun base hb=> ?_
 have hgl:=hg.len
 have hnr:noRel x.goal↔x.goal.id=0/\gl=0:=by unfold noRel;rw[len_zero hgl]
 intro b
 refine(cLockCheck hp).int1 fun H1 e1 _=>⟨fun h=>by rw[agtErr,if_pos h],fun h=> ?_⟩
 refine⟨x.at_<1∨6<x.at_∨x.try_<0∨200<x.try_,?_,fun h2=>by rw[agtErr,if_neg h,if_pos h2],fun h2=>⟨fun hgo=> ?_,fun hgo=> ?_⟩⟩
 ·repeat' (first|exact⟨rfl,fun _ _ h=>h,by omega⟩|intro _|refine⟨?_,?_⟩)
 ·refine⟨x.try_=0∨x.good=true,⟨fun _=>⟨rfl,fun _ _ h=>h,by grind⟩,fun _=>⟨rfl,fun _ _ h=>h,by grind⟩⟩,fun h3=>by rw[agtErr,if_neg h,if_neg h2,if_pos hgo,if_pos h3],fun h3=>(cNoteRelease (hg.ext' e1) x.goal.id).int1 fun H2 _ _=> ?_⟩
  rw[agtErr,if_neg h,if_neg h2,if_pos hgo,if_neg h3]
 ·refine⟨¬(x.goal.id=0/\gl=0),⟨fun _=>⟨rfl,fun _ _ h=>h,by grind⟩,fun _=>⟨rfl,fun _ _ h=>h,by grind⟩⟩,fun h3=> ?_,fun h3=> ?_⟩
  ·rw[agtErr,if_neg h,if_neg h2,if_neg (by simp[hgo]),if_neg (by rw[hnr];exact h3)]
  ·rw[agtErr,if_neg h,if_neg h2,if_neg (by simp[hgo]),if_pos (by rw[hnr];exact Decidable.not_not.1 h3)]
theorem cLeft(hp:Pins H a l x.lock)(hg:Pins H ga gl x.goal.lock):Spec Tryz.prog 203 [agtArg x a l c ga gl gc] H fun v H'=>∃a n c,v= .tuple #[.slice a n c,i64 (agtErr x)]/\Steps H' a n (if agtErr x=0 then agtLeft x else []):=by
 refine TryzvcJ Tryz.func203 (by kernel_rfl) (by kernel_rfl) _ rfl (fun base K=>vc70 a ga l c gl gc x.at_ x.try_ x.goal.id x.going x.good base H K) fun base hb=> ?_
 intro b
 refine(cAgtCheck hp hg).int1 fun H1 e1 _=>⟨fun h=> ?_,fun h=> ?_⟩
 ·rw[if_neg h];exact⟨none,0,0,rfl,Sl.nil⟩
 have h:=Decidable.not_not.1 h
 rw[h,if_pos rfl]
 refine⟨fun hgo=>⟨none,0,0,rfl,?_⟩,fun hgo=> ?_⟩
 ·rw[agtLeft,if_neg (by simp[hgo])];exact Sl.nil
 ·have hz:diffErr x.lock x.goal.lock=0:=diffErr_zero.2 ⟨(agtErr_zero h).1,agt_goal h⟩
  refine(cDiff (hp.ext' e1) (hg.ext' e1)).sl2 fun a2 n2 c2 H2 e2 _ hD=> ?_
  rw[if_pos hz] at hD
  rw[hz]
  refine⟨_,_,_,rfl,?_⟩
  rw[agtLeft,if_pos (by simpa using hgo)];exact hD
theorem pins_small(h:agtErr x=0):x.lock.length<=12/\x.goal.lock.length<=12:=⟨(agtErr_zero h).1.2,(agt_goal h).2⟩
theorem Fresh.pins{H H':Heap}{a:O}{n c:Nat}{xs:List Pin}(h:Fresh H H' 91 2 a n c (xs.flatMap pinCells)):Pins H' a n xs:=Sl.ext REnc.mono (h.sl_new pinCells_len (by omega)) newOf_ext
theorem Spec.agt1{P:Program}{f:FuncId}{args:List Value}{H:Heap}{x:Agt}(h:Spec P f args H fun v H'=>∃a n c ga gn gc,v=agtArg x a n c ga gn gc/\Pins H' a n x.lock/\Pins H' ga gn x.goal.lock){base:Nat}
  {G:O->Nat->Nat->Int->Int->Bool->Int->O->Nat->Nat->Bool->Heap->Prop} (hG:∀a n c ga gn gc H',Ext H H'->Next base H H'->Pins H' a n x.lock->Pins H' ga gn x.goal.lock->G a n c x.at_ x.try_ x.going x.goal.id ga gn gc x.good H'):
  Spec P f args H fun v H'=>∃(a:O)(n c:Nat)(n2 n3:Int)(b:Bool)(n4:Int)(a2:O)(n5 c1:Nat)(b3:Bool),v= .agg #[.slice a n c,.int .i64 n2,.int .i64 n3,.bool b,.int .i64 n4,.slice a2 n5 c1,.bool b3]/\(Next base H H'->G a n c n2 n3 b n4 a2 n5 c1 b3 H'):=
 h.mono fun v H' ex hv=>by
  obtain⟨a,n,c,ga,gn,gc,h1,h2,h3⟩:=hv
  exact⟨a,n,c,_,_,_,_,ga,gn,gc,_,h1,fun hN=>hG a n c ga gn gc H' ex hN h2 h3⟩
theorem cAgtCopy(hp:Pins H a l x.lock)(hg:Pins H ga gl x.goal.lock)(h:agtErr x=0):Spec Tryz.prog 173 [agtArg x a l c ga gl gc] H fun v H'=>∃a n c ga gn gc,v=agtArg x a n c ga gn gc/\Pins H' a n x.lock/\Pins H' ga gn x.goal.lock:=by
 refine TryzvcJ Tryz.func173 (by kernel_rfl) (by kernel_rfl) _ rfl (fun base K=>vc125 a ga l c gl gc x.at_ x.try_ x.goal.id x.going x.good base H K) fun base hb=> ?_
 have hs:=pins_small h
 have h1:=hp.len
 have h2:=hg.len
 intro b b1
 refine(cCloneJ hp (by omega)).mono fun v H1 e1 hv=> ?_
 obtain⟨a2,n2,c2,rfl,hF⟩:=hv
 refine⟨a2,n2,c2,rfl,fun _=>(cCloneJ (hg.ext' e1) (by omega)).mono fun v H2 e2 hv=> ?_⟩
 obtain⟨a3,n3,c3,rfl,hF3⟩:=hv
 exact⟨a3,n3,c3,rfl,fun _=>⟨_,_,_,_,_,_,rfl,hF.pins.ext' e2,hF3.pins⟩⟩
end
theorem cNew{H:Heap}{a:O}{l c:Nat}{r:Rls}(hp:Pins H a l r.lock):Spec Tryz.prog 89 [.agg #[.int .i64 r.id,.slice a l c]] H fun v H'=>∃a n c ga gn gc,v= .tuple #[agtArg (if relErr r=0 then newAgt r else noAgt) a n c ga gn gc,i64 (relErr r)]/\Pins H' a n (if relErr r=0 then newAgt r else noAgt).lock/\Pins H' ga gn (if relErr r=0 then newAgt r else noAgt).goal.lock:=by
 refine TryzvcJ Tryz.func89 (by kernel_rfl) (by kernel_rfl) _ rfl (fun base K=>vc71 r.id a l c base H K) fun base hb=> ?_
 intro b b1
 refine(cNoteRelease hp r.id).int1 fun H1 e1 _=>⟨fun h=> ?_,fun h=> ?_⟩
 ·rw[if_neg h];exact⟨none,0,0,none,0,0,rfl,Sl.nil,Sl.nil⟩
 have h:=Decidable.not_not.1 h
 have h:relErr r=0:=h
 rw[if_pos h,h]
 have h12:=(relErr_zero h).2.2
 have hl:=hp.len
 refine(cCloneJ (hp.ext' e1) (by omega)).mono fun v H2 e2 hv=> ?_
 obtain⟨a2,n2,c2,rfl,hF⟩:=hv
 exact⟨a2,n2,c2,rfl,fun _=>⟨_,_,_,none,0,0,rfl,hF.pins,Sl.nil⟩⟩
section
variable {H : Heap} {a ga a' ga' : O} {l c gl gc l' c' gl' gc' : Nat} {x y : Agt}
theorem cAgtSame(hp:Pins H a l x.lock)(hg:Pins H ga gl x.goal.lock)(hp':Pins H a' l' y.lock)(hg':Pins H ga' gl' y.goal.lock):Spec Tryz.prog 38 [agtArg x a l c ga gl gc,agtArg y a' l' c' ga' gl' gc'] H fun v _=>v= .bool (decide (x=y)):=by
 refine TryzvcJ Tryz.func38 (by kernel_rfl) (by kernel_rfl) _ rfl (fun base K=>vc75 a ga a' ga' l c gl gc l' c' gl' gc' x.at_ x.try_ x.goal.id y.at_ y.try_ y.goal.id x.going x.good y.going y.good base H K) fun base hb=> ?_
 have hgo:x.goal=y.goal↔(⟨x.goal.id,x.goal.lock⟩:Rls)=⟨y.goal.id,y.goal.lock⟩:=Iff.rfl
 intro b b1
 refine⟨x=y,(cEqPins hp hp').bool1 fun H1 e1 _=>⟨fun q1=>⟨fun q2=>⟨fun q3=>⟨_,eqBool,fun q4=>⟨_,eqBool,fun q5=>(cAlike (hg.ext' e1) (hg'.ext' e1) _ _).bool1 fun H2 e2 _=>⟨rfl,e1.trans e2,?_⟩,fun q5=>⟨rfl,e1,fun h=>q5 (by simp[h])⟩⟩,fun q4=>⟨rfl,e1,fun h=>q4 (by simp[h])⟩⟩,fun q3=>⟨rfl,e1,fun h=>q3 (by rw[h])⟩⟩,fun q2=>⟨rfl,e1,fun h=>q2 (by rw[h])⟩⟩,fun q1=>⟨rfl,e1,fun h=>by simp[h] at q1⟩⟩,?_⟩
 ·rw[agt_eq,decide_eq_true_eq,←hgo]
  simp only[beq_iff_eq] at q4 q5
  have q1:x.lock=y.lock:=by simpa using q1
  simp[q1,q2,q3,q4,q5]
 ·congr 1
  exact decide_eq_decide.2 Iff.rfl
end
open Go Go.Proofs
section
variable {H : Heap} {a ga ra : O} {l c gl gc rl rc : Nat} {x : Agt} {r : Recd}
theorem left_cases(x:Agt):agtLeft x=[]∨ ∃o q,agtLeft x=o::q:=by
 cases agtLeft x with
 |nil=>exact .inl rfl
 |cons o q=>exact .inr ⟨o,q,rfl⟩
theorem left_fits(h:agtErr x=0){o:Step}{q:List Step}(hl:agtLeft x=o::q):applyErr x.lock o=0:=by
 unfold agtLeft at hl
 split at hl
 ·have h1:=(agtErr_zero h).1
  have h2:=agt_goal h
  exact(diffs_fits h1.1 h2.1 h1.2 h2.2 hl).1
 ·cases hl
theorem cNext(hp:Pins H a l x.lock)(hg:Pins H ga gl x.goal.lock)(hr:Pins H ra rl r.rel.lock):
  Spec Tryz.prog 145 [agtArg x a l c ga gl gc,recArg r ra rl rc] H fun v H'=>∃a n c ga gn gc,v= .tuple #[agtArg (nextV x r) a n c ga gn gc,i64 (nextErr x r)]/\Pins H' a n (nextV x r).lock/\Pins H' ga gn (nextV x r).goal.lock:=by
 refine TryzvcJ Tryz.func145 (by kernel_rfl) (by kernel_rfl) _ rfl (fun base K=>vc69 a ga ra l c gl gc rl rc x.at_ x.try_ x.goal.id r.kind r.agent r.try_ r.num r.rel.id x.going x.good r.good base H K) fun base hb=> ?_
 have bad:∀ {e:Int} {H':Heap},nextErr x r=e->e≠0->∃a n c ga gn gc,Value.tuple #[.agg #[.slice none 0 0,.int .i64 0,.int .i64 0,.bool false,.int .i64 0,.slice none 0 0,.bool false],.int .i64 e]= .tuple #[agtArg (nextV x r) a n c ga gn gc,i64 (nextErr x r)]/\Pins H' a n (nextV x r).lock/\Pins H' ga gn (nextV x r).goal.lock:=fun he h0=>by
  have:nextV x r=noAgt:=by rw[nextV,if_neg (by omega)]
  rw[this,he];exact⟨none,0,0,none,0,0,rfl,Sl.nil,Sl.nil⟩
 intro b b1 b2
 refine(cLeft hp hg).sl2 fun a1 n1 c1 H1 e1 _ hD=>⟨fun h=>bad (by rw[nextErr,if_pos h]) h,fun h=>(cRecCheck (hr.ext' e1)).int1 fun H2 e2 _=>⟨fun h2=>bad (by rw[nextErr,if_neg h,if_pos h2]) h2,fun h2=> ?_⟩⟩
 have h0:agtErr x=0:=Decidable.not_not.1 h
 rw[if_pos h0] at hD
 have hDl:=hD.len
 have hnil:agtLeft x=[]↔n1=0:=by rw[←hDl];exact List.length_eq_zero_iff.symm
 have good:∀ {X:Agt} {H':Heap} {a n c ga gn gc},nextErr x r=0->agtNext x r=X->Pins H' a n X.lock->Pins H' ga gn X.goal.lock->∃a' n' c' ga' gn' gc',Value.tuple #[agtArg X a n c ga gn gc,.int .i64 0]= .tuple #[agtArg (nextV x r) a' n' c' ga' gn' gc',i64 (nextErr x r)]/\Pins H' a' n' (nextV x r).lock/\Pins H' ga' gn' (nextV x r).goal.lock:=fun he hX p1 p2=>by
  have:nextV x r=agtNext x r:=by rw[nextV,if_pos he]
  rw[this,he,hX];exact⟨_,_,_,_,_,_,rfl,p1,p2⟩
 refine(cAgtCopy ((hp.ext' e1).ext' e2) ((hg.ext' e1).ext' e2) h0).agt1 fun a3 n3 c3 ga3 gn3 gc3 H3 e3 _ p3 g3=>⟨fun k1=>⟨fun ht=> ?_,fun ht=> ?_⟩,fun k1=> ?_⟩
 ·exact bad (by rw[nextErr,if_neg h,if_neg h2,if_pos k1,if_pos ht]) (by omega)
 ·have hr12:r.rel.lock.length<=12:=by
   have:recErr r=0:=Decidable.not_not.1 h2
   unfold recErr at this
   split at this
   ·omega
   ·split at this
    ·omega
    ·split at this
     ·omega
     ·rw[if_pos (.inl k1)] at this
      exact(relErr_zero this).2.2
  have hrl:=hr.len
  refine(cCloneJ (((hr.ext' e1).ext' e2).ext' e3) (by omega)).mono fun v H4 e4 hv=> ?_
  obtain⟨a5,n5,c5,rfl,hF⟩:=hv
  exact⟨a5,n5,c5,rfl,fun _=>good (X:=⟨x.lock,x.at_,r.try_,true,r.rel,false⟩) (by rw[nextErr,if_neg h,if_neg h2,if_pos k1,if_neg ht]) (by rw[agtNext,if_pos k1]) (p3.ext' e4) hF.pins⟩
 have late:(x.going=false∨r.try_≠x.try_∨(r.kind=2/\agtLeft x=[])∨(r.kind=3/\agtLeft x≠[]))->(r.kind=2∨r.kind=3)->nextErr x r=7:=fun hl hk=>by
  rw[nextErr,if_neg h,if_neg h2,if_neg k1,if_neg (by omega),if_pos hl]
 have fine:¬(x.going=false∨r.try_≠x.try_∨(r.kind=2/\agtLeft x=[])∨(r.kind=3/\agtLeft x≠[]))->(r.kind=2∨r.kind=3)->nextErr x r=0:=fun hl hk=>by
  rw[nextErr,if_neg h,if_neg h2,if_neg k1,if_neg (by omega),if_neg hl]
 have step:r.kind=2->nextErr x r=0->agtLeft x≠[]->∃(b:Nat)(o:Nat),a1=some ⟨b,o,none⟩/\Int.ofNat 0<=0/\0<(n1:Int)/\∃(n n9 n10:Int),(H3.cell b (o+0*3)=some (.int .i64 n)/\H3.cell b (o+0*3+1)=some (.int .i64 n9)/\H3.cell b (o+0*3+2)=some (.int .i64 n10)/\True)/\
   Spec Tryz.prog 204 [.slice a3 n3 c3,.agg #[.int .i64 n,.int .i64 n9,.int .i64 n10]] H3 fun v H'=>∃(a:O)(n c:Nat)(n11:Int),v= .tuple #[.slice a n c,.int .i64 n11]/\(Vg.Next base H3 H'->∃a' n' c' ga' gn' gc',Value.tuple #[.agg #[.slice a n c,.int .i64 x.at_,.int .i64 x.try_,.bool x.going,.int .i64 x.goal.id,.slice ga3 gn3 gc3,.bool x.good],.int .i64 n11]= .tuple #[agtArg (nextV x r) a' n' c' ga' gn' gc',i64 (nextErr x r)]/\Pins H' a' n' (nextV x r).lock/\Pins H' ga' gn' (nextV x r).goal.lock):=fun hk he hne=>by
  obtain⟨o,q,hl⟩:=(left_cases x).resolve_left hne
  rw[hl] at hD
  have hpos:0<n1:=by
   rcases Nat.eq_zero_or_pos n1 with hz|hz
   ·exact absurd (hnil.2 hz) hne
   ·exact hz
  refine hD.step (k:=0) (Ext.trans e2 e3) (by omega) (by omega) fun o' ho'=> ?_
  obtain rfl:o=o':=by simpa using ho'
  have f1:=left_fits h0 hl
  refine(cApply p3 o.kind o.name o.ver).sl2 fun a5 n5 c5 H5 e5 _ hA=> ?_
  have f1':applyErr x.lock ⟨o.kind,o.name,o.ver⟩=0:=f1
  rw[if_pos f1'] at hA
  rw[f1']
  exact good (X:=⟨applied x.lock o,x.at_,x.try_,x.going,x.goal,x.good⟩) he (by rw[agtNext,if_neg k1,if_pos hk,hl]) hA (g3.ext' e5)
 have done:r.kind=3->nextErr x r=0->∃a' n' c' ga' gn' gc',Value.tuple #[.agg #[.slice a3 n3 c3,.int .i64 x.goal.id,.int .i64 x.try_,.bool false,.int .i64 0,.slice none 0 0,.bool r.good],.int .i64 0]= .tuple #[agtArg (nextV x r) a' n' c' ga' gn' gc',i64 (nextErr x r)]/\Pins H3 a' n' (nextV x r).lock/\Pins H3 ga' gn' (nextV x r).goal.lock:=fun hk he=>
  good (X:=⟨x.lock,x.goal.id,x.try_,false,⟨0,[]⟩,r.good⟩) he (by rw[agtNext,if_neg k1,if_neg (by omega)]) p3 Sl.nil
 have leaf:∀ {b5:Bool},x.going≠false->r.try_=x.try_->(r.kind=2∨r.kind=3)->b5=(decide (0<(n1:Int)) !=decide (r.kind=2))->((x.going=false∨r.try_≠x.try_∨(r.kind=2/\agtLeft x=[])∨(r.kind=3/\agtLeft x≠[]))↔b5=true):=fun q1 q2 q3 q4=>by
  subst q4
  simp only[ne_eq,hnil]
  have q5:∀p q:Bool,((p !=q)=true)↔ ¬(p=true↔q=true):=by decide
  rw[q5]
  simp only[decide_eq_true_eq]
  constructor
  ·rintro(q|q|q|q)
   ·exact absurd q q1
   ·exact absurd q2 q
   ·omega
   ·omega
  ·intro q
   by_cases hk:r.kind=2
   ·exact .inr (.inr (.inl ⟨hk,by omega⟩))
   ·exact .inr (.inr (.inr ⟨by omega,by omega⟩))
 refine⟨fun k2=>⟨fun _=>⟨_,⟨fun q=>⟨rfl,fun _ _ h=>h,.inl q⟩,fun q=>⟨fun q2=>⟨rfl,fun _ _ h=>h,.inr (.inl q2)⟩,fun q2=>⟨_,neqBool,rfl,fun _ _ h=>h,leaf q (Decidable.not_not.1 q2) (.inl k2) rfl⟩⟩⟩,fun hl=>bad (late hl (.inl k2)) (by omega),fun hl=>⟨fun _=>step k2 (fine hl (.inl k2)) (fun hn=>hl (.inr (.inr (.inl ⟨k2,hn⟩)))),fun h'=>absurd k2 h'⟩⟩,fun h'=>absurd k2 h'⟩,fun k2=>⟨fun k3=> ?_,fun k3=> ?_⟩⟩
 ·refine⟨_,⟨fun q=>⟨rfl,fun _ _ h=>h,.inl q⟩,fun q=>⟨fun q2=>⟨rfl,fun _ _ h=>h,.inr (.inl q2)⟩,fun q2=>⟨_,neqBool,rfl,fun _ _ h=>h,leaf q (Decidable.not_not.1 q2) (.inr k3) rfl⟩⟩⟩,fun hl=>bad (late hl (.inr k3)) (by omega),fun hl=>⟨fun h'=>absurd h' k2,fun _=> ?_⟩⟩
  have hd:=done k3 (fine hl (.inr k3))
  exact⟨hd,hd,hd,hd⟩
 ·exact bad (by rw[nextErr,if_neg h,if_neg h2,if_neg k1,if_pos ⟨k2,k3⟩]) (by omega)
end
open Go Go.Proofs
theorem cReplay{H:Heap}{a a':O}{l c l' c':Nat}{f:Rls}{rs:List Recd}(hp:Pins H a l f.lock)(hr:Recs H a' l' rs):
  Spec Tryz.prog 67 [.agg #[.int .i64 f.id,.slice a l c],.slice a' l' c'] H fun v H'=>∃a n c ga gn gc,v= .tuple #[agtArg (okA (agtReplay f rs)) a n c ga gn gc,i64 (errOf (agtReplay f rs))]/\Pins H' a n (okA (agtReplay f rs)).lock/\Pins H' ga gn (okA (agtReplay f rs)).goal.lock:=by
 refine TryzvcJ Tryz.func67 (by kernel_rfl) (by kernel_rfl) _ rfl (fun base K=>vc63 f.id a a' l c l' c' base H K) fun base hb=> ?_
 have hrl:=hr.len
 have bad:∀ {e:Int} {H':Heap},agtReplay f rs= .error e->∃a n c ga gn gc,Value.tuple #[.agg #[.slice none 0 0,.int .i64 0,.int .i64 0,.bool false,.int .i64 0,.slice none 0 0,.bool false],.int .i64 e]= .tuple #[agtArg (okA (agtReplay f rs)) a n c ga gn gc,i64 (errOf (agtReplay f rs))]/\Pins H' a n (okA (agtReplay f rs)).lock/\Pins H' ga gn (okA (agtReplay f rs)).goal.lock:=fun he=>by
  rw[he];exact⟨none,0,0,none,0,0,rfl,Sl.nil,Sl.nil⟩
 intro b b'
 refine(cNew hp).agt fun a1 n1 c1 ga1 gn1 gc1 H1 e1 _ p1 g1=>fun b2=>⟨fun h=>bad (by rw[agtReplay,if_pos h]),fun h=>⟨fun h200=>bad (by rw[agtReplay,if_neg h,if_pos (by omega)]),fun h200=> ?_⟩⟩
 rw[if_pos (Decidable.not_not.1 h)] at p1 g1⊢
 have hW:agtReplay f rs=replayFrom (newAgt f) rs:=by rw[agtReplay,if_neg h,if_neg (by omega)]
 rw[hW] at bad⊢
 refine⟨fun vs Hc=>∃(y:Agt)(a:O)(n c:Nat)(ga:O)(gn gc:Nat)(d e:Int)(w:Value)(k:Nat),vs=[i64 d,i64 e,i64 k,w,agtArg y a n c ga gn gc]/\Pins Hc a n y.lock/\Pins Hc ga gn y.goal.lock/\k<=l'/\replayFrom y (rs.drop k)=replayFrom (newAgt f) rs,upTo l' 2,
  ⟨newAgt f,a1,n1,c1,ga1,gn1,gc1,0,_,_,0,rfl,p1,g1,by omega,rfl⟩,fun d e m a6 n8 c3 n9 n10 b0 n11 a7 n12 c4 b3 a8 n13 c5 n14 n15 b4 n16 a9 n17 c6 b5 H' hN hI=> ?_⟩
 obtain⟨y,ya,yn,yc,yga,ygn,ygc,d',e',w,k,hvs,hP,hG,hk,hI⟩:=hI
 obtain⟨rfl,rfl,rfl,rfl,⟨rfl,rfl,rfl⟩,rfl,rfl,rfl,rfl,⟨rfl,rfl,rfl⟩,rfl⟩:d=d'/\e=e'/\m=(k:Int)/\Value.agg #[.slice a6 n8 c3,.int .i64 n9,.int .i64 n10,.bool b0,.int .i64 n11,.slice a7 n12 c4,.bool b3]=w/\(a8=ya/\n13=yn/\c5=yc)/\n14=y.at_/\n15=y.try_/\b4=y.going/\n16=y.goal.id/\(a9=yga/\n17=ygn/\c6=ygc)/\b5=y.good:=by simpa using hvs
 refine⟨fun hlt=>hr.recd hN.ext (by omega) hlt fun r ra rn rc hm hq=>fun b8=> ?_,fun hge=> ?_⟩
 ·rw[Int.toNat_natCast] at hm
  rw[drop_at hm,replayFrom] at hI
  refine(cNext hP hG (hq.ext' hN.ext)).agt fun a2 n2 c2 ga2 gn2 gc2 H2 e2 _ p2 g2=>⟨fun h=> ?_,fun h=> ?_⟩
  ·rw[if_neg h] at hI
   exact bad hI.symm
  ·have h0:nextErr y r=0:=Decidable.not_not.1 h
   rw[if_pos h0] at hI
   have hV:nextV y r=agtNext y r:=by rw[nextV,if_pos h0]
   rw[hV] at p2 g2⊢
   rintro q rfl
   rw[wrap_in (by omega) (by omega)]
   exact⟨rfl,⟨agtNext y r,a2,n2,c2,ga2,gn2,gc2,_,_,_,k+1,rfl,p2,g2,by omega,hI⟩,by simp[upTo];omega⟩
 ·rw[drop_all hrl (by omega),replayFrom] at hI
  rw[←hI]
  exact⟨_,_,_,_,_,_,rfl,hP,hG⟩
def f1:Rls:=⟨1,[⟨1,1⟩]⟩
def f2:Rls:=⟨2,[⟨2,1⟩]⟩
def g5:Agt:=⟨[],1,3,true,f2,false⟩
def g7:Agt:=⟨[⟨2,1⟩],2,3,false,⟨0,[]⟩,true⟩
end Go.Vg
