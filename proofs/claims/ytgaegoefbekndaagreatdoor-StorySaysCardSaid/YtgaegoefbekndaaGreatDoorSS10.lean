/- What is proved here: a part of the proof of laws of this seat: what a contract is, how it comes of a condition, contracts of the functions that are reached, the plain laws. -/
import Derived.Test.YtgaegoefbekndaaGreatDoorSS9
set_option linter.unusedSimpArgs false
set_option linter.unusedVariables false
set_option maxRecDepth 100000
namespace Go.Vg
open Go Go.Proofs
section
variable {H : Heap} {a ga : O} {l c gl gc : Nat} {x : Agt}
theorem cAgtCheck(hp:Pins H a l x.lock)(hg:Pins H ga gl x.goal.lock):Spec Tryz.prog 233 [agtArg x a l c ga gl gc] H fun v _=>v=i64 (agtErr x):=by
 refine TryzvcJ Tryz.func233 (by kernel_rfl) (by kernel_rfl) _ rfl (fun base K=>vc67 a ga l c gl gc x.at_ x.try_ x.goal.id x.going x.good base H K) fun base hb=> ?_
 have hgl:=hg.len
 have hnr:noRel x.goal↔x.goal.id=0/\gl=0:=by unfold noRel;rw[len_zero hgl]
 intro b
 refine(cLockCheck hp).int1 fun H1 e1 _=>⟨fun h=>by rw[agtErr,if_pos h],fun h=> ?_⟩
 refine⟨x.at_<1∨6<x.at_∨x.try_<0∨200<x.try_,?_,fun h2=>by rw[agtErr,if_neg h,if_pos h2],fun h2=>⟨fun hgo=> ?_,fun hgo=> ?_⟩⟩
 ·repeat' (first|exact⟨rfl,fun _ _ h=>h,by omega⟩|intro _|refine⟨?_,?_⟩)
 ·refine⟨x.try_=0∨x.good=true,⟨fun _=>⟨rfl,fun _ _ h=>h,by grind⟩,fun _=>⟨rfl,fun _ _ h=>h,by grind⟩⟩,fun h3=>by rw[agtErr,if_neg h,if_neg h2,if_pos hgo,if_pos h3],fun h3=>(cNoteRelease (hg.ext' e1) x.goal.id).int1 fun H2 _ _=> ?_⟩
  rw[agtErr,if_neg h,if_neg h2,if_pos hgo,if_neg h3]
 ·refine⟨¬(x.goal.id=0/\gl=0),⟨fun _=>⟨rfl,fun _ _ h=>h,by grind⟩,fun _=>⟨rfl,fun _ _ h=>h,by grind⟩⟩,fun h3=> ?_,fun h3=> ?_⟩
  ·rw[agtErr,if_neg h,if_neg h2,if_neg (by simp[hgo]),if_neg (by rw[hnr];exact h3)]
  ·rw[agtErr,if_neg h,if_neg h2,if_neg (by simp[hgo]),if_pos (by rw[hnr];exact Decidable.not_not.1 h3)]
theorem cRefAgtCheck(hp:Pins H a l x.lock)(hg:Pins H ga gl x.goal.lock):Spec Tryz.prog 161 [agtArg x a l c ga gl gc] H fun v _=>v=i64 (agtErr x):=by
 refine TryzvcJ Tryz.func161 (by kernel_rfl) (by kernel_rfl) _ rfl (fun base K=>vc73 a ga l c gl gc x.at_ x.try_ x.goal.id x.going x.good base H K) fun base hb=> ?_
 have hgl:=hg.len
 have hnr:noRel x.goal↔x.goal.id=0/\gl=0:=by unfold noRel;rw[len_zero hgl]
 intro b
 refine(cRefLockCheck hp).int1 fun H1 e1 _=>⟨fun h=>by rw[agtErr,if_pos h],fun h=> ?_⟩
 refine⟨x.at_<1∨6<x.at_∨x.try_<0∨200<x.try_,?_,fun h2=>by rw[agtErr,if_neg h,if_pos h2],fun h2=>⟨fun hgo=> ?_,fun hgo=> ?_⟩⟩
 ·refine(cIn x.at_ 1 6).bool1 fun H2 e2 _=>⟨fun g=>⟨rfl,e2,?_⟩,fun g=>(cIn x.try_ 0 200).bool1 fun H3 e3 _=>⟨rfl,Ext.trans e2 e3,?_⟩⟩
  ·have:¬(1<=x.at_/\x.at_<=6):=by simpa[inR] using g
   omega
  ·have:1<=x.at_/\x.at_<=6:=by simpa[inR] using g
   simp only[inR,decide_eq_false_iff_not];omega
 ·refine⟨¬(x.goal.id=0/\gl=0),⟨fun _=>⟨rfl,fun _ _ h=>h,by grind⟩,fun _=>⟨rfl,fun _ _ h=>h,by grind⟩⟩,fun h3=> ?_,fun h3=> ?_⟩
  ·rw[agtErr,if_neg h,if_neg h2,if_neg (by simp[hgo]),if_neg (by rw[hnr];exact h3)]
  ·rw[agtErr,if_neg h,if_neg h2,if_neg (by simp[hgo]),if_pos (by rw[hnr];exact Decidable.not_not.1 h3)]
 ·have hgo:x.going=true:=by simpa using hgo
  have ht:0<=x.try_:=by omega
  refine⟨x.try_=0∨x.good=true,⟨fun _=>⟨rfl,fun _ _ h=>h,by grind⟩,fun _=>⟨rfl,fun _ _ h=>h,by grind⟩⟩,fun h3=>by rw[agtErr,if_neg h,if_neg h2,if_pos hgo,if_pos h3],fun h3=>(cRefRelease (hg.ext' e1) x.goal.id).int1 fun H2 _ _=> ?_⟩
  rw[agtErr,if_neg h,if_neg h2,if_pos hgo,if_neg h3]
theorem cLeft(hp:Pins H a l x.lock)(hg:Pins H ga gl x.goal.lock):Spec Tryz.prog 203 [agtArg x a l c ga gl gc] H fun v H'=>∃a n c,v= .tuple #[.slice a n c,i64 (agtErr x)]/\Steps H' a n (if agtErr x=0 then agtLeft x else []):=by
 refine TryzvcJ Tryz.func203 (by kernel_rfl) (by kernel_rfl) _ rfl (fun base K=>vc70 a ga l c gl gc x.at_ x.try_ x.goal.id x.going x.good base H K) fun base hb=> ?_
 intro b
 refine(cAgtCheck hp hg).int1 fun H1 e1 _=>⟨fun h=> ?_,fun h=> ?_⟩
 ·rw[if_neg h];exact⟨none,0,0,rfl,Sl.nil⟩
 have h:=Decidable.not_not.1 h
 rw[h,if_pos rfl]
 refine⟨fun hgo=>⟨none,0,0,rfl,?_⟩,fun hgo=> ?_⟩
 ·rw[agtLeft,if_neg (by simp[hgo])];exact Sl.nil
 ·have hz:diffErr x.lock x.goal.lock=0:=diffErr_zero.2 ⟨(agtErr_zero h).1,agt_goal h⟩
  refine(cDiff (hp.ext' e1) (hg.ext' e1)).sl2 fun a2 n2 c2 H2 e2 _ hD=> ?_
  rw[if_pos hz] at hD
  rw[hz]
  refine⟨_,_,_,rfl,?_⟩
  rw[agtLeft,if_pos (by simpa using hgo)];exact hD
theorem pins_small(h:agtErr x=0):x.lock.length<=12/\x.goal.lock.length<=12:=⟨(agtErr_zero h).1.2,(agt_goal h).2⟩
theorem Fresh.pins{H H':Heap}{a:O}{n c:Nat}{xs:List Pin}(h:Fresh H H' 91 2 a n c (xs.flatMap pinCells)):Pins H' a n xs:=Sl.ext REnc.mono (h.sl_new pinCells_len (by omega)) newOf_ext
theorem Spec.agt1{P:Program}{f:FuncId}{args:List Value}{H:Heap}{x:Agt}(h:Spec P f args H fun v H'=>∃a n c ga gn gc,v=agtArg x a n c ga gn gc/\Pins H' a n x.lock/\Pins H' ga gn x.goal.lock){base:Nat}
  {G:O->Nat->Nat->Int->Int->Bool->Int->O->Nat->Nat->Bool->Heap->Prop} (hG:∀a n c ga gn gc H',Ext H H'->Next base H H'->Pins H' a n x.lock->Pins H' ga gn x.goal.lock->G a n c x.at_ x.try_ x.going x.goal.id ga gn gc x.good H'):
  Spec P f args H fun v H'=>∃(a:O)(n c:Nat)(n2 n3:Int)(b:Bool)(n4:Int)(a2:O)(n5 c1:Nat)(b3:Bool),v= .agg #[.slice a n c,.int .i64 n2,.int .i64 n3,.bool b,.int .i64 n4,.slice a2 n5 c1,.bool b3]/\(Next base H H'->G a n c n2 n3 b n4 a2 n5 c1 b3 H'):=
 h.mono fun v H' ex hv=>by
  obtain⟨a,n,c,ga,gn,gc,h1,h2,h3⟩:=hv
  exact⟨a,n,c,_,_,_,_,ga,gn,gc,_,h1,fun hN=>hG a n c ga gn gc H' ex hN h2 h3⟩
theorem cAgtCopy(hp:Pins H a l x.lock)(hg:Pins H ga gl x.goal.lock)(h:agtErr x=0):Spec Tryz.prog 173 [agtArg x a l c ga gl gc] H fun v H'=>∃a n c ga gn gc,v=agtArg x a n c ga gn gc/\Pins H' a n x.lock/\Pins H' ga gn x.goal.lock:=by
 refine TryzvcJ Tryz.func173 (by kernel_rfl) (by kernel_rfl) _ rfl (fun base K=>vc125 a ga l c gl gc x.at_ x.try_ x.goal.id x.going x.good base H K) fun base hb=> ?_
 have hs:=pins_small h
 have h1:=hp.len
 have h2:=hg.len
 intro b b1
 refine(cCloneJ hp (by omega)).mono fun v H1 e1 hv=> ?_
 obtain⟨a2,n2,c2,rfl,hF⟩:=hv
 refine⟨a2,n2,c2,rfl,fun _=>(cCloneJ (hg.ext' e1) (by omega)).mono fun v H2 e2 hv=> ?_⟩
 obtain⟨a3,n3,c3,rfl,hF3⟩:=hv
 exact⟨a3,n3,c3,rfl,fun _=>⟨_,_,_,_,_,_,rfl,hF.pins.ext' e2,hF3.pins⟩⟩
end
theorem cNew{H:Heap}{a:O}{l c:Nat}{r:Rls}(hp:Pins H a l r.lock):Spec Tryz.prog 89 [.agg #[.int .i64 r.id,.slice a l c]] H fun v H'=>∃a n c ga gn gc,v= .tuple #[agtArg (if relErr r=0 then newAgt r else noAgt) a n c ga gn gc,i64 (relErr r)]/\Pins H' a n (if relErr r=0 then newAgt r else noAgt).lock/\Pins H' ga gn (if relErr r=0 then newAgt r else noAgt).goal.lock:=by
 refine TryzvcJ Tryz.func89 (by kernel_rfl) (by kernel_rfl) _ rfl (fun base K=>vc71 r.id a l c base H K) fun base hb=> ?_
 intro b b1
 refine(cNoteRelease hp r.id).int1 fun H1 e1 _=>⟨fun h=> ?_,fun h=> ?_⟩
 ·rw[if_neg h];exact⟨none,0,0,none,0,0,rfl,Sl.nil,Sl.nil⟩
 have h:=Decidable.not_not.1 h
 have h:relErr r=0:=h
 rw[if_pos h,h]
 have h12:=(relErr_zero h).2.2
 have hl:=hp.len
 refine(cCloneJ (hp.ext' e1) (by omega)).mono fun v H2 e2 hv=> ?_
 obtain⟨a2,n2,c2,rfl,hF⟩:=hv
 exact⟨a2,n2,c2,rfl,fun _=>⟨_,_,_,none,0,0,rfl,hF.pins,Sl.nil⟩⟩
section
variable {H : Heap} {a ga a' ga' : O} {l c gl gc l' c' gl' gc' : Nat} {x y : Agt}
theorem cAgtSame(hp:Pins H a l x.lock)(hg:Pins H ga gl x.goal.lock)(hp':Pins H a' l' y.lock)(hg':Pins H ga' gl' y.goal.lock):Spec Tryz.prog 38 [agtArg x a l c ga gl gc,agtArg y a' l' c' ga' gl' gc'] H fun v _=>v= .bool (decide (x=y)):=by
 refine TryzvcJ Tryz.func38 (by kernel_rfl) (by kernel_rfl) _ rfl (fun base K=>vc75 a ga a' ga' l c gl gc l' c' gl' gc' x.at_ x.try_ x.goal.id y.at_ y.try_ y.goal.id x.going x.good y.going y.good base H K) fun base hb=> ?_
 have hgo:x.goal=y.goal↔(⟨x.goal.id,x.goal.lock⟩:Rls)=⟨y.goal.id,y.goal.lock⟩:=Iff.rfl
 intro b b1
 refine⟨x=y,(cEqPins hp hp').bool1 fun H1 e1 _=>⟨fun q1=>⟨fun q2=>⟨fun q3=>⟨_,eqBool,fun q4=>⟨_,eqBool,fun q5=>(cAlike (hg.ext' e1) (hg'.ext' e1) _ _).bool1 fun H2 e2 _=>⟨rfl,e1.trans e2,?_⟩,fun q5=>⟨rfl,e1,fun h=>q5 (by simp[h])⟩⟩,fun q4=>⟨rfl,e1,fun h=>q4 (by simp[h])⟩⟩,fun q3=>⟨rfl,e1,fun h=>q3 (by rw[h])⟩⟩,fun q2=>⟨rfl,e1,fun h=>q2 (by rw[h])⟩⟩,fun q1=>⟨rfl,e1,fun h=>by simp[h] at q1⟩⟩,?_⟩
 ·rw[agt_eq,decide_eq_true_eq,←hgo]
  simp only[beq_iff_eq] at q4 q5
  have q1:x.lock=y.lock:=by simpa using q1
  simp[q1,q2,q3,q4,q5]
 ·congr 1
  exact decide_eq_decide.2 Iff.rfl
theorem cRefAgtSame(hp:Pins H a l x.lock)(hg:Pins H ga gl x.goal.lock)(hp':Pins H a' l' y.lock)(hg':Pins H ga' gl' y.goal.lock):Spec Tryz.prog 22 [agtArg x a l c ga gl gc,agtArg y a' l' c' ga' gl' gc'] H fun v _=>v= .bool (decide (x=y)):=by
 refine TryzvcJ Tryz.func22 (by kernel_rfl) (by kernel_rfl) _ rfl (fun base K=>vc66 a ga a' ga' l c gl gc l' c' gl' gc' x.at_ x.try_ x.goal.id y.at_ y.try_ y.goal.id x.going x.good y.going y.good base H K) fun base hb=> ?_
 have hgo:x.goal=y.goal↔(⟨x.goal.id,x.goal.lock⟩:Rls)=⟨y.goal.id,y.goal.lock⟩:=Iff.rfl
 intro b b1
 refine⟨x=y,(cEqPins hp hp').bool1 fun H1 e1 _=>⟨fun q1=>⟨fun q2=>⟨fun q3=>⟨_,eqBool,fun q4=>(cRefAlike (hg.ext' e1) (hg'.ext' e1) _ _).bool1 fun H2 e2 _=>⟨fun q5=>⟨_,eqBool,rfl,e1.trans e2,?_⟩,fun q5=>⟨rfl,e1.trans e2,fun h=>by simp[h] at q5⟩⟩,fun q4=>⟨rfl,e1,fun h=>q4 (by simp[h])⟩⟩,fun q3=>⟨rfl,e1,fun h=>q3 (by rw[h])⟩⟩,fun q2=>⟨rfl,e1,fun h=>q2 (by rw[h])⟩⟩,fun q1=>⟨rfl,e1,fun h=>by simp[h] at q1⟩⟩,?_⟩
 ·rw[decide_eq_true_eq,←hgo] at q5
  rw[agt_eq]
  simp only[beq_iff_eq] at q4⊢
  have q1:x.lock=y.lock:=by simpa using q1
  simp[q1,q2,q3,q4,q5]
 ·congr 1
  exact decide_eq_decide.2 Iff.rfl
end
open Go Go.Proofs
section
variable {H : Heap} {a ga ra : O} {l c gl gc rl rc : Nat} {x : Agt} {r : Recd}
theorem left_cases(x:Agt):agtLeft x=[]∨ ∃o q,agtLeft x=o::q:=by
 cases agtLeft x with
 |nil=>exact .inl rfl
 |cons o q=>exact .inr ⟨o,q,rfl⟩
theorem left_fits(h:agtErr x=0){o:Step}{q:List Step}(hl:agtLeft x=o::q):applyErr x.lock o=0:=by
 unfold agtLeft at hl
 split at hl
 ·have h1:=(agtErr_zero h).1
  have h2:=agt_goal h
  exact(diffs_fits h1.1 h2.1 h1.2 h2.2 hl).1
 ·cases hl
theorem cNext(hp:Pins H a l x.lock)(hg:Pins H ga gl x.goal.lock)(hr:Pins H ra rl r.rel.lock):
  Spec Tryz.prog 145 [agtArg x a l c ga gl gc,recArg r ra rl rc] H fun v H'=>∃a n c ga gn gc,v= .tuple #[agtArg (nextV x r) a n c ga gn gc,i64 (nextErr x r)]/\Pins H' a n (nextV x r).lock/\Pins H' ga gn (nextV x r).goal.lock:=by
 refine TryzvcJ Tryz.func145 (by kernel_rfl) (by kernel_rfl) _ rfl (fun base K=>vc69 a ga ra l c gl gc rl rc x.at_ x.try_ x.goal.id r.kind r.agent r.try_ r.num r.rel.id x.going x.good r.good base H K) fun base hb=> ?_
 have bad:∀ {e:Int} {H':Heap},nextErr x r=e->e≠0->∃a n c ga gn gc,Value.tuple #[.agg #[.slice none 0 0,.int .i64 0,.int .i64 0,.bool false,.int .i64 0,.slice none 0 0,.bool false],.int .i64 e]= .tuple #[agtArg (nextV x r) a n c ga gn gc,i64 (nextErr x r)]/\Pins H' a n (nextV x r).lock/\Pins H' ga gn (nextV x r).goal.lock:=fun he h0=>by
  have:nextV x r=noAgt:=by rw[nextV,if_neg (by omega)]
  rw[this,he];exact⟨none,0,0,none,0,0,rfl,Sl.nil,Sl.nil⟩
 intro b b1 b2
 refine(cLeft hp hg).sl2 fun a1 n1 c1 H1 e1 _ hD=>⟨fun h=>bad (by rw[nextErr,if_pos h]) h,fun h=>(cRecCheck (hr.ext' e1)).int1 fun H2 e2 _=>⟨fun h2=>bad (by rw[nextErr,if_neg h,if_pos h2]) h2,fun h2=> ?_⟩⟩
 have h0:agtErr x=0:=Decidable.not_not.1 h
 rw[if_pos h0] at hD
 have hDl:=hD.len
 have hnil:agtLeft x=[]↔n1=0:=by rw[←hDl];exact List.length_eq_zero_iff.symm
 have good:∀ {X:Agt} {H':Heap} {a n c ga gn gc},nextErr x r=0->agtNext x r=X->Pins H' a n X.lock->Pins H' ga gn X.goal.lock->∃a' n' c' ga' gn' gc',Value.tuple #[agtArg X a n c ga gn gc,.int .i64 0]= .tuple #[agtArg (nextV x r) a' n' c' ga' gn' gc',i64 (nextErr x r)]/\Pins H' a' n' (nextV x r).lock/\Pins H' ga' gn' (nextV x r).goal.lock:=fun he hX p1 p2=>by
  have:nextV x r=agtNext x r:=by rw[nextV,if_pos he]
  rw[this,he,hX];exact⟨_,_,_,_,_,_,rfl,p1,p2⟩
 refine(cAgtCopy ((hp.ext' e1).ext' e2) ((hg.ext' e1).ext' e2) h0).agt1 fun a3 n3 c3 ga3 gn3 gc3 H3 e3 _ p3 g3=>⟨fun k1=>⟨fun ht=> ?_,fun ht=> ?_⟩,fun k1=> ?_⟩
 ·exact bad (by rw[nextErr,if_neg h,if_neg h2,if_pos k1,if_pos ht]) (by omega)
 ·have hr12:r.rel.lock.length<=12:=by
   have:recErr r=0:=Decidable.not_not.1 h2
   unfold recErr at this
   split at this
   ·omega
   ·split at this
    ·omega
    ·split at this
     ·omega
     ·rw[if_pos (.inl k1)] at this
      exact(relErr_zero this).2.2
  have hrl:=hr.len
  refine(cCloneJ (((hr.ext' e1).ext' e2).ext' e3) (by omega)).mono fun v H4 e4 hv=> ?_
  obtain⟨a5,n5,c5,rfl,hF⟩:=hv
  exact⟨a5,n5,c5,rfl,fun _=>good (X:=⟨x.lock,x.at_,r.try_,true,r.rel,false⟩) (by rw[nextErr,if_neg h,if_neg h2,if_pos k1,if_neg ht]) (by rw[agtNext,if_pos k1]) (p3.ext' e4) hF.pins⟩
 have late:(x.going=false∨r.try_≠x.try_∨(r.kind=2/\agtLeft x=[])∨(r.kind=3/\agtLeft x≠[]))->(r.kind=2∨r.kind=3)->nextErr x r=7:=fun hl hk=>by
  rw[nextErr,if_neg h,if_neg h2,if_neg k1,if_neg (by omega),if_pos hl]
 have fine:¬(x.going=false∨r.try_≠x.try_∨(r.kind=2/\agtLeft x=[])∨(r.kind=3/\agtLeft x≠[]))->(r.kind=2∨r.kind=3)->nextErr x r=0:=fun hl hk=>by
  rw[nextErr,if_neg h,if_neg h2,if_neg k1,if_neg (by omega),if_neg hl]
 have step:r.kind=2->nextErr x r=0->agtLeft x≠[]->∃(b:Nat)(o:Nat),a1=some ⟨b,o,none⟩/\Int.ofNat 0<=0/\0<(n1:Int)/\∃(n n9 n10:Int),(H3.cell b (o+0*3)=some (.int .i64 n)/\H3.cell b (o+0*3+1)=some (.int .i64 n9)/\H3.cell b (o+0*3+2)=some (.int .i64 n10)/\True)/\
   Spec Tryz.prog 204 [.slice a3 n3 c3,.agg #[.int .i64 n,.int .i64 n9,.int .i64 n10]] H3 fun v H'=>∃(a:O)(n c:Nat)(n11:Int),v= .tuple #[.slice a n c,.int .i64 n11]/\(Vg.Next base H3 H'->∃a' n' c' ga' gn' gc',Value.tuple #[.agg #[.slice a n c,.int .i64 x.at_,.int .i64 x.try_,.bool x.going,.int .i64 x.goal.id,.slice ga3 gn3 gc3,.bool x.good],.int .i64 n11]= .tuple #[agtArg (nextV x r) a' n' c' ga' gn' gc',i64 (nextErr x r)]/\Pins H' a' n' (nextV x r).lock/\Pins H' ga' gn' (nextV x r).goal.lock):=fun hk he hne=>by
  obtain⟨o,q,hl⟩:=(left_cases x).resolve_left hne
  rw[hl] at hD
  have hpos:0<n1:=by
   rcases Nat.eq_zero_or_pos n1 with hz|hz
   ·exact absurd (hnil.2 hz) hne
   ·exact hz
  refine hD.step (k:=0) (Ext.trans e2 e3) (by omega) (by omega) fun o' ho'=> ?_
  obtain rfl:o=o':=by simpa using ho'
  have f1:=left_fits h0 hl
  refine(cApply p3 o.kind o.name o.ver).sl2 fun a5 n5 c5 H5 e5 _ hA=> ?_
  have f1':applyErr x.lock ⟨o.kind,o.name,o.ver⟩=0:=f1
  rw[if_pos f1'] at hA
  rw[f1']
  exact good (X:=⟨applied x.lock o,x.at_,x.try_,x.going,x.goal,x.good⟩) he (by rw[agtNext,if_neg k1,if_pos hk,hl]) hA (g3.ext' e5)
 have done:r.kind=3->nextErr x r=0->∃a' n' c' ga' gn' gc',Value.tuple #[.agg #[.slice a3 n3 c3,.int .i64 x.goal.id,.int .i64 x.try_,.bool false,.int .i64 0,.slice none 0 0,.bool r.good],.int .i64 0]= .tuple #[agtArg (nextV x r) a' n' c' ga' gn' gc',i64 (nextErr x r)]/\Pins H3 a' n' (nextV x r).lock/\Pins H3 ga' gn' (nextV x r).goal.lock:=fun hk he=>
  good (X:=⟨x.lock,x.goal.id,x.try_,false,⟨0,[]⟩,r.good⟩) he (by rw[agtNext,if_neg k1,if_neg (by omega)]) p3 Sl.nil
 have leaf:∀ {b5:Bool},x.going≠false->r.try_=x.try_->(r.kind=2∨r.kind=3)->b5=(decide (0<(n1:Int)) !=decide (r.kind=2))->((x.going=false∨r.try_≠x.try_∨(r.kind=2/\agtLeft x=[])∨(r.kind=3/\agtLeft x≠[]))↔b5=true):=fun q1 q2 q3 q4=>by
  subst q4
  simp only[ne_eq,hnil]
  have q5:∀p q:Bool,((p !=q)=true)↔ ¬(p=true↔q=true):=by decide
  rw[q5]
  simp only[decide_eq_true_eq]
  constructor
  ·rintro(q|q|q|q)
   ·exact absurd q q1
   ·exact absurd q2 q
   ·omega
   ·omega
  ·intro q
   by_cases hk:r.kind=2
   ·exact .inr (.inr (.inl ⟨hk,by omega⟩))
   ·exact .inr (.inr (.inr ⟨by omega,by omega⟩))
 refine⟨fun k2=>⟨fun _=>⟨_,⟨fun q=>⟨rfl,fun _ _ h=>h,.inl q⟩,fun q=>⟨fun q2=>⟨rfl,fun _ _ h=>h,.inr (.inl q2)⟩,fun q2=>⟨_,neqBool,rfl,fun _ _ h=>h,leaf q (Decidable.not_not.1 q2) (.inl k2) rfl⟩⟩⟩,fun hl=>bad (late hl (.inl k2)) (by omega),fun hl=>⟨fun _=>step k2 (fine hl (.inl k2)) (fun hn=>hl (.inr (.inr (.inl ⟨k2,hn⟩)))),fun h'=>absurd k2 h'⟩⟩,fun h'=>absurd k2 h'⟩,fun k2=>⟨fun k3=> ?_,fun k3=> ?_⟩⟩
 ·refine⟨_,⟨fun q=>⟨rfl,fun _ _ h=>h,.inl q⟩,fun q=>⟨fun q2=>⟨rfl,fun _ _ h=>h,.inr (.inl q2)⟩,fun q2=>⟨_,neqBool,rfl,fun _ _ h=>h,leaf q (Decidable.not_not.1 q2) (.inr k3) rfl⟩⟩⟩,fun hl=>bad (late hl (.inr k3)) (by omega),fun hl=>⟨fun h'=>absurd h' k2,fun _=> ?_⟩⟩
  have hd:=done k3 (fine hl (.inr k3))
  exact⟨hd,hd,hd,hd⟩
 ·exact bad (by rw[nextErr,if_neg h,if_neg h2,if_neg k1,if_pos ⟨k2,k3⟩]) (by omega)
theorem cBadA{H:Heap}(e:Int):Spec Tryz.prog 160 [.int .i64 e] H fun v H'=>∃a n c ga gn gc,v= .tuple #[agtArg noAgt a n c ga gn gc,i64 e]/\Pins H' a n noAgt.lock/\Pins H' ga gn noAgt.goal.lock:=by
 refine TryzvcJ Tryz.func160 (by kernel_rfl) (by kernel_rfl) _ rfl (fun base K=>vc126 e base H K) fun base hb=> ?_
 intro b
 exact⟨none,0,0,none,0,0,rfl,Sl.nil,Sl.nil⟩
theorem cRefNext(hp:Pins H a l x.lock)(hg:Pins H ga gl x.goal.lock)(hr:Pins H ra rl r.rel.lock):
  Spec Tryz.prog 85 [agtArg x a l c ga gl gc,recArg r ra rl rc] H fun v H'=>∃a n c ga gn gc,v= .tuple #[agtArg (nextV x r) a n c ga gn gc,i64 (nextErr x r)]/\Pins H' a n (nextV x r).lock/\Pins H' ga gn (nextV x r).goal.lock:=by
 refine TryzvcJ Tryz.func85 (by kernel_rfl) (by kernel_rfl) _ rfl (fun base K=>vc72 a ga ra l c gl gc rl rc x.at_ x.try_ x.goal.id r.kind r.agent r.try_ r.num r.rel.id x.going x.good r.good base H K) fun base hb=> ?_
 have bad:∀ {e:Int} {H':Heap},nextErr x r=e->e≠0->Spec Tryz.prog 160 [.int .i64 e] H' fun v H''=>∃(a:O)(n c:Nat)(n2 n3:Int)(b:Bool)(n4:Int)(a2:O)(n5 c1:Nat)(b3:Bool)(n6:Int),v= .tuple #[.agg #[.slice a n c,.int .i64 n2,.int .i64 n3,.bool b,.int .i64 n4,.slice a2 n5 c1,.bool b3],.int .i64 n6]/\(Vg.Next base H' H''->
   ∃a' n' c' ga' gn' gc',Value.tuple #[.agg #[.slice a n c,.int .i64 n2,.int .i64 n3,.bool b,.int .i64 n4,.slice a2 n5 c1,.bool b3],.int .i64 n6]= .tuple #[agtArg (nextV x r) a' n' c' ga' gn' gc',i64 (nextErr x r)]/\Pins H'' a' n' (nextV x r).lock/\Pins H'' ga' gn' (nextV x r).goal.lock):=fun{e H'} he h0=>by
  have:nextV x r=noAgt:=by rw[nextV,if_neg (by omega)]
  rw[this,he]
  exact(cBadA e).agt fun a n c ga gn gc H'' _ _ p1 p2=>⟨_,_,_,_,_,_,rfl,p1,p2⟩
 intro b b1 b2
 refine(cRefAgtCheck hp hg).int1 fun H1 e1 _=>⟨fun h=>bad (by rw[nextErr,if_pos h]) h,fun h=>(cRefRecCheck (hr.ext' e1)).int1 fun H2 e2 _=>⟨fun h2=>bad (by rw[nextErr,if_neg h,if_pos h2]) h2,fun h2=> ?_⟩⟩
 have h0:agtErr x=0:=Decidable.not_not.1 h
 have p2:=(hp.ext' e1).ext' e2
 have g2:=(hg.ext' e1).ext' e2
 have r2:=(hr.ext' e1).ext' e2
 have good:∀ {X:Agt} {H':Heap} {a n c ga gn gc},nextErr x r=0->agtNext x r=X->Pins H' a n X.lock->Pins H' ga gn X.goal.lock->∃a' n' c' ga' gn' gc',Value.tuple #[agtArg X a n c ga gn gc,.int .i64 0]= .tuple #[agtArg (nextV x r) a' n' c' ga' gn' gc',i64 (nextErr x r)]/\Pins H' a' n' (nextV x r).lock/\Pins H' ga' gn' (nextV x r).goal.lock:=fun he hX p1 p2=>by
  have:nextV x r=agtNext x r:=by rw[nextV,if_pos he]
  rw[this,he,hX];exact⟨_,_,_,_,_,_,rfl,p1,p2⟩
 have hkr:1<=r.kind:=by
  have:recErr r=0:=Decidable.not_not.1 h2
  unfold recErr at this
  split at this
  ·omega
  ·omega
 refine⟨fun k1=>⟨fun ht=>bad (by rw[nextErr,if_neg h,if_neg h2,if_pos k1,if_pos ht]) (by omega),fun ht=> ?_⟩,fun k1=>⟨fun k3=>bad (by rw[nextErr,if_neg h,if_neg h2,if_neg k1,if_pos (by omega)]) (by omega),fun k3=> ?_⟩⟩
 ·exact good (X:=⟨x.lock,x.at_,r.try_,true,r.rel,false⟩) (by rw[nextErr,if_neg h,if_neg h2,if_pos k1,if_neg ht]) (by rw[agtNext,if_pos k1]) p2 r2
 have hk:r.kind=2∨r.kind=3:=by omega
 have late:(x.going=false∨r.try_≠x.try_∨(r.kind=2/\agtLeft x=[])∨(r.kind=3/\agtLeft x≠[]))->nextErr x r=7:=fun hl=>by
  rw[nextErr,if_neg h,if_neg h2,if_neg k1,if_neg (by omega),if_pos hl]
 have fine:¬(x.going=false∨r.try_≠x.try_∨(r.kind=2/\agtLeft x=[])∨(r.kind=3/\agtLeft x≠[]))->nextErr x r=0:=fun hl=>by
  rw[nextErr,if_neg h,if_neg h2,if_neg k1,if_neg (by omega),if_neg hl]
 refine⟨x.going=false∨x.try_≠r.try_,⟨fun q=>⟨rfl,fun _ _ h=>h,.inl q⟩,fun q=>⟨rfl,fun _ _ h=>h,⟨fun h=>h.resolve_left q,.inr⟩⟩⟩,fun q=>bad (late (by rcases q with q|q;exact .inl q;exact .inr (.inl (fun e=>q e.symm)))) (by omega),fun q=> ?_⟩
 have hgo:x.going=true:=by
  cases hx:x.going with
  |true=>rfl
  |false=>exact absurd (.inl hx) q
 have hty:r.try_=x.try_:=by
  by_cases e:x.try_=r.try_
  ·exact e.symm
  ·exact absurd (.inr e) q
 have hz:diffErr x.lock x.goal.lock=0:=diffErr_zero.2 ⟨(agtErr_zero h0).1,agt_goal h0⟩
 have hleft:agtLeft x=diffs x.lock x.goal.lock:=by rw[agtLeft,if_pos hgo]
 refine(cSteps p2 g2).sl2 fun a4 n4 c4 H4 e4 _ hD=> ?_
 obtain⟨_,hD⟩:=hD
 rw[if_pos hz,←hleft] at hD
 have hDl:=hD.len
 have hnil:agtLeft x=[]↔n4=0:=by rw[←hDl];exact List.length_eq_zero_iff.symm
 refine⟨r.kind=2/\0<n4,⟨fun q=>⟨rfl,fun _ _ h=>h,by omega⟩,fun q=>⟨rfl,fun _ _ h=>h,by omega⟩⟩,fun q=> ?_,fun q=> ?_⟩
 ·obtain⟨o,s,hl⟩:=(left_cases x).resolve_left (by rw[hnil];omega)
  have he:nextErr x r=0:=fine (by
   rintro(w|w|w|w)
   ·rw[hgo] at w;cases w
   ·exact w hty
   ·rw[hnil] at w;omega
   ·omega)
  rw[hl] at hD
  refine hD.step (k:=0) (Ext.refl _) (by omega) (by omega) fun o' ho'=> ?_
  obtain rfl:o=o':=by simpa using ho'
  have f1':applyErr x.lock ⟨o.kind,o.name,o.ver⟩=0:=left_fits h0 hl
  refine(cStepped (p2.ext' e4) o.kind o.name o.ver).sl2 fun a5 n5 c5 H5 e5 _ hA=> ?_
  rw[if_pos f1'] at hA
  exact good (X:=⟨applied x.lock o,x.at_,x.try_,x.going,x.goal,x.good⟩) he (by rw[agtNext,if_neg k1,if_pos q.1,hl]) hA ((g2.ext' e4).ext' e5)
 ·refine⟨r.kind=3/\n4=0,⟨fun q=>⟨rfl,fun _ _ h=>h,by omega⟩,fun q=>⟨rfl,fun _ _ h=>h,by omega⟩⟩,fun q2=> ?_,fun q2=>bad (late ?_) (by omega)⟩
  ·have he:nextErr x r=0:=fine (by
    rintro(w|w|w|w)
    ·rw[hgo] at w;cases w
    ·exact w hty
    ·omega
    ·have:=w.2;rw[ne_eq,hnil] at this;omega)
   exact good (X:=⟨x.lock,x.goal.id,x.try_,false,⟨0,[]⟩,r.good⟩) he (by rw[agtNext,if_neg k1,if_neg (by omega)]) (p2.ext' e4) Sl.nil
  ·by_cases k2:r.kind=2
   ·exact .inr (.inr (.inl ⟨k2,by rw[hnil];omega⟩))
   ·exact .inr (.inr (.inr ⟨by omega,by rw[ne_eq,hnil];omega⟩))
end
open Go Go.Proofs
theorem cReplay{H:Heap}{a a':O}{l c l' c':Nat}{f:Rls}{rs:List Recd}(hp:Pins H a l f.lock)(hr:Recs H a' l' rs):
  Spec Tryz.prog 67 [.agg #[.int .i64 f.id,.slice a l c],.slice a' l' c'] H fun v H'=>∃a n c ga gn gc,v= .tuple #[agtArg (okA (agtReplay f rs)) a n c ga gn gc,i64 (errOf (agtReplay f rs))]/\Pins H' a n (okA (agtReplay f rs)).lock/\Pins H' ga gn (okA (agtReplay f rs)).goal.lock:=by
 refine TryzvcJ Tryz.func67 (by kernel_rfl) (by kernel_rfl) _ rfl (fun base K=>vc63 f.id a a' l c l' c' base H K) fun base hb=> ?_
 have hrl:=hr.len
 have bad:∀ {e:Int} {H':Heap},agtReplay f rs= .error e->∃a n c ga gn gc,Value.tuple #[.agg #[.slice none 0 0,.int .i64 0,.int .i64 0,.bool false,.int .i64 0,.slice none 0 0,.bool false],.int .i64 e]= .tuple #[agtArg (okA (agtReplay f rs)) a n c ga gn gc,i64 (errOf (agtReplay f rs))]/\Pins H' a n (okA (agtReplay f rs)).lock/\Pins H' ga gn (okA (agtReplay f rs)).goal.lock:=fun he=>by
  rw[he];exact⟨none,0,0,none,0,0,rfl,Sl.nil,Sl.nil⟩
 intro b b'
 refine(cNew hp).agt fun a1 n1 c1 ga1 gn1 gc1 H1 e1 _ p1 g1=>fun b2=>⟨fun h=>bad (by rw[agtReplay,if_pos h]),fun h=>⟨fun h200=>bad (by rw[agtReplay,if_neg h,if_pos (by omega)]),fun h200=> ?_⟩⟩
 rw[if_pos (Decidable.not_not.1 h)] at p1 g1⊢
 have hW:agtReplay f rs=replayFrom (newAgt f) rs:=by rw[agtReplay,if_neg h,if_neg (by omega)]
 rw[hW] at bad⊢
 refine⟨fun vs Hc=>∃(y:Agt)(a:O)(n c:Nat)(ga:O)(gn gc:Nat)(d e:Int)(w:Value)(k:Nat),vs=[i64 d,i64 e,i64 k,w,agtArg y a n c ga gn gc]/\Pins Hc a n y.lock/\Pins Hc ga gn y.goal.lock/\k<=l'/\replayFrom y (rs.drop k)=replayFrom (newAgt f) rs,upTo l' 2,
  ⟨newAgt f,a1,n1,c1,ga1,gn1,gc1,0,_,_,0,rfl,p1,g1,by omega,rfl⟩,fun d e m a6 n8 c3 n9 n10 b0 n11 a7 n12 c4 b3 a8 n13 c5 n14 n15 b4 n16 a9 n17 c6 b5 H' hN hI=> ?_⟩
 obtain⟨y,ya,yn,yc,yga,ygn,ygc,d',e',w,k,hvs,hP,hG,hk,hI⟩:=hI
 obtain⟨rfl,rfl,rfl,rfl,⟨rfl,rfl,rfl⟩,rfl,rfl,rfl,rfl,⟨rfl,rfl,rfl⟩,rfl⟩:d=d'/\e=e'/\m=(k:Int)/\Value.agg #[.slice a6 n8 c3,.int .i64 n9,.int .i64 n10,.bool b0,.int .i64 n11,.slice a7 n12 c4,.bool b3]=w/\(a8=ya/\n13=yn/\c5=yc)/\n14=y.at_/\n15=y.try_/\b4=y.going/\n16=y.goal.id/\(a9=yga/\n17=ygn/\c6=ygc)/\b5=y.good:=by simpa using hvs
 refine⟨fun hlt=>hr.recd hN.ext (by omega) hlt fun r ra rn rc hm hq=>fun b8=> ?_,fun hge=> ?_⟩
 ·rw[Int.toNat_natCast] at hm
  rw[drop_at hm,replayFrom] at hI
  refine(cNext hP hG (hq.ext' hN.ext)).agt fun a2 n2 c2 ga2 gn2 gc2 H2 e2 _ p2 g2=>⟨fun h=> ?_,fun h=> ?_⟩
  ·rw[if_neg h] at hI
   exact bad hI.symm
  ·have h0:nextErr y r=0:=Decidable.not_not.1 h
   rw[if_pos h0] at hI
   have hV:nextV y r=agtNext y r:=by rw[nextV,if_pos h0]
   rw[hV] at p2 g2⊢
   rintro q rfl
   rw[wrap_in (by omega) (by omega)]
   exact⟨rfl,⟨agtNext y r,a2,n2,c2,ga2,gn2,gc2,_,_,_,k+1,rfl,p2,g2,by omega,hI⟩,by simp[upTo];omega⟩
 ·rw[drop_all hrl (by omega),replayFrom] at hI
  rw[←hI]
  exact⟨_,_,_,_,_,_,rfl,hP,hG⟩
theorem cRefReplay{H:Heap}{a a':O}{l c l' c':Nat}{f:Rls}{rs:List Recd}(hp:Pins H a l f.lock)(hr:Recs H a' l' rs):
  Spec Tryz.prog 25 [.agg #[.int .i64 f.id,.slice a l c],.slice a' l' c'] H fun v H'=>∃a n c ga gn gc,v= .tuple #[agtArg (okA (agtReplay f rs)) a n c ga gn gc,i64 (errOf (agtReplay f rs))]/\Pins H' a n (okA (agtReplay f rs)).lock/\Pins H' ga gn (okA (agtReplay f rs)).goal.lock:=by
 refine TryzvcJ Tryz.func25 (by kernel_rfl) (by kernel_rfl) _ rfl (fun base K=>vc64 f.id a a' l c l' c' base H K) fun base hb=> ?_
 have hrl:=hr.len
 have bad:∀ {e:Int} {H':Heap},agtReplay f rs= .error e->∃a n c ga gn gc,Value.tuple #[.agg #[.slice none 0 0,.int .i64 0,.int .i64 0,.bool false,.int .i64 0,.slice none 0 0,.bool false],.int .i64 e]= .tuple #[agtArg (okA (agtReplay f rs)) a n c ga gn gc,i64 (errOf (agtReplay f rs))]/\Pins H' a n (okA (agtReplay f rs)).lock/\Pins H' ga gn (okA (agtReplay f rs)).goal.lock:=fun he=>by
  rw[he];exact⟨none,0,0,none,0,0,rfl,Sl.nil,Sl.nil⟩
 intro b b'
 refine(cRefRelease hp f.id).int1 fun H1 e1 _=>⟨fun h=>bad (by rw[agtReplay,if_pos h]),fun h=>⟨fun h200=>bad (by rw[agtReplay,if_neg h,if_pos (by omega)]),fun h200=>fun b3=> ?_⟩⟩
 have hW:agtReplay f rs=replayFrom (newAgt f) rs:=by rw[agtReplay,if_neg h,if_neg (by omega)]
 rw[hW] at bad⊢
 refine⟨fun vs Hc=>∃(y:Agt)(a:O)(n c:Nat)(ga:O)(gn gc:Nat)(d:Int)(w:Value)(k:Nat),vs=[i64 d,i64 k,w,agtArg y a n c ga gn gc]/\Pins Hc a n y.lock/\Pins Hc ga gn y.goal.lock/\k<=l'/\replayFrom y (rs.drop k)=replayFrom (newAgt f) rs,upTo l' 1,
  ⟨newAgt f,a,l,c,none,0,0,0,_,0,rfl,hp.ext' e1,Sl.nil,by omega,rfl⟩,fun d m a6 n8 c3 n9 n10 b0 n11 a7 n12 c4 b3 a8 n13 c5 n14 n15 b4 n16 a9 n17 c6 b5 H' hN hI=> ?_⟩
 obtain⟨y,ya,yn,yc,yga,ygn,ygc,d',w,k,hvs,hP,hG,hk,hI⟩:=hI
 obtain⟨rfl,rfl,rfl,⟨rfl,rfl,rfl⟩,rfl,rfl,rfl,rfl,⟨rfl,rfl,rfl⟩,rfl⟩:d=d'/\m=(k:Int)/\Value.agg #[.slice a6 n8 c3,.int .i64 n9,.int .i64 n10,.bool b0,.int .i64 n11,.slice a7 n12 c4,.bool b3]=w/\(a8=ya/\n13=yn/\c5=yc)/\n14=y.at_/\n15=y.try_/\b4=y.going/\n16=y.goal.id/\(a9=yga/\n17=ygn/\c6=ygc)/\b5=y.good:=by simpa using hvs
 refine⟨fun hlt=>hr.recd hN.ext (by omega) hlt fun r ra rn rc hm hq=>fun b8=> ?_,fun hge=> ?_⟩
 ·rw[Int.toNat_natCast] at hm
  rw[drop_at hm,replayFrom] at hI
  refine(cRefNext hP hG (hq.ext' hN.ext)).agt fun a2 n2 c2 ga2 gn2 gc2 H2 e2 _ p2 g2=>fun b9=>⟨fun h=> ?_,fun h=> ?_⟩
  ·rw[if_neg h] at hI
   exact bad hI.symm
  ·have h0:nextErr y r=0:=Decidable.not_not.1 h
   rw[if_pos h0] at hI
   have hV:nextV y r=agtNext y r:=by rw[nextV,if_pos h0]
   rw[hV] at p2 g2⊢
   rintro q rfl
   rw[wrap_in (by omega) (by omega)]
   exact⟨rfl,⟨agtNext y r,a2,n2,c2,ga2,gn2,gc2,_,_,k+1,rfl,p2,g2,by omega,hI⟩,by simp[upTo];omega⟩
 ·rw[drop_all hrl (by omega),replayFrom] at hI
  rw[←hI]
  exact⟨_,_,_,_,_,_,rfl,hP,hG⟩
def f1:Rls:=⟨1,[⟨1,1⟩]⟩
def f2:Rls:=⟨2,[⟨2,1⟩]⟩
def g5:Agt:=⟨[],1,3,true,f2,false⟩
def g7:Agt:=⟨[⟨2,1⟩],2,3,false,⟨0,[]⟩,true⟩
open Go Go.Proofs
open Go.Value renaming int → I, slice → S, bool → B, agg → A, tuple → T, pointer → P, string → Str
open Go.IntKind renaming i64 → Z, wrap → W
open Go.Addr renaming mk → D
open Go.Vg.Bx renaming mk → J
open Go.Vg renaming Next → X, Spec → Y, SpecO → YO
open Go.Vg.Heap renaming cell → C
open Int renaming toNat → N
theorem vd44(s:ByteArray)(base:Nat)(H:Heap)(K:KT):
 (fV TryzMuts Tryz.f251 base H [.v (.string s)] [] K)=(
 Y Tryz.prog 226 [Str s] H fun a b=>∃c,a=T #[I Z c,Value.nilIface]/\(X base H b->∃d,RunsTo Tryz.prog (binRun BinOp.eql 263 (Operand.tmp 12) (Operand.const Value.nilIface) Value.nilIface Value.nilIface) (B d)/\(d=true->Y Tryz.prog 223 [I Z c] b fun e g=>∃h,e=Str h/\(X base b g->∃i,RunsTo Tryz.prog (binRun BinOp.eql 9 (Operand.tmp 16) (Operand.tmp 17) (Str h) (Str s)) (B i)/\K (T #[I Z c,B (decide (i=true))]) [] g))/\(¬d=true->K (T #[I Z c,B false]) [] b))∨∃(d:TypeId)(e:Value),a=T #[I Z c,Value.iface d e]/\(X base H b->∃g,RunsTo Tryz.prog (binRun BinOp.eql 263 (Operand.tmp 12) (Operand.const Value.nilIface) (Value.iface d e) Value.nilIface) (B g)/\(g=true->Y Tryz.prog 223 [I Z c] b fun h i=>∃j,h=Str j/\(X base b i->∃k,RunsTo Tryz.prog (binRun BinOp.eql 9 (Operand.tmp 16) (Operand.tmp 17) (Str j) (Str s)) (B k)/\K (T #[I Z c,B (decide (k=true))]) [] i))/\(¬g=true->K (T #[I Z c,B false]) [] b))):=by kernel_rfl
theorem vd49(s:ByteArray)(base:Nat)(H:Heap)(K:KT):
 (fV TryzMuts Tryz.f210 base H [.v (.string s)] [] K)=(
 Y Tryz.prog 241 [Str s,I Z 10,I Z 64] H fun a b=>∃c,a=T #[I Z c,Value.nilIface]/\(X base H b->∃d,RunsTo Tryz.prog (binRun BinOp.eql 263 (Operand.tmp 12) (Operand.const Value.nilIface) Value.nilIface Value.nilIface) (B d)/\(d=true->Y Tryz.prog 242 [I Z c,I Z 10] b fun e g=>∃h,e=Str h/\(X base b g->∃i,RunsTo Tryz.prog (binRun BinOp.eql 9 (Operand.tmp 16) (Operand.tmp 17) (Str h) (Str s)) (B i)/\K (T #[I Z c,B (decide (i=true))]) [] g))/\(¬d=true->K (T #[I Z c,B false]) [] b))∨∃(d:TypeId)(e:Value),a=T #[I Z c,Value.iface d e]/\(X base H b->∃g,RunsTo Tryz.prog (binRun BinOp.eql 263 (Operand.tmp 12) (Operand.const Value.nilIface) (Value.iface d e) Value.nilIface) (B g)/\(g=true->Y Tryz.prog 242 [I Z c,I Z 10] b fun h i=>∃j,h=Str j/\(X base b i->∃k,RunsTo Tryz.prog (binRun BinOp.eql 9 (Operand.tmp 16) (Operand.tmp 17) (Str j) (Str s)) (B k)/\K (T #[I Z c,B (decide (k=true))]) [] i))/\(¬g=true->K (T #[I Z c,B false]) [] b))):=by kernel_rfl
theorem vd8(a:O)(l c:Nat)(base:Nat)(H:Heap)(K:KT):
 (fV TryzMutsJ Tryz.f284 base H [.v (S a l c)] [] K)=(
 Y Tryz.prog 140 [S a l c] H fun b d=>∃e,b=I Z e/\(X base H d->(¬e=0->K (T #[Str (ByteArray.mk #[]),I Z e]) [] d)/\(¬¬e=0->∃(g:LI)(h:LM),g [S none 0 0,I Z 0] d/\∀(i:O)(j k:Nat)(m:Int)(n:Heap),X base H n->g [S i j k,I Z m] n->(m<(l:Int)->∃o p,a=some (D o p none)/\0<=m/\m<(l:Int)/\∃q r:Int,(C n o (p+N m*2)=some (I Z q)/\C n o (p+N m*2+1)=some (I Z r)/\True)/\∀s:Nat,Y Tryz.prog 223 [I Z q] n fun t u=>∃v,t=Str v/\(X base n u->∃w,RunsTo Tryz.prog (binRun BinOp.add 9 (Operand.tmp 22) (Operand.const (Str (ByteArray.mk #[64]))) (Str v) (Str (ByteArray.mk #[64]))) (Str w)/\Y Tryz.prog 223 [I Z r] u fun x y=>∃z,x=Str z/\(X base u y->∃a1,RunsTo Tryz.prog (binRun BinOp.add 9 (Operand.tmp 23) (Operand.tmp 26) (Str w) (Str z)) (Str a1)/\∀(b1:Nat)(c1:Heap),X base y c1->y b1=none->c1 b1=some (boxKB 9 [Str a1])->∃d1 e1:List Value,Row base c1 9 1 i j k d1/\List.length e1=1*1/\allOne e1=true/\(1=0∨∃f1 g1,some (D b1 0 none)=some (D f1 g1 none)/\cellsAt c1 f1 g1 0 e1)/\(j+1)*16<=140737488355328/\j+1<=9223372036854775807/\∀(f1:O)(g1:Nat)(h1:Heap),Grew base c1 h1 i k f1 g1 (j+1)->Row base h1 9 1 f1 (j+1) g1 (d1++e1)->∀i1:Int,i1=W Z (m+1)->g [S f1 (j+1) g1,I Z i1] h1/\h [S f1 (j+1) g1,I Z i1]<h [S i j k,I Z m])))/\(¬m<(l:Int)->Y Tryz.prog 299 [S i j k,Str (ByteArray.mk #[44])] n fun o p=>∃q,o=Str q/\(X base n p->K (T #[Str q,I Z 0]) [] p))))):=by kernel_rfl
theorem vd11(s:ByteArray)(base:Nat)(H:Heap)(K:KT):
 (fV TryzMutsJ Tryz.f228 base H [.v (.string s)] [] K)=(
 (60000<(↑(ByteArray.size s):Int)->K (T #[S none 0 0,I Z 2]) [] H)/\(¬60000<(↑(ByteArray.size s):Int)->∃a,RunsTo Tryz.prog (binRun BinOp.eql 9 (Operand.tmp 18) (Operand.const (Str (ByteArray.mk #[]))) (Str s) (Str (ByteArray.mk #[]))) (B a)/\(a=true->K (T #[S none 0 0,I Z 0]) [] H)/\(¬a=true->Y Tryz.prog 208 [Str s,Str (ByteArray.mk #[44])] H fun b c=>∃d e g,b=S d e g/\(X base H c->∃(h:LI)(i:LM),h [S none 0 0,I Z 0,S none 0 0,I Z 0] c/\∀(j:O)(k l:Nat)(m:Int)(n:O)(o p:Nat)(q:Int)(r:Heap),X base H r->h [S j k l,I Z m,S n o p,I Z q] r->(q<(e:Int)->∃t u,d=some (D t u none)/\0<=q/\q<(e:Int)/\∃v,C r t (u+N q*1)=some (Str v)/\Y Tryz.prog 195 [Str v,Str (ByteArray.mk #[64])] r fun w x=>∃y z a1,w=T #[Str y,Str z,B a1]/\(X base r x->Y Tryz.prog 251 [Str y] x fun b1 c1=>∃d1 e1,b1=T #[I Z d1,B e1]/\(X base x c1->Y Tryz.prog 251 [Str z] c1 fun f1 g1=>∃h1 i1,f1=T #[I Z h1,B i1]/\(X base c1 g1->∃j1:Prop,((a1=false->SubH g1 g1/\j1)/\(¬a1=false->(e1=false->SubH g1 g1/\j1)/\(¬e1=false->SubH g1 g1/\(j1↔i1=false))))/\(j1->K (T #[S none 0 0,I Z 1]) [] g1)/\(¬j1->∀k1:Nat,∃l1:List Value,Row base g1 91 2 n o p l1/\(o+1)*16<=140737488355328/\o+1<=9223372036854775807/\∀(m1:O)(n1:Nat)(o1:Heap),Grew base g1 o1 n p m1 n1 (o+1)->Row base o1 91 2 m1 (o+1) n1 (l1++[I Z d1,I Z h1])->∀p1:Int,p1=W Z (q+1)->h [S j k l,I Z m,S m1 (o+1) n1,I Z p1] o1/\i [S j k l,I Z m,S m1 (o+1) n1,I Z p1]<i [S j k l,I Z m,S n o p,I Z q])))))/\(¬q<(e:Int)->Y Tryz.prog 140 [S n o p] r fun t u=>∃v,t=I Z v/\(X base r u->(¬v=0->K (T #[S none 0 0,I Z v]) [] u)/\(¬¬v=0->K (T #[S n o p,I Z 0]) [] u))))))):=by kernel_rfl
theorem vd17(s:ByteArray)(base:Nat)(H:Heap)(K:KT):
 (fV TryzMutsJ Tryz.f211 base H [.v (.string s)] [] K)=(
 ∃a,RunsTo Tryz.prog (binRun BinOp.neq 9 (Operand.tmp 13) (Operand.const (Str (ByteArray.mk #[]))) (Str s) (Str (ByteArray.mk #[]))) (B a)/\(a=true->Y Tryz.prog 208 [Str s,Str (ByteArray.mk #[44])] H fun b c=>∃d e g,b=S d e g/\(X base H c->∃(h:LI)(i:LM),h [S none 0 0,I Z 0,S none 0 0,I Z 0] c/\∀(j:O)(k l:Nat)(m:Int)(n:O)(o p:Nat)(q:Int)(r:Heap),X base H r->h [S j k l,I Z m,S n o p,I Z q] r->(q<(e:Int)->∃t u,d=some (D t u none)/\0<=q/\q<(e:Int)/\∃v,C r t (u+N q*1)=some (Str v)/\Y Tryz.prog 239 [Str v,Str (ByteArray.mk #[64])] r fun w x=>∃y,w=I Z y/\(X base r x->(y<0->K (T #[S none 0 0,I Z 1]) [] x)/\(¬y<0->0<=y/\y<=(↑(ByteArray.size v):Int)/\Y Tryz.prog 210 [Str (ByteArray.extract v 0 (N y))] x fun z a1=>∃b1 c1,z=T #[I Z b1,B c1]/\(X base x a1->∀d1:Int,d1=W Z (y+1)->0<=d1/\d1<=(↑(ByteArray.size v):Int)/\Y Tryz.prog 210 [Str (ByteArray.extract v (N d1) (ByteArray.size v))] a1 fun e1 f1=>∃g1 h1,e1=T #[I Z g1,B h1]/\(X base a1 f1->∃i1:Prop,((c1=false->SubH f1 f1/\i1)/\(¬c1=false->SubH f1 f1/\(i1↔h1=false)))/\(i1->K (T #[S none 0 0,I Z 1]) [] f1)/\(¬i1->∀j1:Nat,∃k1:List Value,Row base f1 91 2 n o p k1/\(o+1)*16<=140737488355328/\o+1<=9223372036854775807/\∀(l1:O)(m1:Nat)(n1:Heap),Grew base f1 n1 n p l1 m1 (o+1)->Row base n1 91 2 l1 (o+1) m1 (k1++[I Z b1,I Z g1])->∀o1:Int,o1=W Z (q+1)->h [S j k l,I Z m,S l1 (o+1) m1,I Z o1] n1/\i [S j k l,I Z m,S l1 (o+1) m1,I Z o1]<i [S j k l,I Z m,S n o p,I Z q]))))))/\(¬q<(e:Int)->Y Tryz.prog 159 [S n o p] r fun t u=>∃v,t=I Z v/\(X base r u->(¬v=0->K (T #[S none 0 0,I Z v]) [] u)/\(¬¬v=0->K (T #[S n o p,I Z 0]) [] u)))))/\(¬a=true->Y Tryz.prog 159 [S none 0 0] H fun b c=>∃d,b=I Z d/\(X base H c->(¬d=0->K (T #[S none 0 0,I Z d]) [] c)/\(¬¬d=0->K (T #[S none 0 0,I Z 0]) [] c)))):=by kernel_rfl
open Go Go.Proofs
theorem vd18(kd ag tr n id:Int)(gd:Bool)(a:O)(l c:Nat)(base:Nat)(H:Heap)(K:KT):
 (fV TryzMutsJ Tryz.f265 base H [.v (A #[I Z kd,I Z ag,I Z tr,I Z n,B gd,I Z id,S a l c])] [] K)=(
 (fun w1:LL=>∀b:Nat,Y Tryz.prog 198 [A #[I Z kd,I Z ag,I Z tr,I Z n,B gd,I Z id,S a l c]] H fun d e=>∃g,d=I Z g/\(X base H e->(¬g=0->K (T #[Str (ByteArray.mk #[]),I Z g]) [] e)/\(¬¬g=0->(gd=true->∀h:Nat,∃(i:LI)(j:LM),i [I Z 0,A #[P none,S none 0 0]] e/\∀(k:Int)(m:Value)(o:O)(p q:Nat)(r:Heap),X base H r->i [I Z k,A #[m,S o p q]] r->(k<6->0<=k/\k<6/\∃s,List.get?Internal [I Z kd,I Z ag,I Z tr,I Z n,I Z 1,I Z id] (N k*1)=some (I Z s)/\Y Tryz.prog 223 [I Z s] r fun t u=>∃v,t=Str v/\(X base r u->∃w,RunsTo Tryz.prog (binRun BinOp.add 9 (Operand.tmp 35) (Operand.const (Str (ByteArray.mk #[32]))) (Str v) (Str (ByteArray.mk #[32]))) (Str w)/\YO Tryz.prog 298 [P (some (D h 0 none))] [J h false 311 [m,S o p q]] u fun x y z=>x=T #[]/\∃(a1:Value)(b1:O)(c1 d1:Nat),y=[[a1,S b1 c1 d1]]/\(X base u z->∃e1:List Value,Row base z 5 1 b1 c1 d1 e1/\c1+ByteArray.size w<=140737488355328/\∀(f1:O)(g1:Nat)(h1:Heap),Grew base z h1 b1 d1 f1 g1 (c1+ByteArray.size w)->Row base h1 5 1 f1 (c1+ByteArray.size w) g1 (e1++u8s (Array.toList (ByteArray.data w)))->∀i1:Int,i1=W Z (k+1)->w1=w1/\i [I Z i1,A #[a1,S f1 (c1+ByteArray.size w) g1]] h1/\j [I Z i1,A #[a1,S f1 (c1+ByteArray.size w) g1]]<j [I Z k,A #[m,S o p q]])))/\(¬k<6->Y Tryz.prog 284 [S a l c] r fun s t=>∃u v,s=T #[Str u,I Z v]/\(X base r t->311=311/\0<p/\∃w:List UInt8,Row base t 5 1 o p q (u8s w)/\∀x:Heap,(∀(y:Nat)(z:KB),t y=some z->o≠some (D y 0 none)->x y=some z)->(∀(y:Nat)(z:KB),x y=some z->t y=some z)->∃y,RunsTo Tryz.prog (binRun BinOp.add 9 (Operand.tmp 46) (Operand.const (Str (ByteArray.mk #[61]))) (Str (ByteArray.mk (List.toArray w))) (Str (ByteArray.mk #[61]))) (Str y)/\∃z,RunsTo Tryz.prog (binRun BinOp.add 9 (Operand.tmp 47) (Operand.tmp 48) (Str y) (Str u)) (Str z)/\K (T #[Str z,I Z v]) [] x)))/\(gd=false->∀h:Nat,∃(i:LI)(j:LM),i [I Z 0,A #[P none,S none 0 0]] e/\∀(k:Int)(m:Value)(o:O)(p q:Nat)(r:Heap),X base H r->i [I Z k,A #[m,S o p q]] r->(k<6->0<=k/\k<6/\∃s,List.get?Internal [I
 Z kd,I Z ag,I Z tr,I Z n,I Z 0,I Z id] (N k*1)=some (I Z s)/\Y Tryz.prog 223 [I Z s] r fun t u=>∃v,t=Str v/\(X base r u->∃w,RunsTo Tryz.prog (binRun BinOp.add 9 (Operand.tmp 35) (Operand.const (Str (ByteArray.mk #[32]))) (Str v) (Str (ByteArray.mk #[32]))) (Str w)/\YO Tryz.prog 298 [P (some (D h 0 none))] [J h false 311 [m,S o p q]] u fun x y z=>x=T #[]/\∃(a1:Value)(b1:O)(c1 d1:Nat),y=[[a1,S b1 c1 d1]]/\(X base u z->∃e1:List Value,Row base z 5 1 b1 c1 d1 e1/\c1+ByteArray.size w<=140737488355328/\∀(f1:O)(g1:Nat)(h1:Heap),Grew base z h1 b1 d1 f1 g1 (c1+ByteArray.size w)->Row base h1 5 1 f1 (c1+ByteArray.size w) g1 (e1++u8s (Array.toList (ByteArray.data w)))->∀i1:Int,i1=W Z (k+1)->w1=w1/\i [I Z i1,A #[a1,S f1 (c1+ByteArray.size w) g1]] h1/\j [I Z i1,A #[a1,S f1 (c1+ByteArray.size w) g1]]<j [I Z k,A #[m,S o p q]])))/\(¬k<6->Y Tryz.prog 284 [S a l c] r fun s t=>∃u v,s=T #[Str u,I Z v]/\(X base r t->311=311/\0<p/\∃w:List UInt8,Row base t 5 1 o p q (u8s w)/\∀x:Heap,(∀(y:Nat)(z:KB),t y=some z->o≠some (D y 0 none)->x y=some z)->(∀(y:Nat)(z:KB),x y=some z->t y=some z)->∃y,RunsTo Tryz.prog (binRun BinOp.add 9 (Operand.tmp 46) (Operand.const (Str (ByteArray.mk #[61]))) (Str (ByteArray.mk (List.toArray w))) (Str (ByteArray.mk #[61]))) (Str y)/\∃z,RunsTo Tryz.prog (binRun BinOp.add 9 (Operand.tmp 47) (Operand.tmp 48) (Str y) (Str u)) (Str z)/\K (T #[Str z,I Z v]) [] x)))))) [[I Z kd,I Z ag,I Z tr,I Z n,B gd,I Z id,S a l c]]):=by kernel_rfl
theorem vd58(e:Int)(base:Nat)(H:Heap)(K:KT):
 (fV TryzMutsJ Tryz.f207 base H [.v (I Z e)] [] K)=(
 ∀a:Nat,K (T #[A #[I Z 0,I Z 0,I Z 0,I Z 0,B false,I Z 0,S none 0 0],I Z e]) [] H):=by kernel_rfl
theorem vd21(s:ByteArray)(base:Nat)(H:Heap)(K:KT):
 (fV TryzMutsJ Tryz.f196 base H [.v (.string s)] [] K)=(
 (fun w6:AV=>∀a:Nat,(60000<(↑(ByteArray.size s):Int)->K (T #[A w6,I Z 2]) [] H)/\(¬60000<(↑(ByteArray.size s):Int)->Y Tryz.prog 208 [Str s,Str (ByteArray.mk #[32])] H fun b c=>∃d e g,b=S d e g/\(X base H c->(¬(e:Int)=7->K (T #[A w6,I Z 1]) [] c)/\(¬¬(e:Int)=7->∀h:Nat,List.length [I Z 0,I Z 0,I Z 0,I Z 0,I Z 0,I Z 0]=6/\∃(i:LI)(j:LM),i [I Z 0,I Z 0,A w6,A #[I Z 0,I Z 0,I Z 0,I Z 0,I Z 0,I Z 0]] c/\∀(k l m n o p:Int)(q:Bool)(r:Int)(t:O)(u v:Nat)(w:List Value),(fun w5:LV=>(fun w4:LB=>List.length w=6->∀x,X base H x->i w5 x->(l<6->∃y z,d=some (D y z none)/\0<=l/\l<(e:Int)/\∃a1,C x y (z+N l*1)=some (Str a1)/\Y Tryz.prog 226 [Str a1] x fun b1 c1=>∃d1,b1=T #[I Z d1,Value.nilIface]/\(X base x c1->∃e1,RunsTo Tryz.prog (binRun BinOp.neq 263 (Operand.tmp 36) (Operand.const Value.nilIface) Value.nilIface Value.nilIface) (B e1)/\(e1=true->K (T #[A w6,I Z 1]) [] c1)/\(¬e1=true->∃f1 g1,d=some (D f1 g1 none)/\0<=l/\l<(e:Int)/\∃h1,C c1 f1 (g1+N l*1)=some (Str h1)/\Y Tryz.prog 223 [I Z d1] c1 fun i1 j1=>∃k1,i1=Str k1/\(X base c1 j1->∃l1,RunsTo Tryz.prog (binRun BinOp.neq 9 (Operand.tmp 40) (Operand.tmp 44) (Str k1) (Str h1)) (B l1)/\(l1=true->K (T #[A w6,I Z 1]) [] j1)/\(¬l1=true->0<=l/\l<6/\0+N l*1+1<=List.length w/\∀m1:Int,(fun w1:LV=>m1=W Z (l+1)->List.length (List.set w (0+N l*1) (I Z d1))=6/\i w1 j1/\j w1<j w5) [I Z k,I Z m1,A #[I Z m,I Z n,I Z o,I Z p,B q,I Z r,S t u v],A (List.toArray (List.set w (0+N l*1) (I Z d1)))]))))∨∃(e1:TypeId)(f1:Value),b1=T #[I Z d1,Value.iface e1 f1]/\(X base x c1->∃g1,RunsTo Tryz.prog (binRun BinOp.neq 263 (Operand.tmp 36) (Operand.const Value.nilIface) (Value.iface e1 f1) Value.nilIface) (B g1)/\(g1=true->K (T #[A w6,I Z 1]) [] c1)/\(¬g1=true->∃h1 i1,d=some (D h1 i1 none)/\0<=l/\l<(e:Int)/\∃j1,C c1 h1 (i1+N l*1)=some (Str j1)/\Y Tryz.prog 223 [I Z d1] c1 fun k1 l1=>∃m1,k1=Str m1/\(X base c1 l1->∃n1,RunsTo Tryz.prog (binRun BinOp.neq 9 (Operand.tmp 40) (Operand.tmp 44) (Str m1)
 (Str j1)) (B n1)/\(n1=true->K (T #[A w6,I Z 1]) [] l1)/\(¬n1=true->0<=l/\l<6/\0+N l*1+1<=List.length w/\∀o1:Int,(fun w2:LV=>o1=W Z (l+1)->List.length (List.set w (0+N l*1) (I Z d1))=6/\i w2 l1/\j w2<j w5) [I Z k,I Z o1,A #[I Z m,I Z n,I Z o,I Z p,B q,I Z r,S t u v],A (List.toArray (List.set w (0+N l*1) (I Z d1)))])))))/\(¬l<6->∃y z,d=some (D y z none)/\Int.ofNat 0<=6/\6<(e:Int)/\∃a1,C x y (z+6*1)=some (Str a1)/\Y Tryz.prog 227 [Str a1,Str (ByteArray.mk #[61])] x fun b1 c1=>∃d1 e1,b1=T #[Str d1,B e1]/\(X base x c1->∃f1:Prop,((e1=false->w4=w4/\SubH c1 c1/\f1)/\(¬e1=false->∃g1,List.get?Internal w (0+4*1)=some (I Z g1)/\(g1<0->w4=w4/\SubH c1 c1/\f1)/\(¬g1<0->∃h1,List.get?Internal w (0+4*1)=some (I Z h1)/\w4=w4/\SubH c1 c1/\(f1↔1<h1))))/\(f1->K (T #[A w6,I Z 1]) [] c1)/\(¬f1->Y Tryz.prog 228 [Str d1] c1 fun g1 h1=>∃i1 j1 k1 l1,g1=T #[S i1 j1 k1,I Z l1]/\(X base c1 h1->(¬l1=0->K (T #[A w6,I Z l1]) [] h1)/\(¬¬l1=0->∃m1,List.get?Internal w (0+0*1)=some (I Z m1)/\∃n1,List.get?Internal w (0+1*1)=some (I Z n1)/\∃o1,List.get?Internal w (0+2*1)=some (I Z o1)/\∃p1,List.get?Internal w (0+3*1)=some (I Z p1)/\∃q1,List.get?Internal w (0+4*1)=some (I Z q1)/\∃r1,(fun w3:AV=>List.get?Internal w (0+5*1)=some (I Z r1)/\∀s1:Nat,Y Tryz.prog 198 [A w3] h1 fun t1 u1=>∃v1,t1=I Z v1/\(X base h1 u1->(¬v1=0->K (T #[A w6,I Z v1]) [] u1)/\(¬¬v1=0->K (T #[A w3,I Z 0]) [] u1))) #[I Z m1,I Z n1,I Z o1,I Z p1,B (decide (q1=1)),I Z r1,S i1 j1 k1])))))) [J a false 126 [I Z m,I Z n,I Z o,I Z p,B q,I Z r,S t u v],J h false 261 w]) [I Z k,I Z l,A #[I Z m,I Z n,I Z o,I Z p,B q,I Z r,S t u v],A (List.toArray w)])))) #[I Z 0,I Z 0,I Z 0,I Z 0,B false,I Z 0,S none 0 0]):=by kernel_rfl
theorem vd29(s:ByteArray)(base:Nat)(H:Heap)(K:KT):
 (fV TryzMutsJ Tryz.f151 base H [.v (.string s)] [] K)=(
 ∀a:Nat,(fun w11:LB=>Y Tryz.prog 208 [Str s,Str (ByteArray.mk #[32])] H fun b c=>∃d e g,b=S d e g/\(X base H c->∃h:Prop,((¬(e:Int)=7->w11=w11/\SubH c c/\h)/\(¬¬(e:Int)=7->∃i j,d=some (D i j none)/\Int.ofNat 0<=6/\6<(e:Int)/\∃k,C c i (j+6*1)=some (Str k)/\Y Tryz.prog 209 [Str k,Str (ByteArray.mk #[61])] c fun l m=>∃n,l=B n/\(X base c m->w11=w11/\SubH c m/\(h↔n=false))))/\(h->Y Tryz.prog 207 [I Z 1] c fun i j=>∃(k l m n:Int)(o:Bool)(p:Int)(q:O)(r t:Nat)(u:Int),(fun w3:AV=>i=T w3/\(X base c j->K (T w3) [] j)) #[A #[I Z k,I Z l,I Z m,I Z n,B o,I Z p,S q r t],I Z u])/\(¬h->Int.ofNat 0<=6/\6<=(g:Int)/\∃(i:LI)(j:LM),i [I Z 0,S none 0 0,I Z 0,A #[I Z 0,I Z 0,I Z 0,I Z 0,B false,I Z 0,S none 0 0]] c/\∀(k:Int)(l:O)(m n:Nat)(o p q r t:Int)(u:Bool)(v:Int)(w:O)(x y:Nat)(z:Heap),(fun w10:AV=>X base H z->i [I Z k,S l m n,I Z o,A w10] z->(o<6->∃a1 b1,d=some (D a1 b1 none)/\0<=o/\o<6/\∃c1,C z a1 (b1+N o*1)=some (Str c1)/\Y Tryz.prog 210 [Str c1] z fun d1 e1=>∃f1 g1,d1=T #[I Z f1,B g1]/\(X base z e1->(g1=false->Y Tryz.prog 207 [I Z 1] e1 fun h1 i1=>∃(j1 k1 l1 m1:Int)(n1:Bool)(o1:Int)(p1:O)(q1 r1:Nat)(s1:Int),(fun w4:AV=>h1=T w4/\(X base e1 i1->K (T w4) [] i1)) #[A #[I Z j1,I Z k1,I Z l1,I Z m1,B n1,I Z o1,S p1 q1 r1],I Z s1])/\(¬g1=false->∀h1:Nat,∃i1:List Value,Row base e1 3 1 l m n i1/\(m+1)*8<=140737488355328/\m+1<=9223372036854775807/\∀(j1:O)(k1:Nat)(l1:Heap),Grew base e1 l1 l n j1 k1 (m+1)->Row base l1 3 1 j1 (m+1) k1 (i1++[I Z f1])->∀m1:Int,(fun w5:LV=>m1=W Z (o+1)->i w5 l1/\j w5<j [I Z k,S l m n,I Z o,A w10]) [I Z k,S j1 (m+1) k1,I Z m1,A w10])))/\(¬o<6->∃a1 b1,l=some (D a1 b1 none)/\Int.ofNat 0<=4/\4<(m:Int)/\∃c1,C z a1 (b1+4*1)=some (I Z c1)/\Y Tryz.prog 92 [I Z c1,I Z 0,I Z 1] z fun d1 e1=>∃f1,d1=B f1/\(X base z e1->(f1=false->Y Tryz.prog 207 [I Z 1] e1 fun g1 h1=>∃(i1 j1 k1 l1:Int)(m1:Bool)(n1:Int)(o1:O)(p1 q1:Nat)(r1:Int),(fun w6:AV=>g1=T w6/\(X base e1 h1->K (T w6) [] h1)) #[A #[I Z i1,I Z
 j1,I Z k1,I Z l1,B m1,I Z n1,S o1 p1 q1],I Z r1])/\(¬f1=false->∃g1 h1,d=some (D g1 h1 none)/\Int.ofNat 0<=6/\6<(e:Int)/\∃i1,C e1 g1 (h1+6*1)=some (Str i1)/\Int.ofNat 0<=1/\1<=(↑(ByteArray.size i1):Int)/\Y Tryz.prog 211 [Str (ByteArray.extract i1 1 (ByteArray.size i1))] e1 fun j1 k1=>∃l1 m1 n1 o1,j1=T #[S l1 m1 n1,I Z o1]/\(X base e1 k1->(¬o1=0->Y Tryz.prog 207 [I Z o1] k1 fun p1 q1=>∃(r1 s1 t1 u1:Int)(v1:Bool)(w1:Int)(x1:O)(y1 z1:Nat)(a2:Int),(fun w7:AV=>p1=T w7/\(X base k1 q1->K (T w7) [] q1)) #[A #[I Z r1,I Z s1,I Z t1,I Z u1,B v1,I Z w1,S x1 y1 z1],I Z a2])/\(¬¬o1=0->∃p1 q1,l=some (D p1 q1 none)/\Int.ofNat 0<=0/\0<(m:Int)/\∃r1,C k1 p1 (q1+0*1)=some (I Z r1)/\∃s1 t1,l=some (D s1 t1 none)/\Int.ofNat 0<=1/\1<(m:Int)/\∃u1,C k1 s1 (t1+1*1)=some (I Z u1)/\∃v1 w1,l=some (D v1 w1 none)/\Int.ofNat 0<=2/\2<(m:Int)/\∃x1,C k1 v1 (w1+2*1)=some (I Z x1)/\∃y1 z1,l=some (D y1 z1 none)/\Int.ofNat 0<=3/\3<(m:Int)/\∃a2,C k1 y1 (z1+3*1)=some (I Z a2)/\∃b2 c2,l=some (D b2 c2 none)/\Int.ofNat 0<=4/\4<(m:Int)/\∃d2,C k1 b2 (c2+4*1)=some (I Z d2)/\∃e2 f2,l=some (D e2 f2 none)/\Int.ofNat 0<=5/\5<(m:Int)/\∃g2,(fun w9:AV=>C k1 e2 (f2+5*1)=some (I Z g2)/\∀h2:Nat,Y Tryz.prog 156 [A w9] k1 fun i2 j2=>∃k2,i2=I Z k2/\(X base k1 j2->(¬k2=0->Y Tryz.prog 207 [I Z k2] j2 fun l2 m2=>∃(n2 o2 p2 q2:Int)(r2:Bool)(s2:Int)(t2:O)(u2 v2:Nat)(w2:Int),(fun w8:AV=>l2=T w8/\(X base j2 m2->K (T w8) [] m2)) #[A #[I Z n2,I Z o2,I Z p2,I Z q2,B r2,I Z s2,S t2 u2 v2],I Z w2])/\(¬¬k2=0->K (T #[A w9,I Z 0]) [] j2))) #[I Z r1,I Z u1,I Z x1,I Z a2,B (decide (d2=1)),I Z g2,S l1 m1 n1])))))) #[I Z p,I Z q,I Z r,I Z t,B u,I Z v,S w x y]))) [J a false 126 [I Z 0,I Z 0,I Z 0,I Z 0,B false,I Z 0,S none 0 0]]):=by kernel_rfl
open Go Go.Proofs
open Go Go.Proofs
theorem vd61(a:O)(l c:Nat)(base:Nat)(H:Heap)(K:KT):
 (fV TryzMutsJ Tryz.f169 base H [.v (S a l c)] [] K)=(
 ∃b,RunsTo Tryz.prog (binRun BinOp.eql 33 (Operand.tmp 3) (Operand.const (S none 0 0)) (S a l c) (S none 0 0)) (B b)/\(b=true->K (S none 0 0) [] H)/\(¬b=true->∀(d:Nat)(e:Heap),X base H e->H d=none->e d=some (boxKB 5 [])->∃g h:List Value,Row base e 5 1 (some (D d 0 none)) 0 0 g/\List.length h=l*1/\allOne h=true/\(l=0∨∃i j,a=some (D i j none)/\cellsAt e i j 0 h)/\(0+l)*1<=140737488355328/\0+l<=9223372036854775807/\∀(i:O)(j:Nat)(k:Heap),Grew base e k (some (D d 0 none)) 0 i j (0+l)->Row base k 5 1 i (0+l) j (g++h)->K (S i (0+l) j) [] k)):=by kernel_rfl
theorem vd62(a:O)(l c:Nat)(base:Nat)(H:Heap)(K:KT):
 (fV TryzMutsJ Tryz.f80 base H [.v (S a l c)] [] K)=(
 ∃(b:LI)(d:LM),b [I Z 0,I Z 0] H/\∀(e g:Int)(h:Heap),X base H h->b [I Z e,I Z g] h->(g<(l:Int)->∃i j,a=some (D i j none)/\0<=g/\g<(l:Int)/\∃k m n,C h i (j+N g*1)=some (S k m n)/\∀o:Int,o=W Z (e+(m:Int))->(o<0->False)/\(¬o<0->∀p:Int,p=W Z (g+1)->b [I Z o,I Z p] h/\d [I Z o,I Z p]<d [I Z e,I Z g]))/\(¬g<(l:Int)->Y Tryz.prog 152 [S none 0 0,I Z e] h fun i j=>∃k m n,i=S k m n/\(X base h j->∃(o:LI)(p:LM),o [S k m n,I Z 0] j/\∀(q:O)(r s:Nat)(t:Int)(u:Heap),X base H u->o [S q r s,I Z t] u->(t<(l:Int)->∃v w,a=some (D v w none)/\0<=t/\t<(l:Int)/\∃x y z,C u v (w+N t*1)=some (S x y z)/\∃a1 b1:List Value,Row base u 5 1 q r s a1/\List.length b1=y*1/\allOne b1=true/\(y=0∨∃c1 d1,x=some (D c1 d1 none)/\cellsAt u c1 d1 0 b1)/\(r+y)*1<=140737488355328/\r+y<=9223372036854775807/\∀(c1:O)(d1:Nat)(e1:Heap),Grew base u e1 q s c1 d1 (r+y)->Row base e1 5 1 c1 (r+y) d1 (a1++b1)->∀f1:Int,f1=W Z (t+1)->o [S c1 (r+y) d1,I Z f1] e1/\p [S c1 (r+y) d1,I Z f1]<p [S q r s,I Z t])/\(¬t<(l:Int)->K (S q r s) [] u)))):=by kernel_rfl
theorem vd63(s:ByteArray)(most:Int)(base:Nat)(H:Heap)(K:KT):
 (fV TryzMutsJ Tryz.f143 base H [.v (.string s),.v (I Z most)] [] K)=(
 ∃(a:LI)(b:LM),a [Str s,S none 0 0,I Z 0,I Z 0,S none 0 0] H/\∀(c:ByteArray)(d:O)(e g:Nat)(h i:Int)(j:O)(k l:Nat)(m:Heap),X base H m->a [Str c,S d e g,I Z h,I Z i,S j k l] m->∃n,RunsTo Tryz.prog (binRun BinOp.neq 9 (Operand.tmp 16) (Operand.const (Str (ByteArray.mk #[]))) (Str c) (Str (ByteArray.mk #[]))) (B n)/\(n=true->Y Tryz.prog 195 [Str c,Str (ByteArray.mk #[10])] m fun o p=>∃q r t,o=T #[Str q,Str r,B t]/\(X base m p->(t=false->∀u:Int,u=W Z ((↑(ByteArray.size s):Int)-(↑(ByteArray.size c):Int))->K (T #[S j k l,I Z u,I Z 9]) [] p)/\(¬t=false->Y Tryz.prog 196 [Str q] p fun u v=>∃w x y z a1 b1 c1 d1 e1 f1,u=T #[A #[I Z w,I Z x,I Z y,I Z z,B a1,I Z b1,S c1 d1 e1],I Z f1]/\(X base p v->∀g1:Nat,(¬f1=0->∀h1:Int,h1=W Z ((↑(ByteArray.size s):Int)-(↑(ByteArray.size c):Int))->K (T #[S j k l,I Z h1,I Z f1]) [] v)/\(¬¬f1=0->((k:Int)=most->∀h1:Int,h1=W Z ((↑(ByteArray.size s):Int)-(↑(ByteArray.size c):Int))->K (T #[S j k l,I Z h1,I Z 2]) [] v)/\(¬(k:Int)=most->∀h1:Nat,∃i1:List Value,Row base v 126 7 j k l i1/\(k+1)*72<=140737488355328/\k+1<=9223372036854775807/\∀(j1:O)(k1:Nat)(l1:Heap),Grew base v l1 j l j1 k1 (k+1)->Row base l1 126 7 j1 (k+1) k1 (i1++[I Z w,I Z x,I Z y,I Z z,B a1,I Z b1,S c1 d1 e1])->a [Str r,S d e g,I Z h,I Z i,S j1 (k+1) k1] l1/\b [Str r,S d e g,I Z h,I Z i,S j1 (k+1) k1]<b [Str c,S d e g,I Z h,I Z i,S j k l]))))))/\(¬n=true->K (T #[S j k l,I Z (↑(ByteArray.size s):Int),I Z 0]) [] m)):=by kernel_rfl
theorem vd60(a a':O)(l c l' c':Nat)(base:Nat)(H:Heap)(K:KT):
 (fV TryzMutsJ Tryz.f142 base H [.v (A #[S a l c,S a' l' c'])] [] K)=(
 ∀b:Nat,(fun w1:LB=>∃d:Prop,((60000<(l:Int)->w1=w1/\SubH H H/\d)/\(¬60000<(l:Int)->∀e:Int,e=W Z (60000-(l:Int))->w1=w1/\SubH H H/\(d↔e<(l':Int))))/\(d->K (I Z 2) [] H)/\(¬d->∃e:List UInt8,List.length e=l/\(l=0∨∃g h,a=some (D g h none)/\cellsAt H g h 0 (u8s e))/\Y Tryz.prog 143 [Str (ByteArray.mk (List.toArray e)),I Z 200] H fun g h=>∃i j k m n,g=T #[S i j k,I Z m,I Z n]/\(X base H h->K (I Z n) [] h))) [J b false 35 [S a l c,S a' l' c']]):=by kernel_rfl
theorem vd32(a a':O)(l c l' c':Nat)(kd ag tr n id:Int)(gd:Bool)(ra:O)(rl rc:Nat)(base:Nat)(H:Heap)(K:KT):
 (fV TryzMutsJ Tryz.f243 base H [.v (A #[S a l c,S a' l' c']),.v (A #[I Z kd,I Z ag,I Z tr,I Z n,B gd,I Z id,S ra rl rc])] [] K)=(
 ∀b d e:Nat,Y Tryz.prog 142 [A #[S a l c,S a' l' c']] H fun g h=>∃i,g=I Z i/\(X base H h->(¬i=0->K (T #[A #[S none 0 0,S none 0 0],I Z i]) [] h)/\(¬¬i=0->Y Tryz.prog 265 [A #[I Z kd,I Z ag,I Z tr,I Z n,B gd,I Z id,S ra rl rc]] h fun j k=>∃m o,j=T #[Str m,I Z o]/\(X base h k->(¬o=0->K (T #[A #[S none 0 0,S none 0 0],I Z o]) [] k)/\(¬¬o=0->∀p:Int,p=W Z ((↑(ByteArray.size m):Int)+1)->∀q:Int,q=W Z (60000-(l:Int))->∀r:Int,r=W Z (q-(l':Int))->(r<p->K (T #[A #[S none 0 0,S none 0 0],I Z 2]) [] k)/\(¬r<p->(Y Tryz.prog 169 [S a l c] k fun s t=>∃u v w,s=S u v w/\(X base k t->(Y Tryz.prog 169 [S a' l' c'] t fun x y=>∃z a1 b1,x=S z a1 b1/\(X base t y->(∃c1:List Value,Row base y 5 1 z a1 b1 c1/\a1+ByteArray.size m<=140737488355328/\∀(d1:O)(e1:Nat)(f1:Heap),Grew base y f1 z b1 d1 e1 (a1+ByteArray.size m)->Row base f1 5 1 d1 (a1+ByteArray.size m) e1 (c1++u8s (Array.toList (ByteArray.data m)))->∀(g1:Nat)(h1:Heap),X base f1 h1->f1 g1=none->h1 g1=some (boxKB 5 [I IntKind.u8 10])->∃i1 j1:List Value,Row base h1 5 1 d1 (a1+ByteArray.size m) e1 i1/\List.length j1=1*1/\allOne j1=true/\(1=0∨∃k1 l1,some (D g1 0 none)=some (D k1 l1 none)/\cellsAt h1 k1 l1 0 j1)/\(a1+ByteArray.size m+1)*1<=140737488355328/\a1+ByteArray.size m+1<=9223372036854775807/\∀(k1:O)(l1:Nat)(m1:Heap),Grew base h1 m1 d1 e1 k1 l1 (a1+ByteArray.size m+1)->Row base m1 5 1 k1 (a1+ByteArray.size m+1) l1 (i1++j1)->K (T #[A #[S u v w,S k1 (a1+ByteArray.size m+1) l1],I Z 0]) [] m1)/\∀(c1:Nat)(d1:Heap),X base y d1->y c1=none->d1 c1=some (boxKB 5 [I IntKind.u8 10])->∃e1:List Value,Row base d1 5 1 z a1 b1 e1/\a1+ByteArray.size m<=140737488355328/\∀(f1:O)(g1:Nat)(h1:Heap),Grew base d1 h1 z b1 f1 g1 (a1+ByteArray.size m)->Row base h1 5 1 f1 (a1+ByteArray.size m) g1 (e1++u8s (Array.toList (ByteArray.data m)))->∃i1 j1:List Value,Row base h1 5 1 f1 (a1+ByteArray.size m) g1 i1/\List.length j1=1*1/\allOne j1=true/\(1=0∨∃k1 l1,some (D c1 0 none)=some
 (D k1 l1 none)/\cellsAt h1 k1 l1 0 j1)/\(a1+ByteArray.size m+1)*1<=140737488355328/\a1+ByteArray.size m+1<=9223372036854775807/\∀(k1:O)(l1:Nat)(m1:Heap),Grew base h1 m1 f1 g1 k1 l1 (a1+ByteArray.size m+1)->Row base m1 5 1 k1 (a1+ByteArray.size m+1) l1 (i1++j1)->K (T #[A #[S u v w,S k1 (a1+ByteArray.size m+1) l1],I Z 0]) [] m1))/\∀(x:Nat)(y:Heap),X base t y->t x=none->y x=some (boxKB 5 [I IntKind.u8 10])->Y Tryz.prog 169 [S a' l' c'] y fun z a1=>∃b1 c1 d1,z=S b1 c1 d1/\(X base y a1->∃e1:List Value,Row base a1 5 1 b1 c1 d1 e1/\c1+ByteArray.size m<=140737488355328/\∀(f1:O)(g1:Nat)(h1:Heap),Grew base a1 h1 b1 d1 f1 g1 (c1+ByteArray.size m)->Row base h1 5 1 f1 (c1+ByteArray.size m) g1 (e1++u8s (Array.toList (ByteArray.data m)))->∃i1 j1:List Value,Row base h1 5 1 f1 (c1+ByteArray.size m) g1 i1/\List.length j1=1*1/\allOne j1=true/\(1=0∨∃k1 l1,some (D x 0 none)=some (D k1 l1 none)/\cellsAt h1 k1 l1 0 j1)/\(c1+ByteArray.size m+1)*1<=140737488355328/\c1+ByteArray.size m+1<=9223372036854775807/\∀(k1:O)(l1:Nat)(m1:Heap),Grew base h1 m1 f1 g1 k1 l1 (c1+ByteArray.size m+1)->Row base m1 5 1 k1 (c1+ByteArray.size m+1) l1 (i1++j1)->K (T #[A #[S u v w,S k1 (c1+ByteArray.size m+1) l1],I Z 0]) [] m1)))/\∀(s:Nat)(t:Heap),X base k t->k s=none->t s=some (boxKB 5 [I IntKind.u8 10])->Y Tryz.prog 169 [S a l c] t fun u v=>∃w x y,u=S w x y/\(X base t v->Y Tryz.prog 169 [S a' l' c'] v fun z a1=>∃b1 c1 d1,z=S b1 c1 d1/\(X base v a1->∃e1:List Value,Row base a1 5 1 b1 c1 d1 e1/\c1+ByteArray.size m<=140737488355328/\∀(f1:O)(g1:Nat)(h1:Heap),Grew base a1 h1 b1 d1 f1 g1 (c1+ByteArray.size m)->Row base h1 5 1 f1 (c1+ByteArray.size m) g1 (e1++u8s (Array.toList (ByteArray.data m)))->∃i1 j1:List Value,Row base h1 5 1 f1 (c1+ByteArray.size m) g1 i1/\List.length j1=1*1/\allOne j1=true/\(1=0∨∃k1 l1,some (D s 0 none)=some (D k1 l1 none)/\cellsAt h1 k1 l1 0 j1)/\(c1+ByteArray.size m+1)*1<=140737488355328/\c1+
 ByteArray.size m+1<=9223372036854775807/\∀(k1:O)(l1:Nat)(m1:Heap),Grew base h1 m1 f1 g1 k1 l1 (c1+ByteArray.size m+1)->Row base m1 5 1 k1 (c1+ByteArray.size m+1) l1 (i1++j1)->K (T #[A #[S w x y,S k1 (c1+ByteArray.size m+1) l1],I Z 0]) [] m1)))))))):=by kernel_rfl
theorem vd33(a a':O)(l c l' c':Nat)(base:Nat)(H:Heap)(K:KT):
 (fV TryzMutsJ Tryz.f244 base H [.v (A #[S a l c,S a' l' c'])] [] K)=(
 ∀b d:Nat,Y Tryz.prog 142 [A #[S a l c,S a' l' c']] H fun e g=>∃h,e=I Z h/\(X base H g->(¬h=0->K (T #[A #[S none 0 0,S none 0 0],I Z h]) [] g)/\(¬¬h=0->∀(i:Nat)(j:Heap),X base g j->g i=none->j i=some (boxKB 33 [S a l c,S a' l' c'])->Y Tryz.prog 80 [S (some (D i 0 none)) 2 2] j fun k m=>∃n o p,k=S n o p/\(X base j m->∀q:Nat,Y Tryz.prog 142 [A #[S n o p,S none 0 0]] m fun r s=>∃t,r=I Z t/\(X base m s->(¬t=0->K (T #[A #[S none 0 0,S none 0 0],I Z t]) [] s)/\(¬¬t=0->K (T #[A #[S n o p,S none 0 0],I Z 0]) [] s)))))):=by kernel_rfl
theorem vd36(a a':O)(l c l' c':Nat)(base:Nat)(H:Heap)(K:KT):
 (fV TryzMutsJ Tryz.f64 base H [.v (A #[S a l c,S a' l' c'])] [] K)=(
 ∀b d:Nat,Y Tryz.prog 142 [A #[S a l c,S a' l' c']] H fun e g=>∃h,e=I Z h/\(X base H g->(¬h=0->K (T #[A #[S none 0 0,S none 0 0],S none 0 0,I Z h]) [] g)/\(¬¬h=0->∃i:List UInt8,List.length i=l/\(l=0∨∃j k,a=some (D j k none)/\cellsAt g j k 0 (u8s i))/\Y Tryz.prog 143 [Str (ByteArray.mk (List.toArray i)),I Z 200] g fun j k=>∃m n o p q,j=T #[S m n o,I Z p,I Z q]/\(X base g k->∃r:List UInt8,List.length r=l'/\(l'=0∨∃s t,a'=some (D s t none)/\cellsAt k s t 0 (u8s r))/\∀s:Int,s=W Z (200-(n:Int))->Y Tryz.prog 143 [Str (ByteArray.mk (List.toArray r)),I Z s] k fun t u=>∃v w x y z,t=T #[S v w x,I Z y,I Z z]/\(X base k u->0<=y/\y<=(c':Int)/\∀(a1:Nat)(b1:Heap),X base u b1->u a1=none->b1 a1=some (boxKB 33 [S a l c,S a' (N y) c'])->Y Tryz.prog 80 [S (some (D a1 0 none)) 2 2] b1 fun c1 d1=>∃e1 f1 g1,c1=S e1 f1 g1/\(X base b1 d1->∃h1 i1:List Value,Row base d1 126 7 m n o h1/\List.length i1=w*7/\allOne i1=true/\(w=0∨∃j1 k1,v=some (D j1 k1 none)/\cellsAt d1 j1 k1 0 i1)/\(n+w)*72<=140737488355328/\n+w<=9223372036854775807/\∀(j1:O)(k1:Nat)(l1:Heap),Grew base d1 l1 m o j1 k1 (n+w)->Row base l1 126 7 j1 (n+w) k1 (h1++i1)->K (T #[A #[S e1 f1 g1,S none 0 0],S j1 (n+w) k1,I Z 0]) [] l1)))))):=by kernel_rfl
theorem vd38(a:O)(l c:Nat)(base:Nat)(H:Heap)(K:KT):
 (fV TryzMutsJ Tryz.f81 base H [.v (S a l c)] [] K)=(
 ∃(b:LI)(d:LM),b [I Z 0,I Z 0] H/\∀(e g:Int)(h:Heap),X base H h->b [I Z e,I Z g] h->(g<(l:Int)->∃i j,a=some (D i j none)/\0<=g/\g<(l:Int)/\∃k m n,C h i (j+N g*1)=some (S k m n)/\∀o:Int,o=W Z (e+(m:Int))->(o<0->False)/\(¬o<0->∀p:Int,p=W Z (g+1)->b [I Z o,I Z p] h/\d [I Z o,I Z p]<d [I Z e,I Z g]))/\(¬g<(l:Int)->Y Tryz.prog 153 [S none 0 0,I Z e] h fun i j=>∃k m n,i=S k m n/\(X base h j->∃(o:LI)(p:LM),o [S k m n,I Z 0] j/\∀(q:O)(r s:Nat)(t:Int)(u:Heap),X base H u->o [S q r s,I Z t] u->(t<(l:Int)->∃v w,a=some (D v w none)/\0<=t/\t<(l:Int)/\∃x y z,C u v (w+N t*1)=some (S x y z)/\∃a1 b1:List Value,Row base u 126 7 q r s a1/\List.length b1=y*7/\allOne b1=true/\(y=0∨∃c1 d1,x=some (D c1 d1 none)/\cellsAt u c1 d1 0 b1)/\(r+y)*72<=140737488355328/\r+y<=9223372036854775807/\∀(c1:O)(d1:Nat)(e1:Heap),Grew base u e1 q s c1 d1 (r+y)->Row base e1 126 7 c1 (r+y) d1 (a1++b1)->∀f1:Int,f1=W Z (t+1)->o [S c1 (r+y) d1,I Z f1] e1/\p [S c1 (r+y) d1,I Z f1]<p [S q r s,I Z t])/\(¬t<(l:Int)->K (S q r s) [] u)))):=by kernel_rfl
theorem vd79(a:O)(l c:Nat)(k:Int)(base:Nat)(H:Heap)(K:KT):
 (fV TryzMutsJ Tryz.f152 base H [.v (S a l c),.v (I Z k)] [] K)=(
 (k<0->False)/\(¬k<0->∀b:Int,b=W Z ((c:Int)-(l:Int))->∀d:Int,d=W Z (k-b)->(0<d->0<=(c:Int)/\(c:Int)<=(c:Int)/\∃(e:List Value)(g:Nat),d=(g:Int)/\0<g/\c<N (c:Int)+g/\Row base H 5 1 a (N (c:Int)) c e/\(N (c:Int)+g)*1<=140737488355328/\N (c:Int)+g<=9223372036854775807/\∀(h i:Nat)(j:Heap),X base H j->H h=none->Row base j 5 1 (some (D h 0 none)) (N (c:Int)+g) i (e++List.flatten (List.replicate g [I IntKind.u8 0]))->0<=(l:Int)/\(l:Int)<=(i:Int)/\K (S (some (D h 0 none)) (N (l:Int)) i) [] j)/\(¬0<d->K (S a l c) [] H))):=by kernel_rfl
theorem vd64(a:O)(l c:Nat)(k:Int)(base:Nat)(H:Heap)(K:KT):
 (fV TryzMutsJ Tryz.f153 base H [.v (S a l c),.v (I Z k)] [] K)=(
 (k<0->False)/\(¬k<0->∀b:Int,b=W Z ((c:Int)-(l:Int))->∀d:Int,d=W Z (k-b)->(0<d->0<=(c:Int)/\(c:Int)<=(c:Int)/\∃(e:List Value)(g:Nat),d=(g:Int)/\0<g/\c<N (c:Int)+g/\Row base H 126 7 a (N (c:Int)) c e/\(N (c:Int)+g)*72<=140737488355328/\N (c:Int)+g<=9223372036854775807/\∀(h i:Nat)(j:Heap),X base H j->H h=none->Row base j 126 7 (some (D h 0 none)) (N (c:Int)+g) i (e++List.flatten (List.replicate g [I Z 0,I Z 0,I Z 0,I Z 0,B false,I Z 0,S none 0 0]))->0<=(l:Int)/\(l:Int)<=(i:Int)/\K (S (some (D h 0 none)) (N (l:Int)) i) [] j)/\(¬0<d->K (S a l c) [] H))):=by kernel_rfl
open Go Go.Proofs
end Go.Vg
