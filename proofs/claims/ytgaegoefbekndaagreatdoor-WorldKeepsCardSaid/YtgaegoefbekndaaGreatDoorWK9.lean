/- What is proved here: a part of the proof of laws of this seat: what a contract is, how it comes of a condition, contracts of the functions that are reached, the plain laws. -/
import Derived.Test.YtgaegoefbekndaaGreatDoorWK8
set_option linter.unusedSimpArgs false
set_option linter.unusedVariables false
set_option maxRecDepth 100000
namespace Go.Vg
open Go Go.Proofs
theorem form_parts{c:Conf}{l:Ldr}(h:¬ldrForm c l):l.goal≠l.now/\¬(l.goal=0/\l.back=true)/\(l.ags.length:Int)=agentsOf c.waves/\l.rels[0]?=some c.first:=by
 refine⟨fun q=>h (.inl q),fun q=>h (.inr (.inl q)),?_,?_⟩
 ·by_cases q:(l.ags.length:Int)=agentsOf c.waves
  ·exact q
  ·exact absurd (.inr (.inr (.inl q))) h
 ·by_cases q:l.rels[0]?=some c.first
  ·exact q
  ·exact absurd (.inr (.inr (.inr q))) h
theorem form_of{c:Conf}{l:Ldr}(h1:l.goal≠l.now)(h2:¬(l.goal=0/\l.back=true))(h3:(l.ags.length:Int)=agentsOf c.waves)(h4:l.rels[0]?=some c.first):¬ldrForm c l:=by
 rintro(q|q|q|q)
 ·exact h1 q
 ·exact h2 q
 ·exact q h3
 ·exact q h4
theorem new_ok{c:Conf}(h:cfgErr c=0):ldrErr c (newLdr c)=0:=by
 obtain⟨z1,z2,z3,z4,z5,z6,z7⟩:=cfgErr_zero h
 have hag:=(agents_same z7).2
 refine ldrErr_zero.2 ⟨h,by simp[newLdr],by simp[newLdr],?_,?_,?_,?_⟩
 ·refine relsErr_zero.2 fun j r hj=> ?_
  cases j with
  |zero=>simp[newLdr] at hj;subst hj;exact⟨z5,z6,by rw[z2];rfl⟩
  |succ j=>simp[newLdr] at hj
 ·unfold ldrRange newLdr;simp
 ·refine form_of (by simp[newLdr]) (by simp[newLdr]) ?_ rfl
  simp[newLdr];omega
 ·refine knErr_zero.2 fun a ha=> ?_
  simp[newLdr] at ha
  obtain⟨_,rfl⟩:=ha
  exact⟨by unfold badKn newLdr;simp,by unfold oddKn newLdr;simp⟩
theorem led_zero{c:Conf}{l:Ldr}{r:Recd}(h:ledErr c l r=0):ldrErr c l=0/\recErr r=0/\ledKind c l r=0:=by
 unfold ledErr at h
 split at h
 ·omega
 ·split at h
  ·omega
  ·exact⟨by omega,by omega,h⟩
theorem led_cases{c:Conf}{l:Ldr}{r:Recd}(h:ledKind c l r=0):(r.kind=4/\l.rels.length≠6/\r.rel.id=l.rels.length+1/\brokenErr r.rel.lock c.rules=0/\broken r.rel.lock c.rules<0)∨
  (r.kind=5/\l.goal=0/\r.num<=l.rels.length/\r.num≠l.now)∨(r.kind=6/\r.agent<l.ags.length/\l.goal≠0/\r.try_=l.nx/\turnOf c l r.agent=true)∨
  (r.kind=7/\r.agent<l.ags.length/\∃a,l.ags[r.agent.toNat]?=some a/\a.st=1/\r.try_=a.try_)∨(r.kind=8/\l.goal≠0/\l.back=false)∨(r.kind=9/\l.goal≠0/\overOf c l=true):=by
 unfold ledKind at h
 by_cases k4:r.kind=4
 ·rw[if_pos k4] at h
  split at h
  ·omega
  ·split at h
   ·omega
   ·split at h
    ·omega
    ·split at h
     ·omega
     ·exact .inl ⟨k4,by assumption,by omega,by omega,by omega⟩
 ·rw[if_neg k4] at h
  by_cases k5:r.kind=5
  ·rw[if_pos k5] at h
   split at h
   ·omega
   ·split at h
    ·omega
    ·split at h
     ·omega
     ·exact .inr (.inl ⟨k5,by omega,by omega,by assumption⟩)
  ·rw[if_neg k5] at h
   by_cases k67:r.kind=6∨r.kind=7
   ·rw[if_pos k67] at h
    split at h
    ·omega
    ·by_cases k7:r.kind=7
     ·rw[if_pos k7] at h
      cases ha:l.ags[r.agent.toNat]? with
      |none=>rw[ha] at h;simp at h
      |some a=>
       rw[ha] at h
       simp only at h
       split at h
       ·omega
       ·exact .inr (.inr (.inr (.inl ⟨k7,by omega,a,rfl,by omega,by omega⟩)))
     ·rw[if_neg k7] at h
      split at h
      ·omega
      ·rename_i w
       refine .inr (.inr (.inl ⟨by omega,by omega,fun q=>w (.inl q),?_,?_⟩))
       ·by_cases q:r.try_=l.nx
        ·exact q
        ·exact absurd (.inr (.inl q)) w
       ·cases q:turnOf c l r.agent with
        |true=>rfl
        |false=>exact absurd (.inr (.inr q)) w
   ·rw[if_neg k67] at h
    by_cases k8:r.kind=8
    ·rw[if_pos k8] at h
     split at h
     ·omega
     ·rename_i w
      refine .inr (.inr (.inr (.inr (.inl ⟨k8,fun q=>w (.inl q),?_⟩))))
      cases q:l.back with
      |false=>rfl
      |true=>exact absurd (.inr q) w
    ·rw[if_neg k8] at h
     by_cases k9:r.kind=9
     ·rw[if_pos k9] at h
      split at h
      ·omega
      ·rename_i w
       refine .inr (.inr (.inr (.inr (.inr ⟨k9,fun q=>w (.inl q),?_⟩))))
       cases q:overOf c l with
       |true=>rfl
       |false=>exact absurd (.inr q) w
     ·rw[if_neg k9] at h;omega
theorem kn_mem_set{xs:List Kn}{k:Nat}{x a:Kn}(h:a∈xs.set k x):a=x∨a∈xs:=by
 rcases List.mem_or_eq_of_mem_set h with h|h
 ·exact .inr h
 ·exact .inl h
theorem led_ok{c:Conf}{l:Ldr}{r:Recd}(h:ledErr c l r=0):ldrErr c (ledNext l r)=0:=by
 obtain⟨h1,h2,h3⟩:=led_zero h
 obtain⟨g1,g2,g3,g4,g5,g6,g7⟩:=ldrErr_zero.1 h1
 obtain⟨z1,z2,z3,z4⟩:=rec_zero h2
 obtain⟨f1,f2,f3,f4⟩:=form_parts g6
 have hkn:=knErr_zero.1 g7
 have g5':=g5
 unfold ldrRange at g5'
 unfold recRange at z3
 rcases led_cases h3 with⟨k,w1,w2,w3,w4⟩|⟨k,w1,w2,w3⟩|⟨k,w1,w2,w3,w4⟩|⟨k,w1,a,w2,w3,w4⟩|⟨k,w1,w2⟩|⟨k,w1,w2⟩
 ·have e:ledNext l r= { l with rels:=l.rels++[r.rel] } :=by rw[ledNext,if_pos k]
  rw[e]
  refine ldrErr_zero.2 ⟨g1,by simp,by simp;omega,relsErr_zero.2 fun j x hj=> ?_,by unfold ldrRange;simp;omega,form_of f1 f2 f3 ?_,g7⟩
  ·rcases Nat.lt_or_ge j l.rels.length with hl|hl
   ·rw[List.getElem?_append_left hl] at hj
    exact relsErr_zero.1 g4 j x hj
   ·rw[List.getElem?_append_right hl] at hj
    cases hjl:j-l.rels.length with
    |zero=>rw[hjl] at hj;simp at hj;subst hj;exact⟨w3,w4,by rw[w2];omega⟩
    |succ m=>rw[hjl] at hj;simp at hj
  ·simp only;rw[List.getElem?_append_left (by omega)];exact f4
 ·have e:ledNext l r= { l with goal:=r.num } :=by rw[ledNext,if_neg (by omega),if_pos k]
  rw[e]
  refine ldrErr_zero.2 ⟨g1,g2,g3,g4,by unfold ldrRange;simp only;omega,form_of w3 (fun q=>by simp only at q;omega) f3 f4,knErr_zero.2 fun a ha=> ?_⟩
  obtain⟨x1,x2⟩:=hkn a ha
  refine⟨x1,?_⟩
  unfold oddKn at x2⊢
  simp only
  rintro(⟨y1,_⟩|y)
  ·exact x2 (.inl ⟨y1,.inl w1⟩)
  ·exact x2 (.inr y)
 ·have e:ledNext l r= { l with ags:=l.ags.set r.agent.toNat ⟨1,r.try_,l.back⟩,nx:=l.nx+1 } :=by rw[ledNext,if_neg (by omega),if_neg (by omega),if_pos k]
  rw[e]
  refine ldrErr_zero.2 ⟨g1,g2,g3,g4,by unfold ldrRange;simp only;omega,form_of f1 f2 (by simpa using f3) f4,knErr_zero.2 fun a ha=> ?_⟩
  rcases kn_mem_set ha with rfl|ha
  ·refine⟨by unfold badKn;simp only;omega,?_⟩
   unfold oddKn
   simp only
   rintro(⟨_,y|y⟩|⟨y1,y|y⟩)
   ·exact w2 y
   ·omega
   ·rw[y] at y1;cases y1
   ·omega
  ·obtain⟨x1,x2⟩:=hkn a ha
   exact⟨by unfold badKn at x1⊢;simp only;omega,x2⟩
 ·have e:ledNext l r= { l with ags:=l.ags.set r.agent.toNat (got r a) } :=by rw[ledNext,if_neg (by omega),if_neg (by omega),if_neg (by omega),if_pos k,w2]
  rw[e]
  refine ldrErr_zero.2 ⟨g1,g2,g3,g4,g5,form_of f1 f2 (by simpa using f3) f4,knErr_zero.2 fun b hb=> ?_⟩
  rcases kn_mem_set hb with rfl|hb
  ·obtain⟨x1,x2⟩:=hkn a (List.mem_of_getElem? w2)
   have hst:(got r a).st=2∨(got r a).st=3:=by unfold got;by_cases hg:r.good=true<;>simp[hg]
   have ht:(got r a).try_=a.try_:=rfl
   have hbk:(got r a).back=a.back:=rfl
   refine⟨by unfold badKn at x1⊢;rw[ht];simp only;omega,?_⟩
   unfold oddKn at x2⊢
   rw[ht,hbk]
   simp only
   rintro(⟨_,y⟩|⟨y1,y|y⟩)
   ·exact x2 (.inl ⟨by omega,y⟩)
   ·exact x2 (.inr ⟨y1,.inl y⟩)
   ·omega
  ·exact hkn b hb
 ·have e:ledNext l r= { l with back:=true } :=by rw[ledNext,if_neg (by omega),if_neg (by omega),if_neg (by omega),if_neg (by omega),if_pos k]
  rw[e]
  refine ldrErr_zero.2 ⟨g1,g2,g3,g4,g5,form_of f1 (fun q=>w1 q.1) f3 f4,knErr_zero.2 fun a ha=> ?_⟩
  obtain⟨x1,x2⟩:=hkn a ha
  refine⟨x1,?_⟩
  unfold oddKn at x2⊢
  simp only
  rintro(y|⟨y1,_⟩)
  ·exact x2 (.inl y)
  ·exact x2 (.inr ⟨y1,.inl w2⟩)
 ·have e:ledNext l r= { l with now:=(if l.back=false then l.goal else l.now),goal:=0,back:=false,ags:=l.ags.map fun a=>⟨0,a.try_,false⟩ } :=by rw[ledNext,if_neg (by omega),if_neg (by omega),if_neg (by omega),if_neg (by omega),if_neg (by omega)]
  rw[e]
  have hn:1<=(if l.back=false then l.goal else l.now)/\(if l.back=false then l.goal else l.now)<=l.rels.length:=by split<;>omega
  refine ldrErr_zero.2 ⟨g1,g2,g3,g4,by unfold ldrRange;simp only;omega,form_of (by simp only;omega) (by simp) (by simpa using f3) f4,knErr_zero.2 fun b hb=> ?_⟩
  obtain⟨a,ha,rfl⟩:=List.mem_map.1 hb
  obtain⟨x1,x2⟩:=hkn a ha
  exact⟨by unfold badKn at x1⊢;simp only;omega,by unfold oddKn;simp⟩
open Go
structure Nod where
 a:Agt
 d:Dsk
 up:Bool
 deriving DecidableEq
structure Hed where
 l:Ldr
 d:Dsk
 up:Bool
 deriving DecidableEq
structure Wld where
 c:Conf
 h:Hed
 n:List Nod
 m:List Mail
structure Hap where
 kind:Int
 agent:Int
 num:Int
 good:Bool
 lock:List Pin
def logOf(d:Dsk)(up:Bool):Except Int (List Recd):=
 if dskErr d≠0 then .error (dskErr d) else if up=true/\d.wait≠[] then .error 4 else .ok (if up=true then dskRecs d else [])
def hedErr(c:Conf)(h:Hed):Int:=
 match logOf h.d h.up with
 | .error e=>e
 | .ok l=>match ledReplay c l with
  | .error e=>e
  | .ok x=>if x=h.l then 0 else 4
def nodErr(f:Rls)(n:Nod):Int:=
 match logOf n.d n.up with
 | .error e=>e
 | .ok l=>match agtReplay f l with
  | .error e=>e
  | .ok x=>if x=n.a then 0 else 4
def nodsErr(f:Rls):List Nod->Int
 | []=>0
 |n::q=>if nodErr f n≠0 then nodErr f n else nodsErr f q
def farMail(k:Int)(l:List Mail):Bool:=l.any fun m=>decide (k<=m.agent)
def wldErr(w:Wld):Int:=
 if cfgErr w.c≠0 then cfgErr w.c else
 if(w.n.length:Int)≠agentsOf w.c.waves then 4 else
 if mailsCheck w.m≠0 then mailsCheck w.m else
 if farMail w.n.length w.m=true then 5 else
 if hedErr w.c w.h≠0 then hedErr w.c w.h else nodsErr w.c.first w.n
def dskSafe(d:Dsk)(r:Recd):Except Int Dsk:=
 match dskPut d r with
 | .error e=> .error e
 | .ok x=>dskSync x
def wLead(w:Wld)(r:Recd):Except Int Wld:=
 if ledErr w.c w.h.l r≠0 then .error (ledErr w.c w.h.l r) else
 match dskSafe w.h.d r with
 | .error e=> .error e
 | .ok d=> .ok { w with h:=⟨ledNext w.h.l r,d,w.h.up⟩ }
def nDoes(n:Nod)(r:Recd):Except Int Nod:=
 if nextErr n.a r≠0 then .error (nextErr n.a r) else
 match dskSafe n.d r with
 | .error e=> .error e
 | .ok d=> .ok ⟨agtNext n.a r,d,n.up⟩
def wDoes(w:Wld)(k:Nat)(r:Recd):Except Int Wld:=
 match w.n[k]? with
 |none=> .error 5
 |some n=>match nDoes n r with
  | .error e=> .error e
  | .ok n'=> .ok { w with n:=w.n.set k n' }
def wPost(w:Wld)(m:Mail):Wld:=if sendErr w.m m=0 then{ w with m:=sent w.m m } else w
def repMail(k:Nat)(a:Agt):Mail:=⟨k,a.try_,true,a.good,⟨0,[]⟩⟩
def wReport(w:Wld)(k:Nat):Wld:=
 match w.n[k]? with
 |none=>w
 |some n=>wPost w (repMail k n.a)
def wTell(w:Wld)(x:Hap):Except Int Wld:=
 if turnErr w.c w.h.l x.agent≠0 then .error (turnErr w.c w.h.l x.agent) else
 if x.kind=4 then
  (match w.h.l.ags[x.agent.toNat]? with
   |none=> .error 5
   |some a=>if a.st≠1∨a.back≠w.h.l.back then .error 7 else .ok (wPost w ⟨x.agent,a.try_,false,false,turnRel w.c w.h.l x.agent⟩))
 else match wLead w ⟨6,x.agent,w.h.l.nx,0,false,⟨0,[]⟩⟩ with
  | .error e=> .error e
  | .ok y=> .ok (wPost y ⟨x.agent,w.h.l.nx,false,false,turnRel w.c w.h.l x.agent⟩)
def wStep(w:Wld)(x:Hap)(n:Nod):Except Int Wld:=
 if n.a.going=false then .error 7 else
 if agtErr n.a≠0 then .error (agtErr n.a) else
 if agtLeft n.a≠[] then wDoes w x.agent.toNat ⟨2,0,n.a.try_,0,false,⟨0,[]⟩⟩ else
 match wDoes w x.agent.toNat ⟨3,0,n.a.try_,0,x.good,⟨0,[]⟩⟩ with
 | .error e=> .error e
 | .ok y=> .ok (wReport y x.agent.toNat)
def orSame(w:Wld):Except Int Wld->Wld
 | .ok y=>y
 | .error _=>w
def wHear(w:Wld)(x:Hap):Except Int Wld:=
 if takeErr w.m x.num≠0 then .error (takeErr w.m x.num) else
 match w.n[(took w.m x.num).agent.toNat]? with
 |none=> .error 5
 |some n=>
  if((took w.m x.num).rep=true/\w.h.up=false)∨((took w.m x.num).rep=false/\n.up=false) then .error 7 else
  let w1:Wld:= { w with m:=left w.m x.num (decide (x.kind=10)) }
  if(took w.m x.num).rep=true then .ok (orSame w1 (wLead w1 ⟨7,(took w.m x.num).agent,(took w.m x.num).try_,0,(took w.m x.num).good,⟨0,[]⟩⟩)) else
  if(took w.m x.num).try_=n.a.try_/\n.a.going=false then .ok (wReport w1 (took w.m x.num).agent.toNat) else
  .ok (orSame w1 (wDoes w1 (took w.m x.num).agent.toNat ⟨1,0,(took w.m x.num).try_,0,false,(took w.m x.num).rel⟩))
def wPower(w:Wld)(x:Hap):Except Int Wld:=
 if x.agent<0 then
  (if w.h.up=decide (x.kind=13) then .error 7 else
   if dskErr w.h.d≠0 then .error (dskErr w.h.d) else
   match ledReplay w.c (if x.kind=12 then [] else dskRecs w.h.d) with
   | .error e=> .error e
   | .ok s=> .ok { w with h:=⟨s,if x.kind=12 then w.h.d else dskBack w.h.d,!w.h.up⟩ })
 else match w.n[x.agent.toNat]? with
  |none=> .error 5
  |some n=>
   if n.up=decide (x.kind=13) then .error 7 else
   if dskErr n.d≠0 then .error (dskErr n.d) else
   match agtReplay w.c.first (if x.kind=12 then [] else dskRecs n.d) with
   | .error e=> .error e
   | .ok s=> .ok { w with n:=w.n.set x.agent.toNat ⟨s,if x.kind=12 then n.d else dskBack n.d,!n.up⟩ }
def hapRec(w:Wld)(x:Hap):Recd:=
 if x.kind=1 then⟨4,0,0,0,false,⟨w.h.l.rels.length+1,x.lock⟩⟩ else
 if x.kind=2 then⟨5,0,0,x.num,false,⟨0,[]⟩⟩ else
 if x.kind=5 then⟨8,0,0,0,false,⟨0,[]⟩⟩ else⟨9,0,0,0,false,⟨0,[]⟩⟩
def wHap(w:Wld)(x:Hap):Except Int Wld:=
 if x.kind=9∨x.kind=10 then wHear w x else
 if x.kind=11 then(if takeErr w.m x.num≠0 then .error (takeErr w.m x.num) else .ok { w with m:=left w.m x.num false }) else
 if x.kind=1∨x.kind=2∨x.kind=5∨x.kind=6 then(if w.h.up=false then .error 7 else wLead w (hapRec w x)) else
 if x.kind<1∨13<x.kind then .error 4 else
 if(w.n.length:Int)<=x.agent∨(x.agent<0/\x.kind≠12/\x.kind≠13) then .error 5 else
 if x.kind=3∨x.kind=4 then(if w.h.up=false then .error 7 else wTell w x) else
 if x.kind=12∨x.kind=13 then wPower w x else
 match w.n[x.agent.toNat]? with
 |none=> .error 5
 |some n=>
  if n.up=false then .error 7 else
  if x.kind=7 then wStep w x n else
  if n.a.going=true∨n.a.try_=0 then .error 7 else .ok (wReport w x.agent.toNat)
def wDo(w:Wld)(x:Hap):Except Int Wld:=if wldErr w≠0 then .error (wldErr w) else wHap w x
def wRunFrom:Wld->List Hap->Wld×List Int
 |w,[]=>(w,[])
 |w,x::q=>match wHap w x with
  | .ok y=>((wRunFrom y q).1,0::(wRunFrom y q).2)
  | .error e=>((wRunFrom w q).1,e::(wRunFrom w q).2)
def runErr(w:Wld)(l:List Hap):Int:=if wldErr w≠0 then wldErr w else if 150<l.length then 2 else 0
def freshNod(f:Rls):Nod:=⟨newAgt f,dsk0,true⟩
def freshWld(c:Conf):Wld:=⟨c,⟨newLdr c,dsk0,true⟩,List.replicate (agentsOf c.waves).toNat (freshNod c.first),[]⟩
structure DOk(d:Dsk)(rs:List Recd):Prop where
 eq:d=⟨recsText rs,[]⟩
 recs:∀r∈rs,recErr r=0
 many:rs.length<=200
 size:(recsText rs).length<=60000
theorem DOk.nil:DOk dsk0 []:=⟨rfl,by simp,by simp,by simp[recsText]⟩
theorem DOk.err{d:Dsk}{rs:List Recd}(h:DOk d rs):dskErr d=0/\dskRecs d=rs/\dskBack d=d/\d.wait=[]:=by
 obtain⟨rfl,h1,h2,h3⟩:=h
 obtain⟨a,b,c⟩:=dsk_again h1 h2 h3
 exact⟨a,b,c,rfl⟩
theorem dok_of{d:Dsk}(h:dskErr d=0)(hw:d.wait=[]):DOk d (dskRecs d):=by
 obtain⟨h1,h2,h3⟩:=dskErr_zero h
 obtain⟨i1,i2,i3,i4,i5⟩:=linesF_ok (most:=200) d.safe.length (s:=d.safe) (k:=0) (Nat.le_refl _) (by omega)
 have h5:=i5 h3
 rw[h5,List.take_of_length_le (Nat.le_refl _)] at i4
 have hr:dskRecs d=(linesF 200 0 d.safe).1:=by
  unfold dskRecs dskMore
  rw[hw,linesF_nil];simp
 rw[hr]
 refine⟨?_,i1,by omega,by rw[←i4];exact h1⟩
 cases d with
 |mk s w=>subst hw;simp only at i4;rw[←i4]
theorem dok_back{d:Dsk}(h:dskErr d=0):DOk (dskBack d) (dskRecs d):=by
 obtain⟨h1,h2,h3⟩:=dskErr_zero h
 obtain⟨i1,i2,i3,i4,i5⟩:=linesF_ok (most:=200) d.safe.length (s:=d.safe) (k:=0) (Nat.le_refl _) (by omega)
 have h5:=i5 h3
 rw[h5,List.take_of_length_le (Nat.le_refl _)] at i4
 obtain⟨j1,j2,j3,j4,j5⟩:=linesF_ok (most:=200-(linesF 200 0 d.safe).1.length) d.wait.length (s:=d.wait) (k:=0) (Nat.le_refl _) (by omega)
 have e:dskBack d=⟨recsText (dskRecs d),[]⟩:=by
  unfold dskBack dskRecs
  rw[recsText_app,←i4]
  unfold dskMore
  rw[j4]
 have el:(recsText (dskRecs d)).length<=60000:=by
  unfold dskRecs
  rw[recsText_app,←i4]
  unfold dskMore
  rw[←j4,List.length_append,List.length_take]
  omega
 refine⟨e,fun r hr=> ?_,?_,el⟩
 ·unfold dskRecs dskMore at hr
  rcases List.mem_append.1 hr with hr|hr
  ·exact i1 r hr
  ·exact j1 r hr
 ·unfold dskRecs dskMore
  rw[List.length_append];omega
theorem dskErr_many{rs:List Recd}(h:∀r∈rs,recErr r=0)(hn:200<rs.length)(hl:(recsText rs).length<=60000):dskErr ⟨recsText rs,[]⟩=2:=by
 unfold dskErr
 dsimp only
 rw[if_neg (by omega),if_neg (by simp)]
 have key:∀(qs:List Recd)(k:Nat),(∀r∈qs,recErr r=0)->k<=200->200<k+qs.length->(linesF 200 k (recsText qs)).2.2=2:=by
  intro qs
  induction qs with
  |nil=>intro k _ h1 h2;simp at h2;omega
  |cons q t ih=>
   intro k hq h1 h2
   rw[recsText_cons]
   by_cases hk:k=200
   ·subst hk
    rw[linesF_many recText_line (recRead_text (hq q (by simp)))]
   ·rw[linesF_more recText_line (recRead_text (hq q (by simp))) hk]
    exact ih (k+1) (fun x hx=>hq x (by simp[hx])) (by omega) (by simp at h2;omega)
 exact key rs 0 h (by omega) (by omega)
theorem dskSafe_ok{d x:Dsk}{rs:List Recd}{r:Recd}(h:DOk d rs)(hx:dskSafe d r= .ok x):DOk x (rs++[r]):=by
 unfold dskSafe at hx
 cases hp:dskPut d r with
 |error e=>rw[hp] at hx;cases hx
 |ok y=>
  rw[hp] at hx
  obtain⟨p1,p2,p3,rfl⟩:=dskPut_ok hp
  obtain⟨rfl,h1,h2,h3⟩:=h
  simp only[List.nil_append,List.length_nil,Nat.add_zero] at p3 hx
  have e1:recsText rs++(recText r++[10])=recsText (rs++[r]):=by rw[recsText_app];simp[recsText]
  unfold dskSync at hx
  dsimp only at hx
  rw[e1] at hx
  split at hx
  ·split at hx
   ·rename_i hz
    obtain rfl:=Except.ok.inj hx
    have hl:(recsText (rs++[r])).length<=60000:=(dskErr_zero hz).1
    refine⟨rfl,fun q hq=> ?_,?_,hl⟩
    ·rcases List.mem_append.1 hq with hq|hq
     ·exact h1 q hq
     ·simp at hq;subst hq;exact p2
    ·by_cases hn:(rs++[r]).length<=200
     ·exact hn
     ·exfalso
      have hall:∀q∈rs++[r],recErr q=0:=fun q hq=>by
       rcases List.mem_append.1 hq with hq|hq
       ·exact h1 q hq
       ·simp at hq;subst hq;exact p2
      have:=dskErr_many hall (by omega) hl
      rw[this] at hz;cases hz
   ·cases hx
  ·cases hx
theorem dskSafe_room{d:Dsk}{rs:List Recd}{r:Recd}(h:DOk d rs)(hr:recErr r=0)(hn:rs.length<200)(hl:(recsText rs).length<=59000):∃x,dskSafe d r= .ok x/\DOk x (rs++[r]):=by
 have e0:=h.err
 obtain⟨rfl,h1,h2,h3⟩:=h
 have hlen:=recText_len hr
 have e1:recsText rs++(recText r++[10])=recsText (rs++[r]):=by rw[recsText_app];simp[recsText]
 have hall:∀q∈rs++[r],recErr q=0:=fun q hq=>by
  rcases List.mem_append.1 hq with hq|hq
  ·exact h1 q hq
  ·simp at hq;subst hq;exact hr
 have hl2:(recsText (rs++[r])).length<=60000:=by rw[←e1];simp;omega
 have hx:dskSafe ⟨recsText rs,[]⟩ r= .ok ⟨recsText (rs++[r]),[]⟩:=by
  unfold dskSafe dskPut
  rw[if_pos e0.1,if_pos hr]
  dsimp only
  rw[if_neg (by simp;omega)]
  dsimp only
  unfold dskSync
  dsimp only
  have hz:dskErr ⟨recsText rs,[]++(recText r++[10])⟩=0:=dskErr_recs h1 (by omega) (by simp;omega)
  rw[if_pos hz,List.nil_append,e1,if_pos (dskErr_recs hall (by simp;omega) (by simpa using hl2))]
 exact⟨_,hx,rfl,hall,by simp;omega,hl2⟩
open Go
structure LFacts(c:Conf)(L:Ldr):Prop where
 now:1<=L.now/\L.now<=L.rels.length
 goal:0<=L.goal/\L.goal<=L.rels.length
 many:1<=L.rels.length/\L.rels.length<=6
 ids:∀(j:Nat)(r:Rls),L.rels[j]?=some r->r.id=j+1/\Lk r.lock/\r.lock.length<=12
 ne:L.goal≠L.now
 home:L.goal=0->L.back=false
 kn:∀(k:Nat)(b:Kn),L.ags[k]?=some b->0<=b.st/\b.st<=3/\0<=b.try_/\b.try_<L.nx/\(b.st≠0->L.goal≠0/\b.try_≠0)/\(b.back=true->L.back=true/\b.st≠0)
 nx:1<=L.nx/\L.nx<=201
theorem ldr_facts{c:Conf}{L:Ldr}(h:ldrErr c L=0):LFacts c L:=by
 obtain⟨g1,g2,g3,g4,g5,g6,g7⟩:=ldrErr_zero.1 h
 obtain⟨f1,f2,f3,f4⟩:=form_parts g6
 have hkn:=knErr_zero.1 g7
 unfold ldrRange at g5
 refine⟨by omega,by omega,⟨g2,g3⟩,fun j r hj=> ?_,f1,fun h0=> ?_,fun k b hb=> ?_,by omega⟩
 ·have h1:=relsErr_zero.1 g4 j r hj
  have h2:=rel_lock g4 r (List.mem_of_getElem? hj)
  exact⟨by omega,h2.1,h2.2⟩
 ·cases hb:L.back with
  |false=>rfl
  |true=>exact absurd ⟨h0,hb⟩ f2
 ·obtain⟨x1,x2⟩:=hkn b (List.mem_of_getElem? hb)
  unfold badKn at x1
  unfold oddKn at x2
  refine⟨by omega,by omega,by omega,by omega,fun hs=>⟨fun h0=>x2 (.inl ⟨hs,.inl h0⟩),fun h0=>x2 (.inl ⟨hs,.inr h0⟩)⟩,fun hb=>⟨?_,fun h0=>x2 (.inr ⟨hb,.inr h0⟩)⟩⟩
  cases hl:L.back with
  |true=>rfl
  |false=>exact absurd (.inr ⟨hb,.inl hl⟩) x2
theorem next_zero{a:Agt}{r:Recd}(h:nextErr a r=0):agtErr a=0/\recErr r=0/\((r.kind=1/\a.try_<r.try_)∨((r.kind=2∨r.kind=3)/\a.going=true/\r.try_=a.try_/\(r.kind=2->agtLeft a≠[])/\(r.kind=3->agtLeft a=[]))):=by
 unfold nextErr at h
 split at h
 ·omega
 ·split at h
  ·omega
  ·refine⟨by omega,by omega,?_⟩
   split at h
   ·rename_i k
    split at h
    ·omega
    ·exact .inl ⟨k,by omega⟩
   ·split at h
    ·omega
    ·rename_i k1 k2
     split at h
     ·omega
     ·rename_i k3
      refine .inr ⟨by omega,?_,?_,fun k hl=> ?_,fun k=> ?_⟩
      ·cases hg:a.going with
       |true=>rfl
       |false=>exact absurd (.inl hg) k3
      ·exact Decidable.byContradiction fun e=>k3 (.inr (.inl e))
      ·exact k3 (.inr (.inr (.inl ⟨k,hl⟩)))
      ·exact Decidable.byContradiction fun e=>k3 (.inr (.inr (.inr ⟨k,e⟩)))
theorem agtErr_of{a:Agt}(h1:Lk a.lock/\a.lock.length<=12)(h2:1<=a.at_/\a.at_<=6)(h3:0<=a.try_/\a.try_<=200)(h4:a.going=true->a.try_≠0/\a.good=false/\relErr a.goal=0)(h5:a.going=false->noRel a.goal):agtErr a=0:=by
 unfold agtErr
 rw[if_neg (by rw[lockCheck_zero.2 h1];omega),if_neg (by omega)]
 cases hg:a.going with
 |true=>
  obtain⟨x,y,z⟩:=h4 hg
  rw[if_pos rfl,if_neg (by rintro(e|e);exact x e;rw[y] at e;cases e),z]
 |false=>rw[if_neg (by simp),if_pos (h5 hg)]
theorem left_step{a:Agt}(h:agtErr a=0)(hg:a.going=true){o:Step}{q:List Step}(hl:agtLeft a=o::q):(Lk (applied a.lock o)/\(applied a.lock o).length<=12)/\agtLeft ⟨applied a.lock o,a.at_,a.try_,a.going,a.goal,a.good⟩=q/\∀p∈applied a.lock o,p∈a.lock∨p∈a.goal.lock:=by
 obtain⟨⟨z1,z2⟩,_⟩:=agtErr_zero h
 obtain⟨y1,y2⟩:=agt_goal h
 have hd:diffs a.lock a.goal.lock=o::q:=by unfold agtLeft at hl;rw[if_pos hg] at hl;exact hl
 have hok:=diffs_mem z1 y1 (hd▸List.mem_cons_self:o∈diffs a.lock a.goal.lock)
 refine⟨⟨(hok.applied z1 y1).1,(diffs_fits z1 y1 z2 y2 hd).2⟩,?_,fun p hp=> ?_⟩
 ·unfold agtLeft;rw[if_pos hg];exact diffs_step z1 y1 hd
 ·unfold applied at hp
  split at hp
  ·left
   unfold del at hp
   exact(List.mem_filter.1 hp).1
  ·rename_i k
   rcases up_mem hp with rfl|hp
   ·right
    have hv:=hok.ver
    have hne:find a.goal.lock o.name≠0:=by rcases hok.kind with e|e|e<;>omega
    obtain⟨q',hq,e1,e2⟩:=find_pos hne
    have:q'=⟨o.name,o.ver⟩:=by cases q';simp_all
    rw[←this];exact hq
   ·exact .inl hp
theorem next_ok{a:Agt}{r:Recd}(h:nextErr a r=0):agtErr (agtNext a r)=0:=by
 obtain⟨h1,h2,h3⟩:=next_zero h
 obtain⟨z1,z2,z3,z4,z5,z6,z7⟩:=agtErr_zero h1
 obtain⟨y1,y2,y3,y4⟩:=rec_zero h2
 unfold recRange at y3
 rcases h3 with⟨k,ht⟩|⟨k,hg,ht,hl2,hl3⟩
 ·unfold agtNext
  rw[if_pos k]
  exact agtErr_of z1 ⟨z2,z3⟩ ⟨by simp only;omega,by simp only;omega⟩ (fun _=>⟨by simp only;omega,rfl,y4 (.inl k)⟩) (fun e=>by cases e)
 ·rcases k with k|k
  ·obtain⟨o,q,hl⟩:=List.exists_cons_of_ne_nil (hl2 k)
   unfold agtNext
   rw[if_neg (by omega),if_pos k,hl]
   exact agtErr_of (left_step h1 hg hl).1 ⟨z2,z3⟩ ⟨z4,z5⟩ z6 z7
  ·unfold agtNext
   rw[if_neg (by omega),if_neg (by omega)]
   have hid:=(relErr_zero (z6 hg).2.2).1
   exact agtErr_of z1 hid ⟨z4,z5⟩ (fun e=>by cases e) (fun _=>by simp[noRel])
theorem set_self{α:Type}{xs:List α}{k:Nat}{x:α}(h:xs[k]?=some x):xs.set k x=xs:=by
 obtain⟨hk,rfl⟩:=List.getElem?_eq_some_iff.1 h
 exact List.set_getElem_self hk
open Go
theorem ledFrom_snoc{c:Conf}{r:Recd}{L:Ldr} :∀ {rs:List Recd} {l:Ldr},ledFrom c l rs= .ok L->ledErr c L r=0->ledFrom c l (rs++[r])= .ok (ledNext L r)
 | [],l,h,hr=>by
  obtain rfl:=Except.ok.inj (show Except.ok l=Except.ok L from h)
  show ledFrom c l [r]=_
  unfold ledFrom;rw[if_pos hr];rfl
 |q::rs,l,h,hr=>by
  show ledFrom c l (q::(rs++[r]))=_
  unfold ledFrom at h⊢
  split at h
  ·rename_i hq;rw[if_pos hq];exact ledFrom_snoc h hr
  ·cases h
theorem ledReplay_snoc{c:Conf}{rs:List Recd}{r:Recd}{L:Ldr}(h:ledReplay c rs= .ok L)(hr:ledErr c L r=0)(hn:(rs++[r]).length<=200):ledReplay c (rs++[r])= .ok (ledNext L r):=by
 unfold ledReplay at h⊢
 split at h
 ·cases h
 ·rename_i hc
  rw[if_neg hc]
  split at h
  ·cases h
  ·rw[if_neg (by omega)];exact ledFrom_snoc h hr
theorem ledFrom_ok{c:Conf}{L:Ldr} :∀ {rs:List Recd} {l:Ldr},ldrErr c l=0->ledFrom c l rs= .ok L->ldrErr c L=0
 | [],l,h,e=>by obtain rfl:=Except.ok.inj (show Except.ok l=Except.ok L from e);exact h
 |q::rs,l,h,e=>by
  unfold ledFrom at e
  split at e
  ·rename_i hq;exact ledFrom_ok (led_ok hq) e
  ·cases e
theorem ledReplay_ok{c:Conf}{rs:List Recd}{L:Ldr}(h:ledReplay c rs= .ok L):cfgErr c=0/\ldrErr c L=0:=by
 unfold ledReplay at h
 split at h
 ·cases h
 ·rename_i hc
  split at h
  ·cases h
  ·exact⟨by omega,ledFrom_ok (new_ok (by omega)) h⟩
theorem replayFrom_snoc{r:Recd}{A:Agt} :∀ {rs:List Recd} {a:Agt},replayFrom a rs= .ok A->nextErr A r=0->replayFrom a (rs++[r])= .ok (agtNext A r)
 | [],l,h,hr=>by
  obtain rfl:=Except.ok.inj (show Except.ok l=Except.ok A from h)
  show replayFrom l [r]=_
  unfold replayFrom;rw[if_pos hr];rfl
 |q::rs,l,h,hr=>by
  show replayFrom l (q::(rs++[r]))=_
  unfold replayFrom at h⊢
  split at h
  ·rename_i hq;rw[if_pos hq];exact replayFrom_snoc h hr
  ·cases h
theorem agtReplay_snoc{f:Rls}{rs:List Recd}{r:Recd}{A:Agt}(h:agtReplay f rs= .ok A)(hr:nextErr A r=0)(hn:(rs++[r]).length<=200):agtReplay f (rs++[r])= .ok (agtNext A r):=by
 unfold agtReplay at h⊢
 split at h
 ·cases h
 ·rename_i hc
  rw[if_neg hc]
  split at h
  ·cases h
  ·rw[if_neg (by omega)];exact replayFrom_snoc h hr
theorem newAgt_ok{f:Rls}(h:relErr f=0):agtErr (newAgt f)=0:=by
 obtain⟨h1,h2⟩:=relErr_zero h
 exact agtErr_of h2 h1 ⟨Int.le_refl _,by unfold newAgt;simp⟩ (fun e=>by cases e) (fun _=>by simp[newAgt,noRel])
theorem replayFrom_ok{A:Agt} :∀ {rs:List Recd} {a:Agt},agtErr a=0->replayFrom a rs= .ok A->agtErr A=0
 | [],l,h,e=>by obtain rfl:=Except.ok.inj (show Except.ok l=Except.ok A from e);exact h
 |q::rs,l,h,e=>by
  unfold replayFrom at e
  split at e
  ·rename_i hq;exact replayFrom_ok (next_ok hq) e
  ·cases e
theorem agtReplay_ok{f:Rls}{rs:List Recd}{A:Agt}(h:agtReplay f rs= .ok A):relErr f=0/\agtErr A=0:=by
 unfold agtReplay at h
 split at h
 ·cases h
 ·rename_i hc
  split at h
  ·cases h
  ·exact⟨by omega,replayFrom_ok (newAgt_ok (by omega)) h⟩
def mailOk(m:Mail):Prop:=¬badWho m/\¬badForm m/\(m.rep=false->relErr m.rel=0)
theorem mailsFrom_iff:∀ {l:List Mail},mailsFrom l=0↔ ∀m∈l,mailOk m
 | []=>by simp[mailsFrom]
 |x::q=>by
  unfold mailsFrom
  constructor
  ·intro h
   split at h
   ·omega
   ·split at h
    ·omega
    ·rename_i h1 h2
     split at h
     ·rename_i h3
      intro m hm
      rcases List.mem_cons.1 hm with rfl|hm
      ·exact⟨h1,h2,fun e=>by rw[h3] at e;cases e⟩
      ·exact mailsFrom_iff.1 h m hm
     ·split at h
      ·omega
      ·rename_i h3 h4
       intro m hm
       rcases List.mem_cons.1 hm with rfl|hm
       ·exact⟨h1,h2,fun _=>by omega⟩
       ·exact mailsFrom_iff.1 h m hm
  ·intro h
   obtain⟨h1,h2,h3⟩:=h x List.mem_cons_self
   have h4:=mailsFrom_iff.2 fun m hm=>h m (List.mem_cons_of_mem _ hm)
   rw[if_neg h1,if_neg h2]
   split
   ·exact h4
   ·rename_i h5
    rw[if_neg (by rw[h3 (by simpa using h5)];omega)]
    exact h4
theorem mailsCheck_iff{l:List Mail} :mailsCheck l=0↔l.length<=40/\∀m∈l,mailOk m:=by
 unfold mailsCheck
 constructor
 ·intro h
  split at h
  ·omega
  ·exact⟨by omega,mailsFrom_iff.1 h⟩
 ·rintro⟨h1,h2⟩
  rw[if_neg (by omega)];exact mailsFrom_iff.2 h2
theorem sentOk{l:List Mail}{m:Mail}(h:sendErr l m=0):mailsCheck (sent l m)=0/\mailOk m:=by
 unfold sendErr at h
 split at h
 ·rename_i h0
  obtain⟨a1,a2⟩:=mailsCheck_iff.1 h0
  obtain⟨b1,b2⟩:=mailsCheck_iff.1 h
  refine⟨?_,b2 m (by simp)⟩
  unfold sent
  split
  ·refine mailsCheck_iff.2 ⟨by simp;omega,fun x hx=> ?_⟩
   rcases List.mem_append.1 hx with hx|hx
   ·exact a2 x hx
   ·exact b2 x hx
  ·exact h0
 ·omega
theorem sent_mem{l:List Mail}{m x:Mail}(h:x∈sent l m):x∈l∨x=m:=by
 unfold sent at h
 split at h
 ·rcases List.mem_append.1 h with h|h
  ·exact .inl h
  ·exact .inr (by simpa using h)
 ·exact .inl h
theorem left_mem{l:List Mail}{k:Int}{tw:Bool}{x:Mail}(h:x∈left l k tw):x∈l:=by
 unfold left at h
 split at h
 ·exact h
 ·rcases List.mem_append.1 h with h|h
  ·exact List.mem_of_mem_take h
  ·exact List.mem_of_mem_drop h
theorem left_len{l:List Mail}{k:Int}{tw:Bool} :(left l k tw).length<=l.length:=by
 unfold left
 split
 ·exact Nat.le_refl _
 ·rw[List.length_append,List.length_take,List.length_drop];omega
theorem left_ok{l:List Mail}{k:Int}{tw:Bool}(h:mailsCheck l=0):mailsCheck (left l k tw)=0:=by
 obtain⟨a1,a2⟩:=mailsCheck_iff.1 h
 have:=left_len (l:=l) (k:=k) (tw:=tw)
 exact mailsCheck_iff.2 ⟨by omega,fun x hx=>a2 x (left_mem hx)⟩
theorem took_mem{l:List Mail}{k:Int}(h:takeErr l k=0):took l k∈l/\0<=k/\k<l.length/\mailsCheck l=0:=by
 unfold takeErr at h
 split at h
 ·rename_i h0
  split at h
  ·omega
  ·refine⟨?_,by omega,by omega,h0⟩
   unfold took
   have hk:k.toNat<l.length:=by omega
   rw[List.getD_eq_getElem?_getD,List.getElem?_eq_getElem hk]
   exact List.getElem_mem hk
 ·omega
theorem nodsErr_zero{f:Rls} :∀ {l:List Nod},nodsErr f l=0↔ ∀n∈l,nodErr f n=0
 | []=>by simp[nodsErr]
 |x::q=>by
  unfold nodsErr
  constructor
  ·intro h
   split at h
   ·omega
   ·intro n hn
    rcases List.mem_cons.1 hn with rfl|hn
    ·omega
    ·exact nodsErr_zero.1 h n hn
  ·intro h
   rw[if_neg (by rw[h x List.mem_cons_self];omega)]
   exact nodsErr_zero.2 fun n hn=>h n (List.mem_cons_of_mem _ hn)
theorem farMail_false{k:Int}{l:List Mail} :farMail k l=false↔ ∀m∈l,m.agent<k:=by
 unfold farMail
 rw[List.any_eq_false]
 simp
theorem turnErr_zero{c:Conf}{l:Ldr}{k:Int}(h:turnErr c l k=0):ldrErr c l=0/\0<=k/\k<l.ags.length/\l.goal≠0:=by
 unfold turnErr at h
 split at h
 ·omega
 ·split at h
  ·omega
  ·split at h
   ·omega
   ·exact⟨by omega,by omega,by omega,by assumption⟩
open Go
theorem logOf_zero{d:Dsk}{up:Bool}{l:List Recd} :logOf d up= .ok l↔dskErr d=0/\(up=true->d.wait=[])/\l=if up=true then dskRecs d else []:=by
 unfold logOf
 constructor
 ·intro h
  split at h
  ·cases h
  ·split at h
   ·cases h
   ·rename_i h1 h2
    refine⟨by omega,fun e=>Decidable.byContradiction fun e2=>h2 ⟨e,e2⟩,(Except.ok.inj h).symm⟩
 ·rintro⟨h1,h2,rfl⟩
  rw[if_neg (by omega),if_neg (fun e=>e.2 (h2 e.1))]
structure HOk(c:Conf)(h:Hed):Prop where
 disk:dskErr h.d=0
 dry:h.up=true->h.d.wait=[]
 log:ledReplay c (if h.up=true then dskRecs h.d else [])= .ok h.l
structure NOk(f:Rls)(n:Nod):Prop where
 disk:dskErr n.d=0
 dry:n.up=true->n.d.wait=[]
 log:agtReplay f (if n.up=true then dskRecs n.d else [])= .ok n.a
theorem logOf_err{d:Dsk}{up:Bool}{e:Int}(h:logOf d up= .error e):e≠0:=by
 unfold logOf at h
 split at h
 ·rename_i h0;injection h with h;omega
 ·split at h
  ·injection h with h;omega
  ·cases h
theorem ledFrom_err{c:Conf}{e:Int} :∀ {rs:List Recd} {l:Ldr},ledFrom c l rs= .error e->e≠0
 | [],l,h=>by cases h
 |r::q,l,h=>by
  unfold ledFrom at h
  split at h
  ·exact ledFrom_err h
  ·rename_i h0;injection h with h;omega
theorem ledReplay_err{c:Conf}{rs:List Recd}{e:Int}(h:ledReplay c rs= .error e):e≠0:=by
 unfold ledReplay at h
 split at h
 ·rename_i h0;injection h with h;omega
 ·split at h
  ·injection h with h;omega
  ·exact ledFrom_err h
theorem replayFrom_err{e:Int} :∀ {rs:List Recd} {l:Agt},replayFrom l rs= .error e->e≠0
 | [],l,h=>by cases h
 |r::q,l,h=>by
  unfold replayFrom at h
  split at h
  ·exact replayFrom_err h
  ·rename_i h0;injection h with h;omega
theorem agtReplay_err{f:Rls}{rs:List Recd}{e:Int}(h:agtReplay f rs= .error e):e≠0:=by
 unfold agtReplay at h
 split at h
 ·rename_i h0;injection h with h;omega
 ·split at h
  ·injection h with h;omega
  ·exact replayFrom_err h
theorem hedErr_zero{c:Conf}{h:Hed} :hedErr c h=0↔HOk c h:=by
 unfold hedErr
 constructor
 ·intro e
  split at e
  ·rename_i x hx;exact absurd e (logOf_err hx)
  ·rename_i l hl
   obtain⟨h1,h2,rfl⟩:=logOf_zero.1 hl
   split at e
   ·rename_i x hx;exact absurd e (ledReplay_err hx)
   ·rename_i x hx
    split at e
    ·rename_i he;exact⟨h1,h2,by rw[hx,he]⟩
    ·cases e
 ·rintro⟨h1,h2,h3⟩
  rw[logOf_zero.2 ⟨h1,h2,rfl⟩]
  dsimp only
  rw[h3]
  dsimp only
  rw[if_pos rfl]
theorem nodErr_zero{f:Rls}{n:Nod} :nodErr f n=0↔NOk f n:=by
 unfold nodErr
 constructor
 ·intro e
  split at e
  ·rename_i x hx;exact absurd e (logOf_err hx)
  ·rename_i l hl
   obtain⟨h1,h2,rfl⟩:=logOf_zero.1 hl
   split at e
   ·rename_i x hx;exact absurd e (agtReplay_err hx)
   ·rename_i x hx
    split at e
    ·rename_i he;exact⟨h1,h2,by rw[hx,he]⟩
    ·cases e
 ·rintro⟨h1,h2,h3⟩
  rw[logOf_zero.2 ⟨h1,h2,rfl⟩]
  dsimp only
  rw[h3]
  dsimp only
  rw[if_pos rfl]
structure WRight(w:Wld):Prop where
 cfg:cfgErr w.c=0
 len:(w.n.length:Int)=agentsOf w.c.waves
 mail:mailsCheck w.m=0
 who:∀m∈w.m,m.agent<w.n.length
 head:HOk w.c w.h
 node:∀n∈w.n,NOk w.c.first n
theorem wldErr_zero{w:Wld} :wldErr w=0↔WRight w:=by
 unfold wldErr
 constructor
 ·intro h
  split at h
  ·omega
  ·split at h
   ·omega
   ·split at h
    ·omega
    ·split at h
     ·omega
     ·split at h
      ·omega
      ·rename_i h1 h2 h3 h4 h5
       exact⟨by omega,by omega,by omega,farMail_false.1 (by simpa using h4),hedErr_zero.1 (by omega),fun n hn=>nodErr_zero.1 (nodsErr_zero.1 h n hn)⟩
 ·rintro⟨h1,h2,h3,h4,h5,h6⟩
  rw[if_neg (by omega),if_neg (by omega),if_neg (by omega),if_neg (by rw[farMail_false.2 h4];simp),if_neg (by rw[hedErr_zero.2 h5];omega)]
  exact nodsErr_zero.2 fun n hn=>nodErr_zero.2 (h6 n hn)
theorem HOk.lead{c:Conf}{h:Hed}(k:HOk c h)(hu:h.up=true){r:Recd}(hr:ledErr c h.l r=0){d:Dsk}(hd:dskSafe h.d r= .ok d):HOk c ⟨ledNext h.l r,d,h.up⟩:=by
 have hD:=dskSafe_ok (dok_of k.disk (k.dry hu)) hd
 obtain⟨e1,e2,e3,e4⟩:=hD.err
 have hl:=k.log
 rw[if_pos hu] at hl
 refine⟨e1,fun _=>e4,?_⟩
 dsimp only
 rw[if_pos hu,e2]
 exact ledReplay_snoc hl hr hD.many
theorem NOk.does{f:Rls}{n n':Nod}(k:NOk f n)(hu:n.up=true){r:Recd}(hd:nDoes n r= .ok n'):NOk f n'/\n'.up=true/\n'.a=agtNext n.a r/\nextErr n.a r=0/\dskRecs n'.d=dskRecs n.d++[r]:=by
 unfold nDoes at hd
 split at hd
 ·cases hd
 ·rename_i hr
  split at hd
  ·cases hd
  ·rename_i d hd'
   obtain rfl:=Except.ok.inj hd
   have hD:=dskSafe_ok (dok_of k.disk (k.dry hu)) hd'
   obtain⟨e1,e2,e3,e4⟩:=hD.err
   have hl:=k.log
   rw[if_pos hu] at hl
   refine⟨⟨e1,fun _=>e4,?_⟩,hu,rfl,by omega,e2⟩
   dsimp only
   rw[if_pos hu,e2]
   exact agtReplay_snoc hl (by omega) hD.many
theorem HOk.power{c:Conf}{h:Hed}(k:HOk c h){kind:Int}(hk:kind=12∨kind=13)(hu:¬h.up=decide (kind=13)){s:Ldr}(hs:ledReplay c (if kind=12 then [] else dskRecs h.d)= .ok s):HOk c ⟨s,if kind=12 then h.d else dskBack h.d,!h.up⟩:=by
 rcases hk with rfl|rfl
 ·have hup:h.up=true:=by simpa using hu
  simp only[if_pos] at hs⊢
  exact⟨k.disk,fun e=>(by rw[hup] at e;cases e),by simp only[hup];exact hs⟩
 ·have hup:h.up=false:=by simpa using hu
  have hD:=dok_back k.disk
  obtain⟨e1,e2,e3,e4⟩:=hD.err
  rw[if_neg (by omega)] at hs⊢
  exact⟨e1,fun _=>e4,by simp only[hup,Bool.not_false,if_true];rw[e2];exact hs⟩
theorem NOk.power{f:Rls}{n:Nod}(k:NOk f n){kind:Int}(hk:kind=12∨kind=13)(hu:¬n.up=decide (kind=13)){s:Agt}(hs:agtReplay f (if kind=12 then [] else dskRecs n.d)= .ok s):NOk f ⟨s,if kind=12 then n.d else dskBack n.d,!n.up⟩:=by
 rcases hk with rfl|rfl
 ·have hup:n.up=true:=by simpa using hu
  simp only[if_pos] at hs⊢
  exact⟨k.disk,fun e=>(by rw[hup] at e;cases e),by simp only[hup];exact hs⟩
 ·have hup:n.up=false:=by simpa using hu
  have hD:=dok_back k.disk
  obtain⟨e1,e2,e3,e4⟩:=hD.err
  rw[if_neg (by omega)] at hs⊢
  exact⟨e1,fun _=>e4,by simp only[hup,Bool.not_false,if_true];rw[e2];exact hs⟩
structure Eff(w y:Wld)(who:Int)(l:List Mail):Prop where
 c:y.c=w.c
 ok:WRight y
 head:0<=who->y.h=w.h
 len:y.n.length=w.n.length
 node:∀i:Nat,(i:Int)≠who->y.n[i]?=w.n[i]?
 mail:y.m=l∨ ∃m,y.m=l++[m]
theorem WRight.less{w:Wld}(h:WRight w){k:Int}{tw:Bool} :WRight { w with m:=left w.m k tw } :=
 ⟨h.cfg,h.len,left_ok h.mail,fun m hm=>h.who m (left_mem hm),h.head,h.node⟩
theorem wLead_ok{w y:Wld}{r:Recd}(hy:wLead w r= .ok y):ledErr w.c w.h.l r=0/\∃d,dskSafe w.h.d r= .ok d/\y= { w with h:=⟨ledNext w.h.l r,d,w.h.up⟩ } :=by
 unfold wLead at hy
 split at hy
 ·cases hy
 ·rename_i he
  split at hy
  ·cases hy
  ·rename_i d hd
   exact⟨by omega,d,hd,(Except.ok.inj hy).symm⟩
theorem WRight.lead{w y:Wld}(h:WRight w)(hu:w.h.up=true){r:Recd}(hy:wLead w r= .ok y):Eff w y (-1) w.m:=by
 obtain⟨he,d,hd,rfl⟩:=wLead_ok hy
 exact⟨rfl,⟨h.cfg,h.len,h.mail,h.who,h.head.lead hu he hd,h.node⟩,fun e=>by omega,rfl,fun i _=>rfl,.inl rfl⟩
theorem wDoes_ok{w y:Wld}{k:Nat}{r:Recd}(hy:wDoes w k r= .ok y):∃n n',w.n[k]?=some n/\nDoes n r= .ok n'/\y= { w with n:=w.n.set k n' } :=by
 unfold wDoes at hy
 split at hy
 ·cases hy
 ·rename_i n hn
  split at hy
  ·cases hy
  ·rename_i n' hn'
   exact⟨n,n',hn,hn',(Except.ok.inj hy).symm⟩
theorem WRight.set{w:Wld}(h:WRight w){k:Nat}{n':Nod}(hn:NOk w.c.first n'):Eff w { w with n:=w.n.set k n' } k w.m:=
 ⟨rfl,⟨h.cfg,by simp[h.len],h.mail,fun m hm=>by simpa using h.who m hm,h.head,fun n hn'=>by
  rcases List.mem_or_eq_of_mem_set hn' with hx|rfl
  ·exact h.node n hx
  ·exact hn⟩,fun _=>rfl,by simp,fun i hi=>by
   show(w.n.set k n')[i]?=_
   rw[List.getElem?_set,if_neg (by omega)],.inl rfl⟩
theorem WRight.does{w y:Wld}(h:WRight w){k:Nat}{r:Recd}{n:Nod}(hn:w.n[k]?=some n)(hu:n.up=true)(hy:wDoes w k r= .ok y):Eff w y k w.m/\∃n',y.n[k]?=some n'/\n'.up=true/\n'.a=agtNext n.a r/\nextErr n.a r=0:=by
 obtain⟨m,n',hm,hn',rfl⟩:=wDoes_ok hy
 obtain rfl:n=m:=by rw[hn] at hm;exact Option.some.inj hm
 obtain⟨d1,d2,d3,d4,d5⟩:=(h.node n (List.mem_of_getElem? hn)).does hu hn'
 refine⟨h.set d1,n',?_,d2,d3,d4⟩
 show(w.n.set k n')[k]?=_
 rw[List.getElem?_set,if_pos rfl,if_pos (List.getElem?_eq_some_iff.1 hn).1]
theorem Eff.post{w y:Wld}{who:Int}{m:Mail}{l:List Mail}(h:Eff w y who l)(hm:m.agent<w.n.length)(hl:y.m=l):Eff w (wPost y m) who l:=by
 subst hl
 unfold wPost
 split
 ·rename_i he
  refine⟨h.c,⟨h.ok.cfg,h.ok.len,(sentOk he).1,fun x hx=> ?_,h.ok.head,h.ok.node⟩,h.head,h.len,h.node,?_⟩
  ·have hx:x∈sent y.m m:=hx
   rcases sent_mem hx with hx|rfl
   ·exact h.ok.who x hx
   ·have:=h.len
    show x.agent<(y.n.length:Int)
    omega
  ·show sent y.m m=y.m∨_
   unfold sent
   split
   ·exact .inr ⟨m,rfl⟩
   ·exact .inl rfl
 ·exact h
theorem WRight.same{w:Wld}(h:WRight w)(who:Int):Eff w w who w.m:=⟨rfl,h,fun _=>rfl,rfl,fun _ _=>rfl,.inl rfl⟩
def hapWho(w:Wld)(x:Hap):Int:=
 if 1<=x.kind/\x.kind<=6 then-1 else
 if x.kind=9∨x.kind=10 then(if(took w.m x.num).rep=true then-1 else(took w.m x.num).agent) else
 if x.agent<0 then-1 else x.agent
def hapLeft(w:Wld)(x:Hap):List Mail:=if x.kind=9∨x.kind=11 then left w.m x.num false else w.m
theorem Eff.trans{w z y:Wld}{who:Int}{l:List Mail}(h:Eff z y who l)(e:z.c=w.c/\z.h=w.h/\z.n=w.n):Eff w y who l:=
 ⟨h.c.trans e.1,h.ok,fun k=>(h.head k).trans e.2.1,by rw[h.len,e.2.2],fun i hi=>by rw[h.node i hi,e.2.2],h.mail⟩
theorem WRight.hap{w y:Wld}(h:WRight w){x:Hap}(hy:wHap w x= .ok y):Eff w y (hapWho w x) (hapLeft w x):=by
 unfold wHap at hy
 split at hy
 ·rename_i hk
  have hwho:hapWho w x=if(took w.m x.num).rep=true then-1 else(took w.m x.num).agent:=by
   unfold hapWho;rw[if_neg (by omega),if_pos hk]
  have hleft:hapLeft w x=left w.m x.num (decide (x.kind=10)):=by
   unfold hapLeft
   rcases hk with k|k
   ·rw[if_pos (.inl k)];simp[k]
   ·rw[if_neg (by omega)];simp[k,left]
  rw[hwho,hleft]
  unfold wHear at hy
  split at hy
  ·cases hy
  ·rename_i ht
   obtain⟨t1,t2,t3,t4⟩:=took_mem (Decidable.not_not.1 ht)
   obtain⟨o1,o2,o3⟩:=(mailsCheck_iff.1 t4).2 _ t1
   have hw:=h.who _ t1
   generalize took w.m x.num=m at*
   unfold badWho at o1
   have hL:=h.less (k:=x.num) (tw:=decide (x.kind=10))
   split at hy
   ·cases hy
   ·rename_i n hn
    split at hy
    ·cases hy
    ·rename_i hup
     dsimp only at hy
     split at hy
     ·rename_i hr
      have hu:w.h.up=true:=by
       cases hu:w.h.up with
       |true=>rfl
       |false=>exact absurd (.inl ⟨hr,hu⟩) hup
      rw[if_pos hr]
      obtain rfl:=Except.ok.inj hy
      cases hl:wLead { w with m:=left w.m x.num (decide (x.kind=10)) } ⟨7,m.agent,m.try_,0,m.good,⟨0,[]⟩⟩ with
      |error e=>exact Eff.trans (hL.same _) ⟨rfl,rfl,rfl⟩
      |ok z=>exact Eff.trans (hL.lead hu hl) ⟨rfl,rfl,rfl⟩
     ·rename_i hr
      rw[if_neg hr]
      have hr:m.rep=false:=by simpa using hr
      have hu:n.up=true:=by
       cases hu:n.up with
       |true=>rfl
       |false=>exact absurd (.inr ⟨hr,hu⟩) hup
      have hk:((m.agent.toNat:Nat):Int)=m.agent:=by omega
      split at hy
      ·obtain rfl:=Except.ok.inj hy
       have hn':(({ w with m:=left w.m x.num (decide (x.kind=10)) } :Wld).n)[m.agent.toNat]?=some n:=hn
       unfold wReport
       rw[hn']
       exact Eff.trans ((hL.same _).post (by simp only[repMail];omega) rfl) ⟨rfl,rfl,rfl⟩
      ·obtain rfl:=Except.ok.inj hy
       cases hl:wDoes { w with m:=left w.m x.num (decide (x.kind=10)) } m.agent.toNat ⟨1,0,m.try_,0,false,m.rel⟩ with
       |error e=>exact Eff.trans (hL.same _) ⟨rfl,rfl,rfl⟩
       |ok z=>
        have:=(hL.does hn hu hl).1
        rw[hk] at this
        exact Eff.trans this ⟨rfl,rfl,rfl⟩
 ·rename_i hk
  split at hy
  ·rename_i k11
   split at hy
   ·cases hy
   ·obtain rfl:=Except.ok.inj hy
    have hleft:hapLeft w x=left w.m x.num false:=by unfold hapLeft;rw[if_pos (.inr k11)]
    rw[hleft]
    exact Eff.trans (h.less.same _) ⟨rfl,rfl,rfl⟩
  ·rename_i k11
   have hleft:hapLeft w x=w.m:=by unfold hapLeft;rw[if_neg (by omega)]
   rw[hleft]
   split at hy
   ·rename_i hk2
    have hwho:hapWho w x= -1:=by unfold hapWho;rw[if_pos (by omega)]
    rw[hwho]
    split at hy
    ·cases hy
    ·rename_i hu;exact h.lead (by simpa using hu) hy
   ·rename_i hk2
    split at hy
    ·cases hy
    ·rename_i hk3
     split at hy
     ·cases hy
     ·rename_i hwho0
      split at hy
      ·rename_i hk4
       have hwho:hapWho w x= -1:=by unfold hapWho;rw[if_pos (by omega)]
       rw[hwho]
       split at hy
       ·cases hy
       ·rename_i hu
        have hu:w.h.up=true:=by simpa using hu
        unfold wTell at hy
        split at hy
        ·cases hy
        ·rename_i ht
         split at hy
         ·split at hy
          ·cases hy
          ·split at hy
           ·cases hy
           ·obtain rfl:=Except.ok.inj hy
            exact(h.same _).post (by simp only;omega) rfl
         ·split at hy
          ·cases hy
          ·rename_i z hz
           obtain rfl:=Except.ok.inj hy
           exact(h.lead hu hz).post (by simp only;omega) (by obtain⟨he,d,hd,rfl⟩:=wLead_ok hz;rfl)
      ·rename_i hk4
       have hwho:hapWho w x=if x.agent<0 then-1 else x.agent:=by unfold hapWho;rw[if_neg (by omega),if_neg hk]
       split at hy
       ·rename_i hk5
        unfold wPower at hy
        split at hy
        ·rename_i hneg
         rw[hwho,if_pos hneg]
         split at hy
         ·cases hy
         ·rename_i hu
          split at hy
          ·cases hy
          ·split at hy
           ·cases hy
           ·rename_i s hs
            obtain rfl:=Except.ok.inj hy
            exact⟨rfl,⟨h.cfg,h.len,h.mail,h.who,h.head.power hk5 hu hs,h.node⟩,fun e=>by omega,rfl,fun i _=>rfl,.inl rfl⟩
        ·rename_i hneg
         rw[hwho,if_neg hneg]
         have hka:((x.agent.toNat:Nat):Int)=x.agent:=by omega
         split at hy
         ·cases hy
         ·rename_i n hn
          split at hy
          ·cases hy
          ·rename_i hu
           split at hy
           ·cases hy
           ·split at hy
            ·cases hy
            ·rename_i s hs
             obtain rfl:=Except.ok.inj hy
             have:=h.set (k:=x.agent.toNat) ((h.node n (List.mem_of_getElem? hn)).power hk5 hu hs)
             rw[hka] at this
             exact this
       ·rename_i hk5
        rw[hwho,if_neg (by omega)]
        have hka:((x.agent.toNat:Nat):Int)=x.agent:=by omega
        split at hy
        ·cases hy
        ·rename_i n hn
         split at hy
         ·cases hy
         ·rename_i hu
          have hu:n.up=true:=by simpa using hu
          split at hy
          ·unfold wStep at hy
           split at hy
           ·cases hy
           ·split at hy
            ·cases hy
            ·split at hy
             ·have:=(h.does hn hu hy).1
              rw[hka] at this
              exact this
             ·split at hy
              ·cases hy
              ·rename_i z hz
               obtain rfl:=Except.ok.inj hy
               obtain⟨e1,n',e2,e3,e4,e5⟩:=h.does hn hu hz
               rw[hka] at e1
               have hzm:z.m=w.m:=by obtain⟨m0,n0,hm0,hn0,rfl⟩:=wDoes_ok hz;rfl
               unfold wReport
               rw[e2]
               exact e1.post (by simp only[repMail];omega) hzm
          ·split at hy
           ·cases hy
           ·obtain rfl:=Except.ok.inj hy
            unfold wReport
            rw[hn]
            exact(h.same _).post (by simp only[repMail];omega) rfl
open Go Go.Proofs
theorem neqBool{xo yo:Operand}{a b:Bool} :RunsTo Tryz.prog (binRun .neq 4 xo yo (.bool a) (.bool b)) (.bool (a !=b)):=by
 intro w
 have hg:(eqGuard .neq 4 xo yo (.bool a) (.bool b)).run Tryz.prog w= .ok () w:=by simp[eqGuard]
 simp only[binRun,Sem.run_bind,hg,Result.andThen_ok]
 have:=run_equal_bool w 4 a b Tryz.underlying4
 simp[binOp,this]
 cases a<;>cases b<;>rfl
open Go Go.Proofs
open Go.Value renaming int → I, slice → S, bool → B, agg → A, tuple → T, pointer → P, string → Str
open Go.IntKind renaming i64 → Z, wrap → W
open Go.Addr renaming mk → D
open Go.Vg.Bx renaming mk → J
open Go.Vg renaming Next → X, Spec → Y, SpecO → YO
open Go.Vg.Heap renaming cell → C
open Int renaming toNat → N
theorem vc67(a ga:O)(l c gl gc:Nat)(at_ tr gid:Int)(go gd:Bool)(base:Nat)(H:Heap)(K:KT):
 (fV TryzMutsJ Tryz.f233 base H [.v (A #[S a l c,I Z at_,I Z tr,B go,I Z gid,S ga gl gc,B gd])] [] K)=(
 ∀b:Nat,(fun w1:LB=>Y Tryz.prog 140 [S a l c] H fun d e=>∃g,d=I Z g/\(X base H e->(¬g=0->K (I Z g) [] e)/\(¬¬g=0->∃h:Prop,((at_<1->w1=w1/\SubH e e/\h)/\(¬at_<1->(6<at_->w1=w1/\SubH e e/\h)/\(¬6<at_->(tr<0->w1=w1/\SubH e e/\h)/\(¬tr<0->w1=w1/\SubH e e/\(h↔200<tr)))))/\(h->K (I Z 3) [] e)/\(¬h->(go=true->∃i:Prop,((tr=0->w1=w1/\SubH e e/\i)/\(¬tr=0->w1=w1/\SubH e e/\(i↔gd=true)))/\(i->K (I Z 4) [] e)/\(¬i->Y Tryz.prog 167 [A #[I Z gid,S ga gl gc]] e fun j k=>∃m,j=I Z m/\(X base e k->K (I Z m) [] k)))/\(go=false->∃i:Prop,((¬gid=0->w1=w1/\SubH e e/\i)/\(¬¬gid=0->w1=w1/\SubH e e/\(i↔0<(gl:Int))))/\(i->K (I Z 4) [] e)/\(¬i->K (I Z 0) [] e)))))) [J b false 46 [S a l c,I Z at_,I Z tr,B go,I Z gid,S ga gl gc,B gd]]):=by kernel_rfl
theorem vc125(a ga:O)(l c gl gc:Nat)(at_ tr gid:Int)(go gd:Bool)(base:Nat)(H:Heap)(K:KT):
 (fV TryzMutsJ Tryz.f173 base H [.v (A #[S a l c,I Z at_,I Z tr,B go,I Z gid,S ga gl gc,B gd])] [] K)=(
 ∀b d:Nat,Y Tryz.prog 163 [S a l c] H fun e g=>∃h i j,e=S h i j/\(X base H g->Y Tryz.prog 163 [S ga gl gc] g fun k m=>∃n o p,k=S n o p/\(X base g m->K (A #[S h i j,I Z at_,I Z tr,B go,I Z gid,S n o p,B gd]) [] m))):=by kernel_rfl
theorem vc70(a ga:O)(l c gl gc:Nat)(at_ tr gid:Int)(go gd:Bool)(base:Nat)(H:Heap)(K:KT):
 (fV TryzMutsJ Tryz.f203 base H [.v (A #[S a l c,I Z at_,I Z tr,B go,I Z gid,S ga gl gc,B gd])] [] K)=(
 ∀b:Nat,Y Tryz.prog 233 [A #[S a l c,I Z at_,I Z tr,B go,I Z gid,S ga gl gc,B gd]] H fun d e=>∃g,d=I Z g/\(X base H e->(¬g=0->K (T #[S none 0 0,I Z g]) [] e)/\(¬¬g=0->(go=false->K (T #[S none 0 0,I Z 0]) [] e)/\(¬go=false->Y Tryz.prog 57 [S a l c,S ga gl gc] e fun h i=>∃j k m n,h=T #[S j k m,I Z n]/\(X base e i->K (T #[S j k m,I Z n]) [] i))))):=by kernel_rfl
theorem vc71(id:Int)(a:O)(l c:Nat)(base:Nat)(H:Heap)(K:KT):
 (fV TryzMutsJ Tryz.f89 base H [.v (A #[I Z id,S a l c])] [] K)=(
 ∀b d:Nat,Y Tryz.prog 167 [A #[I Z id,S a l c]] H fun e g=>∃h,e=I Z h/\(X base H g->(¬h=0->K (T #[A #[S none 0 0,I Z 0,I Z 0,B false,I Z 0,S none 0 0,B false],I Z h]) [] g)/\(¬¬h=0->Y Tryz.prog 163 [S a l c] g fun i j=>∃k m n,i=S k m n/\(X base g j->K (T #[A #[S k m n,I Z id,I Z 0,B false,I Z 0,S none 0 0,B true],I Z 0]) [] j)))):=by kernel_rfl
theorem vc75(a ga a' ga':O)(l c gl gc l' c' gl' gc':Nat)(at_ tr gid at_' tr' gid':Int)(go gd go' gd':Bool)(base:Nat)(H:Heap)(K:KT):
 (fV TryzMutsJ Tryz.f38 base H [.v (A #[S a l c,I Z at_,I Z tr,B go,I Z gid,S ga gl gc,B gd]),.v (A #[S a' l' c',I Z at_',I Z tr',B go',I Z gid',S ga' gl' gc',B gd'])] [] K)=(
 ∀b d:Nat,(fun w1:LB=>∃e:Prop,(Y Tryz.prog 47 [S a l c,S a' l' c'] H fun g h=>∃i,g=B i/\(X base H h->(i=true->(at_=at_'->(tr=tr'->∃j,RunsTo Tryz.prog (binRun BinOp.eql 4 (Operand.tmp 26) (Operand.tmp 28) (B go) (B go')) (B j)/\(j=true->∃k,RunsTo Tryz.prog (binRun BinOp.eql 4 (Operand.tmp 33) (Operand.tmp 35) (B gd) (B gd')) (B k)/\(k=true->Y Tryz.prog 56 [A #[I Z gid,S ga gl gc],A #[I Z gid',S ga' gl' gc']] h fun m n=>∃o,m=B o/\(X base h n->w1=w1/\SubH H n/\(e↔o=true)))/\(¬k=true->w1=w1/\SubH H h/\¬e))/\(¬j=true->w1=w1/\SubH H h/\¬e))/\(¬tr=tr'->w1=w1/\SubH H h/\¬e))/\(¬at_=at_'->w1=w1/\SubH H h/\¬e))/\(i=false->w1=w1/\SubH H h/\¬e)))/\K (B (@decide e (Classical.propDecidable e))) [] H) [J b false 46 [S a l c,I Z at_,I Z tr,B go,I Z gid,S ga gl gc,B gd],J d false 46 [S a' l' c',I Z at_',I Z tr',B go',I Z gid',S ga' gl' gc',B gd']]):=by kernel_rfl
theorem vc69(a ga ra:O)(l c gl gc rl rc:Nat)(at_ tr gid kd ag tr' n id:Int)(go gd gd':Bool)(base:Nat)(H:Heap)(K:KT):
 (fV TryzMutsJ Tryz.f145 base H [.v (A #[S a l c,I Z at_,I Z tr,B go,I Z gid,S ga gl gc,B gd]),.v (A #[I Z kd,I Z ag,I Z tr',I Z n,B gd',I Z id,S ra rl rc])] [] K)=(
 (fun w5:LV=>(fun w4:AV=>(fun w3:AV=>∀b d e:Nat,Y Tryz.prog 203 w5 H fun g h=>∃i j k m,g=T #[S i j k,I Z m]/\(X base H h->(¬m=0->K (T #[A #[S none 0 0,I Z 0,I Z 0,B false,I Z 0,S none 0 0,B false],I Z m]) [] h)/\(¬¬m=0->Y Tryz.prog 198 [A #[I Z kd,I Z ag,I Z tr',I Z n,B gd',I Z id,S ra rl rc]] h fun o p=>∃q,o=I Z q/\(X base h p->(¬q=0->K (T #[A #[S none 0 0,I Z 0,I Z 0,B false,I Z 0,S none 0 0,B false],I Z q]) [] p)/\(¬¬q=0->Y Tryz.prog 173 w5 p fun r s=>∃t u v w x y z,(fun w2:AV=>∃a1 b1 c1 d1,(fun w1:LB=>r=A #[S t u v,I Z w,I Z x,B y,I Z z,S a1 b1 c1,B d1]/\(X base p s->(kd=1->(tr'<=x->K (T w3) [] s)/\(¬tr'<=x->Y Tryz.prog 163 [S ra rl rc] s fun e1 f1=>∃g1 h1 i1,e1=S g1 h1 i1/\(X base s f1->K (T #[A #[S t u v,I Z w,I Z tr',B true,I Z id,S g1 h1 i1,B false],I Z 0]) [] f1)))/\(¬kd=1->(kd=2->(kd=2->∃e1:Prop,((y=false->w1=w1/\SubH s s/\e1)/\(¬y=false->(¬tr'=x->w1=w1/\SubH s s/\e1)/\(¬¬tr'=x->∃f1,RunsTo Tryz.prog (binRun BinOp.neq 4 (Operand.tmp 68) (Operand.tmp 71) (B (decide (0<(j:Int)))) (B (decide (kd=2)))) (B f1)/\w1=w1/\SubH s s/\(e1↔f1=true))))/\(e1->K (T w3) [] s)/\(¬e1->(kd=2->∃f1 g1,i=some (D f1 g1 none)/\Int.ofNat 0<=0/\0<(j:Int)/\∃h1 i1 j1:Int,(C s f1 (g1+0*3)=some (I Z h1)/\C s f1 (g1+0*3+1)=some (I Z i1)/\C s f1 (g1+0*3+2)=some (I Z j1)/\True)/\Y Tryz.prog 204 [S t u v,A #[I Z h1,I Z i1,I Z j1]] s fun k1 l1=>∃m1 n1 o1 p1,k1=T #[S m1 n1 o1,I Z p1]/\(X base s l1->K (T #[A #[S m1 n1 o1,I Z w,I Z x,B y,I Z z,S a1 b1 c1,B d1],I Z p1]) [] l1))/\(¬kd=2->K (T w2) [] s/\K (T w2) [] s/\K (T w2) [] s/\K (T w2) [] s)))/\(¬kd=2->K (T w4) [] s))/\(¬kd=2->(kd=3->∃e1:Prop,((y=false->w1=w1/\SubH s s/\e1)/\(¬y=false->(¬tr'=x->w1=w1/\SubH s s/\e1)/\(¬¬tr'=x->∃f1,RunsTo Tryz.prog (binRun BinOp.neq 4 (Operand.tmp 68) (Operand.tmp 71) (B (decide (0<(j:Int)))) (B (decide (kd=2)))) (B f1)/\w1=w1/\SubH s s/\(e1↔f1=true))))/\(e1->K (T w3) [] s)/\(¬e1->(kd=2->∃f1 g1,i=some (D f1 g1 none)/\Int.ofNat 0<=0/\0<(j:Int)/\∃h1 i1 j1:Int,(C s f1
 (g1+0*3)=some (I Z h1)/\C s f1 (g1+0*3+1)=some (I Z i1)/\C s f1 (g1+0*3+2)=some (I Z j1)/\True)/\Y Tryz.prog 204 [S t u v,A #[I Z h1,I Z i1,I Z j1]] s fun k1 l1=>∃m1 n1 o1 p1,k1=T #[S m1 n1 o1,I Z p1]/\(X base s l1->K (T #[A #[S m1 n1 o1,I Z w,I Z x,B y,I Z z,S a1 b1 c1,B d1],I Z p1]) [] l1))/\(¬kd=2->K (T w2) [] s/\K (T w2) [] s/\K (T w2) [] s/\K (T w2) [] s)))/\(¬kd=3->K (T w4) [] s))))) [J b false 46 [S t u v,I Z w,I Z x,B y,I Z z,S a1 b1 c1,B d1],J d false 126 [I Z kd,I Z ag,I Z tr',I Z n,B gd',I Z id,S ra rl rc],J e false 46 [S none 0 0,I Z 0,I Z 0,B false,I Z 0,S none 0 0,B false]]) #[A #[S t u v,I Z z,I Z x,B false,I Z 0,S none 0 0,B gd'],I Z 0]))))) #[A #[S none 0 0,I Z 0,I Z 0,B false,I Z 0,S none 0 0,B false],I Z 7]) #[A #[S none 0 0,I Z 0,I Z 0,B false,I Z 0,S none 0 0,B false],I Z 4]) [A #[S a l c,I Z at_,I Z tr,B go,I Z gid,S ga gl gc,B gd]]):=by kernel_rfl
theorem vc63(id:Int)(a a':O)(l c l' c':Nat)(base:Nat)(H:Heap)(K:KT):
 (fV TryzMutsJ Tryz.f67 base H [.v (A #[I Z id,S a l c]),.v (S a' l' c')] [] K)=(
 (fun w7:AV=>∀b d:Nat,Y Tryz.prog 89 [A #[I Z id,S a l c]] H fun e g=>∃h i j k m n o p q r s t,e=T #[A #[S h i j,I Z k,I Z m,B n,I Z o,S p q r,B s],I Z t]/\(X base H g->∀u:Nat,(¬t=0->K (T #[A w7,I Z t]) [] g)/\(¬¬t=0->(200<(l':Int)->K (T #[A w7,I Z 2]) [] g)/\(¬200<(l':Int)->∃(v:LI)(w:LM),v [I Z 0,I Z t,I Z 0,A w7,A #[S h i j,I Z k,I Z m,B n,I Z o,S p q r,B s]] g/\∀(x y z:Int)(a1:O)(b1 c1:Nat)(d1 e1:Int)(f1:Bool)(g1:Int)(h1:O)(i1 j1:Nat)(k1:Bool)(l1:O)(m1 n1:Nat)(o1 p1:Int)(q1:Bool)(r1:Int)(s1:O)(t1 u1:Nat)(v1:Bool)(w1:Heap),(fun w6:AV=>(fun w5:AV=>X base H w1->v [I Z x,I Z y,I Z z,A w6,A w5] w1->(z<(l':Int)->∃x1 y1,a'=some (D x1 y1 none)/\0<=z/\z<(l':Int)/\∃(z1 a2 b2 c2:Int)(d2:Bool)(e2:Int)(f2:O)(g2 h2:Nat),(C w1 x1 (y1+N z*7)=some (I Z z1)/\C w1 x1 (y1+N z*7+1)=some (I Z a2)/\C w1 x1 (y1+N z*7+2)=some (I Z b2)/\C w1 x1 (y1+N z*7+3)=some (I Z c2)/\C w1 x1 (y1+N z*7+4)=some (B d2)/\C w1 x1 (y1+N z*7+5)=some (I Z e2)/\C w1 x1 (y1+N z*7+6)=some (S f2 g2 h2)/\True)/\∀i2:Nat,Y Tryz.prog 145 [A w5,A #[I Z z1,I Z a2,I Z b2,I Z c2,B d2,I Z e2,S f2 g2 h2]] w1 fun j2 k2=>∃(l2:O)(m2 n2:Nat)(o2 p2:Int)(q2:Bool)(r2:Int)(s2:O)(t2 u2:Nat)(v2:Bool),(fun w4:AV=>∃w2,j2=T #[A w4,I Z w2]/\(X base w1 k2->(¬w2=0->K (T #[A w7,I Z w2]) [] k2)/\(¬¬w2=0->∀x2:Int,(fun w3:LV=>x2=W Z (z+1)->[[I Z id,S a l c]]=[[I Z id,S a l c]]/\v w3 k2/\w w3<w [I Z x,I Z y,I Z z,A w6,A w5]) [I Z x,I Z w2,I Z x2,A w6,A w4]))) #[S l2 m2 n2,I Z o2,I Z p2,B q2,I Z r2,S s2 t2 u2,B v2])/\(¬z<(l':Int)->K (T #[A w5,I Z 0]) [] w1)) #[S l1 m1 n1,I Z o1,I Z p1,B q1,I Z r1,S s1 t1 u1,B v1]) #[S a1 b1 c1,I Z d1,I Z e1,B f1,I Z g1,S h1 i1 j1,B k1])))) #[S none 0 0,I Z 0,I Z 0,B false,I Z 0,S none 0 0,B false]):=by kernel_rfl
open Go Go.Proofs
section
variable {H : Heap} {a ga : O} {l c gl gc : Nat} {x : Agt}
theorem cAgtCheck(hp:Pins H a l x.lock)(hg:Pins H ga gl x.goal.lock):Spec Tryz.prog 233 [agtArg x a l c ga gl gc] H fun v _=>v=i64 (agtErr x):=by
 refine TryzvcJ Tryz.func233 (by kernel_rfl) (by kernel_rfl) _ rfl (fun base K=>vc67 a ga l c gl gc x.at_ x.try_ x.goal.id x.going x.good base H K) fun base hb=> ?_
 have hgl:=hg.len
 have hnr:noRel x.goal↔x.goal.id=0/\gl=0:=by unfold noRel;rw[len_zero hgl]
 intro b
 refine(cLockCheck hp).int1 fun H1 e1 _=>⟨fun h=>by rw[agtErr,if_pos h],fun h=> ?_⟩
 refine⟨x.at_<1∨6<x.at_∨x.try_<0∨200<x.try_,?_,fun h2=>by rw[agtErr,if_neg h,if_pos h2],fun h2=>⟨fun hgo=> ?_,fun hgo=> ?_⟩⟩
 ·repeat' (first|exact⟨rfl,fun _ _ h=>h,by omega⟩|intro _|refine⟨?_,?_⟩)
 ·refine⟨x.try_=0∨x.good=true,⟨fun _=>⟨rfl,fun _ _ h=>h,by grind⟩,fun _=>⟨rfl,fun _ _ h=>h,by grind⟩⟩,fun h3=>by rw[agtErr,if_neg h,if_neg h2,if_pos hgo,if_pos h3],fun h3=>(cNoteRelease (hg.ext' e1) x.goal.id).int1 fun H2 _ _=> ?_⟩
  rw[agtErr,if_neg h,if_neg h2,if_pos hgo,if_neg h3]
 ·refine⟨¬(x.goal.id=0/\gl=0),⟨fun _=>⟨rfl,fun _ _ h=>h,by grind⟩,fun _=>⟨rfl,fun _ _ h=>h,by grind⟩⟩,fun h3=> ?_,fun h3=> ?_⟩
  ·rw[agtErr,if_neg h,if_neg h2,if_neg (by simp[hgo]),if_neg (by rw[hnr];exact h3)]
  ·rw[agtErr,if_neg h,if_neg h2,if_neg (by simp[hgo]),if_pos (by rw[hnr];exact Decidable.not_not.1 h3)]
theorem cLeft(hp:Pins H a l x.lock)(hg:Pins H ga gl x.goal.lock):Spec Tryz.prog 203 [agtArg x a l c ga gl gc] H fun v H'=>∃a n c,v= .tuple #[.slice a n c,i64 (agtErr x)]/\Steps H' a n (if agtErr x=0 then agtLeft x else []):=by
 refine TryzvcJ Tryz.func203 (by kernel_rfl) (by kernel_rfl) _ rfl (fun base K=>vc70 a ga l c gl gc x.at_ x.try_ x.goal.id x.going x.good base H K) fun base hb=> ?_
 intro b
 refine(cAgtCheck hp hg).int1 fun H1 e1 _=>⟨fun h=> ?_,fun h=> ?_⟩
 ·rw[if_neg h];exact⟨none,0,0,rfl,Sl.nil⟩
 have h:=Decidable.not_not.1 h
 rw[h,if_pos rfl]
 refine⟨fun hgo=>⟨none,0,0,rfl,?_⟩,fun hgo=> ?_⟩
 ·rw[agtLeft,if_neg (by simp[hgo])];exact Sl.nil
 ·have hz:diffErr x.lock x.goal.lock=0:=diffErr_zero.2 ⟨(agtErr_zero h).1,agt_goal h⟩
  refine(cDiff (hp.ext' e1) (hg.ext' e1)).sl2 fun a2 n2 c2 H2 e2 _ hD=> ?_
  rw[if_pos hz] at hD
  rw[hz]
  refine⟨_,_,_,rfl,?_⟩
  rw[agtLeft,if_pos (by simpa using hgo)];exact hD
theorem pins_small(h:agtErr x=0):x.lock.length<=12/\x.goal.lock.length<=12:=⟨(agtErr_zero h).1.2,(agt_goal h).2⟩
theorem Fresh.pins{H H':Heap}{a:O}{n c:Nat}{xs:List Pin}(h:Fresh H H' 91 2 a n c (xs.flatMap pinCells)):Pins H' a n xs:=Sl.ext REnc.mono (h.sl_new pinCells_len (by omega)) newOf_ext
theorem Spec.agt1{P:Program}{f:FuncId}{args:List Value}{H:Heap}{x:Agt}(h:Spec P f args H fun v H'=>∃a n c ga gn gc,v=agtArg x a n c ga gn gc/\Pins H' a n x.lock/\Pins H' ga gn x.goal.lock){base:Nat}
  {G:O->Nat->Nat->Int->Int->Bool->Int->O->Nat->Nat->Bool->Heap->Prop} (hG:∀a n c ga gn gc H',Ext H H'->Next base H H'->Pins H' a n x.lock->Pins H' ga gn x.goal.lock->G a n c x.at_ x.try_ x.going x.goal.id ga gn gc x.good H'):
  Spec P f args H fun v H'=>∃(a:O)(n c:Nat)(n2 n3:Int)(b:Bool)(n4:Int)(a2:O)(n5 c1:Nat)(b3:Bool),v= .agg #[.slice a n c,.int .i64 n2,.int .i64 n3,.bool b,.int .i64 n4,.slice a2 n5 c1,.bool b3]/\(Next base H H'->G a n c n2 n3 b n4 a2 n5 c1 b3 H'):=
 h.mono fun v H' ex hv=>by
  obtain⟨a,n,c,ga,gn,gc,h1,h2,h3⟩:=hv
  exact⟨a,n,c,_,_,_,_,ga,gn,gc,_,h1,fun hN=>hG a n c ga gn gc H' ex hN h2 h3⟩
theorem cAgtCopy(hp:Pins H a l x.lock)(hg:Pins H ga gl x.goal.lock)(h:agtErr x=0):Spec Tryz.prog 173 [agtArg x a l c ga gl gc] H fun v H'=>∃a n c ga gn gc,v=agtArg x a n c ga gn gc/\Pins H' a n x.lock/\Pins H' ga gn x.goal.lock:=by
 refine TryzvcJ Tryz.func173 (by kernel_rfl) (by kernel_rfl) _ rfl (fun base K=>vc125 a ga l c gl gc x.at_ x.try_ x.goal.id x.going x.good base H K) fun base hb=> ?_
 have hs:=pins_small h
 have h1:=hp.len
 have h2:=hg.len
 intro b b1
 refine(cCloneJ hp (by omega)).mono fun v H1 e1 hv=> ?_
 obtain⟨a2,n2,c2,rfl,hF⟩:=hv
 refine⟨a2,n2,c2,rfl,fun _=>(cCloneJ (hg.ext' e1) (by omega)).mono fun v H2 e2 hv=> ?_⟩
 obtain⟨a3,n3,c3,rfl,hF3⟩:=hv
 exact⟨a3,n3,c3,rfl,fun _=>⟨_,_,_,_,_,_,rfl,hF.pins.ext' e2,hF3.pins⟩⟩
end
theorem cNew{H:Heap}{a:O}{l c:Nat}{r:Rls}(hp:Pins H a l r.lock):Spec Tryz.prog 89 [.agg #[.int .i64 r.id,.slice a l c]] H fun v H'=>∃a n c ga gn gc,v= .tuple #[agtArg (if relErr r=0 then newAgt r else noAgt) a n c ga gn gc,i64 (relErr r)]/\Pins H' a n (if relErr r=0 then newAgt r else noAgt).lock/\Pins H' ga gn (if relErr r=0 then newAgt r else noAgt).goal.lock:=by
 refine TryzvcJ Tryz.func89 (by kernel_rfl) (by kernel_rfl) _ rfl (fun base K=>vc71 r.id a l c base H K) fun base hb=> ?_
 intro b b1
 refine(cNoteRelease hp r.id).int1 fun H1 e1 _=>⟨fun h=> ?_,fun h=> ?_⟩
 ·rw[if_neg h];exact⟨none,0,0,none,0,0,rfl,Sl.nil,Sl.nil⟩
 have h:=Decidable.not_not.1 h
 have h:relErr r=0:=h
 rw[if_pos h,h]
 have h12:=(relErr_zero h).2.2
 have hl:=hp.len
 refine(cCloneJ (hp.ext' e1) (by omega)).mono fun v H2 e2 hv=> ?_
 obtain⟨a2,n2,c2,rfl,hF⟩:=hv
 exact⟨a2,n2,c2,rfl,fun _=>⟨_,_,_,none,0,0,rfl,hF.pins,Sl.nil⟩⟩
section
variable {H : Heap} {a ga a' ga' : O} {l c gl gc l' c' gl' gc' : Nat} {x y : Agt}
theorem cAgtSame(hp:Pins H a l x.lock)(hg:Pins H ga gl x.goal.lock)(hp':Pins H a' l' y.lock)(hg':Pins H ga' gl' y.goal.lock):Spec Tryz.prog 38 [agtArg x a l c ga gl gc,agtArg y a' l' c' ga' gl' gc'] H fun v _=>v= .bool (decide (x=y)):=by
 refine TryzvcJ Tryz.func38 (by kernel_rfl) (by kernel_rfl) _ rfl (fun base K=>vc75 a ga a' ga' l c gl gc l' c' gl' gc' x.at_ x.try_ x.goal.id y.at_ y.try_ y.goal.id x.going x.good y.going y.good base H K) fun base hb=> ?_
 have hgo:x.goal=y.goal↔(⟨x.goal.id,x.goal.lock⟩:Rls)=⟨y.goal.id,y.goal.lock⟩:=Iff.rfl
 intro b b1
 refine⟨x=y,(cEqPins hp hp').bool1 fun H1 e1 _=>⟨fun q1=>⟨fun q2=>⟨fun q3=>⟨_,eqBool,fun q4=>⟨_,eqBool,fun q5=>(cAlike (hg.ext' e1) (hg'.ext' e1) _ _).bool1 fun H2 e2 _=>⟨rfl,e1.trans e2,?_⟩,fun q5=>⟨rfl,e1,fun h=>q5 (by simp[h])⟩⟩,fun q4=>⟨rfl,e1,fun h=>q4 (by simp[h])⟩⟩,fun q3=>⟨rfl,e1,fun h=>q3 (by rw[h])⟩⟩,fun q2=>⟨rfl,e1,fun h=>q2 (by rw[h])⟩⟩,fun q1=>⟨rfl,e1,fun h=>by simp[h] at q1⟩⟩,?_⟩
 ·rw[agt_eq,decide_eq_true_eq,←hgo]
  simp only[beq_iff_eq] at q4 q5
  have q1:x.lock=y.lock:=by simpa using q1
  simp[q1,q2,q3,q4,q5]
 ·congr 1
  exact decide_eq_decide.2 Iff.rfl
end
open Go Go.Proofs
section
variable {H : Heap} {a ga ra : O} {l c gl gc rl rc : Nat} {x : Agt} {r : Recd}
theorem left_cases(x:Agt):agtLeft x=[]∨ ∃o q,agtLeft x=o::q:=by
 cases agtLeft x with
 |nil=>exact .inl rfl
 |cons o q=>exact .inr ⟨o,q,rfl⟩
theorem left_fits(h:agtErr x=0){o:Step}{q:List Step}(hl:agtLeft x=o::q):applyErr x.lock o=0:=by
 unfold agtLeft at hl
 split at hl
 ·have h1:=(agtErr_zero h).1
  have h2:=agt_goal h
  exact(diffs_fits h1.1 h2.1 h1.2 h2.2 hl).1
 ·cases hl
theorem cNext(hp:Pins H a l x.lock)(hg:Pins H ga gl x.goal.lock)(hr:Pins H ra rl r.rel.lock):
  Spec Tryz.prog 145 [agtArg x a l c ga gl gc,recArg r ra rl rc] H fun v H'=>∃a n c ga gn gc,v= .tuple #[agtArg (nextV x r) a n c ga gn gc,i64 (nextErr x r)]/\Pins H' a n (nextV x r).lock/\Pins H' ga gn (nextV x r).goal.lock:=by
 refine TryzvcJ Tryz.func145 (by kernel_rfl) (by kernel_rfl) _ rfl (fun base K=>vc69 a ga ra l c gl gc rl rc x.at_ x.try_ x.goal.id r.kind r.agent r.try_ r.num r.rel.id x.going x.good r.good base H K) fun base hb=> ?_
 have bad:∀ {e:Int} {H':Heap},nextErr x r=e->e≠0->∃a n c ga gn gc,Value.tuple #[.agg #[.slice none 0 0,.int .i64 0,.int .i64 0,.bool false,.int .i64 0,.slice none 0 0,.bool false],.int .i64 e]= .tuple #[agtArg (nextV x r) a n c ga gn gc,i64 (nextErr x r)]/\Pins H' a n (nextV x r).lock/\Pins H' ga gn (nextV x r).goal.lock:=fun he h0=>by
  have:nextV x r=noAgt:=by rw[nextV,if_neg (by omega)]
  rw[this,he];exact⟨none,0,0,none,0,0,rfl,Sl.nil,Sl.nil⟩
 intro b b1 b2
 refine(cLeft hp hg).sl2 fun a1 n1 c1 H1 e1 _ hD=>⟨fun h=>bad (by rw[nextErr,if_pos h]) h,fun h=>(cRecCheck (hr.ext' e1)).int1 fun H2 e2 _=>⟨fun h2=>bad (by rw[nextErr,if_neg h,if_pos h2]) h2,fun h2=> ?_⟩⟩
 have h0:agtErr x=0:=Decidable.not_not.1 h
 rw[if_pos h0] at hD
 have hDl:=hD.len
 have hnil:agtLeft x=[]↔n1=0:=by rw[←hDl];exact List.length_eq_zero_iff.symm
 have good:∀ {X:Agt} {H':Heap} {a n c ga gn gc},nextErr x r=0->agtNext x r=X->Pins H' a n X.lock->Pins H' ga gn X.goal.lock->∃a' n' c' ga' gn' gc',Value.tuple #[agtArg X a n c ga gn gc,.int .i64 0]= .tuple #[agtArg (nextV x r) a' n' c' ga' gn' gc',i64 (nextErr x r)]/\Pins H' a' n' (nextV x r).lock/\Pins H' ga' gn' (nextV x r).goal.lock:=fun he hX p1 p2=>by
  have:nextV x r=agtNext x r:=by rw[nextV,if_pos he]
  rw[this,he,hX];exact⟨_,_,_,_,_,_,rfl,p1,p2⟩
 refine(cAgtCopy ((hp.ext' e1).ext' e2) ((hg.ext' e1).ext' e2) h0).agt1 fun a3 n3 c3 ga3 gn3 gc3 H3 e3 _ p3 g3=>⟨fun k1=>⟨fun ht=> ?_,fun ht=> ?_⟩,fun k1=> ?_⟩
 ·exact bad (by rw[nextErr,if_neg h,if_neg h2,if_pos k1,if_pos ht]) (by omega)
 ·have hr12:r.rel.lock.length<=12:=by
   have:recErr r=0:=Decidable.not_not.1 h2
   unfold recErr at this
   split at this
   ·omega
   ·split at this
    ·omega
    ·split at this
     ·omega
     ·rw[if_pos (.inl k1)] at this
      exact(relErr_zero this).2.2
  have hrl:=hr.len
  refine(cCloneJ (((hr.ext' e1).ext' e2).ext' e3) (by omega)).mono fun v H4 e4 hv=> ?_
  obtain⟨a5,n5,c5,rfl,hF⟩:=hv
  exact⟨a5,n5,c5,rfl,fun _=>good (X:=⟨x.lock,x.at_,r.try_,true,r.rel,false⟩) (by rw[nextErr,if_neg h,if_neg h2,if_pos k1,if_neg ht]) (by rw[agtNext,if_pos k1]) (p3.ext' e4) hF.pins⟩
 have late:(x.going=false∨r.try_≠x.try_∨(r.kind=2/\agtLeft x=[])∨(r.kind=3/\agtLeft x≠[]))->(r.kind=2∨r.kind=3)->nextErr x r=7:=fun hl hk=>by
  rw[nextErr,if_neg h,if_neg h2,if_neg k1,if_neg (by omega),if_pos hl]
 have fine:¬(x.going=false∨r.try_≠x.try_∨(r.kind=2/\agtLeft x=[])∨(r.kind=3/\agtLeft x≠[]))->(r.kind=2∨r.kind=3)->nextErr x r=0:=fun hl hk=>by
  rw[nextErr,if_neg h,if_neg h2,if_neg k1,if_neg (by omega),if_neg hl]
 have step:r.kind=2->nextErr x r=0->agtLeft x≠[]->∃(b:Nat)(o:Nat),a1=some ⟨b,o,none⟩/\Int.ofNat 0<=0/\0<(n1:Int)/\∃(n n9 n10:Int),(H3.cell b (o+0*3)=some (.int .i64 n)/\H3.cell b (o+0*3+1)=some (.int .i64 n9)/\H3.cell b (o+0*3+2)=some (.int .i64 n10)/\True)/\
   Spec Tryz.prog 204 [.slice a3 n3 c3,.agg #[.int .i64 n,.int .i64 n9,.int .i64 n10]] H3 fun v H'=>∃(a:O)(n c:Nat)(n11:Int),v= .tuple #[.slice a n c,.int .i64 n11]/\(Vg.Next base H3 H'->∃a' n' c' ga' gn' gc',Value.tuple #[.agg #[.slice a n c,.int .i64 x.at_,.int .i64 x.try_,.bool x.going,.int .i64 x.goal.id,.slice ga3 gn3 gc3,.bool x.good],.int .i64 n11]= .tuple #[agtArg (nextV x r) a' n' c' ga' gn' gc',i64 (nextErr x r)]/\Pins H' a' n' (nextV x r).lock/\Pins H' ga' gn' (nextV x r).goal.lock):=fun hk he hne=>by
  obtain⟨o,q,hl⟩:=(left_cases x).resolve_left hne
  rw[hl] at hD
  have hpos:0<n1:=by
   rcases Nat.eq_zero_or_pos n1 with hz|hz
   ·exact absurd (hnil.2 hz) hne
   ·exact hz
  refine hD.step (k:=0) (Ext.trans e2 e3) (by omega) (by omega) fun o' ho'=> ?_
  obtain rfl:o=o':=by simpa using ho'
  have f1:=left_fits h0 hl
  refine(cApply p3 o.kind o.name o.ver).sl2 fun a5 n5 c5 H5 e5 _ hA=> ?_
  have f1':applyErr x.lock ⟨o.kind,o.name,o.ver⟩=0:=f1
  rw[if_pos f1'] at hA
  rw[f1']
  exact good (X:=⟨applied x.lock o,x.at_,x.try_,x.going,x.goal,x.good⟩) he (by rw[agtNext,if_neg k1,if_pos hk,hl]) hA (g3.ext' e5)
 have done:r.kind=3->nextErr x r=0->∃a' n' c' ga' gn' gc',Value.tuple #[.agg #[.slice a3 n3 c3,.int .i64 x.goal.id,.int .i64 x.try_,.bool false,.int .i64 0,.slice none 0 0,.bool r.good],.int .i64 0]= .tuple #[agtArg (nextV x r) a' n' c' ga' gn' gc',i64 (nextErr x r)]/\Pins H3 a' n' (nextV x r).lock/\Pins H3 ga' gn' (nextV x r).goal.lock:=fun hk he=>
  good (X:=⟨x.lock,x.goal.id,x.try_,false,⟨0,[]⟩,r.good⟩) he (by rw[agtNext,if_neg k1,if_neg (by omega)]) p3 Sl.nil
 have leaf:∀ {b5:Bool},x.going≠false->r.try_=x.try_->(r.kind=2∨r.kind=3)->b5=(decide (0<(n1:Int)) !=decide (r.kind=2))->((x.going=false∨r.try_≠x.try_∨(r.kind=2/\agtLeft x=[])∨(r.kind=3/\agtLeft x≠[]))↔b5=true):=fun q1 q2 q3 q4=>by
  subst q4
  simp only[ne_eq,hnil]
  have q5:∀p q:Bool,((p !=q)=true)↔ ¬(p=true↔q=true):=by decide
  rw[q5]
  simp only[decide_eq_true_eq]
  constructor
  ·rintro(q|q|q|q)
   ·exact absurd q q1
   ·exact absurd q2 q
   ·omega
   ·omega
  ·intro q
   by_cases hk:r.kind=2
   ·exact .inr (.inr (.inl ⟨hk,by omega⟩))
   ·exact .inr (.inr (.inr ⟨by omega,by omega⟩))
 refine⟨fun k2=>⟨fun _=>⟨_,⟨fun q=>⟨rfl,fun _ _ h=>h,.inl q⟩,fun q=>⟨fun q2=>⟨rfl,fun _ _ h=>h,.inr (.inl q2)⟩,fun q2=>⟨_,neqBool,rfl,fun _ _ h=>h,leaf q (Decidable.not_not.1 q2) (.inl k2) rfl⟩⟩⟩,fun hl=>bad (late hl (.inl k2)) (by omega),fun hl=>⟨fun _=>step k2 (fine hl (.inl k2)) (fun hn=>hl (.inr (.inr (.inl ⟨k2,hn⟩)))),fun h'=>absurd k2 h'⟩⟩,fun h'=>absurd k2 h'⟩,fun k2=>⟨fun k3=> ?_,fun k3=> ?_⟩⟩
 ·refine⟨_,⟨fun q=>⟨rfl,fun _ _ h=>h,.inl q⟩,fun q=>⟨fun q2=>⟨rfl,fun _ _ h=>h,.inr (.inl q2)⟩,fun q2=>⟨_,neqBool,rfl,fun _ _ h=>h,leaf q (Decidable.not_not.1 q2) (.inr k3) rfl⟩⟩⟩,fun hl=>bad (late hl (.inr k3)) (by omega),fun hl=>⟨fun h'=>absurd h' k2,fun _=> ?_⟩⟩
  have hd:=done k3 (fine hl (.inr k3))
  exact⟨hd,hd,hd,hd⟩
 ·exact bad (by rw[nextErr,if_neg h,if_neg h2,if_neg k1,if_pos ⟨k2,k3⟩]) (by omega)
end
open Go Go.Proofs
theorem cReplay{H:Heap}{a a':O}{l c l' c':Nat}{f:Rls}{rs:List Recd}(hp:Pins H a l f.lock)(hr:Recs H a' l' rs):
  Spec Tryz.prog 67 [.agg #[.int .i64 f.id,.slice a l c],.slice a' l' c'] H fun v H'=>∃a n c ga gn gc,v= .tuple #[agtArg (okA (agtReplay f rs)) a n c ga gn gc,i64 (errOf (agtReplay f rs))]/\Pins H' a n (okA (agtReplay f rs)).lock/\Pins H' ga gn (okA (agtReplay f rs)).goal.lock:=by
 refine TryzvcJ Tryz.func67 (by kernel_rfl) (by kernel_rfl) _ rfl (fun base K=>vc63 f.id a a' l c l' c' base H K) fun base hb=> ?_
 have hrl:=hr.len
 have bad:∀ {e:Int} {H':Heap},agtReplay f rs= .error e->∃a n c ga gn gc,Value.tuple #[.agg #[.slice none 0 0,.int .i64 0,.int .i64 0,.bool false,.int .i64 0,.slice none 0 0,.bool false],.int .i64 e]= .tuple #[agtArg (okA (agtReplay f rs)) a n c ga gn gc,i64 (errOf (agtReplay f rs))]/\Pins H' a n (okA (agtReplay f rs)).lock/\Pins H' ga gn (okA (agtReplay f rs)).goal.lock:=fun he=>by
  rw[he];exact⟨none,0,0,none,0,0,rfl,Sl.nil,Sl.nil⟩
 intro b b'
 refine(cNew hp).agt fun a1 n1 c1 ga1 gn1 gc1 H1 e1 _ p1 g1=>fun b2=>⟨fun h=>bad (by rw[agtReplay,if_pos h]),fun h=>⟨fun h200=>bad (by rw[agtReplay,if_neg h,if_pos (by omega)]),fun h200=> ?_⟩⟩
 rw[if_pos (Decidable.not_not.1 h)] at p1 g1⊢
 have hW:agtReplay f rs=replayFrom (newAgt f) rs:=by rw[agtReplay,if_neg h,if_neg (by omega)]
 rw[hW] at bad⊢
 refine⟨fun vs Hc=>∃(y:Agt)(a:O)(n c:Nat)(ga:O)(gn gc:Nat)(d e:Int)(w:Value)(k:Nat),vs=[i64 d,i64 e,i64 k,w,agtArg y a n c ga gn gc]/\Pins Hc a n y.lock/\Pins Hc ga gn y.goal.lock/\k<=l'/\replayFrom y (rs.drop k)=replayFrom (newAgt f) rs,upTo l' 2,
  ⟨newAgt f,a1,n1,c1,ga1,gn1,gc1,0,_,_,0,rfl,p1,g1,by omega,rfl⟩,fun d e m a6 n8 c3 n9 n10 b0 n11 a7 n12 c4 b3 a8 n13 c5 n14 n15 b4 n16 a9 n17 c6 b5 H' hN hI=> ?_⟩
 obtain⟨y,ya,yn,yc,yga,ygn,ygc,d',e',w,k,hvs,hP,hG,hk,hI⟩:=hI
 obtain⟨rfl,rfl,rfl,rfl,⟨rfl,rfl,rfl⟩,rfl,rfl,rfl,rfl,⟨rfl,rfl,rfl⟩,rfl⟩:d=d'/\e=e'/\m=(k:Int)/\Value.agg #[.slice a6 n8 c3,.int .i64 n9,.int .i64 n10,.bool b0,.int .i64 n11,.slice a7 n12 c4,.bool b3]=w/\(a8=ya/\n13=yn/\c5=yc)/\n14=y.at_/\n15=y.try_/\b4=y.going/\n16=y.goal.id/\(a9=yga/\n17=ygn/\c6=ygc)/\b5=y.good:=by simpa using hvs
 refine⟨fun hlt=>hr.recd hN.ext (by omega) hlt fun r ra rn rc hm hq=>fun b8=> ?_,fun hge=> ?_⟩
 ·rw[Int.toNat_natCast] at hm
  rw[drop_at hm,replayFrom] at hI
  refine(cNext hP hG (hq.ext' hN.ext)).agt fun a2 n2 c2 ga2 gn2 gc2 H2 e2 _ p2 g2=>⟨fun h=> ?_,fun h=> ?_⟩
  ·rw[if_neg h] at hI
   exact bad hI.symm
  ·have h0:nextErr y r=0:=Decidable.not_not.1 h
   rw[if_pos h0] at hI
   have hV:nextV y r=agtNext y r:=by rw[nextV,if_pos h0]
   rw[hV] at p2 g2⊢
   rintro q rfl
   rw[wrap_in (by omega) (by omega)]
   exact⟨rfl,⟨agtNext y r,a2,n2,c2,ga2,gn2,gc2,_,_,_,k+1,rfl,p2,g2,by omega,hI⟩,by simp[upTo];omega⟩
 ·rw[drop_all hrl (by omega),replayFrom] at hI
  rw[←hI]
  exact⟨_,_,_,_,_,_,rfl,hP,hG⟩
def f1:Rls:=⟨1,[⟨1,1⟩]⟩
def f2:Rls:=⟨2,[⟨2,1⟩]⟩
def g5:Agt:=⟨[],1,3,true,f2,false⟩
def g7:Agt:=⟨[⟨2,1⟩],2,3,false,⟨0,[]⟩,true⟩
open Go Go.Proofs
structure NA where
 xa:O
 xl:Nat
 xc:Nat
 ga:O
 gl:Nat
 gc:Nat
 ua:O
 ul:Nat
 uc:Nat
 va:O
 vl:Nat
 vc:Nat
abbrev nodCells(x:Nod)(q:NA):List Value:=[.slice q.xa q.xl q.xc,.int .i64 x.a.at_,.int .i64 x.a.try_,.bool x.a.going,.int .i64 x.a.goal.id,.slice q.ga q.gl q.gc,.bool x.a.good,.slice q.ua q.ul q.uc,.slice q.va q.vl q.vc,.bool x.up]
structure NodAt(H:Heap)(x:Nod)(q:NA):Prop where
 lock:Pins H q.xa q.xl x.a.lock
 goal:Pins H q.ga q.gl x.a.goal.lock
 dsk:DskAt H x.d q.ua q.ul q.uc q.va q.vl q.vc
theorem NodAt.ext{H H':Heap}{x:Nod}{q:NA}(h:NodAt H x q)(e:Ext H H'):NodAt H' x q:=⟨h.lock.ext' e,h.goal.ext' e,h.dsk.ext e⟩
def RNod:Rep Nod:=fun H r x=>∃q,r=nodCells x q/\NodAt H x q
theorem RNod.mono:RNod.Mono:=fun H H' r x e ⟨q,h1,h2⟩=>⟨q,h1,h2.ext e⟩
abbrev Nods(H:Heap)(a:O)(n:Nat)(l:List Nod):Prop:=Sl RNod 10 H a n l
structure WA where
 fa:O
 fl:Nat
 fc:Nat
 ra:O
 rl:Nat
 rc:Nat
 wa:O
 wl:Nat
 wc:Nat
 la:O
 ll:Nat
 lc:Nat
 ka:O
 kl:Nat
 kc:Nat
 sa:O
 sl:Nat
 sc:Nat
 ta:O
 tl:Nat
 tc:Nat
 na:O
 nl:Nat
 nc:Nat
 ma:O
 ml:Nat
 mc:Nat
abbrev wldCells(w:Wld)(p:WA):List Value:=[.int .i64 w.c.first.id,.slice p.fa p.fl p.fc,.slice p.ra p.rl p.rc,.slice p.wa p.wl p.wc,.int .i64 w.c.bud,.slice p.la p.ll p.lc,.int .i64 w.h.l.now,.int .i64 w.h.l.goal,.bool w.h.l.back,.slice p.ka p.kl p.kc,.int .i64 w.h.l.nx,.slice p.sa p.sl p.sc,.slice p.ta p.tl p.tc,.bool w.h.up,.slice p.na p.nl p.nc,.slice p.ma p.ml p.mc]
abbrev wldArg(w:Wld)(p:WA):Value:= .agg #[.int .i64 w.c.first.id,.slice p.fa p.fl p.fc,.slice p.ra p.rl p.rc,.slice p.wa p.wl p.wc,.int .i64 w.c.bud,.slice p.la p.ll p.lc,.int .i64 w.h.l.now,.int .i64 w.h.l.goal,.bool w.h.l.back,.slice p.ka p.kl p.kc,.int .i64 w.h.l.nx,.slice p.sa p.sl p.sc,.slice p.ta p.tl p.tc,.bool w.h.up,.slice p.na p.nl p.nc,.slice p.ma p.ml p.mc]
abbrev nodArg(x:Nod)(q:NA):Value:= .agg #[.slice q.xa q.xl q.xc,.int .i64 x.a.at_,.int .i64 x.a.try_,.bool x.a.going,.int .i64 x.a.goal.id,.slice q.ga q.gl q.gc,.bool x.a.good,.slice q.ua q.ul q.uc,.slice q.va q.vl q.vc,.bool x.up]
structure WldAt(H:Heap)(w:Wld)(p:WA):Prop where
 cfg:CfgAt H w.c p.fa p.fl p.ra p.rl p.wa p.wl
 ldr:LdrAt H w.h.l p.la p.ll p.ka p.kl
 dsk:DskAt H w.h.d p.sa p.sl p.sc p.ta p.tl p.tc
 nod:Nods H p.na p.nl w.n
 mail:Mails H p.ma p.ml w.m
theorem WldAt.ext{H H':Heap}{w:Wld}{p:WA}(h:WldAt H w p)(e:Ext H H'):WldAt H' w p:=⟨h.cfg.ext e,h.ldr.ext e,h.dsk.ext e,h.nod.ext RNod.mono e,Sl.ext RMail.mono h.mail e⟩
theorem Sl.node{H H':Heap}{a:O}{n:Nat}{xs:List Nod}(h:Nods H a n xs)(e:Ext H H'){k:Int}(h0:0<=k)(h1:k<n)
  {F:O->Nat->Nat->Int->Int->Bool->Int->O->Nat->Nat->Bool->O->Nat->Nat->O->Nat->Nat->Bool->Prop}
  (hF:∀x q,xs[k.toNat]?=some x->NodAt H x q->F q.xa q.xl q.xc x.a.at_ x.a.try_ x.a.going x.a.goal.id q.ga q.gl q.gc x.a.good q.ua q.ul q.uc q.va q.vl q.vc x.up):
  ∃(b o:Nat),a=some ⟨b,o,none⟩/\0<=k/\k<n/\∃(a:O)(n2 c:Nat)(n3 n4:Int)(b2:Bool)(n5:Int)(a1:O)(n6 c1:Nat)(b3:Bool)(a2:O)(n7 c2:Nat)(a3:O)(n8 c3:Nat)(b4:Bool),
   (H'.cell b (o+k.toNat*10)=some (.slice a n2 c)/\H'.cell b (o+k.toNat*10+1)=some (.int .i64 n3)/\H'.cell b (o+k.toNat*10+2)=some (.int .i64 n4)/\H'.cell b (o+k.toNat*10+3)=some (.bool b2)/\H'.cell b (o+k.toNat*10+4)=some (.int .i64 n5)/\H'.cell b (o+k.toNat*10+5)=some (.slice a1 n6 c1)/\H'.cell b (o+k.toNat*10+6)=some (.bool b3)/\H'.cell b (o+k.toNat*10+7)=some (.slice a2 n7 c2)/\H'.cell b (o+k.toNat*10+8)=some (.slice a3 n8 c3)/\H'.cell b (o+k.toNat*10+9)=some (.bool b4)/\True)/\F a n2 c n3 n4 b2 n5 a1 n6 c1 b3 a2 n7 c2 a3 n8 c3 b4:=by
 obtain⟨b,o,r,x,ha,hx,hr,hc⟩:=h.get h0 h1
 obtain⟨q,rfl,hq⟩:=hr
 have g:∀j v,(nodCells x q)[j]?=some v->H'.cell b (o+k.toNat*10+j)=some v:=fun j v hj=>Heap.cell_next e (hc j v hj)
 exact⟨b,o,ha,h0,h1,_,_,_,_,_,_,_,_,_,_,_,_,_,_,_,_,_,_,⟨g 0 _ rfl,g 1 _ rfl,g 2 _ rfl,g 3 _ rfl,g 4 _ rfl,g 5 _ rfl,g 6 _ rfl,g 7 _ rfl,g 8 _ rfl,g 9 _ rfl,trivial⟩,hF x q hx hq⟩
def lgErr(d:Dsk)(up:Bool):Int:=if dskErr d≠0 then dskErr d else if up=true/\d.wait≠[] then 4 else 0
theorem logOf_lg{d:Dsk}{up:Bool} :logOf d up=if lgErr d up≠0 then .error (lgErr d up) else .ok (if up=true then dskRecs d else []):=by
 unfold logOf lgErr
 by_cases h:dskErr d≠0
 ·rw[if_pos h,if_pos h,if_pos h]
 ·rw[if_neg h,if_neg h]
  by_cases h2:up=true/\d.wait≠[]
  ·rw[if_pos h2,if_pos h2,if_pos (by omega)]
  ·rw[if_neg h2,if_neg h2,if_neg (show¬(0:Int)≠0 by simp)]
section
variable {H : Heap} (hL : Lb H)
include hL
theorem cLog{sa ta:O}{sl sc tl tc:Nat}{d:Dsk}(hd:DskAt H d sa sl sc ta tl tc)(up:Bool):Spec Tryz.prog 189 [dskArg sa sl sc ta tl tc,.bool up] H fun v H'=>∃a n c,v= .tuple #[.slice a n c,i64 (lgErr d up)]/\Recs H' a n (if lgErr d up=0 then dskRecs d else []):=by
 refine TryzvcJ Tryz.func189 (by kernel_rfl) (by kernel_rfl) _ rfl (fun base K=>vx189 sa ta sl sc tl tc up base H K) fun base hb=>fun b=> ?_
 refine(cRecover hL hd).mono fun v H1 e1 hv=> ?_
 obtain⟨a1,n1,c1,a2,n2,c2,a3,n3,c3,G,rows,hv,hD,hS⟩:=hv
 refine⟨_,_,_,_,_,_,_,_,_,_,hv,fun hN1=>fun b1=> ?_⟩
 have hw:=hd.wait.len
 have hR:=hS.sl RRec.mono (by omega) hN1
 have hwl:d.wait≠[]↔0<tl:=by rw[←hw,List.length_pos_iff]
 refine⟨dskErr d=0/\up=true/\0<tl,⟨fun h0=>⟨fun hu=>⟨rfl,subH,⟨fun h=>by have:=h.2.2;omega,fun h=>⟨h0,hu,by omega⟩⟩⟩,fun hu=>⟨rfl,subH,fun h=>by have:=h.2.1;rw[hu] at this;cases this⟩⟩,fun h0=>⟨rfl,subH,fun h=>h0 h.1⟩⟩,fun h=> ?_,fun h=> ?_⟩
 ·have e:lgErr d up=4:=by unfold lgErr;rw[if_neg (by omega),if_pos ⟨h.2.1,hwl.2 h.2.2⟩]
  rw[e]
  exact⟨none,0,0,rfl,Sl.nil⟩
 ·have e:lgErr d up=dskErr d:=by
   unfold lgErr
   by_cases h0:dskErr d=0
   ·rw[if_neg (by omega),if_neg (fun h2=>h ⟨h0,h2.1,hwl.1 h2.2⟩),h0]
   ·rw[if_pos h0]
  rw[e]
  exact⟨_,_,_,rfl,hR⟩
theorem cCheckHead{w:Wld}{p:WA}(hw:WldAt H w p):Spec Tryz.prog 105 [wldArg w p] H fun v _=>v=i64 (hedErr w.c w.h):=by
 refine TryzvcJ Tryz.func105 (by kernel_rfl) (by kernel_rfl) _ rfl (fun base K=>vx105 w.c.first.id w.c.bud p.fa p.ra p.wa p.fl p.fc p.rl p.rc p.wl p.wc w.h.l.now w.h.l.goal w.h.l.nx w.h.l.back p.la p.ka p.ll p.lc p.kl p.kc p.sa p.ta p.sl p.sc p.tl p.tc w.h.up p.na p.ma p.nl p.nc p.ml p.mc base H K) fun base hb=>fun b=> ?_
 refine(cLog hL hw.dsk w.h.up).sl2 fun a n c H1 e1 hN1 hR=>⟨fun h=> ?_,fun h=> ?_⟩
 ·unfold hedErr
  rw[logOf_lg,if_pos h]
 have h:=Decidable.not_not.1 h
 rw[if_pos h] at hR
 have tailH:∀ {H2:Heap} {Ow:List Bx} {la:O} {ll lc:Nat} {ka:O} {kl kc:Nat} (e2:Ext H1 H2)(l:List Recd),l=(if w.h.up=true then dskRecs w.h.d else [])->LdrAt H2 (okLd (ledReplay w.c l)) la ll ka kl->
   ∃(φ:Prop),((errOf (ledReplay w.c l)=0->Spec Tryz.prog 36 [ldrArg (okLd (ledReplay w.c l)) la ll lc ka kl kc,ldrArg w.h.l p.la p.ll p.lc p.ka p.kl p.kc] H2 fun v H'=>∃b3:Bool,v= .bool b3/\(Next base H2 H'->Ow=Ow/\SubH H2 H'/\(φ↔b3=false)))/\(¬errOf (ledReplay w.c l)=0->Ow=Ow/\SubH H2 H2/\¬φ))/\(φ->i64 4=i64 (hedErr w.c w.h))/\(¬φ->i64 (errOf (ledReplay w.c l))=i64 (hedErr w.c w.h)):=by
  intro H2 Ow la ll lc ka kl kc e2 l hl hLd
  refine⟨errOf (ledReplay w.c l)=0/\okLd (ledReplay w.c l)≠w.h.l,⟨fun h0=>(cLdrSame hLd ((hw.ldr.ext e1).ext e2)).bool1 fun H3 e3 _=>⟨rfl,e3,?_⟩,fun h0=>⟨rfl,subH,fun h=>h0 h.1⟩⟩,fun hφ=> ?_,fun hφ=> ?_⟩
  ·rw[decide_eq_false_iff_not]
   exact⟨fun h=>h.2,fun h=>⟨h0,h⟩⟩
  ·have hE:hedErr w.c w.h=4:=by
    unfold hedErr
    rw[logOf_lg,if_neg (by omega),←hl]
    dsimp only
    cases hr:ledReplay w.c l with
    |error e=>rw[hr] at hφ;exact absurd hφ.1 (ledReplay_err hr)
    |ok x=>rw[hr] at hφ;exact if_neg hφ.2
   rw[hE]
  ·have hE:hedErr w.c w.h=errOf (ledReplay w.c l):=by
    unfold hedErr
    rw[logOf_lg,if_neg (by omega),←hl]
    dsimp only
    cases hr:ledReplay w.c l with
    |error e=>rfl
    |ok x=>rw[hr] at hφ;exact if_pos (Decidable.byContradiction fun hn=>hφ ⟨rfl,hn⟩)
   rw[hE]
 refine⟨fun hu=> ?_,fun hu=> ?_⟩
 ·refine(cReplayL (rs:=[]) (hw.cfg.ext e1) Sl.nil).ldr fun la ll lc ka kl kc H2 e2 hN2 hLd=>fun b2=> ?_
  exact tailH e2 [] (by rw[hu];rfl) hLd
 ·refine(cReplayL (hw.cfg.ext e1) hR).ldr fun la ll lc ka kl kc H2 e2 hN2 hLd=>fun b2=> ?_
  exact tailH e2 _ (by rw[if_pos (by simpa using hu)]) hLd
theorem cCheckNode{w:Wld}{p:WA}(hw:WldAt H w p){x:Nod}{q:NA}(hx:NodAt H x q):Spec Tryz.prog 106 [wldArg w p,nodArg x q] H fun v _=>v=i64 (nodErr w.c.first x):=by
 refine TryzvcJ Tryz.func106 (by kernel_rfl) (by kernel_rfl) _ rfl (fun base K=>vx106 w.c.first.id w.c.bud p.fa p.ra p.wa p.fl p.fc p.rl p.rc p.wl p.wc w.h.l.now w.h.l.goal w.h.l.nx w.h.l.back p.la p.ka p.ll p.lc p.kl p.kc p.sa p.ta p.sl p.sc p.tl p.tc w.h.up p.na p.ma p.nl p.nc p.ml p.mc x.a.at_ x.a.try_ x.a.goal.id x.a.going x.a.good q.xa q.ga q.xl q.xc q.gl q.gc q.ua q.va q.ul q.uc q.vl q.vc x.up base H K) fun base hb=>fun b b'=> ?_
 refine(cLog hL hx.dsk x.up).sl2 fun a n c H1 e1 hN1 hR=>⟨fun h=> ?_,fun h=> ?_⟩
 ·unfold nodErr
  rw[logOf_lg,if_pos h]
 have h:=Decidable.not_not.1 h
 rw[if_pos h] at hR
 have tailN:∀ {H2:Heap} {Ow:List Bx} {ya:O} {yl yc:Nat} {za:O} {zl zc:Nat} (e2:Ext H1 H2)(l:List Recd),l=(if x.up=true then dskRecs x.d else [])->Pins H2 ya yl (okA (agtReplay w.c.first l)).lock->Pins H2 za zl (okA (agtReplay w.c.first l)).goal.lock->
   ∃(φ:Prop),((errOf (agtReplay w.c.first l)=0->Spec Tryz.prog 38 [agtArg (okA (agtReplay w.c.first l)) ya yl yc za zl zc,agtArg x.a q.xa q.xl q.xc q.ga q.gl q.gc] H2 fun v H'=>∃b3:Bool,v= .bool b3/\(Next base H2 H'->Ow=Ow/\SubH H2 H'/\(φ↔b3=false)))/\(¬errOf (agtReplay w.c.first l)=0->Ow=Ow/\SubH H2 H2/\¬φ))/\(φ->i64 4=i64 (nodErr w.c.first x))/\(¬φ->i64 (errOf (agtReplay w.c.first l))=i64 (nodErr w.c.first x)):=by
  intro H2 Ow ya yl yc za zl zc e2 l hl hA hB
  refine⟨errOf (agtReplay w.c.first l)=0/\okA (agtReplay w.c.first l)≠x.a,⟨fun h0=>(cAgtSame hA hB ((hx.lock.ext' e1).ext' e2) ((hx.goal.ext' e1).ext' e2)).bool1 fun H3 e3 _=>⟨rfl,e3,?_⟩,fun h0=>⟨rfl,subH,fun h=>h0 h.1⟩⟩,fun hφ=> ?_,fun hφ=> ?_⟩
  ·rw[decide_eq_false_iff_not]
   exact⟨fun h=>h.2,fun h=>⟨h0,h⟩⟩
  ·have hE:nodErr w.c.first x=4:=by
    unfold nodErr
    rw[logOf_lg,if_neg (by omega),←hl]
    dsimp only
    cases hr:agtReplay w.c.first l with
    |error e=>rw[hr] at hφ;exact absurd hφ.1 (agtReplay_err hr)
    |ok x=>rw[hr] at hφ;exact if_neg hφ.2
   rw[hE]
  ·have hE:nodErr w.c.first x=errOf (agtReplay w.c.first l):=by
    unfold nodErr
    rw[logOf_lg,if_neg (by omega),←hl]
    dsimp only
    cases hr:agtReplay w.c.first l with
    |error e=>rfl
    |ok x=>rw[hr] at hφ;exact if_pos (Decidable.byContradiction fun hn=>hφ ⟨rfl,hn⟩)
   rw[hE]
 refine⟨fun hu=> ?_,fun hu=> ?_⟩
 ·refine(cReplay (rs:=[]) (hw.cfg.pins.ext' e1) Sl.nil).agt fun ya yl yc za zl zc H2 e2 hN2 hA hB=>fun b2=> ?_
  exact tailN e2 [] (by rw[hu];rfl) hA hB
 ·refine(cReplay (hw.cfg.pins.ext' e1) hR).agt fun ya yl yc za zl zc H2 e2 hN2 hA hB=>fun b2=> ?_
  exact tailN e2 _ (by rw[if_pos (by simpa using hu)]) hA hB
end
open Go Go.Proofs
open Go.ChangeShapes Go.WideShapes Go.ChangeAt Go.RowKit
section
variable {HH : Type} {enc : TypeId × Value->HH} {w : World} {base : Nat} {spare : Nat->Bool} {held : Bool}
def RHed:Rep Hed:=fun H r x=>∃la ll lc ka kl kc sa sl sc ta tl tc,r=[.slice la ll lc,i64 x.l.now,i64 x.l.goal,.bool x.l.back,.slice ka kl kc,i64 x.l.nx,.slice sa sl sc,.slice ta tl tc,.bool x.up]/\LdrAt H x.l la ll ka kl/\DskAt H x.d sa sl sc ta tl tc
theorem reads_hed:ReadsAs enc Tryz.prog w base spare held 37 RHed:=fun fuel cs x h=>by
 have cb: Tryz.prog.cellsOf 4=1:=by kernel_rfl
 have cL: Tryz.prog.cellsOf 32=6:=by kernel_rfl
 have cD: Tryz.prog.cellsOf 35=2:=by kernel_rfl
 have cH: Tryz.prog.cellsOf 37=9:=by kernel_rfl
 have hl:=structLen Tryz.underlying37 h
 rw[cH] at hl
 obtain⟨l,la,ll,lc,ka,kl,kc,h0,g0⟩:=fieldStruct Tryz.underlying37 h (i:=0) rfl reads_ldr cL rfl
 obtain⟨d,sa,sn,sc,wa,wn,wc,h1,g1⟩:=fieldStruct Tryz.underlying37 h (i:=1) rfl reads_disk cD rfl
 obtain⟨u,h2⟩:=fieldBool Tryz.underlying37 h (i:=2) rfl Tryz.underlying4 cb rfl
 refine⟨⟨l,d,u⟩,la,ll,lc,ka,kl,kc,sa,sn,sc,wa,wn,wc,?_,g0,g1⟩
 match cs,hl with
 | [x0,x1,x2,x3,x4,x5,x6,x7,x8],_=>
  simp at h0 h1 h2
  obtain⟨rfl,rfl,rfl,rfl,rfl,rfl⟩:=h0
  obtain⟨rfl,rfl⟩:=h1
  subst h2
  rfl
theorem reads_nod:ReadsAs enc Tryz.prog w base spare held 58 RNod:=fun fuel cs x h=>by
 have cb: Tryz.prog.cellsOf 4=1:=by kernel_rfl
 have cA: Tryz.prog.cellsOf 46=7:=by kernel_rfl
 have cD: Tryz.prog.cellsOf 35=2:=by kernel_rfl
 have cN: Tryz.prog.cellsOf 58=10:=by kernel_rfl
 have hl:=structLen Tryz.underlying58 h
 rw[cN] at hl
 obtain⟨l,la,ll,lc,ka,kl,kc,h0,g0,g0'⟩:=fieldStruct Tryz.underlying58 h (i:=0) rfl reads_agt cA rfl
 obtain⟨d,sa,sn,sc,wa,wn,wc,h1,g1⟩:=fieldStruct Tryz.underlying58 h (i:=1) rfl reads_disk cD rfl
 obtain⟨u,h2⟩:=fieldBool Tryz.underlying58 h (i:=2) rfl Tryz.underlying4 cb rfl
 refine⟨⟨l,d,u⟩,⟨la,ll,lc,ka,kl,kc,sa,sn,sc,wa,wn,wc⟩,?_,g0,g0',g1⟩
 match cs,hl with
 | [x0,x1,x2,x3,x4,x5,x6,x7,x8,x9],_=>
  simp at h0 h1 h2
  obtain⟨rfl,rfl,rfl,rfl,rfl,rfl,rfl⟩:=h0
  obtain⟨rfl,rfl⟩:=h1
  subst h2
  rfl
theorem RNod.len10{H:Heap}{r:List Value}{x:Nod}(h:RNod H r x):r.length=10:=by obtain⟨q,rfl,_⟩:=h;rfl
theorem reads_nods:ReadsAs enc Tryz.prog w base spare held 38 (RSl RNod 10):=reads_slice Tryz.underlying38 (by kernel_rfl) (by omega) reads_nod RNod.len10
def RWld:Rep Wld:=fun H r x=>∃p,r=wldCells x p/\WldAt H x p
theorem reads_wld:ReadsAs enc Tryz.prog w base spare held 41 RWld:=fun fuel cs x h=>by
 have cC: Tryz.prog.cellsOf 28=5:=by kernel_rfl
 have cH: Tryz.prog.cellsOf 37=9:=by kernel_rfl
 have cn: Tryz.prog.cellsOf 38=1:=by kernel_rfl
 have cm: Tryz.prog.cellsOf 39=1:=by kernel_rfl
 have cW: Tryz.prog.cellsOf 41=16:=by kernel_rfl
 have hl:=structLen Tryz.underlying41 h
 rw[cW] at hl
 obtain⟨c,fa,fl,fc,ra,rl,rc,wa,wl,wc,h0,g0⟩:=fieldStruct Tryz.underlying41 h (i:=0) rfl reads_conf cC rfl
 obtain⟨hd,la,ll,lc,ka,kl,kc,sa,sl,sc,ta,tl,tc,h1,g1,g1'⟩:=fieldStruct Tryz.underlying41 h (i:=1) rfl reads_hed cH rfl
 obtain⟨na,nl,nc,ns,h2,g2⟩:=fieldSl Tryz.underlying41 h (i:=2) rfl reads_nods cn rfl
 obtain⟨ma,ml,mc,ms,h3,g3⟩:=fieldSl Tryz.underlying41 h (i:=3) rfl reads_mails cm rfl
 refine⟨⟨c,hd,ns,ms⟩,⟨fa,fl,fc,ra,rl,rc,wa,wl,wc,la,ll,lc,ka,kl,kc,sa,sl,sc,ta,tl,tc,na,nl,nc,ma,ml,mc⟩,?_,g0,g1,g1',g2,g3⟩
 match cs,hl with
 | [x0,x1,x2,x3,x4,x5,x6,x7,x8,x9,x10,x11,x12,x13,x14,x15],_=>
  simp at h0 h1 h2 h3
  obtain⟨rfl,rfl,rfl,rfl,rfl⟩:=h0
  obtain⟨rfl,rfl,rfl,rfl,rfl,rfl,rfl,rfl,rfl⟩:=h1
  subst h2 h3
  rfl
abbrev hapCells(x:Hap)(a:O)(l c:Nat):List Value:=[i64 x.kind,i64 x.agent,i64 x.num,.bool x.good,.slice a l c]
def RHap:Rep Hap:=fun H r x=>∃a l c,r=hapCells x a l c/\Pins H a l x.lock
theorem RHap.len{H:Heap}{r:List Value}{x:Hap}(h:RHap H r x):r.length=5:=by obtain⟨a,l,c,rfl,_⟩:=h;rfl
theorem reads_hap:ReadsAs enc Tryz.prog w base spare held 62 RHap:=fun fuel cs x h=>by
 have ci: Tryz.prog.cellsOf 3=1:=by kernel_rfl
 have cb: Tryz.prog.cellsOf 4=1:=by kernel_rfl
 have cp: Tryz.prog.cellsOf 22=1:=by kernel_rfl
 have cX: Tryz.prog.cellsOf 62=5:=by kernel_rfl
 have hl:=structLen Tryz.underlying62 h
 rw[cX] at hl
 obtain⟨k,h0,_⟩:=fieldInt Tryz.underlying62 h (i:=0) rfl Tryz.underlying3 ci rfl
 obtain⟨g,h1,_⟩:=fieldInt Tryz.underlying62 h (i:=1) rfl Tryz.underlying3 ci rfl
 obtain⟨n,h2,_⟩:=fieldInt Tryz.underlying62 h (i:=2) rfl Tryz.underlying3 ci rfl
 obtain⟨b,h3⟩:=fieldBool Tryz.underlying62 h (i:=3) rfl Tryz.underlying4 cb rfl
 obtain⟨a,l,c,ps,h4,hp⟩:=fieldSl Tryz.underlying62 h (i:=4) rfl reads_pins cp rfl
 refine⟨⟨k,g,n,b,ps⟩,a,l,c,?_,hp⟩
 match cs,hl with
 | [x0,x1,x2,x3,x4],_=>
  simp at h0 h1 h2 h3 h4
  subst h0 h1 h2 h3 h4
  rfl
end
open Go Go.Proofs
theorem rhap_mono:RHap.Mono:=fun H H' r x e h=>by
 obtain⟨a,l,c,rfl,hp⟩:=h
 exact⟨a,l,c,rfl,hp.ext' e⟩
theorem RHap.mono:RHap.Mono:=rhap_mono
theorem rhap_one{H:Heap}{r:List Value}{m:Hap}(h:RHap H r m):allOne r=true:=by obtain⟨a,n,c,rfl,_⟩:=h;rfl
theorem cGrowH{H:Heap}{k:Int}(h0:0<=k)(h1:k<=1000000):Spec Tryz.prog 185 [.slice none 0 0,.int .i64 k] H fun v H'=>∃a c,v= .slice a 0 c/\Fresh H H' 62 5 a 0 c []:=by
 refine TryzvcJ Tryz.func185 (by kernel_rfl) (by kernel_rfl) _ rfl (fun base K=>vk185 none 0 0 k base H K) fun base hb=> ?_
 refine⟨fun h=>by omega,fun _=>fun r hr=> ?_⟩
 obtain rfl:r=0:=by rw[hr,wrap_in (by omega) (by omega)];omega
 rintro r rfl
 rw[wrap_in (by omega) (by omega)]
 refine⟨fun h=>⟨by omega,by omega,[],k.toNat,by omega,by omega,by omega,Row.zero,by omega,by omega,fun g c' H1 hN hg hR=>⟨by omega,by omega,?_⟩⟩,fun h=>⟨none,0,rfl,Fresh.zero⟩⟩
 refine⟨_,_,rfl,?_⟩
 have:=hR.short (m:=0) (by omega)
 rw[Nat.zero_mul,List.take_zero] at this
 exact this.fresh hb
theorem cConcatH{H:Heap}{a:O}{l c:Nat}{bss:List (List Hap)}(hx:Sl (RSl RHap 5) 1 H a l bss)(hl:l<=100)(hn:bss.flatten.length<=200000):Spec Tryz.prog 97 [.slice a l c] H fun v H'=>∃a n c,v= .slice a n c/\n<=c/\Sl RHap 5 H' a n bss.flatten:=by
 refine TryzvcJ Tryz.func97 (by kernel_rfl) (by kernel_rfl) _ rfl (fun base K=>vk97 a l c base H K) fun base hb=> ?_
 have hbl:=hx.len
 have hpart:∀k,(bss.take k).flatten.length<=bss.flatten.length:=fun k=>by
  have:(bss.take k++bss.drop k).flatten.length=bss.flatten.length:=by rw[List.take_append_drop]
  rw[List.flatten_append,List.length_append] at this
  omega
 have hnext:∀k x,bss[k]?=some x->(bss.take (k+1)).flatten=(bss.take k).flatten++x:=fun k x h=>by
  rw[take_at h,List.flatten_append];simp
 refine⟨fun vs H'=>∃(k:Nat),vs=[i64 ((bss.take k).flatten.length:Nat),i64 k]/\k<=l,upTo l 1,⟨0,rfl,by omega⟩,fun n n1 H1 hN1 hI=> ?_⟩
 obtain⟨k,hvs,hk⟩:=hI
 obtain⟨rfl,rfl⟩:n=((bss.take k).flatten.length:Nat)/\n1=(k:Int):=by simpa using hvs
 refine⟨fun hlt=>hx.slice hN1.ext (by omega) hlt fun x a' n' c' hxk hS=> ?_,fun hge=> ?_⟩
 ·rw[Int.toNat_natCast] at hxk
  have h1:=hS.len
  have h2:=hpart (k+1)
  rw[hnext k x hxk,List.length_append] at h2
  rintro r rfl
  rw[wrap_in (by omega) (by omega)]
  refine⟨fun h=>by omega,fun _=> ?_⟩
  rintro r rfl
  rw[wrap_in (by omega) (by omega)]
  exact⟨⟨k+1,by rw[hnext k x hxk,List.length_append,h1];rfl,by omega⟩,by simp[upTo];omega⟩
 ·have h2:=hpart k
  refine(cGrowH (k:=((bss.take k).flatten.length:Nat)) (by omega) (by omega)).mono fun v H2 e2 hv=> ?_
  obtain⟨a2,c2,rfl,hF⟩:=hv
  refine⟨a2,0,c2,rfl,fun hN2=> ?_⟩
  have hO:OwnSl RHap 5 62 base H H2 a2 0 c2 [] ([]:List Hap):=⟨hF.row hN2,by simp,trivial,Ext.trans hN1.ext e2,fun hc g hg=>by
   rcases hF.2.2.2 with⟨_,h⟩|⟨g',k',h1,h2,_⟩
   ·exact absurd h hc
   ·rw[hg] at h1;simp at h1;subst h1
    cases hq:H g with
    |none=>rfl
    |some kb=>rw[hN1.ext _ _ hq] at h2;cases h2⟩
  refine⟨fun vs H'=>∃(k:Nat)(a3:O)(n3 c3:Nat)(rows:List (List Value)),vs=[.slice a3 n3 c3,i64 k]/\k<=l/\OwnSl RHap 5 62 base H H' a3 n3 c3 rows (bss.take k).flatten,upTo l 1,
   ⟨0,a2,0,c2,[],rfl,by omega,hO⟩,fun a3 n3 c3 n4 H3 hN3 hI=> ?_⟩
  obtain⟨k,a3',n3',c3',rows,hvs,hk,hO3⟩:=hI
  obtain⟨⟨rfl,rfl,rfl⟩,rfl⟩:(a3=a3'/\n3=n3'/\c3=c3')/\n4=(k:Int):=by simpa using hvs
  obtain⟨r1,r2⟩:=hO3.rlen (by omega)
  refine⟨fun hlt=>hx.slice hN3.ext (by omega) hlt fun x a' n' c' hxk hS=> ?_,fun hge=> ?_⟩
  ·rw[Int.toNat_natCast] at hxk
   have h1:=hS.len
   have h3:=hpart (k+1)
   rw[hnext k x hxk,List.length_append] at h3
   obtain⟨rs,p1,p2,p3,p4⟩:=hS.rows RHap.len
   refine⟨_,_,hO3.row,p3,allOne_rows rhap_one p2,p4.imp id (fun⟨b,o,hb',hc⟩=>⟨b,o,hb',cellsAt_ext hN3.ext hc⟩),by omega,by omega,fun a5 c5 H5 hG5 hR5=> ?_⟩
   rintro r rfl
   rw[wrap_in (by omega) (by omega)]
   refine⟨⟨k+1,a5,_,c5,rows++rs,rfl,by omega,?_⟩,by simp[upTo];omega⟩
   rw[hnext k x hxk]
   exact hO3.grew hG5 hR5 p1 p2
  ·obtain rfl:k=l:=by omega
   rw[←hbl,List.take_length] at hO3
   exact⟨_,_,_,rfl,hO3.row.2.1,hO3.sl RHap.mono (by omega)⟩
open Go
theorem hap_lose{w y:Wld}{x:Hap}(hk:x.kind=11)(hy:wHap w x= .ok y):y.h=w.h/\y.n=w.n:=by
 unfold wHap at hy
 rw[if_neg (by omega),if_pos hk] at hy
 split at hy
 ·cases hy
 ·obtain rfl:=Except.ok.inj hy
  exact⟨rfl,rfl⟩
theorem hap_take{w y:Wld}{x:Hap}(hk:x.kind=9∨x.kind=10∨x.kind=11)(hy:wHap w x= .ok y):takeErr w.m x.num=0:=by
 unfold wHap at hy
 by_cases h1:x.kind=9∨x.kind=10
 ·rw[if_pos h1] at hy
  unfold wHear at hy
  split at hy
  ·cases hy
  ·rename_i h;exact Decidable.not_not.1 h
 ·rw[if_neg h1,if_pos (by omega)] at hy
  split at hy
  ·cases hy
  ·rename_i h;exact Decidable.not_not.1 h
open Go
def Ahead(w:Wld)(j:Int):Prop:=∀(o:Nat)(b:Kn),w.h.l.ags[o]?=some b->waveOf w.c.waves o<j->b.st=2∨b.st=3
theorem flat_ge:∀ {ws:List (List Int)},(∀w∈ws,w≠[])->ws.length<=ws.flatten.length
 | [],_=>by simp
 |w::r,h=>by
  have ih:=flat_ge (ws:=r) fun x hx=>h x (List.mem_cons_of_mem _ hx)
  have h0:w.length≠0:=fun e=>h w List.mem_cons_self (List.eq_nil_of_length_eq_zero e)
  simp only[List.flatten_cons,List.length_append,List.length_cons]
  omega
open Go
structure SNod where
 a:Agt
 rs:List Recd
 up:Bool
structure Skl where
 c:Conf
 l:Ldr
 rs:List Recd
 up:Bool
 n:List SNod
 m:List Mail
def sLead(s:Skl)(r:Recd):Except Int Skl:=if ledErr s.c s.l r≠0 then .error (ledErr s.c s.l r) else .ok { s with l:=ledNext s.l r,rs:=s.rs++[r] }
def sDoes(s:Skl)(k:Nat)(r:Recd):Except Int Skl:=
 match s.n[k]? with
 |none=> .error 5
 |some n=>if nextErr n.a r≠0 then .error (nextErr n.a r) else .ok { s with n:=s.n.set k ⟨agtNext n.a r,n.rs++[r],n.up⟩ }
def sPost(s:Skl)(m:Mail):Skl:=if sendErr s.m m=0 then{ s with m:=sent s.m m } else s
def sReport(s:Skl)(k:Nat):Skl:=
 match s.n[k]? with
 |none=>s
 |some n=>sPost s (repMail k n.a)
def sTell(s:Skl)(x:Hap):Except Int Skl:=
 if turnErr s.c s.l x.agent≠0 then .error (turnErr s.c s.l x.agent) else
 if x.kind=4 then
  (match s.l.ags[x.agent.toNat]? with
   |none=> .error 5
   |some a=>if a.st≠1∨a.back≠s.l.back then .error 7 else .ok (sPost s ⟨x.agent,a.try_,false,false,turnRel s.c s.l x.agent⟩))
 else match sLead s ⟨6,x.agent,s.l.nx,0,false,⟨0,[]⟩⟩ with
  | .error e=> .error e
  | .ok y=> .ok (sPost y ⟨x.agent,s.l.nx,false,false,turnRel s.c s.l x.agent⟩)
def sStep(s:Skl)(x:Hap)(n:SNod):Except Int Skl:=
 if n.a.going=false then .error 7 else
 if agtErr n.a≠0 then .error (agtErr n.a) else
 if agtLeft n.a≠[] then sDoes s x.agent.toNat ⟨2,0,n.a.try_,0,false,⟨0,[]⟩⟩ else
 match sDoes s x.agent.toNat ⟨3,0,n.a.try_,0,x.good,⟨0,[]⟩⟩ with
 | .error e=> .error e
 | .ok y=> .ok (sReport y x.agent.toNat)
def sOrSame(s:Skl):Except Int Skl->Skl
 | .ok y=>y
 | .error _=>s
def sHear(s:Skl)(x:Hap):Except Int Skl:=
 if takeErr s.m x.num≠0 then .error (takeErr s.m x.num) else
 match s.n[(took s.m x.num).agent.toNat]? with
 |none=> .error 5
 |some n=>
  if((took s.m x.num).rep=true/\s.up=false)∨((took s.m x.num).rep=false/\n.up=false) then .error 7 else
  let s1:Skl:= { s with m:=left s.m x.num (decide (x.kind=10)) }
  if(took s.m x.num).rep=true then .ok (sOrSame s1 (sLead s1 ⟨7,(took s.m x.num).agent,(took s.m x.num).try_,0,(took s.m x.num).good,⟨0,[]⟩⟩)) else
  if(took s.m x.num).try_=n.a.try_/\n.a.going=false then .ok (sReport s1 (took s.m x.num).agent.toNat) else
  .ok (sOrSame s1 (sDoes s1 (took s.m x.num).agent.toNat ⟨1,0,(took s.m x.num).try_,0,false,(took s.m x.num).rel⟩))
def sPower(s:Skl)(x:Hap):Except Int Skl:=
 if x.agent<0 then
  (if s.up=decide (x.kind=13) then .error 7 else
   match ledReplay s.c (if x.kind=12 then [] else s.rs) with
   | .error e=> .error e
   | .ok l=> .ok { s with l:=l,up:= !s.up })
 else match s.n[x.agent.toNat]? with
  |none=> .error 5
  |some n=>
   if n.up=decide (x.kind=13) then .error 7 else
   match agtReplay s.c.first (if x.kind=12 then [] else n.rs) with
   | .error e=> .error e
   | .ok a=> .ok { s with n:=s.n.set x.agent.toNat ⟨a,n.rs,!n.up⟩ }
def sHapRec(s:Skl)(x:Hap):Recd:=
 if x.kind=1 then⟨4,0,0,0,false,⟨s.l.rels.length+1,x.lock⟩⟩ else
 if x.kind=2 then⟨5,0,0,x.num,false,⟨0,[]⟩⟩ else
 if x.kind=5 then⟨8,0,0,0,false,⟨0,[]⟩⟩ else⟨9,0,0,0,false,⟨0,[]⟩⟩
def sHap(s:Skl)(x:Hap):Except Int Skl:=
 if x.kind=9∨x.kind=10 then sHear s x else
 if x.kind=11 then(if takeErr s.m x.num≠0 then .error (takeErr s.m x.num) else .ok { s with m:=left s.m x.num false }) else
 if x.kind=1∨x.kind=2∨x.kind=5∨x.kind=6 then(if s.up=false then .error 7 else sLead s (sHapRec s x)) else
 if x.kind<1∨13<x.kind then .error 4 else
 if(s.n.length:Int)<=x.agent∨(x.agent<0/\x.kind≠12/\x.kind≠13) then .error 5 else
 if x.kind=3∨x.kind=4 then(if s.up=false then .error 7 else sTell s x) else
 if x.kind=12∨x.kind=13 then sPower s x else
 match s.n[x.agent.toNat]? with
 |none=> .error 5
 |some n=>
  if n.up=false then .error 7 else
  if x.kind=7 then sStep s x n else
  if n.a.going=true∨n.a.try_=0 then .error 7 else .ok (sReport s x.agent.toNat)
def sRunFrom:Skl->List Hap->Skl×List Int
 |s,[]=>(s,[])
 |s,x::q=>match sHap s x with
  | .ok y=>((sRunFrom y q).1,0::(sRunFrom y q).2)
  | .error e=>((sRunFrom s q).1,e::(sRunFrom s q).2)
def freshSkl(c:Conf):Skl:=⟨c,newLdr c,[],true,List.replicate (agentsOf c.waves).toNat ⟨newAgt c.first,[],true⟩,[]⟩
structure NRel(b:Nat)(n:Nod)(q:SNod):Prop where
 a:n.a=q.a
 d:DOk n.d q.rs
 len:q.rs.length<=b
 up:n.up=q.up
structure SRel(b:Nat)(w:Wld)(s:Skl):Prop where
 c:w.c=s.c
 l:w.h.l=s.l
 d:DOk w.h.d s.rs
 len:s.rs.length<=b
 up:w.h.up=s.up
 n:w.n.length=s.n.length
 at_:∀(k:Nat)(n:Nod)(q:SNod),w.n[k]?=some n->s.n[k]?=some q->NRel b n q
 m:w.m=s.m
def both(R:Wld->Skl->Prop):Except Int Wld->Except Int Skl->Prop
 | .ok w,.ok s=>R w s
 | .error e,.error f=>e=f
 |_,_=>False
theorem NRel.mono{b b':Nat}{n:Nod}{q:SNod}(h:NRel b n q)(hb:b<=b'):NRel b' n q:=⟨h.a,h.d,Nat.le_trans h.len hb,h.up⟩
theorem SRel.mono{b b':Nat}{w:Wld}{s:Skl}(h:SRel b w s)(hb:b<=b'):SRel b' w s:=⟨h.c,h.l,h.d,Nat.le_trans h.len hb,h.up,h.n,fun k n q h1 h2=>(h.at_ k n q h1 h2).mono hb,h.m⟩
theorem SRel.node{b:Nat}{w:Wld}{s:Skl}(h:SRel b w s)(k:Nat):(w.n[k]?=none/\s.n[k]?=none)∨ ∃n q,w.n[k]?=some n/\s.n[k]?=some q/\NRel b n q:=by
 have hn:=h.n
 rcases Nat.lt_or_ge k w.n.length with hk|hk
 ·refine .inr ⟨w.n[k],s.n[k]'(by omega),List.getElem?_eq_getElem hk,List.getElem?_eq_getElem (by omega),h.at_ k _ _ (List.getElem?_eq_getElem hk) (List.getElem?_eq_getElem (by omega))⟩
 ·exact .inl ⟨List.getElem?_eq_none hk,List.getElem?_eq_none (by omega)⟩
theorem DOk.room{d:Dsk}{rs:List Recd}{r:Recd}{b:Nat}(h:DOk d rs)(hl:rs.length<=b)(hb:b<=100)(hr:recErr r=0):∃x,dskSafe d r= .ok x/\DOk x (rs++[r]):=
 dskSafe_room h hr (by omega) (by have:=recsText_len h.recs;omega)
theorem recErr_led{c:Conf}{l:Ldr}{r:Recd}(h:ledErr c l r=0):recErr r=0:=by
 unfold ledErr at h
 split at h
 ·omega
 ·split at h
  ·omega
  ·omega
theorem SRel.lead{b:Nat}{w:Wld}{s:Skl}(h:SRel b w s)(hb:b<=100)(r:Recd):both (SRel (b+1)) (wLead w r) (sLead s r):=by
 unfold wLead sLead
 rw[h.c,h.l]
 by_cases he:ledErr s.c s.l r≠0
 ·rw[if_pos he,if_pos he];rfl
 ·rw[if_neg he,if_neg he]
  obtain⟨x,hx,hd⟩:=h.d.room h.len hb (recErr_led (Decidable.not_not.1 he))
  rw[hx]
  exact⟨rfl,rfl,hd,by have:=h.len;simp;omega,h.up,h.n,fun k n q h1 h2=>(h.at_ k n q h1 h2).mono (by omega),h.m⟩
theorem SRel.set{b:Nat}{w:Wld}{s:Skl}(h:SRel b w s){b':Nat}(hb:b<=b'){k:Nat}{n:Nod}{q:SNod}(hr:NRel b' n q):SRel b' { w with n:=w.n.set k n } { s with n:=s.n.set k q } :=by
 have hn:=h.n
 refine⟨h.c,h.l,h.d,Nat.le_trans h.len hb,h.up,by simp[hn],fun j x y h1 h2=> ?_,h.m⟩
 have h1:(w.n.set k n)[j]?=some x:=h1
 have h2:(s.n.set k q)[j]?=some y:=h2
 rw[List.getElem?_set] at h1 h2
 by_cases hj:k=j
 ·rw[if_pos hj] at h1 h2
  simp only[Option.ite_none_right_eq_some,Option.some.injEq] at h1 h2
  rw[←h1.2,←h2.2];exact hr
 ·rw[if_neg hj] at h1 h2
  exact(h.at_ j x y h1 h2).mono hb
theorem SRel.does{b:Nat}{w:Wld}{s:Skl}(h:SRel b w s)(hb:b<=100)(k:Nat)(r:Recd):both (SRel (b+1)) (wDoes w k r) (sDoes s k r):=by
 unfold wDoes sDoes
 rcases h.node k with⟨h1,h2⟩|⟨n,q,h1,h2,hr⟩
 ·rw[h1,h2];rfl
 ·rw[h1,h2]
  dsimp only
  unfold nDoes
  rw[hr.a]
  by_cases he:nextErr q.a r≠0
  ·rw[if_pos he,if_pos he];rfl
  ·rw[if_neg he,if_neg he]
   have he:=Decidable.not_not.1 he
   obtain⟨x,hx,hd⟩:=hr.d.room hr.len hb (next_zero he).2.1
   rw[hx]
   exact h.set (by omega) ⟨rfl,hd,by have:=hr.len;simp;omega,hr.up⟩
theorem SRel.post{b:Nat}{w:Wld}{s:Skl}(h:SRel b w s)(m:Mail):SRel b (wPost w m) (sPost s m):=by
 unfold wPost sPost
 rw[h.m]
 split
 ·exact⟨h.c,h.l,h.d,h.len,h.up,h.n,h.at_,rfl⟩
 ·exact h
theorem SRel.report{b:Nat}{w:Wld}{s:Skl}(h:SRel b w s)(k:Nat):SRel b (wReport w k) (sReport s k):=by
 unfold wReport sReport
 rcases h.node k with⟨h1,h2⟩|⟨n,q,h1,h2,hr⟩
 ·rw[h1,h2];exact h
 ·rw[h1,h2]
  dsimp only
  rw[hr.a];exact h.post _
theorem SRel.mail{b:Nat}{w:Wld}{s:Skl}(h:SRel b w s)(l:List Mail):SRel b { w with m:=l } { s with m:=l } :=⟨h.c,h.l,h.d,h.len,h.up,h.n,h.at_,rfl⟩
theorem both.orSame{b:Nat}{w:Wld}{s:Skl}{x:Except Int Wld}{y:Except Int Skl}(h:both (SRel (b+1)) x y)(hs:SRel (b+1) w s):SRel (b+1) (orSame w x) (sOrSame s y):=by
 cases x<;>cases y
 ·exact hs
 ·exact h.elim
 ·exact h.elim
 ·exact h
theorem SRel.tell{b:Nat}{w:Wld}{s:Skl}(h:SRel b w s)(hb:b<=100)(x:Hap):both (SRel (b+1)) (wTell w x) (sTell s x):=by
 unfold wTell sTell
 rw[h.c,h.l]
 by_cases he:turnErr s.c s.l x.agent≠0
 ·rw[if_pos he,if_pos he];rfl
 rw[if_neg he,if_neg he]
 by_cases hk:x.kind=4
 ·rw[if_pos hk,if_pos hk]
  cases s.l.ags[x.agent.toNat]? with
  |none=>rfl
  |some a=>
   dsimp only
   split
   ·rfl
   ·exact(h.post _).mono (by omega)
 ·rw[if_neg hk,if_neg hk]
  have hl:=h.lead hb ⟨6,x.agent,s.l.nx,0,false,⟨0,[]⟩⟩
  revert hl
  cases wLead w ⟨6,x.agent,s.l.nx,0,false,⟨0,[]⟩⟩<;>cases sLead s ⟨6,x.agent,s.l.nx,0,false,⟨0,[]⟩⟩<;>intro hl
  ·exact hl
  ·exact hl.elim
  ·exact hl.elim
  ·exact SRel.post hl _
theorem SRel.step{b:Nat}{w:Wld}{s:Skl}(h:SRel b w s)(hb:b<=100)(x:Hap){n:Nod}{q:SNod}(hr:NRel b n q):both (SRel (b+1)) (wStep w x n) (sStep s x q):=by
 unfold wStep sStep
 rw[hr.a]
 split
 ·rfl
 split
 ·rfl
 split
 ·exact h.does hb _ _
 ·have hl:=h.does hb x.agent.toNat ⟨3,0,q.a.try_,0,x.good,⟨0,[]⟩⟩
  revert hl
  cases wDoes w x.agent.toNat ⟨3,0,q.a.try_,0,x.good,⟨0,[]⟩⟩<;>cases sDoes s x.agent.toNat ⟨3,0,q.a.try_,0,x.good,⟨0,[]⟩⟩<;>intro hl
  ·exact hl
  ·exact hl.elim
  ·exact hl.elim
  ·exact SRel.report hl _
theorem SRel.hear{b:Nat}{w:Wld}{s:Skl}(h:SRel b w s)(hb:b<=100)(x:Hap):both (SRel (b+1)) (wHear w x) (sHear s x):=by
 unfold wHear sHear
 rw[h.m,h.up]
 split
 ·rfl
 rcases h.node (took s.m x.num).agent.toNat with⟨h1,h2⟩|⟨n,q,h1,h2,hr⟩
 ·rw[h1,h2];rfl
 rw[h1,h2]
 dsimp only
 rw[hr.up,hr.a]
 split
 ·rfl
 have h1:=h.mail (left s.m x.num (decide (x.kind=10)))
 split
 ·exact both.orSame (h1.lead hb _) (h1.mono (by omega))
 split
 ·exact(h1.report _).mono (by omega)
 ·exact both.orSame (h1.does hb _ _) (h1.mono (by omega))
theorem SRel.power{b:Nat}{w:Wld}{s:Skl}(h:SRel b w s)(x:Hap):both (SRel (b+1)) (wPower w x) (sPower s x):=by
 unfold wPower sPower
 split
 ·rw[h.up]
  split
  ·rfl
  obtain⟨e1,e2,e3,_⟩:=h.d.err
  rw[if_neg (by omega),e2,e3,h.c]
  cases ledReplay s.c (if x.kind=12 then [] else s.rs) with
  |error e=>rfl
  |ok l=>
   refine⟨rfl,rfl,?_,by have:=h.len;show s.rs.length<=_;omega,rfl,h.n,fun k n q h1 h2=>(h.at_ k n q h1 h2).mono (by omega),h.m⟩
   show DOk (if x.kind=12 then w.h.d else w.h.d) s.rs
   rw[ite_self];exact h.d
 ·rcases h.node x.agent.toNat with⟨h1,h2⟩|⟨n,q,h1,h2,hr⟩
  ·rw[h1,h2];rfl
  rw[h1,h2]
  dsimp only
  rw[hr.up]
  split
  ·rfl
  obtain⟨e1,e2,e3,_⟩:=hr.d.err
  rw[if_neg (show¬dskErr n.d≠0 by omega),e2,e3,h.c]
  cases agtReplay s.c.first (if x.kind=12 then [] else q.rs) with
  |error e=>rfl
  |ok l=>
   have hs:=h.set (b':=b+1) (k:=x.agent.toNat) (n:=⟨l,if x.kind=12 then n.d else n.d,!q.up⟩) (q:=⟨l,q.rs,!q.up⟩) (by omega) ⟨rfl,by
    show DOk (if x.kind=12 then n.d else n.d) q.rs
    rw[ite_self];exact hr.d,by have:=hr.len;show q.rs.length<=_;omega,rfl⟩
   rw[h.c] at hs
   exact hs
theorem SRel.hap{b:Nat}{w:Wld}{s:Skl}(h:SRel b w s)(hb:b<=100)(x:Hap):both (SRel (b+1)) (wHap w x) (sHap s x):=by
 unfold wHap sHap
 have hrec:hapRec w x=sHapRec s x:=by unfold hapRec sHapRec;rw[h.l]
 rw[h.m,h.up,h.n,hrec]
 split
 ·exact h.hear hb x
 split
 ·split
  ·rfl
  ·exact(h.mail _).mono (by omega)
 split
 ·split
  ·rfl
  ·exact h.lead hb _
 split
 ·rfl
 split
 ·rfl
 split
 ·split
  ·rfl
  ·exact h.tell hb x
 split
 ·exact h.power x
 rcases h.node x.agent.toNat with⟨h1,h2⟩|⟨n,q,h1,h2,hr⟩
 ·rw[h1,h2];rfl
 rw[h1,h2]
 dsimp only
 rw[hr.up]
 split
 ·rfl
 split
 ·exact h.step hb x hr
 rw[hr.a]
 split
 ·rfl
 ·exact(h.report _).mono (by omega)
theorem SRel.run:∀ {l:List Hap} {b:Nat} {w:Wld} {s:Skl},SRel b w s->b+l.length<=100->SRel (b+l.length) (wRunFrom w l).1 (sRunFrom s l).1/\(wRunFrom w l).2=(sRunFrom s l).2
 | [],b,w,s,h,hb=>⟨h,rfl⟩
 |x::q,b,w,s,h,hb=>by
  simp only[List.length_cons] at hb⊢
  have hx:=h.hap (by omega) x
  unfold wRunFrom sRunFrom
  revert hx
  cases wHap w x<;>cases sHap s x<;>intro hx
  ·have hx:_=_:=hx
   subst hx
   obtain⟨h1,h2⟩:=SRel.run (l:=q) h (by omega)
   exact⟨h1.mono (by omega),by show _::_=_::_;rw[h2]⟩
  ·exact hx.elim
  ·exact hx.elim
  ·obtain⟨h1,h2⟩:=SRel.run (l:=q) (show SRel (b+1) _ _ from hx) (by omega)
   exact⟨h1.mono (by omega),by show(0:Int)::_=0::_;rw[h2]⟩
theorem fresh_rel(c:Conf):SRel 0 (freshWld c) (freshSkl c):=by
 refine⟨rfl,rfl,DOk.nil,Nat.le_refl _,rfl,by simp[freshWld,freshSkl],fun k n q h1 h2=> ?_,rfl⟩
 obtain rfl:=List.eq_of_mem_replicate (List.mem_of_getElem? h1)
 obtain rfl:=List.eq_of_mem_replicate (List.mem_of_getElem? h2)
 exact⟨rfl,DOk.nil,Nat.le_refl _,rfl⟩
def hOf(kind k:Int):Hap:=⟨kind,k,0,true,[]⟩
def roll1(k:Int):List Hap:=[hOf 3 k,hOf 9 0,hOf 7 k,hOf 7 k,hOf 7 k,hOf 9 0]
def rollS:List Hap:=[⟨1,0,0,false,s2.lock⟩,⟨2,0,2,false,[]⟩,hOf 3 0]++roll1 1++roll1 0++roll1 2++[hOf 6 0]
end Go.Vg
