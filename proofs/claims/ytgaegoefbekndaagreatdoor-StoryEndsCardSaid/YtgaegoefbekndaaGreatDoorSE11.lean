/- What is proved here: a part of the proof of laws of this seat: what a contract is, how it comes of a condition, contracts of the functions that are reached, the plain laws. -/
import Derived.Test.YtgaegoefbekndaaGreatDoorSE10
set_option linter.unusedSimpArgs false
set_option linter.unusedVariables false
set_option maxRecDepth 100000
namespace Go.Vg
open Go
structure Live(w:Wld):Prop where
 logs:Logs w w.h.l (w.n.map Nod.a)
 inv:SInv w.c w.h.l (w.n.map Nod.a) w.m
 hup:w.h.up=true
 nup:∀n∈w.n,n.up=true
theorem Live.of{y:Wld}{L:Ldr}{A:List Agt}(h:Logs y L A)(i:SInv y.c L A y.m)(hu:y.h.up=true)(hn:∀n∈y.n,n.up=true):Live y:=by
 have e1:y.h.l=L:=by rw[h.hi,if_pos hu]
 have e2:y.n.map Nod.a=A:=by
  apply List.ext_getElem?
  intro k
  rw[List.getElem?_map]
  rcases Nat.lt_or_ge k y.n.length with hk|hk
  ·have hk':k<A.length:=by rw[h.alen];exact hk
   rw[List.getElem?_eq_getElem hk,List.getElem?_eq_getElem hk',Option.map_some]
   have:=(h.nd k _ _ (List.getElem?_eq_getElem hk) (List.getElem?_eq_getElem hk')).2.2
   rw[if_pos (hn _ (List.getElem_mem _))] at this
   rw[this]
  ·rw[List.getElem?_eq_none hk,List.getElem?_eq_none (by rw[h.alen];exact hk)];rfl
 refine⟨?_,?_,hu,hn⟩
 ·rw[e1,e2];exact h
 ·rw[e1,e2];exact i
theorem Live.hap{w y:Wld}{x:Hap}(h:Live w)(hy:wHap w x= .ok y)(hu:y.h.up=true)(hn:∀n∈y.n,n.up=true):Live y:=by
 obtain⟨L',A',h1,h2,h3⟩:=h.logs.hap hy
 have:=h.inv.move h2
 rw[←h3] at this
 exact Live.of h1 this hu hn
def dLe(d e:Dsk):Prop:=(dskRecs d).length<=(dskRecs e).length/\d.safe.length<=e.safe.length
theorem dLe.refl{d:Dsk} :dLe d d:=⟨Nat.le_refl _,Nat.le_refl _⟩
theorem dLe.trans{d e f:Dsk}(h:dLe d e)(k:dLe e f):dLe d f:=⟨Nat.le_trans h.1 k.1,Nat.le_trans h.2 k.2⟩
theorem dskSafe_le{d x:Dsk}{r:Recd}(h:DOk d (dskRecs d))(hx:dskSafe d r= .ok x):dLe d x:=by
 have hD:=dskSafe_ok h hx
 have e1:=hD.err.2.1
 refine⟨by rw[e1];simp,?_⟩
 rw[hD.eq,h.eq]
 show(recsText (dskRecs _)).length<=(recsText (_++[r])).length
 rw[recsText_app]
 have:dskRecs d=dskRecs ⟨recsText (dskRecs d),[]⟩:=by rw[←h.eq]
 rw[←this];simp
structure Later(w y:Wld):Prop where
 nx:w.h.l.nx<=y.h.l.nx
 hd:dLe w.h.d y.h.d
 nd:∀(k:Nat)(n:Nod),w.n[k]?=some n->∃n',y.n[k]?=some n'/\dLe n.d n'.d
theorem Later.refl{w:Wld} :Later w w:=⟨Int.le_refl _,.refl,fun k n h=>⟨n,h,.refl⟩⟩
theorem Later.trans{w y z:Wld}(h:Later w y)(k:Later y z):Later w z:=⟨Int.le_trans h.nx k.nx,h.hd.trans k.hd,fun j n hn=>by
 obtain⟨n',h1,h2⟩:=h.nd j n hn
 obtain⟨n'',h3,h4⟩:=k.nd j n' h1
 exact⟨n'',h3,h2.trans h4⟩⟩
theorem Later.same{w y:Wld}(h:y.h=w.h)(k:y.n=w.n):Later w y:=⟨by rw[h];omega,by rw[h];exact .refl,fun j n hn=>⟨n,by rw[k];exact hn,.refl⟩⟩
theorem Later.set{w y:Wld}{k:Nat}{n n':Nod}(h:y.h=w.h)(hn:w.n[k]?=some n)(hy:y.n=w.n.set k n')(hd:dLe n.d n'.d):Later w y:=⟨by rw[h];omega,by rw[h];exact .refl,fun j m hm=>by
 rw[hy,List.getElem?_set]
 by_cases e:k=j
 ·subst e
  rw[if_pos rfl,if_pos (List.getElem?_eq_some_iff.1 hn).1]
  rw[hn] at hm
  obtain rfl:=Option.some.inj hm
  exact⟨n',rfl,hd⟩
 ·rw[if_neg e];exact⟨m,hm,.refl⟩⟩
structure Roomy(w:Wld):Prop where
 nx:w.h.l.nx<=180
 hd:(dskRecs w.h.d).length<=160/\w.h.d.safe.length<=30000
 nd:∀n∈w.n,(dskRecs n.d).length<=160/\n.d.safe.length<=30000
theorem Roomy.back{w y:Wld}(h:Roomy y)(l:Later w y):Roomy w:=⟨Int.le_trans l.nx h.nx,⟨Nat.le_trans l.hd.1 h.hd.1,Nat.le_trans l.hd.2 h.hd.2⟩,fun n hn=>by
 obtain⟨k,hk⟩:=List.getElem?_of_mem hn
 obtain⟨n',h1,h2⟩:=l.nd k n hk
 have:=h.nd n' (List.mem_of_getElem? h1)
 exact⟨Nat.le_trans h2.1 this.1,Nat.le_trans h2.2 this.2⟩⟩
theorem room_put{d:Dsk}{r:Recd}(h:DOk d (dskRecs d))(hl:(dskRecs d).length<=160/\d.safe.length<=30000)(hr:recErr r=0):∃x,dskSafe d r= .ok x:=by
 have e:d.safe=recsText (dskRecs d):=congrArg Dsk.safe h.eq
 obtain⟨x,hx,_⟩:=dskSafe_room h hr (by omega) (by rw[←e];omega)
 exact⟨x,hx⟩
theorem Live.node{w:Wld}(h:Live w){k:Nat}{n:Nod}(hn:w.n[k]?=some n):DOk n.d (dskRecs n.d)/\n.up=true/\(w.n.map Nod.a)[k]?=some n.a/\∃b,w.h.l.ags[k]?=some b/\AInv w.h.l b n.a/\∀m∈w.m,m.agent.toNat=k->MInv w.h.l b n.a m:=by
 have ha:(w.n.map Nod.a)[k]?=some n.a:=by rw[List.getElem?_map,hn];rfl
 have hk:=(List.getElem?_eq_some_iff.1 ha).1
 rw[h.inv.len] at hk
 exact⟨(h.logs.nd k n _ hn ha).1,h.nup n (List.mem_of_getElem? hn),ha,_,List.getElem?_eq_getElem hk,h.inv.agt k _ _ ha (List.getElem?_eq_getElem hk)⟩
def KGo(b b':Kn):Prop:=b'.try_=b.try_/\b'.back=b.back/\(b'.st=b.st∨(b.st=1/\(b'.st=2∨b'.st=3)))
theorem KGo.refl{b:Kn} :KGo b b:=⟨rfl,rfl,.inl rfl⟩
theorem KGo.trans{a b c:Kn}(h:KGo a b)(k:KGo b c):KGo a c:=⟨k.1.trans h.1,k.2.1.trans h.2.1,by
 obtain⟨_,_,h⟩:=h
 obtain⟨_,_,k⟩:=k
 omega⟩
structure Prog(w y:Wld):Prop where
 c:y.c=w.c
 n:y.n.length=w.n.length
 rels:y.h.l.rels=w.h.l.rels
 now:y.h.l.now=w.h.l.now
 goal:y.h.l.goal=w.h.l.goal
 back:y.h.l.back=w.h.l.back
 nx:y.h.l.nx=w.h.l.nx
 alen:y.h.l.ags.length=w.h.l.ags.length
 ags:∀(k:Nat)(b:Kn),w.h.l.ags[k]?=some b->∃b',y.h.l.ags[k]?=some b'/\KGo b b'
 agt:∀(k:Nat)(n:Nod),w.n[k]?=some n->∃n',y.n[k]?=some n'/\n.a.try_<=n'.a.try_
 later:Later w y
theorem Prog.refl{w:Wld} :Prog w w:=⟨rfl,rfl,rfl,rfl,rfl,rfl,rfl,rfl,fun k b h=>⟨b,h,.refl⟩,fun k n h=>⟨n,h,Int.le_refl _⟩,.refl⟩
theorem Prog.trans{w y z:Wld}(h:Prog w y)(k:Prog y z):Prog w z:=⟨k.c.trans h.c,k.n.trans h.n,k.rels.trans h.rels,k.now.trans h.now,k.goal.trans h.goal,k.back.trans h.back,k.nx.trans h.nx,k.alen.trans h.alen,fun j b hb=>by
 obtain⟨b',h1,h2⟩:=h.ags j b hb
 obtain⟨b'',h3,h4⟩:=k.ags j b' h1
 exact⟨b'',h3,h2.trans h4⟩,fun j n hn=>by
 obtain⟨n',h1,h2⟩:=h.agt j n hn
 obtain⟨n'',h3,h4⟩:=k.agt j n' h1
 exact⟨n'',h3,Int.le_trans h2 h4⟩,h.later.trans k.later⟩
theorem Prog.same{w y:Wld}(hc:y.c=w.c)(h:y.h=w.h)(k:y.n=w.n):Prog w y:=⟨hc,by rw[k],by rw[h],by rw[h],by rw[h],by rw[h],by rw[h],by rw[h],fun j b hb=>⟨b,by rw[h];exact hb,.refl⟩,fun j n hn=>⟨n,by rw[k];exact hn,Int.le_refl _⟩,.same h k⟩
theorem Prog.set{w y:Wld}{k:Nat}{n n':Nod}(hc:y.c=w.c)(h:y.h=w.h)(hn:w.n[k]?=some n)(hy:y.n=w.n.set k n')(ht:n.a.try_<=n'.a.try_)(hd:dLe n.d n'.d):Prog w y:=
 ⟨hc,by rw[hy,List.length_set],by rw[h],by rw[h],by rw[h],by rw[h],by rw[h],by rw[h],fun j b hb=>⟨b,by rw[h];exact hb,.refl⟩,fun j m hm=>by
  rw[hy,List.getElem?_set]
  by_cases e:k=j
  ·subst e
   rw[if_pos rfl,if_pos (List.getElem?_eq_some_iff.1 hn).1]
   rw[hn] at hm
   obtain rfl:=Option.some.inj hm
   exact⟨n',rfl,ht⟩
  ·rw[if_neg e];exact⟨m,hm,Int.le_refl _⟩,.set h hn hy hd⟩
def hEnd(kind k:Int):Hap:=⟨kind,k,0,true,[]⟩
def mailW:List Mail->Nat
 | []=>0
 |m::q=>(if m.rep=true then 1 else 2)+mailW q
theorem mailW_app:∀(l m:List Mail),mailW (l++m)=mailW l+mailW m
 | [],m=>by simp[mailW]
 |x::q,m=>by simp only[List.cons_append,mailW,mailW_app q m];omega
theorem mail_recs{m:Mail}(h:mailOk m):(m.rep=true->recErr (uHeard m)=0)/\(m.rep=false->recErr (uBegin m)=0):=by
 obtain⟨h1,h2,h3⟩:=h
 unfold badWho at h1
 refine⟨fun hr=> ?_,fun hr=> ?_⟩
 ·unfold recErr
  rw[if_neg (by simp),if_neg (by simp[recForm,noRel]),if_neg (by simp[recRange]<;>omega),if_neg (by simp)]
 ·unfold recErr
  rw[if_neg (by simp),if_neg (by simp[recForm]),if_neg (by simp[recRange]<;>omega),if_pos (by simp)]
  exact h3 hr
theorem Live.hear{w:Wld}(h:Live w){m:Mail}{q:List Mail}(hm:w.m=m::q):∃y,wHap w (hEnd 9 0)= .ok y/\Live y/\Prog w y/\mailW y.m<mailW w.m/\(∀x∈q,x∈y.m)/\
  (Roomy y->(m.rep=true->∀b b',w.h.l.ags[m.agent.toNat]?=some b->m.try_=b.try_->y.h.l.ags[m.agent.toNat]?=some b'->b'.st≠1)/\(m.rep=false->∀n',y.n[m.agent.toNat]?=some n'->m.try_<=n'.a.try_)):=by
 have hmem:m∈w.m:=by rw[hm];exact List.mem_cons_self
 have hok:=(mailsCheck_iff.1 h.logs.mail).2 m hmem
 have h40:=(mailsCheck_iff.1 h.logs.mail).1
 have hwho:=h.logs.who m hmem
 have hb1:=hok.1
 unfold badWho at hb1
 have hte:takeErr w.m 0=0:=by unfold takeErr;rw[if_pos h.logs.mail,if_neg (by rw[hm];simp<;>omega)]
 have htk:took w.m 0=m:=by unfold took;rw[hm];rfl
 have hlf:left w.m 0 (decide ((hEnd 9 0).kind=10))=q:=by unfold left;rw[hm];rfl
 have hk:m.agent.toNat<w.n.length:=by omega
 obtain⟨n,hn⟩:∃n,w.n[m.agent.toNat]?=some n:=⟨_,List.getElem?_eq_getElem hk⟩
 obtain⟨hD,hnu,hna,b,hb,hA,hM⟩:=h.node hn
 have hMm:=hM m hmem rfl
 have hW:wHap w (hEnd 9 0)=wHear w (hEnd 9 0):=by unfold wHap;rw[if_pos (.inl rfl)]
 have hE:wHear w (hEnd 9 0)=(if m.rep=true then .ok (orSame { w with m:=q } (wLead { w with m:=q } (uHeard m))) else if m.try_=n.a.try_/\n.a.going=false then .ok (wReport { w with m:=q } m.agent.toNat) else .ok (orSame { w with m:=q } (wDoes { w with m:=q } m.agent.toNat (uBegin m)))):=by
  unfold wHear
  rw[show(hEnd 9 0).num=0 from rfl,hte,if_neg (by simp),htk,hn]
  dsimp only
  rw[if_neg (by rw[h.hup,hnu];simp),hlf]
 rw[hW,hE]
 have hw1:mailW q<mailW w.m:=by rw[hm];simp only[mailW];split<;>omega
 have base:Prog w { w with m:=q } := .same rfl rfl rfl
 by_cases hr:m.rep=true
 ·rw[if_pos hr]
  refine⟨_,rfl,?_⟩
  cases hl:wLead { w with m:=q } (uHeard m) with
  |error e=>
   refine⟨Live.hap h (y:= { w with m:=q }) (x:=hEnd 9 0) (by rw[hW,hE,if_pos hr,hl];rfl) h.hup h.nup,base,hw1,fun x hx=>hx,fun hR=>⟨fun _ b1 b' hb1 ht hb'=> ?_,fun h=>(by rw[hr] at h;cases h)⟩⟩
   have hb':w.h.l.ags[m.agent.toNat]?=some b':=hb'
   rw[hb] at hb1 hb'
   obtain rfl:=Option.some.inj hb1
   obtain rfl:=Option.some.inj hb'
   intro h1
   have hz:ledErr w.c w.h.l (uHeard m)=0:=by
    unfold ledErr
    rw[if_neg (by rw[h.inv.led];simp),if_neg (by rw[(mail_recs hok).1 hr];simp)]
    unfold ledKind
    have hal:w.h.l.ags.length=w.n.length:=by have:=h.inv.len;simp at this;omega
    rw[if_neg (by simp),if_neg (by simp),if_pos (by simp),if_neg (by simp;omega),if_pos (by simp)]
    show(match w.h.l.ags[m.agent.toNat]? with|none=>5|some a=>if a.st≠1∨m.try_≠a.try_ then 7 else 0)=(0:Int)
    rw[hb]
    dsimp only
    rw[if_neg (by omega)]
   obtain⟨x,hx⟩:=room_put (r:=uHeard m) h.logs.hd hR.hd ((mail_recs hok).1 hr)
   unfold wLead at hl
   rw[if_neg (by show¬ledErr w.c w.h.l (uHeard m)≠0;omega)] at hl
   have hx':dskSafe ({ w with m:=q } :Wld).h.d (uHeard m)= .ok x:=hx
   rw[hx'] at hl
   cases hl
  |ok y=>
   obtain⟨l1,d,l2,rfl⟩:=wLead_ok hl
   have l1:ledErr w.c w.h.l (uHeard m)=0:=l1
   have hst:b.st=1/\m.try_=b.try_:=by
    have hal:w.h.l.ags.length=w.n.length:=by have:=h.inv.len;simp at this;omega
    unfold ledErr at l1
    rw[if_neg (by rw[h.inv.led];simp),if_neg (by rw[(mail_recs hok).1 hr];simp)] at l1
    unfold ledKind at l1
    rw[if_neg (by simp),if_neg (by simp),if_pos (by simp),if_neg (by simp;omega),if_pos (by simp)] at l1
    have l1:(match w.h.l.ags[m.agent.toNat]? with|none=>5|some a=>if a.st≠1∨m.try_≠a.try_ then 7 else 0)=(0:Int):=l1
    rw[hb] at l1
    dsimp only at l1
    by_cases hc:b.st≠1∨m.try_≠b.try_
    ·rw[if_pos hc] at l1;cases l1
    ·omega
   have hnx:ledNext w.h.l (uHeard m)= { w.h.l with ags:=w.h.l.ags.set m.agent.toNat (got (uHeard m) b) } :=led_eq7 rfl hb
   have hgo:KGo b (got (uHeard m) b):=⟨rfl,rfl,.inr ⟨hst.1,(by unfold got;dsimp only;split<;>simp)⟩⟩
   have hne:(got (uHeard m) b).st≠1:=by unfold got;dsimp only;split<;>simp
   have hset:∀(j:Nat)(c':Kn),(w.h.l.ags.set m.agent.toNat (got (uHeard m) b))[j]?=some c'->(j=m.agent.toNat/\c'=got (uHeard m) b)∨(j≠m.agent.toNat/\w.h.l.ags[j]?=some c'):=fun j c' hj=>by
    rw[List.getElem?_set] at hj
    by_cases e:m.agent.toNat=j
    ·rw[if_pos e] at hj
     simp only[Option.ite_none_right_eq_some,Option.some.injEq] at hj
     exact .inl ⟨e.symm,hj.2.symm⟩
    ·rw[if_neg e] at hj;exact .inr ⟨fun h=>e h.symm,hj⟩
   refine⟨Live.hap h (x:=hEnd 9 0) (by rw[hW,hE,if_pos hr,hl]) h.hup h.nup,?_,hw1,fun x hx=>hx,fun hR=>⟨fun _ b1 b' hb1 ht hb'=> ?_,fun h=>(by rw[hr] at h;cases h)⟩⟩
   ·refine⟨rfl,rfl,?_,?_,?_,?_,?_,?_,fun k c' hc'=> ?_,fun k n hn=>⟨n,hn,Int.le_refl _⟩,⟨?_,dskSafe_le h.logs.hd l2,fun k n hn=>⟨n,hn,.refl⟩⟩⟩
    ·show(ledNext w.h.l (uHeard m)).rels=_;rw[hnx]
    ·show(ledNext w.h.l (uHeard m)).now=_;rw[hnx]
    ·show(ledNext w.h.l (uHeard m)).goal=_;rw[hnx]
    ·show(ledNext w.h.l (uHeard m)).back=_;rw[hnx]
    ·show(ledNext w.h.l (uHeard m)).nx=_;rw[hnx]
    ·show(ledNext w.h.l (uHeard m)).ags.length=_;rw[hnx];simp
    ·show∃b',(ledNext w.h.l (uHeard m)).ags[k]?=some b'/\KGo c' b'
     rw[hnx]
     dsimp only
     rw[List.getElem?_set]
     by_cases e:m.agent.toNat=k
     ·subst e
      rw[hb] at hc'
      obtain rfl:=Option.some.inj hc'
      rw[if_pos rfl,if_pos (List.getElem?_eq_some_iff.1 hb).1]
      exact⟨_,rfl,hgo⟩
     ·rw[if_neg e];exact⟨c',hc',.refl⟩
    ·show w.h.l.nx<=(ledNext w.h.l (uHeard m)).nx
     rw[hnx];exact Int.le_refl _
   ·have hb':(ledNext w.h.l (uHeard m)).ags[m.agent.toNat]?=some b':=hb'
    rw[hnx] at hb'
    rcases hset _ _ hb' with⟨_,rfl⟩|⟨h1,_⟩
    ·exact hne
    ·exact absurd rfl h1
 ·rw[if_neg hr]
  have hr:m.rep=false:=by simpa using hr
  by_cases hg:m.try_=n.a.try_/\n.a.going=false
  ·rw[if_pos hg]
   have hrep:wReport { w with m:=q } m.agent.toNat=wPost { w with m:=q } (repMail m.agent.toNat n.a):=by
    unfold wReport
    rw[show({ w with m:=q } :Wld).n=w.n from rfl,hn]
   have hp:(wPost { w with m:=q } (repMail m.agent.toNat n.a)).c=w.c/\(wPost { w with m:=q } (repMail m.agent.toNat n.a)).h=w.h/\(wPost { w with m:=q } (repMail m.agent.toNat n.a)).n=w.n/\((wPost { w with m:=q } (repMail m.agent.toNat n.a)).m=q∨(wPost { w with m:=q } (repMail m.agent.toNat n.a)).m=q++[repMail m.agent.toNat n.a]):=by
    unfold wPost
    split
    ·refine⟨rfl,rfl,rfl,?_⟩
     show sent q _=q∨sent q _=_
     unfold sent
     split
     ·exact .inr rfl
     ·exact .inl rfl
    ·exact⟨rfl,rfl,rfl,.inl rfl⟩
   rw[hrep]
   obtain⟨p1,p2,p3,p4⟩:=hp
   refine⟨_,rfl,Live.hap h (x:=hEnd 9 0) (by rw[hW,hE,if_neg (by simp[hr]),if_pos hg,hrep]) (by rw[p2];exact h.hup) (by rw[p3];exact h.nup),.same p1 p2 p3,?_,fun x hx=> ?_,fun hR=>⟨fun h=>(by rw[hr] at h;cases h),fun _ n' hn'=> ?_⟩⟩
   ·rcases p4 with p4|p4
    ·rw[p4];exact hw1
    ·rw[p4,mailW_app,hm]
     simp[mailW,hr,repMail]
     omega
   ·rcases p4 with p4|p4
    ·rw[p4];exact hx
    ·rw[p4];exact List.mem_append_left _ hx
   ·rw[p3,hn] at hn'
    obtain rfl:=Option.some.inj hn'
    omega
  ·rw[if_neg hg]
   refine⟨_,rfl,?_⟩
   cases hl:wDoes { w with m:=q } m.agent.toNat (uBegin m) with
   |error e=>
    refine⟨Live.hap h (y:= { w with m:=q }) (x:=hEnd 9 0) (by rw[hW,hE,if_neg (by simp[hr]),if_neg hg,hl];rfl) h.hup h.nup,base,hw1,fun x hx=>hx,fun hR=>⟨fun h=>(by rw[hr] at h;cases h),fun _ n' hn'=> ?_⟩⟩
    have hn':w.n[m.agent.toNat]?=some n':=hn'
    rw[hn] at hn'
    obtain rfl:=Option.some.inj hn'
    by_cases hlt:m.try_<=n.a.try_
    ·exact hlt
    exfalso
    have hz:nextErr n.a (uBegin m)=0:=by
     unfold nextErr
     rw[if_neg (by rw[hA.ok];simp),if_neg (by rw[(mail_recs hok).2 hr];simp),if_pos rfl,if_neg hlt]
    obtain⟨x,hx⟩:=room_put (r:=uBegin m) hD (hR.nd n (List.mem_of_getElem? hn)) ((mail_recs hok).2 hr)
    unfold wDoes at hl
    rw[show({ w with m:=q } :Wld).n=w.n from rfl,hn] at hl
    dsimp only at hl
    unfold nDoes at hl
    rw[if_neg (by omega),hx] at hl
    cases hl
   |ok y=>
    obtain⟨n1,n',d1,d2,rfl⟩:=wDoes_ok hl
    have d1:w.n[m.agent.toNat]?=some n1:=d1
    rw[hn] at d1
    obtain rfl:=Option.some.inj d1
    unfold nDoes at d2
    split at d2
    ·cases d2
    rename_i hz
    split at d2
    ·cases d2
    rename_i d hd
    obtain rfl:=Except.ok.inj d2
    have hz:nextErr n.a (uBegin m)=0:=by omega
    have hgt:n.a.try_<m.try_:=by
     obtain⟨_,_,hc⟩:=next_zero hz
     rcases hc with hc|hc
     ·exact hc.2
     ·have:=hc.1;simp at this
    have hup:∀x∈w.n.set m.agent.toNat ⟨agtNext n.a (uBegin m),d,n.up⟩,x.up=true:=fun x hx=>by
     rcases List.mem_or_eq_of_mem_set hx with hx|rfl
     ·exact h.nup x hx
     ·exact hnu
    refine⟨Live.hap h (x:=hEnd 9 0) (by rw[hW,hE,if_neg (by simp[hr]),if_neg hg,hl]) h.hup hup,.set rfl rfl hn rfl (by rw[next_begin];exact Int.le_of_lt hgt) (dskSafe_le hD hd),hw1,fun x hx=>hx,fun hR=>⟨fun h=>(by rw[hr] at h;cases h),fun _ n' hn'=> ?_⟩⟩
    have hn':(w.n.set m.agent.toNat ⟨agtNext n.a (uBegin m),d,n.up⟩)[m.agent.toNat]?=some n':=hn'
    rw[List.getElem?_set,if_pos rfl,if_pos hk] at hn'
    obtain rfl:=Option.some.inj hn'
    show m.try_<=(agtNext n.a (uBegin m)).try_
    rw[next_begin];exact Int.le_refl _
def drainF:Nat->Wld->Wld
 |0,w=>w
 |n+1,w=>if w.m=[] then w else match wHap w (hEnd 9 0) with
  | .ok y=>drainF n y
  | .error _=>match wHap w (hEnd 11 0) with
   | .ok y=>drainF n y
   | .error _=>w
theorem drain_nil{w:Wld}(h:w.m=[]):∀n,drainF n w=w
 |0=>rfl
 |n+1=>by unfold drainF;rw[if_pos h]
theorem drain_ok{w y:Wld}(h:w.m≠[])(hy:wHap w (hEnd 9 0)= .ok y)(n:Nat):drainF (n+1) w=drainF n y:=by
 conv=>lhs;unfold drainF
 rw[if_neg h,hy]
theorem Live.drain:∀ {n:Nat} {w:Wld},Live w->mailW w.m<=n->Live (drainF n w)/\Prog w (drainF n w)/\(drainF n w).m=[]/\
  (Roomy (drainF n w)->(∀m∈w.m,m.rep=true->∀b b',w.h.l.ags[m.agent.toNat]?=some b->m.try_=b.try_->(drainF n w).h.l.ags[m.agent.toNat]?=some b'->b'.st≠1)/\
   (∀m∈w.m,m.rep=false->∀n',(drainF n w).n[m.agent.toNat]?=some n'->m.try_<=n'.a.try_))
 |0,w,h,hn=>by
  have hm:w.m=[]:=by
   cases hw:w.m with
   |nil=>rfl
   |cons m q=>rw[hw] at hn;simp only[mailW] at hn;split at hn<;>omega
  exact⟨h,.refl,hm,fun _=>⟨fun m hx=>(by rw[hm] at hx;cases hx),fun m hx=>(by rw[hm] at hx;cases hx)⟩⟩
 |n+1,w,h,hn=>by
  cases hw:w.m with
  |nil=>
   rw[drain_nil hw]
   exact⟨h,.refl,hw,fun _=>⟨fun m hx=>(by cases hx),fun m hx=>(by cases hx)⟩⟩
  |cons m q=>
   obtain⟨y,hy,hL,hP,hlt,hsub,hfin⟩:=h.hear hw
   rw[drain_ok (by rw[hw];simp) hy]
   obtain⟨i1,i2,i3,i4⟩:=Live.drain hL (n:=n) (by omega)
   refine⟨i1,hP.trans i2,i3,fun hR=> ?_⟩
   obtain⟨j1,j2⟩:=i4 hR
   obtain⟨k1,k2⟩:=hfin (hR.back i2.later)
   refine⟨fun x hx hr b b' hb ht hb'=> ?_,fun x hx hr n' hn'=> ?_⟩
   ·obtain⟨b1,g1,g2⟩:=hP.ags _ _ hb
    obtain⟨b2,g3,g4⟩:=i2.ags _ _ g1
    rw[hb'] at g3
    obtain rfl:=Option.some.inj g3
    rcases List.mem_cons.1 hx with rfl|hx
    ·have:=k1 hr b b1 hb ht g1
     obtain⟨_,_,g4⟩:=g4
     omega
    ·exact j1 x (hsub x hx) hr b1 b' g1 (by rw[ht];exact g2.1.symm) hb'
   ·rcases List.mem_cons.1 hx with rfl|hx
    ·have hlen:x.agent.toNat<w.n.length:=by
      have:=(List.getElem?_eq_some_iff.1 hn').1
      rw[i2.n,hP.n] at this;exact this
     obtain⟨n1,g1,_⟩:=hP.agt _ _ (List.getElem?_eq_getElem hlen)
     obtain⟨n2,g3,g4⟩:=i2.agt _ _ g1
     rw[hn'] at g3
     obtain rfl:=Option.some.inj g3
     exact Int.le_trans (k2 hr n1 g1) g4
    ·exact j2 x (hsub x hx) hr n' hn'
open Go
def stepsF:Nat->Wld->Nat->Wld
 |0,w,_=>w
 |n+1,w,k=>match wHap w (hEnd 7 k) with
  | .ok y=>stepsF n y k
  | .error _=>w
def stepW(a:Agt):Nat:=if a.going=true then(agtLeft a).length+1 else 0
theorem hap_step{w:Wld}{k:Nat}{n:Nod}(hn:w.n[k]?=some n)(hu:n.up=true):wHap w (hEnd 7 k)=wStep w (hEnd 7 k) n:=by
 have hk:=(List.getElem?_eq_some_iff.1 hn).1
 unfold wHap hEnd
 dsimp only
 rw[if_neg (by omega),if_neg (by omega),if_neg (by omega),if_neg (by omega),if_neg (by omega),if_neg (by omega),if_neg (by omega),Int.toNat_natCast,hn]
 dsimp only
 rw[if_neg (by rw[hu];simp),if_pos rfl]
theorem rec_step{a:Agt}(h:agtErr a=0)(hg:a.going=true)(g:Bool):recErr (uStep a)=0/\recErr (uDone a g)=0:=by
 obtain⟨_,_,_,h3,h4,h5,_⟩:=agtErr_zero h
 have:=(h5 hg).1
 constructor
 ·unfold recErr
  rw[if_neg (by simp),if_neg (by simp[recForm,noRel]),if_neg (by simp[recRange]<;>omega),if_neg (by simp)]
 ·unfold recErr
  rw[if_neg (by simp),if_neg (by simp[recForm,noRel]),if_neg (by simp[recRange]<;>omega),if_neg (by simp)]
theorem next_goes{a:Agt}(h:agtErr a=0)(hg:a.going=true):(agtLeft a≠[]->nextErr a (uStep a)=0)/\(agtLeft a=[]->∀g,nextErr a (uDone a g)=0):=by
 refine⟨fun hl=> ?_,fun hl g=> ?_⟩
 ·unfold nextErr
  rw[if_neg (by rw[h];simp),if_neg (by rw[(rec_step h hg true).1];simp),if_neg (by simp),if_neg (by simp),if_neg]
  rintro(q|q|q|q)
  ·rw[hg] at q;cases q
  ·exact q rfl
  ·exact hl q.2
  ·simp at q
 ·unfold nextErr
  rw[if_neg (by rw[h];simp),if_neg (by rw[(rec_step h hg g).2];simp),if_neg (by simp),if_neg (by simp),if_neg]
  rintro(q|q|q|q)
  ·rw[hg] at q;cases q
  ·exact q rfl
  ·simp at q
  ·exact q.2 hl
theorem post_to{w:Wld}{m:Mail} :(wPost w m).c=w.c/\(wPost w m).h=w.h/\(wPost w m).n=w.n/\(∀x∈w.m,x∈(wPost w m).m)/\(wPost w m).m.length<=w.m.length+1:=by
 unfold wPost
 split
 ·refine⟨rfl,rfl,rfl,fun x hx=> ?_,?_⟩
  ·show x∈sent w.m m
   unfold sent
   split
   ·exact List.mem_append_left _ hx
   ·exact hx
  ·show(sent w.m m).length<=_
   unfold sent
   split
   ·simp
   ·omega
 ·exact⟨rfl,rfl,rfl,fun x hx=>hx,by omega⟩
theorem post_in{w:Wld}{m:Mail}(h:mailsCheck w.m=0)(hm:mailOk m)(hl:w.m.length<40):m∈(wPost w m).m:=by
 have h1:sendErr w.m m=0:=by
  unfold sendErr
  rw[if_pos h]
  exact mailsCheck_iff.2 ⟨by simp,fun x hx=>by simp at hx;subst hx;exact hm⟩
 unfold wPost
 rw[if_pos h1]
 show m∈sent w.m m
 unfold sent
 rw[if_pos hl]
 simp
theorem report_to{w:Wld}{k:Nat}{n:Nod}(hn:w.n[k]?=some n):wReport w k=wPost w (repMail k n.a):=by unfold wReport;rw[hn]
theorem up_set{w:Wld}(h:∀n∈w.n,n.up=true){k:Nat}{n':Nod}(hu:n'.up=true):∀x∈w.n.set k n',x.up=true:=fun x hx=>by
 rcases List.mem_or_eq_of_mem_set hx with hx|rfl
 ·exact h x hx
 ·exact hu
theorem Live.step1{w:Wld}(h:Live w){k:Nat}{n:Nod}(hn:w.n[k]?=some n):
  (n.a.going=false->wHap w (hEnd 7 k)= .error 7)/\(∀e,wHap w (hEnd 7 k)= .error e->n.a.going=true->¬Roomy w)/\
  (∀y,wHap w (hEnd 7 k)= .ok y->n.a.going=true/\Live y/\Prog w y/\∃n',y.n[k]?=some n'/\n'.a.try_=n.a.try_/\stepW n'.a<stepW n.a/\y.m.length+(if n'.a.going=true then 1 else 0)<=w.m.length+1):=by
 obtain⟨hD,hnu,hna,b,hb,hA,hM⟩:=h.node hn
 have hk:=(List.getElem?_eq_some_iff.1 hn).1
 have hW:=hap_step hn hnu
 have hT:(hEnd 7 k).agent.toNat=k:=by show((k:Int)).toNat=k;omega
 refine⟨fun hg=> ?_,fun e he hg hR=> ?_,fun y hy=> ?_⟩
 ·rw[hW,wStep,if_pos hg]
 ·rw[hW,wStep,if_neg (by rw[hg];simp),if_neg (by rw[hA.ok];simp),hT] at he
  have hrm:=hR.nd n (List.mem_of_getElem? hn)
  by_cases hl:agtLeft n.a≠[]
  ·rw[if_pos hl] at he
   obtain⟨x,hx⟩:=room_put (r:=uStep n.a) hD hrm (rec_step hA.ok hg true).1
   unfold wDoes at he
   rw[hn] at he
   dsimp only at he
   unfold nDoes at he
   rw[if_neg (by rw[(next_goes hA.ok hg).1 hl];simp),hx] at he
   cases he
  ·rw[if_neg hl] at he
   have hl:=Decidable.not_not.1 hl
   obtain⟨x,hx⟩:=room_put (r:=uDone n.a true) hD hrm (rec_step hA.ok hg true).2
   have hz:nextErr n.a (uDone n.a true)=0:=(next_goes hA.ok hg).2 hl true
   have hd:wDoes w k ⟨3,0,n.a.try_,0,(hEnd 7 k).good,⟨0,[]⟩⟩= .ok { w with n:=w.n.set k ⟨agtNext n.a (uDone n.a true),x,n.up⟩ } :=by
    unfold wDoes
    rw[hn]
    dsimp only
    unfold nDoes
    rw[show(⟨3,0,n.a.try_,0,(hEnd 7 k).good,⟨0,[]⟩⟩:Recd)=uDone n.a true from rfl,if_neg (by omega),hx]
   rw[hd] at he
   cases he
 ·have hup:=h.nup
  by_cases hg:n.a.going=false
  ·rw[hW,wStep,if_pos hg] at hy;cases hy
  have hg:n.a.going=true:=by simpa using hg
  refine⟨hg,?_⟩
  have hy0:=hy
  rw[hW,wStep,if_neg (by rw[hg];simp),if_neg (by rw[hA.ok];simp),hT] at hy
  by_cases hl:agtLeft n.a≠[]
  ·rw[if_pos hl] at hy
   obtain⟨n1,n',d1,d2,rfl⟩:=wDoes_ok hy
   rw[hn] at d1
   obtain rfl:=Option.some.inj d1
   unfold nDoes at d2
   split at d2
   ·cases d2
   rename_i hz
   split at d2
   ·cases d2
   rename_i d hd
   obtain rfl:=Except.ok.inj d2
   obtain⟨o,q,hoq⟩:∃o q,agtLeft n.a=o::q:=by
    cases hq:agtLeft n.a with
    |nil=>exact absurd hq hl
    |cons o q=>exact⟨o,q,rfl⟩
   obtain⟨_,s2,_⟩:=left_step hA.ok hg hoq
   have hnx:agtNext n.a (uStep n.a)=⟨applied n.a.lock o,n.a.at_,n.a.try_,n.a.going,n.a.goal,n.a.good⟩:=next_step hoq
   refine⟨h.hap hy0 h.hup (up_set hup hnu),.set rfl rfl hn rfl (by show n.a.try_<=(agtNext n.a (uStep n.a)).try_;rw[hnx];exact Int.le_refl _) (dskSafe_le hD hd),⟨agtNext n.a (uStep n.a),d,n.up⟩,?_,?_,?_,?_⟩
   ·show(w.n.set k _)[k]?=_
    rw[List.getElem?_set,if_pos rfl,if_pos hk]
   ·show(agtNext n.a (uStep n.a)).try_=_;rw[hnx]
   ·show stepW (agtNext n.a (uStep n.a))<_
    unfold stepW
    rw[hnx,if_pos hg,if_pos hg,s2,hoq]
    simp
   ·show w.m.length+(if(agtNext n.a (uStep n.a)).going=true then 1 else 0)<=_
    rw[hnx,if_pos hg];exact Nat.le_refl _
  ·rw[if_neg hl] at hy
   cases hd0:wDoes w k ⟨3,0,n.a.try_,0,(hEnd 7 k).good,⟨0,[]⟩⟩ with
   |error e=>rw[hd0] at hy;cases hy
   |ok z=>
    rw[hd0] at hy
    obtain rfl:=Except.ok.inj hy
    obtain⟨n1,n',d1,d2,rfl⟩:=wDoes_ok hd0
    rw[hn] at d1
    obtain rfl:=Option.some.inj d1
    unfold nDoes at d2
    split at d2
    ·cases d2
    split at d2
    ·cases d2
    rename_i d hd
    obtain rfl:=Except.ok.inj d2
    have hnx:agtNext n.a ⟨3,0,n.a.try_,0,(hEnd 7 k).good,⟨0,[]⟩⟩=⟨n.a.lock,n.a.goal.id,n.a.try_,false,⟨0,[]⟩,true⟩:=next_done
    have hset:({ w with n:=w.n.set k ⟨agtNext n.a ⟨3,0,n.a.try_,0,(hEnd 7 k).good,⟨0,[]⟩⟩,d,n.up⟩ } :Wld).n[k]?=some ⟨agtNext n.a ⟨3,0,n.a.try_,0,(hEnd 7 k).good,⟨0,[]⟩⟩,d,n.up⟩:=by
     show(w.n.set k _)[k]?=_
     rw[List.getElem?_set,if_pos rfl,if_pos hk]
    have hpt:=report_to hset
    obtain⟨p1,p2,p3,p4,p5⟩:=post_to (w:= { w with n:=w.n.set k ⟨agtNext n.a ⟨3,0,n.a.try_,0,(hEnd 7 k).good,⟨0,[]⟩⟩,d,n.up⟩ }) (m:=repMail k (agtNext n.a ⟨3,0,n.a.try_,0,(hEnd 7 k).good,⟨0,[]⟩⟩))
    rw[hpt] at hy0⊢
    refine⟨h.hap hy0 (by rw[p2];exact h.hup) (by rw[p3];exact up_set hup hnu),.set p1 p2 hn p3 (by rw[hnx];exact Int.le_refl _) (dskSafe_le hD hd),_,by rw[p3];exact hset,by rw[hnx],?_,?_⟩
    ·unfold stepW
     rw[hnx,if_neg (by simp),if_pos hg];omega
    ·rw[hnx,if_neg (by simp)];exact p5
theorem Live.steps:∀ {f:Nat} {w:Wld},Live w->∀ {k:Nat} {n:Nod},w.n[k]?=some n->stepW n.a<f->Live (stepsF f w k)/\Prog w (stepsF f w k)/\
  (∃n',(stepsF f w k).n[k]?=some n'/\n'.a.try_=n.a.try_/\(Roomy (stepsF f w k)->n'.a.going=false))/\(stepsF f w k).m.length<=w.m.length+(if n.a.going=true then 1 else 0)
 |0,w,h,k,n,hn,hf=>by omega
 |f+1,w,h,k,n,hn,hf=>by
  obtain⟨s1,s2,s3⟩:=h.step1 hn
  unfold stepsF
  cases hy:wHap w (hEnd 7 k) with
  |error e=>
   dsimp only
   refine⟨h,.refl,⟨n,hn,rfl,fun hR=> ?_⟩,by omega⟩
   by_cases hg:n.a.going=false
   ·exact hg
   ·exact absurd hR (s2 e hy (by simpa using hg))
  |ok y=>
   dsimp only
   obtain⟨hg,hL,hP,n',g1,g2,g3,g4⟩:=s3 y hy
   obtain⟨i1,i2,⟨n'',i3,i4,i5⟩,i6⟩:=Live.steps hL g1 (f:=f) (by omega)
   refine⟨i1,hP.trans i2,⟨n'',i3,i4.trans g2,i5⟩,?_⟩
   rw[if_pos hg]
   omega
def eDo(w:Wld)(kind k:Int):Wld:=orSame w (wHap w (hEnd kind k))
def bkF(w:Wld)(k:Nat):Wld:=drainF 200 (eDo (stepsF 200 (drainF 200 (eDo (eDo w 3 k) 4 k)) k) 8 k)
structure Keep(w y:Wld):Prop where
 c:y.c=w.c
 n:y.n.length=w.n.length
 rels:y.h.l.rels=w.h.l.rels
 now:y.h.l.now=w.h.l.now
 goal:y.h.l.goal=w.h.l.goal
 back:y.h.l.back=w.h.l.back
 alen:y.h.l.ags.length=w.h.l.ags.length
 later:Later w y
theorem Prog.kp{w y:Wld}(h:Prog w y):Keep w y:=⟨h.c,h.n,h.rels,h.now,h.goal,h.back,h.alen,h.later⟩
theorem Keep.trans{w y z:Wld}(h:Keep w y)(k:Keep y z):Keep w z:=⟨k.c.trans h.c,k.n.trans h.n,k.rels.trans h.rels,k.now.trans h.now,k.goal.trans h.goal,k.back.trans h.back,k.alen.trans h.alen,h.later.trans k.later⟩
theorem Keep.refl{w:Wld} :Keep w w:=Prog.refl.kp
theorem hap_tell{w:Wld}(h:Live w){k:Nat}(hk:k<w.n.length):wHap w (hEnd 3 k)=wTell w (hEnd 3 k)/\wHap w (hEnd 4 k)=wTell w (hEnd 4 k):=by
 constructor
 ·unfold wHap hEnd
  dsimp only
  rw[if_neg (by omega),if_neg (by omega),if_neg (by omega),if_neg (by omega),if_neg (by omega),if_pos (by omega),if_neg (by rw[h.hup];simp)]
 ·unfold wHap hEnd
  dsimp only
  rw[if_neg (by omega),if_neg (by omega),if_neg (by omega),if_neg (by omega),if_neg (by omega),if_pos (by omega),if_neg (by rw[h.hup];simp)]
theorem Live.alen{w:Wld}(h:Live w):w.h.l.ags.length=w.n.length:=by have:=h.inv.len;simp at this;omega
theorem Live.six{w:Wld}(h:Live w):w.n.length<=6:=by rw[←h.alen];exact(ags_six h.inv.led).1
theorem Live.toOk{w:Wld}(h:Live w)(hg:w.h.l.goal≠0){k:Nat}(hk:k<w.n.length){t:Int}(h1:1<=t)(h2:t<=200):turnErr w.c w.h.l k=0/\mailOk ⟨k,t,false,false,turnRel w.c w.h.l k⟩:=by
 have hT:turnErr w.c w.h.l k=0:=turnErr_of h.inv.led (by rw[h.alen];exact hk) hg
 have h6:=h.six
 have f:=ldr_facts h.inv.led
 obtain⟨t1,t2,t3,t4⟩:=f.tgt w.h.l.back (by
  by_cases hb:w.h.l.back=true
  ·exact .inl hb
  ·exact .inr hg)
 refine⟨hT,?_,?_,fun _=> ?_⟩
 ·unfold badWho;dsimp only;omega
 ·unfold badForm;simp
 ·show relErr (turnRel w.c w.h.l k)=0
  rw[turnRel_tgt hT]
  have e1:=f.now
  have e2:=f.goal
  have e3:=f.many
  unfold relErr
  rw[if_neg (by rw[t2];split<;>omega)]
  exact lockCheck_zero.2 ⟨t3,t4⟩
theorem Live.tell{w:Wld}(h:Live w)(hg:w.h.l.goal≠0){k:Nat}(hk:k<w.n.length):Live (eDo w 3 k)/\Keep w (eDo w 3 k)/\(eDo w 3 k).n=w.n/\(eDo w 3 k).m.length<=w.m.length+1/\w.h.l.nx<=(eDo w 3 k).h.l.nx/\(∀j,j≠k->(eDo w 3 k).h.l.ags[j]?=w.h.l.ags[j]?)/\
  ((turnOf w.c w.h.l k=true/\(eDo w 3 k).h.l.ags[k]?=some ⟨1,w.h.l.nx,w.h.l.back⟩)∨(eDo w 3 k).h.l.ags[k]?=w.h.l.ags[k]?/\(Roomy (eDo w 3 k)->turnOf w.c w.h.l k=false)):=by
 have hT:turnErr w.c w.h.l k=0:=turnErr_of h.inv.led (by rw[h.alen];exact hk) hg
 have hW:=(hap_tell h hk).1
 have hE:wTell w (hEnd 3 k)=match wLead w (uTell k w.h.l.nx) with
   | .error e=> .error e
   | .ok y=> .ok (wPost y ⟨k,w.h.l.nx,false,false,turnRel w.c w.h.l k⟩):=by
  unfold wTell
  rw[show(hEnd 3 k).agent=(k:Int) from rfl,if_neg (by omega),if_neg (by show¬(3:Int)=4;omega)]
  rfl
 have f:=ldr_facts h.inv.led
 have hrec:w.h.l.nx<=200->recErr (uTell k w.h.l.nx)=0:=fun hx=>by
  have:=h.six
  have:=f.nx
  unfold recErr
  rw[if_neg (by simp),if_neg (by simp[recForm,noRel]),if_neg (by simp[recRange]<;>omega),if_neg (by simp)]
 have hkind:ledKind w.c w.h.l (uTell k w.h.l.nx)=if turnOf w.c w.h.l k=false then 7 else 0:=by
  unfold ledKind
  dsimp only
  rw[if_neg (by omega),if_neg (by omega),if_pos (by omega),if_neg (by rw[h.alen];omega),if_neg (by omega)]
  by_cases ht:turnOf w.c w.h.l k=false
  ·rw[if_pos (.inr (.inr ht)),if_pos ht]
  ·rw[if_neg (by rintro(q|q|q);exact hg q;exact q rfl;exact ht q),if_neg ht]
 cases hl:wLead w (uTell k w.h.l.nx) with
 |error e=>
  have hD:eDo w 3 k=w:=by unfold eDo;rw[hW,hE,hl];rfl
  rw[hD]
  refine⟨h,.refl,rfl,by omega,by omega,fun j _=>rfl,.inr ⟨rfl,fun hR=> ?_⟩⟩
  by_cases ht:turnOf w.c w.h.l k=false
  ·exact ht
  exfalso
  have h200:w.h.l.nx<=200:=by have:=hR.nx;omega
  have hz:ledErr w.c w.h.l (uTell k w.h.l.nx)=0:=by
   unfold ledErr
   rw[if_neg (by rw[h.inv.led];simp),if_neg (by rw[hrec h200];simp),hkind,if_neg ht]
  obtain⟨x,hx⟩:=room_put (r:=uTell k w.h.l.nx) h.logs.hd hR.hd (hrec h200)
  unfold wLead at hl
  rw[if_neg (by omega),hx] at hl
  cases hl
 |ok y=>
  obtain⟨l1,d,l2,rfl⟩:=wLead_ok hl
  have hD:eDo w 3 k=wPost { w with h:=⟨ledNext w.h.l (uTell k w.h.l.nx),d,w.h.up⟩ } ⟨k,w.h.l.nx,false,false,turnRel w.c w.h.l k⟩:=by unfold eDo;rw[hW,hE,hl];rfl
  have hok:wHap w (hEnd 3 k)= .ok (eDo w 3 k):=by rw[hD,hW,hE,hl]
  have hturn:turnOf w.c w.h.l k=true:=by
   unfold ledErr at l1
   rw[if_neg (by rw[h.inv.led];simp)] at l1
   split at l1
   ·omega
   ·rw[hkind] at l1
    split at l1
    ·cases l1
    ·rename_i ht;simpa using ht
  have hnx:ledNext w.h.l (uTell k w.h.l.nx)= { w.h.l with ags:=w.h.l.ags.set k ⟨1,w.h.l.nx,w.h.l.back⟩,nx:=w.h.l.nx+1 } :=by rw[led_eq6 rfl];rfl
  obtain⟨p1,p2,p3,p4,p5⟩:=post_to (w:= { w with h:=⟨ledNext w.h.l (uTell k w.h.l.nx),d,w.h.up⟩ }) (m:=⟨k,w.h.l.nx,false,false,turnRel w.c w.h.l k⟩)
  rw[←hD] at p1 p2 p3 p4 p5
  have hk':k<w.h.l.ags.length:=by rw[h.alen];exact hk
  have hl':(eDo w 3 k).h.l= { w.h.l with ags:=w.h.l.ags.set k ⟨1,w.h.l.nx,w.h.l.back⟩,nx:=w.h.l.nx+1 } :=by rw[p2];exact hnx
  refine⟨h.hap hok (by rw[p2];exact h.hup) (by rw[p3];exact h.nup),⟨p1,by rw[p3],by rw[hl'],by rw[hl'],by rw[hl'],by rw[hl'],by rw[hl'];simp,⟨by rw[hl'];show w.h.l.nx<=w.h.l.nx+1;omega,by rw[p2];exact dskSafe_le h.logs.hd l2,fun j n hn=>⟨n,by rw[p3];exact hn,.refl⟩⟩⟩,p3,p5,by rw[hl'];show w.h.l.nx<=w.h.l.nx+1;omega,fun j hj=> ?_,.inl ⟨hturn,?_⟩⟩
  ·rw[hl']
   show(w.h.l.ags.set k _)[j]?=_
   rw[List.getElem?_set,if_neg (fun e=>hj e.symm)]
  ·rw[hl']
   show(w.h.l.ags.set k _)[k]?=_
   rw[List.getElem?_set,if_pos rfl,if_pos hk']
theorem Live.again{w:Wld}(h:Live w)(hg:w.h.l.goal≠0){k:Nat}(hk:k<w.n.length):Live (eDo w 4 k)/\(eDo w 4 k).c=w.c/\(eDo w 4 k).h=w.h/\(eDo w 4 k).n=w.n/\(eDo w 4 k).m.length<=w.m.length+1/\
  (∀b,w.h.l.ags[k]?=some b->b.st=1->b.back=w.h.l.back->w.m.length<40->∃m∈(eDo w 4 k).m,m.agent.toNat=k/\m.try_=b.try_/\m.rep=false):=by
 have hT:turnErr w.c w.h.l k=0:=turnErr_of h.inv.led (by rw[h.alen];exact hk) hg
 have hW:=(hap_tell h hk).2
 obtain⟨a,ha⟩:∃a,w.h.l.ags[k]?=some a:=⟨_,List.getElem?_eq_getElem (by rw[h.alen];exact hk)⟩
 have hE:wTell w (hEnd 4 k)=if a.st≠1∨a.back≠w.h.l.back then .error 7 else .ok (wPost w ⟨k,a.try_,false,false,turnRel w.c w.h.l k⟩):=by
  unfold wTell
  rw[show(hEnd 4 k).agent=(k:Int) from rfl,if_neg (by omega),if_pos (show(hEnd 4 k).kind=4 from rfl),Int.toNat_natCast,ha]
 by_cases hc:a.st≠1∨a.back≠w.h.l.back
 ·have hD:eDo w 4 k=w:=by unfold eDo;rw[hW,hE,if_pos hc];rfl
  rw[hD]
  refine⟨h,rfl,rfl,rfl,by omega,fun b hb h1 h2=> ?_⟩
  rw[ha] at hb
  obtain rfl:=Option.some.inj hb
  rcases hc with hc|hc
  ·exact absurd h1 hc
  ·exact absurd h2 hc
 ·have hD:eDo w 4 k=wPost w ⟨k,a.try_,false,false,turnRel w.c w.h.l k⟩:=by unfold eDo;rw[hW,hE,if_neg hc];rfl
  have hok:wHap w (hEnd 4 k)= .ok (eDo w 4 k):=by rw[hD,hW,hE,if_neg hc]
  obtain⟨p1,p2,p3,p4,p5⟩:=post_to (w:=w) (m:=⟨k,a.try_,false,false,turnRel w.c w.h.l k⟩)
  rw[←hD] at p1 p2 p3 p4 p5
  refine⟨h.hap hok (by rw[p2];exact h.hup) (by rw[p3];exact h.nup),p1,p2,p3,p5,fun b hb h1 h2 hl=> ?_⟩
  rw[ha] at hb
  obtain rfl:=Option.some.inj hb
  have f:=ldr_facts h.inv.led
  obtain⟨_,_,q1,q2,q3,_⟩:=f.kn k a ha
  have:=(q3 (by omega)).2
  have:=f.nx
  have hmo:=(h.toOk hg hk (t:=a.try_) (by omega) (by omega)).2
  refine⟨_,by rw[hD];exact post_in h.logs.mail hmo hl,?_,rfl,rfl⟩
  show((k:Int)).toNat=k
  omega
theorem hap_report{w:Wld}(h:Live w){k:Nat}{n:Nod}(hn:w.n[k]?=some n):wHap w (hEnd 8 k)=if n.a.going=true∨n.a.try_=0 then .error 7 else .ok (wReport w k):=by
 have hk:=(List.getElem?_eq_some_iff.1 hn).1
 unfold wHap hEnd
 dsimp only
 rw[if_neg (by omega),if_neg (by omega),if_neg (by omega),if_neg (by omega),if_neg (by omega),if_neg (by omega),if_neg (by omega),Int.toNat_natCast,hn]
 dsimp only
 rw[if_neg (by rw[h.nup n (List.mem_of_getElem? hn)];simp),if_neg (by omega)]
theorem Live.says{w:Wld}(h:Live w){k:Nat}{n:Nod}(hn:w.n[k]?=some n):Live (eDo w 8 k)/\(eDo w 8 k).c=w.c/\(eDo w 8 k).h=w.h/\(eDo w 8 k).n=w.n/\(eDo w 8 k).m.length<=w.m.length+1/\
  (n.a.going=false->n.a.try_≠0->w.m.length<40->∃m∈(eDo w 8 k).m,m.agent.toNat=k/\m.try_=n.a.try_/\m.rep=true):=by
 have hW:=hap_report h hn
 have hk:=(List.getElem?_eq_some_iff.1 hn).1
 by_cases hc:n.a.going=true∨n.a.try_=0
 ·have hD:eDo w 8 k=w:=by unfold eDo;rw[hW,if_pos hc];rfl
  rw[hD]
  refine⟨h,rfl,rfl,rfl,by omega,fun h1 h2=> ?_⟩
  rcases hc with hc|hc
  ·rw[h1] at hc;cases hc
  ·exact absurd hc h2
 ·have hD:eDo w 8 k=wPost w (repMail k n.a):=by unfold eDo;rw[hW,if_neg hc,report_to hn];rfl
  have hok:wHap w (hEnd 8 k)= .ok (eDo w 8 k):=by rw[hD,hW,if_neg hc,report_to hn]
  obtain⟨p1,p2,p3,p4,p5⟩:=post_to (w:=w) (m:=repMail k n.a)
  rw[←hD] at p1 p2 p3 p4 p5
  refine⟨h.hap hok (by rw[p2];exact h.hup) (by rw[p3];exact h.nup),p1,p2,p3,p5,fun h1 h2 hl=> ?_⟩
  obtain⟨_,_,_,b,hb,hA,_⟩:=h.node hn
  obtain⟨_,_,_,e3,e4,_⟩:=agtErr_zero hA.ok
  have h6:=h.six
  have hmo:mailOk (repMail k n.a):=⟨by unfold badWho repMail;dsimp only;omega,by unfold badForm repMail noRel;simp,fun h=>by cases h⟩
  refine⟨repMail k n.a,by rw[hD];exact post_in h.logs.mail hmo hl,?_,rfl,rfl⟩
  show((k:Int)).toNat=k
  omega
theorem mailW_le:∀(l:List Mail),mailW l<=2*l.length
 | []=>by simp[mailW]
 |m::q=>by have:=mailW_le q;simp only[mailW,List.length_cons];split<;>omega
theorem stepW_le{a:Agt}(h:agtErr a=0):stepW a<=30:=by
 unfold stepW
 split
 ·rename_i hg
  have h1:=(agtErr_zero h).1
  have h2:=agt_goal h
  unfold agtLeft
  rw[if_pos hg]
  have:(diffs a.lock a.goal.lock).length<=24:=by
   unfold diffs drops adds
   rw[List.length_append]
   have g1:=List.length_filterMap_le (dropOf a.goal.lock) a.lock
   have g2:=List.length_filterMap_le (addOf a.lock) a.goal.lock
   omega
  omega
 ·omega
theorem Live.block{w:Wld}(h:Live w)(hm:w.m=[])(hg:w.h.l.goal≠0){k:Nat}(hk:k<w.n.length):Live (bkF w k)/\(bkF w k).m=[]/\Keep w (bkF w k)/\
  (∀j,j≠k->∀b,w.h.l.ags[j]?=some b->∃b',(bkF w k).h.l.ags[j]?=some b'/\KGo b b')/\
  (Roomy (bkF w k)->∀b,w.h.l.ags[k]?=some b->∃b',(bkF w k).h.l.ags[k]?=some b'/\b'.st≠1/\KGo (if turnOf w.c w.h.l k=true then⟨1,w.h.l.nx,w.h.l.back⟩ else b) b'):=by
 obtain⟨a1,a2,a3,a4,a5,a6,a7⟩:=h.tell hg hk
 have hk1:k<(eDo w 3 k).n.length:=by rw[a3];exact hk
 have hg1:(eDo w 3 k).h.l.goal≠0:=by rw[a2.goal];exact hg
 obtain⟨b1,b2,b3,b4,b5,b6⟩:=a1.again hg1 hk1
 unfold bkF
 generalize eDo (eDo w 3 k) 4 k=w2 at b1 b2 b3 b4 b5 b6⊢
 have hlen2:w2.m.length<=2:=by rw[hm] at a4;simp at a4;omega
 obtain⟨c1,c2,c3,c4⟩:=b1.drain (n:=200) (by have:=mailW_le w2.m;omega)
 generalize drainF 200 w2=w3 at c1 c2 c3 c4⊢
 have hk3:k<w3.n.length:=by rw[c2.n,b4];exact hk1
 obtain⟨n3,hn3⟩:∃n,w3.n[k]?=some n:=⟨_,List.getElem?_eq_getElem hk3⟩
 obtain⟨_,_,_,q3,hq3,hA3,_⟩:=c1.node hn3
 obtain⟨d1,d2,⟨n4,d3,d4,d5⟩,d6⟩:=c1.steps hn3 (f:=200) (by have:=stepW_le hA3.ok;omega)
 generalize stepsF 200 w3 k=w4 at d1 d2 d3 d5 d6⊢
 have hlen4:w4.m.length<=1:=by rw[c3] at d6;simp at d6;split at d6<;>omega
 obtain⟨e1,e2,e3,e4,e5,e6⟩:=d1.says d3
 generalize eDo w4 8 k=w5 at e1 e2 e3 e4 e5 e6⊢
 obtain⟨f1,f2,f3,f4⟩:=e1.drain (n:=200) (by have:=mailW_le w5.m;omega)
 generalize drainF 200 w5=w6 at f1 f2 f3 f4⊢
 have k12:Prog (eDo w 3 k) w2:= .same b2 b3 b4
 have k45:Prog w4 w5:= .same e2 e3 e4
 have k16:Prog (eDo w 3 k) w6:=(((k12.trans c2).trans d2).trans k45).trans f2
 refine⟨f1,f3,a2.trans k16.kp,fun j hj b hb=> ?_,fun hR b hb=> ?_⟩
 ·rw[←a6 j hj] at hb
  exact k16.ags j b hb
 ·obtain⟨bt,hbt,hbe⟩:∃bt,(eDo w 3 k).h.l.ags[k]?=some bt/\bt=(if turnOf w.c w.h.l k=true then⟨1,w.h.l.nx,w.h.l.back⟩ else b):=by
   rcases a7 with⟨t1,t2⟩|⟨t1,t2⟩
   ·exact⟨_,t2,by rw[if_pos t1]⟩
   ·exact⟨b,by rw[t1];exact hb,by rw[if_neg (by rw[t2 (hR.back k16.later)];simp)]⟩
  rw[←hbe]
  obtain⟨b6',g1,g2⟩:=k16.ags k bt hbt
  refine⟨b6',g1,?_,g2⟩
  by_cases hst:bt.st=1
  ·have hback:bt.back=(eDo w 3 k).h.l.back:=by
    rw[a2.back]
    have f:=ldr_facts h.inv.led
    by_cases ht:turnOf w.c w.h.l k=true
    ·rw[hbe,if_pos ht]
    ·rw[if_neg ht] at hbe
     subst hbe
     obtain⟨_,_,_,_,_,q⟩:=f.kn k bt hb
     cases hlb:w.h.l.back with
     |false=>
      cases hbb:bt.back with
      |false=>rfl
      |true=>have:=(q hbb).1;rw[hlb] at this;cases this
     |true=>
      cases hbb:bt.back with
      |true=>rfl
      |false=>
       exfalso
       apply ht
       unfold turnOf
       rw[Int.toNat_natCast,hb]
       simp[hlb,hbb,hst]
   obtain⟨m,m1,m2,m3,m4⟩:=b6 bt hbt hst hback (by rw[hm] at a4;simp at a4;omega)
   have hR2:Roomy w3:=hR.back (((d2.trans k45).trans f2).later)
   have hle:=(c4 hR2).2 m m1 m4 n3 (by rw[m2];exact hn3)
   obtain⟨bt3,g3,g4⟩:=(k12.trans c2).ags k bt hbt
   rw[hq3] at g3
   obtain rfl:=Option.some.inj g3
   have htry:n3.a.try_=q3.try_:=by have:=hA3.le;have:=g4.1;omega
   have hR4:Roomy w4:=hR.back ((k45.trans f2).later)
   have hgo:=d5 hR4
   have f3':=ldr_facts c1.inv.led
   obtain⟨bt4,g5,g6⟩:=d2.ags k q3 hq3
   by_cases hst4:bt4.st=1
   ·have hq1:q3.st=1:=by obtain⟨_,_,g6⟩:=g6;obtain⟨_,_,g4⟩:=g4;omega
    have hnz:n4.a.try_≠0:=by
     have:=((f3'.kn k q3 hq3).2.2.2.2.1 (by omega)).2
     rw[d4,htry];exact this
    obtain⟨r,r1,r2,r3,r4⟩:=e6 hgo hnz (by omega)
    have hb5:w5.h.l.ags[r.agent.toNat]?=some bt4:=by rw[e3,r2];exact g5
    exact(f4 hR).1 r r1 r4 bt4 b6' hb5 (by rw[r3,d4,htry];exact g6.1.symm) (by rw[r2];exact g1)
   ·obtain⟨b7,g7,g8⟩:=(k45.trans f2).ags k bt4 g5
    rw[g1] at g7
    obtain rfl:=Option.some.inj g7
    obtain⟨_,_,g8⟩:=g8
    omega
  ·obtain⟨_,_,g2⟩:=g2
   omega
open Go
def BGo(back:Bool)(b b':Kn):Prop:=(back=false->(b.st=2->b'.st=2)/\(b.st=3->b'.st=3))/\(b.st≠1->b'.st≠1)/\(back=true->(b.st=0∨b.back=true)->(b'.st=0∨b'.back=true))
theorem BGo.refl{back:Bool}{b:Kn} :BGo back b b:=⟨fun _=>⟨fun h=>h,fun h=>h⟩,fun h=>h,fun _ h=>h⟩
theorem BGo.trans{back:Bool}{a b c:Kn}(h:BGo back a b)(k:BGo back b c):BGo back a c:=⟨fun hb=>⟨fun h2=>(k.1 hb).1 ((h.1 hb).1 h2),fun h3=>(k.1 hb).2 ((h.1 hb).2 h3)⟩,fun h1=>k.2.1 (h.2.1 h1),fun hb h0=>k.2.2 hb (h.2.2 hb h0)⟩
theorem KGo.b{back:Bool}{b b':Kn}(h:KGo b b'):BGo back b b':=by
 obtain⟨_,h2,h3⟩:=h
 refine⟨fun _=>⟨by omega,by omega⟩,by omega,fun _ h0=> ?_⟩
 rw[h2]
 rcases h0 with h0|h0
 ·left;omega
 ·exact .inr h0
theorem now_spec{ws:List (List Int)}{th:List Bool}(h:waveCheck ws th.length=0):∃n:Nat,waveNow ws th=n/\IsNow ws th n:=by
 obtain⟨n,hn,hI⟩:=nowFrom_spec th ws 0
 exact⟨n,by rw[waveNow,if_pos h,hn];omega,hI⟩
def Ahead(w:Wld)(j:Int):Prop:=∀(o:Nat)(b:Kn),w.h.l.ags[o]?=some b->waveOf w.c.waves o<j->b.st=2∨b.st=3
theorem Live.waves{w:Wld}(h:Live w):waveCheck w.c.waves w.h.l.ags.length=0:=by
 have:=(cfgErr_zero h.logs.cfg).2.2.2.2.2.2
 rw[(ags_six h.inv.led).2];exact this
theorem Live.turn{w:Wld}(h:Live w)(hb:w.h.l.back=false)(hill:cnt 3 w.h.l.ags<=w.c.bud){k:Nat}{b:Kn}(hk:w.h.l.ags[k]?=some b)(h0:b.st=0)(ha:Ahead w (waveOf w.c.waves k)):turnOf w.c w.h.l k=true:=by
 have hwc:=h.waves
 have hkl:=(List.getElem?_eq_some_iff.1 hk).1
 have hwz:=waveCheck_zero hwc
 obtain⟨N,hN,hIs⟩:=now_spec (ws:=w.c.waves) (th:=thr w.h.l.ags) (by rw[thr_len];exact hwc)
 have hin:(k:Int)∈w.c.waves.flatten:=(hwz.2.2.2.1 k).2 ⟨by omega,by omega⟩
 obtain⟨j,v,x1,x2,x3,x4⟩:=(waveOfFrom_spec k w.c.waves 0).resolve_left (fun h=>h.2 hin)
 have hj:waveOf w.c.waves k=j:=by unfold waveOf;omega
 have hjl:=(List.getElem?_eq_some_iff.1 x2).1
 have hIj:IsNow w.c.waves (thr w.h.l.ags) j:=by
  refine⟨fun i u hi hlt a hau=> ?_,by omega,fun _=>⟨v,x2,k,x3,(notThr (by omega) hk).2 (by omega)⟩⟩
  have hai:a∈w.c.waves.flatten:=List.mem_flatten.2 ⟨u,List.mem_of_getElem? hi,hau⟩
  have har:=(hwz.2.2.2.1 a).1 hai
  obtain⟨o,rfl⟩:∃o:Nat,a=o:=⟨a.toNat,by omega⟩
  obtain⟨j2,v2,y1,y2,y3,y4⟩:=(waveOfFrom_spec o w.c.waves 0).resolve_left (fun h=>h.2 hai)
  have hle:j2<=i:=by
   rcases Nat.lt_or_ge i j2 with c|c
   ·exact absurd hau (y4 i u c hi)
   ·exact c
  have hob:w.h.l.ags[o]?=some (w.h.l.ags[o]'(by omega)):=List.getElem?_eq_getElem (by omega)
  have:=ha o _ hob (by rw[hj];unfold waveOf;omega)
  cases hnt:notThrough (thr w.h.l.ags) o with
  |false=>rfl
  |true=>exact absurd this ((notThr (by omega) hob).1 hnt)
 have hNj:N=j:=hIs.unique hIj
 unfold turnOf
 rw[Int.toNat_natCast,hk]
 dsimp only
 rw[if_neg (by rw[hb];simp)]
 exact decide_eq_true ⟨hwc,h0,by rw[hN,hNj,hj],hill⟩
theorem cnt_mono:∀ {l m:List Kn},l.length=m.length->(∀(i:Nat)(b b':Kn),l[i]?=some b->m[i]?=some b'->b.st=3->b'.st=3)->cnt 3 l<=cnt 3 m
 | [],[],_,_=>Int.le_refl _
 |x::l,y::m,hl,h=>by
  have ih:=cnt_mono (l:=l) (m:=m) (by simpa using hl) fun i b b' h1 h2=>h (i+1) b b' (by simpa using h1) (by simpa using h2)
  have h0:=h 0 x y rfl rfl
  unfold cnt at*
  simp only[List.filter_cons]
  by_cases hx:x.st=3
  ·rw[if_pos (by simpa using hx),if_pos (by simpa using h0 hx)]
   simp only[List.length_cons];omega
  ·rw[if_neg (by simpa using hx)]
   split
   ·simp only[List.length_cons];omega
   ·exact ih
theorem Live.blocks(j:Int):∀ {ks:List Nat} {w:Wld},Live w->w.m=[]->w.h.l.goal≠0->(∀k∈ks,k<w.n.length)->Live (ks.foldl bkF w)/\(ks.foldl bkF w).m=[]/\Keep w (ks.foldl bkF w)/\
  (Roomy (ks.foldl bkF w)->(∀(k:Nat)(b:Kn),w.h.l.ags[k]?=some b->∃b',(ks.foldl bkF w).h.l.ags[k]?=some b'/\BGo w.h.l.back b b')/\
   (∀k∈ks,∀b',(ks.foldl bkF w).h.l.ags[k]?=some b'->b'.st≠1/\(w.h.l.back=true->b'.st=0∨b'.back=true))/\
   (w.h.l.back=false->cnt 3 (ks.foldl bkF w).h.l.ags<=w.c.bud->Ahead w j->∀k∈ks,waveOf w.c.waves k=j->∀b',(ks.foldl bkF w).h.l.ags[k]?=some b'->b'.st=2∨b'.st=3))
 | [],w,h,hm,hg,hk=>⟨h,hm,.refl,fun _=>⟨fun k b hb=>⟨b,hb,.refl⟩,fun k hk=>(by cases hk),fun _ _ _ k hk=>(by cases hk)⟩⟩
 |k::ks,w,h,hm,hg,hks=>by
  have hk:=hks k List.mem_cons_self
  obtain⟨a1,a2,a3,a4,a5⟩:=h.block hm hg hk
  obtain⟨i1,i2,i3,i4⟩:=Live.blocks j (ks:=ks) a1 a2 (by rw[a3.goal];exact hg) (fun x hx=>by rw[a3.n];exact hks x (List.mem_cons_of_mem _ hx))
  rw[List.foldl_cons]
  refine⟨i1,i2,a3.trans i3,fun hR=> ?_⟩
  obtain⟨j1,j2,j3⟩:=i4 hR
  rw[a3.back] at j1 j2 j3
  rw[a3.c] at j3
  have hR1:=hR.back i3.later
  have one:∀(o:Nat)(b:Kn),w.h.l.ags[o]?=some b->∃b',(bkF w k).h.l.ags[o]?=some b'/\BGo w.h.l.back b b'/\(o=k->b'.st≠1/\(w.h.l.back=true->b'.st=0∨b'.back=true)/\(turnOf w.c w.h.l k=true->b'.st=2∨b'.st=3)/\(b.st=1->b'.st=2∨b'.st=3)):=by
   intro o b hb
   by_cases e:o=k
   ·subst e
    obtain⟨b',g1,g2,g3⟩:=a5 hR1 b hb
    have f:=ldr_facts h.inv.led
    refine⟨b',g1,?_,fun _=> ?_⟩
    ·by_cases ht:turnOf w.c w.h.l o=true
     ·rw[if_pos ht] at g3
      obtain⟨q1,q2,q3⟩:=g3
      refine⟨fun hb0=> ?_,fun _=>g2,fun hb1 _=> .inr (q2.trans hb1)⟩
      have h0:b.st=0:=by
       unfold turnOf at ht
       rw[Int.toNat_natCast,hb] at ht
       dsimp only at ht
       rw[if_neg (by rw[hb0];simp)] at ht
       exact(of_decide_eq_true ht).2.1
      exact⟨by omega,by omega⟩
     ·rw[if_neg ht] at g3;exact g3.b
    ·by_cases ht:turnOf w.c w.h.l o=true
     ·rw[if_pos ht] at g3
      obtain⟨q1,q2,q3⟩:=g3
      dsimp only at q2 q3
      exact⟨g2,fun hb1=> .inr (q2.trans hb1),fun _=>by omega,fun _=>by omega⟩
     ·rw[if_neg ht] at g3
      obtain⟨q1,q2,q3⟩:=g3
      refine⟨g2,fun hb1=> ?_,fun h=>absurd h ht,fun h1=>by omega⟩
      by_cases h0:b.st=0
      ·left;omega
      ·right
       rw[q2]
       cases hbb:b.back with
       |true=>rfl
       |false=>
        exfalso
        apply ht
        unfold turnOf
        rw[Int.toNat_natCast,hb]
        simp[hb1,hbb,h0]
   ·obtain⟨b',g1,g2⟩:=a4 o e b hb
    exact⟨b',g1,g2.b,fun h=>absurd h e⟩
  refine⟨fun o b hb=> ?_,fun o ho b' hb'=> ?_,fun hb0 hill hA o ho hwo b' hb'=> ?_⟩
  ·obtain⟨b1,g1,g2,_⟩:=one o b hb
   obtain⟨b2,g3,g4⟩:=j1 o b1 g1
   exact⟨b2,g3,g2.trans g4⟩
  ·rcases List.mem_cons.1 ho with rfl|ho
   ·obtain⟨b,hb⟩:∃b,w.h.l.ags[o]?=some b:=⟨_,List.getElem?_eq_getElem (by rw[h.alen];exact hk)⟩
    obtain⟨b1,g1,g2,g5⟩:=one o b hb
    obtain⟨b2,g3,g4⟩:=j1 o b1 g1
    rw[hb'] at g3
    obtain rfl:=Option.some.inj g3
    obtain⟨r1,r2,_⟩:=g5 rfl
    exact⟨g4.2.1 r1,fun hb1=>g4.2.2 hb1 (r2 hb1)⟩
   ·exact j2 o ho b' hb'
  ·have hA1:Ahead (bkF w k) j:=fun q b1 hb1 hlt=>by
    rw[a3.c] at hlt
    have hql:=(List.getElem?_eq_some_iff.1 hb1).1
    rw[a3.alen] at hql
    have hb:=List.getElem?_eq_getElem hql
    obtain⟨b2,g1,g2,_⟩:=one q _ hb
    rw[hb1] at g1
    obtain rfl:=Option.some.inj g1
    have:=hA q _ hb hlt
    have:=g2.1 hb0
    omega
   rcases List.mem_cons.1 ho with rfl|ho
   ·obtain⟨b,hb⟩:∃b,w.h.l.ags[o]?=some b:=⟨_,List.getElem?_eq_getElem (by rw[h.alen];exact hk)⟩
    obtain⟨b1,g1,g2,g5⟩:=one o b hb
    obtain⟨b2,g3,g4⟩:=j1 o b1 g1
    rw[hb'] at g3
    obtain rfl:=Option.some.inj g3
    obtain⟨_,_,r3,r4⟩:=g5 rfl
    have hcnt:cnt 3 w.h.l.ags<=w.c.bud:=by
     refine Int.le_trans (cnt_mono (by rw[(a3.trans i3).alen]) fun i x x' hx hx' h3=> ?_) hill
     obtain⟨x1,y1,y2,_⟩:=one i x hx
     obtain⟨x2,y3,y4⟩:=j1 i x1 y1
     rw[hx'] at y3
     obtain rfl:=Option.some.inj y3
     exact((y2.trans y4).1 hb0).2 h3
    have hb1:b1.st=2∨b1.st=3:=by
     have f:=ldr_facts h.inv.led
     obtain⟨f1,f2,_⟩:=f.kn o b hb
     by_cases c0:b.st=0
     ·exact r3 (h.turn hb0 hcnt hb c0 (by rw[hwo];exact hA))
     by_cases c1:b.st=1
     ·exact r4 c1
     ·have:=g2.1 hb0
      omega
    have:=g4.1 hb0
    omega
   ·exact j3 hb0 hill hA1 o ho hwo b' hb'
theorem hap_led{w:Wld}(h:Live w):wHap w (hEnd 5 0)=wLead w ⟨8,0,0,0,false,⟨0,[]⟩⟩/\wHap w (hEnd 6 0)=wLead w ⟨9,0,0,0,false,⟨0,[]⟩⟩:=by
 constructor
 ·unfold wHap hEnd hapRec
  dsimp only
  rw[if_neg (by omega),if_neg (by omega),if_pos (by omega),if_neg (by rw[h.hup];simp),if_neg (by omega),if_neg (by omega),if_pos rfl]
 ·unfold wHap hEnd hapRec
  dsimp only
  rw[if_neg (by omega),if_neg (by omega),if_pos (by omega),if_neg (by rw[h.hup];simp),if_neg (by omega),if_neg (by omega),if_neg (by omega)]
theorem Live.backs{w:Wld}(h:Live w)(hg:w.h.l.goal≠0):Live (eDo w 5 0)/\(eDo w 5 0).c=w.c/\(eDo w 5 0).n=w.n/\(eDo w 5 0).m=w.m/\Later w (eDo w 5 0)/\(eDo w 5 0).h.l.ags=w.h.l.ags/\(eDo w 5 0).h.l.goal=w.h.l.goal/\
  ((eDo w 5 0=w/\(Roomy w->w.h.l.back=true))∨(eDo w 5 0).h.l.back=true):=by
 have hW:=(hap_led h).1
 have hr:recErr ⟨8,0,0,0,false,⟨0,[]⟩⟩=0:=by decide
 have hkind:ledKind w.c w.h.l ⟨8,0,0,0,false,⟨0,[]⟩⟩=if w.h.l.back=true then 7 else 0:=by
  unfold ledKind
  dsimp only
  rw[if_neg (by omega),if_neg (by omega),if_neg (by omega),if_pos rfl]
  by_cases hb:w.h.l.back=true
  ·rw[if_pos (.inr hb),if_pos hb]
  ·rw[if_neg (by rintro(q|q);exact hg q;exact hb q),if_neg hb]
 cases hl:wLead w ⟨8,0,0,0,false,⟨0,[]⟩⟩ with
 |error e=>
  have hD:eDo w 5 0=w:=by unfold eDo;rw[hW,hl];rfl
  rw[hD]
  refine⟨h,rfl,rfl,rfl,.refl,rfl,rfl,.inl ⟨rfl,fun hR=> ?_⟩⟩
  by_cases hb:w.h.l.back=true
  ·exact hb
  exfalso
  have hz:ledErr w.c w.h.l ⟨8,0,0,0,false,⟨0,[]⟩⟩=0:=by
   unfold ledErr
   rw[if_neg (by rw[h.inv.led];simp),if_neg (by rw[hr];simp),hkind,if_neg hb]
  obtain⟨x,hx⟩:=room_put (r:=⟨8,0,0,0,false,⟨0,[]⟩⟩) h.logs.hd hR.hd hr
  unfold wLead at hl
  rw[if_neg (by omega),hx] at hl
  cases hl
 |ok y=>
  obtain⟨l1,d,l2,rfl⟩:=wLead_ok hl
  have hD:eDo w 5 0= { w with h:=⟨ledNext w.h.l ⟨8,0,0,0,false,⟨0,[]⟩⟩,d,w.h.up⟩ } :=by unfold eDo;rw[hW,hl];rfl
  have hok:wHap w (hEnd 5 0)= .ok (eDo w 5 0):=by rw[hD,hW,hl]
  have hnx:ledNext w.h.l ⟨8,0,0,0,false,⟨0,[]⟩⟩= { w.h.l with back:=true } :=led_eq8 rfl
  rw[hnx] at hD
  refine⟨h.hap hok (by rw[hD];exact h.hup) (by rw[hD];exact h.nup),by rw[hD],by rw[hD],by rw[hD],⟨by rw[hD];exact Int.le_refl _,by rw[hD];exact dskSafe_le h.logs.hd l2,fun k n hn=>⟨n,by rw[hD];exact hn,.refl⟩⟩,by rw[hD],by rw[hD],.inr (by rw[hD])⟩
theorem Live.overs{w:Wld}(h:Live w)(hg:w.h.l.goal≠0):Live (eDo w 6 0)/\(eDo w 6 0).c=w.c/\(eDo w 6 0).n=w.n/\(eDo w 6 0).m=w.m/\Later w (eDo w 6 0)/\
  ((eDo w 6 0=w/\(Roomy w->overOf w.c w.h.l=false))∨(eDo w 6 0).h.l.goal=0):=by
 have hW:=(hap_led h).2
 have hr:recErr ⟨9,0,0,0,false,⟨0,[]⟩⟩=0:=by decide
 have hkind:ledKind w.c w.h.l ⟨9,0,0,0,false,⟨0,[]⟩⟩=if overOf w.c w.h.l=false then 7 else 0:=by
  unfold ledKind
  dsimp only
  rw[if_neg (by omega),if_neg (by omega),if_neg (by omega),if_neg (by omega),if_pos rfl]
  by_cases hb:overOf w.c w.h.l=false
  ·rw[if_pos (.inr hb),if_pos hb]
  ·rw[if_neg (by rintro(q|q);exact hg q;exact hb q),if_neg hb]
 cases hl:wLead w ⟨9,0,0,0,false,⟨0,[]⟩⟩ with
 |error e=>
  have hD:eDo w 6 0=w:=by unfold eDo;rw[hW,hl];rfl
  rw[hD]
  refine⟨h,rfl,rfl,rfl,.refl,.inl ⟨rfl,fun hR=> ?_⟩⟩
  by_cases hb:overOf w.c w.h.l=false
  ·exact hb
  exfalso
  have hz:ledErr w.c w.h.l ⟨9,0,0,0,false,⟨0,[]⟩⟩=0:=by
   unfold ledErr
   rw[if_neg (by rw[h.inv.led];simp),if_neg (by rw[hr];simp),hkind,if_neg hb]
  obtain⟨x,hx⟩:=room_put (r:=⟨9,0,0,0,false,⟨0,[]⟩⟩) h.logs.hd hR.hd hr
  unfold wLead at hl
  rw[if_neg (by omega),hx] at hl
  cases hl
 |ok y=>
  obtain⟨l1,d,l2,rfl⟩:=wLead_ok hl
  have hD:eDo w 6 0= { w with h:=⟨ledNext w.h.l ⟨9,0,0,0,false,⟨0,[]⟩⟩,d,w.h.up⟩ } :=by unfold eDo;rw[hW,hl];rfl
  have hok:wHap w (hEnd 6 0)= .ok (eDo w 6 0):=by rw[hD,hW,hl]
  have hnx:(ledNext w.h.l ⟨9,0,0,0,false,⟨0,[]⟩⟩).goal=0/\(ledNext w.h.l ⟨9,0,0,0,false,⟨0,[]⟩⟩).nx=w.h.l.nx:=by
   rw[led_eq9 rfl]
   exact⟨rfl,rfl⟩
  refine⟨h.hap hok (by rw[hD];exact h.hup) (by rw[hD];exact h.nup),by rw[hD],by rw[hD],by rw[hD],⟨by rw[hD];exact Int.le_of_eq hnx.2.symm,by rw[hD];exact dskSafe_le h.logs.hd l2,fun k n hn=>⟨n,by rw[hD];exact hn,.refl⟩⟩,.inr (by rw[hD];exact hnx.1)⟩
def roundF(w:Wld):Wld:=
 let y:=(List.range w.n.length).foldl bkF w
 eDo (if w.c.bud<cnt 3 y.h.l.ags then eDo y 5 0 else y) 6 0
def Pot(w:Wld)(p:Nat):Prop:=w.h.l.goal=0∨(w.h.l.back=true/\1<=p)∨(w.h.l.back=false/\∃j:Nat,j<=w.c.waves.length/\w.c.waves.length-j+2<=p/\Ahead w j)
theorem wave_lt{w:Wld}(h:Live w){k:Nat}(hk:k<w.n.length):waveOf w.c.waves k<w.c.waves.length:=by
 have hwz:=waveCheck_zero h.waves
 have hin:(k:Int)∈w.c.waves.flatten:=(hwz.2.2.2.1 k).2 ⟨by omega,by rw[h.alen];omega⟩
 obtain⟨j,v,x1,x2,_⟩:=(waveOfFrom_spec k w.c.waves 0).resolve_left (fun h=>h.2 hin)
 have:=(List.getElem?_eq_some_iff.1 x2).1
 unfold waveOf;omega
theorem Live.round{w:Wld}(h:Live w)(hm:w.m=[])(hg:w.h.l.goal≠0):Live (roundF w)/\Later w (roundF w)/\(roundF w).c=w.c/\(roundF w).n.length=w.n.length/\(Roomy (roundF w)->∀p,Pot w (p+1)->Pot (roundF w) p):=by
 have hks:∀k∈List.range w.n.length,k<w.n.length:=fun k hk=>List.mem_range.1 hk
 obtain⟨a1,a2,a3,_⟩:=h.blocks 0 hm hg hks
 have aj:=fun j=>(h.blocks j hm hg hks).2.2.2
 unfold roundF
 dsimp only
 generalize (List.range w.n.length).foldl bkF w=y at a1 a2 a3 aj⊢
 have hgy:y.h.l.goal≠0:=by rw[a3.goal];exact hg
 obtain⟨z,hz,b1,b2,b3,b5,b7⟩:∃z,(if w.c.bud<cnt 3 y.h.l.ags then eDo y 5 0 else y)=z/\Live z/\z.c=y.c/\z.n=y.n/\Later y z/\z.h.l.goal≠0:=by
  by_cases hc:w.c.bud<cnt 3 y.h.l.ags
  ·obtain⟨c1,c2,c3,c4,c5,c6,c7,_⟩:=a1.backs hgy
   exact⟨_,by rw[if_pos hc],c1,c2,c3,c5,by rw[c7];exact hgy⟩
  ·exact⟨_,by rw[if_neg hc],a1,rfl,rfl,.refl,hgy⟩
 rw[hz]
 obtain⟨d1,d2,d3,d4,d5,d6⟩:=b1.overs b7
 refine⟨d1,(a3.later.trans b5).trans d5,(d2.trans b2).trans a3.c,by rw[d3,b3,a3.n],fun hR p hp=> ?_⟩
 refine d6.elim (fun d67=> ?_) (fun d6=> .inl d6)
 obtain⟨d6,d7⟩:=d67
 rw[d6] at hR⊢
 have hRy:=hR.back b5
 have hov:=d7 hR
 obtain⟨e1,e2,_⟩:=aj 0 hRy
 have hall:∀b'∈y.h.l.ags,b'.st≠1/\(w.h.l.back=true->b'.st=0∨b'.back=true):=fun b' hb'=>by
  obtain⟨k,hk⟩:=List.getElem?_of_mem hb'
  have hkl:=(List.getElem?_eq_some_iff.1 hk).1
  exact e2 k (List.mem_range.2 (by rw[a1.alen,a3.n] at hkl;exact hkl)) b' hk
 rcases hp with hp|⟨hb,_⟩|⟨hb,j,hj,hjp,hA⟩
 ·exact absurd hp hg
 ·exfalso
  have hzy:z=y:=by
   rw[←hz]
   split
   ·obtain⟨c1,c2,c3,c4,c5,c6,c7,c8⟩:=a1.backs hgy
    unfold eDo
    rw[(hap_led a1).1]
    have:wLead y ⟨8,0,0,0,false,⟨0,[]⟩⟩= .error 7:=by
     unfold wLead
     have he:ledErr y.c y.h.l ⟨8,0,0,0,false,⟨0,[]⟩⟩=7:=by
      unfold ledErr
      rw[if_neg (by rw[a1.inv.led];simp),if_neg (by decide)]
      unfold ledKind
      dsimp only
      rw[if_neg (by omega),if_neg (by omega),if_neg (by omega),if_pos rfl,if_pos (.inr (by rw[a3.back];exact hb))]
     rw[he,if_pos (by omega)]
    rw[this];rfl
   ·rfl
  rw[hzy] at hov
  unfold overOf at hov
  rw[if_neg (by rw[a3.back,hb];simp)] at hov
  refine of_decide_eq_false hov fun b' hb' hbusy=> ?_
  obtain⟨g1,g2⟩:=hall b' hb'
  have g2:=g2 hb
  unfold busy at hbusy
  rcases hbusy with q|⟨q1,q2⟩
  ·exact g1 q
  ·rcases g2 with g2|g2
   ·exact q1 g2
   ·rw[g2] at q2;cases q2
 ·by_cases hc:w.c.bud<cnt 3 y.h.l.ags
  ·rw[if_pos hc] at hz
   obtain⟨c1,c2,c3,c4,c5,c6,c7,c8⟩:=a1.backs hgy
   rw[hz] at c8
   right;left
   refine⟨?_,by omega⟩
   rcases c8 with⟨c8,c9⟩|c8
   ·rw[c8];exact c9 hRy
   ·exact c8
  ·rw[if_neg hc] at hz
   subst hz
   have hcw:y.c=w.c:=a3.c
   have hby:y.h.l.back=false:=by rw[a3.back];exact hb
   obtain⟨f1,f2,f3⟩:=aj j hRy
   have hAy:Ahead y j:=fun q b1 hb1 hlt=>by
    rw[hcw] at hlt
    have hql:=(List.getElem?_eq_some_iff.1 hb1).1
    rw[a3.alen] at hql
    have hbq:=List.getElem?_eq_getElem hql
    obtain⟨b2,g1,g2⟩:=f1 q _ hbq
    rw[hb1] at g1
    obtain rfl:=Option.some.inj g1
    have:=hA q _ hbq hlt
    have:=g2.1 hb
    omega
   have hAj:Ahead y ((j+1:Nat):Int):=fun q b1 hb1 hlt=>by
    by_cases hq:waveOf y.c.waves q<j
    ·exact hAy q b1 hb1 hq
    ·have hql:=(List.getElem?_eq_some_iff.1 hb1).1
     exact f3 hb (by omega) hA q (List.mem_range.2 (by rw[a1.alen,a3.n] at hql;exact hql)) (by rw[hcw] at hlt hq;push_cast at hlt;omega) b1 hb1
   by_cases hjl:j<w.c.waves.length
   ·exact .inr (.inr ⟨hby,j+1,by rw[hcw];omega,by rw[hcw];omega,hAj⟩)
   ·exfalso
    unfold overOf at hov
    rw[if_pos hby] at hov
    refine of_decide_eq_false hov ⟨by rw[hcw];omega,fun hmem=> ?_⟩
    unfold thr at hmem
    obtain⟨b',hb',hf⟩:=List.mem_map.1 hmem
    obtain⟨k,hk⟩:=List.getElem?_of_mem hb'
    have hkl:=(List.getElem?_eq_some_iff.1 hk).1
    have:=hAy k b' hk (by
     have:=wave_lt a1 (k:=k) (by rw[←a1.alen];exact hkl)
     rw[hcw] at this⊢
     omega)
    exact of_decide_eq_false hf this
def endsF:Nat->Wld->Wld
 |0,w=>w
 |f+1,w=>if(drainF 200 w).h.l.goal=0 then drainF 200 w else endsF f (roundF (drainF 200 w))
theorem Live.ends:∀ {f:Nat} {w:Wld},Live w->Live (endsF f w)/\Later w (endsF f w)/\(endsF f w).n.length=w.n.length/\(Roomy (endsF f w)->Pot w f->(endsF f w).h.l.goal=0)
 |0,w,h=>⟨h,.refl,rfl,fun _ hp=>by
  rcases hp with hp|⟨_,hp⟩|⟨_,j,_,hp,_⟩
  ·exact hp
  ·omega
  ·omega⟩
 |f+1,w,h=>by
  have h40:=(mailsCheck_iff.1 h.logs.mail).1
  obtain⟨d1,d2,d3,_⟩:=h.drain (n:=200) (by have:=mailW_le w.m;omega)
  unfold endsF
  by_cases hg:(drainF 200 w).h.l.goal=0
  ·rw[if_pos hg]
   exact⟨d1,d2.later,d2.n,fun _ _=>hg⟩
  ·rw[if_neg hg]
   obtain⟨r1,r2,r3,r4,r5⟩:=d1.round d3 hg
   obtain⟨i1,i2,i3,i4⟩:=Live.ends (f:=f) r1
   refine⟨i1,(d2.later.trans r2).trans i2,by rw[i3,r4,d2.n],fun hR hp=>i4 hR (r5 (hR.back i2) f ?_)⟩
   rcases hp with hp|⟨hp,h1⟩|⟨hp,j,h1,h2,h3⟩
   ·exact .inl (by rw[d2.goal];exact hp)
   ·exact .inr (.inl ⟨by rw[d2.back];exact hp,h1⟩)
   ·refine .inr (.inr ⟨by rw[d2.back];exact hp,j,by rw[d2.c];exact h1,by rw[d2.c];exact h2,fun q b1 hb1 hlt=> ?_⟩)
    rw[d2.c] at hlt
    have hql:=(List.getElem?_eq_some_iff.1 hb1).1
    rw[d2.alen] at hql
    have hbq:=List.getElem?_eq_getElem hql
    obtain⟨b2,g1,g2⟩:=d2.ags q _ hbq
    rw[hb1] at g1
    obtain rfl:=Option.some.inj g1
    have:=h3 q _ hbq hlt
    obtain⟨_,_,g2⟩:=g2
    omega
theorem flat_ge:∀ {ws:List (List Int)},(∀w∈ws,w≠[])->ws.length<=ws.flatten.length
 | [],_=>by simp
 |w::r,h=>by
  have ih:=flat_ge (ws:=r) fun x hx=>h x (List.mem_cons_of_mem _ hx)
  have h0:w.length≠0:=fun e=>h w List.mem_cons_self (List.eq_nil_of_length_eq_zero e)
  simp only[List.flatten_cons,List.length_append,List.length_cons]
  omega
theorem Live.few{w:Wld}(h:Live w):w.c.waves.length<=w.n.length:=by
 have hwc:=h.waves
 have h5:=(waveCheck_zero hwc).2.2.2.2
 unfold waveCheck at hwc
 split at hwc
 ·cases hwc
 ·split at hwc
  ·cases hwc
  ·have:=(waveAll_zero (by omega) w.c.waves (wok_nil _) hwc).2.1
   have hf:=flat_ge h5
   rw[h.alen] at this
   simp only[List.nil_append] at this
   omega
theorem story_ends{w:Wld}(h:Live w)(hR:Roomy (endsF (2*w.n.length+4) w)):(endsF (2*w.n.length+4) w).h.l.goal=0/\∀n∈(endsF (2*w.n.length+4) w).n,n.a.going=false/\n.a.at_=(endsF (2*w.n.length+4) w).h.l.now:=by
 obtain⟨e1,e2,e3,e4⟩:=h.ends (f:=2*w.n.length+4)
 have hp:Pot w (2*w.n.length+4):=by
  cases hb:w.h.l.back with
  |true=>exact .inr (.inl ⟨hb,by omega⟩)
  |false=>
   refine .inr (.inr ⟨hb,0,by omega,by have:=h.few;omega,fun o b hbo hlt=> ?_⟩)
   exfalso
   have hol:=(List.getElem?_eq_some_iff.1 hbo).1
   have hwz:=waveCheck_zero h.waves
   have hin:(o:Int)∈w.c.waves.flatten:=(hwz.2.2.2.1 o).2 ⟨by omega,by omega⟩
   obtain⟨j,v,x1,_⟩:=(waveOfFrom_spec o w.c.waves 0).resolve_left (fun h=>h.2 hin)
   unfold waveOf at hlt
   omega
 have hg:=e4 hR hp
 refine⟨hg,fun n hn=> ?_⟩
 have:=story_rests e1.inv hg (a:=n.a) (List.mem_map_of_mem hn)
 exact⟨this.1,this.2.1⟩
open Go
structure SNod where
 a:Agt
 rs:List Recd
 up:Bool
structure Skl where
 c:Conf
 l:Ldr
 rs:List Recd
 up:Bool
 n:List SNod
 m:List Mail
def sLead(s:Skl)(r:Recd):Except Int Skl:=if ledErr s.c s.l r≠0 then .error (ledErr s.c s.l r) else .ok { s with l:=ledNext s.l r,rs:=s.rs++[r] }
def sDoes(s:Skl)(k:Nat)(r:Recd):Except Int Skl:=
 match s.n[k]? with
 |none=> .error 5
 |some n=>if nextErr n.a r≠0 then .error (nextErr n.a r) else .ok { s with n:=s.n.set k ⟨agtNext n.a r,n.rs++[r],n.up⟩ }
def sPost(s:Skl)(m:Mail):Skl:=if sendErr s.m m=0 then{ s with m:=sent s.m m } else s
def sReport(s:Skl)(k:Nat):Skl:=
 match s.n[k]? with
 |none=>s
 |some n=>sPost s (repMail k n.a)
def sTell(s:Skl)(x:Hap):Except Int Skl:=
 if turnErr s.c s.l x.agent≠0 then .error (turnErr s.c s.l x.agent) else
 if x.kind=4 then
  (match s.l.ags[x.agent.toNat]? with
   |none=> .error 5
   |some a=>if a.st≠1∨a.back≠s.l.back then .error 7 else .ok (sPost s ⟨x.agent,a.try_,false,false,turnRel s.c s.l x.agent⟩))
 else match sLead s ⟨6,x.agent,s.l.nx,0,false,⟨0,[]⟩⟩ with
  | .error e=> .error e
  | .ok y=> .ok (sPost y ⟨x.agent,s.l.nx,false,false,turnRel s.c s.l x.agent⟩)
def sStep(s:Skl)(x:Hap)(n:SNod):Except Int Skl:=
 if n.a.going=false then .error 7 else
 if agtErr n.a≠0 then .error (agtErr n.a) else
 if agtLeft n.a≠[] then sDoes s x.agent.toNat ⟨2,0,n.a.try_,0,false,⟨0,[]⟩⟩ else
 match sDoes s x.agent.toNat ⟨3,0,n.a.try_,0,x.good,⟨0,[]⟩⟩ with
 | .error e=> .error e
 | .ok y=> .ok (sReport y x.agent.toNat)
def sOrSame(s:Skl):Except Int Skl->Skl
 | .ok y=>y
 | .error _=>s
def sHear(s:Skl)(x:Hap):Except Int Skl:=
 if takeErr s.m x.num≠0 then .error (takeErr s.m x.num) else
 match s.n[(took s.m x.num).agent.toNat]? with
 |none=> .error 5
 |some n=>
  if((took s.m x.num).rep=true/\s.up=false)∨((took s.m x.num).rep=false/\n.up=false) then .error 7 else
  let s1:Skl:= { s with m:=left s.m x.num (decide (x.kind=10)) }
  if(took s.m x.num).rep=true then .ok (sOrSame s1 (sLead s1 ⟨7,(took s.m x.num).agent,(took s.m x.num).try_,0,(took s.m x.num).good,⟨0,[]⟩⟩)) else
  if(took s.m x.num).try_=n.a.try_/\n.a.going=false then .ok (sReport s1 (took s.m x.num).agent.toNat) else
  .ok (sOrSame s1 (sDoes s1 (took s.m x.num).agent.toNat ⟨1,0,(took s.m x.num).try_,0,false,(took s.m x.num).rel⟩))
def sPower(s:Skl)(x:Hap):Except Int Skl:=
 if x.agent<0 then
  (if s.up=decide (x.kind=13) then .error 7 else
   match ledReplay s.c (if x.kind=12 then [] else s.rs) with
   | .error e=> .error e
   | .ok l=> .ok { s with l:=l,up:= !s.up })
 else match s.n[x.agent.toNat]? with
  |none=> .error 5
  |some n=>
   if n.up=decide (x.kind=13) then .error 7 else
   match agtReplay s.c.first (if x.kind=12 then [] else n.rs) with
   | .error e=> .error e
   | .ok a=> .ok { s with n:=s.n.set x.agent.toNat ⟨a,n.rs,!n.up⟩ }
def sHapRec(s:Skl)(x:Hap):Recd:=
 if x.kind=1 then⟨4,0,0,0,false,⟨s.l.rels.length+1,x.lock⟩⟩ else
 if x.kind=2 then⟨5,0,0,x.num,false,⟨0,[]⟩⟩ else
 if x.kind=5 then⟨8,0,0,0,false,⟨0,[]⟩⟩ else⟨9,0,0,0,false,⟨0,[]⟩⟩
def sHap(s:Skl)(x:Hap):Except Int Skl:=
 if x.kind=9∨x.kind=10 then sHear s x else
 if x.kind=11 then(if takeErr s.m x.num≠0 then .error (takeErr s.m x.num) else .ok { s with m:=left s.m x.num false }) else
 if x.kind=1∨x.kind=2∨x.kind=5∨x.kind=6 then(if s.up=false then .error 7 else sLead s (sHapRec s x)) else
 if x.kind<1∨13<x.kind then .error 4 else
 if(s.n.length:Int)<=x.agent∨(x.agent<0/\x.kind≠12/\x.kind≠13) then .error 5 else
 if x.kind=3∨x.kind=4 then(if s.up=false then .error 7 else sTell s x) else
 if x.kind=12∨x.kind=13 then sPower s x else
 match s.n[x.agent.toNat]? with
 |none=> .error 5
 |some n=>
  if n.up=false then .error 7 else
  if x.kind=7 then sStep s x n else
  if n.a.going=true∨n.a.try_=0 then .error 7 else .ok (sReport s x.agent.toNat)
def sRunFrom:Skl->List Hap->Skl×List Int
 |s,[]=>(s,[])
 |s,x::q=>match sHap s x with
  | .ok y=>((sRunFrom y q).1,0::(sRunFrom y q).2)
  | .error e=>((sRunFrom s q).1,e::(sRunFrom s q).2)
def freshSkl(c:Conf):Skl:=⟨c,newLdr c,[],true,List.replicate (agentsOf c.waves).toNat ⟨newAgt c.first,[],true⟩,[]⟩
structure NRel(b:Nat)(n:Nod)(q:SNod):Prop where
 a:n.a=q.a
 d:DOk n.d q.rs
 len:q.rs.length<=b
 up:n.up=q.up
structure SRel(b:Nat)(w:Wld)(s:Skl):Prop where
 c:w.c=s.c
 l:w.h.l=s.l
 d:DOk w.h.d s.rs
 len:s.rs.length<=b
 up:w.h.up=s.up
 n:w.n.length=s.n.length
 at_:∀(k:Nat)(n:Nod)(q:SNod),w.n[k]?=some n->s.n[k]?=some q->NRel b n q
 m:w.m=s.m
def both(R:Wld->Skl->Prop):Except Int Wld->Except Int Skl->Prop
 | .ok w,.ok s=>R w s
 | .error e,.error f=>e=f
 |_,_=>False
theorem NRel.mono{b b':Nat}{n:Nod}{q:SNod}(h:NRel b n q)(hb:b<=b'):NRel b' n q:=⟨h.a,h.d,Nat.le_trans h.len hb,h.up⟩
theorem SRel.mono{b b':Nat}{w:Wld}{s:Skl}(h:SRel b w s)(hb:b<=b'):SRel b' w s:=⟨h.c,h.l,h.d,Nat.le_trans h.len hb,h.up,h.n,fun k n q h1 h2=>(h.at_ k n q h1 h2).mono hb,h.m⟩
theorem SRel.node{b:Nat}{w:Wld}{s:Skl}(h:SRel b w s)(k:Nat):(w.n[k]?=none/\s.n[k]?=none)∨ ∃n q,w.n[k]?=some n/\s.n[k]?=some q/\NRel b n q:=by
 have hn:=h.n
 rcases Nat.lt_or_ge k w.n.length with hk|hk
 ·refine .inr ⟨w.n[k],s.n[k]'(by omega),List.getElem?_eq_getElem hk,List.getElem?_eq_getElem (by omega),h.at_ k _ _ (List.getElem?_eq_getElem hk) (List.getElem?_eq_getElem (by omega))⟩
 ·exact .inl ⟨List.getElem?_eq_none hk,List.getElem?_eq_none (by omega)⟩
theorem DOk.room{d:Dsk}{rs:List Recd}{r:Recd}{b:Nat}(h:DOk d rs)(hl:rs.length<=b)(hb:b<=100)(hr:recErr r=0):∃x,dskSafe d r= .ok x/\DOk x (rs++[r]):=
 dskSafe_room h hr (by omega) (by have:=recsText_len h.recs;omega)
theorem recErr_led{c:Conf}{l:Ldr}{r:Recd}(h:ledErr c l r=0):recErr r=0:=by
 unfold ledErr at h
 split at h
 ·omega
 ·split at h
  ·omega
  ·omega
theorem SRel.lead{b:Nat}{w:Wld}{s:Skl}(h:SRel b w s)(hb:b<=100)(r:Recd):both (SRel (b+1)) (wLead w r) (sLead s r):=by
 unfold wLead sLead
 rw[h.c,h.l]
 by_cases he:ledErr s.c s.l r≠0
 ·rw[if_pos he,if_pos he];rfl
 ·rw[if_neg he,if_neg he]
  obtain⟨x,hx,hd⟩:=h.d.room h.len hb (recErr_led (Decidable.not_not.1 he))
  rw[hx]
  exact⟨rfl,rfl,hd,by have:=h.len;simp;omega,h.up,h.n,fun k n q h1 h2=>(h.at_ k n q h1 h2).mono (by omega),h.m⟩
theorem SRel.set{b:Nat}{w:Wld}{s:Skl}(h:SRel b w s){b':Nat}(hb:b<=b'){k:Nat}{n:Nod}{q:SNod}(hr:NRel b' n q):SRel b' { w with n:=w.n.set k n } { s with n:=s.n.set k q } :=by
 have hn:=h.n
 refine⟨h.c,h.l,h.d,Nat.le_trans h.len hb,h.up,by simp[hn],fun j x y h1 h2=> ?_,h.m⟩
 have h1:(w.n.set k n)[j]?=some x:=h1
 have h2:(s.n.set k q)[j]?=some y:=h2
 rw[List.getElem?_set] at h1 h2
 by_cases hj:k=j
 ·rw[if_pos hj] at h1 h2
  simp only[Option.ite_none_right_eq_some,Option.some.injEq] at h1 h2
  rw[←h1.2,←h2.2];exact hr
 ·rw[if_neg hj] at h1 h2
  exact(h.at_ j x y h1 h2).mono hb
theorem SRel.does{b:Nat}{w:Wld}{s:Skl}(h:SRel b w s)(hb:b<=100)(k:Nat)(r:Recd):both (SRel (b+1)) (wDoes w k r) (sDoes s k r):=by
 unfold wDoes sDoes
 rcases h.node k with⟨h1,h2⟩|⟨n,q,h1,h2,hr⟩
 ·rw[h1,h2];rfl
 ·rw[h1,h2]
  dsimp only
  unfold nDoes
  rw[hr.a]
  by_cases he:nextErr q.a r≠0
  ·rw[if_pos he,if_pos he];rfl
  ·rw[if_neg he,if_neg he]
   have he:=Decidable.not_not.1 he
   obtain⟨x,hx,hd⟩:=hr.d.room hr.len hb (next_zero he).2.1
   rw[hx]
   exact h.set (by omega) ⟨rfl,hd,by have:=hr.len;simp;omega,hr.up⟩
theorem SRel.post{b:Nat}{w:Wld}{s:Skl}(h:SRel b w s)(m:Mail):SRel b (wPost w m) (sPost s m):=by
 unfold wPost sPost
 rw[h.m]
 split
 ·exact⟨h.c,h.l,h.d,h.len,h.up,h.n,h.at_,rfl⟩
 ·exact h
theorem SRel.report{b:Nat}{w:Wld}{s:Skl}(h:SRel b w s)(k:Nat):SRel b (wReport w k) (sReport s k):=by
 unfold wReport sReport
 rcases h.node k with⟨h1,h2⟩|⟨n,q,h1,h2,hr⟩
 ·rw[h1,h2];exact h
 ·rw[h1,h2]
  dsimp only
  rw[hr.a];exact h.post _
theorem SRel.mail{b:Nat}{w:Wld}{s:Skl}(h:SRel b w s)(l:List Mail):SRel b { w with m:=l } { s with m:=l } :=⟨h.c,h.l,h.d,h.len,h.up,h.n,h.at_,rfl⟩
theorem both.orSame{b:Nat}{w:Wld}{s:Skl}{x:Except Int Wld}{y:Except Int Skl}(h:both (SRel (b+1)) x y)(hs:SRel (b+1) w s):SRel (b+1) (orSame w x) (sOrSame s y):=by
 cases x<;>cases y
 ·exact hs
 ·exact h.elim
 ·exact h.elim
 ·exact h
theorem SRel.tell{b:Nat}{w:Wld}{s:Skl}(h:SRel b w s)(hb:b<=100)(x:Hap):both (SRel (b+1)) (wTell w x) (sTell s x):=by
 unfold wTell sTell
 rw[h.c,h.l]
 by_cases he:turnErr s.c s.l x.agent≠0
 ·rw[if_pos he,if_pos he];rfl
 rw[if_neg he,if_neg he]
 by_cases hk:x.kind=4
 ·rw[if_pos hk,if_pos hk]
  cases s.l.ags[x.agent.toNat]? with
  |none=>rfl
  |some a=>
   dsimp only
   split
   ·rfl
   ·exact(h.post _).mono (by omega)
 ·rw[if_neg hk,if_neg hk]
  have hl:=h.lead hb ⟨6,x.agent,s.l.nx,0,false,⟨0,[]⟩⟩
  revert hl
  cases wLead w ⟨6,x.agent,s.l.nx,0,false,⟨0,[]⟩⟩<;>cases sLead s ⟨6,x.agent,s.l.nx,0,false,⟨0,[]⟩⟩<;>intro hl
  ·exact hl
  ·exact hl.elim
  ·exact hl.elim
  ·exact SRel.post hl _
theorem SRel.step{b:Nat}{w:Wld}{s:Skl}(h:SRel b w s)(hb:b<=100)(x:Hap){n:Nod}{q:SNod}(hr:NRel b n q):both (SRel (b+1)) (wStep w x n) (sStep s x q):=by
 unfold wStep sStep
 rw[hr.a]
 split
 ·rfl
 split
 ·rfl
 split
 ·exact h.does hb _ _
 ·have hl:=h.does hb x.agent.toNat ⟨3,0,q.a.try_,0,x.good,⟨0,[]⟩⟩
  revert hl
  cases wDoes w x.agent.toNat ⟨3,0,q.a.try_,0,x.good,⟨0,[]⟩⟩<;>cases sDoes s x.agent.toNat ⟨3,0,q.a.try_,0,x.good,⟨0,[]⟩⟩<;>intro hl
  ·exact hl
  ·exact hl.elim
  ·exact hl.elim
  ·exact SRel.report hl _
theorem SRel.hear{b:Nat}{w:Wld}{s:Skl}(h:SRel b w s)(hb:b<=100)(x:Hap):both (SRel (b+1)) (wHear w x) (sHear s x):=by
 unfold wHear sHear
 rw[h.m,h.up]
 split
 ·rfl
 rcases h.node (took s.m x.num).agent.toNat with⟨h1,h2⟩|⟨n,q,h1,h2,hr⟩
 ·rw[h1,h2];rfl
 rw[h1,h2]
 dsimp only
 rw[hr.up,hr.a]
 split
 ·rfl
 have h1:=h.mail (left s.m x.num (decide (x.kind=10)))
 split
 ·exact both.orSame (h1.lead hb _) (h1.mono (by omega))
 split
 ·exact(h1.report _).mono (by omega)
 ·exact both.orSame (h1.does hb _ _) (h1.mono (by omega))
theorem SRel.power{b:Nat}{w:Wld}{s:Skl}(h:SRel b w s)(x:Hap):both (SRel (b+1)) (wPower w x) (sPower s x):=by
 unfold wPower sPower
 split
 ·rw[h.up]
  split
  ·rfl
  obtain⟨e1,e2,e3,_⟩:=h.d.err
  rw[if_neg (by omega),e2,e3,h.c]
  cases ledReplay s.c (if x.kind=12 then [] else s.rs) with
  |error e=>rfl
  |ok l=>
   refine⟨rfl,rfl,?_,by have:=h.len;show s.rs.length<=_;omega,rfl,h.n,fun k n q h1 h2=>(h.at_ k n q h1 h2).mono (by omega),h.m⟩
   show DOk (if x.kind=12 then w.h.d else w.h.d) s.rs
   rw[ite_self];exact h.d
 ·rcases h.node x.agent.toNat with⟨h1,h2⟩|⟨n,q,h1,h2,hr⟩
  ·rw[h1,h2];rfl
  rw[h1,h2]
  dsimp only
  rw[hr.up]
  split
  ·rfl
  obtain⟨e1,e2,e3,_⟩:=hr.d.err
  rw[if_neg (show¬dskErr n.d≠0 by omega),e2,e3,h.c]
  cases agtReplay s.c.first (if x.kind=12 then [] else q.rs) with
  |error e=>rfl
  |ok l=>
   have hs:=h.set (b':=b+1) (k:=x.agent.toNat) (n:=⟨l,if x.kind=12 then n.d else n.d,!q.up⟩) (q:=⟨l,q.rs,!q.up⟩) (by omega) ⟨rfl,by
    show DOk (if x.kind=12 then n.d else n.d) q.rs
    rw[ite_self];exact hr.d,by have:=hr.len;show q.rs.length<=_;omega,rfl⟩
   rw[h.c] at hs
   exact hs
theorem SRel.hap{b:Nat}{w:Wld}{s:Skl}(h:SRel b w s)(hb:b<=100)(x:Hap):both (SRel (b+1)) (wHap w x) (sHap s x):=by
 unfold wHap sHap
 have hrec:hapRec w x=sHapRec s x:=by unfold hapRec sHapRec;rw[h.l]
 rw[h.m,h.up,h.n,hrec]
 split
 ·exact h.hear hb x
 split
 ·split
  ·rfl
  ·exact(h.mail _).mono (by omega)
 split
 ·split
  ·rfl
  ·exact h.lead hb _
 split
 ·rfl
 split
 ·rfl
 split
 ·split
  ·rfl
  ·exact h.tell hb x
 split
 ·exact h.power x
 rcases h.node x.agent.toNat with⟨h1,h2⟩|⟨n,q,h1,h2,hr⟩
 ·rw[h1,h2];rfl
 rw[h1,h2]
 dsimp only
 rw[hr.up]
 split
 ·rfl
 split
 ·exact h.step hb x hr
 rw[hr.a]
 split
 ·rfl
 ·exact(h.report _).mono (by omega)
theorem SRel.run:∀ {l:List Hap} {b:Nat} {w:Wld} {s:Skl},SRel b w s->b+l.length<=100->SRel (b+l.length) (wRunFrom w l).1 (sRunFrom s l).1/\(wRunFrom w l).2=(sRunFrom s l).2
 | [],b,w,s,h,hb=>⟨h,rfl⟩
 |x::q,b,w,s,h,hb=>by
  simp only[List.length_cons] at hb⊢
  have hx:=h.hap (by omega) x
  unfold wRunFrom sRunFrom
  revert hx
  cases wHap w x<;>cases sHap s x<;>intro hx
  ·have hx:_=_:=hx
   subst hx
   obtain⟨h1,h2⟩:=SRel.run (l:=q) h (by omega)
   exact⟨h1.mono (by omega),by show _::_=_::_;rw[h2]⟩
  ·exact hx.elim
  ·exact hx.elim
  ·obtain⟨h1,h2⟩:=SRel.run (l:=q) (show SRel (b+1) _ _ from hx) (by omega)
   exact⟨h1.mono (by omega),by show(0:Int)::_=0::_;rw[h2]⟩
theorem fresh_rel(c:Conf):SRel 0 (freshWld c) (freshSkl c):=by
 refine⟨rfl,rfl,DOk.nil,Nat.le_refl _,rfl,by simp[freshWld,freshSkl],fun k n q h1 h2=> ?_,rfl⟩
 obtain rfl:=List.eq_of_mem_replicate (List.mem_of_getElem? h1)
 obtain rfl:=List.eq_of_mem_replicate (List.mem_of_getElem? h2)
 exact⟨rfl,DOk.nil,Nat.le_refl _,rfl⟩
def hOf(kind k:Int):Hap:=⟨kind,k,0,true,[]⟩
def tellS:List Hap:=[⟨1,0,0,false,s2.lock⟩,⟨2,0,2,false,[]⟩,⟨3,1,0,false,[]⟩,⟨9,0,0,false,[]⟩,⟨7,1,0,false,[]⟩,⟨12,1,0,false,[]⟩,⟨12,-1,0,false,[]⟩]
open Go
theorem len_of_mem_flatten{α:Type}{ws:List (List α)}{x:List α}(h:x∈ws):x.length<=ws.flatten.length:=by
 induction ws with
 |nil=>cases h
 |cons w r ih=>
  simp only[List.flatten_cons,List.length_append]
  rcases List.mem_cons.1 h with rfl|h
  ·omega
  ·have:=ih h;omega
theorem waves_small{ws:List (List Int)}{k:Int}(h:waveCheck ws k=0):ws.length<=6/\∀x∈ws,x.length<=6:=by
 have h5:=(waveCheck_zero h).2.2.2.2
 unfold waveCheck at h
 split at h
 ·cases h
 ·split at h
  ·cases h
  ·have h1:=(waveAll_zero (by omega) ws (wok_nil _) h).2.1
   have hf:=flat_ge h5
   simp only[List.nil_append] at h1
   exact⟨by omega,fun x hx=>by have:=len_of_mem_flatten hx;omega⟩
theorem dsk_small{d:Dsk}(h:dskErr d=0):d.safe.length<=100000/\d.wait.length<=100000:=by
 obtain⟨h1,h2,_⟩:=dskErr_zero h
 omega
theorem WRight.sizes{w:Wld}(h:WRight w):(w.c.first.lock.length<=100000/\w.c.rules.length<=100000/\w.c.waves.length<=100000/\∀x∈w.c.waves,x.length<=100000)/\(w.h.l.rels.length<=100000/\w.h.l.ags.length<=100000/\∀m∈w.h.l.rels,m.lock.length<=100000)/\
  (w.h.d.safe.length<=100000/\w.h.d.wait.length<=100000)/\(w.n.length<=100000/\∀n∈w.n,agtErr n.a=0/\n.d.safe.length<=100000/\n.d.wait.length<=100000)/\(w.m.length<=100000/\∀m∈w.m,m.rel.lock.length<=100000):=by
 obtain⟨c1,c2,c3,c4,c5,c6,c7⟩:=cfgErr_zero h.cfg
 obtain⟨b1,b2,b3⟩:=brokenErr_zero.1 c5
 obtain⟨w1,w2⟩:=waves_small c7
 have w3:=(waveCheck_zero c7)
 obtain⟨_,l1⟩:=ledReplay_ok h.head.log
 have f:=ldr_facts l1
 have hlen:=h.len
 have hm:=mailsCheck_iff.1 h.mail
 refine⟨⟨by omega,by omega,by omega,fun x hx=>by have:=w2 x hx;omega⟩,⟨by have:=f.many;omega,by have:=(ags_six l1).1;omega,fun m hm=> ?_⟩,dsk_small h.head.disk,⟨by omega,fun n hn=> ?_⟩,by omega,fun m hx=> ?_⟩
 ·obtain⟨k,hk⟩:=List.getElem?_of_mem hm
  have:=(f.ids k m hk).2.2
  omega
 ·have hn:=h.node n hn
  exact⟨(agtReplay_ok hn.log).2,dsk_small hn.disk⟩
 ·have hx:=hm.2 m hx
  by_cases hr:m.rep=true
  ·have h2:=hx.2.1
   unfold badForm noRel at h2
   have:m.rel.lock=[]:=Decidable.byContradiction fun hne=>h2 (.inl ⟨hr,fun hh=>hne hh.2⟩)
   rw[this];simp
  ·have:=(relErr_zero (hx.2.2 (by simpa using hr))).2.2
   omega
open Go Go.Proofs
theorem OwnSl.grown{α:Type}{R:Rep α}(hR:R.Mono){sz:Nat}{e:TypeId}{base:Nat}{G H G' H':Heap}{a:O}{n c:Nat}{rows:List (List Value)}{xs:List α}(h:OwnSl R sz e base G H a n c rows xs)(g:Grown G H G' H'):OwnSl R sz e base G' H' a n c rows xs:=
 ⟨h.row.ext g.keep,h.wid,h.all.mono hR g.ext,g.sub,fun hc b hb=>by
  cases hg:G' b with
  |none=>rfl
  |some k=>
   have h1:=g.away b k hg (h.clear hc b hb)
   obtain⟨b',k',h2,h3⟩:=h.block hc
   rw[hb] at h2;simp at h2;subst h2
   rw[h1] at h3;cases h3⟩
theorem OwnSl.nodeAt{base:Nat}{G H:Heap}{a:O}{n c:Nat}{rows:List (List Value)}{xs:List Nod}(h:OwnSl RNod 10 58 base G H a n c rows xs){k:Nat}{x:Nod}(hx:xs[k]?=some x):
  ∃(b:Nat)(kb:KB)(q:NA),a=some ⟨b,0,none⟩/\base<=b/\c≠0/\H b=some kb/\kb.free=true/\k<n/\k*10+10<=kb.size/\rows[k]?=some (nodCells x q)/\NodAt G x q/\∀j v,(nodCells x q)[j]?=some v->H.cell b (k*10+j)=some v:=
 OwnW.node (w:=⟨⟨⟨0,[]⟩,[],[],0⟩,⟨⟨[],0,0,false,[],0⟩,⟨[],[]⟩,false⟩,xs,[]⟩) (p:=⟨none,0,0,none,0,0,none,0,0,none,0,0,none,0,0,none,0,0,none,0,0,a,n,c,none,0,0⟩) ⟨⟨⟨Sl.nil,Sl.nil,Sl.nil⟩,⟨Sl.nil,Sl.nil⟩,⟨Sl.nil,Sl.nil,Nat.le_refl _,Nat.le_refl _⟩,Sl.nil,Nat.le_refl _⟩,h⟩ hx
structure NewW(H G H':Heap)(w:Wld)(p:WA)(rows:List (List Value)):Prop where
 parts:Parts G w p
 row:Fresh H H' 58 10 p.na p.nl p.nc rows.flatten
 wid:∀r∈rows,r.length=10
 all:AllR RNod G rows w.n
 sub:Ext G H'
 clear:p.nc≠0->∀g,p.na=some ⟨g,0,none⟩->G g=none
theorem NewW.own{base:Nat}{H G H':Heap}{w:Wld}{p:WA}{rows:List (List Value)}(h:NewW H G H' w p rows)(hN:Next base H H'):OwnW base G H' w p rows:=⟨h.parts,h.row.row hN,h.wid,h.all,h.sub,h.clear⟩
theorem copy_put{base:Nat}{G H4:Heap}{a:O}{n c:Nat}{rows:List (List Value)}{xs:List Nod}(hO:OwnSl RNod 10 58 base G H4 a n c rows xs){k:Nat}{x:Nod}{q:NA}(hrow:rows[k]?=some (nodCells x q))(hx:xs[k]?=some x)(hq:NodAt G x q){g:Nat}{kb:KB}
  (hab:a=some ⟨g,0,none⟩) (hc0:c≠0) (hHb:H4 g=some kb) (hfree:kb.free=true) (hbb:base<=g) (hroom:k*10+10<=kb.size) {xa ga:O} {xl xc gl gc:Nat} (p1:Pins G xa xl x.a.lock) (p2:Pins G ga gl x.a.goal.lock)
  {ua va:O} {ul uc vl vc:Nat} (hD:DskAt G x.d ua ul uc va vl vc) (hlt:k<n) {F:Heap->Prop} (hF:∀H6 rows',OwnSl RNod 10 58 base G H6 a n c rows' xs->F H6):
  ∃(kk:KB),H4 g=some kk/\KB.free kk=true/\base<=g/\0+Int.toNat (k:Int)*10+7<=KB.size kk/\∀(H5:Heap),Upd H4 g (0+Int.toNat (k:Int)*10) kk [.slice xa xl xc,.int .i64 x.a.at_,.int .i64 x.a.try_,.bool x.a.going,.int .i64 x.a.goal.id,.slice ga gl gc,.bool x.a.good] H5->
   ∃(b9 o:Nat),a=some ⟨b9,o,none⟩/\0<=(k:Int)/\(k:Int)<(n:Int)/\∃(k2:KB),H5 b9=some k2/\KB.free k2=true/\base<=b9/\o+Int.toNat (k:Int)*10+7+2<=KB.size k2/\∀(H6:Heap),Upd H5 b9 (o+Int.toNat (k:Int)*10+7) k2 [.slice ua ul uc,.slice va vl vc] H6->F H6:=by
 refine⟨kb,hHb,hfree,hbb,by rw[Int.toNat_natCast];omega,fun H5 hu5=>⟨g,0,hab,by omega,by omega,_,hu5.here,hfree,hbb,by rw[Int.toNat_natCast];show 0+k*10+7+2<=kb.size;omega,fun H6 hu6=> ?_⟩⟩
 have hkl:=(List.getElem?_eq_some_iff.1 hrow).1
 have h5:=hO.put (o:=0+Int.toNat (k:Int)*10) hrow (off:=0) (vs:=[.slice xa xl xc,.int .i64 x.a.at_,.int .i64 x.a.try_,.bool x.a.going,.int .i64 x.a.goal.id,.slice ga gl gc,.bool x.a.good]) (by simp) (by rw[Int.toNat_natCast];omega) hab hc0 hHb hu5 (RNod.setA hq (a:=x.a) p1 p2)
 have hrow':(rows.set k (setRange (nodCells x q) 0 [.slice xa xl xc,.int .i64 x.a.at_,.int .i64 x.a.try_,.bool x.a.going,.int .i64 x.a.goal.id,.slice ga gl gc,.bool x.a.good]))[k]?=some (nodCells x { q with xa:=xa,xl:=xl,xc:=xc,ga:=ga,gl:=gl,gc:=gc }):=by
  rw[List.getElem?_set,if_pos rfl,if_pos hkl];rfl
 have h6:=h5.put (o:=0+Int.toNat (k:Int)*10+7) hrow' (off:=7) (vs:=[.slice ua ul uc,.slice va vl vc]) (by simp) (by rw[Int.toNat_natCast];omega) hab hc0 hu5.here hu6 (RNod.setD (x:=x) (q:= { q with xa:=xa,xl:=xl,xc:=xc,ga:=ga,gl:=gl,gc:=gc }) ⟨p1,p2,hq.dsk⟩ (d:=x.d) hD)
 simp only[List.set_set] at h6
 have e:xs.set k ({ x with d:=x.d } :Nod)=xs:=set_self hx
 rw[e] at h6
 exact hF _ _ h6
theorem Spec.cfg1{P:Program}{f:FuncId}{args:List Value}{H:Heap}{c:Conf}(h:Spec P f args H fun v H'=>∃fa fl fc ra rl rc wa wl wc,v=cfgArg c fa fl fc ra rl rc wa wl wc/\CfgAt H' c fa fl ra rl wa wl){base:Nat}{G:Int->O->Nat->Nat->O->Nat->Nat->O->Nat->Nat->Int->Heap->Prop}
  (hG:∀fa fl fc ra rl rc wa wl wc H',Ext H H'->Vg.Next base H H'->CfgAt H' c fa fl ra rl wa wl->G c.first.id fa fl fc ra rl rc wa wl wc c.bud H'):
  Spec P f args H fun v H'=>∃(n:Int)(fa:O)(fl fc:Nat)(ra:O)(rl rc:Nat)(wa:O)(wl wc:Nat)(m:Int),v= .agg #[.int .i64 n,.slice fa fl fc,.slice ra rl rc,.slice wa wl wc,.int .i64 m]/\(Vg.Next base H H'->G n fa fl fc ra rl rc wa wl wc m H'):=
 h.mono fun v H' ex hv=>by
  obtain⟨fa,fl,fc,ra,rl,rc,wa,wl,wc,h1,h2⟩:=hv
  exact⟨_,_,_,_,_,_,_,_,_,_,_,h1,fun hN=>hG _ _ _ _ _ _ _ _ _ H' ex hN h2⟩
theorem Spec.dsk1{P:Program}{f:FuncId}{args:List Value}{H:Heap}{Q:O->Nat->Nat->O->Nat->Nat->Heap->Prop}(h:Spec P f args H fun v H'=>∃sa sl sc ta tl tc,v=dskArg sa sl sc ta tl tc/\Q sa sl sc ta tl tc H'){base:Nat}{G:O->Nat->Nat->O->Nat->Nat->Heap->Prop}
  (hG:∀sa sl sc ta tl tc H',Ext H H'->Vg.Next base H H'->Q sa sl sc ta tl tc H'->G sa sl sc ta tl tc H'):
  Spec P f args H fun v H'=>∃(sa:O)(sl sc:Nat)(ta:O)(tl tc:Nat),v= .agg #[.slice sa sl sc,.slice ta tl tc]/\(Vg.Next base H H'->G sa sl sc ta tl tc H'):=
 h.mono fun v H' ex hv=>by
  obtain⟨sa,sl,sc,ta,tl,tc,h1,h2⟩:=hv
  exact⟨_,_,_,_,_,_,h1,fun hN=>hG _ _ _ _ _ _ H' ex hN h2⟩
theorem Fresh.row0{H H':Heap}{e:TypeId}{sz:Nat}{a:O}{n c:Nat}{xs:List Value}(h:Fresh H H' e sz a n c xs):Row 0 H' e sz a n c xs:=
 ⟨h.1,h.2.1,h.2.2.1,h.2.2.2.imp id fun⟨g,k,h1,h2,h3,h4⟩=>⟨g,k,h1,Nat.zero_le _,h3,h4⟩⟩
theorem Spec.agt1G{P:Program}{f:FuncId}{args:List Value}{G H:Heap}{x:Agt}(h:Spec P f args H fun v H'=>∃G',Grown G H G' H'/\∃a n c ga gn gc,v=agtArg x a n c ga gn gc/\Pins G' a n x.lock/\Pins G' ga gn x.goal.lock){base:Nat}
  {F:O->Nat->Nat->Int->Int->Bool->Int->O->Nat->Nat->Bool->Heap->Prop} (hF:∀G' H' a n c ga gn gc,Grown G H G' H'->Vg.Next base H H'->Pins G' a n x.lock->Pins G' ga gn x.goal.lock->F a n c x.at_ x.try_ x.going x.goal.id ga gn gc x.good H'):
  Spec P f args H fun v H'=>∃(a:O)(n c:Nat)(n2 n3:Int)(b:Bool)(n4:Int)(a2:O)(n5 c1:Nat)(b3:Bool),v= .agg #[.slice a n c,.int .i64 n2,.int .i64 n3,.bool b,.int .i64 n4,.slice a2 n5 c1,.bool b3]/\(Vg.Next base H H'->F a n c n2 n3 b n4 a2 n5 c1 b3 H'):=
 h.mono fun v H' ex hv=>by
  obtain⟨G',g,a,n,c,ga,gn,gc,h1,h2,h3⟩:=hv
  exact⟨_,_,_,_,_,_,_,_,_,_,_,h1,fun hN=>hF G' H' _ _ _ _ _ _ g hN h2 h3⟩
theorem Spec.dskG{P:Program}{f:FuncId}{args:List Value}{G H:Heap}{d:Dsk}(h:Spec P f args H fun v H'=>∃G',Grown G H G' H'/\∃sa sl sc ta tl tc,v=dskArg sa sl sc ta tl tc/\DskAt (newOf G G') d sa sl sc ta tl tc){base:Nat}
  {F:O->Nat->Nat->O->Nat->Nat->Heap->Prop} (hF:∀G' H' sa sl sc ta tl tc,Grown G H G' H'->Vg.Next base H H'->DskAt G' d sa sl sc ta tl tc->F sa sl sc ta tl tc H'):
  Spec P f args H fun v H'=>∃(sa:O)(sl sc:Nat)(ta:O)(tl tc:Nat),v= .agg #[.slice sa sl sc,.slice ta tl tc]/\(Vg.Next base H H'->F sa sl sc ta tl tc H'):=
 h.mono fun v H' ex hv=>by
  obtain⟨G',g,sa,sl,sc,ta,tl,tc,h1,h2⟩:=hv
  exact⟨_,_,_,_,_,_,h1,fun hN=>hF G' H' _ _ _ _ _ _ g hN (h2.ext newOf_ext)⟩
theorem cCopyW{H:Heap}{w:Wld}{p:WA}(hw:WldAt H w p)(hok:WRight w):Spec Tryz.prog 90 [wldArg w p] H fun v H'=>∃p' G rows,v=wldArg w p'/\Ext H G/\NewW H G H' w p' rows:=by
 obtain⟨⟨s1,s2,s3,s4⟩,⟨s5,s6,s7⟩,⟨s8,s9⟩,⟨s10,s11⟩,s12,s13⟩:=hok.sizes
 refine TryzvcK Tryz.func90 (by kernel_rfl) (by kernel_rfl) _ rfl (fun base K=>vx90 w.c.first.id w.c.bud p.fa p.ra p.wa p.fl p.fc p.rl p.rc p.wl p.wc w.h.l.now w.h.l.goal w.h.l.nx w.h.l.back p.la p.ka p.ll p.lc p.kl p.kc p.sa p.ta p.sl p.sc p.tl p.tc w.h.up p.na p.ma p.nl p.nc p.ml p.mc base H K) fun base hb=>fun b b'=> ?_
 refine Spec.cfg1 (cConfigC hw.cfg (by rw[←hw.cfg.pins.len];exact s1) (by rw[←hw.cfg.rules.len];exact s2) (by rw[←hw.cfg.waves.len];exact s3) s4) fun fa fl fc ra rl rc wa wl wc H1 e1 hN1 hC=> ?_
 refine(cCopyL ((hw.ext e1).ldr) (by rw[←hw.ldr.rels.len];exact s5) (by rw[←hw.ldr.ags.len];exact s6) s7).mono fun v H2 e2 hv=> ?_
 obtain⟨la,ll,lc,ka,kl,kc,G2,rows2,rfl,hL2⟩:=hv
 refine⟨_,_,_,_,_,_,_,_,_,_,rfl,fun hN2=> ?_⟩
 have hLd:=(hL2.own hN2).at_
 have e02:=Ext.trans e1 e2
 refine Spec.dsk1 (cOwnDisk (hw.ext e02).dsk (by rw[←hw.dsk.safe.len];exact s8) (by rw[←hw.dsk.wait.len];exact s9)) fun sa sl sc ta tl tc H3 e3 hN3 hD=> ?_
 have hD3:=hD.ext newOf_ext
 have e03:=Ext.trans e02 e3
 refine(cCloneNods (hw.ext e03).nod (by rw[←hw.nod.len];exact s10)).mono fun v H4 e4 hv=> ?_
 obtain⟨na,nl,nc,rs,rfl,hF4,hw4,hA4⟩:=hv
 refine⟨na,nl,nc,rfl,fun hN4=> ?_⟩
 have hO4:OwnSl RNod 10 58 base H3 H4 na nl nc rs w.n:=⟨hF4.row hN4,hw4,hA4,hN4.ext,fun hc0 g hg=>by
  rcases hF4.2.2.2 with⟨_,h0⟩|⟨g',k',q1,q2,_⟩
  ·exact absurd h0 hc0
  ·rw[hg] at q1;simp at q1;subst q1;exact q2⟩
 have hnl:=(hO4.rlen (by omega)).2
 refine((cCopy (hw.ext e03).mail (by rw[←hw.mail.len];exact s12) s13).grown hN4.ext).mono fun v H5 e5 hv=> ?_
 obtain⟨G5,g5,ma,ml,mc,GM,rowsM,rfl,hM⟩:=hv
 refine⟨ma,ml,mc,rfl,fun hN5=> ?_⟩
 have hM5:Mails G5 ma ml w.m:=(⟨hM.row.row0,hM.wid,hM.all,hM.sub,hM.clear⟩:OwnSl RMail 6 74 0 GM G5 ma ml mc rowsM w.m).sl RMail.mono (by omega)
 have hO5:=hO4.grown RNod.mono g5
 refine⟨fun m vs H'=>∃(k:Nat)(G:Heap)(rows:List (List Value)),vs=[i64 k]/\k+m=nl/\Ext G5 G/\OwnSl RNod 10 58 base G H' na nl nc rows w.n,nl,⟨0,G5,rs,rfl,by omega,Ext.refl _,hO5⟩,fun m n5 H6 hN6 hI=> ?_⟩
 obtain⟨k,G,rows,hvs,hkm,hG,hO⟩:=hI
 obtain rfl:n5=(k:Int):=by simpa using hvs
 have hle:(nl:Int)<=9223372036854775807:=(hO.sl RNod.mono (by omega)).le
 refine⟨fun hlt=> ?_,fun hge=> ?_⟩
 ·obtain⟨x,hx⟩:∃x,w.n[k]?=some x:=⟨_,List.getElem?_eq_getElem (by omega)⟩
  obtain⟨g,kb,q,hab,hbb,hc0,hHb,hfree,hkl,hroom,hrow,hq,hc⟩:=hO.nodeAt hx
  obtain⟨t1,t2,t3⟩:=s11 x (List.mem_of_getElem? hx)
  have c:∀j v,(nodCells x q)[j]?=some v->H6.cell g (0+Int.toNat (k:Int)*10+j)=some v:=fun j v hj=>by rw[Int.toNat_natCast,Nat.zero_add];exact hc j v hj
  refine⟨g,0,hab,by omega,hlt,_,_,_,_,_,_,_,_,_,_,_,_,_,_,_,_,_,_,⟨c 0 _ rfl,c 1 _ rfl,c 2 _ rfl,c 3 _ rfl,c 4 _ rfl,c 5 _ rfl,c 6 _ rfl,c 7 _ rfl,c 8 _ rfl,c 9 _ rfl,trivial⟩,fun b5=> ?_⟩
  refine⟨?_,?_⟩
  ·refine Spec.agt1G ((cAgtCopy hq.lock hq.goal t1).grown hO.sub) fun G7 H7 xa xl xc ga gl gc g7 hN7 p1 p2=> ?_
   refine Spec.dskG ((cOwnDisk (hq.dsk.ext g7.ext) (by rw[←hq.dsk.safe.len];exact t2) (by rw[←hq.dsk.wait.len];exact t3)).grown g7.sub) fun G8 H8 ua ul uc va vl vc g8 hN8 hD8=> ?_
   refine⟨g,0,hab,by omega,hlt,copy_put (hO.grown RNod.mono (g7.trans g8)) hrow hx (hq.ext (g7.trans g8).ext) hab hc0 ((g7.trans g8).keep _ _ hHb) hfree hbb hroom (p1.ext' g8.ext) (p2.ext' g8.ext) hD8 hkl fun H9 rows9 hO9=> ?_⟩
   rintro r rfl
   rw[wrap_in (by omega) (by omega)]
   exact⟨rfl,m-1,by omega,k+1,_,rows9,rfl,by omega,Ext.trans hG (g7.trans g8).ext,hO9⟩
  ·refine Spec.agt1G ((cAgtCopy hq.lock hq.goal t1).grown hO.sub) fun G7 H7 xa xl xc ga gl gc g7 hN7 p1 p2=>⟨?_,?_⟩
   ·refine Spec.dskG ((cOwnDisk (hq.dsk.ext g7.ext) (by rw[←hq.dsk.safe.len];exact t2) (by rw[←hq.dsk.wait.len];exact t3)).grown g7.sub) fun G8 H8 ua ul uc va vl vc g8 hN8 hD8=> ?_
    refine⟨g,0,hab,by omega,hlt,copy_put (hO.grown RNod.mono (g7.trans g8)) hrow hx (hq.ext (g7.trans g8).ext) hab hc0 ((g7.trans g8).keep _ _ hHb) hfree hbb hroom (p1.ext' g8.ext) (p2.ext' g8.ext) hD8 hkl fun H9 rows9 hO9=> ?_⟩
    rintro r rfl
    rw[wrap_in (by omega) (by omega)]
    exact⟨rfl,m-1,by omega,k+1,_,rows9,rfl,by omega,Ext.trans hG (g7.trans g8).ext,hO9⟩
   ·refine Spec.dskG ((cOwnDisk (hq.dsk.ext g7.ext) (by rw[←hq.dsk.safe.len];exact t2) (by rw[←hq.dsk.wait.len];exact t3)).grown g7.sub) fun G8 H8 ua ul uc va vl vc g8 hN8 hD8=> ?_
    refine⟨g,0,hab,by omega,hlt,copy_put (hO.grown RNod.mono (g7.trans g8)) hrow hx (hq.ext (g7.trans g8).ext) hab hc0 ((g7.trans g8).keep _ _ hHb) hfree hbb hroom (p1.ext' g8.ext) (p2.ext' g8.ext) hD8 hkl fun H9 rows9 hO9=> ?_,copy_put (hO.grown RNod.mono (g7.trans g8)) hrow hx (hq.ext (g7.trans g8).ext) hab hc0 ((g7.trans g8).keep _ _ hHb) hfree hbb hroom (p1.ext' g8.ext) (p2.ext' g8.ext) hD8 hkl fun H9 rows9 hO9=> ?_⟩
    all_goals
     rintro r rfl
     rw[wrap_in (by omega) (by omega)]
     exact⟨rfl,m-1,by omega,k+1,_,rows9,rfl,by omega,Ext.trans hG (g7.trans g8).ext,hO9⟩
 ·refine⟨⟨fa,fl,fc,ra,rl,rc,wa,wl,wc,la,ll,lc,ka,kl,kc,sa,sl,sc,ta,tl,tc,na,nl,nc,ma,ml,mc⟩,G,rows,rfl,Ext.trans (Ext.trans e03 g5.ext) hG,⟨⟨hC.ext (Ext.trans (Ext.trans (Ext.trans e2 e3) g5.ext) hG),hLd.ext (Ext.trans (Ext.trans e3 g5.ext) hG),hD3.ext (Ext.trans g5.ext hG),Sl.ext RMail.mono hM5 hG,hM.row.2.1⟩,hO.row.fresh hb,hO.wid,hO.all,hO.sub,hO.clear⟩⟩
end Go.Vg
