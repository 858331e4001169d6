/- What is proved here: a part of the proof of laws of this seat: what a contract is, how it comes of a condition, contracts of the functions that are reached, the plain laws. -/
import Derived.Test.YtgaegoefbekndaaGreatDoorWB3
set_option linter.unusedSimpArgs false
set_option linter.unusedVariables false
set_option maxRecDepth 100000
open ByteArray renaming size → zp,extract → ye
open List.cons renaming inj → yx
open Classical renaming propDecidable → zh
open Option renaming map_none → yQ,map_some → yy
open Int renaming toNat_natCast → zz
open Decidable renaming byContradiction → zC,not_not → zx
open Nat renaming succ_mul → yz,le_refl → ze,le_of_ble_eq_true → z8
open Except.error renaming inj → yb
open Except.ok renaming inj → zJ
open List renaming mem_append → zd,mem_cons → zm,map_cons → zB,mem_map → zM,flatMap_cons → yq,length_append → zq,length_cons → zi,length_map → ym,mem_singleton → zN,append_assoc → zE,length_eq_zero_iff → yp,take_of_length_le → zg,append_nil → zZ,mem_of_mem_take → zH,length_take → zF,mem_of_getElem? → zt,length_nil → zX,flatMap_append → yd,getElem?_eq_some_iff → zw,length → zo,drop_of_length_le → yP,drop_eq_nil_of_le → zO,getElem?_map → zP,getElem?_eq_getElem → zu,getElem?_take → zD,length_drop → yv,flatten_append → zI,flatten_cons → zW,toArray → zQ,length_singleton → yS,replicate → zk,mem_cons_self → zr,mem_cons_of_mem → zj
open Option.some renaming inj → zy
variable{l most g aa c' nn n m sz sn sc wn wc l' rc tn tc un uc tl fl fc wl ll lc kl kc nl nc ml mc:Nat}{p:Go.Vg.Pin}{w t xs bs ys:List UInt8}{s:ByteArray}{e k tr kd aS aU ab nx i:Int}{r:Go.Vg.bD}{rs:List Go.Vg.bD}{xo yo:Go.Operand}{H H1 H' H2 H3 Hg:Go.Vg.Heap}{cs args:List Go.Value}{ws:List (List UInt8)}{a a' sa wa ra ta ua fa la ka na ma:Go.Vg.O}{f:Go.FuncId}{K:Go.Vg.KT}{ac:Bool}
namespace Go.Vg
open Go

def eU(p:Pin):List UInt8:=Lib.itoa p.name++64::Lib.itoa p.fi
def cq(l:List Pin):List UInt8:=fA 44 (l.map eU)
def gE(w:List UInt8):Option Pin:=
 if(Lib.cut w [64]).2.2=true then
  (match cj (Lib.cut w [64]).1,cj (Lib.cut w [64]).2.1 with
   |some n,some v=>some ⟨n,v⟩
   |_,_=>none)
 else none
def eh:List (List UInt8)->Option (List Pin)
 | []=>some []
 |w::ws=>match gE w with
  |none=>none
  |some p=>(eh ws).map (p:: ·)
def gV(s:List UInt8):Option (List Pin):=if s=[] then some [] else eh (gH 44 s)
def dO(s:List UInt8):Except Int (List Pin):=
 match gV s with
 |none=> .error 1
 |some l=>if aZ l=0 then .ok l else .error (aZ l)
theorem lH{l:List Pin}(h:aZ l=0)(hp:p∈l):1<=p.name/\p.name<=20/\1<=p.fi/\p.fi<=99:=(bF.1 h).1.name hp
theorem Ey(h1:1<=p.name/\p.name<=20/\1<=p.fi/\p.fi<=99):gE (eU p)=some p:=by
 unfold gE eU;rw[Ea (ri _ (by decide) (by decide))];dsimp only;rw[Bc (by omega) (by omega),Bc (by omega) (by omega)];rfl
theorem yA(h:gE w=some p):eU p=w:=by
 unfold gE at h;rcases ng 64 w with⟨_,e⟩|⟨a,b,rfl,h2,e⟩
 ·rw[e] at h;simp at h
 ·rw[e] at h;dsimp only at h;rw[pI rfl] at h;split at h
  ·rename_i n v hn hv;obtain rfl:=zy h;rw[eU,(Bd hn).1,(Bd hv).1]
  ·cases h
theorem ur{c:UInt8}(h1:c.toNat≠45)(h2:c.toNat<48∨57<c.toNat)(h3:c≠64):c∉eU p:=by
 unfold eU;simp only[zd,zm,not_or];exact⟨ri _ h1 h2,h3,ri _ h1 h2⟩
theorem rA:∀ {l:List Pin},(∀p∈l,1<=p.name/\p.name<=20/\1<=p.fi/\p.fi<=99)->eh (l.map eU)=some l
 | [],_=>rfl
 |p::r,h=>by
  rw[zB,eh,Ey (h p (by simp)),rA fun q hq=>h q (by simp[hq])];rfl
theorem oe:∀ {ws:List (List UInt8)} {l:List Pin},eh ws=some l->l.map eU=ws
 | [],l,h=>by obtain rfl:=zy h;rfl
 |w::ws,l,h=>by
  rw[eh] at h;split at h
  ·cases h
  ·rename_i p hp;obtain⟨m,hm,rfl⟩:=Option.map_eq_some_iff.1 h;rw[zB,yA hp,oe hm]
theorem Mn(p:Pin):eU p≠[]:=by unfold eU;simp
theorem Ez{l:List Pin} :cq l=[]↔l=[]:=by
 unfold cq
 cases l with
 |nil=>simp[fA]
 |cons p r=>simp[fA,Mn]
theorem Bw{l:List Pin}(h:∀p∈l,1<=p.name/\p.name<=20/\1<=p.fi/\p.fi<=99):gV (cq l)=some l:=by
 unfold gV;by_cases hl:l=[]
 ·subst hl;rfl
 ·rw[nI fun e=>hl (Ez.1 e),cq,ue (by simpa using hl) fun w hw=>by
   obtain⟨p,_,rfl⟩:=zM.1 hw
   exact ur (by decide) (by decide) (by decide),rA h]
theorem ve{s:List UInt8}{l:List Pin}(h:gV s=some l):cq l=s:=by
 unfold gV at h;split at h
 ·rename_i e;obtain rfl:=zy h;rw[e];rfl
 ·rw[cq,oe h,pO]
theorem CL{l:List Pin}(h:aZ l=0):dO (cq l)= .ok l:=by
 rw[dO,Bw fun p hp=>lH h hp];dsimp only;rw[pI h]
theorem GC{s:List UInt8}{l:List Pin}(h:dO s= .ok l):cq l=s/\aZ l=0:=by
 unfold dO at h;split at h
 ·cases h
 ·rename_i m hm;split at h
  ·rename_i h0;obtain rfl:=zJ h;exact⟨ve hm,h0⟩
  ·cases h
theorem vf{s:List UInt8}(h:dO s= .error e):e≠0:=by
 unfold dO at h;split at h
 ·obtain rfl:=yb h;decide
 ·split at h
  ·cases h
  ·rename_i h0;obtain rfl:=yb h;exact h0
theorem rB(h:1<=p.name/\p.name<=20/\1<=p.fi/\p.fi<=99):(eU p).length<=5:=by
 unfold eU;have h1:=lr (n:=p.name) (by omega) (by omega);have h2:=lr (n:=p.fi) (by omega) (by omega);simp;omega
theorem uu:∀ {ws:List (List UInt8)} {k:Nat},(∀w∈ws,w.length<=k)->(ws.flatMap fun x=>(44:UInt8)::x).length<=ws.length*(k+1)
 | [],k,_=>by simp
 |w::r,k,h=>by
  have h1:=h w (by simp);have h2:=uu (ws:=r) (k:=k) fun x hx=>h x (by simp[hx]);simp only[yq,zq,zi,yz];omega
theorem kK{l:List Pin}(h:aZ l=0):(cq l).length<=72:=by
 have h1:=(bF.1 h).2;unfold cq
 cases l with
 |nil=>simp[fA]
 |cons p r=>
  have hw:∀w∈r.map eU,w.length<=5:=fun w hw=>by
   obtain⟨q,hq,rfl⟩:=zM.1 hw;exact rB (lH h (by simp[hq]))
  have h2:=uu hw;have h3:=rB (lH h (p:=p) (by simp));simp only[zB,fA,zq,ym] at h2⊢;simp at h1;omega
theorem tA{l:List Pin}{c:UInt8}(h1:c.toNat≠45)(h2:c.toNat<48∨57<c.toNat)(h3:c≠64)(h4:c≠44):c∉cq l:=by
 unfold cq
 cases l with
 |nil=>simp[fA]
 |cons p r=>
  simp only[zB,fA,zd,List.mem_flatMap,zm,not_or,not_exists,not_and,zM];refine⟨ur h1 h2 h3,?_⟩;rintro w ⟨q,_,rfl⟩;exact⟨h4,ur h1 h2 h3⟩

def kL(b:Bool):Int:=if b=true then 1 else 0
def gO(r:bD):List Int:=[r.ae,r.ah,r.au,r.cj,kL r.aP,r.cB.id]
def cl(r:bD):List UInt8:=(gO r).flatMap (fun n=>Lib.itoa n++[32])++61::cq r.cB.ap
def pi:List (List UInt8)->Option (List Int)
 | []=>some []
 |w::ws=>match cj w with
  |none=>none
  |some n=>(pi ws).map (n:: ·)
def fg(s:List UInt8):Except Int bD:=
 match gH 32 s with
 | [w0,w1,w2,w3,w4,w5,w6]=>
  if w6.head?=some 61 then
   (match pi [w0,w1,w2,w3,w4,w5] with
    |some [k,a,tr,n,g,id]=>
     if g<0∨1<g then .error 1 else
     (match dO (w6.drop 1) with
     | .error e=> .error e
     | .ok l=>let r:bD:=⟨k,a,tr,n,decide (g=1),⟨id,l⟩⟩
      if bC r=0 then .ok r else .error (bC r))
    |_=> .error 1)
  else .error 1
 |_=> .error 1
theorem og(h:bC r=0):aZ r.cB.ap=0:=by
 unfold bC at h;split at h
 ·omega
 ·rename_i hk;split at h
  ·omega
  ·rename_i hf;split at h
   ·omega
   ·split at h
    ·have:=(ey h).2;exact bF.2 this
    ·rename_i hn;unfold iO at hf;have:je r.cB:=zC fun hx=>hf (.inr (.inr (.inr (.inr ⟨hx,hn⟩))));rw[this.2];rfl
theorem oh(h:bC r=0):∀n∈gO r,0<=n/\n<=200:=by
 unfold bC at h;split at h
 ·omega
 ·rename_i hk;split at h
  ·omega
  ·rename_i hf;split at h
   ·omega
   ·rename_i hr
    have hid:0<=r.cB.id/\r.cB.id<=6:=by
     split at h
     ·have:=(ey h).1;omega
     ·rename_i hn;have:je r.cB:=zC fun hx=>hf (by unfold iO;exact .inr (.inr (.inr (.inr ⟨hx,hn⟩))));have:=this.1;omega
    unfold iO at hf;unfold gp at hr;have hg:0<=kL r.aP/\kL r.aP<=1:=by unfold kL;split<;>omega
    simp only[not_or,not_and,zx] at hf hr;simp only[gO,zm,List.not_mem_nil,or_false];rintro n (rfl|rfl|rfl|rfl|rfl|rfl)<;>omega
theorem tB(r:bD):cl r=fA 32 ((gO r).map Lib.itoa++[61::cq r.cB.ap]):=by
 simp[cl,gO,fA]
theorem C3:∀ {l:List Int},(∀n∈l,-9223372036854775808<=n/\n<=9223372036854775807)->pi (l.map Lib.itoa)=some l
 | [],_=>rfl
 |n::r,h=>by
  rw[zB,pi,Bc (h n (by simp)).1 (h n (by simp)).2,C3 fun m hm=>h m (by simp[hm])];rfl
theorem vg:∀ {ws:List (List UInt8)} {l:List Int},pi ws=some l->l.map Lib.itoa=ws
 | [],l,h=>by obtain rfl:=zy h;rfl
 |w::ws,l,h=>by
  rw[pi] at h;split at h
  ·cases h
  ·rename_i n hn;obtain⟨m,hm,rfl⟩:=Option.map_eq_some_iff.1 h;rw[zB,(Bd hn).1,vg hm]
theorem EA(r:bD):gH 32 (cl r)=[Lib.itoa r.ae,Lib.itoa r.ah,Lib.itoa r.au,Lib.itoa r.cj,Lib.itoa (kL r.aP),Lib.itoa r.cB.id,61::cq r.cB.ap]:=by
 rw[tB,ue (by simp)]
 ·rfl
 ·intro w hw;rcases zd.1 hw with hw|hw
  ·obtain⟨n,_,rfl⟩:=zM.1 hw;exact ri _ (by decide) (by decide)
  ·simp only[zN] at hw;subst hw;simp only[zm,not_or];exact⟨by decide,tA (by decide) (by decide) (by decide) (by decide)⟩
theorem pV(h:bC r=0):fg (cl r)= .ok r:=by
 have hn:=oh h;have hg:kL r.aP=0∨kL r.aP=1:=by unfold kL;split<;>simp
 have h5:=C3 (l:=gO r) fun n hm=>by have:=hn n hm;omega
 simp only[gO,zB,List.map_nil] at h5;unfold fg;rw[EA];dsimp only;rw[pI (by rfl),h5];dsimp only;rw[nI (by omega),List.drop_succ_cons,List.drop_zero,CL (og h)]
 have he:(⟨r.ae,r.ah,r.au,r.cj,decide (kL r.aP=1),⟨r.cB.id,r.cB.ap⟩⟩:bD)=r:=by
  have:decide (kL r.aP=1)=r.aP:=by unfold kL;cases r.aP<;>simp
  rw[this]
 dsimp only;rw[he,pI h]
theorem Jd{s:List UInt8}(h:fg s= .ok r):cl r=s/\bC r=0:=by
 unfold fg at h;split at h
 ·rename_i w0 w1 w2 w3 w4 w5 w6 hc;split at h
  case isFalse=>cases h
  rename_i h61
  obtain⟨t,rfl⟩:∃t,w6=61::t:=by
   cases w6 with
   |nil=>cases h61
   |cons x t=>exact⟨t,by simp at h61;rw[h61]⟩
  rw[List.drop_succ_cons,List.drop_zero] at h;split at h
  ·rename_i k a tr n g id hn;split at h
   ·cases h
   ·rename_i hg;split at h
    ·cases h
    ·rename_i l hl;dsimp only at h;split at h
     ·rename_i h0;obtain rfl:=zJ h;refine⟨?_,h0⟩;have e1:=vg hn;have e2:=(GC hl).1
      have e3:kL (decide (g=1))=g:=by
       unfold kL;by_cases e:g=1
       ·simp[e]
       ·simp[e];omega
      rw[tB,←pO 32 s,hc];simp only[zB,List.map_nil] at e1;simp only[gO,e3,zB,List.map_nil,e2];rw[show∀(a b c d e f g:List UInt8),[a,b,c,d,e,f]++[g]=[a,b,c,d,e,f,g] from fun _ _ _ _ _ _ _=>rfl];injection e1 with a1 e1;injection e1 with a2 e1;injection e1 with a3 e1;injection e1 with a4 e1;injection e1 with a5 e1;injection e1 with a6 e1;rw[a1,a2,a3,a4,a5,a6]
     ·cases h
  ·cases h
 ·cases h
theorem rC{s:List UInt8}(h:fg s= .error e):e≠0:=by
 unfold fg at h;split at h
 ·split at h
  ·split at h
   ·split at h
    ·obtain rfl:=yb h;decide
    ·split at h
     ·rename_i hl;obtain rfl:=yb h;exact vf hl
     ·dsimp only at h;split at h
      ·cases h
      ·rename_i h0;obtain rfl:=yb h;exact h0
   ·obtain rfl:=yb h;decide
  ·obtain rfl:=yb h;decide
 ·obtain rfl:=yb h;decide
theorem om(h:bC r=0):(cl r).length<=97:=by
 have hn:=oh h;have h1:=kK (og h);have h2:∀n∈gO r,(Lib.itoa n).length<=3:=fun n hm=>lZ (hn n hm).1 (by have:=(hn n hm).2;omega);simp only[gO,zm,List.not_mem_nil,or_false] at h2;have a1:=h2 _ (.inl rfl);have a2:=h2 _ (.inr (.inl rfl));have a3:=h2 _ (.inr (.inr (.inl rfl)));have a4:=h2 _ (.inr (.inr (.inr (.inl rfl))));have a5:=h2 _ (.inr (.inr (.inr (.inr (.inl rfl)))));have a6:=h2 _ (.inr (.inr (.inr (.inr (.inr rfl)))));simp[cl,gO];omega
theorem pW :(10:UInt8)∉cl r:=by
 simp only[cl,zd,List.mem_flatMap,zm,List.not_mem_nil,or_false,not_or,not_exists,not_and];refine⟨fun n _=>⟨ri _ (by decide) (by decide),by decide⟩,by decide,tA (by decide) (by decide) (by decide) (by decide)⟩
open Go

def Bz(most:Nat):Nat->List (List UInt8)->List bD×Nat×Int
 |_,[]=>([],0,0)
 |_,[w]=>([],0,if w=[] then 0 else 9)
 |k,w::x::ws=>
  match fg w with
  | .error e=>([],0,e)
  | .ok r=>if k=most then([],0,2) else(r::(Bz most (k+1) (x::ws)).1,w.length+1+(Bz most (k+1) (x::ws)).2.1,(Bz most (k+1) (x::ws)).2.2)
def bQ(most k:Nat)(s:List UInt8):List bD×Nat×Int:=Bz most k (gH 10 s)
theorem lI{k:Nat} :bQ most k []=([],0,0):=rfl
theorem rD{k:Nat}{s:List UInt8}(h:(10:UInt8)∉s)(hs:s≠[]):bQ most k s=([],0,9):=by
 rw[bQ,oY h,Bz,nI hs]
theorem rE{k:Nat}(h:(10:UInt8)∉w):bQ most k (w++10::t)=match fg w with
  | .error e=>([],0,e)
  | .ok r=>if k=most then([],0,2) else(r::(bQ most (k+1) t).1,w.length+1+(bQ most (k+1) t).2.1,(bQ most (k+1) t).2.2):=by
 rw[bQ,jY h];unfold bQ
 cases hc:gH 10 t with
 |nil=>exact absurd hc (D9 10 t)
 |cons x ws=>rfl
theorem uv{k:Nat}(h:(10:UInt8)∉w)(hr:fg w= .error e):bQ most k (w++10::t)=([],0,e):=by
 rw[rE h,hr]
theorem oo(h:(10:UInt8)∉w)(hr:fg w= .ok r):bQ most most (w++10::t)=([],0,2):=by
 rw[rE h,hr];simp
theorem mh{k:Nat}(h:(10:UInt8)∉w)(hr:fg w= .ok r)(hk:k≠most):
  bQ most k (w++10::t)=(r::(bQ most (k+1) t).1,w.length+1+(bQ most (k+1) t).2.1,(bQ most (k+1) t).2.2):=by
 rw[rE h,hr];simp[hk]
def bG(rs:List bD):List UInt8:=rs.flatMap fun r=>cl r++[10]
theorem lT :bG (r::rs)=cl r++10::bG rs:=by simp[bG]
theorem mS{qs:List bD} :bG (rs++qs)=bG rs++bG qs:=by simp[bG]
theorem rF{most:Nat} :∀ {rs:List bD} {k:Nat} {t:List UInt8},(∀r∈rs,bC r=0)->k+rs.length<=most->(10:UInt8)∉t->
  bQ most k (bG rs++t)=(rs,(bG rs).length,if t=[] then 0 else 9)
 | [],k,t,_,_,ht=>by
  rw[show bG []++t=t from rfl,bQ,oY ht]
  rfl
 |r::rs,k,t,h,hk,ht=>by
  have hl:(r::rs).length=rs.length+1:=rfl;rw[lT,zE,List.cons_append,mh pW (pV (h r (by simp))) (by omega),rF (fun q hq=>h q (by simp[hq])) (by omega) ht];simp[bG];omega
theorem j8{most:Nat} :∀(n:Nat) {s:List UInt8} {k:Nat},s.length<=n->k<=most->(∀r∈(bQ most k s).1,bC r=0)/\k+(bQ most k s).1.length<=most/\
  (bQ most k s).2.1<=s.length/\s.take (bQ most k s).2.1=bG (bQ most k s).1/\((bQ most k s).2.2=0->(bQ most k s).2.1=s.length)
 |0,s,k,hn,hk=>by
  obtain rfl:s=[]:=yp.1 (by omega);rw[lI]
  exact⟨by simp,by simpa using hk,by simp,rfl,fun _=>rfl⟩
 |n+1,s,k,hn,hk=>by
  rcases ng 10 s with⟨h1,_⟩|⟨w,t,rfl,hw,_⟩
  ·by_cases hs:s=[]
   ·subst hs;rw[lI];exact⟨by simp,by simpa using hk,by simp,rfl,fun _=>rfl⟩
   ·rw[rD h1 hs];exact⟨by simp,by simpa using hk,by simp,rfl,fun h=>by cases h⟩
  ·cases hr:fg w with
   |error e=>
    rw[uv hw hr]
    exact⟨by simp,by simpa using hk,by simp,rfl,fun h=>absurd h (rC hr)⟩
   |ok r=>
    by_cases Ur:k=most
    ·subst Ur;rw[oo hw hr];exact⟨by simp,by simp,by simp,rfl,fun h=>by cases h⟩
    ·rw[mh hw hr Ur];have hl:(w++10::t).length=w.length+1+t.length:=by simp;omega
     obtain⟨i1,i2,i3,i4,i5⟩:=j8 (most:=most) n (s:=t) (k:=k+1) (by omega) (by omega);obtain⟨UF,hr2⟩:=Jd hr;refine⟨fun q hq=>?_,?_,?_,?_,fun h=>?_⟩
     ·rcases zm.1 hq with rfl|hq
      ·exact hr2
      ·exact i1 q hq
     ·simp only[zi];omega
     ·dsimp only;omega
     ·dsimp only;rw[lT,UF,←i4];rw[show w++10::t=(w++[10])++t from by simp,List.take_append,show w++10::t.take (bQ most (k+1) t).2.1=(w++[10])++t.take (bQ most (k+1) t).2.1 from by simp]
      congr 1
      ·rw[zg (by simp)]
      ·congr 1;simp
     ·dsimp only at h⊢;have:=i5 h;omega
structure pj where
 safe:List UInt8
 wait:List UInt8
deriving DecidableEq
def sW:pj:=⟨[],[]⟩
def bj(d:pj):Int:=
 if 60000<d.safe.length then 2 else if 60000-d.safe.length<d.wait.length then 2 else(bQ 200 0 d.safe).2.2
def eV(d:pj)(r:bD):Except Int pj:=
 if bj d=0 then
  (if bC r=0 then
   (if 60000<d.safe.length+d.wait.length+(cl r).length+1 then .error 2 else .ok ⟨d.safe,d.wait++(cl r++[10])⟩)
  else .error (bC r))
 else .error (bj d)
def iq(d:pj):Except Int pj:=
 if bj d=0 then(if bj ⟨d.safe++d.wait,[]⟩=0 then .ok ⟨d.safe++d.wait,[]⟩ else .error (bj ⟨d.safe++d.wait,[]⟩)) else .error (bj d)
def dA(d:pj):List bD×Nat×Int:=bQ (200-(bQ 200 0 d.safe).1.length) 0 d.wait
def dT(d:pj):pj:=⟨d.safe++d.wait.take (dA d).2.1,[]⟩
def aX(d:pj):List bD:=(bQ 200 0 d.safe).1++(dA d).1
theorem fm{d:pj}(h:bj d=0):d.safe.length<=60000/\d.safe.length+d.wait.length<=60000/\(bQ 200 0 d.safe).2.2=0:=by
 unfold bj at h;split at h
 ·cases h
 ·split at h
  ·cases h
  ·exact⟨by omega,by omega,h⟩
theorem rG(h:∀r∈rs,bC r=0)(hn:rs.length<=200)(hl:(bG rs).length+w.length<=60000):bj ⟨bG rs,w⟩=0:=by
 have:=rF (most:=200) (k:=0) (t:=[]) h (by omega) (by simp);rw[zZ] at this;unfold bj;dsimp only;rw[nI (by omega),nI (by omega),this];rfl
theorem Je(h:∀r∈rs,bC r=0)(hn:rs.length<=most):bQ most 0 (bG rs)=(rs,(bG rs).length,0):=by
 have:=rF (most:=most) (k:=0) (t:=[]) h (by omega) (by simp);rw[zZ] at this;rw[this];rfl
theorem EB(h:∀r∈rs,bC r=0):(bG rs).length<=rs.length*98:=by
 induction rs with
 |nil=>simp[bG]
 |cons r t ih=>
  have h1:=om (h r (by simp));have h2:=ih fun q hq=>h q (by simp[hq]);rw[lT];simp only[zq,zi,yz];omega
theorem C4{d x:pj}(h:eV d r= .ok x):bj d=0/\bC r=0/\d.safe.length+d.wait.length+(cl r).length+1<=60000/\x=⟨d.safe,d.wait++(cl r++[10])⟩:=by
 unfold eV at h;split at h
 ·rename_i h1;split at h
  ·rename_i h2;split at h
   ·cases h
   ·rename_i h3;exact⟨h1,h2,by omega,(zJ h).symm⟩
  ·cases h
 ·cases h
theorem Mo(h:∀r∈rs,bC r=0)(hn:rs.length<=200)(hl:(bG rs).length<=60000):
  bj ⟨bG rs,[]⟩=0/\aX ⟨bG rs,[]⟩=rs/\dT ⟨bG rs,[]⟩=⟨bG rs,[]⟩:=by
 have hL:=Je (most:=200) h hn;refine⟨rG h hn (by simpa using hl),?_,?_⟩
 ·unfold aX dA;dsimp only;rw[hL,lI];simp
 ·unfold dT;simp
open Go Go.Proofs
theorem C5(a b:List UInt8):(a==b)=decide (a=b):=by by_cases h:a=b<;>simp[h]
theorem Yo{t:ByteArray} :aR Tryz.prog (aI .eql 9 xo yo (.string s) (.string t)) (.bool (decide (s.data.toList=t.data.toList))):=by
 have:=eqStr (xo:=xo) (yo:=yo) (s:=s) (t:=t);rw[ByteArray.toList_eq,ByteArray.toList_eq,C5] at this;exact this
theorem neS{t:ByteArray} :aR Tryz.prog (aI .neq 9 xo yo (.string s) (.string t)) (.bool (decide (¬s.data.toList=t.data.toList))):=by
 intro w;have hg:(eqGuard .neq 9 xo yo (.string s) (.string t)).run Tryz.prog w= .ok () w:=by simp[eqGuard]
 simp only[aI,Sem.run_bind,hg,Result.andThen_ok];have:=run_equalIn_string (P:= Tryz.prog) w 9999 9 s t Tryz.underlying9;have e:(s.toList==t.toList)=decide (s.data.toList=t.data.toList):=by rw[ByteArray.toList_eq,ByteArray.toList_eq,C5]
 simp[binOp,Op.equal,this,Op.stringOp,e]
theorem Oz :aR Tryz.prog (aI .eql 263 xo (.const .nilIface) .nilIface .nilIface) (.bool true):=by
 intro w;have hu:=run_underlying Tryz.underlying263;have hg:(eqGuard .eql 263 xo (.const .nilIface) .nilIface .nilIface).run Tryz.prog w= .ok () w:=by simp[eqGuard]
 have he:(Op.equalIn (9999+1) 263 .nilIface .nilIface).run Tryz.prog w= .ok true w:=by
  rw[Op.equalIn];simp only[Sem.run_bind,hu,Result.andThen_ok];rfl
 simp only[aI,Sem.run_bind,hg,Result.andThen_ok];simp[binOp,Op.equal,show Op.maxDepth=9999+1 from rfl,he]
theorem GD{t:TypeId}{p:Value} :aR Tryz.prog (aI .eql 263 xo (.const .nilIface) (.iface t p) .nilIface) (.bool false):=by
 intro w;have hu:=run_underlying Tryz.underlying263;have hg:(eqGuard .eql 263 xo (.const .nilIface) (.iface t p) .nilIface).run Tryz.prog w= .ok () w:=by simp[eqGuard]
 have he:(Op.equalIn (9999+1) 263 (.iface t p) .nilIface).run Tryz.prog w= .ok false w:=by
  rw[Op.equalIn];simp only[Sem.run_bind,hu,Result.andThen_ok];rfl
 simp only[aI,Sem.run_bind,hg,Result.andThen_ok];simp[binOp,Op.equal,show Op.maxDepth=9999+1 from rfl,he]
theorem Mp{e:TypeId}(h:H g=some (ay e cs)):Vg.ba H g 0 0 cs:=
 jM _ 0 fun j v hj=>by unfold Heap.cell;rw[h];simpa[ay] using hj
section
variable {H : Heap} (hL : Lb H)
include hL
theorem KN(hs:s.size<=281474976710656):Sp 251 [.string s] H fun v _=>∃(n:Int)(b:Bool),v= .tuple #[.int .i64 n,.bool b]/\(b=true->cj s.data.toList=some n)/\(b=false->cj s.data.toList=none):=by
 refine xY Tryz.func251 (fun _ _=>vd44) fun aa hb=>?_;refine(NY hL hs).spec.mono fun v H1 e1 hv=>?_;obtain⟨⟨n,e,rfl,h⟩,_⟩:=hv;rcases h with⟨eC,rfl⟩|⟨xX,t,p,rfl⟩
 ·have SO:=Lib.atoiAll_bounds eC;refine⟨n,.inl ⟨rfl,fun hN=>⟨true,Oz,fun _=>(nF (hL.ext e1) SO.1 SO.2).ud fun H2 e2 dZ=>⟨_,Yo,n,_,rfl,fun h=>?_,fun h=>?_⟩,fun h=>absurd rfl h⟩⟩⟩
  ·simp at h;rw[cj,eC];simp[h]
  ·simp at h;rw[cj,eC];simp[h]
 ·refine⟨n,.inr ⟨t,p,rfl,fun hN=>⟨false,GD,fun h=>(by cases h),fun _=>⟨n,false,rfl,fun h=>(by cases h),fun _=>?_⟩⟩⟩⟩;unfold cj;split
  ·rename_i v hv;exact absurd hv (xX v)
  ·rfl
theorem Jf(hs:s.size<=281474976710656):Sp 210 [.string s] H fun v _=>∃(n:Int)(b:Bool),v= .tuple #[.int .i64 n,.bool b]/\(b=true->cj s.data.toList=some n)/\(b=false->cj s.data.toList=none):=by
 refine xY Tryz.func210 (fun _ _=>vd49) fun aa hb=>?_;refine(Uh hL hs).spec.mono fun v H1 e1 hv=>?_;obtain⟨⟨n,e,rfl,h⟩,_⟩:=hv;rcases h with⟨eC,rfl⟩|⟨xX,t,p,rfl⟩
 ·have SO:=Lib.atoiAll_bounds eC;refine⟨n,.inl ⟨rfl,fun hN=>⟨true,Oz,fun _=>(Xr (hL.ext e1) SO.1 SO.2).ud fun H2 e2 dZ=>⟨_,Yo,n,_,rfl,fun h=>?_,fun h=>?_⟩,fun h=>absurd rfl h⟩⟩⟩
  ·simp at h;rw[cj,eC];simp[h]
  ·simp at h;rw[cj,eC];simp[h]
 ·refine⟨n,.inr ⟨t,p,rfl,fun hN=>⟨false,GD,fun h=>(by cases h),fun _=>⟨n,false,rfl,fun h=>(by cases h),fun _=>?_⟩⟩⟩⟩;unfold cj;split
  ·rename_i v hv;exact absurd hv (xX v)
  ·rfl
end
open Go Go.Proofs
theorem Jg{c:UInt8} :∀ {ws:List (List UInt8)},ws≠[]->fA c (ws++[w])=fA c ws++c::w
 |x::r,_=>by simp[fA]
theorem CM{l:List Pin}(h:l≠[]):cq (l++[p])=cq l++[44]++eU p:=by
 unfold cq;rw[List.map_append,List.map_singleton,Jg (by simpa using h)];simp
theorem EC :cq [p]=eU p:=by simp[cq,fA]
theorem CN{l:List Pin}(h:aZ l=0)(m:Nat):(cq (l.take m)).length<=72:=by
 have h1:=(bF.1 h).2;unfold cq
 cases hm:l.take m with
 |nil=>simp[fA]
 |cons p r=>
  have rb:∀q∈p::r,q∈l:=fun q hq=>zH (by rw[hm];exact hq)
  have hw:∀w∈r.map eU,w.length<=5:=fun w hw=>by
   obtain⟨q,hq,rfl⟩:=zM.1 hw;exact rB (lH h (rb q (by simp[hq])))
  have h2:=uu hw;have h3:=rB (lH h (rb p (by simp)));have h4:(p::r).length<=l.length:=by rw[←hm,zF];omega
  simp only[zB,fA,zq,ym] at h2⊢;simp at h4;omega
theorem BA(c:UInt8):∀s:List UInt8,(gH c s).length<=s.length+1
 | []=>by simp[gH]
 |b::r=>by
  have ih:=BA c r;have:=D9 c r;have hp:0<(gH c r).length:=List.length_pos_iff.2 this;unfold gH;split
  ·simp;omega
  ·simp;omega
theorem mT{c:UInt8}{s:List UInt8}(h:w∈gH c s):w.length<=s.length:=by
 have hj:=pO c s
 have key:∀(ws:List (List UInt8)),w∈ws->w.length<=(fA c ws).length:=by
  intro ws hw
  cases ws with
  |nil=>cases hw
  |cons x r=>
   unfold fA;rcases zm.1 hw with rfl|hw
   ·simp
   ·obtain⟨i,hi⟩:=List.getElem?_of_mem hw
    have:(c::w).length<=(r.flatMap fun y=>c::y).length:=by
     clear hi i h hj
     induction r with
     |nil=>cases hw
     |cons y t ih=>
      simp only[yq,zq];rcases zm.1 hw with rfl|hw
      ·omega
      ·have:=ih (by simp[hw]) hw;omega
    simp only[zq];simp at this⊢;omega
 rw[←hj];exact key _ h
theorem tC(h:gE w=some p):eh (w::ws)=(eh ws).map (p:: ·):=by rw[eh,h]
theorem pX(h:gE w=none):eh (w::ws)=none:=by rw[eh,h]
theorem oC{s:List UInt8}(h:gV s=none):dO s= .error 1:=by rw[dO,h]
theorem tD{s:List UInt8}{l:List Pin}(h:gV s=some l):dO s=if aZ l=0 then .ok l else .error (aZ l):=by rw[dO,h]
theorem dB(l:List UInt8):(⟨l.toArray⟩:ByteArray).data.toList=l:=rfl
theorem size_mk(l:List UInt8):(⟨l.toArray⟩:ByteArray).size=l.length:=rfl
theorem size_data(s:ByteArray):s.size=s.data.toList.length:=by simp
def iP(H1:Heap)(a:O)(c:Nat):Prop:=c≠0->∀x k,H1 x=some k->a≠some ⟨x,0,none⟩
theorem iP.none :iP H1 a 0:=fun h=>absurd rfl h
theorem iP.oB{c:Nat}(h:iP H1 a c)(e:aH H1 H)(hg:cu aa H H' a c a' c' nn):aH H1 H'/\iP H1 a' c':=by
 refine⟨fun x k hx=>hg.cR x k (e x k hx) ?_,fun DP x k hx FY=>?_⟩
 ·by_cases hc:c=0
  ·exact .inl hc
  ·exact .inr (h hc x k hx)
 ·rcases hg.place DP x FY with hn|⟨he,hc⟩
  ·rw[e x k hx] at hn;cases hn
  ·rw[he] at FY;exact h hc x k hx FY
section
variable {H : Heap} (hL : Lb H)
include hL
theorem BB{c:Nat}{xs:List Pin}(hp:aL H a l xs):Sp 284 [.slice a l c] H fun v _=>v= .tuple #[str (if aZ xs=0 then cq xs else []),i64 (aZ xs)]:=by
 refine bh Tryz.func284 (fun _ _=>vd8) fun aa hb=>?_;have hl:=hp.len;refine(jc hp).bY fun H1 e1 fh=>⟨fun h=>?_,fun h=>?_⟩
 ·rw[nI h];rfl
 have hz:=zx.1 h;rw[pI hz,hz];have Ae:=(bF.1 hz).2;refine⟨fun vs H'=>∃(a3:O)(c3 m:Nat),vs=[.slice a3 m c3,i64 m]/\m<=l/\bg aa H' 9 1 a3 m c3 ((xs.take m).flatMap fun p=>[str (eU p)]),aN l 1,⟨none,0,0,rfl,by omega,bg.nil⟩,fun a3 n3 c3 n H2 dZ hI=>?_⟩;obtain⟨xp,xq,m,cv,hm,hR⟩:=hI;obtain⟨⟨rfl,rfl,rfl⟩,rfl⟩:(a3=xp/\n3=m/\c3=xq)/\n=(m:Int):=by simpa using cv
 refine⟨fun bK=>hp.LY dZ.ext (by omega) bK fun p Mq=>?_,fun gj=>?_⟩
 ·rw[zz] at Mq;have hr:=lH hz (zt Mq);have hi1:=lr (n:=p.name) (by omega) (by omega);have Wh:=lr (n:=p.fi) (by omega) (by omega);intro _;refine(nF (hL.ext dZ.ext) (by omega) (by omega)).ud fun H3 e3 fS=>⟨_,eu rfl (by simp only[zq,zi,zX];omega),?_⟩
  refine(nF (hL.ext (aH.trans dZ.ext e3)) (by omega) (by omega)).ud fun H4 e4 iC=>⟨_,eu (c:=eU p) (by simp[eU]) (by simp only[zq,zi,zX];omega),fun g H5 kT hg hH5=>?_⟩
  refine⟨_,_,hR.ext (aH.trans e3 (aH.trans e4 kT.ext)),rfl,rfl,.inr ⟨g,0,rfl,Mp hH5⟩,by omega,by omega,fun a6 c6 H6 OA Gp=>?_⟩;rintro r rfl;rw[aj];refine⟨⟨a6,c6,n3+1,rfl,by omega,?_⟩,by simp[aN];omega⟩;rw[fQ Mq,yd];exact Gp
 ·obtain rfl:n3=l:=by omega
  rw[zg (by omega)] at hR
  have hS:Sl F2 1 H2 a3 n3 (xs.map eU):=by
   have Rf:bg aa H2 9 1 a3 n3 c3 ((xs.map eU).flatMap fun w=>[str w]):=by rw[List.flatMap_map];exact hR
   exact ik (dk:=fun w=>[str w]) (sz:=1) (fun _=>rfl) (by omega) Rf
  have FT:(fA 44 (xs.map eU)).length<=72:=kK hz;exact(Uk (b:=44) hS hR.2.1 (by omega) (by omega)).ud fun H3 e3 fS=>rfl
theorem Mr{c:Nat}{xs:List Pin}(hp:aL H a l xs)(hz:aZ xs=0):Sp 224 [.slice a l c] H fun v _=>v=str (cq xs):=by
 refine bh Tryz.func224 (fun _ _=>vd13) fun aa hb=>?_;have hl:=hp.len;have Ae:=(bF.1 hz).2;refine⟨fun vs H'=>∃m:Nat,vs=[str (cq (xs.take m)),i64 m]/\m<=l,aN l 1,⟨0,rfl,by omega⟩,fun s n H2 dZ hI=>?_⟩;obtain⟨m,cv,hm⟩:=hI;obtain⟨rfl,rfl⟩:s=⟨(cq (xs.take m)).toArray⟩/\n=(m:Int):=by simpa[str] using cv
 have hln:=CN hz m;refine⟨fun bK=>hp.LY dZ.ext (by omega) bK fun p Mq=>?_,fun gj=>?_⟩
 ·rw[zz] at Mq;have hr:=lH hz (zt Mq);have hi1:=lr (n:=p.name) (by omega) (by omega);have Wh:=lr (n:=p.fi) (by omega) (by omega);have Cp:=rB hr;have VZ:m<xs.length:=(zw.1 Mq).1;intro _;refine⟨fun h0=>?_,fun h0=>?_⟩
  ·refine⟨_,eu rfl (by simp only[zq,zi,zX];omega),?_⟩;refine(nF (hL.ext dZ.ext) (by omega) (by omega)).ud fun H3 e3 fS=>⟨_,eu rfl (by simp only[zq,zi,zX];omega),?_⟩
   refine(nF (hL.ext (aH.trans dZ.ext e3)) (by omega) (by omega)).ud fun H4 e4 iC=>⟨_,eu (c:=eU p) (by simp[eU]) (by simp only[zq,zi,zX];omega),_,eu (c:=cq (xs.take (m+1))) ?_ (by simp only[zq,zi,zX];omega),?_⟩
   ·rw[fQ Mq,CM (fun e=>by have:=congrArg zo e;rw[zF,zX] at this;omega)]
   ·rintro r rfl;rw[aj];exact⟨⟨m+1,rfl,by omega⟩,by simp[aN];omega⟩
  ·obtain rfl:m=0:=by omega
   have hl0:(cq ([]:List Pin)).length=0:=rfl;rw[List.take_zero] at hln⊢;refine(nF (hL.ext dZ.ext) (by omega) (by omega)).ud fun H3 e3 fS=>⟨_,eu rfl (by simp only[zq,zi,zX];omega),?_⟩
   refine(nF (hL.ext (aH.trans dZ.ext e3)) (by omega) (by omega)).ud fun H4 e4 iC=>⟨_,eu (c:=eU p) (by simp[eU]) (by simp only[zq,zi,zX];omega),_,eu (c:=cq (xs.take 1)) ?_ (by omega),?_⟩
   ·rw[fQ Mq,List.take_zero,List.nil_append,EC];rfl
   ·rintro r rfl;rw[aj];exact⟨⟨1,rfl,by omega⟩,by simp[aN];omega⟩
 ·obtain rfl:m=l:=by omega
  rw[zg (by omega)];rfl
theorem Jh :Sp 228 [.string s] H fun v H'=>∃a n c,v= .tuple #[.slice a n c,i64 (if 60000<s.size then 2 else bN (dO s.data.toList))]/\bZ H H' 91 2 a n c ((if 60000<s.size then [] else okL (dO s.data.toList)).flatMap dm):=by
 refine bh Tryz.func228 (fun _ _=>vd11) fun aa hb=>?_;refine⟨fun h=>?_,fun h=>?_⟩
 ·rw[pI (by omega),pI (by omega)];exact⟨none,0,0,rfl,bZ.zero⟩
 rw[nI (by omega),nI (by omega)];have kv:s.data.toList.length<=60000:=by rw[←size_data];omega
 refine⟨_,Yo,fun h0=>?_,fun h0=>?_⟩
 ·have h0:s.data.toList=[]:=by simpa using h0
  rw[h0];exact⟨none,0,0,rfl,bZ.zero⟩
 have eE:s.data.toList≠[]:=by simpa using h0
 have hW:gV s.data.toList=eh (gH 44 s.data.toList):=by rw[gV,nI eE]
 generalize GF:gH 44 s.data.toList=ws at hW;have Cp:ws.length<=60001:=by have:=BA 44 s.data.toList;rw[GF] at this;omega
 have Rh:∀w∈ws,w.length<=60000:=fun w hw=>by rw[←GF] at hw;have:=mT hw;omega
 refine(Ac hL (s:=s) (c:=44) (by omega)).mono fun v H1 e1 hv=>?_;obtain⟨g,N,hv,hS⟩:=hv;rw[GF] at hS;have Ig:=hS.len;refine⟨_,_,_,hv,fun fh=>?_⟩
 refine⟨fun vs H'=>∃(a2:O)(n2 c2:Nat)(k:Int)(a3:O)(c3 m:Nat)(ps:List Pin),vs=[.slice a2 n2 c2,i64 k,.slice a3 m c3,i64 m]/\m<=N/\bg aa H' 91 2 a3 m c3 (ps.flatMap dm)/\aH H1 H'/\iP H1 a3 c3/\
  eh ws=(eh (ws.drop m)).map (ps++ ·),aN N 3,⟨none,0,0,0,none,0,0,[],rfl,by omega,bg.nil,aH.refl _,iP.none,by simp⟩,fun a2 n2 c2 k a3 n3 c3 n H2 dZ hI=>?_⟩
 obtain⟨SK,Nc,SL,k',xp,xq,m,ps,cv,hm,hR,hE,hA,hI⟩:=hI;obtain⟨⟨rfl,rfl,rfl⟩,rfl,⟨rfl,rfl,rfl⟩,rfl⟩:(a2=SK/\n2=Nc/\c2=SL)/\k=k'/\(a3=xp/\n3=m/\c3=xq)/\n=(m:Int):=by simpa using cv
 refine⟨fun bK=>hS.str hE (by omega) bK fun w hw=>?_,fun gj=>?_⟩
 ·rw[zz] at hw;have Ri:=Rh w (zt hw);rw[av hw] at hI;refine(Sn (hL.ext dZ.ext) (s:=⟨w.toArray⟩) (sep:=⟨#[64]⟩) (by rw[size_mk];omega)).Uf fun H3 e3 fS=>?_;rw[dB,show(⟨#[64]⟩:ByteArray).data.toList=[64] from rfl];generalize BC:Lib.cut w [64]=x
  have nb:x.1.length<=60000/\x.2.1.length<=60000:=by
   rcases ng 64 w with⟨_,e⟩|⟨u,t,rfl,_,e⟩
   ·rw[e] at BC;subst BC;exact⟨Ri,by simp⟩
   ·rw[e] at BC;subst BC;simp at Ri;exact⟨by simp;omega,by simp;omega⟩
  refine(KN (hL.ext (aH.trans dZ.ext e3)) (s:=⟨x.1.toArray⟩) (by rw[size_mk];omega)).mono fun v H4 e4 GG=>?_;obtain⟨n4,b4,GG,Rj,QJ⟩:=GG;refine⟨n4,b4,GG,fun iC=>?_⟩;refine(KN (hL.ext (aH.trans dZ.ext (aH.trans e3 e4))) (s:=⟨x.2.1.toArray⟩) (by rw[size_mk];omega)).mono fun v H5 e5 UJ=>?_;obtain⟨n5,b5,UJ,UK,Q6⟩:=UJ;rw[dB] at Rj QJ UK Q6;refine⟨n5,b5,UJ,fun kT=>?_⟩;have SP:gE w=if x.2.2=true then(match cj x.1,cj x.2.1 with|some n,some v=>some ⟨n,v⟩|_,_=>none) else none:=by unfold gE;rw[BC]<;>rfl
  refine⟨gE w=none,⟨fun h1=>⟨fun _ _ h=>h,?_⟩,fun h1=>⟨fun h2=>⟨fun _ _ h=>h,?_⟩,fun h2=>⟨fun _ _ h=>h,?_⟩⟩⟩,fun fT=>?_,fun fT=>?_⟩
  ·rw[SP,nI (by rw[h1];decide)]
  ·rw[SP,QJ h2];split<;>rfl
  ·have h1':x.2.2=true:=by simpa using h1
   have Kh:b4=true:=by simpa using h2
   rw[SP,pI h1',Rj Kh]
   cases KL:b5 with
   |true=>rw[UK KL];simp
   |false=>rw[Q6 KL];simp
  ·rw[pX fT,yQ] at hI;rw[oC (hW.trans hI)];exact⟨none,0,0,rfl,bZ.zero⟩
  ·have UL:gE w=some ⟨n4,n5⟩:=by
    rw[SP] at fT⊢;by_cases hx:x.2.2=true
    ·rw[pI hx] at fT⊢
     cases UM:b4 with
     |false=>rw[QJ UM] at fT;exact absurd rfl fT
     |true=>
      cases KL:b5 with
      |false=>rw[Rj UM,Q6 KL] at fT;exact absurd rfl fT
      |true=>rw[Rj UM,UK KL]
    ·rw[nI hx] at fT;exact absurd rfl fT
   rw[tC UL] at hI;intro _;refine⟨_,hR.ext (aH.trans e3 (aH.trans e4 e5)),by omega,by omega,fun a6 c6 H6 OA Gp=>?_⟩;rintro r rfl;rw[aj];obtain⟨Yp,Yq⟩:=hA.oB (aH.trans hE (aH.trans e3 (aH.trans e4 e5))) OA;exact⟨⟨a2,n2,c2,k,a6,c6,n3+1,ps++[⟨n4,n5⟩],rfl,by omega,by rw[yd];exact Gp,Yp,Yq,by rw[hI];cases eh (ws.drop (n3+1))<;>simp⟩,by simp[aN];omega⟩
 ·have hmN:n3=N:=by omega
  subst hmN;rw[yP (by omega),eh,yy,zZ] at hI;rw[tD (hW.trans hI)];refine(jc (gC hR)).bY fun H3 e3 fS=>⟨fun h=>?_,fun h=>?_⟩
  ·rw[nI h];exact⟨none,0,0,rfl,bZ.zero⟩
  ·have h:=zx.1 h;rw[pI h];exact⟨a3,n3,c3,rfl,(hR.ext e3).fresh hb⟩
omit hL in
theorem vh(s:ByteArray)(i:Nat):(s.extract i s.size).data.toList=s.data.toList.drop i:=by
 rw[ByteArray.data_extract,Array.toList_extract,List.extract_eq_take_drop,zg (by simp)]
theorem Ms(kv:s.data.toList.length<=60000):Sp 211 [.string s] H fun v H'=>∃a n c,v= .tuple #[.slice a n c,i64 (bN (dO s.data.toList))]/\bZ H H' 91 2 a n c ((okL (dO s.data.toList)).flatMap dm):=by
 refine bh Tryz.func211 (fun _ _=>vd17) fun aa hb=>?_;have hss:s.size<=60000:=by rw[size_data];omega
 refine⟨_,neS,fun h0=>?_,fun h0=>?_⟩
 case refine_2=>
  have h0:s.data.toList=[]:=by simpa using h0
  rw[h0];refine(fX (Sl.nil:aL H none 0 [])).bY fun H3 e3 fS=>⟨fun h=>absurd rfl h,fun h=>⟨none,0,0,rfl,bZ.zero⟩⟩
 have eE:s.data.toList≠[]:=by simpa using h0
 have hW:gV s.data.toList=eh (gH 44 s.data.toList):=by rw[gV,nI eE]
 generalize GF:gH 44 s.data.toList=ws at hW;have Cp:ws.length<=60001:=by have:=BA 44 s.data.toList;rw[GF] at this;omega
 have Rh:∀w∈ws,w.length<=60000:=fun w hw=>by rw[←GF] at hw;have:=mT hw;omega
 refine(Ac hL (s:=s) (c:=44) (by omega)).mono fun v H1 e1 hv=>?_;obtain⟨g,N,hv,hS⟩:=hv;rw[GF] at hS;have Ig:=hS.len;refine⟨_,_,_,hv,fun fh=>?_⟩
 refine⟨fun vs H'=>∃(a2:O)(n2 c2:Nat)(k:Int)(a3:O)(c3 m:Nat)(ps:List Pin),vs=[.slice a2 n2 c2,i64 k,.slice a3 m c3,i64 m]/\m<=N/\bg aa H' 91 2 a3 m c3 (ps.flatMap dm)/\aH H1 H'/\iP H1 a3 c3/\
  eh ws=(eh (ws.drop m)).map (ps++ ·),aN N 3,⟨none,0,0,0,none,0,0,[],rfl,by omega,bg.nil,aH.refl _,iP.none,by simp⟩,fun a2 n2 c2 k a3 n3 c3 n H2 dZ hI=>?_⟩
 obtain⟨SK,Nc,SL,k',xp,xq,m,ps,cv,hm,hR,hE,hA,hI⟩:=hI;obtain⟨⟨rfl,rfl,rfl⟩,rfl,⟨rfl,rfl,rfl⟩,rfl⟩:(a2=SK/\n2=Nc/\c2=SL)/\k=k'/\(a3=xp/\n3=m/\c3=xq)/\n=(m:Int):=by simpa using cv
 refine⟨fun bK=>hS.str hE (by omega) bK fun w hw=>?_,fun gj=>?_⟩
 ·rw[zz] at hw;have Ri:=Rh w (zt hw);rw[av hw] at hI;refine(QW (hL.ext dZ.ext) (s:=⟨w.toArray⟩) (sep:=⟨#[64]⟩) (by rw[size_mk];omega)).bY fun H3 e3 fS=>?_;rw[dB,show(⟨#[64]⟩:ByteArray).data.toList=[64] from rfl];rcases jL 64 w with⟨xX,hix⟩|⟨u,t,rfl,hu,hix⟩
  ·rw[hix];refine⟨fun _=>?_,fun h=>absurd (by decide) h⟩;have:gE w=none:=by unfold gE;rw[F7 xX];rfl
   rw[pX this,yQ] at hI;rw[oC (hW.trans hI)];exact⟨none,0,0,rfl,bZ.zero⟩
  rw[hix];have hsz2:(⟨(u++64::t).toArray⟩:ByteArray).size=u.length+1+t.length:=by rw[size_mk];simp;omega
  simp at Ri;refine⟨fun h=>by omega,fun _=>⟨by omega,by omega,?_⟩⟩
  have Sq:((⟨(u++64::t).toArray⟩:ByteArray).extract 0 (Int.toNat (u.length:Int))).data.toList=u:=by
   rw[zz,Lib.extract_from_zero,dB];simp
  have hz1:((⟨(u++64::t).toArray⟩:ByteArray).extract 0 (Int.toNat (u.length:Int))).size<=60000:=by rw[size_data,Sq];omega
  refine(Jf (hL.ext (aH.trans dZ.ext e3)) (s:=(⟨(u++64::t).toArray⟩:ByteArray).extract 0 (Int.toNat (u.length:Int))) (by omega)).mono fun v H4 e4 GG=>?_;obtain⟨n4,b4,GG,Rj,QJ⟩:=GG;refine⟨n4,b4,GG,fun iC=>?_⟩;rintro r rfl;rw[aj];refine⟨by omega,by omega,?_⟩
  have Ie:((⟨(u++64::t).toArray⟩:ByteArray).extract (Int.toNat ((u.length:Int)+1)) (⟨(u++64::t).toArray⟩:ByteArray).size).data.toList=t:=by
   rw[vh,dB,show Int.toNat ((u.length:Int)+1)=u.length+1 from by omega,List.drop_append,zO (by omega)];simp
  have hz2:((⟨(u++64::t).toArray⟩:ByteArray).extract (Int.toNat ((u.length:Int)+1)) (⟨(u++64::t).toArray⟩:ByteArray).size).size<=60000:=by rw[size_data,Ie];omega
  refine(Jf (hL.ext (aH.trans dZ.ext (aH.trans e3 e4))) (s:=(⟨(u++64::t).toArray⟩:ByteArray).extract (Int.toNat ((u.length:Int)+1)) (⟨(u++64::t).toArray⟩:ByteArray).size) (by omega)).mono fun v H5 e5 UJ=>?_;obtain⟨n5,b5,UJ,UK,Q6⟩:=UJ;rw[Sq] at Rj QJ;rw[Ie] at UK Q6;refine⟨n5,b5,UJ,fun kT=>?_⟩;have SP:gE (u++64::t)=match cj u,cj t with|some n,some v=>some ⟨n,v⟩|_,_=>none:=by unfold gE;rw[Ea hu];rfl
  generalize u++64::t=w at*;refine⟨gE w=none,⟨fun h2=>⟨fun _ _ h=>h,?_⟩,fun h2=>⟨fun _ _ h=>h,?_⟩⟩,fun fT=>?_,fun fT=>?_⟩
  ·rw[SP,QJ h2]
  ·have Kh:b4=true:=by simpa using h2
   rw[SP,Rj Kh]
   cases KL:b5 with
   |true=>rw[UK KL];simp
   |false=>rw[Q6 KL];simp
  ·rw[pX fT,yQ] at hI;rw[oC (hW.trans hI)];exact⟨none,0,0,rfl,bZ.zero⟩
  ·have UL:gE w=some ⟨n4,n5⟩:=by
    rw[SP] at fT⊢
    cases UM:b4 with
    |false=>rw[QJ UM] at fT;exact absurd rfl fT
    |true=>
     cases KL:b5 with
     |false=>rw[Rj UM,Q6 KL] at fT;exact absurd rfl fT
     |true=>rw[Rj UM,UK KL]
   rw[tC UL] at hI;intro _;refine⟨_,hR.ext (aH.trans e3 (aH.trans e4 e5)),by omega,by omega,fun a6 c6 H6 OA Gp=>?_⟩;rintro r rfl;rw[aj];obtain⟨Yp,Yq⟩:=hA.oB (aH.trans hE (aH.trans e3 (aH.trans e4 e5))) OA;exact⟨⟨a2,n2,c2,k,a6,c6,n3+1,ps++[⟨n4,n5⟩],rfl,by omega,by rw[yd];exact Gp,Yp,Yq,by rw[hI];cases eh (ws.drop (n3+1))<;>simp⟩,by simp[aN];omega⟩
 ·have hmN:n3=N:=by omega
  subst hmN;rw[yP (by omega),eh,yy,zZ] at hI;rw[tD (hW.trans hI)];refine(fX (gC hR)).bY fun H3 e3 fS=>⟨fun h=>?_,fun h=>?_⟩
  ·rw[nI h];exact⟨none,0,0,rfl,bZ.zero⟩
  ·have h:=zx.1 h;rw[pI h];exact⟨a3,n3,c3,rfl,(hR.ext e3).fresh hb⟩
end
open Go Go.Proofs
theorem BD{s:List UInt8}(h:bN (dO s)=0):∃l,dO s= .ok l:=by
 cases hr:dO s with
 |ok l=>exact⟨l,rfl⟩
 |error e=>rw[hr] at h;exact absurd h (vf hr)
open Go Go.Proofs
theorem Rk{p:Prop}[Decidable p]: @decide p (zh p)=decide p:=by by_cases h:p<;>simp[h]
theorem dD :ak H H:=fun _ _ h=>h
def ct(l:List Int):List UInt8:=l.flatMap fun n=>Lib.itoa n++[32]
theorem pZ{l:List Int}{n:Int} :ct (l++[n])=ct l++(Lib.itoa n++[32]):=by simp[ct]
theorem oq:∀ {l:List Int},(∀n∈l,0<=n/\n<=200)->(ct l).length<=l.length*4
 | [],_=>by simp[ct]
 |n::r,h=>by
  have h1:=h n (by simp);have h2:=lZ (n:=n) h1.1 (by omega);have h3:=oq (l:=r) fun m hm=>h m (by simp[hm]);have e:ct (n::r)=(Lib.itoa n++[32])++ct r:=rfl;rw[e];simp only[zq,zi,zX,yz];omega
theorem uw(r:bD):cl r=ct (gO r)++61::cq r.cB.ap:=rfl
section
variable {H : Heap} (hL : Lb H)
include hL
theorem OB{c:Nat}(hp:aL H a l r.cB.ap):Sp 192 [gU r a l c] H fun v _=>v= .tuple #[str (if bC r=0 then cl r else []),i64 (bC r)]:=by
 obtain⟨kd,ag,tr,n,gd,⟨id,ap⟩⟩:=r;have hp:aL H a l ap:=hp;refine bh Tryz.func192 (fun aa K=>vd22 kd ag tr n id gd a l c aa H K) fun aa hb=>?_;intro _;refine(mR (r:=⟨kd,ag,tr,n,gd,⟨id,ap⟩⟩) hp).bY fun H1 e1 fh=>⟨fun h=>?_,fun h=>?_⟩
 ·rw[nI h];rfl
 have hz:=zx.1 h;rw[pI hz,hz];have vQ:=oh hz;have Ae:=og hz;refine fun _=>⟨_,rfl,kL gd,gd,by cases gd<;>rfl,fun g H2 dZ hg M9=>?_⟩
 have hS:Sl ft 1 H2 (some ⟨g,0,none⟩) 6 (gO ⟨kd,ag,tr,n,gd,⟨id,ap⟩⟩):=nH (dk:=fun n=>[i64 n]) (sz:=1) (fun _=>rfl) M9 rfl (by omega);generalize Ng:gO ⟨kd,ag,tr,n,gd,⟨id,ap⟩⟩=ns at hS vQ;have Ah:ns.length=6:=hS.len;refine⟨fun vs H'=>∃m:Nat,vs=[str (ct (ns.take m)),i64 m]/\m<=6/\aH H2 H',aN 6 1,⟨0,rfl,by omega,aH.refl _⟩,fun s n3 H3 fS hI=>?_⟩;obtain⟨m,cv,hm,hE⟩:=hI;obtain⟨rfl,rfl⟩:s=⟨(ct (ns.take m)).toArray⟩/\n3=(m:Int):=by simpa[str] using cv
 have hlen:=oq (l:=ns.take m) fun x hx=>vQ x (zH hx);have Wg:(ns.take m).length<=6:=by rw[zF];omega
 refine⟨fun bK=>hS.int hE (by omega) bK fun x hx=>?_,fun gj=>?_⟩
 ·rw[zz] at hx;have KO:=vQ x (zt hx);have nb:=lZ (n:=x) KO.1 (by omega);refine(nF (hL.ext fS.ext) (by omega) (by omega)).ud fun H4 e4 iC=>⟨_,eu rfl (by simp only[zi,zX];omega),_,eu (c:=ct (ns.take (m+1))) (by rw[fQ hx,pZ]) (by simp only[zq,zi,zX];omega),?_⟩
  rintro r rfl;rw[aj];exact⟨rfl,⟨m+1,rfl,by omega,aH.trans hE e4⟩,by simp[aN];omega⟩
 ·obtain rfl:m=6:=by omega
  rw[zg (by omega)] at hlen⊢;have Ii:(cq ap).length<=72:=kK Ae;refine⟨_,eu rfl (by simp only[zi,zX];omega),(Mr (hL.ext fS.ext) (hp.ext' fS.ext) Ae).ud fun H4 e4 iC=>⟨_,eu (c:=cl ⟨kd,ag,tr,n,gd,⟨id,ap⟩⟩) (by rw[uw,Ng];simp) (by simp only[zq,zi,zX];omega),rfl⟩⟩
theorem Ji{c:Nat}(hp:aL H a l r.cB.ap):Sp 265 [gU r a l c] H fun v _=>v= .tuple #[str (if bC r=0 then cl r else []),i64 (bC r)]:=by
 obtain⟨kd,ag,tr,n,gd,⟨id,ap⟩⟩:=r;have hp:aL H a l ap:=hp;refine bh Tryz.func265 (fun aa K=>vd18 kd ag tr n id gd a l c aa H K) fun aa hb=>?_;intro _;refine(sF (r:=⟨kd,ag,tr,n,gd,⟨id,ap⟩⟩) hp).bY fun H1 e1 fh=>⟨fun h=>?_,fun h=>?_⟩
 ·rw[nI h];rfl
 have hz:=zx.1 h;rw[pI hz,hz];have vQ:=oh hz;have Ae:=og hz
 cases gd with
 |true=>
  refine⟨fun _=>?_,fun h=>(by cases h)⟩;intro b;generalize Ng:gO ⟨kd,ag,tr,n,true,⟨id,ap⟩⟩=ns at vQ;have Ah:ns.length=6:=by rw[←Ng];rfl
  have Ja:∀(m:Nat)(x:Int),ns[m]?=some x->([.int .i64 kd,.int .i64 ag,.int .i64 tr,.int .i64 n,.int .i64 1,.int .i64 id]:List Value)[m]?=some (.int .i64 x):=fun m x hx=>by
   have e:([.int .i64 kd,.int .i64 ag,.int .i64 tr,.int .i64 n,.int .i64 1,.int .i64 id]:List Value)=ns.map i64:=by rw[←Ng];rfl
   rw[e,zP,hx];rfl
  refine⟨fun vs H'=>∃(m:Nat)(p:O)(a3:O)(c3:Nat),vs=[i64 m,.agg #[.pointer p,.slice a3 (ct (ns.take m)).length c3]]/\m<=6/\(p=none∨p=some ⟨b,0,none⟩)/\bg aa H' 5 1 a3 (ct (ns.take m)).length c3 (qm (ct (ns.take m))),aN 6 0,
   ⟨0,none,none,0,rfl,by omega,.inl rfl,bg.nil⟩,fun n2 v a3 n3 c3 H2 dZ hI=>?_⟩
  obtain⟨m,p,xp,xq,cv,hm,Mq,hR⟩:=hI;obtain⟨rfl,rfl,rfl,rfl,rfl⟩:n2=(m:Int)/\v= .pointer p/\a3=xp/\n3=(ct (ns.take m)).length/\c3=xq:=by simpa using cv
  have hlen:=oq (l:=ns.take m) fun x hx=>vQ x (zH hx);have Wg:(ns.take m).length<=6:=by rw[zF];omega
  refine⟨fun bK=>⟨by omega,bK,?_⟩,fun gj=>?_⟩
  ·have V3:m<ns.length:=by omega
   have hx:ns[m]?=some ns[m]:=zu V3;generalize ns[m]=x at hx;have KO:=vQ x (zt hx);have nb:=lZ (n:=x) KO.1 (by omega);refine⟨x,by rw[zz,Nat.mul_one];exact Ja m x hx,(nF (hL.ext dZ.ext) (by omega) (by omega)).ud fun H3 e3 fS=>⟨_,eu rfl (by simp only[zi,zX];omega),?_⟩⟩;refine(Bi (v:= .slice a3 (ct (ns.take m)).length c3) Mq).mono fun r iy H4 e4 hq=>?_;obtain⟨rfl,rfl,rfl⟩:=hq;refine⟨rfl,_,_,_,_,rfl,fun iC=>⟨_,hR.ext e3,by rw[size_mk];simp only[zq,zi,zX];omega,fun a6 c6 H6 OA Gp=>?_⟩⟩;rintro r rfl;rw[aj];have e6:ct (ns.take (m+1))=ct (ns.take m)++(Lib.itoa x++[32]):=by rw[fQ hx,pZ]
   have e7:(ct (ns.take (m+1))).length=(ct (ns.take m)).length+(⟨(Lib.itoa x++[32]).toArray⟩:ByteArray).size:=by rw[e6,zq];rfl
   refine⟨rfl,⟨m+1,some ⟨b,0,none⟩,a6,c6,by rw[e7];rfl,by omega,.inr rfl,?_⟩,by simp[aN];omega⟩;rw[e7,e6];have e8:qm (ct (ns.take m)++(Lib.itoa x++[32]))=qm (ct (ns.take m))++qm (⟨(Lib.itoa x++[32]).toArray⟩:ByteArray).data.toList:=by rw[dB];simp[qm]
   rw[e8];exact Gp
  ·obtain rfl:m=6:=by omega
   rw[zg (by omega)] at hlen hR⊢;have Ii:(cq ap).length<=72:=kK Ae;refine(BB (hL.ext dZ.ext) (hp.ext' dZ.ext)).QS fun H3 e3 fS=>⟨rfl,?_,ct ns,hR.ext e3,fun H4 _ _=>?_⟩
   ·have:ct ns≠[]:=by
     intro e
     cases ns with
     |nil=>simp at Ah
     |cons x t=>unfold ct at e;simp at e
    exact List.length_pos_iff.2 this
   ·rw[pI Ae,Ae]
    exact⟨_,eu rfl (by simp only[zi,zX];omega),_,eu (c:=cl ⟨kd,ag,tr,n,true,⟨id,ap⟩⟩) (by rw[uw,Ng];simp) (by simp only[zq,zi,zX];omega),rfl⟩
 |false=>
  refine⟨fun h=>(by cases h),fun _=>?_⟩;intro b;generalize Ng:gO ⟨kd,ag,tr,n,false,⟨id,ap⟩⟩=ns at vQ;have Ah:ns.length=6:=by rw[←Ng];rfl
  have Ja:∀(m:Nat)(x:Int),ns[m]?=some x->([.int .i64 kd,.int .i64 ag,.int .i64 tr,.int .i64 n,.int .i64 0,.int .i64 id]:List Value)[m]?=some (.int .i64 x):=fun m x hx=>by
   have e:([.int .i64 kd,.int .i64 ag,.int .i64 tr,.int .i64 n,.int .i64 0,.int .i64 id]:List Value)=ns.map i64:=by rw[←Ng];rfl
   rw[e,zP,hx];rfl
  refine⟨fun vs H'=>∃(m:Nat)(p:O)(a3:O)(c3:Nat),vs=[i64 m,.agg #[.pointer p,.slice a3 (ct (ns.take m)).length c3]]/\m<=6/\(p=none∨p=some ⟨b,0,none⟩)/\bg aa H' 5 1 a3 (ct (ns.take m)).length c3 (qm (ct (ns.take m))),aN 6 0,
   ⟨0,none,none,0,rfl,by omega,.inl rfl,bg.nil⟩,fun n2 v a3 n3 c3 H2 dZ hI=>?_⟩
  obtain⟨m,p,xp,xq,cv,hm,Mq,hR⟩:=hI;obtain⟨rfl,rfl,rfl,rfl,rfl⟩:n2=(m:Int)/\v= .pointer p/\a3=xp/\n3=(ct (ns.take m)).length/\c3=xq:=by simpa using cv
  have hlen:=oq (l:=ns.take m) fun x hx=>vQ x (zH hx);have Wg:(ns.take m).length<=6:=by rw[zF];omega
  refine⟨fun bK=>⟨by omega,bK,?_⟩,fun gj=>?_⟩
  ·have V3:m<ns.length:=by omega
   have hx:ns[m]?=some ns[m]:=zu V3;generalize ns[m]=x at hx;have KO:=vQ x (zt hx);have nb:=lZ (n:=x) KO.1 (by omega);refine⟨x,by rw[zz,Nat.mul_one];exact Ja m x hx,(nF (hL.ext dZ.ext) (by omega) (by omega)).ud fun H3 e3 fS=>⟨_,eu rfl (by simp only[zi,zX];omega),?_⟩⟩;refine(Bi (v:= .slice a3 (ct (ns.take m)).length c3) Mq).mono fun r iy H4 e4 hq=>?_;obtain⟨rfl,rfl,rfl⟩:=hq;refine⟨rfl,_,_,_,_,rfl,fun iC=>⟨_,hR.ext e3,by rw[size_mk];simp only[zq,zi,zX];omega,fun a6 c6 H6 OA Gp=>?_⟩⟩;rintro r rfl;rw[aj];have e6:ct (ns.take (m+1))=ct (ns.take m)++(Lib.itoa x++[32]):=by rw[fQ hx,pZ]
   have e7:(ct (ns.take (m+1))).length=(ct (ns.take m)).length+(⟨(Lib.itoa x++[32]).toArray⟩:ByteArray).size:=by rw[e6,zq];rfl
   refine⟨rfl,⟨m+1,some ⟨b,0,none⟩,a6,c6,by rw[e7];rfl,by omega,.inr rfl,?_⟩,by simp[aN];omega⟩;rw[e7,e6];have e8:qm (ct (ns.take m)++(Lib.itoa x++[32]))=qm (ct (ns.take m))++qm (⟨(Lib.itoa x++[32]).toArray⟩:ByteArray).data.toList:=by rw[dB];simp[qm]
   rw[e8];exact Gp
  ·obtain rfl:m=6:=by omega
   rw[zg (by omega)] at hlen hR⊢;have Ii:(cq ap).length<=72:=kK Ae;refine(BB (hL.ext dZ.ext) (hp.ext' dZ.ext)).QS fun H3 e3 fS=>⟨rfl,?_,ct ns,hR.ext e3,fun H4 _ _=>?_⟩
   ·have:ct ns≠[]:=by
     intro e
     cases ns with
     |nil=>simp at Ah
     |cons x t=>unfold ct at e;simp at e
    exact List.length_pos_iff.2 this
   ·rw[pI Ae,Ae];exact⟨_,eu rfl (by simp only[zi,zX];omega),_,eu (c:=cl ⟨kd,ag,tr,n,false,⟨id,ap⟩⟩) (by rw[uw,Ng];simp) (by simp only[zq,zi,zX];omega),rfl⟩
end
open Go Go.Proofs
def rec0:bD:=⟨0,0,0,0,false,⟨0,[]⟩⟩
def OC(x:Except Int bD):bD:=match x with| .ok r=>r| .error _=>rec0
theorem C6{n:Int}(h:cj w=some n):pi (w::ws)=(pi ws).map (n:: ·):=by rw[pi,h]
theorem BE(h:cj w=none):pi (w::ws)=none:=by rw[pi,h]
def oD(ns:Option (List Int))(w6:List UInt8):Except Int bD:=
 if w6.head?=some 61 then
  (match ns with
   |some [k,a,tr,n,g,id]=>
    if g<0∨1<g then .error 1 else
    (match dO (w6.drop 1) with
    | .error e=> .error e
    | .ok l=>let r:bD:=⟨k,a,tr,n,decide (g=1),⟨id,l⟩⟩
     if bC r=0 then .ok r else .error (bC r))
   |_=> .error 1)
 else .error 1
theorem xu{s:List UInt8}(h:(gH 32 s).length≠7):fg s= .error 1:=by
 unfold fg;split
 ·rename_i hc;rw[hc] at h;exact absurd rfl h
 ·rfl
theorem tE{s:List UInt8}{w6:List UInt8}(hc:gH 32 s=ws)(hl:ws.length=7)(h6:ws[6]?=some w6):fg s=oD (pi (ws.take 6)) w6:=by
 match ws,hl,h6 with
 | [v0,v1,v2,v3,v4,v5,v6],_,h6=>
  obtain rfl:v6=w6:=by simpa using h6
  unfold fg;rw[hc];rfl
theorem rH :oD none w= .error 1:=by unfold oD;split<;>rfl
theorem xv{ns:Option (List Int)}(h:¬w.head?=some 61):oD ns w= .error 1:=by unfold oD;rw[nI h]
theorem xw{a n g id:Int}(h:w.head?=some 61)(hg:g<0∨1<g):oD (some [k,a,tr,n,g,id]) w= .error 1:=by rw[oD,pI h];dsimp only;rw[pI hg]
theorem xy{a n g id:Int}(h:w.head?=some 61)(hg:¬(g<0∨1<g)):oD (some [k,a,tr,n,g,id]) w=match dO (w.drop 1) with
  | .error e=> .error e
  | .ok l=>if bC ⟨k,a,tr,n,decide (g=1),⟨id,l⟩⟩=0 then .ok ⟨k,a,tr,n,decide (g=1),⟨id,l⟩⟩ else .error (bC ⟨k,a,tr,n,decide (g=1),⟨id,l⟩⟩):=by
 rw[oD,pI h];dsimp only;rw[nI hg]
theorem BF(w:List UInt8):Lib.hasPrefix w [61]=decide (w.head?=some 61):=by
 unfold Lib.hasPrefix
 cases w with
 |nil=>rfl
 |cons b r=>
  show((61:UInt8)==b&&List.isPrefixOf [] r)=_
  by_cases h:b=61
  ·subst h;simp
  ·simp[h,Ne.symm h]
theorem UN(h:w.head?=some 61):Lib.trimPrefix w [61]=w.drop 1:=by
 unfold Lib.trimPrefix;rw[BF,h];rfl
theorem UO{ns:List Int}(h:ns.length=6):∃k a tr n g id,ns=[k,a,tr,n,g,id]:=by
 match ns,h with
 | [k,a,tr,n,g,id],_=>exact⟨k,a,tr,n,g,id,rfl⟩
theorem CO{α:Type}{cs:List α}{v:α}(h:m<cs.length):(cs.set m v).take (m+1)=cs.take m++[v]:=by
 rw[fQ (x:=v) (by simp[h]),List.take_set_of_le (ze m)]
theorem bZ.mv{e:TypeId}{c:Nat}(h:bZ H1 H2 e sz a n c cs)(e1:aH H H1)(e2:aH H2 H3):bZ H H3 e sz a n c cs:=by
 obtain⟨h1,h2,h3,h4⟩:=h;refine⟨h1,h2,h3,h4.imp id fun⟨g,k,q1,q2,q3,q4⟩=>⟨g,k,q1,?_,e2 _ _ q3,q4⟩⟩
 cases hg:H g with
 |none=>rfl
 |some k'=>rw[e1 g k' hg] at q2;cases q2
theorem UP :aR Tryz.prog (aI .neq 263 xo (.const .nilIface) .nilIface .nilIface) (.bool false):=by
 intro w;have hu:=run_underlying Tryz.underlying263;have hg:(eqGuard .neq 263 xo (.const .nilIface) .nilIface .nilIface).run Tryz.prog w= .ok () w:=by simp[eqGuard]
 have he:(Op.equalIn (9999+1) 263 .nilIface .nilIface).run Tryz.prog w= .ok true w:=by
  rw[Op.equalIn];simp only[Sem.run_bind,hu,Result.andThen_ok];rfl
 simp only[aI,Sem.run_bind,hg,Result.andThen_ok];simp[binOp,Op.equal,show Op.maxDepth=9999+1 from rfl,he]
theorem OD{t:TypeId}{p:Value} :aR Tryz.prog (aI .neq 263 xo (.const .nilIface) (.iface t p) .nilIface) (.bool true):=by
 intro w;have hu:=run_underlying Tryz.underlying263;have hg:(eqGuard .neq 263 xo (.const .nilIface) (.iface t p) .nilIface).run Tryz.prog w= .ok () w:=by simp[eqGuard]
 have he:(Op.equalIn (9999+1) 263 (.iface t p) .nilIface).run Tryz.prog w= .ok false w:=by
  rw[Op.equalIn];simp only[Sem.run_bind,hu,Result.andThen_ok];rfl
 simp only[aI,Sem.run_bind,hg,Result.andThen_ok];simp[binOp,Op.equal,show Op.maxDepth=9999+1 from rfl,he]
def jf(H:Heap)(x:Except Int bD)(v:Value)(H':Heap):Prop:=
 ∃a n c,v= .tuple #[gU (OC x) a n c,i64 (bN x)]/\bZ H H' 91 2 a n c ((OC x).cB.ap.flatMap dm)
theorem jf.bad :jf H (.error e) (.tuple #[.agg #[.int .i64 0,.int .i64 0,.int .i64 0,.int .i64 0,.bool false,.int .i64 0,.slice none 0 0],.int .i64 e]) H':=⟨none,0,0,rfl,bZ.zero⟩
theorem C7{K:Value->Heap->Prop}(hK:∀H',K (.tuple #[.agg #[.int .i64 0,.int .i64 0,.int .i64 0,.int .i64 0,.bool false,.int .i64 0,.slice none 0 0],.int .i64 e]) H'):
  Sp 207 [.int .i64 e] H1 fun v H'=>∃(n n1 n2 n3:Int)(b:Bool)(n4:Int)(a:O)(m c:Nat)(n6:Int),v= .tuple #[.agg #[.int .i64 n,.int .i64 n1,.int .i64 n2,.int .i64 n3,.bool b,.int .i64 n4,.slice a m c],.int .i64 n6]/\
   (Vg.Next aa H1 H'->K (.tuple #[.agg #[.int .i64 n,.int .i64 n1,.int .i64 n2,.int .i64 n3,.bool b,.int .i64 n4,.slice a m c],.int .i64 n6]) H'):=by
 refine bh Tryz.func207 (fun _ _=>vd58) fun aa hb=>fun _=>?_;exact⟨0,0,0,0,false,0,none,0,0,e,rfl,fun _=>hK _⟩
section
variable {H : Heap} (hL : Lb H)
include hL
theorem Jj :Sp 196 [.string s] H (jf H (if 60000<s.size then .error 2 else fg s.data.toList)):=by
 refine bh Tryz.func196 (fun _ _=>vd21) fun aa hb=>?_;refine fun b=>⟨fun h=>?_,fun h=>?_⟩
 ·rw[pI (by omega)];exact jf.bad
 rw[nI (by omega)];have kv:s.data.toList.length<=60000:=by rw[←size_data];omega
 generalize GF:gH 32 s.data.toList=ws;have Rh:∀w∈ws,w.length<=60000:=fun w hw=>by rw[←GF] at hw;have:=mT hw;omega
 refine(Ac hL (s:=s) (c:=32) (by omega)).mono fun v H1 e1 hv=>?_;obtain⟨g,N,hv,hS⟩:=hv;rw[GF] at hS;have Ig:=hS.len;refine⟨_,_,_,hv,fun fh=>⟨fun h7=>?_,fun h7=>?_⟩⟩
 ·rw[xu (by rw[GF];omega)];exact jf.bad
 obtain rfl:N=7:=by omega
 have Qr:ws[6]?=some ws[6]:=zu (by omega);generalize ws[6]=w6 at Qr;rw[tE GF Ig Qr];generalize Yr:ws.take 6=fw;have M6:fw.length=6:=by rw[←Yr,zF];omega
 have Xw:∀(m:Nat) w,m<6->ws[m]?=some w->fw[m]?=some w:=fun m w hm hw=>by rw[←Yr,zD,pI hm];exact hw
 refine fun b1=>⟨rfl,fun vs H'=>∃(k:Int)(A:Value)(m:Nat)(ns:List Int)(cs:List Value),vs=[i64 k,i64 m,A,.agg cs.toArray]/\m<=6/\cs.length=6/\ns.length=m/\cs.take m=ns.map i64/\pi fw=(pi (fw.drop m)).map (ns++ ·)/\aH H1 H',aN 6 1,
  ⟨0,_,0,[],_,rfl,by omega,rfl,rfl,rfl,by simp,aH.refl _⟩,fun n1 n2 n3 n4 n5 n6 b2 n7 a3 n8 c1 cs Ib H2 dZ hI=>?_⟩
 obtain⟨k',A',m,ns,oI,cv,hm,_,Ah,hct,hI,hE⟩:=hI;obtain⟨rfl,rfl,rfl,rfl⟩:n1=k'/\n2=(m:Int)/\_=A'/\cs=oI:=by simpa using cv
 refine⟨fun bK=>hS.str hE (by omega) (by omega) fun w hw=>?_,fun gj=>?_⟩
 ·rw[zz] at hw;have Ri:=Rh w (zt hw);have hmw:=Xw m w (by omega) hw;rw[av hmw] at hI;refine(NY (hL.ext dZ.ext) (s:=⟨w.toArray⟩) (by rw[size_mk];omega)).spec.mono fun v H3 e3 SQ=>?_;obtain⟨⟨n9,e9,SQ,h9⟩,_⟩:=SQ;rw[dB] at h9;rcases h9 with⟨eC,rfl⟩|⟨xX,t,p,rfl⟩
  ·have SO:=Lib.atoiAll_bounds eC;refine⟨n9,.inl ⟨SQ,fun fS=>⟨false,UP,fun h=>(by cases h),fun _=>hS.str (aH.trans hE e3) (by omega) (by omega) fun w' er=>?_⟩⟩⟩;rw[zz,hw] at er;obtain rfl:=zy er;refine(nF (hL.ext (aH.trans dZ.ext e3)) SO.1 SO.2).ud fun H4 e4 iC=>⟨_,neS,fun h=>?_,fun h=>?_⟩
   ·rw[dB,dB] at h;have h:¬Lib.itoa n9=w:=by simpa using h
    have hn:cj w=none:=by rw[cj,eC];simp[h]
    rw[BE hn,yQ] at hI;rw[hI,rH];exact jf.bad
   ·rw[dB,dB] at h;have h:Lib.itoa n9=w:=by simpa using h
    have hn:cj w=some n9:=by rw[cj,eC];simp[h]
    rw[C6 hn] at hI;refine⟨by omega,bK,by rw[Ib,zz];omega,?_⟩;rintro r rfl;rw[aj];rw[show 0+Int.toNat (m:Int)*1=m from by omega];refine⟨by simp[Ib],⟨n1,_,m+1,ns++[n9],cs.set m (.int .i64 n9),rfl,by omega,by simp[Ib],by simp[Ah],?_,by rw[hI];cases pi (fw.drop (m+1))<;>simp,aH.trans hE (aH.trans e3 e4)⟩,by simp[aN];omega⟩;rw[CO (by omega),hct];simp
  ·refine⟨n9,.inr ⟨t,p,SQ,fun fS=>⟨true,OD,fun _=>?_,fun h=>absurd rfl h⟩⟩⟩
   have hn:cj w=none:=by
    unfold cj;split
    ·rename_i v hv;exact absurd hv (xX v)
    ·rfl
   rw[BE hn,yQ] at hI;rw[hI,rH];exact jf.bad
 ·obtain rfl:m=6:=by omega
  rw[yP (by omega),pi,yy,zZ] at hI;obtain⟨k,ag,tr,n,gg,id,rfl⟩:=UO Ah;rw[zg (by omega)] at hct;subst hct;rw[hI];have hw6:=Rh w6 (zt Qr);refine hS.str (k:=6) hE (by omega) (by omega) fun w hw=>?_;obtain rfl:w6=w:=by rw[show Int.toNat 6=6 from rfl,Qr] at hw;exact zy hw
  refine(F9 (s:=⟨w6.toArray⟩) (p:=⟨#[61]⟩)).cut2 fun H3 e3 fS=>?_;rw[dB,show(⟨#[61]⟩:ByteArray).data.toList=[61] from rfl,BF];refine⟨¬w6.head?=some 61∨gg<0∨1<gg,⟨fun hp=>⟨rfl,dD,.inl (by simpa using hp)⟩,fun hp=>⟨gg,rfl,fun h0=>⟨rfl,dD,.inr (.inl h0)⟩,fun h0=>⟨gg,rfl,rfl,dD,?_⟩⟩⟩,fun fT=>?_,fun fT=>?_⟩
  ·have hp:w6.head?=some 61:=by simpa using hp
   exact⟨fun h=>(h.resolve_left (fun x=>x hp)).resolve_left h0,fun h=> .inr (.inr h)⟩
  ·have:oD (some [k,ag,tr,n,gg,id]) w6= .error 1:=by
    by_cases hp:w6.head?=some 61
    ·exact xw hp (fT.resolve_left (fun x=>x hp))
    ·exact xv hp
   rw[this];exact jf.bad
  ·have hp:w6.head?=some 61:=zC fun x=>fT (.inl x);have hg:¬(gg<0∨1<gg):=fun x=>fT (.inr x);rw[xy hp hg,UN hp];have hdl:(w6.drop 1).length<=60000:=by rw[yv];omega
   refine(Jh (hL.ext (aH.trans dZ.ext e3)) (s:=⟨(w6.drop 1).toArray⟩)).mono fun v H4 e4 GG=>?_;obtain⟨a4,m4,c4,GG,Nh⟩:=GG;rw[nI (by rw[size_mk];omega),dB] at GG Nh;refine⟨a4,m4,c4,_,GG,fun iC=>⟨fun h=>?_,fun h=>?_⟩⟩
   ·cases hr:dO (w6.drop 1) with
    |ok l=>rw[hr] at h;exact absurd rfl h
    |error e=>exact jf.bad
   ·obtain⟨lk,hr⟩:=BD (zx.1 h);rw[hr] at Nh⊢;dsimp only;have hpn:=(gC (Nh.row iC):aL H4 a4 m4 lk)
    refine⟨k,rfl,ag,rfl,tr,rfl,n,rfl,gg,rfl,id,rfl,fun _=>?_⟩;refine(sF (r:=⟨k,ag,tr,n,decide (gg=1),⟨id,lk⟩⟩) hpn).bY fun H5 e5 kT=>⟨fun h5=>?_,fun h5=>?_⟩
    ·rw[nI h5];exact jf.bad
    ·rw[pI (zx.1 h5)];exact⟨a4,m4,c4,rfl,Nh.mv (aH.trans dZ.ext e3) e5⟩
theorem OE(kv:s.data.toList.length<=60000):Sp 151 [.string s] H (jf H (fg s.data.toList)):=by
 refine bh Tryz.func151 (fun _ _=>vd29) fun aa hb=>?_;have hss:s.size<=60000:=by rw[size_data];omega
 intro b;generalize GF:gH 32 s.data.toList=ws;have Rh:∀w∈ws,w.length<=60000:=fun w hw=>by rw[←GF] at hw;have:=mT hw;omega
 refine(Ac hL (s:=s) (c:=32) (by omega)).mono fun v H1 e1 hv=>?_;obtain⟨g,N,hv,hS⟩:=hv;rw[GF] at hS;have Ig:=hS.len;refine⟨_,_,_,hv,fun fh=>?_⟩;by_cases h7:N=7
 case neg=>
  rw[xu (by rw[GF];omega)];exact⟨True,⟨fun _=>⟨rfl,dD,trivial⟩,fun h=>absurd (by omega) h⟩,fun _=>C7 fun _=>jf.bad,fun h=>absurd trivial h⟩
 subst h7;have Qr:ws[6]?=some ws[6]:=zu (by omega);generalize ws[6]=w6 at Qr;rw[tE GF Ig Qr];generalize Yr:ws.take 6=fw;have M6:fw.length=6:=by rw[←Yr,zF];omega
 have Xw:∀(m:Nat) w,m<6->ws[m]?=some w->fw[m]?=some w:=fun m w hm hw=>by rw[←Yr,zD,pI hm];exact hw
 have hw6:=Rh w6 (zt Qr);refine⟨¬w6.head?=some 61,⟨fun h=>absurd (by omega) h,fun _=>hS.str (k:=6) (aH.refl _) (by omega) (by omega) fun w hw=>?_⟩,fun fT=>?_,fun fT=>?_⟩
 ·obtain rfl:w6=w:=by rw[show Int.toNat 6=6 from rfl,Qr] at hw;exact zy hw
  refine(NZ (s:=⟨w6.toArray⟩) (p:=⟨#[61]⟩)).aO fun H3 e3 fS=>⟨rfl,e3,?_⟩
  rw[dB,show(⟨#[61]⟩:ByteArray).data.toList=[61] from rfl,BF];simp
 ·rw[xv fT];exact C7 fun _=>jf.bad
 have hp:w6.head?=some 61:=zx.1 fT
 refine⟨by decide,by omega,fun vs H'=>∃(k:Int)(A:Value)(m:Nat)(ns:List Int)(a3:O)(c3:Nat),vs=[i64 k,.slice a3 m c3,i64 m,A]/\m<=6/\bg aa H' 3 1 a3 m c3 (ns.map i64)/\ns.length=m/\pi fw=(pi (fw.drop m)).map (ns++ ·)/\aH H1 H'/\iP H1 a3 c3,aN 6 2,
  ⟨0,_,0,[],none,0,rfl,by omega,bg.nil,rfl,by simp,aH.refl _,iP.none⟩,fun n1 a3 n2 c3 n3 n4 n5 n6 n7 b2 n8 a4 n9 c4 H2 dZ hI=>?_⟩
 obtain⟨k',A',m,ns,xp,xq,cv,hm,hR,Ah,hI,hE,hA⟩:=hI;obtain⟨rfl,⟨rfl,rfl,rfl⟩,rfl,rfl⟩:n1=k'/\(a3=xp/\n2=m/\c3=xq)/\n3=(m:Int)/\_=A':=by simpa using cv
 refine⟨fun bK=>?_,fun gj=>?_⟩
 ·have hmw7:n2<ws.length:=by omega
  have hw:ws[n2]?=some ws[n2]:=zu hmw7;generalize ws[n2]=w at hw;have Ri:=Rh w (zt hw);have hmw:=Xw n2 w (by omega) hw;rw[av hmw] at hI
  obtain⟨bb,o,ha,h0,h1,s',hc,hF⟩:=hS.str (k:=(n2:Int)) hE (by omega) (by omega) (F:=fun s=>s=⟨w.toArray⟩) (fun w' er=>by
   rw[zz,hw] at er;obtain rfl:=zy er
   rfl)
  subst hF;refine⟨bb,o,ha,h0,bK,_,hc,(Jf (hL.ext dZ.ext) (s:=⟨w.toArray⟩) (by rw[size_mk];omega)).mono fun v H3 e3 SQ=>?_⟩;obtain⟨Mt,Ys,SQ,ht,hf⟩:=SQ;rw[dB] at ht hf;refine⟨Mt,Ys,SQ,fun fS=>⟨fun h=>?_,fun h=>?_⟩⟩
  ·rw[BE (hf h),yQ] at hI;rw[hI,rH];exact C7 fun _=>jf.bad
  ·have hn:=ht (by simpa using h);rw[C6 hn] at hI;intro _;refine⟨_,hR.ext e3,by omega,by omega,fun a6 c6 H6 OA Gp=>?_⟩;rintro r rfl;rw[aj];obtain⟨Yp,Yq⟩:=hA.oB (aH.trans hE e3) OA;exact⟨⟨n1,_,n2+1,ns++[Mt],a6,c6,rfl,by omega,by rw[List.map_append];exact Gp,by simp[Ah],by rw[hI];cases pi (fw.drop (n2+1))<;>simp,Yp,Yq⟩,by simp[aN];omega⟩
 ·obtain rfl:n2=6:=by omega
  rw[yP (by omega),pi,yy,zZ] at hI;obtain⟨k,ag,tr,n,gg,id,rfl⟩:=UO Ah;rw[hI];have UQ:Sl ft 1 H2 a3 6 [k,ag,tr,n,gg,id]:=oa hR;refine UQ.int (aH.refl _) (k:=4) (by omega) (by omega) fun x hx=>?_;obtain rfl:gg=x:=by simpa using hx
  refine(uY _ _ _).aO fun H3 e3 fS=>⟨fun h=>?_,fun h=>?_⟩
  ·have hg:gg<0∨1<gg:=by
    have:¬(0<=gg/\gg<=1):=by simpa[me] using h
    omega
   rw[xw hp hg];exact C7 fun _=>jf.bad
  have hg:¬(gg<0∨1<gg):=by
   have:0<=gg/\gg<=1:=by simpa[me] using h
   omega
  rw[xy hp hg];have hdl:(w6.drop 1).length<=60000:=by rw[yv];omega
  have hl1:1<=w6.length:=by
   cases w6 with
   |nil=>cases hp
   |cons x r=>simp
  refine hS.str (k:=6) (aH.trans hE e3) (by omega) (by omega) fun w hw=>?_;obtain rfl:w6=w:=by rw[show Int.toNat 6=6 from rfl,Qr] at hw;exact zy hw
  have hxd:((⟨w6.toArray⟩:ByteArray).extract 1 (⟨w6.toArray⟩:ByteArray).size).data.toList=w6.drop 1:=vh _ 1;refine⟨by decide,by rw[size_mk];omega,?_⟩;refine(Ms (hL.ext (aH.trans dZ.ext e3)) (s:=(⟨w6.toArray⟩:ByteArray).extract 1 (⟨w6.toArray⟩:ByteArray).size) (by rw[hxd];exact hdl)).mono fun v H4 e4 GG=>?_;obtain⟨a5,m5,c5,GG,Nh⟩:=GG;rw[hxd] at GG Nh;refine⟨a5,m5,c5,_,GG,fun iC=>⟨fun h=>?_,fun h=>?_⟩⟩
  ·cases hr:dO (w6.drop 1) with
   |ok l=>rw[hr] at h;exact absurd rfl h
   |error e=>exact C7 fun _=>jf.bad
  ·obtain⟨lk,hr⟩:=BD (zx.1 h);rw[hr] at Nh⊢;dsimp only;have hpn:=(gC (Nh.row iC):aL H4 a5 m5 lk)
   have Wi:aH H2 H4:=aH.trans e3 e4;refine UQ.int Wi (k:=0) (by omega) (by omega) fun x0 h0=>?_;refine UQ.int Wi (k:=1) (by omega) (by omega) fun x1 h1=>?_;refine UQ.int Wi (k:=2) (by omega) (by omega) fun x2 h2=>?_;refine UQ.int Wi (k:=3) (by omega) (by omega) fun x3 h3=>?_;refine UQ.int Wi (k:=4) (by omega) (by omega) fun x4 h4=>?_;refine UQ.int Wi (k:=5) (by omega) (by omega) fun x5 h5=>?_;obtain rfl:k=x0:=by simpa using h0
   obtain rfl:ag=x1:=by simpa using h1
   obtain rfl:tr=x2:=by simpa using h2
   obtain rfl:n=x3:=by simpa using h3
   obtain rfl:gg=x4:=by simpa using h4
   obtain rfl:id=x5:=by simpa using h5
   intro _;refine(mR (r:=⟨k,ag,tr,n,decide (gg=1),⟨id,lk⟩⟩) hpn).bY fun H5 e5 kT=>⟨fun h5=>?_,fun h5=>?_⟩
   ·rw[nI h5];exact C7 fun _=>jf.bad
   ·rw[pI (zx.1 h5)];exact⟨a5,m5,c5,rfl,Nh.mv (aH.trans dZ.ext e3) e5⟩
end
open Go Go.Proofs
open Go Go.Proofs
def gz(b:UInt8):List Value:=[.int .u8 b.toNat]
theorem jP(b:UInt8):(gz b).length=1:=rfl
theorem BG:∀l:List UInt8,qm l=l.flatMap gz
 | []=>rfl
 |x::r=>by
  have:=BG r;unfold qm at this⊢;rw[zB,this];rfl
abbrev Bytes(H:Heap)(a:O)(n:Nat)(bs:List UInt8):Prop:=Sl (gT gz) 1 H a n bs
theorem Bytes.ext'(h:Bytes H a n bs)(e:aH H H'):Bytes H' a n bs:=Sl.ext gT.mono h e
theorem Bytes.conv(h:Bytes H a n bs)(e:aH H H'):bs.length=n/\(n=0∨ ∃(b o:Nat),a=some ⟨b,o,none⟩/\ba H' b o 0 (qm bs)):=
 ⟨h.len,by rw[BG];exact(h.cells jP e).2⟩
theorem Sl.u8(h:Bytes H a n xs)(e:aH H H')(h0:0<=k)(h1:k<n){F:Int->Prop}(hF:∀x,xs[k.toNat]?=some x->F x.toNat):
  ∃(b o:Nat),a=some ⟨b,o,none⟩/\0<=k/\k<n/\∃x:Int,H'.cell b (o+k.toNat*1)=some (.int .u8 x)/\F x:=by
 obtain⟨b,o,r,x,ha,hx,hr,hc⟩:=h.get h0 h1;obtain rfl:=hr;exact⟨b,o,ha,h0,h1,_,Heap.aJ e (hc 0 _ rfl),hF x hx⟩
theorem bZ.bytes{c:Nat}(h:bZ H H' 5 1 a n c (bs.flatMap gz)):Bytes (du H H') a n bs:=h.pU jP (by omega)
theorem rI(e:aH H1 H2):aH (du H H1) (du H H2):=fun x k h=>by
 have h1:=il x k h;have h2:=ew x k h;unfold du;rw[h1];exact e x k h2
abbrev eB(sa:O)(sn sc:Nat)(wa:O)(wn wc:Nat):Value:= .agg #[.slice sa sn sc,.slice wa wn wc]
structure cr(H:Heap)(d:pj)(sa:O)(sn sc:Nat)(wa:O)(wn wc:Nat):Prop where
 safe:Bytes H sa sn d.safe
 wait:Bytes H wa wn d.wait
 sle:sn<=sc
 wle:wn<=wc
theorem cr.ext{d:pj}(h:cr H d sa sn sc wa wn wc)(e:aH H H'):cr H' d sa sn sc wa wn wc:=⟨h.safe.ext' e,h.wait.ext' e,h.sle,h.wle⟩
theorem cr.zero :cr H sW none 0 0 none 0 0:=⟨Sl.nil,Sl.nil,by omega,by omega⟩
theorem p7{c:Nat}(hx:Bytes H a l xs)(hl:l<=100000):Sp 169 [.slice a l c] H fun v H'=>∃a n c,v= .slice a n c/\bZ H H' 5 1 a n c (xs.flatMap gz):=by
 refine bh Tryz.func169 (fun _ _=>vd61) fun aa hb=>⟨_,uZ Tryz.underlying33,fun h=>?_,fun h=>?_⟩
 ·obtain rfl:a=none:=by cases a<;>simp at h⊢
  obtain⟨_,rfl⟩:=hx.kC;exact⟨none,0,0,rfl,bZ.zero⟩
 ·intro g H1 fh _ hg;obtain⟨h1,h2,h3⟩:=hx.copied jP (fun _=>rfl) fh.ext;exact⟨[],_,bg.zero,h1,h2,h3,by omega,by omega,fun a3 c3 H3 hG hR=>⟨_,_,_,rfl,hR.fresh hb⟩⟩
theorem Rl{c:Nat}(hx:Bytes H a l xs)(hy:Bytes H a' l' ys):Sp 129 [.slice a l c,.slice a' l' c'] H fun v _=>v= .bool (decide (xs=ys)):=by
 refine bh Tryz.func129 (fun _ _=>vd65) fun aa hb=>?_;have nb:=hx.len;have uk:=hy.len;have hle:=hx.le;refine⟨fun h=>?_,fun h=>?_⟩
 ·rw[decide_eq_false];rintro rfl;omega
 have Ii:l=l':=by omega
 refine⟨fun vs _=>∃(b:Bool)(k:Nat),vs=[.bool b,i64 k]/\k<=l/\(xs.drop k=ys.drop k↔xs=ys),aN l 1,⟨false,0,rfl,by omega,by simp⟩,fun b n H' hN hI=>?_⟩;obtain⟨b',k,cv,hk,hI⟩:=hI;obtain⟨rfl,rfl⟩:b=b'/\n=(k:Int):=by simpa using cv
 refine⟨fun bK=>hx.u8 hN.ext (by omega) bK fun p hp=>hy.u8 hN.ext (by omega) (by omega) fun q hq=>⟨fun h=>?_,fun h=>?_⟩,fun gj=>?_⟩
 ·rw[zz] at hp hq;rw[av hp,av hq] at hI;rw[decide_eq_false];intro e;obtain⟨rfl,_⟩:=yx (hI.2 e);exact h rfl
 ·rw[zz] at hp hq;rw[av hp,av hq] at hI;have sS:p=q:=UInt8.toNat_inj.1 (by have:=zx.1 h;omega);rintro r rfl;rw[aj];exact⟨⟨b,k+1,rfl,by omega,by rw[←hI];simp[sS]⟩,by simp[aN];omega⟩
 ·rw[decide_eq_true];exact hI.1 (by rw[aK nb (by omega),aK uk (by omega)])
theorem UR(h0:0<=k)(h1:k<=1000000):Sp 152 [.slice none 0 0,.int .i64 k] H fun v H'=>∃a c,v= .slice a 0 c/\bZ H H' 5 1 a 0 c []:=by
 refine bh Tryz.func152 (fun _ _=>vd79) fun aa hb=>?_;refine⟨fun h=>by omega,fun _=>fun r hr=>?_⟩;obtain rfl:r=0:=by rw[hr,aj];omega
 rintro r rfl;rw[aj];refine⟨fun h=>⟨by omega,by omega,[],k.toNat,by omega,by omega,by omega,bg.zero,by omega,by omega,fun g c' H1 hN hg hR=>⟨by omega,by omega,?_⟩⟩,fun h=>⟨none,0,rfl,bZ.zero⟩⟩;refine⟨_,_,rfl,?_⟩;have:=hR.short (m:=0) (by omega);rw[Nat.zero_mul,List.take_zero] at this;exact this.fresh hb
theorem xz{α:Type}{R:jq α}{ty:TypeId}{rs:List (List Value)}{xs:List α}(h:H g=some (ay ty rs.flatten))(hw:∀r∈rs,r.length=sz)(ha:dY R H rs xs)(hn:rs.length=n)(hle:(n:Int)<=9223372036854775807):Sl R sz H (some ⟨g,0,none⟩) n xs:=
 Sl.oz (Has.ub h rfl hw hn hle) ha.len fun i r x hr hx=>ha.get hr hx
theorem OG{c:Nat}{jx:List (List UInt8)}(hx:Sl (oX (gT gz) 1) 1 H a l jx)(hl:l<=100)(hn:jx.flatten.length<=200000):Sp 80 [.slice a l c] H fun v H'=>∃a n c,v= .slice a n c/\bZ H H' 5 1 a n c (jx.flatten.flatMap gz):=by
 refine bh Tryz.func80 (fun _ _=>vd62) fun aa hb=>?_;have Ia:=hx.len
 have nM:∀k,(jx.take k).flatten.length<=jx.flatten.length:=fun k=>by
  have:(jx.take k++jx.drop k).flatten.length=jx.flatten.length:=by rw[List.take_append_drop]
  rw[zI,zq] at this;omega
 have jd:∀k x,jx[k]?=some x->(jx.take (k+1)).flatten=(jx.take k).flatten++x:=fun k x h=>by
  rw[fQ h,zI];simp
 refine⟨fun vs H'=>∃(k:Nat),vs=[i64 ((jx.take k).flatten.length:Nat),i64 k]/\k<=l,aN l 1,⟨0,rfl,by omega⟩,fun n n1 H1 fh hI=>?_⟩;obtain⟨k,cv,hk⟩:=hI;obtain⟨rfl,rfl⟩:n=((jx.take k).flatten.length:Nat)/\n1=(k:Int):=by simpa using cv
 refine⟨fun bK=>hx.slice fh.ext (by omega) bK fun x a' n' c' mi hS=>?_,fun gj=>?_⟩
 ·rw[zz] at mi;have h1:=hS.len;have h2:=nM (k+1);rw[jd k x mi,zq] at h2;rintro r rfl;rw[aj];refine⟨fun h=>by omega,fun _=>?_⟩;rintro r rfl;rw[aj];exact⟨⟨k+1,by rw[jd k x mi,zq,h1];rfl,by omega⟩,by simp[aN];omega⟩
 ·have h2:=nM k;refine(UR (k:=((jx.take k).flatten.length:Nat)) (by omega) (by omega)).mono fun v H2 e2 hv=>?_;obtain⟨a2,c2,rfl,hF⟩:=hv;refine⟨a2,0,c2,rfl,fun dZ=>?_⟩
  have Fj:∀ {g:Nat} {k:KB},H g=some k->c2≠0->a2≠some ⟨g,0,none⟩:=fun{g k} hg hc e=>by
   rcases hF.2.2.2 with⟨_,h⟩|⟨g',k',h1,h2,_⟩
   ·exact hc h
   ·rw[e] at h1;simp at h1;subst h1;rw[fh.ext _ _ hg] at h2;cases h2
  refine⟨fun vs H'=>∃(k:Nat)(a3:O)(c3:Nat),vs=[.slice a3 (jx.take k).flatten.length c3,i64 k]/\k<=l/\bg aa H' 5 1 a3 (jx.take k).flatten.length c3 ((jx.take k).flatten.flatMap gz),aN l 1,
   ⟨0,a2,c2,rfl,by omega,hF.row dZ⟩,fun a3 n3 c3 n4 H3 fS hI=>?_⟩
  obtain⟨k,xp,xq,cv,hk,hR⟩:=hI;obtain⟨⟨rfl,rfl,rfl⟩,rfl⟩:(a3=xp/\n3=(jx.take k).flatten.length/\c3=xq)/\n4=(k:Int):=by simpa using cv
  refine⟨fun bK=>hx.slice fS.ext (by omega) bK fun x a' n' c' mi hS=>?_,fun gj=>?_⟩
  ·rw[zz] at mi;have h1:=hS.len;have h3:=nM (k+1);rw[jd k x mi,zq] at h3;obtain⟨p1,p2,p3⟩:=hS.copied jP (fun _=>rfl) fS.ext;refine⟨_,_,hR,p1,p2,p3,by omega,by omega,fun a5 c5 H5 OH pd=>?_⟩;rintro r rfl;rw[aj];refine⟨⟨k+1,a5,c5,by rw[jd k x mi,zq,h1];rfl,by omega,?_⟩,by simp[aN];omega⟩;rw[jd k x mi,zq,h1,yd];exact pd
  ·obtain rfl:k=l:=by omega
   rw[←Ia,List.take_length] at hR⊢;exact⟨_,_,_,rfl,hR.fresh hb⟩
section
variable {H : Heap} (hL : Lb H)
include hL
theorem Jk(hs:s.size<=60000)(hm:most<=200):Sp 143 [.string s,.int .i64 most] H fun v H'=>∃a n c G rows,v= .tuple #[.slice a n c,i64 (bQ most 0 s.data.toList).2.1,i64 (bQ most 0 s.data.toList).2.2]/\
  nJ kI 7 126 H G H' a n c rows (bQ most 0 s.data.toList).1:=by
 refine bh Tryz.func143 (fun _ _=>vd63) fun aa hb=>?_;have US:=size_data s;generalize hS:s.data.toList=S at US;have hse:s=⟨S.toArray⟩:=by rw[←hS]
 generalize hR:bQ most 0 S=R
 refine⟨fun vs H'=>∃(rest:List UInt8)(a:O)(n c:Nat)(n1 n2:Int)(a1:O)(n3 c1:Nat)(G:Heap)(rows:List (List Value))(xs:List bD),vs=[.string ⟨rest.toArray⟩,.slice a n c,i64 n1,i64 n2,.slice a1 n3 c1]/\
   bV kI 7 126 aa G H' a1 n3 c1 rows xs/\sT H G/\rest.length<=S.length/\n3<=most/\R=(xs++(bQ most n3 rest).1,(S.length-rest.length)+(bQ most n3 rest).2.1,(bQ most n3 rest).2.2),
  fun vs=>match vs with| .string s::_=>s.size|_=>0,
  ⟨S,none,0,0,0,0,none,0,0,fun _=>none,[],[],by rw[hse],bV.zero (fun _ _ h=>by cases h),fun _ _ h=>(by cases h),ze _,by omega,by simp[←hR]⟩,fun s1 a n c n1 n2 a1 n3 c1 H1 fh hI=>?_⟩
 obtain⟨rest,a',n',c',Qq,Nc,Kx,Gu,Ky,G,rows,xs,cv,hO,Ij,Gx,hn3,CP⟩:=hI;obtain⟨rfl,⟨rfl,rfl,rfl⟩,rfl,rfl,rfl,rfl,rfl⟩:s1=⟨rest.toArray⟩/\(a=a'/\n=n'/\c=c')/\n1=Qq/\n2=Nc/\a1=Kx/\n3=Gu/\c1=Ky:=by simpa using cv
 obtain⟨Yt,Yu⟩:=hO.mb (by omega);refine⟨_,neS,fun h=>?_,fun h=>?_⟩
 ·have eE:rest≠[]:=by
   have h:=of_decide_eq_true h;rwa[dB] at h
  have hc:=Sn (hL.ext fh.ext) (s:=⟨rest.toArray⟩) (sep:=⟨#[10]⟩) (by rw[size_mk];omega);rw[dB,show(⟨#[10]⟩:ByteArray).data.toList=[10] from rfl] at hc;rcases ng 10 rest with⟨xX,BC⟩|⟨w,t,kB,hw,BC⟩
  ·rw[BC] at hc;rw[rD xX eE] at CP;refine hc.Uf fun H2 e2 dZ=>⟨fun _=>?_,fun h=>absurd rfl h⟩
   rintro r rfl;rw[size_mk rest,US,aj];subst CP;rw[show(S.length:Int)-rest.length=((S.length-rest.length:Nat):Int) from by omega];refine⟨a1,n3,c1,G,rows,rfl,?_⟩;rw[zZ];exact(hO.ext e2).new hb Ij
  ·rw[BC] at hc;have Cp:w.length+t.length+1=rest.length:=by rw[kB];simp;omega
   refine hc.Uf fun H2 e2 dZ=>⟨fun h=>(by cases h),fun _=>?_⟩
   have hps:=Jj (hL.ext (aH.trans fh.ext e2)) (s:=⟨w.toArray⟩);rw[nI (by rw[size_mk];omega),dB] at hps;refine hps.mono fun v H3 e3 hv=>?_;obtain⟨a7,n7,c7,hv,hF⟩:=hv;refine⟨_,_,_,_,_,_,a7,n7,c7,_,hv,fun fS=>fun b1=>⟨fun h=>?_,fun h=>?_⟩⟩
   ·cases hr:fg w with
    |ok r=>rw[hr] at h;exact absurd rfl h
    |error e=>
     rw[kB,uv hw hr,←kB] at CP;rintro r rfl;rw[size_mk rest,US,aj];subst CP;rw[show(S.length:Int)-rest.length=((S.length-rest.length:Nat):Int) from by omega];refine⟨a1,n3,c1,G,rows,rfl,?_⟩;rw[zZ];exact(hO.ext (aH.trans e2 e3)).new hb Ij
   ·cases hr:fg w with
    |error e=>rw[hr] at h;exact absurd (zx.1 h) (rC hr)
    |ok r=>
     rw[hr] at hF;have hF:bZ H2 H3 91 2 a7 n7 c7 (r.cB.ap.flatMap dm):=hF;refine⟨fun rJ=>?_,fun rJ=>?_⟩
     ·have rJ:n3=most:=by omega
      rw[kB,rJ,oo hw hr,←kB] at CP;rintro q rfl;rw[size_mk rest,US,aj];subst CP;rw[show(S.length:Int)-rest.length=((S.length-rest.length:Nat):Int) from by omega];refine⟨a1,n3,c1,G,rows,rfl,?_⟩;rw[zZ];exact(hO.ext (aH.trans e2 e3)).new hb Ij
     ·have rJ:n3≠most:=by omega
      rw[kB,mh hw hr rJ] at CP;intro b2;have sG:=hO.grow kI.mono (aH.trans e2 e3);have UT:sT H (G.plus (du H1 H3)):=o0 Ij (il.sub fh.ext);have hP:aL (G.plus (du H1 H3)) a7 n7 r.cB.ap:=aL.ext' (hF.pU cJ (by omega)) (aH.trans (lE e2) (ib hO.sub));refine⟨_,sG.row,by omega,by omega,fun a8 c8 H8 hG8 hR8=>⟨⟨t,a,n,c,n1,n2,a8,n3+1,c8,_,rows++[Es r a7 n7 c7],xs++[r],rfl,?_,UT,by omega,by omega,?_⟩,?_⟩⟩
      ·refine sG.oB hG8 ?_ (by intro q hq;simp at hq;subst hq;rfl) (dY.one ⟨a7,n7,c7,rfl,hP⟩);rw[zW,List.flatten_nil,zZ];exact hR8
      ·rw[CP];simp only[zE,List.singleton_append]
       congr 2
       rw[zq,zi];omega
      ·show t.length<rest.length
       omega
 ·have jy:rest=[]:=by
   have h:=fun e=>h (decide_eq_true e);rw[dB] at h;exact zx.1 h
  subst jy;rw[lI] at CP;subst CP;refine⟨a1,n3,c1,G,rows,?_,?_⟩
  ·simp[US]
  ·rw[zZ];exact hO.new hb Ij
end
open Go Go.Proofs
def kM:Except Int pj->pj
 | .ok d=>d
 | .error _=>sW
def nN(H:Heap)(x:Except Int pj)(v:Value)(H':Heap):Prop:=∃sa sn sc wa wn wc,v= .tuple #[eB sa sn sc wa wn wc,i64 (bN x)]/\cr (du H H') (kM x) sa sn sc wa wn wc
theorem nN.bad :nN H (.error e) (.tuple #[.agg #[.slice none 0 0,.slice none 0 0],.int .i64 e]) H':=⟨none,0,0,none,0,0,rfl,cr.zero⟩
theorem Jl(e:aH H H1)(e':aH H2 H3):aH (du H1 H2) (du H H3):=aH.trans (lE e) (rI e')
theorem bZ.le{e:TypeId}{c:Nat}{xs:List Value}(h:bZ H H' e sz a n c xs):n<=c:=h.2.1
theorem bS.iD{P:Program}{x:Except Int pj}(h:bS P f args H (nN H x)){G:O->Nat->Nat->O->Nat->Nat->Int->Heap->Prop}
  (hG:∀sa sn sc wa wn wc H',aH H H'->Vg.Next aa H H'->cr (du H H') (kM x) sa sn sc wa wn wc->G sa sn sc wa wn wc (bN x) H'):
  bS P f args H fun v H'=>∃(sa:O)(sn sc:Nat)(wa:O)(wn wc:Nat)(e:Int),v= .tuple #[.agg #[.slice sa sn sc,.slice wa wn wc],.int .i64 e]/\(Vg.Next aa H H'->G sa sn sc wa wn wc e H'):=
 h.mono fun v H' e ⟨sa,sn,sc,wa,wn,wc,hv,hD⟩=>⟨_,_,_,_,_,_,_,hv,fun hN=>hG _ _ _ _ _ _ H' e hN hD⟩
theorem ED{c:Nat}{cs:List UInt8}(hR:bg aa H3 5 1 a m c (cs.flatMap gz))(hE:aH H1 H3)(hA:iP H1 a c)(hm:m<=200000)(hg:H3 g=some (ay 5 [Value.int IntKind.u8 10]))
  {K':O->Nat->Heap->Prop} (hK:∀Fl Mu H',aH H1 H'->iP H1 Fl Mu->bg aa H' 5 1 Fl (m+1) Mu ((cs++[10]).flatMap gz)->K' Fl Mu H'):
  ∃(xs cells:List Value),bg aa H3 5 1 a m c xs/\cells.length=1*1/\aM cells=true/\(1=0∨ ∃(b o:Nat),(some ⟨g,0,none⟩:O)=some ⟨b,o,none⟩/\ba H3 b o 0 cells)/\(m+1)*1<=140737488355328/\m+1<=9223372036854775807/\
   ∀(Fl:O)(Mu:Nat)(H':Heap),cu aa H3 H' a c Fl Mu (m+1)->bg aa H' 5 1 Fl (m+1) Mu (xs++cells)->K' Fl Mu H':=by
 refine⟨_,[.int .u8 10],hR,rfl,rfl,.inr ⟨g,0,rfl,?_,trivial⟩,by omega,by omega,fun Fl Mu H' hG Rf=>?_⟩
 ·unfold Heap.cell;rw[hg];rfl
 ·obtain⟨e1,e2⟩:=hA.oB hE hG;refine hK Fl Mu H' e1 e2 ?_;rw[yd];exact Rf
theorem EE{Hc:Heap}{c:Nat}{text:List UInt8}(hs:s.data.toList=text)(hz:s.size=text.length)(hR:bg aa Hc 5 1 a n c (bs.flatMap gz))(hE:aH H1 Hc)(hA:iP H1 a c)(hn:n+text.length<=200000)
  {K':O->Nat->Heap->Prop} (hK:∀a' c' H',cu aa Hc H' a c a' c' (n+s.size)->aH H1 H'->iP H1 a' c'->bg aa H' 5 1 a' (n+s.size) c' ((bs++text).flatMap gz)->K' a' c' H'):
  ∃(xs:List Value),bg aa Hc 5 1 a n c xs/\n+s.size<=140737488355328/\∀(a':O)(c':Nat)(H':Heap),cu aa Hc H' a c a' c' (n+s.size)->bg aa H' 5 1 a' (n+s.size) c' (xs++qm s.data.toList)->K' a' c' H':=by
 refine⟨_,hR,by omega,fun a' c' H' hG Rf=>?_⟩;obtain⟨e1,e2⟩:=hA.oB hE hG;refine hK a' c' H' hG e1 e2 ?_;rw[yd,←hs,←BG s.data.toList];exact Rf
theorem GH{r:List Value}{m:bD}(h:kI H r m):aM r=true:=by obtain⟨a,n,c,rfl,_⟩:=h;rfl
theorem ot{e:TypeId}{c:Nat}{xs:List Value}(h:bZ H1 H2 e sz a n c xs):iP H1 a c:=fun hc x k hx ha=>by
 rcases h.2.2.2 with⟨_,h0⟩|⟨g,k',h1,h2,_⟩
 ·exact hc h0
 ·rw[ha] at h1;simp at h1;subst h1;rw[hx] at h2;cases h2
theorem Mv{Hb H2:Heap}{kb:KB}{c:Nat}{e:TypeId}{xs:List Value}(hR:bg aa Hb e sz a n c xs)(hn:Hb g=none)(hg:Hg g=some kb)(hG:cu aa Hg H' a c a' c' nn):H' g=some kb:=by
 refine hG.cR g kb hg ?_;rcases hR.2.2.2 with⟨_,h⟩|⟨g',k',h1,_,h2,_⟩
 ·exact .inl h
 ·right;intro e;rw[h1] at e;simp at e;subst e;rw[hn] at h2;cases h2
theorem BH(hg:Hg g=some (ay 33 [.slice sa sn sc,.slice wa wn wc]))(hx:Bytes Hg sa sn xs)(hy:Bytes Hg wa wn ys)(hn:xs.length+ys.length<=200000):
  Sp 80 [.slice (some ⟨g,0,none⟩) 2 2] Hg fun v H'=>∃a n c,v= .slice a n c/\bZ Hg H' 5 1 a n c ((xs++ys).flatMap gz):=by
 have hS:Sl (oX (gT gz) 1) 1 Hg (some ⟨g,0,none⟩) 2 [xs,ys]:=xz (rs:=[[.slice sa sn sc],[.slice wa wn wc]]) hg (by simp) ⟨⟨sa,sn,sc,rfl,hx⟩,⟨wa,wn,wc,rfl,hy⟩,trivial⟩ rfl (by decide);have:=OG (c:=2) hS (by omega) (by simp;omega);simpa using this
section
variable {H : Heap} (hL : Lb H)
include hL
theorem p8{d:pj}(hd:cr H d sa sn sc wa wn wc):Sp 142 [eB sa sn sc wa wn wc] H fun v _=>v=i64 (bj d):=by
 refine bh Tryz.func142 (fun _ _=>vd60) fun aa hb=>fun b=>?_;have hs:=hd.safe.len;have hw:=hd.wait.len;have h1:=hd.safe.le;have h2:=hd.wait.le;refine⟨(60000:Int)<sn∨(60000:Int)-sn<wn,⟨fun h=>⟨rfl,dD,.inl h⟩,fun h=>?_⟩,fun h=>?_,fun h=>?_⟩
 ·rintro r rfl;rw[aj];exact⟨rfl,dD,⟨fun h'=>h'.resolve_left h,fun h'=> .inr h'⟩⟩
 ·unfold bj;by_cases hc:60000<d.safe.length
  ·rw[pI hc]
  ·rw[nI hc,pI (by omega)]
 ·have e:bj d=(bQ 200 0 d.safe).2.2:=by
   unfold bj;rw[nI (by omega),nI (by omega)]
  rw[e];refine⟨d.safe,hs,(hd.safe.conv (aH.refl _)).2,?_⟩;refine(Jk hL (s:=⟨d.safe.toArray⟩) (most:=200) (by rw[size_mk];omega) (by omega)).mono fun v H1 e1 hv=>?_;obtain⟨a,n,c,G,rows,hv,_⟩:=hv;exact⟨a,n,c,_,_,hv,fun _=>rfl⟩
theorem cPut{rl:Nat}{d:pj}(hd:cr H d sa sn sc wa wn wc)(hr:aL H ra rl r.cB.ap):Sp 243 [eB sa sn sc wa wn wc,gU r ra rl rc] H (nN H (eV d r)):=by
 refine bh Tryz.func243 (fun _ _=>vd32) fun aa hb=>fun b b' b''=>?_;refine(p8 hL hd).bY fun H1 e1 fh=>⟨fun h=>?_,fun h=>?_⟩
 ·rw[eV,nI h];exact nN.bad
 have h:=zx.1 h;obtain⟨z1,z2,z3⟩:=fm h;have hs:=hd.safe.len;have hw:=hd.wait.len;refine(Ji (hL.ext e1) (r:=r) (c:=rc) (hr.ext' e1)).QS fun H2 e2 dZ=>⟨fun h2=>?_,fun h2=>?_⟩
 ·rw[eV,pI h,nI h2];exact nN.bad
 have h2:=zx.1 h2;rw[pI h2];have bK:=om h2;rintro q rfl;rw[size_mk,aj];rintro q rfl;rw[aj];rintro q rfl;rw[aj];refine⟨fun h3=>?_,fun h3=>?_⟩
 ·rw[eV,pI h,pI h2,pI (by omega)];exact nN.bad
 have UU:eV d r= .ok ⟨d.safe,d.wait++(cl r++[10])⟩:=by rw[eV,pI h,pI h2,nI (by omega)]
 rw[UU];have Qs:=aH.trans e1 e2
 have fin:∀ {Ha Hb Hf:Heap} {a1:O} {n1 c1:Nat} {a2:O} {n2 c2:Nat},aH H Ha->bZ Ha Hb 5 1 a1 n1 c1 (d.safe.flatMap gz)->aH Hb Hf->bg aa Hf 5 1 a2 n2 c2 ((d.wait++cl r++[10]).flatMap gz)->
   nN H (.ok ⟨d.safe,d.wait++(cl r++[10])⟩) (.tuple #[.agg #[.slice a1 n1 c1,.slice a2 n2 c2],.int .i64 0]) Hf:=fun{Ha Hb Hf a1 n1 c1 a2 n2 c2} eA hF eF hR=>by
  have Rf:=hR.fresh hb;rw[zE] at Rf;exact⟨_,_,_,_,_,_,rfl,hF.bytes.ext' (Jl eA eF),Rf.bytes,hF.le,Rf.le⟩
 have hz:∀(l:List UInt8),(⟨l.toArray⟩:ByteArray).size=l.length:=size_mk;have Ik:=hd.ext Qs;refine⟨?_,fun g Hg Jm Gl hg=>?_⟩
 ·refine(p7 Ik.safe (by omega)).mono fun v H3 e3 hv=>?_;obtain⟨a1,n1,c1,rfl,Mw⟩:=hv;refine⟨a1,n1,c1,rfl,fun fS=>⟨?_,fun g Hg Jm Gl hg=>?_⟩⟩
  ·refine(p7 (Ik.wait.ext' e3) (by omega)).mono fun v H4 e4 hv=>?_;obtain⟨a2,n2,c2,rfl,Cs⟩:=hv;have hn2:n2=d.wait.length:=by have:=Cs.1;rw[nG jP] at this;omega
   refine⟨a2,n2,c2,rfl,fun iC=>⟨?_,fun g Hg Jm Gl hg=>?_⟩⟩
   ·refine EE (text:=cl r) (s:=⟨(cl r).toArray⟩) rfl rfl (Cs.row iC) e4 (ot Cs) (by omega) fun a' c' H5 OH e5 UW pd=>fun g H6 Fo Gl hg=>?_;refine ED (pd.ext Fo.ext) (aH.trans e5 Fo.ext) UW (by rw[hz];omega) hg fun Fl Mu H7 e7 hA7 Ih=>?_;exact fin Qs Mw e7 Ih
   ·refine EE (text:=cl r) (s:=⟨(cl r).toArray⟩) rfl rfl ((Cs.row iC).ext Jm.ext) (aH.trans e4 Jm.ext) (ot Cs) (by omega) fun a' c' H5 OH e5 UW pd=>?_;refine ED pd e5 UW (by rw[hz];omega) (Mv (H2:=H4) (Cs.row iC) Gl hg OH) fun Fl Mu H7 e7 hA7 Ih=>?_;exact fin Qs Mw e7 Ih
  ·refine(p7 ((Ik.wait.ext' e3).ext' Jm.ext) (by omega)).mono fun v H4 e4 hv=>?_;obtain⟨a2,n2,c2,rfl,Cs⟩:=hv;have hn2:n2=d.wait.length:=by have:=Cs.1;rw[nG jP] at this;omega
   refine⟨a2,n2,c2,rfl,fun iC=>?_⟩;refine EE (text:=cl r) (s:=⟨(cl r).toArray⟩) rfl rfl (Cs.row iC) e4 (ot Cs) (by omega) fun a' c' H5 OH e5 UW pd=>?_;refine ED pd e5 UW (by rw[hz];omega) (e5 _ _ hg) fun Fl Mu H7 e7 hA7 Ih=>?_;exact fin Qs Mw (aH.trans Jm.ext e7) Ih
 ·refine(p7 (Ik.safe.ext' Jm.ext) (by omega)).mono fun v H3 e3 hv=>?_;obtain⟨a1,n1,c1,rfl,Mw⟩:=hv;refine⟨a1,n1,c1,rfl,fun fS=>?_⟩;refine(p7 ((Ik.wait.ext' Jm.ext).ext' e3) (by omega)).mono fun v H4 e4 hv=>?_;obtain⟨a2,n2,c2,rfl,Cs⟩:=hv;have hn2:n2=d.wait.length:=by have:=Cs.1;rw[nG jP] at this;omega
  refine⟨a2,n2,c2,rfl,fun iC=>?_⟩;refine EE (text:=cl r) (s:=⟨(cl r).toArray⟩) rfl rfl (Cs.row iC) e4 (ot Cs) (by omega) fun a' c' H5 OH e5 UW pd=>?_;refine ED pd e5 UW (by rw[hz];omega) (e5 _ _ (e3 _ _ hg)) fun Fl Mu H7 e7 hA7 Ih=>?_;exact fin (aH.trans Qs Jm.ext) Mw e7 Ih
theorem Yv{d:pj}(hd:cr H d sa sn sc wa wn wc):Sp 244 [eB sa sn sc wa wn wc] H (nN H (iq d)):=by
 refine bh Tryz.func244 (fun _ _=>vd33) fun aa hb=>fun b b'=>?_;refine(p8 hL hd).bY fun H1 e1 fh=>⟨fun h=>?_,fun h=>?_⟩
 ·rw[iq,nI h];exact nN.bad
 have h:=zx.1 h;obtain⟨z1,z2,z3⟩:=fm h;intro g H2 dZ Gl hg;have Ik:=hd.ext (aH.trans e1 dZ.ext);refine(BH hg Ik.safe Ik.wait (by omega)).mono fun v H3 e3 hv=>?_;obtain⟨a,n,c,rfl,hF⟩:=hv;refine⟨a,n,c,rfl,fun fS=>fun b3=>?_⟩;have eH:aH H H3:=aH.trans (aH.trans e1 dZ.ext) e3;have hD:cr (du H H3) ⟨d.safe++d.wait,[]⟩ a n c none 0 0:=⟨hF.bytes.ext' (lE (aH.trans e1 dZ.ext)),Sl.nil,hF.le,by omega⟩
 refine(p8 (hL.ext eH) (hD.ext ew)).bY fun H4 e4 iC=>⟨fun h4=>?_,fun h4=>?_⟩
 ·rw[iq,pI h,nI h4];exact nN.bad
 ·have h4:=zx.1 h4;rw[iq,pI h,pI h4];exact⟨_,_,_,_,_,_,rfl,hD.ext (rI e4)⟩
theorem BI{d:pj}(hd:cr H d sa sn sc wa wn wc):Sp 64 [eB sa sn sc wa wn wc] H fun v H'=>∃a1 n1 c1 a2 n2 c2 a3 n3 c3 G rows,v= .tuple #[eB a1 n1 c1 a2 n2 c2,.slice a3 n3 c3,i64 (bj d)]/\
  cr (du H H') (if bj d=0 then dT d else sW) a1 n1 c1 a2 n2 c2/\nJ kI 7 126 H G H' a3 n3 c3 rows (if bj d=0 then aX d else []):=by
 refine bh Tryz.func64 (fun _ _=>vd36) fun aa hb=>fun b b'=>?_;refine(p8 hL hd).bY fun H1 e1 fh=>⟨fun h=>?_,fun h=>?_⟩
 ·rw[nI h,nI h];exact⟨none,0,0,none,0,0,none,0,0,fun _=>none,[],rfl,cr.zero,bZ.zero,by simp,trivial,fun _ _ h=>(by cases h),fun h=>absurd rfl h,fun _ _ h=>(by cases h)⟩
 have h:=zx.1 h;rw[pI h,pI h,h];obtain⟨z1,z2,z3⟩:=fm h;have hs:=hd.safe.len;have hw:=hd.wait.len;have hle:=hd.wle;have yB:=hd.ext e1;refine⟨d.safe,hs,(yB.safe.conv (aH.refl _)).2,?_⟩;refine(Jk (hL.ext e1) (s:=⟨d.safe.toArray⟩) (most:=200) (by rw[size_mk];omega) (by omega)).mono fun v H2 e2 hv=>?_;obtain⟨a3,n3,c3,G3,Yw,rfl,SN⟩:=hv;rw[dB] at SN;refine⟨a3,n3,c3,_,_,rfl,fun dZ=>?_⟩;obtain⟨i1,i2,i3,i4,i5⟩:=j8 (most:=200) d.safe.length (s:=d.safe) (k:=0) (ze _) (by omega);have sG:=SN.own dZ;obtain⟨hr3,UX⟩:=sG.mb (by omega);have Qs:=aH.trans e1 e2;have Ik:=hd.ext Qs;refine⟨d.wait,hw,(Ik.wait.conv (aH.refl _)).2,?_⟩;rintro r rfl;rw[aj];have hm:(200:Int)-n3=((200-n3:Nat):Int):=by omega
 rw[hm];refine(Jk (hL.ext Qs) (s:=⟨d.wait.toArray⟩) (most:=200-n3) (by rw[size_mk];omega) (by omega)).mono fun v H3 e3 hv=>?_;obtain⟨a4,n4,c4,G4,KP,rfl,Qt⟩:=hv;rw[dB] at Qt⊢;have OI:bQ (200-n3) 0 d.wait=dA d:=by unfold dA;rw[←UX]
 rw[OI] at Qt⊢;refine⟨a4,n4,c4,_,_,rfl,fun fS=>?_⟩;have Ni:=Qt.own fS;obtain⟨hr4,Wj⟩:=Ni.mb (by omega);have j:=j8 (most:=200-(bQ 200 0 d.safe).1.length) d.wait.length (s:=d.wait) (k:=0) (ze _) (by omega)
 have j:(dA d).1.length<=200-(bQ 200 0 d.safe).1.length/\(dA d).2.1<=d.wait.length:=by
  obtain⟨_,j2,j3,_⟩:=j;exact⟨by unfold dA;omega,j3⟩
 refine⟨by omega,by omega,fun g H4 iC Gl hg=>?_⟩;have e14:aH H H4:=aH.trans (aH.trans Qs e3) iC.ext;have hd4:=hd.ext e14
 have kX:Bytes H4 wa (dA d).2.1 (d.wait.take (dA d).2.1):=by
  have:=hd4.wait.sub (l:=0) (m:=(dA d).2.1) (a':=wa) (by omega) (fun _=>by cases wa<;>simp[Addr.add]);rwa[List.drop_zero] at this
 rw[zz] at hg;refine(BH hg hd4.safe kX (by rw[zF];omega)).mono fun v H5 e5 hv=>?_;obtain⟨a5,n5,c5,rfl,UY⟩:=hv;refine⟨a5,n5,c5,rfl,fun kT=>?_⟩;have hO3':=(sG.grow kI.mono e3)
 have Yx:aH H3 H5:=aH.trans iC.ext e5;have hA4:dY kI (G3.plus (du H2 H3)) KP (dA d).1:=(Qt.Kq kI.mono).mono kI.mono (ib sG.sub);have Ij:sT H (G3.plus (du H2 H3)):=o0 (SN.im.sub e1) (il.sub Qs);have Ot:=(Ni.row.ext Yx)
 obtain⟨bl4,hc4⟩:KP.flatten.length=n4*7/\(n4=0∨ ∃(b o:Nat),a4=some ⟨b,o,none⟩/\ba H5 b o 0 KP.flatten):=by
  refine⟨Ot.1,?_⟩;rcases Ot.2.2.2 with⟨h0,_⟩|⟨g',k,h1,h2,h3,h4,h5,h6,h7⟩
  ·exact .inl h0
  ·exact .inr ⟨g',0,h1,jM _ 0 fun j v hj=>by unfold Heap.cell;rw[h3];simpa using h7 j v hj⟩
 have KQ:=hO3'.ext Yx;refine⟨_,_,KQ.row,bl4,ev GH Qt.all,hc4,by omega,by omega,fun a6 c6 H6 OA Gp=>?_⟩;have OJ:=KQ.oB OA Gp Qt.wid hA4;refine⟨a5,n5,c5,none,0,0,a6,n3+n4,c6,_,_,rfl,⟨UY.bytes.ext' ?_,Sl.nil,UY.le,by omega⟩,OJ.new hb Ij⟩;intro x k hx;have h1:=il x k hx;have h2:=ew x k hx
 have hxa:c3=0∨a3≠some ⟨x,0,none⟩:=by
  by_cases hc:c3=0
  ·exact .inl hc
  ·right;intro e;obtain⟨g',k',q1,q2⟩:=sG.block hc;rw[e] at q1;simp at q1;subst q1;rw[(aH.trans e3 iC.ext) _ _ q2] at h1;cases h1
 have hHx:H x=none:=by
  cases hq:H x with
  |none=>rfl
  |some k'=>rw[e14 x k' hq] at h1;cases h1
 unfold du;rw[hHx];exact OA.cR x k h2 hxa
end
theorem C8{d d':pj}(h:cr H d sa sn sc wa wn wc)(h':cr H d' ta tn tc ua un uc):Sp 37 [eB sa sn sc wa wn wc,eB ta tn tc ua un uc] H fun v _=>v= .bool (decide (d=d')):=by
 refine bh Tryz.func37 (fun _ _=>vd39) fun aa hb=>fun b b'=>?_;have hd:d=d'↔d.safe=d'.safe/\d.wait=d'.wait:=by cases d;cases d';simp
 refine⟨d=d',(Rl h.safe h'.safe).aO fun H1 e1 _=>⟨fun h1=>(Rl (h.wait.ext' e1) (h'.wait.ext' e1)).aO fun H2 e2 _=>⟨rfl,aH.trans e1 e2,?_⟩,fun h1=>⟨rfl,e1,?_⟩⟩,?_⟩
 ·rw[hd];simp at h1⊢;simp[h1]
 ·rw[hd];simp at h1;simp[h1]
 ·show Value.bool _=Value.bool _
  rw[Rk]
open Go Go.Proofs
theorem TryzvcO{fn:Func}(hf: Tryz.prog.funcs[f]?=some fn)(eC:oV fn=true){own:List Bx}{args:List SV}(dE:Nat.ble args.length fn.ntmps=true)(oJ:∀s∈args,s.wf own.length)(Q:Value->List (List Value)->Heap->Prop)
  {F:Nat->(Value->List (List Value)->Heap->Prop)->Prop} (hv:∀aa K,qC ⟨Tryz.prog,fn.ntmps,TryzMutsJ,aa,H⟩ (gS fn) fn.results.toList args own K=F aa K)
  (h:∀aa,(∀b k,H b=some k->b<aa)->F aa Q):eZ Tryz.prog f (args.map (SV.val own)) own H Q:=
 A5 (fE:= TryzMutsJ) (Tryzsum true) hf (dK eC) rfl Tryzmixed (ij eC) (z8 dE) oJ fun aa hb _=>by
  rw[hv aa];exact h aa hb
theorem UZ(h0:0<=k)(h1:k<=1000000):Sp 153 [.slice none 0 0,.int .i64 k] H fun v H'=>∃a c,v= .slice a 0 c/\bZ H H' 126 7 a 0 c []:=by
 refine bh Tryz.func153 (fun _ _=>vd64) fun aa hb=>?_;refine⟨fun h=>by omega,fun _=>fun r hr=>?_⟩;obtain rfl:r=0:=by rw[hr,aj];omega
 rintro r rfl;rw[aj];refine⟨fun h=>⟨by omega,by omega,[],k.toNat,by omega,by omega,by omega,bg.zero,by omega,by omega,fun g c' H1 hN hg hR=>⟨by omega,by omega,?_⟩⟩,fun h=>⟨none,0,rfl,bZ.zero⟩⟩;refine⟨_,_,rfl,?_⟩;have:=hR.short (m:=0) (by omega);rw[Nat.zero_mul,List.take_zero] at this;exact this.fresh hb
theorem OK{c:Nat}{jx:List (List bD)}(hx:Sl (oX kI 7) 1 H a l jx)(hl:l<=100)(hn:jx.flatten.length<=200000):Sp 81 [.slice a l c] H fun v H'=>∃a n c,v= .slice a n c/\n<=c/\nV H' a n jx.flatten:=by
 refine bh Tryz.func81 (fun _ _=>vd38) fun aa hb=>?_;have Ia:=hx.len
 have nM:∀k,(jx.take k).flatten.length<=jx.flatten.length:=fun k=>by
  have:(jx.take k++jx.drop k).flatten.length=jx.flatten.length:=by rw[List.take_append_drop]
  rw[zI,zq] at this;omega
 have jd:∀k x,jx[k]?=some x->(jx.take (k+1)).flatten=(jx.take k).flatten++x:=fun k x h=>by
  rw[fQ h,zI];simp
 refine⟨fun vs H'=>∃(k:Nat),vs=[i64 ((jx.take k).flatten.length:Nat),i64 k]/\k<=l,aN l 1,⟨0,rfl,by omega⟩,fun n n1 H1 fh hI=>?_⟩;obtain⟨k,cv,hk⟩:=hI;obtain⟨rfl,rfl⟩:n=((jx.take k).flatten.length:Nat)/\n1=(k:Int):=by simpa using cv
 refine⟨fun bK=>hx.slice fh.ext (by omega) bK fun x a' n' c' mi hS=>?_,fun gj=>?_⟩
 ·rw[zz] at mi;have h1:=hS.len;have h2:=nM (k+1);rw[jd k x mi,zq] at h2;rintro r rfl;rw[aj];refine⟨fun h=>by omega,fun _=>?_⟩;rintro r rfl;rw[aj];exact⟨⟨k+1,by rw[jd k x mi,zq,h1];rfl,by omega⟩,by simp[aN];omega⟩
 ·have h2:=nM k;refine(UZ (k:=((jx.take k).flatten.length:Nat)) (by omega) (by omega)).mono fun v H2 e2 hv=>?_;obtain⟨a2,c2,rfl,hF⟩:=hv;refine⟨a2,0,c2,rfl,fun dZ=>?_⟩
  have hO:bV kI 7 126 aa H H2 a2 0 c2 [] ([]:List bD):=⟨hF.row dZ,by simp,trivial,aH.trans fh.ext e2,fun hc g hg=>by
   rcases hF.2.2.2 with⟨_,h⟩|⟨g',k',h1,h2,_⟩
   ·exact absurd h hc
   ·rw[hg] at h1;simp at h1;subst h1
    cases hq:H g with
    |none=>rfl
    |some kb=>rw[fh.ext _ _ hq] at h2;cases h2⟩
  refine⟨fun vs H'=>∃(k:Nat)(a3:O)(n3 c3:Nat)(rows:List (List Value)),vs=[.slice a3 n3 c3,i64 k]/\k<=l/\bV kI 7 126 aa H H' a3 n3 c3 rows (jx.take k).flatten,aN l 1,
   ⟨0,a2,0,c2,[],rfl,by omega,hO⟩,fun a3 n3 c3 n4 H3 fS hI=>?_⟩
  obtain⟨k,xp,Gu,xq,rows,cv,hk,sG⟩:=hI;obtain⟨⟨rfl,rfl,rfl⟩,rfl⟩:(a3=xp/\n3=Gu/\c3=xq)/\n4=(k:Int):=by simpa using cv
  obtain⟨r1,r2⟩:=sG.mb (by omega);refine⟨fun bK=>hx.slice fS.ext (by omega) bK fun x a' n' c' mi hS=>?_,fun gj=>?_⟩
  ·rw[zz] at mi;have h1:=hS.len;have h3:=nM (k+1);rw[jd k x mi,zq] at h3;obtain⟨rs,p1,p2,p3,p4⟩:=hS.rows kI.len;refine⟨_,_,sG.row,p3,ev GH p2,p4.imp id (fun⟨b,o,Fk,hc⟩=>⟨b,o,Fk,fj fS.ext hc⟩),by omega,by omega,fun a5 c5 H5 OH pd=>?_⟩;rintro r rfl;rw[aj];refine⟨⟨k+1,a5,_,c5,rows++rs,rfl,by omega,?_⟩,by simp[aN];omega⟩;rw[jd k x mi];exact sG.oB OH pd p1 p2
  ·obtain rfl:k=l:=by omega
   rw[←Ia,List.take_length] at sG;exact⟨_,_,_,rfl,sG.row.2.1,sG.sl kI.mono (by omega)⟩
open Go Go.Proofs
open Go Go.Proofs
open Go.Value renaming int → I, slice → S, bool → B, agg → A, tuple → T, pointer → P, string → bH
open Go.IntKind renaming i64 → Z, wrap → W
open Go.Addr renaming mk → D
open Go.Vg.Bx renaming mk → J
open Go.Vg renaming Next → X, Sp → Y, eZ → YO, i64 → U
open Go.Vg.Heap renaming cell → C
open Int renaming toNat → N
theorem vz69{t:ByteArray}:
 (fV TryzMutsJ Tryz.f149 aa H [.v (.string s),.v (.string t)] [] K)=(
 Y 205 [bH s,bH t,U (↑(zp t):Int),U (-1)] H fun a b=>∃c d e,a=S c d e/\(X aa H b->K (S c d e) [] b)):=by kernel_rfl
abbrev SR(aa:Nat)(d1:Heap)(n:O)(o p:Nat)(e1 f1 g1 h1:Int)(i1:Bool)(j1:Int)(k1:O)(l1 m1:Nat)(q:Int)(w:ByteArray)(r:Int)(g:LI)(h:LM)(w5:LV)(i:O)(j k:Nat)(l m:Int):Prop:=
 ∀q1:Nat,∃r1:List Value,bg aa d1 126 7 n o p r1/\(o+1)*72<=140737488355328/\o+1<=9223372036854775807/\∀(s1:O)(t1:Nat)(u1:Heap),cu aa d1 u1 n p s1 t1 (o+1)->bg aa u1 126 7 s1 (o+1) t1 (r1++[U e1,U f1,U g1,U h1,B i1,U j1,S k1 l1 m1])->∀v1:Int,v1=W Z (q+(↑(zp w):Int))->∀w1:Int,(fun w2:LV=>w1=W Z (r+1)->g w2 u1/\h w2<h w5) [S i j k,U l,U m,S s1 (o+1) t1,U v1,U w1]
theorem vz35{most:Int}:
 (fV TryzMutsJ Tryz.f79 aa H [.v (.string s),.v (U most)] [] K)=(
 Y 149 [bH s,bH (ByteArray.mk #[10])] H fun a b=>∃c d e,a=S c d e/\(X aa H b->∃(g:LI)(h:LM),g [S none 0 0,U 0,U 0,S none 0 0,U 0,U 0] b/\∀(i:O)(j k:Nat)(l m:Int)(n:O)(o p:Nat)(q r:Int)(t:Heap),(fun w5:LV=>X aa H t->g w5 t->(r<(d:Int)->∃u v,c=some (D u v none)/\0<=r/\r<(d:Int)/\∃w,C t u (v+N r*1)=some (bH w)/\∃x,aR Tryz.prog (aI BinOp.eql 9 (Operand.tmp 20) (Operand.const (bH (ByteArray.mk #[]))) (bH w) (bH (ByteArray.mk #[]))) (B x)/\(x=true->K (T #[S n o p,U q,U 0]) [] t)/\(¬x=true->Y 150 [bH w,bH (ByteArray.mk #[10])] t fun y z=>∃a1,y=B a1/\(X aa t z->(a1=false->K (T #[S n o p,U q,U 9]) [] z)/\(¬a1=false->∀b1:Int,b1=W Z ((↑(zp w):Int)-1)->0<=b1/\b1<=(↑(zp w):Int)/\Y 151 [bH (ye w 0 (N b1))] z fun c1 d1=>∃e1 f1 g1 h1 i1 j1 k1 l1 m1 n1,c1=T #[A #[U e1,U f1,U g1,U h1,B i1,U j1,S k1 l1 m1],U n1]/\(X aa z d1->∀o1:Nat,(fun w4:LB=>∃p1:Prop,((n1=0->w4=w4/\ak d1 d1/\(p1↔most<=(o:Int)))/\(¬n1=0->w4=w4/\ak d1 d1/\¬p1))/\(p1->(¬Int.ofNat 2=0->K (T #[S n o p,U q,U 2]) [] d1)/\(¬¬Int.ofNat 2=0->SR aa d1 n o p e1 f1 g1 h1 i1 j1 k1 l1 m1 q w r g h w5 i j k l m))/\(¬p1->(¬n1=0->K (T #[S n o p,U q,U n1]) [] d1)/\(¬¬n1=0->SR aa d1 n o p e1 f1 g1 h1 i1 j1 k1 l1 m1 q w r g h w5 i j k l m))) [J o1 false 126 [U e1,U f1,U g1,U h1,B i1,U j1,S k1 l1 m1]])))))/\(¬r<(d:Int)->K (T #[S n o p,U q,U 0]) [] t)) [S i j k,U l,U m,S n o p,U q,U r])):=by kernel_rfl
abbrev OL(l:Nat)(a:O)(H:Heap)(e:List UInt8):Prop:=
 l=0∨∃g h,a=some (D g h none)/\ba H g h 0 (qm e)
theorem vz10{c:Nat}:
 (fV TryzMutsJ Tryz.f146 aa H [.v (A #[S a l c,S a' l' c'])] [] K)=(
 ∀b:Nat,(fun w1:LB=>∃d:Prop,((60000<(l:Int)->w1=w1/\ak H H/\d)/\(¬60000<(l:Int)->∀e:Int,e=W Z (60000-(l:Int))->w1=w1/\ak H H/\(d↔e<(l':Int))))/\(d->K (U 2) [] H)/\(¬d->∃e:List UInt8,zo e=l/\(OL l a H e)/\Y 79 [bH (ByteArray.mk (zQ e)),U 200] H fun g h=>∃i j k m n,g=T #[S i j k,U m,U n]/\(X aa H h->K (U n) [] h))) [J b false 35 [S a l c,S a' l' c']]):=by kernel_rfl
theorem vz15{c:Nat}{ag n id:Int}{gd:Bool}{rl:Nat}:
 (fV TryzMutsJ Tryz.f120 aa H [.v (A #[S a l c,S a' l' c']),.v (A #[U kd,U ag,U tr,U n,B gd,U id,S ra rl rc])] [] K)=(
 ∀b d e:Nat,Y 192 [A #[U kd,U ag,U tr,U n,B gd,U id,S ra rl rc]] H fun g h=>∃i j,g=T #[bH i,U j]/\(X aa H h->(¬j=0->K (T #[A #[S none 0 0,S none 0 0],U j]) [] h)/\(¬¬j=0->∀k:Int,k=W Z ((l:Int)+(l':Int))->∀m:Int,m=W Z (k+(↑(zp i):Int))->∀o:Int,o=W Z (m+1)->(60000<o->K (T #[A #[S none 0 0,S none 0 0],U 2]) [] h)/\(¬60000<o->∃p,aR Tryz.prog (aI BinOp.add 9 (Operand.tmp 34) (Operand.const (bH (ByteArray.mk #[10]))) (bH i) (bH (ByteArray.mk #[10]))) (bH p)/\∀(q r:Nat)(s:Heap),zp p<=r->X aa h s->h q=none->ba s q 0 0 (qm (Array.toList (ByteArray.data p)))->∀(t:Nat)(u:Heap),X aa s u->s t=none->u t=some (ay 33 [S a' l' c',S (some (D q 0 none)) (zp p) r])->Y 80 [S (some (D t 0 none)) 2 2] u fun v w=>∃x y z,v=S x y z/\(X aa u w->K (T #[A #[S a l c,S x y z],U 0]) [] w))))):=by kernel_rfl
theorem vz16{c:Nat}:
 (fV TryzMutsJ Tryz.f121 aa H [.v (A #[S a l c,S a' l' c'])] [] K)=(
 ∀(b d e:Nat)(g:Heap),X aa H g->H e=none->g e=some (ay 33 [S a l c,S a' l' c'])->Y 80 [S (some (D e 0 none)) 2 2] g fun h i=>∃j k m,h=S j k m/\(X aa g i->Y 146 [A #[S j k m,S none 0 0]] i fun n o=>∃p,n=U p/\(X aa i o->(¬p=0->K (T #[A #[S none 0 0,S none 0 0],U p]) [] o)/\(¬¬p=0->K (T #[A #[S j k m,S none 0 0],U 0]) [] o)))):=by kernel_rfl
abbrev SS(x:Nat)(a1:Heap)(aa z:Nat)(K:KT):Prop:=
 Y 80 [S (some (D x 0 none)) 2 2] a1 fun b1 c1=>∃d1 e1 f1,b1=S d1 e1 f1/\(X aa a1 c1->Y 81 [S (some (D z 0 none)) 2 2] c1 fun g1 h1=>∃i1 j1 k1,g1=S i1 j1 k1/\(X aa c1 h1->K (T #[A #[S d1 e1 f1,S none 0 0],S i1 j1 k1]) [] h1))
theorem vz17{c:Nat}:
 (fV TryzMutsJ Tryz.f23 aa H [.v (A #[S a l c,S a' l' c'])] [] K)=(
 ∀b d:Nat,∃e:List UInt8,zo e=l/\(OL l a H e)/\Y 79 [bH (ByteArray.mk (zQ e)),U 200] H fun g h=>∃i j k m n,g=T #[S i j k,U m,U n]/\(X aa H h->∃o:List UInt8,zo o=l'/\(OL l' a' h o)/\∀p:Int,p=W Z (200-(j:Int))->Y 79 [bH (ByteArray.mk (zQ o)),U p] h fun q r=>∃s t u v w,q=T #[S s t u,U v,U w]/\(X aa h r->0<=v/\v<=(c':Int)/\(∀(x:Nat)(y:Heap),X aa r y->r x=none->y x=some (ay 33 [S a l c,S a' (N v) c'])->(Y 80 [S (some (D x 0 none)) 2 2] y fun z a1=>∃b1 c1 d1,z=S b1 c1 d1/\(X aa y a1->∀(e1:Nat)(f1:Heap),X aa a1 f1->a1 e1=none->f1 e1=some (ay 53 [S i j k,S s t u])->Y 81 [S (some (D e1 0 none)) 2 2] f1 fun g1 h1=>∃i1 j1 k1,g1=S i1 j1 k1/\(X aa f1 h1->K (T #[A #[S b1 c1 d1,S none 0 0],S i1 j1 k1]) [] h1)))/\∀(z:Nat)(a1:Heap),X aa y a1->y z=none->a1 z=some (ay 53 [S i j k,S s t u])->SS x a1 aa z K)/\∀(x:Nat)(y:Heap),X aa r y->r x=none->y x=some (ay 53 [S i j k,S s t u])->∀(z:Nat)(a1:Heap),X aa y a1->y z=none->a1 z=some (ay 33 [S a l c,S a' (N v) c'])->SS z a1 aa x K))):=by kernel_rfl
theorem vz14{b b':O}{c d m' d':Nat}:
 (fV TryzMutsJ Tryz.f114 aa H [.v (A #[S a l c,S a' l' c']),.v (A #[S b m d,S b' m' d'])] [] K)=(
 ∀e g:Nat,(fun w1:LB=>∃h:Prop,(Y 129 [S a l c,S b m d] H fun i j=>∃k,i=B k/\(X aa H j->(k=true->Y 129 [S a' l' c',S b' m' d'] j fun n o=>∃p,n=B p/\(X aa j o->w1=w1/\ak H o/\(h↔p=true)))/\(k=false->w1=w1/\ak H j/\¬h)))/\K (B (@decide h (zh h))) [] H) [J e false 35 [S a l c,S a' l' c'],J g false 35 [S b m d,S b' m' d']]):=by kernel_rfl
open Go Go.Proofs Go.RowKit Go.Shelf
def mF(c:UInt8)(s:List UInt8):List (List UInt8):=Lib.splitK [c] 1 (s.count c) s
theorem BJ{c:UInt8}{s:List UInt8}(h:c∉s):mF c s=[s]:=by
 unfold mF;rw[List.count_eq_zero.2 h,Lib.splitK]
theorem BK{c:UInt8}(h:c∉w):mF c (w++c::t)=(w++[c])::mF c t:=by
 unfold mF;have hc:(w++c::t).count c=t.count c+1:=by rw[List.count_append,List.count_eq_zero.2 h,List.count_cons_self];omega
 have hi:Lib.index (w++c::t) [c]=(w.length:Int):=by
  rcases jL c (w++c::t) with⟨h1,_⟩|⟨w',t',e,h2,h3⟩
  ·exact absurd (by simp) h1
  ·have:=jY (t:=t) h;rw[e,jY h2] at this;injection this with e1 e2;rw[h3,e1]
 rw[hc,Lib.splitK,hi,nI (by simp)];have e1:((w.length:Int)).toNat=w.length:=by omega
 rw[e1,yS];have e2:(w++c::t).take (w.length+1)=w++[c]:=by rw[show w++c::t=(w++[c])++t from by simp,List.take_append_of_le_length (by simp),zg (by simp)]
 have e3:(w++c::t).drop (w.length+1)=t:=by
  rw[List.drop_append,zO (by omega)];simp
 rw[e2,e3]
theorem GI{c:UInt8} :Lib.hasSuffix (w++[c]) [c]=true:=by
 unfold Lib.hasSuffix;rw[List.isSuffixOf_iff_suffix];exact⟨w,rfl⟩
theorem GJ{c:UInt8}(h:c∉w):Lib.hasSuffix w [c]=false:=by
 unfold Lib.hasSuffix
 cases hs:List.isSuffixOf [c] w with
 |false=>rfl
 |true=>
  obtain⟨t,rfl⟩:=List.isSuffixOf_iff_suffix.1 hs;exact absurd (by simp) h
section
variable {H : Heap} (hL : Lb H)
include hL
theorem Jn{c:UInt8}(hs:s.size<4294967281):Sp 205 [.string s,.string ⟨#[c]⟩,.int .i64 1,.int .i64 (-1)] H fun v H'=>
  ∃(g n:Nat),v= .slice (some ⟨g,0,none⟩) n n/\Sl F2 1 H' (some ⟨g,0,none⟩) n (mF c s.data.toList):=fun w hw hb=>by
 obtain⟨m,hm⟩:=hL.max;have one:1<=(⟨#[c]⟩:ByteArray).size:=ze 1
 have uS:=Any.strings_genSplit { Tryz.D4 with } (by kernel_rfl) s ⟨#[c]⟩ 1 (-1) (Lib.countB s ⟨#[c]⟩+1) m w hs (hw.cell hm) one one (by decide) (by decide) (by
  have:=Lib.countB_le ⟨#[c]⟩ one s.size s (ze _)
  rw[pI (by decide)];omega)
 rw[Nat.add_sub_cancel,Lib.splitB_all ⟨#[c]⟩ one 1 _ s rfl] at uS
 have e2:Lib.cellsOf (Lib.splitB ⟨#[c]⟩ 1 (Lib.countB s ⟨#[c]⟩) s) (Lib.countB s ⟨#[c]⟩+1)=((Lib.splitB ⟨#[c]⟩ 1 (Lib.countB s ⟨#[c]⟩) s).map Value.string).toArray:=by
  have hlen:=Lib.splitB_all ⟨#[c]⟩ one 1 _ s rfl;rw[←hlen];exact Lib.cellsOf_full _
 rw[e2] at uS;refine uS.mono fun e w' ⟨he,er⟩=>?_
 have hn:H w.heap.size=none:=by
  cases hk:H w.heap.size with
  |none=>rfl
  |some k=>exact absurd (hw.lt hk) (by omega)
 have Ui:Lib.countB s ⟨#[c]⟩=s.data.toList.count c:=by rw[←Lib.count_one]
 have Gd:(Lib.splitB ⟨#[c]⟩ 1 (Lib.countB s ⟨#[c]⟩) s).map (·.data.toList)=mF c s.data.toList:=by
  rw[Lib.splitB_data,Ui];rfl
 have hlen:(mF c s.data.toList).length=Lib.countB s ⟨#[c]⟩+1:=by
  rw[←Gd,ym];exact Lib.splitB_all _ one 1 _ s rfl
 have uQ:(Lib.splitB ⟨#[c]⟩ 1 (Lib.countB s ⟨#[c]⟩) s).map Value.string=(mF c s.data.toList).map str:=by
  rw[←Gd,List.map_map];rfl
 have hle:=Lib.countB_le ⟨#[c]⟩ one s.size s (ze _);rw[uQ] at er
 have Uj:w'.heap[w.heap.size]?=some (.cells ((mF c s.data.toList).map str).toArray 9 (0,0)):=by
  rw[er];show(w.heap.push _)[w.heap.size]?=_;simp;rfl
 have hB:bL [] w w':=by rw[er];exact bL.alloc [] w _
 refine⟨_,[],fun b=>if b=w.heap.size then some (ay 9 ((mF c s.data.toList).map str)) else H b,he,rfl,hB,fun b k hk=>?_,⟨fun _ hx=>(by cases hx),fun _ hx=>(by cases hx),by simp[gi]⟩,⟨fun b k hk=>?_,fun b k hk Eb=>?_⟩,w.heap.size,_,rfl,?_⟩
 ·by_cases e1:b=w.heap.size
  ·subst e1;simp only[pI] at hk;obtain rfl:=zy hk;exact⟨_,_,Uj,by simp[ay],fun _=>rfl,fun j v hj=>by simpa[ay] using hj⟩
  ·simp only[nI e1] at hk;rw[hB.block b (hw.lt hk) (by simp)];exact hw b k hk
 ·have e1:b≠w.heap.size:=fun e1=>by rw[e1,hn] at hk;cases hk
  simp only[nI e1];exact hk
 ·by_cases e1:b=w.heap.size
  ·omega
  ·simp only[nI e1] at hk;rw[hk] at Eb;cases Eb
 ·refine⟨hlen,by omega,fun _=>⟨_,0,rfl,fun i x hx=>⟨[str x],rfl,fun j v hj=>?_⟩⟩⟩
  cases j with
  |zero=>
   simp only[List.getElem?_cons_zero,Option.some.injEq] at hj;subst hj;unfold Heap.cell
   simp[ay,hx]
  |succ j=>simp at hj
omit hL in
theorem GK{p:ByteArray}(hs:s.size<=9223372036854775807):gK Tryz.prog 150 [.string s,.string p] H fun v=>v= .bool (Lib.hasSuffix s.data.toList p.data.toList):=fun w hw=>
 (Any.strings_HasSuffix Tryz.QT s p w hs).mono fun e w' ⟨he,er⟩=>⟨_,he,rfl,by rw[er];exact Below.refl _ _⟩
theorem GL(hs:s.size<4294967281):Sp 149 [.string s,.string ⟨#[10]⟩] H fun v H'=>
  ∃(g n:Nat),v= .slice (some ⟨g,0,none⟩) n n/\Sl F2 1 H' (some ⟨g,0,none⟩) n (mF 10 s.data.toList):=by
 refine bh Tryz.func149 (fun _ _=>vz69) fun aa hb=>?_;refine(Jn hL (s:=s) (c:=10) hs).mono fun v H1 e1 hv=>?_;obtain⟨g,n,rfl,hS⟩:=hv;exact⟨_,_,_,rfl,fun _=>⟨_,_,rfl,hS⟩⟩
end
open Go Go.Proofs
theorem EF(w:List UInt8)(c:UInt8):((⟨(w++[c]).toArray⟩:ByteArray).extract 0 w.length).data.toList=w:=by
 simp
section
variable {H : Heap} (hL : Lb H)
include hL
theorem wz(hs:s.size<=60000)(hm:most<=200):Sp 79 [.string s,.int .i64 most] H fun v H'=>∃a n c G rows,v= .tuple #[.slice a n c,i64 (bQ most 0 s.data.toList).2.1,i64 (bQ most 0 s.data.toList).2.2]/\
  nJ kI 7 126 H G H' a n c rows (bQ most 0 s.data.toList).1:=by
 refine bh Tryz.func79 (fun _ _=>vz35) fun aa hb=>?_;have US:=size_data s;refine(GL hL (s:=s) (by omega)).mono fun v H0 e0 hv=>?_;obtain⟨g0,N,rfl,hSp⟩:=hv;refine⟨_,_,_,rfl,fun hN0=>?_⟩;generalize hS:s.data.toList=S at US hSp;generalize hR:bQ most 0 S=R;have Ig:=hSp.len;have hNle:=hSp.le
 refine⟨fun vs H'=>∃(rest:List UInt8)(a:O)(n c:Nat)(n1 n2:Int)(a1:O)(n3 c1:Nat)(m:Nat)(G:Heap)(rows:List (List Value))(xs:List bD),vs=[.slice a n c,i64 n1,i64 n2,.slice a1 n3 c1,i64 ((S.length-rest.length:Nat):Int),i64 m]/\
   bV kI 7 126 aa G H' a1 n3 c1 rows xs/\sT H G/\rest.length<=S.length/\n3<=most/\(mF 10 S).drop m=mF 10 rest/\aH H0 H'/\iP H0 a1 c1/\R=(xs++(bQ most n3 rest).1,(S.length-rest.length)+(bQ most n3 rest).2.1,(bQ most n3 rest).2.2),
  aN N 5,
  ⟨S,none,0,0,0,0,none,0,0,0,fun _=>none,[],[],by simp,bV.zero (fun _ _ h=>by cases h),fun _ _ h=>(by cases h),ze _,by omega,rfl,aH.refl _,iP.none,by simp[←hR]⟩,fun a n c n1 n2 a1 n3 c1 n5 n6 H1 fh hI=>?_⟩
 obtain⟨rest,a',n',c',Qq,Nc,Kx,Gu,Ky,m,G,rows,xs,cv,hO,Ij,Gx,hn3,Na,hE,hAp,CP⟩:=hI;obtain⟨⟨rfl,rfl,rfl⟩,rfl,rfl,⟨rfl,rfl,rfl⟩,rfl,rfl⟩:(a=a'/\n=n'/\c=c')/\n1=Qq/\n2=Nc/\(a1=Kx/\n3=Gu/\c1=Ky)/\n5=((S.length-rest.length:Nat):Int)/\n6=(m:Int):=by simpa using cv
 obtain⟨Yt,Yu⟩:=hO.mb (by omega)
 have hmN:m<N:=by
  rcases Nat.lt_or_ge m N with h|h
  ·exact h
  ·rw[zO (by omega)] at Na;rcases ng 10 rest with⟨xX,_⟩|⟨w,t,kB,hw,_⟩
   ·rw[BJ xX] at Na;cases Na
   ·rw[kB,BK hw] at Na;cases Na
 refine⟨fun bK=>?_,fun gj=>absurd (by omega) gj⟩;refine hSp.str hE (by omega) bK fun x hx=>?_;rw[zz] at hx;have Yy:∃q,(mF 10 S).drop m=x::q/\(mF 10 S).drop (m+1)=q:=⟨_,av hx,rfl⟩
 obtain⟨q,iS,lf⟩:=Yy;rw[Na] at iS;rcases ng 10 rest with⟨xX,BC⟩|⟨w,t,kB,hw,BC⟩
 ·rw[BJ xX] at iS;obtain⟨rfl,rfl⟩:=yx iS;refine⟨_,Yo,fun h=>?_,fun h=>?_⟩
  ·have jy:rest=[]:=by
    have h:=of_decide_eq_true h;rwa[dB] at h
   subst jy;rw[lI] at CP;subst CP;exact⟨a1,n3,c1,G,rows,rfl,by rw[zZ];exact hO.new hb Ij⟩
  ·have eE:rest≠[]:=fun e=>h (by subst e;simp);refine(GK (s:=⟨rest.toArray⟩) (p:=⟨#[10]⟩) (by rw[size_mk];omega)).aO fun H2 e2 dZ=>⟨fun _=>?_,fun h=>?_⟩
   ·rw[rD xX eE] at CP;subst CP;exact⟨a1,n3,c1,G,rows,rfl,by rw[zZ];exact(hO.ext e2).new hb Ij⟩
   ·exfalso;apply h;rw[dB];exact GJ xX
 ·rw[kB,BK hw] at iS;obtain⟨rfl,rfl⟩:=yx iS;have Cp:w.length+t.length+1=rest.length:=by rw[kB];simp;omega
  refine⟨_,Yo,fun h=>?_,fun h=>?_⟩
  ·have h:=of_decide_eq_true h;rw[dB] at h;exact absurd h (by simp)
  have kv:(⟨(w++[10]).toArray⟩:ByteArray).size<=9223372036854775807:=by rw[size_mk,zq,yS];omega
  have hsx:=GK (H:=H1) (s:=⟨(w++[10]).toArray⟩) (p:=⟨#[10]⟩) kv;rw[dB,show(⟨#[10]⟩:ByteArray).data.toList=[10] from rfl,GI] at hsx;refine hsx.aO fun H2 e2 dZ=>⟨fun h=>(by cases h),fun _=>?_⟩
  rintro r rfl;rw[size_mk (w++[10]),zq,yS,aj];have Ng:((w.length+1:Nat):Int)-1=(w.length:Int):=by omega
  rw[Ng];refine⟨by omega,by omega,?_⟩;rw[zz];have hex:=EF w 10;generalize ((⟨(w++[10]).toArray⟩:ByteArray).extract 0 w.length)=sw at hex;refine(OE (hL.ext (aH.trans fh.ext e2)) (s:=sw) (by rw[hex];omega)).mono fun v H3 e3 hv=>?_;rw[hex] at hv;obtain⟨a7,n7,c7,hv,hF⟩:=hv;refine⟨_,_,_,_,_,_,a7,n7,c7,_,hv,fun fS=>fun b1=>?_⟩
  cases hr:fg w with
  |error e=>
   have he:=rC hr;rw[kB,uv hw hr,←kB] at CP;subst CP;refine⟨False,⟨fun h=>absurd h he,fun _=>⟨rfl,dD,id⟩⟩,fun h=>h.elim,fun _=>⟨fun _=>?_,fun h=>absurd he h⟩⟩
   exact⟨a1,n3,c1,G,rows,rfl,by rw[zZ];exact(hO.ext (aH.trans e2 e3)).new hb Ij⟩
  |ok r=>
   rw[hr] at hF;have hF:bZ H2 H3 91 2 a7 n7 c7 (r.cB.ap.flatMap dm):=hF;refine⟨(most:Int)<=n3,⟨fun _=>⟨rfl,dD,Iff.rfl⟩,fun h=>absurd rfl h⟩,fun rJ=>⟨fun _=>?_,fun h=>absurd (by decide) h⟩,fun rJ=>⟨fun h=>absurd rfl h,fun _=>?_⟩⟩
   ·have rJ:n3=most:=by omega
    rw[kB,rJ,oo hw hr,←kB] at CP;subst CP;exact⟨a1,n3,c1,G,rows,rfl,by rw[zZ];exact(hO.ext (aH.trans e2 e3)).new hb Ij⟩
   ·have rJ:n3≠most:=by omega
    rw[kB,mh hw hr rJ] at CP;intro b2;have sG:=hO.grow kI.mono (aH.trans e2 e3);have UT:sT H (G.plus (du H1 H3)):=o0 Ij (il.sub fh.ext);have hP:aL (G.plus (du H1 H3)) a7 n7 r.cB.ap:=aL.ext' (hF.pU cJ (by omega)) (aH.trans (lE e2) (ib hO.sub));refine⟨_,sG.row,by omega,by omega,fun a8 c8 H8 hG8 hR8=>?_⟩;rintro q rfl;rintro q' rfl
    try rw[size_mk (w++[10]),zq,yS]
    rw[aj (n:=((S.length-rest.length:Nat):Int)+((w.length+1:Nat):Int)) (by omega) (by omega),aj (n:=(m:Int)+1) (by omega) (by omega)];have hO8:=sG.oB (rows':=[Es r a7 n7 c7]) (ys:=[r]) hG8 (by rw[zW,List.flatten_nil,zZ];exact hR8) (by intro q hq;simp at hq;subst hq;rfl) (dY.one ⟨a7,n7,c7,rfl,hP⟩);obtain⟨hE8,hAp8⟩:=hAp.oB (aH.trans (aH.trans hE e2) e3) hG8;refine⟨⟨t,a,n,c,n1,n2,a8,n3+1,c8,m+1,_,rows++[Es r a7 n7 c7],xs++[r],?_,hO8,UT,by omega,by omega,lf,hE8,hAp8,?_⟩,by simp[aN];omega⟩
    ·rw[show((S.length-rest.length:Nat):Int)+((w.length+1:Nat):Int)=((S.length-t.length:Nat):Int) from by omega];rfl
    ·rw[CP];simp only[zE,List.singleton_append]
     congr 2
     rw[zq,zi];omega
theorem tF{d:pj}(hd:cr H d sa sn sc wa wn wc):Sp 146 [eB sa sn sc wa wn wc] H fun v _=>v=i64 (bj d):=by
 refine bh Tryz.func146 (fun _ _=>vz10) fun aa hb=>fun b=>?_;have hs:=hd.safe.len;have hw:=hd.wait.len;have h1:=hd.safe.le;have h2:=hd.wait.le;refine⟨(60000:Int)<sn∨(60000:Int)-sn<wn,⟨fun h=>⟨rfl,dD,.inl h⟩,fun h=>?_⟩,fun h=>?_,fun h=>?_⟩
 ·rintro r rfl;rw[aj];exact⟨rfl,dD,⟨fun h'=>h'.resolve_left h,fun h'=> .inr h'⟩⟩
 ·unfold bj;by_cases hc:60000<d.safe.length
  ·rw[pI hc]
  ·rw[nI hc,pI (by omega)]
 ·have e:bj d=(bQ 200 0 d.safe).2.2:=by
   unfold bj;rw[nI (by omega),nI (by omega)]
  rw[e];refine⟨d.safe,hs,(hd.safe.conv (aH.refl _)).2,?_⟩;refine(wz hL (s:=⟨d.safe.toArray⟩) (most:=200) (by rw[size_mk];omega) (by omega)).mono fun v H1 e1 hv=>?_;obtain⟨a,n,c,G,rows,hv,_⟩:=hv;exact⟨a,n,c,_,_,hv,fun _=>rfl⟩
omit hL in
theorem BL{H:Heap}{b o:Nat} :∀ {cs:List Value} {i j:Nat} {v:Value},ba H b o i cs->cs[j]?=some v->H.cell b (o+(i+j))=some v
 | [],i,j,v,_,h=>by simp at h
 |x::r,i,0,v,hc,h=>by
  simp at h;subst h
  exact hc.1
 |x::r,i,j+1,v,hc,h=>by
  have:=BL hc.2 (j:=j) (by simpa using h);rw[show i+(j+1)=i+1+j from by omega];exact this
omit hL in
theorem BM{H:Heap}(h:ba H g 0 0 (qm bs))(hl:bs.length<=1000000):Bytes H (some ⟨g,0,none⟩) bs.length bs:=
 ⟨rfl,by omega,fun _=>⟨g,0,rfl,fun i x hx=>⟨gz x,rfl,fun j v hj=>by
  cases j with
  |zero=>
   have hv:Value.int .u8 x.toNat=v:=by simpa[gz] using hj
   have:=BL (j:=i) (v:= .int .u8 x.toNat) h (by unfold qm;rw[zP,hx];rfl);rw[←hv]
   simpa using this
  |succ j=>simp[gz] at hj⟩⟩⟩
theorem U0{rl:Nat}{d:pj}(hd:cr H d sa sn sc wa wn wc)(hr:aL H ra rl r.cB.ap)(h0:bj d=0):Sp 120 [eB sa sn sc wa wn wc,gU r ra rl rc] H fun v H'=>
  ∃sa sn sc wa wn wc,v= .tuple #[eB sa sn sc wa wn wc,i64 (bN (eV d r))]/\cr H' (kM (eV d r)) sa sn sc wa wn wc:=by
 refine bh Tryz.func120 (fun _ _=>vz15) fun aa hb=>fun b b' b''=>?_;obtain⟨z1,z2,z3⟩:=fm h0;have hs:=hd.safe.len;have hw:=hd.wait.len;refine(OB hL (r:=r) (c:=rc) hr).QS fun H1 e1 fh=>⟨fun h2=>?_,fun h2=>?_⟩
 ·rw[eV,pI h0,nI h2];exact⟨none,0,0,none,0,0,rfl,cr.zero⟩
 have h2:=zx.1 h2;rw[pI h2];have bK:=om h2;intro q hq;rw[aj] at hq;subst hq;intro q hq;rw[size_mk,aj] at hq;subst hq;intro q hq;rw[aj] at hq;subst hq;refine⟨fun h3=>?_,fun h3=>?_⟩
 ·rw[eV,pI h0,pI h2,pI (by omega)];exact⟨none,0,0,none,0,0,rfl,cr.zero⟩
 have UU:eV d r= .ok ⟨d.safe,d.wait++(cl r++[10])⟩:=by rw[eV,pI h0,pI h2,nI (by omega)]
 rw[UU];refine⟨_,eu (c:=cl r++[10]) rfl (by simp only[zi,zX];omega),fun g c1 H2 kv dZ Gl hc=>fun g1 H3 fS hgn3 hg=>?_⟩;rw[dB] at hc;rw[size_mk] at hg;have Qk:Bytes H2 (some ⟨g,0,none⟩) (cl r++[10]).length (cl r++[10]):=BM hc (by simp;omega);have Yz:aH H H3:=aH.trans (aH.trans e1 dZ.ext) fS.ext;refine(BH hg (hd.wait.ext' Yz) (Qk.ext' fS.ext) (by simp;omega)).mono fun v H4 e4 hv=>?_;obtain⟨a,n,c,rfl,hF⟩:=hv;exact⟨a,n,c,rfl,fun iC=>⟨_,_,_,_,_,_,rfl,hd.safe.ext' (aH.trans Yz e4),hF.bytes.ext' ew,hd.sle,hF.le⟩⟩
theorem Rm{d:pj}(hd:cr H d sa sn sc wa wn wc)(h:bj d=0):Sp 121 [eB sa sn sc wa wn wc] H fun v H'=>
  ∃sa sn sc wa wn wc,v= .tuple #[eB sa sn sc wa wn wc,i64 (bN (iq d))]/\cr H' (kM (iq d)) sa sn sc wa wn wc:=by
 refine bh Tryz.func121 (fun _ _=>vz16) fun aa hb=>fun b b' g H2 dZ Gl hg=>?_;obtain⟨z1,z2,z3⟩:=fm h;have Ik:=hd.ext dZ.ext;refine(BH hg Ik.safe Ik.wait (by omega)).mono fun v H3 e3 hv=>?_;obtain⟨a,n,c,rfl,hF⟩:=hv;refine⟨a,n,c,rfl,fun fS=>?_⟩;have eH:aH H H3:=aH.trans dZ.ext e3;have hD:cr H3 ⟨d.safe++d.wait,[]⟩ a n c none 0 0:=⟨hF.bytes.ext' ew,Sl.nil,hF.le,by omega⟩
 refine(tF (hL.ext eH) hD).bY fun H4 e4 iC=>⟨fun h4=>?_,fun h4=>?_⟩
 ·rw[iq,pI h,nI h4];exact⟨none,0,0,none,0,0,rfl,cr.zero⟩
 ·have h4:=zx.1 h4;rw[iq,pI h,pI h4];exact⟨_,_,_,_,_,_,rfl,hD.ext e4⟩
theorem ux{d:pj}(hd:cr H d sa sn sc wa wn wc)(h:bj d=0):Sp 23 [eB sa sn sc wa wn wc] H fun v H'=>∃a1 n1 c1 a2 n2 c2 a3 n3 c3,v= .tuple #[eB a1 n1 c1 a2 n2 c2,.slice a3 n3 c3]/\
  cr H' (dT d) a1 n1 c1 a2 n2 c2/\n3<=c3/\nV H' a3 n3 (aX d):=by
 refine bh Tryz.func23 (fun _ _=>vz17) fun aa hb=>fun b b'=>?_;obtain⟨z1,z2,z3⟩:=fm h;have hs:=hd.safe.len;have hw:=hd.wait.len;have hle:=hd.wle;refine⟨d.safe,hs,(hd.safe.conv (aH.refl _)).2,?_⟩;refine(wz hL (s:=⟨d.safe.toArray⟩) (most:=200) (by rw[size_mk];omega) (by omega)).mono fun v H2 e2 hv=>?_;obtain⟨a3,n3,c3,G3,Yw,rfl,SN⟩:=hv;rw[dB] at SN;refine⟨a3,n3,c3,_,_,rfl,fun dZ=>?_⟩;obtain⟨i1,i2,i3,i4,i5⟩:=j8 (most:=200) d.safe.length (s:=d.safe) (k:=0) (ze _) (by omega);have QX:nV H2 a3 n3 (bQ 200 0 d.safe).1:=SN.sl kI.mono (by omega) dZ;have UX:=QX.len;have Ik:=hd.ext e2;refine⟨d.wait,hw,(Ik.wait.conv (aH.refl _)).2,?_⟩;rintro r rfl;rw[aj];have hm:(200:Int)-n3=((200-n3:Nat):Int):=by omega
 rw[hm];refine(wz (hL.ext e2) (s:=⟨d.wait.toArray⟩) (most:=200-n3) (by rw[size_mk];omega) (by omega)).mono fun v H3 e3 hv=>?_;obtain⟨a4,n4,c4,G4,KP,rfl,Qt⟩:=hv;rw[dB] at Qt⊢;have OI:bQ (200-n3) 0 d.wait=dA d:=by unfold dA;rw[←UX]
 rw[OI] at Qt⊢;refine⟨a4,n4,c4,_,_,rfl,fun fS=>?_⟩;have Ot:nV H3 a4 n4 (dA d).1:=Qt.sl kI.mono (by omega) fS;have Wj:=Ot.len
 have j:(dA d).1.length<=200/\(dA d).2.1<=d.wait.length:=by
  obtain⟨_,j2,j3,_⟩:=j8 (most:=200-(bQ 200 0 d.safe).1.length) d.wait.length (s:=d.wait) (k:=0) (ze _) (by omega);exact⟨by unfold dA;omega,j3⟩
 have M6: [(bQ 200 0 d.safe).1,(dA d).1].flatten=aX d:=by simp[aX]
 have OM:∀ {Hg:Heap} {g:Nat},aH H3 Hg->Hg g=some (ay 53 [.slice a3 n3 c3,.slice a4 n4 c4])->Sp 81 [.slice (some ⟨g,0,none⟩) 2 2] Hg fun v H'=>∃a n c,v= .slice a n c/\n<=c/\nV H' a n (aX d):=fun{Hg g} eg hg=>by
  have hS:Sl (oX kI 7) 1 Hg (some ⟨g,0,none⟩) 2 [(bQ 200 0 d.safe).1,(dA d).1]:=xz (rs:=[[.slice a3 n3 c3],[.slice a4 n4 c4]]) hg (by simp) ⟨⟨a3,n3,c3,rfl,(QX.ext' e3).ext' eg⟩,⟨a4,n4,c4,rfl,Ot.ext' eg⟩,trivial⟩ rfl (by decide);have:=OK (c:=2) hS (by omega) (by simp;omega);rw[M6] at this;exact this
 have hd3:=Ik.ext e3
 have fA:∀ {Hg:Heap} {g:Nat},aH H3 Hg->Hg g=some (ay 33 [.slice sa sn sc,.slice wa (Int.toNat ((dA d).2.1:Int)) wc])->Sp 80 [.slice (some ⟨g,0,none⟩) 2 2] Hg fun v H'=>∃a n c,v= .slice a n c/\n<=c/\Bytes H' a n (dT d).safe:=fun{Hg g} eg hg=>by
  rw[zz] at hg
  have kX:Bytes Hg wa (dA d).2.1 (d.wait.take (dA d).2.1):=by
   have:=((hd3.ext eg).wait).sub (l:=0) (m:=(dA d).2.1) (a':=wa) (by omega) (fun _=>by cases wa<;>simp[Addr.add]);rwa[List.drop_zero] at this
  refine(BH hg (hd3.ext eg).safe kX (by rw[zF];omega)).mono fun v H5 e5 hv=>?_;obtain⟨a5,n5,c5,rfl,UY⟩:=hv;exact⟨a5,n5,c5,rfl,UY.le,UY.bytes.ext' ew⟩
 have fin:∀ {Hf:Heap} {a1:O} {n1 c1:Nat} {a2:O} {n2 c2:Nat},n1<=c1->Bytes Hf a1 n1 (dT d).safe->n2<=c2->nV Hf a2 n2 (aX d)->∃Kx Qq Ky SK Nc SL xp Gu xq,Value.tuple #[.agg #[.slice a1 n1 c1,.slice none 0 0],.slice a2 n2 c2]= .tuple #[eB Kx Qq Ky SK Nc SL,.slice xp Gu xq]/\
   cr Hf (dT d) Kx Qq Ky SK Nc SL/\Gu<=xq/\nV Hf xp Gu (aX d):=fun h1 h2 h3 h4=>⟨_,_,_,_,_,_,_,_,_,rfl,⟨h2,Sl.nil,h1,by omega⟩,h3,h4⟩
 refine⟨by omega,by omega,fun g H4 iC Gl hg=>⟨?_,fun g1 H5 kT YA kY=>?_⟩,fun g H4 iC Gl hg=>fun g1 H5 kT YA kY=>?_⟩
 ·refine(fA iC.ext hg).mono fun v H5 e5 hv=>?_;obtain⟨a5,n5,c5,rfl,l5,hB⟩:=hv;refine⟨a5,n5,c5,rfl,fun kT=>fun g1 H6 Fo YA kY=>?_⟩;refine(OM (aH.trans (aH.trans iC.ext e5) Fo.ext) kY).mono fun v H7 e7 hv=>?_;obtain⟨a6,n6,c6,rfl,l6,hR⟩:=hv;exact⟨a6,n6,c6,rfl,fun Mx=>fin l5 (hB.ext' (aH.trans Fo.ext e7)) l6 hR⟩
 ·refine(fA (aH.trans iC.ext kT.ext) (kT.ext _ _ hg)).mono fun v H6 e6 hv=>?_;obtain⟨a5,n5,c5,rfl,l5,hB⟩:=hv;refine⟨a5,n5,c5,rfl,fun Fo=>?_⟩;refine(OM (aH.trans (aH.trans iC.ext kT.ext) e6) (e6 _ _ kY)).mono fun v H7 e7 hv=>?_;obtain⟨a6,n6,c6,rfl,l6,hR⟩:=hv;exact⟨a6,n6,c6,rfl,fun Mx=>fin l5 (hB.ext' e7) l6 hR⟩
 ·refine(fA (aH.trans iC.ext kT.ext) kY).mono fun v H6 e6 hv=>?_;obtain⟨a5,n5,c5,rfl,l5,hB⟩:=hv;refine⟨a5,n5,c5,rfl,fun Fo=>?_⟩;refine(OM (aH.trans (aH.trans iC.ext kT.ext) e6) (e6 _ _ (kT.ext _ _ hg))).mono fun v H7 e7 hv=>?_;obtain⟨a6,n6,c6,rfl,l6,hR⟩:=hv;exact⟨a6,n6,c6,rfl,fun Mx=>fin l5 (hB.ext' e7) l6 hR⟩
end
theorem C9{d d':pj}(h:cr H d sa sn sc wa wn wc)(h':cr H d' ta tn tc ua un uc):Sp 114 [eB sa sn sc wa wn wc,eB ta tn tc ua un uc] H fun v _=>v= .bool (decide (d=d')):=by
 refine bh Tryz.func114 (fun _ _=>vz14) fun aa hb=>fun b b'=>?_;have hd:d=d'↔d.safe=d'.safe/\d.wait=d'.wait:=by cases d;cases d';simp
 refine⟨d=d',(Rl h.safe h'.safe).aO fun H1 e1 _=>⟨fun h1=>(Rl (h.wait.ext' e1) (h'.wait.ext' e1)).aO fun H2 e2 _=>⟨rfl,aH.trans e1 e2,?_⟩,fun h1=>⟨rfl,e1,?_⟩⟩,?_⟩
 ·rw[hd];simp at h1⊢;simp[h1]
 ·rw[hd];simp at h1;simp[h1]
 ·show Value.bool _=Value.bool _
  rw[Rk]
open Go Go.Proofs
theorem YB{sl:Nat}{ag rt n Fm:Int}{rg:Bool}{qa:O}{ql qc:Nat}:
 (fV TryzMutsJ Tryz.f219 aa H [.v (A #[S sa sl sc,S ta tl tc]),.v (A #[U kd,U ag,U rt,U n,B rg,U Fm,S qa ql qc])] [] K)=(
 ∀a b c:Nat,Y 243 [A #[S sa sl sc,S ta tl tc],A #[U kd,U ag,U rt,U n,B rg,U Fm,S qa ql qc]] H fun d e=>∃g h i j k l m,d=T #[A #[S g h i,S j k l],U m]/\(X aa H e->(¬m=0->K (T #[A #[S none 0 0,S none 0 0],U m]) [] e)/\(¬¬m=0->Y 244 [A #[S g h i,S j k l]] e fun o p=>∃q r s t u v w,o=T #[A #[S q r s,S t u v],U w]/\(X aa e p->K (T #[A #[S q r s,S t u v],U w]) [] p)))):=by kernel_rfl
abbrev SU(q:Int)(K:KT)(w5:LL)(d:Heap)(sa:O)(sl sc:Nat)(ta:O)(tl tc:Nat)(w6:AV)(aa:Nat)(id:Int)(fa:O)(fl fc:Nat)(ra:O)(rl rc:Nat)(wa:O)(wl wc:Nat)(aS:Int)(e:O)(g h:Nat)(i j:Int)(k:Bool)(l:O)(m o:Nat)(p:Int)(up:Bool)(na:O)(nl nc:Nat)(ma:O)(ml mc:Nat):Prop:=
 (¬q=0->K (U q) w5 d)/\(¬¬q=0->(Y 219 [A #[S sa sl sc,S ta tl tc],A w6] d fun s t=>∃u v w x y z,(fun w1:LL=>∃a1,s=T #[A #[S u v w,S x y z],U a1]/\(X aa d t->∀b1:Nat,(a1=0->K (U a1) w1 t/\K (U a1) w1 t)/\(¬a1=0->K (U a1) w5 t))) [[U id,S fa fl fc,S ra rl rc,S wa wl wc,U aS,S e g h,U i,U j,B k,S l m o,U p,S u v w,S x y z,B up,S na nl nc,S ma ml mc]])/\∀s:Nat,Y 219 [A #[S sa sl sc,S ta tl tc],A w6] d fun t u=>∃v w x y z a1,(fun w2:LL=>∃b1,t=T #[A #[S v w x,S y z a1],U b1]/\(X aa d u->(b1=0->K (U b1) w2 u/\K (U b1) w2 u)/\(¬b1=0->K (U b1) w5 u))) [[U id,S fa fl fc,S ra rl rc,S wa wl wc,U aS,S e g h,U i,U j,B k,S l m o,U p,S v w x,S y z a1,B up,S na nl nc,S ma ml mc]])
theorem YC(b:Nat)(id aS:Int)(fa ra wa:O)(fl fc rl rc wl wc:Nat)(aU ab nx:Int)(ac:Bool)(la ka:O)(ll lc kl kc:Nat)(sa ta:O)(sl sc tl tc:Nat)(up:Bool)(na ma:O)(nl nc ml mc:Nat)(kd ag rt n Fm:Int)(rg:Bool)(qa:O)(ql qc:Nat)(aa:Nat)(H:Heap)(K:KT):
 (fV TryzMutsJ Tryz.f176 aa H [.loc 0 0,.v (A #[U kd,U ag,U rt,U n,B rg,U Fm,S qa ql qc])] [⟨b,false,41,[U id,S fa fl fc,S ra rl rc,S wa wl wc,U aS,S la ll lc,U aU,U ab,B ac,S ka kl kc,U nx,S sa sl sc,S ta tl tc,B up,S na nl nc,S ma ml mc]⟩] K)=(
 (fun w8:AV=>(fun w7:AV=>(fun w6:AV=>(fun w5:LL=>∀a:Nat,(Y 144 [A w8,A w7,A w6] H fun c d=>∃e g h i j k l m o p q,c=T #[A #[S e g h,U i,U j,B k,S l m o,U p],U q]/\(X aa H d->∀r:Nat,SU q K w5 d sa sl sc ta tl tc w6 aa id fa fl fc ra rl rc wa wl wc aS e g h i j k l m o p up na nl nc ma ml mc))/\∀c:Nat,Y 144 [A w8,A w7,A w6] H fun d e=>∃g h i j k l m o p q r,d=T #[A #[S g h i,U j,U k,B l,S m o p,U q],U r]/\(X aa H e->SU r K w5 e sa sl sc ta tl tc w6 aa id fa fl fc ra rl rc wa wl wc aS g h i j k l m o p q up na nl nc ma ml mc)) [[U id,S fa fl fc,S ra rl rc,S wa wl wc,U aS,S la ll lc,U aU,U ab,B ac,S ka kl kc,U nx,S sa sl sc,S ta tl tc,B up,S na nl nc,S ma ml mc]]) #[U kd,U ag,U rt,U n,B rg,U Fm,S qa ql qc]) #[S la ll lc,U aU,U ab,B ac,S ka kl kc,U nx]) #[U id,S fa fl fc,S ra rl rc,S wa wl wc,U aS]):=by kernel_rfl
theorem YD(b:Nat)(id aS:Int)(fa ra wa:O)(fl fc rl rc wl wc:Nat)(aU ab nx:Int)(ac:Bool)(la ka:O)(ll lc kl kc:Nat)(sa ta:O)(sl sc tl tc:Nat)(up:Bool)(na ma:O)(nl nc ml mc:Nat)(mg mt U1:Int)(mr U2:Bool)(pa:O)(pl pc:Nat)(aa:Nat)(H:Heap)(K:KT):
 (fV TryzMutsJ Tryz.f221 aa H [.loc 0 0,.v (A #[U mg,U mt,B mr,B U2,U U1,S pa pl pc])] [⟨b,false,41,[U id,S fa fl fc,S ra rl rc,S wa wl wc,U aS,S la ll lc,U aU,U ab,B ac,S ka kl kc,U nx,S sa sl sc,S ta tl tc,B up,S na nl nc,S ma ml mc]⟩] K)=(
 ∀a:Nat,Y 245 [S ma ml mc,A #[U mg,U mt,B mr,B U2,U U1,S pa pl pc]] H fun c d=>∃e g h i,c=T #[S e g h,U i]/\(X aa H d->(i=0->K (T #[]) [[U id,S fa fl fc,S ra rl rc,S wa wl wc,U aS,S la ll lc,U aU,U ab,B ac,S ka kl kc,U nx,S sa sl sc,S ta tl tc,B up,S na nl nc,S e g h]] d)/\(¬i=0->K (T #[]) [[U id,S fa fl fc,S ra rl rc,S wa wl wc,U aS,S la ll lc,U aU,U ab,B ac,S ka kl kc,U nx,S sa sl sc,S ta tl tc,B up,S na nl nc,S ma ml mc]] d))):=by kernel_rfl
theorem YE(b:Nat)(id aS:Int)(fa ra wa:O)(fl fc rl rc wl wc:Nat)(aU ab nx:Int)(ac:Bool)(la ka:O)(ll lc kl kc:Nat)(sa ta:O)(sl sc tl tc:Nat)(up:Bool)(na ma:O)(nl nc ml mc:Nat)(k:Int)(aa:Nat)(H:Heap)(K:KT):
 (fV TryzMutsJ Tryz.f180 aa H [.loc 0 0,.v (U k)] [⟨b,false,41,[U id,S fa fl fc,S ra rl rc,S wa wl wc,U aS,S la ll lc,U aU,U ab,B ac,S ka kl kc,U nx,S sa sl sc,S ta tl tc,B up,S na nl nc,S ma ml mc]⟩] K)=(
 ∃a c,na=some (D a c none)/\0<=k/\k<(nl:Int)/\∃(d:O)(e g:Nat)(h i:Int)(j:Bool)(l:Int)(m:O)(n o:Nat)(p:Bool),(C H a (c+N k*10)=some (S d e g)/\C H a (c+N k*10+1)=some (U h)/\C H a (c+N k*10+2)=some (U i)/\C H a (c+N k*10+3)=some (B j)/\C H a (c+N k*10+4)=some (U l)/\C H a (c+N k*10+5)=some (S m n o)/\C H a (c+N k*10+6)=some (B p)/\True)/\∀q:Nat,YO Tryz.prog 221 [P (some (D b 0 none)),A #[U k,U i,B true,B p,U 0,S none 0 0]] [J b false 41 [U id,S fa fl fc,S ra rl rc,S wa wl wc,U aS,S la ll lc,U aU,U ab,B ac,S ka kl kc,U nx,S sa sl sc,S ta tl tc,B up,S na nl nc,S ma ml mc]] H fun r s t=>r=T #[]/\∃(u:Int)(v:O)(w x:Nat)(y:O)(z a1:Nat)(b1:O)(c1 d1:Nat)(e1:Int)(f1:O)(g1 h1:Nat)(i1 j1:Int)(k1:Bool)(l1:O)(m1 n1:Nat)(o1:Int)(p1:O)(q1 r1:Nat)(s1:O)(t1 u1:Nat)(v1:Bool)(w1:O)(x1 y1:Nat)(z1:O)(a2 b2:Nat),(fun w2:LL=>s=w2/\(X aa H t->K (T #[]) w2 t)) [[U u,S v w x,S y z a1,S b1 c1 d1,U e1,S f1 g1 h1,U i1,U j1,B k1,S l1 m1 n1,U o1,S p1 q1 r1,S s1 t1 u1,B v1,S w1 x1 y1,S z1 a2 b2]]):=by kernel_rfl
abbrev SW(b:Nat)(hg p g:Int)(h:O)(i j:Nat)(w9:LV)(d:Heap)(aa:Nat)(K:KT):Prop:=
 YO Tryz.prog 221 [P (some (D b 0 none)),A #[U hg,U p,B false,B false,U g,S h i j]] [J b false 41 w9] d fun t u v=>t=T #[]/\∃(w:Int)(x:O)(y z:Nat)(a1:O)(b1 c1:Nat)(d1:O)(e1 f1:Nat)(g1:Int)(h1:O)(i1 j1:Nat)(k1 l1:Int)(m1:Bool)(n1:O)(o1 p1:Nat)(q1:Int)(r1:O)(s1 t1:Nat)(u1:O)(v1 w1:Nat)(x1:Bool)(y1:O)(z1 a2:Nat)(b2:O)(c2 d2:Nat),(fun w3:LL=>u=w3/\(X aa d v->K (U 0) w3 v)) [[U w,S x y z,S a1 b1 c1,S d1 e1 f1,U g1,S h1 i1 j1,U k1,U l1,B m1,S n1 o1 p1,U q1,S r1 s1 t1,S u1 v1 w1,B x1,S y1 z1 a2,S b2 c2 d2]]
abbrev SX(k:Int)(K:KT)(w9:LV)(d:Heap)(hk:Int)(ka:O)(hg:Int)(kl:Nat)(ac:Bool)(b:Nat)(g:Int)(h:O)(i j aa:Nat)(ui:LV)(nx:Int):Prop:=
 (¬k=0->K (U k) [w9] d)/\(¬¬k=0->(hk=4->∃m n,ka=some (D m n none)/\0<=hg/\hg<(kl:Int)/\∃(o p:Int)(q:Bool),(C d m (n+N hg*3)=some (U o)/\C d m (n+N hg*3+1)=some (U p)/\C d m (n+N hg*3+2)=some (B q)/\True)/\∀r:Nat,(¬o=1->K (U 7) [w9] d)/\(¬¬o=1->∃s,aR Tryz.prog (aI BinOp.neq 4 (Operand.tmp 54) (Operand.tmp 60) (B q) (B ac)) (B s)/\(s=true->K (U 7) [w9] d)/\(¬s=true->SW b hg p g h i j w9 d aa K)))/\(¬hk=4->YO Tryz.prog 176 ui [J b false 41 w9] d fun m n o=>∃p,m=U p/\∃(q:Int)(r:O)(s t:Nat)(u:O)(v w:Nat)(x:O)(y z:Nat)(a1:Int)(b1:O)(c1 d1:Nat)(e1 f1:Int)(g1:Bool)(h1:O)(i1 j1:Nat)(k1:Int)(l1:O)(m1 n1:Nat)(o1:O)(p1 q1:Nat)(r1:Bool)(s1:O)(t1 u1:Nat)(v1:O)(w1 x1:Nat),(fun w5:LV=>n=[w5]/\(X aa d o->(¬p=0->K (U p) [w5] o)/\(¬¬p=0->SW b hg nx g h i j w5 o aa K))) [U q,S r s t,S u v w,S x y z,U a1,S b1 c1 d1,U e1,U f1,B g1,S h1 i1 j1,U k1,S l1 m1 n1,S o1 p1 q1,B r1,S s1 t1 u1,S v1 w1 x1]))
theorem YF(b:Nat)(id aS:Int)(fa ra wa:O)(fl fc rl rc wl wc:Nat)(aU ab nx:Int)(ac:Bool)(la ka:O)(ll lc kl kc:Nat)(sa ta:O)(sl sc tl tc:Nat)(up:Bool)(na ma:O)(nl nc ml mc:Nat)(hk hg hn:Int)(fM:Bool)(ha:O)(hl hc:Nat)(aa:Nat)(H:Heap)(K:KT):
 (fV TryzMutsJ Tryz.f177 aa H [.loc 0 0,.v (A #[U hk,U hg,U hn,B fM,S ha hl hc])] [⟨b,false,41,[U id,S fa fl fc,S ra rl rc,S wa wl wc,U aS,S la ll lc,U aU,U ab,B ac,S ka kl kc,U nx,S sa sl sc,S ta tl tc,B up,S na nl nc,S ma ml mc]⟩] K)=(
 (fun ui:LV=>(fun tu:LV=>(fun w9:LV=>∀a:Nat,(Y 220 tu H fun c d=>∃e g h i j k,c=T #[B e,A #[U g,S h i j],U k]/\(X aa H d->∀l:Nat,SX k K w9 d hk ka hg kl ac b g h i j aa ui nx))/\∀c:Nat,Y 220 tu H fun d e=>∃g h i j k l,d=T #[B g,A #[U h,S i j k],U l]/\(X aa H e->SX l K w9 e hk ka hg kl ac b h i j k aa ui nx)) [U id,S fa fl fc,S ra rl rc,S wa wl wc,U aS,S la ll lc,U aU,U ab,B ac,S ka kl kc,U nx,S sa sl sc,S ta tl tc,B up,S na nl nc,S ma ml mc]) [A #[U id,S fa fl fc,S ra rl rc,S wa wl wc,U aS],A #[S la ll lc,U aU,U ab,B ac,S ka kl kc,U nx],U hg]) [P (some (D b 0 none)),A #[U 6,U hg,U nx,U 0,B false,U 0,S none 0 0]]):=by kernel_rfl
open Go Go.Proofs
theorem YG{sl:Nat}{up:Bool}:
 (fV TryzMutsJ Tryz.f189 aa H [.v (A #[S sa sl sc,S ta tl tc]),.v (B up)] [] K)=(
 ∀a:Nat,Y 64 [A #[S sa sl sc,S ta tl tc]] H fun b c=>∃d e g h i j k l m n,b=T #[A #[S d e g,S h i j],S k l m,U n]/\(X aa H c->∀o:Nat,(fun w1:LB=>∃p:Prop,((n=0->(up=true->w1=w1/\ak c c/\(p↔0<(tl:Int)))/\(up=false->w1=w1/\ak c c/\¬p))/\(¬n=0->w1=w1/\ak c c/\¬p))/\(p->K (T #[S none 0 0,U 4]) [] c)/\(¬p->K (T #[S k l m,U n]) [] c)) [J a false 35 [S sa sl sc,S ta tl tc],J o false 35 [S d e g,S h i j]])):=by kernel_rfl
theorem vx70{sl:Nat}{up:Bool}:
 (fV TryzMutsJ Tryz.f70 aa H [.v (A #[S sa sl sc,S ta tl tc]),.v (B up)] [] K)=(
 ∀a:Nat,Y 146 [A #[S sa sl sc,S ta tl tc]] H fun b c=>∃d,b=U d/\(X aa H c->(¬d=0->K (T #[S none 0 0,U d]) [] c)/\(¬¬d=0->(up=false->K (T #[S none 0 0,U 0]) [] c)/\(¬up=false->(0<(tl:Int)->K (T #[S none 0 0,U 4]) [] c)/\(¬0<(tl:Int)->Y 23 [A #[S sa sl sc,S ta tl tc]] c fun e g=>∃h i j k l m n o p,e=T #[A #[S h i j,S k l m],S n o p]/\(X aa c g->∀q:Nat,K (T #[S n o p,U 0]) [] g)))))):=by kernel_rfl
abbrev SY(i:Value)(aa:Nat)(c j:Heap)(w4:AV)(K:KT)(a:Nat)(w3:LV):Prop:=
 ∃k l m n o p q r s t u,i=T #[A #[S k l m,U n,U o,B p,S q r s,U t],U u]/\(X aa c j->∀v:Nat,(fun w1:LB=>∃w:Prop,((u=0->Y 36 [A #[S k l m,U n,U o,B p,S q r s,U t],A w4] j fun x y=>∃z,x=B z/\(X aa j y->w1=w1/\ak j y/\(w↔z=false)))/\(¬u=0->w1=w1/\ak j j/\¬w))/\(w->K (U 4) [] j)/\(¬w->K (U u) [] j)) [J a false 41 w3,J v false 32 [S k l m,U n,U o,B p,S q r s,U t]])
theorem YH{id:Int}{rl:Nat}{sl:Nat}{up:Bool}:
 (fV TryzMutsJ Tryz.f105 aa H [.v (A #[U id,S fa fl fc,S ra rl rc,S wa wl wc,U aS,S la ll lc,U aU,U ab,B ac,S ka kl kc,U nx,S sa sl sc,S ta tl tc,B up,S na nl nc,S ma ml mc])] [] K)=(
 (fun w5:AV=>(fun w4:AV=>(fun w3:LV=>∀a:Nat,Y 189 [A #[S sa sl sc,S ta tl tc],B up] H fun b c=>∃d e g h,b=T #[S d e g,U h]/\(X aa H c->(¬h=0->K (U h) [] c)/\(¬¬h=0->(up=false->Y 66 [A w5,S none 0 0] c fun i j=>SY i aa c j w4 K a w3)/\(¬up=false->Y 66 [A w5,S d e g] c fun i j=>SY i aa c j w4 K a w3)))) [U id,S fa fl fc,S ra rl rc,S wa wl wc,U aS,S la ll lc,U aU,U ab,B ac,S ka kl kc,U nx,S sa sl sc,S ta tl tc,B up,S na nl nc,S ma ml mc]) #[S la ll lc,U aU,U ab,B ac,S ka kl kc,U nx]) #[U id,S fa fl fc,S ra rl rc,S wa wl wc,U aS]):=by kernel_rfl
abbrev SZ(j:Value)(aa:Nat)(d k:Heap)(w5:AV)(K:KT)(a:Nat)(w3:LV)(b:Nat)(w4:LV):Prop:=
 ∃l m n o p q r s t u v w,j=T #[A #[S l m n,U o,U p,B q,U r,S s t u,B v],U w]/\(X aa d k->∀x:Nat,(fun w1:LB=>∃y:Prop,((w=0->Y 38 [A #[S l m n,U o,U p,B q,U r,S s t u,B v],A w5] k fun z a1=>∃b1,z=B b1/\(X aa k a1->w1=w1/\ak k a1/\(y↔b1=false)))/\(¬w=0->w1=w1/\ak k k/\¬y))/\(y->K (U 4) [] k)/\(¬y->K (U w) [] k)) [J a false 41 w3,J b false 58 w4,J x false 46 [S l m n,U o,U p,B q,U r,S s t u,B v]])
theorem YI{id:Int}{rl:Nat}{sl:Nat}{up:Bool}{Qu gid:Int}{going aP:Bool}{xa ga:O}{xl xc gl gc:Nat}{va:O}{ul vl vc:Nat}{Nj:Bool}:
 (fV TryzMutsJ Tryz.f106 aa H [.v (A #[U id,S fa fl fc,S ra rl rc,S wa wl wc,U aS,S la ll lc,U aU,U ab,B ac,S ka kl kc,U nx,S sa sl sc,S ta tl tc,B up,S na nl nc,S ma ml mc]),.v (A #[S xa xl xc,U Qu,U tr,B going,U gid,S ga gl gc,B aP,S ua ul uc,S va vl vc,B Nj])] [] K)=(
 (fun w5:AV=>(fun w4:LV=>(fun w3:LV=>∀a b:Nat,Y 189 [A #[S ua ul uc,S va vl vc],B Nj] H fun c d=>∃e g h i,c=T #[S e g h,U i]/\(X aa H d->(¬i=0->K (U i) [] d)/\(¬¬i=0->(Nj=false->Y 67 [A #[U id,S fa fl fc],S none 0 0] d fun j k=>SZ j aa d k w5 K a w3 b w4)/\(¬Nj=false->Y 67 [A #[U id,S fa fl fc],S e g h] d fun j k=>SZ j aa d k w5 K a w3 b w4)))) [U id,S fa fl fc,S ra rl rc,S wa wl wc,U aS,S la ll lc,U aU,U ab,B ac,S ka kl kc,U nx,S sa sl sc,S ta tl tc,B up,S na nl nc,S ma ml mc]) [S xa xl xc,U Qu,U tr,B going,U gid,S ga gl gc,B aP,S ua ul uc,S va vl vc,B Nj]) #[S xa xl xc,U Qu,U tr,B going,U gid,S ga gl gc,B aP]):=by kernel_rfl
abbrev S0(r1:Heap)(s1 t1:Nat)(q1:Int)(u1:O)(v1 w1:Nat)(x1 y1:Int)(z1:Bool)(a2:Int)(b2:O)(c2 d2:Nat)(e2:Bool)(f2:O)(g2 h2:Nat)(i2:O)(j2 k2:Nat)(l2:Bool):Prop:=
 C r1 s1 (t1+N q1*10)=some (S u1 v1 w1)/\C r1 s1 (t1+N q1*10+1)=some (U x1)/\C r1 s1 (t1+N q1*10+2)=some (U y1)/\C r1 s1 (t1+N q1*10+3)=some (B z1)/\C r1 s1 (t1+N q1*10+4)=some (U a2)/\C r1 s1 (t1+N q1*10+5)=some (S b2 c2 d2)/\C r1 s1 (t1+N q1*10+6)=some (B e2)/\C r1 s1 (t1+N q1*10+7)=some (S f2 g2 h2)/\C r1 s1 (t1+N q1*10+8)=some (S i2 j2 k2)/\C r1 s1 (t1+N q1*10+9)=some (B l2)/\True
abbrev KR(b:LI)(e x:Int)(v:Heap)(d:LM)(g:Int):Prop:=
 b [U e,U x] v/\d [U e,U x]<d [U e,U g]
theorem vx31{id:Int}{rl:Nat}{sl:Nat}{up:Bool}:
 (fV TryzMutsJ Tryz.f31 aa H [.v (A #[U id,S fa fl fc,S ra rl rc,S wa wl wc,U aS,S la ll lc,U aU,U ab,B ac,S ka kl kc,U nx,S sa sl sc,S ta tl tc,B up,S na nl nc,S ma ml mc])] [] K)=(
 (fun w3:LV=>(fun w2:LL=>∀a:Nat,Y 101 w3 H fun b c=>∃d,b=U d/\(X aa H c->(¬d=0->K (U d) [] c)/\(¬¬d=0->Y 88 w3 c fun e g=>∃h,e=U h/\(X aa c g->(¬(nl:Int)=h->K (U 4) [] g)/\(¬¬(nl:Int)=h->Y 102 [S ma ml mc] g fun i j=>∃k,i=U k/\(X aa g j->(¬k=0->K (U k) [] j)/\(¬¬k=0->true=true/\∀l:Heap,X 0 j l->l a=some (ay 41 [U id,S fa fl fc,S ra rl rc,S wa wl wc,U aS,S la ll lc,U aU,U ab,B ac,S ka kl kc,U nx,S sa sl sc,S ta tl tc,B up,S na nl nc,S ma ml mc])/\True->Y 103 [S ma ml mc,Value.func (Fn.func 104) #[] #[P (some (D a 0 none))]] l fun m n=>∃o,m=B o/\∀p,X aa j p->(∀(q:Nat)(r:KB),n q=some r->(∀s:Bx,s∈ [J a false 41 [U id,S fa fl fc,S ra rl rc,S wa wl wc,U aS,S la ll lc,U aU,U ab,B ac,S ka kl kc,U nx,S sa sl sc,S ta tl tc,B up,S na nl nc,S ma ml mc]]->q≠Bx.b s)->p q=some r)->(o=true->K (U 5) [] p)/\(o=false->Y 105 [A #[U id,S fa fl fc,S ra rl rc,S wa wl wc,U aS,S la ll lc,U aU,U ab,B ac,S ka kl kc,U nx,S sa sl sc,S ta tl tc,B up,S na nl nc,S ma ml mc]] p fun q r=>∃s,q=U s/\(X aa p r->(¬s=0->K (U s) [] r)/\(¬¬s=0->∃(t:LI)(u:LM),t [U 0,U 0] r/\∀(v w:Int)(x:Heap),X aa H x->t [U v,U w] x->(w<(nl:Int)->∃y z,na=some (D y z none)/\0<=w/\w<(nl:Int)/\∃(a1:O)(b1 c1:Nat)(d1 e1:Int)(f1:Bool)(g1:Int)(h1:O)(i1 j1:Nat)(k1:Bool)(l1:O)(m1 n1:Nat)(o1:O)(p1 q1:Nat)(r1:Bool),(S0 x y z w a1 b1 c1 d1 e1 f1 g1 h1 i1 j1 k1 l1 m1 n1 o1 p1 q1 r1)/\∀s1:Nat,Y 106 [A #[U id,S fa fl fc,S ra rl rc,S wa wl wc,U aS,S la ll lc,U aU,U ab,B ac,S ka kl kc,U nx,S sa sl sc,S ta tl tc,B up,S na nl nc,S ma ml mc],A #[S a1 b1 c1,U d1,U e1,B f1,U g1,S h1 i1 j1,B k1,S l1 m1 n1,S o1 p1 q1,B r1]] x fun t1 u1=>∃v1,t1=U v1/\(X aa x u1->(¬v1=0->K (U v1) [] u1)/\(¬¬v1=0->∀w1:Int,w1=W Z (w+1)->w2=w2/\KR t v w1 u1 u w)))/\(¬w<(nl:Int)->K (U 0) [] x))))))))))) [[U id,S fa fl fc,S ra rl rc,S wa wl wc,I
 Z aS,S la ll lc,U aU,U ab,B ac,S ka kl kc,U nx,S sa sl sc,S ta tl tc,B up,S na nl nc,S ma ml mc]]) [A #[U id,S fa fl fc,S ra rl rc,S wa wl wc,U aS]]):=by kernel_rfl
abbrev S1(h:Heap)(i j:Nat)(g k m:Int)(n o:Bool)(q:Int)(r:O)(s t:Nat):Prop:=
 C h i (j+N g*6)=some (U k)/\C h i (j+N g*6+1)=some (U m)/\C h i (j+N g*6+2)=some (B n)/\C h i (j+N g*6+3)=some (B o)/\C h i (j+N g*6+4)=some (U q)/\C h i (j+N g*6+5)=some (S r s t)/\True
theorem vx19{id:Int}{rl:Nat}{sl:Nat}{up:Bool}:
 (fV TryzMutsJ Tryz.f19 aa H [.v (A #[U id,S fa fl fc,S ra rl rc,S wa wl wc,U aS,S la ll lc,U aU,U ab,B ac,S ka kl kc,U nx,S sa sl sc,S ta tl tc,B up,S na nl nc,S ma ml mc])] [] K)=(
 (fun w6:AV=>(fun w5:LV=>∀a:Nat,Y 28 [A w6] H fun b c=>∃d,b=U d/\(X aa H c->(¬d=0->K (U d) [] c)/\(¬¬d=0->Y 68 [A w6] c fun e g=>∃h,e=U h/\(X aa c g->(¬(nl:Int)=h->K (U 4) [] g)/\(¬¬(nl:Int)=h->Y 69 [S ma ml mc] g fun i j=>∃k,i=U k/\(X aa g j->(¬k=0->K (U k) [] j)/\(¬¬k=0->∃(l:LI)(m:LM),l [U 0,U 0] j/\∀(n o:Int)(p:Heap),X aa H p->l [U n,U o] p->(o<(ml:Int)->∃q r,ma=some (D q r none)/\0<=o/\o<(ml:Int)/\∃(s t:Int)(u v:Bool)(w:Int)(x:O)(y z:Nat),(S1 p q r o s t u v w x y z)/\∀a1:Nat,((nl:Int)<=s->K (U 5) [] p)/\(¬(nl:Int)<=s->∀b1:Int,b1=W Z (o+1)->[w5]=[w5]/\KR l n b1 p m o))/\(¬o<(ml:Int)->Y 70 [A #[S sa sl sc,S ta tl tc],B up] p fun q r=>∃s t u v,q=T #[S s t u,U v]/\(X aa p r->(¬v=0->K (U v) [] r)/\(¬¬v=0->Y 24 [A w6,S s t u] r fun w x=>∃y z a1 b1 c1 d1 e1 f1 g1 h1,(fun w4:LL=>∃i1,w=T #[A #[S y z a1,U b1,U c1,B d1,S e1 f1 g1,U h1],U i1]/\(X aa r x->∀j1:Nat,(¬i1=0->K (U i1) [] x)/\(¬¬i1=0->Y 21 [A #[S y z a1,U b1,U c1,B d1,S e1 f1 g1,U h1],A #[S la ll lc,U aU,U ab,B ac,S ka kl kc,U nx]] x fun k1 l1=>∃m1,k1=B m1/\(X aa x l1->(m1=false->K (U 4) [] l1)/\(¬m1=false->∃(n1:LI)(o1:LM),n1 [U n,U 0] l1/\∀(p1 q1:Int)(r1:Heap),X aa H r1->n1 [U p1,U q1] r1->(q1<(nl:Int)->∃s1 t1,na=some (D s1 t1 none)/\0<=q1/\q1<(nl:Int)/\∃(u1:O)(v1 w1:Nat)(x1 y1:Int)(z1:Bool)(a2:Int)(b2:O)(c2 d2:Nat)(e2:Bool)(f2:O)(g2 h2:Nat)(i2:O)(j2 k2:Nat)(l2:Bool),(S0 r1 s1 t1 q1 u1 v1 w1 x1 y1 z1 a2 b2 c2 d2 e2 f2 g2 h2 i2 j2 k2 l2)/\∀m2:Nat,Y 70 [A #[S f2 g2 h2,S i2 j2 k2],B l2] r1 fun n2 o2=>∃p2 q2 r2 s2,n2=T #[S p2 q2 r2,U s2]/\(X aa r1 o2->(¬s2=0->K (U s2) [] o2)/\(¬¬s2=0->Y 25 [A #[U id,S fa fl fc],S p2 q2 r2] o2 fun t2 u2=>∃(v2:O)(w2 x2:Nat)(y2 z2:Int)(a3:Bool)(b3:Int)(c3:O)(d3 e3:Nat)(f3:Bool),(fun w3:AV=>∃g3,t2=T #[A w3,U g3]/\(X aa o2 u2->∀h3:Nat,(¬g3=0->K (U g3)
 [] u2)/\(¬¬g3=0->Y 22 [A w3,A #[S u1 v1 w1,U x1,U y1,B z1,U a2,S b2 c2 d2,B e2]] u2 fun i3 j3=>∃k3,i3=B k3/\(X aa u2 j3->(k3=false->K (U 4) [] j3)/\(¬k3=false->∀l3:Int,l3=W Z (q1+1)->w4=w4/\KR n1 p1 l3 j3 o1 q1))))) #[S v2 w2 x2,U y2,U z2,B a3,U b3,S c3 d3 e3,B f3])))/\(¬q1<(nl:Int)->K (U 0) [] r1)))))) [w5,[S y z a1,U b1,U c1,B d1,S e1 f1 g1,U h1]])))))))))) [U id,S fa fl fc,S ra rl rc,S wa wl wc,U aS,S la ll lc,U aU,U ab,B ac,S ka kl kc,U nx,S sa sl sc,S ta tl tc,B up,S na nl nc,S ma ml mc]) #[U id,S fa fl fc,S ra rl rc,S wa wl wc,U aS]):=by kernel_rfl
theorem YJ{c p:Nat}:
 (fV TryzMutsJ Tryz.f188 aa H [.v (S a l c),.v (.func (.func 104) #[] #[.pointer (some ⟨p,0,none⟩)])] [] K)=(
 ∃(b:LI)(d:LM),b [U 0,U 0] H/\∀(e g:Int)(h:Heap),X aa H h->b [U e,U g] h->(g<(l:Int)->∃i j,a=some (D i j none)/\0<=g/\g<(l:Int)/\∃(k m:Int)(n o:Bool)(q:Int)(r:O)(s t:Nat),(S1 h i j g k m n o q r s t)/\Y 104 [A #[U k,U m,B n,B o,U q,S r s t],P (some (D p 0 none))] h fun u v=>∃w,u=B w/\(X aa h v->(w=true->K (U g) [] v)/\(w=false->∀x:Int,x=W Z (g+1)->KR b e x v d g)))/\(¬g<(l:Int)->K (U (-1)) [] h)):=by kernel_rfl
theorem YK(a:O)(l c p:Nat)(aa:Nat)(H:Heap)(K:KT):
 (fV TryzMutsJ Tryz.f103 aa H [.v (S a l c),.v (.func (.func 104) #[] #[.pointer (some ⟨p,0,none⟩)])] [] K)=(
 Y 188 [S a l c,Value.func (Fn.func 104) #[] #[P (some (D p 0 none))]] H fun b d=>∃e,b=U e/\(X aa H d->K (B (decide (0<=e))) [] d)):=by kernel_rfl
theorem YL{mg mt U1:Int}{mr U2:Bool}{pa:O}{pl pc:Nat}{p:Nat}:
 (fV TryzMutsJ Tryz.f104 aa H [.v (A #[U mg,U mt,B mr,B U2,U U1,S pa pl pc]),.v (.pointer (some ⟨p,0,none⟩))] [] K)=(
 ∀a:Nat,∃b c d,C H p 14=some (S b c d)/\K (B (decide ((c:Int)<=mg))) [] H):=by kernel_rfl
open Go
structure Kn where
 st:Int
 au:Int
 ac:Bool
 deriving DecidableEq
structure dM where
 first:kU
 rules:List km
 bf:List (List Int)
 aS:Int
structure jh where
 bJ:List kU
 aU:Int
 ab:Int
 ac:Bool
 bX:List Kn
 nx:Int
 deriving DecidableEq
def ir:Int->List (List Int)->Int
 |n,[]=>n
 |n,w::q=>if 6<n+min 7 (w.length:Int) then n+min 7 (w.length:Int) else ir (n+min 7 (w.length:Int)) q
def bo(ws:List (List Int)):Int:=ir 0 ws
def gW(ws:List (List Int)):Int:=if 6<ws.flatten.length then 7 else ws.flatten.length
theorem qz:∀(ws:List (List Int))(n:Int),0<=n->n<=6->(n+ws.flatten.length<=6/\ir n ws=n+ws.flatten.length)∨(6<n+ws.flatten.length/\6<ir n ws)
 | [],n,h0,h6=> .inl (by simp[ir];omega)
 |w::q,n,h0,h6=>by
  unfold ir;simp only[zW,zq];split
  ·exact .inr (by omega)
  ·rename_i h;have hm:min 7 (w.length:Int)=w.length:=by omega
   rw[hm] at h⊢;rcases qz q (n+w.length) (by omega) (by omega) with h1|h1
   ·exact .inl (by omega)
   ·exact .inr (by omega)
theorem tG(ws:List (List Int)):(ws.flatten.length<=6/\bo ws=ws.flatten.length/\gW ws=ws.flatten.length)∨(6<ws.flatten.length/\6<bo ws/\gW ws=7):=by
 rcases qz ws 0 (by omega) (by omega) with h|h
 ·exact .inl ⟨by omega,by unfold bo;omega,by unfold gW;rw[nI (by omega)]⟩
 ·exact .inr ⟨by omega,by unfold bo;omega,by unfold gW;rw[pI (by omega)]⟩
theorem EG(ws:List (List Int)):dq ws (gW ws)=dq ws (bo ws):=by
 rcases tG ws with⟨h,h1,h2⟩|⟨h,h1,h2⟩
 ·rw[h1,h2]
 ·unfold dq;rw[nI (by omega),pI (by omega),nI (by omega),pI (by omega)]
theorem ic{ws:List (List Int)}(h:dq ws (bo ws)=0):gW ws=bo ws/\1<=bo ws/\bo ws<=6:=by
 have hz:=fk h;rcases tG ws with⟨h,h1,h2⟩|⟨h,h1,h2⟩
 ·exact⟨by omega,hz.1,hz.2.1⟩
 ·omega
def de(c:dM):Int:=
 if dp c.first≠0 then dp c.first else
 if c.first.id≠1∨c.aS<0∨3<c.aS then 3 else
 if cd c.first.ap c.rules≠0 then cd c.first.ap c.rules else
 if 0<=broken c.first.ap c.rules then 8 else dq c.bf (bo c.bf)
def gv(rules:List km):Int->List kU->Int
 |_,[]=>0
 |i,r::q=>if cd r.ap rules≠0 then cd r.ap rules else if 0<=broken r.ap rules then 8 else if r.id≠i+1 then 4 else gv rules (i+1) q
def mG(nx:Int)(a:Kn):Prop:=a.st<0∨3<a.st∨a.au<0∨nx<=a.au
instance (nx:Int)(a:Kn):Decidable (mG nx a):=by unfold mG;infer_instance
def nO(ab:Int)(ac:Bool)(a:Kn):Prop:=(a.st≠0/\(ab=0∨a.au=0))∨(a.ac=true/\(ac=false∨a.st=0))
instance (ab:Int)(ac:Bool)(a:Kn):Decidable (nO ab ac a):=by unfold nO;infer_instance
def lg(ab nx:Int)(ac:Bool):List Kn->Int
 | []=>0
 |a::q=>if mG nx a then 3 else if nO ab ac a then 4 else lg ab nx ac q
def dP(l:jh):Prop:=l.aU<1∨(l.bJ.length:Int)<l.aU∨l.ab<0∨(l.bJ.length:Int)<l.ab∨l.nx<1∨201<l.nx
instance (l:jh):Decidable (dP l):=by unfold dP;infer_instance
def jH(c:dM)(l:jh):Prop:=l.ab=l.aU∨(l.ab=0/\l.ac=true)∨(l.bX.length:Int)≠bo c.bf∨l.bJ[0]?≠some c.first
instance (c:dM)(l:jh):Decidable (jH c l):=by unfold jH;infer_instance
def db(c:dM)(l:jh):Int:=
 if de c≠0 then de c else
 if l.bJ.length=0∨6<l.bJ.length then 2 else
 if gv c.rules 0 l.bJ≠0 then gv c.rules 0 l.bJ else
 if dP l then 3 else if jH c l then 4 else lg l.ab l.nx l.ac l.bX
def vi(l:List Kn):List Bool:=l.map fun a=>decide (a.st=2∨a.st=3)
def uy(k:Int)(l:List Kn):Int:=(l.filter fun a=>decide (a.st=k)).length
def vj:jh:=⟨[],0,0,false,[],0⟩
def dC(c:dM):jh:=⟨[c.first],1,0,false,zk (bo c.bf).toNat ⟨0,0,false⟩,1⟩
def jv(c:dM)(l:jh)(k:Int):Bool:=match l.bX[k.toNat]? with
 |none=>false
 |some a=>if l.ac=true then decide (a.st≠0/\a.ac=false) else decide (dq c.bf l.bX.length=0/\a.st=0/\lB c.bf k=kF c.bf (vi l.bX)/\uy 3 l.bX<=c.aS)
def busy(a:Kn):Prop:=a.st=1∨(a.st≠0/\a.ac=false)
instance (a:Kn):Decidable (busy a):=by unfold busy;infer_instance
def kN(c:dM)(l:jh):Bool:=if l.ac=false then decide (uy 3 l.bX<=c.aS/\false∉vi l.bX) else decide (∀a∈l.bX,¬busy a)
def uz(l:jh):Int:=if l.ac=true then l.aU else l.ab
def bT(c:dM)(l:jh)(r:bD):Int:=
 if r.ae=4 then(if l.bJ.length=6 then 2 else if r.cB.id≠l.bJ.length+1 then 7 else if cd r.cB.ap c.rules≠0 then cd r.cB.ap c.rules else if 0<=broken r.cB.ap c.rules then 8 else 0) else
 if r.ae=5 then(if l.ab≠0 then 7 else if(l.bJ.length:Int)<r.cj then 5 else if r.cj=l.aU then 6 else 0) else
 if r.ae=6∨r.ae=7 then(if(l.bX.length:Int)<=r.ah then 5 else
  if r.ae=7 then(match l.bX[r.ah.toNat]? with|none=>5|some a=>if a.st≠1∨r.au≠a.au then 7 else 0) else
  (if l.ab=0∨r.au≠l.nx∨jv c l r.ah=false then 7 else 0)) else
 if r.ae=8 then(if l.ab=0∨l.ac=true then 7 else 0) else
 if r.ae=9 then(if l.ab=0∨kN c l=false then 7 else 0) else 4
def bU(c:dM)(l:jh)(r:bD):Int:=
 if db c l≠0 then db c l else if bC r≠0 then bC r else bT c l r
def Jo(r:bD)(a:Kn):Kn:=⟨if r.aP=true then 2 else 3,a.au,a.ac⟩
def bM(l:jh)(r:bD):jh:=
 if r.ae=4 then{ l with bJ:=l.bJ++[r.cB] } else
 if r.ae=5 then{ l with ab:=r.cj } else
 if r.ae=6 then{ l with bX:=l.bX.set r.ah.toNat ⟨1,r.au,l.ac⟩,nx:=l.nx+1 } else
 if r.ae=7 then{ l with bX:=(match l.bX[r.ah.toNat]? with|none=>l.bX|some a=>l.bX.set r.ah.toNat (Jo r a)) } else
 if r.ae=8 then{ l with ac:=true } else
 { l with aU:=(if l.ac=false then l.ab else l.aU),ab:=0,ac:=false,bX:=l.bX.map fun a=>⟨0,a.au,false⟩ }
def iG(c:dM)(l:jh)(r:bD):jh:=if bU c l r=0 then bM l r else vj
def eP(c:dM):jh->List bD->Except Int jh
 |l,[]=> .ok l
 |l,r::q=>if bU c l r=0 then eP c (bM l r) q else .error (bU c l r)
def aB(c:dM)(rs:List bD):Except Int jh:=if de c≠0 then .error (de c) else if 200<rs.length then .error 2 else eP c (dC c) rs
def yC:Except Int jh->jh
 | .ok l=>l
 | .error _=>vj
theorem dv{c:dM}(h:de c=0):dp c.first=0/\c.first.id=1/\0<=c.aS/\c.aS<=3/\cd c.first.ap c.rules=0/\broken c.first.ap c.rules<0/\dq c.bf (bo c.bf)=0:=by
 unfold de at h;split at h
 ·omega
 ·split at h
  ·omega
  ·split at h
   ·omega
   ·split at h
    ·omega
    ·exact⟨by omega,by omega,by omega,by omega,by omega,by omega,h⟩
theorem iu{rules:List km} :∀ {l:List kU} {i:Int},gv rules i l=0↔ ∀(j:Nat)(r:kU),l[j]?=some r->cd r.ap rules=0/\broken r.ap rules<0/\r.id=i+j+1
 | [],i=>by simp[gv]
 |x::q,i=>by
  unfold gv;constructor
  ·intro h;split at h
   ·omega
   ·split at h
    ·omega
    ·split at h
     ·omega
     ·intro j r hj
      cases j with
      |zero=>simp at hj;subst hj;exact⟨by omega,by omega,by omega⟩
      |succ j=>
       have:=iu.1 h j r (by simpa using hj);exact⟨this.1,this.2.1,by rw[this.2.2];push_cast;omega⟩
  ·intro h;have h0:=h 0 x rfl;rw[nI (by omega),nI (by omega),nI (by omega)]
   exact iu.2 fun j r hj=>by
    have:=h (j+1) r (by simpa using hj);exact⟨this.1,this.2.1,by rw[this.2.2];push_cast;omega⟩
theorem fK{ab nx:Int}{ac:Bool} :∀ {l:List Kn},lg ab nx ac l=0↔ ∀a∈l,¬mG nx a/\¬nO ab ac a
 | []=>by simp[lg]
 |x::q=>by
  unfold lg;constructor
  ·intro h;split at h
   ·omega
   ·split at h
    ·omega
    ·intro a ha;rcases zm.1 ha with rfl|ha
     ·exact⟨by assumption,by assumption⟩
     ·exact fK.1 h a ha
  ·intro h;have h0:=h x zr;rw[nI h0.1,nI h0.2];exact fK.2 fun a ha=>h a (zj _ ha)
theorem dh{c:dM}{l:jh} :db c l=0↔de c=0/\1<=l.bJ.length/\l.bJ.length<=6/\gv c.rules 0 l.bJ=0/\¬dP l/\¬jH c l/\lg l.ab l.nx l.ac l.bX=0:=by
 unfold db;constructor
 ·intro h;split at h
  ·omega
  ·split at h
   ·omega
   ·split at h
    ·omega
    ·split at h
     ·omega
     ·split at h
      ·omega
      ·exact⟨by omega,by omega,by omega,by omega,by assumption,by assumption,h⟩
 ·rintro⟨h1,h2,h3,h4,h5,h6,h7⟩;rw[nI (by omega),nI (by omega),nI (by omega),nI h5,nI h6,h7]
theorem BN{rules:List km}{l:List kU}(h:gv rules i l=0):∀r∈l,Lk r.ap/\r.ap.length<=12:=fun r hr=>by
 obtain⟨j,hj⟩:=List.getElem?_of_mem hr;exact(iV.1 (iu.1 h j r hj).1).1
def Rg(n:Int):Prop:= -9223372036854775808<=n/\n<=9223372036854775807
def Ai:jq kU:=fun H r x=>∃a n c,r=[i64 x.id,.slice a n c]/\aL H a n x.ap/\Rg x.id
theorem Ai.mono:Ai.oW:=fun _ _ _ _ e ⟨a,n,c,h,hp,hg⟩=>⟨a,n,c,h,hp.ext' e,hg⟩
theorem Ai.len{r:List Value}{m:kU}(h:Ai H r m):r.length=2:=by obtain⟨a,n,c,rfl,_⟩:=h;rfl
theorem Ai.one{r:List Value}{m:kU}(h:Ai H r m):aM r=true:=by obtain⟨a,n,c,rfl,_⟩:=h;rfl
abbrev wA(H:Heap)(a:O)(n:Nat)(l:List kU):Prop:=Sl Ai 2 H a n l
theorem wA.ext'{l:List kU}(h:wA H a n l)(e:aH H H'):wA H' a n l:=Sl.ext Ai.mono h e
def gP(a:Kn):List Value:=[i64 a.st,i64 a.au,.bool a.ac]
theorem j9(a:Kn):(gP a).length=3:=rfl
theorem xA(a:Kn):aM (gP a)=true:=rfl
abbrev ON(H:Heap)(a:O)(n:Nat)(l:List Kn):Prop:=Sl (gT gP) 3 H a n l
theorem ON.ext'{l:List Kn}(h:ON H a n l)(e:aH H H'):ON H' a n l:=Sl.ext gT.mono h e
theorem wA.rg{l:List kU}(h:wA H a n l){j:Nat}{m:kU}(hj:l[j]?=some m):Rg m.id:=by
 have hl:=h.len;have FT:=(zw.1 hj).1;obtain⟨b,o,r,x,ha,hx,⟨a',n',c',rfl,hp,hg⟩,hc⟩:=h.get (k:=(j:Int)) (by omega) (by omega);rw[zz,hj] at hx;obtain rfl:=zy hx;exact hg
theorem Rg.pred{n:Int}(h:Rg n)(h0:0<=i)(h1:i<9223372036854775807):IntKind.wrap .i64 (n-1)=i↔n=i+1:=by
 by_cases hn:n= -9223372036854775808
 ·subst hn;rw[show IntKind.wrap .i64 (-9223372036854775808-1)=9223372036854775807 from by decide];omega
 ·rw[aj (by unfold Rg at h;omega) (by unfold Rg at h;omega)];omega
theorem Sl.rl{xs:List kU}(h:wA H a n xs)(e:aH H H')(h0:0<=k)(h1:k<n){F:Int->O->Nat->Nat->Prop}
  (hF:∀m a n c,xs[k.toNat]?=some m->aL H a n m.ap->F m.id a n c):
  ∃(b o:Nat),a=some ⟨b,o,none⟩/\0<=k/\k<n/\∃(z:Int)(a':O)(n' c':Nat),(H'.cell b (o+k.toNat*2)=some (.int .i64 z)/\H'.cell b (o+k.toNat*2+1)=some (.slice a' n' c')/\True)/\F z a' n' c':=by
 obtain⟨b,o,r,x,ha,hx,⟨a',n',c',rfl,hp,_⟩,hc⟩:=h.get h0 h1;exact⟨b,o,ha,h0,h1,_,_,_,_,⟨Heap.aJ e (hc 0 _ rfl),Heap.aJ e (hc 1 _ rfl),trivial⟩,hF x a' n' c' hx hp⟩
theorem Sl.kn{xs:List Kn}(h:ON H a n xs)(e:aH H H')(h0:0<=k)(h1:k<n){F:Int->Int->Bool->Prop}(hF:∀m,xs[k.toNat]?=some m->F m.st m.au m.ac):
  ∃(b o:Nat),a=some ⟨b,o,none⟩/\0<=k/\k<n/\∃(x y:Int)(q:Bool),(H'.cell b (o+k.toNat*3)=some (.int .i64 x)/\H'.cell b (o+k.toNat*3+1)=some (.int .i64 y)/\H'.cell b (o+k.toNat*3+2)=some (.bool q)/\True)/\F x y q:=by
 obtain⟨b,o,r,x,ha,hx,rfl,hc⟩:=h.get h0 h1;exact⟨b,o,ha,h0,h1,_,_,_,⟨Heap.aJ e (hc 0 _ rfl),Heap.aJ e (hc 1 _ rfl),Heap.aJ e (hc 2 _ rfl),trivial⟩,hF x hx⟩
abbrev eN(c:dM)(fa:O)(fl fc:Nat)(ra:O)(rl rc:Nat)(wa:O)(wl wc:Nat):Value:= .agg #[.int .i64 c.first.id,.slice fa fl fc,.slice ra rl rc,.slice wa wl wc,.int .i64 c.aS]
abbrev dd(l:jh)(la:O)(ll lc:Nat)(ka:O)(kl kc:Nat):Value:= .agg #[.slice la ll lc,.int .i64 l.aU,.int .i64 l.ab,.bool l.ac,.slice ka kl kc,.int .i64 l.nx]
structure fB(H:Heap)(c:dM)(fa:O)(fl:Nat)(ra:O)(rl:Nat)(wa:O)(wl:Nat):Prop where
 pins:aL H fa fl c.first.ap
 rules:ob H ra rl c.rules
 bf:oc H wa wl c.bf
theorem fB.ext{c:dM}{rl:Nat}(h:fB H c fa fl ra rl wa wl)(e:aH H H'):fB H' c fa fl ra rl wa wl:=⟨h.pins.ext' e,Sl.ext gT.mono h.rules e,h.bf.ext' e⟩
structure cQ(H:Heap)(l:jh)(la:O)(ll:Nat)(ka:O)(kl:Nat):Prop where
 bJ:wA H la ll l.bJ
 bX:ON H ka kl l.bX
theorem cQ.ext{l:jh}(h:cQ H l la ll ka kl)(e:aH H H'):cQ H' l la ll ka kl:=⟨h.bJ.ext' e,h.bX.ext' e⟩
theorem bS.ji{P:Program}{x:jh}(h:bS P f args H fun v H'=>∃la ll lc ka kl kc,v= .tuple #[dd x la ll lc ka kl kc,i64 e]/\cQ H' x la ll ka kl)
  {G:O->Nat->Nat->Int->Int->Bool->O->Nat->Nat->Int->Int->Heap->Prop} (hG:∀la ll lc ka kl kc H',aH H H'->Next aa H H'->cQ H' x la ll ka kl->G la ll lc x.aU x.ab x.ac ka kl kc x.nx e H'):
  bS P f args H fun v H'=>∃(la:O)(ll lc:Nat)(n2 n3:Int)(b:Bool)(ka:O)(kl kc:Nat)(n6 n7:Int),v= .tuple #[.agg #[.slice la ll lc,.int .i64 n2,.int .i64 n3,.bool b,.slice ka kl kc,.int .i64 n6],.int .i64 n7]/\(Next aa H H'->G la ll lc n2 n3 b ka kl kc n6 n7 H'):=
 h.mono fun v H' ex hv=>by
  obtain⟨la,ll,lc,ka,kl,kc,h1,h2⟩:=hv;exact⟨la,ll,lc,_,_,_,ka,kl,kc,_,e,h1,fun hN=>hG la ll lc ka kl kc H' ex hN h2⟩
theorem bS.ldr1{P:Program}{x:jh}(h:bS P f args H fun v H'=>∃la ll lc ka kl kc,v=dd x la ll lc ka kl kc/\cQ H' x la ll ka kl)
  {G:O->Nat->Nat->Int->Int->Bool->O->Nat->Nat->Int->Heap->Prop} (hG:∀la ll lc ka kl kc H',aH H H'->Next aa H H'->cQ H' x la ll ka kl->G la ll lc x.aU x.ab x.ac ka kl kc x.nx H'):
  bS P f args H fun v H'=>∃(la:O)(ll lc:Nat)(n2 n3:Int)(b:Bool)(ka:O)(kl kc:Nat)(n6:Int),v= .agg #[.slice la ll lc,.int .i64 n2,.int .i64 n3,.bool b,.slice ka kl kc,.int .i64 n6]/\(Next aa H H'->G la ll lc n2 n3 b ka kl kc n6 H'):=
 h.mono fun v H' ex hv=>by
  obtain⟨la,ll,lc,ka,kl,kc,h1,h2⟩:=hv;exact⟨la,ll,lc,_,_,_,ka,kl,kc,_,h1,fun hN=>hG la ll lc ka kl kc H' ex hN h2⟩
end Go.Vg
