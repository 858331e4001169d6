/- What is proved here: a part of the proof of laws of this seat: what a contract is, how it comes of a condition, contracts of the functions that are reached, the plain laws. -/
import Derived.Test.YtgaegoefbekndaaGreatDoorWB0
import Derived.Test.YtgaegoefbekndaaGreatDoorChecked
import Derived.Lib.AppendStr
import Derived.Lib.ConvBytes
import Derived.IntWalk
import Derived.Below
import Derived.Shelf.Lays
import Derived.Shelf.LaysC
import Derived.Shelf.LaysM
import Derived.Lib.AtoiAllCases
import Derived.Lib.ItoaLen
import Derived.Lib.Join
import Derived.Lib.SplitLaws
import Derived.Lib.AppendIntMem
import Derived.Lib.LaidTab
import Derived.Lib.ParseIntBTie
import Derived.Shelf.Small.Wraps
import Derived.Shelf.Strconv.AtoiAll
import Derived.Shelf.Strconv.Itoa4
import Derived.Shelf.Strconv.ParseIntPublic10
import Derived.Shelf.Strings.Cut
import Derived.Shelf.Strings.OnBuilder
import Derived.Shelf.Strings.Prefix
import Derived.Shelf.Strings.Split
set_option linter.unusedSimpArgs false
set_option linter.unusedVariables false
set_option maxRecDepth 100000
open Classical renaming propDecidable → zh
open Array renaming ext' → yu,getElem?_append_left → yN,getElem?_setIfInBounds_ne → yX,any_eq_true' → yV,getElem?_eq_some_iff → zK,replicate → yT,getElem?_eq_getElem → yw
open Bool renaming and_eq_true → zT
open Option renaming map_some → yy,bind_some → yj
open Nat renaming le_refl → ze,zero_add → zS,le_of_ble_eq_true → z8,succ_mul → yz
open List renaming mem_iff_getElem? → yr,getElem?_eq_getElem → zu,mem_of_getElem? → zt,length_map → ym,mem_cons → zm,getElem?_cons_succ → yR,getElem?_map → zP,mem_map → zM,mem_cons_self → zr,mem_cons_of_mem → zj,all_eq_true → yf,mem_append → zd,eq_nil_of_length_eq_zero → zG,getElem?_eq_some_iff → zw,map_cons → zB,replicate → zk,length_append → zq,getElem?_append_left → zU,mem_filterMap → zL,mem_range → yZ,getElem?_take → zD,range → yi,mem_of_mem_take → zH,getElem?_append_right → zY,length_cons → zi,flatten_cons → zW,drop_eq_nil_of_le → zO,length_singleton → yS,mem_singleton → zN
open Option.some renaming inj → zy
variable{is dF aE:List Nat}{xs dQ:List Go.Vg.Bx}{x:Go.Vg.Bx}{H H':Go.Vg.Heap}{w w':Go.World}{b n nt j aa i sz:Nat}{g f:Go.FuncId}{o oi oj:Go.Oper}{st gM:Go.Vg.St}{t u e ty:Go.TypeId}{s sep p:ByteArray}{v:Go.Value}{a:Go.Vg.O}{so xo:Go.Operand}{next:Option Go.Oper}{ops:List Go.Oper}{k m:Int}{vs args cs:List Go.Value}{fn:Go.Func}{fE:Go.Vg.xT}{ws:List (List UInt8)}
namespace Go.Vg
open Go Go.RowKit
section
variable {C : qG} {w0 : World} {bc : List Nat}
theorem wU{nt:Nat}{st:St}{a:Act}(h:dy nt st.env st.own a):∀ {xs:List Operand} {l:List SV},wO st xs=some l->xs.map a.eval=l.map (SV.val st.own)
 | [],l,e=>by simp[wO] at e;subst e;rfl
 |x::r,l,e=>by
  simp only[wO] at e;split at e
  ·rename_i s l' hs hl;obtain rfl:=zy e;simp[(ai h hs).1,wU h hl]
  ·cases e
theorem FO(l:List Nat):(dedup l).Nodup:=by
 induction l with
 |nil=>exact List.nodup_nil
 |cons y r ih=>
  simp only[dedup];split
  ·exact ih
  ·rename_i h;exact List.nodup_cons.2 ⟨by simpa using h,ih⟩
theorem mY{own:List Bx} :∀ {is:List Nat} {xs:List Bx},pick own is=some xs->xs.length=is.length/\∀k i:Nat,is[k]?=some i->∃x,own[i]?=some x/\xs[k]?=some x
 | [],xs,h=>by simp[pick] at h;subst h;exact⟨rfl,fun k i h=>by simp at h⟩
 |i::r,xs,h=>by
  simp only[pick] at h;split at h
  ·rename_i x l hx hl;obtain rfl:=zy h;obtain⟨h1,h2⟩:=mY hl;refine⟨by simp[h1],fun k j hk=>?_⟩
   cases k with
   |zero=>simp at hk;subst hk;exact⟨x,hx,rfl⟩
   |succ k=>simpa using h2 k j (by simpa using hk)
  ·cases h
theorem FP{own:List Bx}(h:pick own is=some xs)(hx:x∈xs):∃k i:Nat,is[k]?=some i/\own[i]?=some x/\xs[k]?=some x:=by
 obtain⟨k,hk⟩:=yr.1 hx;obtain⟨h1,h2⟩:=mY h;have hl:=pC hk;have hi:is[k]?=some is[k]:=zu (by omega);obtain⟨x',ha,hb⟩:=h2 k _ hi;rw[hk] at hb;obtain rfl:=zy hb;exact⟨k,_,hi,ha,hk⟩
theorem AQ{own:List Bx}(h:pick own is=some xs)(hx:x∈xs):x∈own:=by
 obtain⟨_,i,_,h2,_⟩:=FP h hx;exact zt h2
theorem AR{own:List Bx}(hb:dx own H w)(hn:is.Nodup)(h:pick own is=some xs):dx xs H w:=by
 refine⟨fun x hx=>hb.ok x (AQ h hx),fun x hx=>hb.hid x (AQ h hx),?_⟩;unfold List.Nodup;rw[List.pairwise_iff_getElem];intro k l hk hl qu e;obtain⟨h1,h2⟩:=mY h;simp only[ym] at hl hk;have hi:is[k]?=some is[k]:=zu (by omega);have hj:is[l]?=some is[l]:=zu (by omega);obtain⟨x,ha,hx⟩:=h2 k _ hi;obtain⟨y,hc,hy⟩:=h2 l _ hj;simp only[List.getElem_map] at e;rw[zu hk] at hx;rw[zu hl] at hy;rw[zy hx,zy hy] at e;have he:=pF hb ha hc e;have:=(List.getElem?_inj (by omega) hn).1 (hi.trans ((congrArg some he).trans hj.symm));omega
theorem wg:∀ {is:List Nat} {cs:List (List Value)} {i:Nat} {c:List Value},qn i (is.zip cs)=some c->∃k:Nat,is[k]?=some i/\cs[k]?=some c
 | [],_,_,_,h=>by simp[qn] at h
 |j::r,[],_,_,h=>by simp[qn] at h
 |j::r,d::cs,i,c,h=>by
  simp only[List.zip_cons_cons,qn] at h;split at h
  ·rename_i e;subst e;exact⟨0,rfl,h⟩
  ·obtain⟨k,h1,h2⟩:=wg h;exact⟨k+1,h1,h2⟩
theorem nA:∀ {is:List Nat} {cs:List (List Value)} {i:Nat},cs.length=is.length->qn i (is.zip cs)=none->i∉is
 | [],_,_,_,_=>by simp
 |j::r,[],_,hl,_=>by simp at hl
 |j::r,d::cs,i,hl,h=>by
  simp only[List.zip_cons_cons,qn] at h;split at h
  ·cases h
  ·rename_i e;simp only[zm,not_or];exact⟨Ne.symm e,nA (by simpa using hl) h⟩
theorem oS(al:List (Nat×List Value)):∀(own:List Bx)(i j:Nat),(nW al i own)[j]?=(own[j]?).map fun x=>match qn (i+j) al with|some c=>x.set c|none=>x
 | [],i,j=>by simp[nW]
 |x::r,i,0=>by cases h:qn i al<;>simp[nW,h]
 |x::r,i,j+1=>by
  simp only[nW,yR];rw[oS al r (i+1) j,show i+1+j=i+(j+1) from by omega]
theorem jk(own:List Bx)(is:List Nat)(cs:List (List Value))(j:Nat):(gr own is cs)[j]?=(own[j]?).map fun x=>match qn j (is.zip cs) with|some c=>x.set c|none=>x:=by
 simp[gr,oS]
theorem qZ(al:List (Nat×List Value)):∀(own:List Bx)(i:Nat),(nW al i own).length=own.length
 | [],_=>rfl
 |x::r,i=>by simp[nW,qZ al r]
theorem AU(own:List Bx)(is:List Nat)(cs:List (List Value)):(gr own is cs).length=own.length:=qZ _ _ _
theorem nY(own:List Bx)(is:List Nat)(cs:List (List Value)):aW own (gr own is cs):=by
 refine⟨by rw[AU];exact ze _,fun i x hx=>?_⟩;rw[jk,hx];simp only[yy];split
 ·exact⟨_,rfl,rfl,rfl,rfl⟩
 ·exact⟨_,rfl,rfl,rfl,rfl⟩
theorem wh(own:List Bx)(is:List Nat)(cs:List (List Value)):(gr own is cs).map Bx.b=own.map Bx.b:=by
 apply List.ext_getElem?;intro j;rw[zP,jk,zP]
 cases own[j]? with
 |none=>rfl
 |some x=>simp only[yy];split<;>rfl
theorem qv:∀ {xs:List Bx} {cs:List (List Value)} {k:Nat} {x:Bx} {c:List Value},xs[k]?=some x->cs[k]?=some c->(gi xs cs)[k]?=some (x.set c)
 | [],_,_,_,_,h,_=>by simp at h
 |x::xs,[],_,_,_,_,h=>by simp at h
 |x::xs,c::cs,0,_,_,h,h'=>by simp at h h';subst h;subst h';rfl
 |x::xs,c::cs,k+1,_,_,h,h'=>by simpa[gi] using qv (xs:=xs) (cs:=cs) (k:=k) (by simpa using h) (by simpa using h')
theorem iR.called{own:List Bx}(hw:iR C w0 bc own H w)(hp:pick own is=some xs){iy:List (List Value)}(hl:iy.length=xs.length)
  (hB:bL (xs.map Bx.b) w w') (hS:fD H' w') (hO:dx (gi xs iy) H' w') (hN:Next w.heap.size H H'):iR C w0 bc (gr own is iy) H' w':=by
 have Ia:=hw.fx;obtain⟨hlen,_⟩:=mY hp
 have rb:∀y∈gr own is iy,(∃x∈own,y.b=x.b)/\y.ok w'/\H' y.b=none:=fun y hy=>by
  obtain⟨j,hj⟩:=yr.1 hy;rw[jk] at hj
  cases hx:own[j]? with
  |none=>simp[hx] at hj
  |some x=>
   simp only[hx,yy,Option.some.injEq] at hj;have Sf:=zt hx
   cases ha:qn j (is.zip iy) with
   |some c=>
    simp only[ha] at hj;subst hj;obtain⟨k,h1,h2⟩:=wg ha;obtain⟨x',h3,h4⟩:=(mY hp).2 k j h1;rw[hx] at h3;obtain rfl:=zy h3;have hm:=zt (qv h4 h2)
    exact⟨⟨x,Sf,rfl⟩,hO.ok _ hm,hO.hid _ hm⟩
   |none=>
    simp only[ha] at hj;subst hj;have hnj:=nA (by omega) ha;have bK:=Bx.qo (hw.aE.ok x Sf)
    have VY:x.b∉xs.map Bx.b:=fun rb=>by
     obtain⟨z,hz,Sg⟩:=zM.1 rb;obtain⟨k,i,h1,h2,_⟩:=FP hp hz;have:=pF hw.aE h2 hx Sg;subst this;exact hnj (zt h1)
    refine⟨⟨x,Sf,rfl⟩,Bx.nX (hw.aE.ok x Sf) (hB.block _ bK VY),?_⟩
    cases hk:H' x.b with
    |none=>rfl
    |some k=>have:=hN.fresh _ _ hk (hw.aE.hid x Sf);omega
 refine⟨hS,⟨fun y hy=>(rb y hy).2.1,fun y hy=>(rb y hy).2.2,by rw[wh];exact hw.aE.apart⟩,fun y hy=>?_,hw.step hB.os hB.tape hB.output hB.size fun k hk hn=>hB.block k (by omega) (fun hm=>?_),hw.next.trans (hN.mono Ia),hw.aa,hw.jo⟩
 ·obtain⟨⟨x,hx,e⟩,_⟩:=rb y hy;rw[e];exact hw.mK x hx
 ·obtain⟨z,hz,Sg⟩:=zM.1 hm;rcases hw.mK z (AQ hp hz) with h|h
  ·omega
  ·exact hn (Sg▸h)
theorem iR.lY{own:List Bx}(hw:iR C w0 bc own H w)(hB:bL [] w w')(hS:fD H' w')(hN:Next w.heap.size H H'):iR C w0 bc own H' w':=by
 have Ia:=hw.fx;refine⟨hS,⟨(hw.aE.below hB).ok,fun y hy=>?_,hw.aE.apart⟩,hw.mK,hw.step hB.os hB.tape hB.output hB.size fun k hk _=>hB.block k (by omega) (by simp),hw.next.trans (hN.mono Ia),hw.aa,hw.jo⟩;have bK:=Bx.qo (hw.aE.ok y hy)
 cases hk:H' y.b with
 |none=>rfl
 |some k=>have:=hN.fresh _ _ hk (hw.aE.hid y hy);omega
def wV(xs:List Bx)(H:Heap):Heap:=fun b=>match xs.find? (fun x=>x.b==b) with
 |some x=>some (ay x.ty x.cs)
 |none=>H b
theorem FQ(hb:dx xs H w)(hx:x∈xs):wV xs H x.b=some (ay x.ty x.cs):=by
 unfold wV
 cases hf:xs.find? (fun y=>y.b==x.b) with
 |none=>have:=List.find?_eq_none.1 hf x hx;simp at this
 |some y=>
  have h1:=List.mem_of_find?_eq_some hf;have h2:=List.find?_some hf;simp at h2;obtain⟨i,hi⟩:=yr.1 h1;obtain⟨j,hj⟩:=yr.1 hx;have e:=pF hb hi hj h2;subst e;rw[hi] at hj;obtain rfl:=zy hj;rfl
theorem nZ(h:∀x∈xs,b≠x.b):wV xs H b=H b:=by
 unfold wV;have:xs.find? (fun x=>x.b==b)=none:=List.find?_eq_none.2 fun x hx=>by simp;exact fun e=>h x hx e.symm
 rw[this]
theorem wW{xs:List Bx}{H:Heap}{w:World}(hb:dx xs H w):∀ys:List Bx,(∀y∈ys,y∈xs)->Nz (wV xs H) ys
 | [],_=>trivial
 |y::r,h=>⟨FQ hb (h y zr),wW hb r fun z hz=>h z (zj _ hz)⟩
theorem IK(hs:fD H w)(hb:dx xs H w)(uQ:xs.all (fun x=> !x.map)=true):fD (wV xs H) w:=by
 intro b k hk;by_cases h:∃x∈xs,b=x.b
 ·obtain⟨x,hx,rfl⟩:=h;rw[FQ hb hx] at hk;obtain rfl:=zy hk;have hm:x.map=false:=by simpa using yf.1 uQ x hx
  have eC:=hb.ok x hx;simp only[Bx.ok,hm] at eC;rw[eC];exact tW _ _
 ·have hn:∀x∈xs,b≠x.b:=fun x hx e=>h ⟨x,hx,e⟩;rw[nZ hn] at hk;exact hs b k hk
theorem IL(hb:dx xs H w):Next 0 H (wV xs H):=by
 refine⟨fun b k hk=>?_,fun _ _ _ _=>Nat.zero_le _⟩;rw[nZ fun x hx e=>?_]
 ·exact hk
 ·rw[e,hb.hid x hx] at hk;cases hk
def AW(xs:List Bx)(H:Heap):Heap:=fun b=>if xs.any (fun x=>x.b==b) then none else H b
theorem AX :(∀x∈xs,b≠x.b)/\AW xs H b=H b∨AW xs H b=none:=by
 unfold AW;by_cases h:xs.any (fun x=>x.b==b)=true
 ·rw[pI h];exact .inr rfl
 ·rw[nI h];refine .inl ⟨fun x hx e=>h (List.any_eq_true.2 ⟨x,hx,by simp[e]⟩),rfl⟩

theorem DX{P:Program}(h:Ix P g=true)(args:Array Value)(w:World):(callFunc g args).run P w= .ok (.enter g args) w:=by
 unfold Ix at h;split at h
 ·rename_i fn hf;simp only[zT,bne_iff_ne,ne_eq] at h;have h2:fn.body≠none:=by cases hb:fn.body<;>simp_all
  simp[callFunc,hf,h.2,h2]
 ·cases h
def fy(P:Program)(m:xT):Prop:=∀aa H0 g pre own H f p,m.inl aa H0 g pre own H f=some p->m.list.contains g=true/\(p->∀(C:qG)(w0:World)(bc:List Nat)(w:World),C.aa=aa->C.H0=H0->iR C w0 bc own H w->(∀s∈pre,SV.wf own.length s)->
 Calls P g (pre.map (SV.val own)).toArray w fun e w'=>∃v dQ H',e= .returned v/\f (.v v) dQ H'/\aW own dQ/\iR C w0 bc dQ H' w')
theorem AY{nt:Nat}{st:St}{a:Act}(h:dy nt st.env st.own a):∀ {xs:List Operand} {l:List SV},wO st xs=some l->∀s∈l,SV.wf st.own.length s
 | [],l,e=>by simp[wO] at e;subst e;simp
 |x::r,l,e=>by
  simp only[wO] at e;split at e
  ·rename_i s l' hs hl;obtain rfl:=zy e;intro t ht;rcases zm.1 ht with rfl|ht
   ·exact(ai h hs).2
   ·exact AY h hl t ht
  ·cases e
theorem uR(mZ:fy C.P C.fE){a:Act}{pre:List SV}{Fc:TypeId}
  (hr:∀(w:World),(execOp a.eval o).run C.P w=(callFunc g (pre.map (SV.val st.own)).toArray).run C.P w)
  (gR:dJ C a o=false->C.fE.list.contains g=false) (oJ:∀s∈pre,SV.wf st.own.length s)
  (hw:iR C w0 bc st.own st.H w) {f:SV->List Bx->Heap->Prop} {K:Act->World->Prop} {Q:Exit->Act->World->Prop} (hK:sR C w0 bc st o a w f K)
  (h:DH C g pre st Fc f):o.wp C.P a w K Q:=by
 unfold DH at h;split at h
 case isFalse=>
  split at h
  ·split at h
   ·obtain⟨hx,hf⟩:=h;exact dG ((hr w).trans (hx w hw.dI)) (hK .ff _ _ _ hf trivial (aW.refl _) hw (fun _=>(bL.refl _ _).Iy))
   ·obtain⟨r,hx,hf⟩:=K2.fv h;exact dG ((hr w).trans (hx w hw.dI)) (hK (.v r) _ _ _ hf trivial (aW.refl _) hw (fun _=>(bL.refl _ _).Iy))
  ·exact h.elim
 rename_i hg;unfold Oper.wp;rw[hr,DX hg];rw[Oper.upon_enter];split at h
 ·rename_i p hp;obtain⟨hc,uS⟩:=mZ _ _ _ _ _ _ _ _ hp;refine Calls.mono (uS h C w0 bc w rfl rfl hw oJ) fun e w' he=>?_;obtain⟨v,dQ,H',rfl,hf,jK,er⟩:=he;exact hK (.v v) _ _ _ hf trivial jK er (fun ht=>by rw[gR ht] at hc;cases hc)
 split at h
 ·rename_i hd;have hS:=h w hw.dI ⟨by simp,by simp,by simp⟩;refine Calls.mono hS fun e w' he=>?_;obtain⟨v,iy,H',rfl,hl,hB,Xa,_,hN,hq⟩:=he;obtain⟨r,rfl,hf⟩:=K2.fv hq;exact hK (.v _) _ _ _ (hf (hN.mono hw.fx)) trivial (aW.refl _) (hw.lY (by simpa using hB) Xa hN) (fun _=>bL.Iy (by simpa using hB))
 ·rename_i is hd;split at h
  ·rename_i xs hp;have Lx:(dedup (ox pre)).Nodup:=FO _;have se:=AR hw.aE Lx hp;split at h
   ·rename_i Xb;refine Calls.mono (h w hw.dI se) fun e w' he=>?_;obtain⟨v,iy,H',rfl,hl,hB,Xa,hO,hN,hq⟩:=he;obtain⟨r,rfl,hq⟩:=K2.fv hq;obtain⟨ws,⟨rfl,hf⟩,_⟩:=K1.oQ hq;exact hK (.v _) _ _ _ (hf (hN.mono hw.fx)) trivial (nY _ _ _) (hw.called hp hl hB Xa hO hN) (fun ht=>by rw[gR ht] at Xb;cases Xb)
   ·obtain⟨uQ,h⟩:=h;have hSl:=IK hw.dI se uQ;refine Calls.mono (h (wV xs st.H) (IL se) (wW se xs fun _ h=>h) w hSl ⟨by simp,by simp,by simp⟩) fun e w' he=>?_;obtain⟨v,iy,tV,rfl,hl,hB,Xa,_,hN,hq⟩:=he;obtain⟨r,rfl,hq⟩:=K2.fv hq;have hB':bL [] w w':=by simpa using hB
    have QH:Next w.heap.size st.H (AW xs tV):=by
     refine⟨fun b k hk=>?_,fun b k hk Ql=>?_⟩
     ·have hn:∀x∈xs,b≠x.b:=fun x hx e=>by rw[e,se.hid x hx] at hk;cases hk
      have h1:=hN.ext b k (by rw[nZ hn];exact hk);unfold AW;rw[nI,h1];intro DY;obtain⟨x,hx,e⟩:=List.any_eq_true.1 DY;exact hn x hx (by simpa using(beq_iff_eq.1 e).symm)
     ·rcases AX (xs:=xs) (H:=tV) (b:=b) with⟨hn,e⟩|e
      ·rw[e] at hk;exact hN.fresh b k hk (by rw[nZ hn];exact Ql)
      ·rw[e] at hk;cases hk
    have hSm:fD (AW xs tV) w':=fun b k hk=>by
     rcases AX (xs:=xs) (H:=tV) (b:=b) with⟨hn,e⟩|e
     ·rw[e] at hk;exact Xa b k hk
     ·rw[e] at hk;cases hk
    refine hK (.v _) _ _ _ (hq _ (QH.mono hw.fx) fun b k hk hn=>?_) trivial (aW.refl _) (hw.lY hB' hSm QH) (fun _=>hB'.Iy);unfold AW;rw[nI,hk];intro DY;obtain⟨x,hx,e⟩:=List.any_eq_true.1 DY;exact hn x hx (by simpa using(beq_iff_eq.1 e).symm)
  ·exact h.elim
theorem FR(mZ:fy C.P C.fE){fo:Operand}{args:Array Operand}{ts:Array TypeId}(ho:o.op= .call { callee:= .value fo,args:=args,argTypes:=ts }){a:Act}(ha:dy C.nt st.env st.own a)
  (hw:iR C w0 bc st.own st.H w) {f:SV->List Bx->Heap->Prop} {K:Act->World->Prop} {Q:Exit->Act->World->Prop} (hK:sR C w0 bc st o a w f K)
  (h:NB C fo args.toList st o.type f):o.wp C.P a w K Q:=by
 unfold NB at h;split at h
 case h_2=>exact h.elim
 rename_i as1 has;have dE:=wU ha has
 have uQ:args.map a.eval=(as1.map (SV.val st.own)).toArray:=by
  apply yu;simpa using dE
 have key:∀g (x y:Array Value),((∃g',fo= .func g')->fo= .func g)->a.eval fo= .func (.func g) x y->dJ C a o=false->C.fE.list.contains g=false:=fun g x y hg hv ht=>by
  cases fo with
  |func g'=>
   have:=hg ⟨g',rfl⟩
   cases this
   simpa[dJ,turns,ho] using ht
  |tmp t=>
   have AM:a.tmps.getD t undef= .func (.func g) x y:=by simpa[Act.eval] using hv
   simpa[dJ,ho,AM] using ht
  |_=>simp[dJ,turns,ho] at ht
 split at h
 ·rename_i g first lV T7
  have hv:=(ai ha T7).1;refine uR mZ (fun w=>?_) (key g _ _ ?_ hv) (fun s hs=>?_) hw hK h
  ·simp only[SV.val] at hv;simp[execOp,ho,resolve,Deferred.ofValue,hv,invoke,uQ,SV.val,Function.comp_def]
   congr 2
   exact yu (by simp)
  ·rintro⟨g',rfl⟩;simp[St.get] at T7;rw[T7.1]
  ·simp only[zd,zM] at hs;rcases hs with(⟨v,_,rfl⟩|hs)|⟨v,_,rfl⟩
   ·trivial
   ·exact AY ha has s hs
   ·trivial
 ·rename_i g lV T7;have hv:=(ai ha T7).1;refine uR mZ (fun w=>?_) (key g _ _ ?_ hv) (fun s hs=>?_) hw hK h
  ·simp only[SV.val] at hv;simp[execOp,ho,resolve,Deferred.ofValue,hv,invoke,uQ,SV.val,Function.comp_def]
  ·rintro⟨g',rfl⟩;simp[St.get] at T7
  ·simp only[zd,zM] at hs;rcases hs with hs|⟨i,hi,rfl⟩
   ·exact AY ha has s hs
   ·exact(ai ha T7).2 i hi
 ·exact h.elim
end
open Go Go.RowKit
section
variable {C : qG} {w0 : World} {bc : List Nat}
theorem pH(s:ByteArray):Lib.strCells s=qm s.data.toList:=by simp[Lib.strCells,qm]
theorem wi{P:Program}{i:TypeInfo}(a:O)(hm:0<s.size)(hu:P.underlying t=some (.slice e))(sb:P.underlying u=some .string)(hi:P.info? e=some i)
  (hb:s.size*i.bytes<=140737488355328) (h:(Builtin.append_ #[t,u] ty #[.slice none 0 0,.string s]).run P w= .ok v w'):(Builtin.append_ #[t,u] ty #[.slice a 0 0,.string s]).run P w= .ok v w':=by
 have hn:¬s.size=0:=by omega
 have hf:∀(s:O)(w:World),(Builtin.firstCells i.size 0 (.slice s 0 0)).run P w= .ok #[] w:=fun s w=>by
  cases s<;>simp[Builtin.firstCells,loadCells,loadCellsFrom]
 have LO:¬(281474976710656<Builtin.nextslicecap s.size 0*i.bytes):=by rw[nextslicecap_zero (by omega)];omega
 rw[←h];simp[Builtin.append_,run_underlying hu,run_underlying sb,sizeOf,typeInfo,hi,Builtin.lenOf,hn,LO,Sem.run_bind,hf]
theorem wj{P:Program}{i:TypeInfo}(hu:P.underlying t=some (.slice e))(sb:P.underlying u=some .string)(hi:P.info? e=some i){c:Nat}(h:n<=c)(ty:TypeId)(w:World)(hs:s.size=0):
  (Builtin.append_ #[t,u] ty #[.slice a n c,.string s]).run P w= .ok (.slice a n c) w:=by
 have hf:(Builtin.firstCells i.size s.size (.string s)).run P w= .ok #[] w:=by
  rw[Lib.run_firstCells_string];have:Lib.strCells s=[]:=zG (by rw[Lib.strCells_length];exact hs);rw[this]
 rw[hs] at hf
 cases a<;>simp[Builtin.append_,run_underlying hu,run_underlying sb,sizeOf,typeInfo,hi,Builtin.lenOf,h,hs,hf,storeCells]
theorem CA(ho:o.op= .call { callee:= .builtin .append,args:= #[so,xo],argTypes:= #[t,u] }){a:Act}(ha:dy C.nt st.env st.own a)
  (hw:iR C w0 bc st.own st.H w) {f:SV->List Bx->Heap->Prop} {K:Act->World->Prop} {Q:Exit->Act->World->Prop} (hK:sR C w0 bc st o a w f K)  {sa:O} {c:Nat} 
  (hs:st.get so=some (.v (.slice sa n c))) (hx:st.get xo=some (.v (.string s))) (hu:C.P.underlying t=some (.slice e)) (sb:C.P.underlying u=some .string)
  (h:AB C e st f sa n c s):o.wp C.P a w K Q:=by
 have gR:dJ C a o=true:=by simp[dJ,turns,ho]
 have run:∀ {v:Value} {w':World},(Builtin.append_ #[t,u] o.type #[.slice sa n c,.string s]).run C.P w= .ok v w'->(execOp a.eval o).run C.P w= .ok (.value v) w':=fun{v w'} h=>by
  simp[execOp,ho,resolve,invoke,builtin,(ai ha hs).1,(ai ha hx).1,SV.val,h]
 have VZ:maxLen=9223372036854775807:=rfl;unfold AB at h;split at h
 ·rename_i QI
  cases hi:C.P.info? e with
  |none=>rw[hi] at QI;cases QI
  |some i=>
   rw[hi] at QI;have uG:i.zero=some (.int .u8 0):=QI;split at h
   ·rename_i hc;have kv:i.size=1:=by rw[←hc.1];simp[Program.cellsOf,hi]
    have Fh:i.bytes=1:=by rw[←hc.2];simp[Program.bytesOf,hi]
    obtain⟨xs,fH,oy,h⟩:=h;by_cases hm:s.size=0
    ·have hr:=wj (a:=sa) hu sb hi fH.2.1 o.type w hm;have qY:qm s.data.toList=[]:=by rw[←pH];exact zG (by rw[Lib.strCells_length];exact hm)
     have h':=h sa c st.H ⟨fun x k hx _=>hx,fun x k hx hn=>by(rw[hx] at hn;cases hn),fun hc _ _=> .inr ⟨rfl,hc⟩,fun _=>⟨rfl,rfl⟩⟩ (by rw[qY,hm];simpa using fH);rw[hm] at h';exact dG (run hr) (hK _ _ _ _ h' trivial (aW.refl _) hw (fun ht=>by rw[gR] at ht;cases ht))
    ·have Xc:=Lib.strCells_length s;rcases fH.Sb with⟨rfl,rfl,Cx⟩|⟨qY,Cx⟩
     ·obtain⟨v',w',hr,h2,h3,_⟩:=Lib.run_append_own_string (P:=C.P) w C.aa t u o.type e i hu sb hi uG kv Fh (.slice none 0 0) 0 xs (Cx.LH hw.dI) s (by omega) oy hw.fx
      have h4:v'.ownBlock=some w.heap.size:=by
       have:=run_append_nil_string (P:=C.P) w t u o.type e i (.int .u8 0) hu sb hi uG s (by omega) (by omega) (by rw[Fh];omega);rw[hr] at this;injection this with e1 _;rw[e1];rfl
      obtain⟨a',c',H',rfl,hg,nz,er⟩:=jX hw Cx (fun _=>rfl) h2 h3 (.inr h4) (fun h=>by omega);rw[pH] at nz;have we:=wi sa (by omega) hu sb hi (by rw[Fh];omega) hr;exact dG (run we) (hK _ _ _ _ (h a' c' H' ⟨fun x k hx _=>hg.cR x k hx (.inl rfl),hg.fresh,fun hc g he=> .inl ((hg.place hc g he).resolve_right fun h=>h.2 rfl),fun h=>by omega⟩ nz) trivial (aW.refl _) er (fun ht=>by rw[gR] at ht;cases ht))
     ·obtain⟨v',w',hr,h2,h3,_⟩:=Lib.run_append_own_string (P:=C.P) w C.aa t u o.type e i hu sb hi uG kv Fh (.slice sa n c) n xs (Cx.LH hw.dI) s (by omega) oy hw.fx;have nb:=Cx.1;rw[Nat.mul_one] at nb
      have h45:(v'.ownBlock=(Value.slice sa n c).ownBlock∨v'.ownBlock=some w.heap.size)/\(n+s.size<=c->v'= .slice sa (n+s.size) c):=by
       obtain⟨_,tR,Sd,QJ⟩:=Cx;rcases QJ with⟨_,_,h0⟩|⟨g,k,rfl,hb,hH,Ki,LJ,dj,v8⟩
       ·exact absurd h0 qY
       ·obtain⟨cur,fr,Sc,hcsz,IH,cI⟩:=hw.dI g _ hH;obtain rfl:=IH dj;rw[Ki] at Sc;by_cases gJ:n+s.size<=c
        ·have:=Lib.run_append_room_string (P:=C.P) w t u o.type e i hu sb hi kv g n c cur Sc s gJ (by omega);rw[hr] at this;injection this with e1 _;rw[e1];exact⟨.inl rfl,fun _=>rfl⟩
        ·have:=Lib.run_append_grow_string (P:=C.P) w t u o.type e i (.int .u8 0) hu sb hi uG ⟨g,0,none⟩ n c xs (by rw[kv];omega) (fun j v hj=>by
          rw[addr_add,zS];refine hw.dI.cell ?_
          unfold Heap.cell;rw[hH];exact v8 j v hj) s (by omega) (by omega) (by rw[Fh];exact growslice_fits (by omega) (by omega))
         rw[hr] at this;injection this with e1 _;rw[e1];exact⟨.inr rfl,fun h=>absurd h gJ⟩
      obtain⟨a',c',H',rfl,hg,nz,er⟩:=jX hw Cx (fun h=>absurd h qY) h2 h3 h45.1 h45.2;rw[pH] at nz;exact dG (run hr) (hK _ _ _ _ (h a' c' H' hg nz) trivial (aW.refl _) er (fun ht=>by rw[gR] at ht;cases ht))
   ·exact h.elim
 ·exact h.elim
theorem wX{H:Heap}{b o:Nat} :∀(cs:List Value)(i:Nat),(∀(j:Nat) v,cs[j]?=some v->H.cell b (o+(i+j))=some v)->ba H b o i cs
 | [],_,_=>trivial
 |v::r,i,h=>⟨by simpa using h 0 v rfl,wX r (i+1) fun j u hj=>by
   have:=h (j+1) u (by simpa using hj)
   rw[show i+1+j=i+(j+1) from by omega];exact this⟩
theorem CB{src dst:TypeId}(ho:o.op= .convert src dst xo){a:Act}(ha:dy C.nt st.env st.own a)
  (hw:iR C w0 bc st.own st.H w) {f:SV->List Bx->Heap->Prop} {K:Act->World->Prop} {Q:Exit->Act->World->Prop} (hK:sR C w0 bc st o a w f K)  (hx:st.get xo=some (.v (.string s)))
  (h:AD C src dst st f s):o.wp C.P a w K Q:=by
 unfold AD at h;split at h
 ·rename_i d e M7 sb;split at h
  ·rename_i DT
   have hr:(execOp a.eval o).run C.P w= .ok (.value (.slice (some ⟨w.heap.size,0,none⟩) s.size (grownCap w s.size 0 e))) (Lib.bytesWorld w e s):=by
    simp only[execOp,ho,(ai ha hx).1,SV.val,Sem.run_bind,Lib.run_convert_string_bytes w src dst e s M7 sb DT];rfl
   refine dG hr ?_;have hB:Below w.heap.size w (Lib.bytesWorld w e s):=⟨rfl,rfl,rfl,by rw[Lib.bytesWorld_size];omega,fun k hk=>Lib.bytesWorld_at_old w e s k hk⟩
   have hBX:bL [] w (Lib.bytesWorld w e s):=⟨hB.os,hB.tape,hB.output,hB.size,fun k hk _=>hB.block k hk⟩
   have tY:=Lib.bytesWorld_at_new w e s
   have hn:st.H w.heap.size=none:=by
    cases hk:st.H w.heap.size with
    |none=>rfl
    |some k=>exact absurd (hw.dI.lt hk) (by omega)
   let k:KB:=⟨e,(Lib.bytesCells w e s).size,false,fun j=>(qm s.data.toList)[j]?⟩
   have hlen:(qm s.data.toList).length=s.size:=by simp[qm]
   have hN:Next w.heap.size st.H (fun b=>if b=w.heap.size then some k else st.H b):=by
    refine⟨fun b k' hb=>?_,fun b k' hb hnb=>?_⟩
    ·by_cases e:b=w.heap.size
     ·subst e;rw[hn] at hb;cases hb
     ·simpa[e] using hb
    ·by_cases e:b=w.heap.size
     ·omega
     ·simp[e,hnb] at hb
   have QK:fD (fun b=>if b=w.heap.size then some k else st.H b) (Lib.bytesWorld w e s):=fun b k' hb=>by
    by_cases e1:b=w.heap.size
    ·subst e1;simp only[pI] at hb;obtain rfl:=zy hb;refine⟨_,_,tY,rfl,fun h=>(by cases h),fun j v hj=>?_⟩;have V0:(qm s.data.toList)[j]?=some v:=hj
     have FT:j<s.data.size:=by
      have:=(zw.1 V0).1;rw[hlen] at this;exact this
     unfold Lib.bytesCells;rw[yN (by simpa using FT)];rw[←V0,←Array.getElem?_toList];simp[qm]
    ·simp only[nI e1] at hb;rw[hB.block b (hw.dI.lt hb)];exact hw.dI b k' hb
   refine hK _ _ _ _ (h w.heap.size (grownCap w s.size 0 e) _ (grownCap_ge w s.size 0 e) (hN.mono hw.fx) hn (wX _ 0 fun j v hj=>?_)) trivial (aW.refl _) (hw.lY hBX QK hN) (fun _=>hBX.Iy);unfold Heap.cell;simpa[k] using hj
  ·exact h.elim
 ·exact h.elim
end
open Go Go.RowKit
section
variable {C : qG} {w0 : World} {bc : List Nat}
theorem CC(ho:o.op= .call { callee:= .builtin .append,args:= #[so,xo],argTypes:= #[t,u] }){a:Act}(ha:dy C.nt st.env st.own a)
  (hw:iR C w0 bc st.own st.H w) {f:SV->List Bx->Heap->Prop} {K:Act->World->Prop} {Q:Exit->Act->World->Prop} (hK:sR C w0 bc st o a w f K) {ss sx:SV} (hs:st.get so=some ss) (hx:st.get xo=some sx)
  (h:AE C t u st f ss sx):o.wp C.P a w K Q:=by
 have gR:dJ C a o=true:=by simp[dJ,turns,ho]
 unfold AE at h;split at h
 case h_3=>exact h.elim
 case h_2=>
  rename_i e sa n c y hu sb;exact CA ho ha hw hK hs hx hu sb h
 rename_i e ki sa n c kx k hu htn
 cases hz:ep C.P e with
 |none=>rw[hz] at h;exact h.elim
 |some z=>
  rw[hz] at h;dsimp only at h;split at h
  case isFalse=>exact h.elim
  rename_i hc;obtain⟨NK,FK⟩:=hc;obtain⟨xs,m,rfl,hm,gJ,fH,oy,FL,h⟩:=h;obtain⟨i,zv,hi,uG,rfl⟩:=gQ hz;have kv:i.size=C.P.cellsOf e:=by simp[Program.cellsOf,hi]
  have Fh:i.bytes=C.P.bytesOf e:=by simp[Program.bytesOf,hi]
  have NJ:zv.cells.size=C.P.cellsOf e:=by simpa using NK
  have VZ:maxLen=9223372036854775807:=rfl
  have hold:(Builtin.firstCells i.size n (.slice sa n c)).run C.P w.drew= .ok xs.toArray w.drew:=by
   by_cases hn:n=0
   ·subst hn;have:xs=[]:=zG (by simpa using fH.1);subst this
    cases sa<;>simp[Builtin.firstCells,loadCells,loadCellsFrom]
   ·rcases fH.2.2.2 with⟨h1,_⟩|⟨g,kb,rfl,hg,hH,_,_,_,v8⟩
    ·exact absurd h1 hn
    ·refine run_firstCells_some (P:=C.P) w.drew i.size n ⟨g,0,none⟩ n c xs (by rw[kv];exact fH.1) fun j v hj=>?_;rw[addr_add,zS];have:st.H.cell g j=some v:=by unfold Heap.cell;rw[hH];exact v8 j v hj
     have:=hw.dI.cell this;simpa using this
  have oR:Builtin.nextslicecap (n+m) c*i.bytes<=281474976710656:=growslice_fits (by omega) (by rw[Fh];exact oy)
  have hr:=Lib.run_append_grow_zeros (P:=C.P) w t u o.type e i zv kx ki hu htn hi uG sa n c xs hold m hm (by omega) gJ (by omega) (by
   rw[Fh];have:m*C.P.bytesOf e<=(n+m)*C.P.bytesOf e:=Nat.mul_le_mul_right _ (by omega)
   omega) oR
  have we:(execOp a.eval o).run C.P w= .ok (.value (.slice (some ⟨w.heap.size,0,none⟩) (n+m) (grownCap w (n+m) c e))) (w.drew.alloc (.cells (xs.toArray++Builtin.zeroCells zv.cells m++Builtin.zeroCells zv.cells (grownCap w (n+m) c e-(n+m))) e)):=by
   simp only[execOp,ho,resolve,invoke,builtin,(ai ha hs).1,(ai ha hx).1,SV.val,List.map_toArray,zB,List.map_nil,Sem.run_bind,Sem.run_pure,Result.andThen_ok];rw[hr];rfl
  refine dG we ?_;have gj:=grownCap_ge w (n+m) c e;have Sd:grownCap w (n+m) c e<=maxLen:=grownCap_le_maxLen w (n+m) c e FL;have hwd:iR C w0 bc st.own st.H w.drew:=hw.lY (bL.drew [] w) (hw.dI.below (bL.drew [] w)) (Next.refl _ _)
  have W8:(Builtin.zeroCells zv.cells m).toList=(zk m zv.cells.toList).flatten:=by
   have:Builtin.zeroCells zv.cells m=madeCells zv.cells (m*zv.cells.size):=rfl;rw[this,Ab]
  have NM:(xs.toArray++Builtin.zeroCells zv.cells m++Builtin.zeroCells zv.cells (grownCap w (n+m) c e-(n+m))).size=grownCap w (n+m) c e*C.P.cellsOf e:=by
   simp only[Array.size_append,List.size_toArray,size_zeroCells,NJ,fH.1,←Nat.add_mul]
   congr 1;omega
  have hlen:(xs++(zk m zv.cells.toList).flatten).length=(n+m)*C.P.cellsOf e:=by
   rw[zq,fH.1,←W8,Nat.add_mul];simp[size_zeroCells,NJ]
  obtain⟨h4,h5,h6⟩:=hwd.AN (k:=⟨e,grownCap w (n+m) c e*C.P.cellsOf e,true,fun j=>(xs++(zk m zv.cells.toList).flatten)[j]?⟩) (o:= .cells (xs.toArray++Builtin.zeroCells zv.cells m++Builtin.zeroCells zv.cells (grownCap w (n+m) c e-(n+m))) e) (by
   refine⟨_,_,rfl,NM,fun _=>rfl,fun j v hj=>?_⟩;have V0:(xs++(zk m zv.cells.toList).flatten)[j]?=some v:=hj;rw[←Array.getElem?_toList,Array.toList_append,Array.toList_append,W8]
   rw[zU (by
    have:=(zw.1 V0).1
    simpa using this)]
   exact V0)
  exact hK _ _ _ _ (h w.heap.size _ _ (h5.mono hw.fx) h6 ⟨hlen,gj,Sd,.inr ⟨w.heap.size,_,rfl,hw.fx,pI rfl,rfl,rfl,rfl,fun j v hj=>hj⟩⟩) trivial (aW.refl _) h4 (fun ht=>by rw[gR] at ht;cases ht)
theorem IM(mZ:fy C.P C.fE){a:Act}(ha:dy C.nt st.env st.own a)
  (hw:iR C w0 bc st.own st.H w) {f:SV->List Bx->Heap->Prop} {K:Act->World->Prop} {Q:Exit->Act->World->Prop} (hK:sR C w0 bc st o a w f K)
  (h:NC C o next st f):o.wp C.P a w K Q:=by
 unfold NC at h;split at h
 case h_1 t ao x ho=>
  split at h
  ·rename_i sa sx hsa hsx;obtain⟨dQ,H',w',hf,jK,er,hr⟩:=DV t st (sx.val st.own) _ sa hw h;exact FG (by simp[execOp,ho,(ai ha hsa).1,(ai ha hsx).1,hr]) (hK _ _ _ _ hf trivial jK er (fun ht=>by simp[dJ,turns,ho] at ht))
  ·exact h.elim
 case h_2 t ho=>
  split at h
  ·rename_i z hz;exact FH ho hw hK hz h
  ·exact h.elim
 case h_3 t x ho=>
  split at h
  ·rename_i s hs;exact LG ho ha hw hK hs h
  ·exact h.elim
 case h_4 t n parts ho=>exact wb ho ha hw hK h
 case h_5 t ho=>exact Cw ho hw hK h
 case h_6 t m k x ho=>
  split at h
  ·rename_i kt e i sk sx hu hm hk hx;split at h
   ·rename_i b bt cs oR se;obtain⟨oI,Cz,hf⟩:=h;exact qt (.inl ho) ha hw hK hu hm hk hx oR se Cz hf
   ·exact h.elim
  ·exact h.elim
 case h_7 t m k x ho=>
  split at h
  ·rename_i kt e i sk sx hu hm hk hx;split at h
   ·rename_i b bt cs oR se;obtain⟨oI,Cz,hf⟩:=h;exact qt (.inr ho) ha hw hK hu hm hk hx oR se Cz hf
   ·exact h.elim
  ·exact h.elim
 case h_8 t l c ho=>
  split at h
  ·rename_i sl sc hl hc;exact xV ho ha hw hK hl hc h
  ·exact h.elim
 case h_9 args ts ho=>
  split at h
  ·rename_i so xo t u dE T8;split at h
   ·rename_i ss sx hs hx;split at h
    ·rename_i e;subst e;have e1:args= #[so,xo]:=yu (by simpa using dE);have e2:ts= #[t,t]:=yu (by simpa using T8);subst e1;subst e2;exact DW ho ha hw hK hs hx h
    ·have e1:args= #[so,xo]:=yu (by simpa using dE);have e2:ts= #[t,u]:=yu (by simpa using T8);subst e1;subst e2;exact CC ho ha hw hK hs hx h
   ·exact h.elim
  ·exact h.elim
 case h_10 args ts ho=>
  split at h
  ·rename_i d x t u dE T8;split at h
   ·rename_i sd sx hd hx;split at h
    ·rename_i e;subst e;have e1:args= #[d,x]:=yu (by simpa using dE);have e2:ts= #[t,t]:=yu (by simpa using T8);subst e1;subst e2;exact II ho ha hw hK hd hx h
    ·exact h.elim
   ·exact h.elim
  ·exact h.elim
 case h_11 args ts ho=>
  split at h
  ·rename_i d t dE T8;split at h
   ·rename_i sd hd;have e1:args= #[d]:=yu (by simpa using dE);have e2:ts= #[t]:=yu (by simpa using T8);subst e1;subst e2;exact FM ho ha hw hK hd h
   ·exact h.elim
  ·exact h.elim
 case h_12 fo args ts ho=>exact FR mZ ho ha hw hK h
 case h_13 src dst x ho=>
  split at h
  ·rename_i s hs;exact CB ho ha hw hK hs h
  ·exact h.elim
 case h_14=>exact h.elim
theorem CX(mZ:fy C.P C.fE){a:Act}(ha:dy C.nt st.env st.own a)
  (hw:iR C w0 bc st.own st.H w) {f:SV->List Bx->Heap->Prop} {K:Act->World->Prop} {Q:Exit->Act->World->Prop} (hK:sR C w0 bc st o a w f K)
  (h:VU C o next st f):o.wp C.P a w K Q:=by
 unfold VU at h;split at h
 ·rename_i q hq;obtain⟨s,hf,oJ,hy⟩:=wS (f:=fun s=>f s st.own st.H) o st hq h a ha;exact dG (hy a w ha (.inr ⟨hw.dI,hw.aE.c,.inr hw.aE⟩)) (hK _ _ _ _ hf oJ (aW.refl _) hw (fun _=>(bL.refl _ _).Iy))
 ·exact IM mZ ha hw hK h
theorem AZ{env:List (Nat×SV)}{own:List Bx}{a:Act}(h:dy nt env own a){ops:Array Oper}{t:Nat}(ht:(ops[j]?).bind (·.dst)=some t){s:SV}(hs:look t env=some s):
  yielded ops a.tmps j=(match s.val own with| .bool b=>some b|_=>none):=by
 obtain⟨h1,h2,_⟩:=h.ck t s hs
 have:a.tmps[t]?=some (s.val own):=by
  rw[←h2];simp[h.size,h1]
 simp only[yielded,ht,yj,this]
 cases s.val own<;>rfl
theorem pJ{ops:Array Oper}{yes no:St->Prop}{a:Act}(ha:dy C.nt st.env st.own a)(h:AG ops o st yes no):
  ∃mw,dy C.nt mw st.own a/\((Region.wanted o (yielded ops a.tmps)=true/\yes ⟨mw,st.own,st.H⟩)∨(Region.wanted o (yielded ops a.tmps)=false/\no ⟨mw,st.own,st.H⟩)):=by
 unfold AG at h;split at h
 ·rename_i hg;exact⟨st.env,ha,.inl ⟨by simp[Region.wanted,hg],h⟩⟩
 ·rename_i j want hg;split at h
  ·rename_i t ht
   have hw:∀ {s:SV} {b:Bool},look t st.env=some s->s.val st.own= .bool b->Region.wanted o (yielded ops a.tmps)=(b==want):=fun{s b} hs hv=>by
    simp only[Region.wanted,hg,AZ ha ht hs,hv]
    cases want<;>cases b<;>rfl
   have key:∀ {s:SV} {b:Bool} {mw:List (Nat×SV)},look t st.env=some s->s.val st.own= .bool b->dy C.nt mw st.own a->nr want (if b then yes ⟨mw,st.own,st.H⟩ else no ⟨mw,st.own,st.H⟩) (if b then no ⟨mw,st.own,st.H⟩ else yes ⟨mw,st.own,st.H⟩)->
     ∃mw,dy C.nt mw st.own a/\((Region.wanted o (yielded ops a.tmps)=true/\yes ⟨mw,st.own,st.H⟩)∨(Region.wanted o (yielded ops a.tmps)=false/\no ⟨mw,st.own,st.H⟩)):=fun{s b mw} hs hv he hb=>by
    have:=hw hs hv;refine⟨mw,he,?_⟩
    cases want<;>cases b<;>simp_all[nr]
   split at h
   ·rename_i hs;exact key hs rfl ha (by simpa using h)
   ·rename_i hs;refine key hs rfl ha ?_
    cases want<;>simpa[nr] using h
   ·rename_i q d hs;by_cases hq:q
    ·have hv:(SV.p q d).val st.own= .bool true:=by simp[SV.val,hq]
     have he:=ha.y9 (s':= .tt) hs (by rw[hv];rfl) trivial;exact key hs hv he (by simpa[St.put] using h.1 hq)
    ·have hv:(SV.p q d).val st.own= .bool false:=by simp[SV.val,hq]
     have he:=ha.y9 (s':= .ff) hs (by rw[hv];rfl) trivial;refine key hs hv he ?_;have:=h.2 hq
     cases want<;>simpa[nr,St.put] using this
   ·rename_i b hs
    cases b
    ·have he:=ha.y9 (s':= .ff) hs rfl trivial;refine key hs rfl he ?_;have:=h.2 rfl
     cases want<;>simpa[nr,St.put] using this
    ·have he:=ha.y9 (s':= .tt) hs rfl trivial;exact key hs rfl he (by simpa[St.put] using h.1 rfl)
   ·rename_i vs hs;refine⟨st.env,ha,.inr ⟨?_,h⟩⟩;simp[Region.wanted,hg,AZ ha ht hs,SV.val]
   ·exact h.elim
  ·exact h.elim
structure Rel(aa:List Bx)(W:List Nat)(dX a:Act)(own:List Bx):Prop where
 ext:aW aa own
 cR:∀s:Nat,s∉W->a.tmps.getD s undef=dX.tmps.getD s undef
structure Good(C:qG)(w0:World)(bc:List Nat)(aa:List Bx)(W:List Nat)(dX:Act)(st:St)(a:Act)(w:World):Prop where
 env:dy C.nt st.env st.own a
 iA:iR C w0 bc st.own st.H w
 cB:Rel aa W dX a st.own
theorem A0{a:Act}{d:Option Tmp}{s:Nat}(h:d≠some s):(a.put d v).tmps.getD s undef=a.tmps.getD s undef:=by
 cases d with
 |none=>rfl
 |some t=>
  have:t≠s:=fun e=>h (by rw[e]);simp[Act.put,yX this]
theorem Good.put{aa:List Bx}{W:List Nat}{dX:Act}{a:Act}(h:Good C w0 bc aa W dX st a w)(he:aW st.own dQ)(hs:iR C w0 bc dQ H' w'){d:Option Tmp}
  (hd:∀t,d=some t->t<C.nt/\t∈W) {s:SV} (oJ:s.wf dQ.length):Good C w0 bc aa W dX (St.put ⟨st.env,dQ,H'⟩ d s) (a.put d (s.val dQ)) w':=by
 have h1:=h.env.ext he
 cases d with
 |none=>exact⟨h1,hs,h.cB.ext.trans he,h.cB.cR⟩
 |some t=>
  obtain⟨h2,h3⟩:=hd t rfl;refine⟨h1.put h2 oJ,hs,h.cB.ext.trans he,fun s' LP=>?_⟩;rw[A0 (fun e=>LP (by cases e;exact h3))];exact h.cB.cR s' LP
theorem nC(mZ:fy C.P C.fE){ops:Array Oper}{Q:Exit->Act->World->Prop}{aa:List Bx}{W:List Nat}{dX:Act}{k:St->Prop}(hQ:∀st a w,k st->Good C w0 bc aa W dX st a w->Q .normal a w):
  ∀(l:List Oper)(st:St)(a:Act)(w:World),(∀o∈l,∀t,o.dst=some t->t<C.nt/\t∈W)->Good C w0 bc aa W dX st a w->opsV C ops l st k->wpList C.P ops Q l a w
 | [],st,a,w,_,hg,h=>hQ st a w h hg
 |o::rest,st,a,w,hd,hg,h=>by
  simp only[opsV] at h;obtain⟨mw,he,h⟩:=pJ hg.env h;have gu:Good C w0 bc aa W dX ⟨mw,st.own,st.H⟩ a w:=⟨he,hg.iA,hg.cB⟩
  have Qm:=hd o zr;unfold wpList;rcases h with⟨hw,h⟩|⟨hw,h⟩
  ·rw[pI hw];refine .inl (CX mZ (st:=⟨mw,st.own,st.H⟩) he hg.iA (fun s dQ H' w' hf oJ jK hs _=>?_) h);exact nC mZ hQ rest _ _ _ (fun o ho=>hd o (zj _ ho)) (gu.put jK hs Qm oJ) hf
  ·rw[nI (by simp[hw])];exact nC mZ hQ rest _ _ _ (fun o ho=>hd o (zj _ ho)) (gu.put (s:= .v undef) (aW.refl _) hg.iA Qm trivial) h
end
open Go Go.RowKit

section
variable {P : Program} {ops : Array Oper} {Q : Exit->Act->World->Prop}
def iI(G:World->Prop)(P:Program)(ops:Array Oper)(o:Oper)(v:Value)(a:Act):Prop:=
 (Region.wanted o (yielded ops a.tmps)=true/\∀w,G w->(execOp a.eval o).run P w= .ok (.value v) w)∨(Region.wanted o (yielded ops a.tmps)=false/\v=undef)
theorem iI.same{G:World->Prop}{a a':Act}(h:iI G P ops o v a)(he:execOp a'.eval o=execOp a.eval o)
  (hw:Region.wanted o (yielded ops a'.tmps)=Region.wanted o (yielded ops a.tmps)):iI G P ops o v a':=by
 unfold iI at*;rw[he,hw];exact h
theorem iI.take{G:World->Prop}{a:Act}(h:iI G P ops o v a)(hi:ops[i]?=some o)(hG:G w){K:Act->World->Prop}(hK:K (a.put o.dst v) w):wpOp P ops Q i K a w:=by
 simp only[wpOp,hi];rcases h with⟨hw,hv⟩|⟨hw,rfl⟩
 ·rw[pI hw];exact .inl (dG (hv w hG) hK)
 ·rw[nI (by simp[hw])];exact hK
theorem FU{G:World->Prop}(hj:ops[j]?=some oj)(Fj:oi.apart ops oj=true)
  (hsi:∀cs b,oi.op≠ .select cs b) (hsj:∀cs b,oj.op≠ .select cs b) (hQ:∀c a w,¬Q (.panic c) a w) {K:Act->World->Prop} {a:Act}  (hy:iI G P ops oi v a)
  (h:wpOp P ops Q j K (a.put oi.dst v) w):wpOp P ops Q j (fun a' w'=>iI G P ops oi v a'/\K (a'.put oi.dst v) w') a w:=by
 obtain⟨h1,h2,h3⟩:=Oper.apart_spec Fj;have ex:execOp (a.put oi.dst v).eval oj=execOp a.eval oj:=execOp_put oj hsj a oi.dst v h1;have wn:=wanted_put (ops:=ops) oj a oi.dst v h1;have cR:∀b:Act,iI G P ops oi v b->∀u,iI G P ops oi v (b.put oj.dst u):=fun b hb u=>hb.same (execOp_put oi hsi b oj.dst u h3) (wanted_put oi b oj.dst u h3)
 have go:∀(b:Act),iI G P ops oi v b->∀u w',K ((b.put oi.dst v).put oj.dst u) w'->iI G P ops oi v (b.put oj.dst u)/\K ((b.put oj.dst u).put oi.dst v) w':=fun b hb u w' hk=>
  ⟨cR b hb u,by rw[←Act.put_comm b v u h2];exact hk⟩
 simp only[wpOp,hj] at h⊢;rw[wn] at h;by_cases hw:Region.wanted oj (yielded ops a.tmps)=true
 ·rw[pI hw] at h⊢;refine h.imp (fun h=>?_) (fun h=>⟨by have:=h.1;unfold Oper.asks at*;rw[ex] at this;exact this,h.2⟩);unfold Oper.wp at*;rw[ex] at h;generalize (execOp a.eval oj).run P w=r at h⊢
  cases r with
  |halt x w'=>cases x<;>simp only[Oper.upon] at h⊢;exact absurd h (hQ _ _ _)
  |ok n w'=>
   cases n<;>simp only[Oper.upon] at h⊢
   case value u=>exact go a hy u w' h
   case skip=>exact go a hy undef w' h
   case defer d=>exact go { a with defers:=d::a.defers } (hy.same rfl rfl) undef w' (by rw[←Act.put_defers];exact h)
   case enter f args=>
    refine Calls.mono h fun e QM he=>?_
    cases e with
    |returned u=>exact go a hy u QM he
    |panicked c=>exact absurd he (hQ _ _ _)
    |outgrown=>exact he
   case row row args=>exact Rows.mono h fun u QM he=>go a hy u QM he
 ·rw[nI hw] at h⊢;exact go a hy undef w h
theorem IP(hj:ops[j]?=some oj){K:Act->World->Prop}{a:Act}(h:wpOp P ops Q j K a w):
  wpOp P ops Q j (fun a' w'=>K a' w'/\a'.tmps.size=a.tmps.size/\∀t:Nat,oj.dst≠some t->a'.tmps.getD t undef=a.tmps.getD t undef) a w:=by
 simp only[wpOp,hj] at h⊢;have hk:∀(b:Act)(u:Value),b.tmps=a.tmps->(b.put oj.dst u).tmps.size=a.tmps.size/\∀t:Nat,oj.dst≠some t->(b.put oj.dst u).tmps.getD t undef=a.tmps.getD t undef:=fun b u hb=>⟨by cases oj.dst<;>simp[Act.put,hb],fun t ht=>by rw[A0 ht,hb]⟩
 by_cases hw:Region.wanted oj (yielded ops a.tmps)=true
 ·rw[pI hw] at h⊢;refine h.imp (fun h=>?_) (fun h=>h);unfold Oper.wp at*;generalize (execOp a.eval oj).run P w=r at h⊢
  cases r with
  |halt x w'=>cases x<;>exact h
  |ok n w'=>
   cases n<;>simp only[Oper.upon] at h⊢
   case value u=>exact⟨h,hk a u rfl⟩
   case skip=>exact⟨h,hk a undef rfl⟩
   case defer d=>exact⟨h,hk { a with defers:=d::a.defers } undef rfl⟩
   case enter f args=>
    refine Calls.mono h fun e QM he=>?_
    cases e with
    |returned u=>exact⟨he,hk a u rfl⟩
    |panicked c=>exact he
    |outgrown=>exact he
   case row row args=>exact Rows.mono h fun u QM he=>⟨he,hk a u rfl⟩
 ·rw[nI hw] at h⊢;exact⟨h,hk a undef rfl⟩
theorem NN(hj:ops[j]?=some oj)(hg:oj.guard=none){K:Act->World->Prop}{a:Act}(hr:(execOp a.eval oj).run P w= .ok (.value v) w)(h:wpOp P ops Q j K a w):
  wpOp P ops Q j (fun a' w'=>K a' w'/\a'=a.put oj.dst v) a w:=by
 have hw:Region.wanted oj (yielded ops a.tmps)=true:=by unfold Region.wanted;rw[hg]
 simp only[wpOp,hj] at h⊢;rw[pI hw] at h⊢;refine h.imp (fun h=>?_) (fun h=>h);unfold Oper.wp at*;rw[hr] at h⊢;exact⟨h,rfl⟩
end

section
variable (C : qG) (ops : Array Oper) (Q : Exit->Act->World->Prop)
def FV:Nat->Array Bool->Act->World->Prop
 |0,listed,a,w=>Region.ready .any ops listed=[]/\Q .normal a w
 |n+1,listed,a,w=>(Region.ready .any ops listed=[]->Q .normal a w)/\
  ∀i∈Region.ready .any ops listed,wpOp C.P ops Q i (fun a' w'=>(∀o,ops[i]?=some o->dJ C a o=false->qU w w')/\FV n (listed.setIfInBounds i true) a' w') a w
end
section
variable {C : qG} {ops : Array Oper} {Q : Exit->Act->World->Prop}
theorem A1:∀(n:Nat)(listed:Array Bool)(a:Act)(w:World),FV C ops Q n listed a w->wpAny C.P .any ops Q n listed a w
 |0,listed,a,w,h=>h
 |n+1,listed,a,w,h=>⟨h.1,fun i hi=>wpOp_mono (fun a' w' h'=>A1 n _ a' w' h'.2) (h.2 i hi)⟩
theorem IQ :∀ {n:Nat},waits ops n j i=true->waits ops (n+1) j i=true:=by
 intro n
 induction n generalizing j with
 |zero=>
  intro h;simp only[waits] at h⊢;split at h
  ·rename_i o ho;simp only[h,Bool.true_or]
  ·cases h
 |succ n ih=>
  intro h;rw[waits] at h⊢;split at h
  ·rename_i o ho;simp only[Bool.or_eq_true] at h⊢;refine h.imp id fun h=>?_;obtain⟨e,he,h⟩:=yV.1 h;simp only[zT] at h;exact yV.2 ⟨e,he,by simp only[zT];exact⟨h.1,ih h.2⟩⟩
  ·cases h
theorem wk{l:Array Bool}(h:l.getD i true=false):l.getD i false=false:=by
 rcases Nat.lt_or_ge i l.size with h'|h'
 ·simpa[h'] using h
 ·simp[h'] at h
theorem LQ{listed:Array Bool}(hi:listed.getD i true=false)(hw:∀k,waits ops 4 k i=true->listed.getD k true=false)(hj:j∈Region.ready .any ops listed):waits ops 4 j i=false:=by
 cases h:waits ops 4 j i with
 |false=>rfl
 |true=>
  obtain⟨_,o,ho,kj⟩:=mem_ready.1 hj;rw[waits,ho] at h;simp only[Bool.or_eq_true] at h;rcases h with h|h
  ·obtain⟨e,he,h⟩:=yV.1 h;simp only[zT,beq_iff_eq] at h;have:=kj e he h.1;rw[h.2,wk hi] at this
   cases this
  ·obtain⟨e,he,h⟩:=yV.1 h;simp only[zT] at h;have h1:=kj e he h.1;rw[wk (hw _ (IQ h.2))] at h1
   cases h1
def Calm(T:Oper->Bool)(ops:Array Oper)(G:World->Prop)(i:Nat)(listed:Array Bool):Prop:=
 (∀w,G w)∨((∀w w',qU w w'->G w->G w')/\(∀k,waits ops 4 k i=true->listed.getD k true=false)/\
  ∀(j:Nat)(o:Oper),ops[j]?=some o->j≠i->listed.getD j true=false->T o=true->waits ops 4 j i=true)
theorem IU{a:Act}{d:Option Tmp}(h:∀x,d=some x->x∉o.looksAt ops):dJ C (a.put d v) o=dJ C a o:=by
 unfold dJ;split
 ·rename_i t args ts hc
  have eE:d≠some t:=fun e=>h t e (by
   unfold Oper.looksAt;refine List.mem_append_left _ (zL.2 ⟨.tmp t,?_,rfl⟩);rw[hc]
   simp[Op.operands,Call.operands])
  rw[A0 eE]
 ·rfl
 ·rfl
theorem IV{T:Oper->Bool}{V:Array Bool->Act->Prop}{G:World->Prop}(hi:ops[i]?=some oi)(QN:∀(j:Nat)(o:Oper) cs b,ops[j]?=some o->o.op≠ .select cs b)(hQ:∀c a w,¬Q (.panic c) a w)
  (hV:∀(listed:Array Bool)(a:Act)(w:World)(j:Nat)(oj:Oper),V listed a->G w->ops[j]?=some oj->j∈Region.ready .any ops listed->∀K,wpOp C.P ops Q j K a w->wpOp C.P ops Q j (fun a' w'=>K a' w'/\V (listed.setIfInBounds j true) a') a w)
  (hT:(∀w,G w)∨ ∀(listed:Array Bool)(a:Act)(j:Nat)(o:Oper),V listed a->ops[j]?=some o->j∈Region.ready .any ops listed->T o=false->dJ C a o=false):
  ∀(n:Nat)(listed:Array Bool)(a:Act)(w:World),V listed a->
   (∀j oj,ops[j]?=some oj->j≠i->listed.getD j true=false->(∀e∈oj.after,Region.binds .any e=true->e.on≠i)->oi.apart ops oj=true)->
   i∈Region.ready .any ops listed->iI G C.P ops oi v a->G w->Calm T ops G i listed->FV C ops Q n (listed.setIfInBounds i true) (a.put oi.dst v) w->FV C ops Q (n+1) listed a w:=by
 intro n
 induction n with
 |zero=>
  intro listed a w _ _ hr hy hG hC H;refine⟨fun h=>(by rw[h] at hr;cases hr),fun j hj=>?_⟩;by_cases LF:j=i
  ·subst LF;exact hy.take hi hG ⟨fun _ _ _=>(bL.refl _ _).Iy,H⟩
  ·have:=ready_mono hj LF;rw[H.1] at this
   cases this
 |succ n ih=>
  intro listed a w hVa dj hr hy hG hC H;refine⟨fun h=>(by rw[h] at hr;cases hr),fun j hj=>?_⟩;by_cases LF:j=i
  ·subst LF;exact hy.take hi hG ⟨fun _ _ _=>(bL.refl _ _).Iy,H⟩
  ·have h1:=H.2 j (ready_mono hj LF);obtain⟨LR,oj,A2,kj⟩:=mem_ready.1 hj;have Xd:=(mem_ready.1 hr).1
   have QO:∀e∈oj.after,Region.binds .any e=true->e.on≠i:=fun e he hb heq=>by
    have h1:=kj e he hb;rw[heq,wk Xd] at h1
    cases h1
   have Fj:=dj j oj A2 LF LR QO;have QP:dJ C (a.put oi.dst v) oj=dJ C a oj:=IU (Oper.apart_spec Fj).1
   have gR:Calm T ops G i (listed.setIfInBounds j true)/\((∀w,G w)∨((∀w w',qU w w'->G w->G w')/\dJ C a oj=false)):=by
    rcases hC with hC|⟨hC1,hC2,hC3⟩
    ·exact⟨.inl hC,.inl hC⟩
    ·rcases hT with hT|hT
     ·exact⟨.inl hT,.inl hT⟩
     have hnw:=LQ Xd hC2 hj;refine⟨.inr ⟨hC1,fun k hk=>?_,fun k o ho hki Sh ht=>?_⟩,.inr ⟨hC1,hT listed a j oj hVa A2 hj ?_⟩⟩
     ·have T9:j≠k:=fun e=>by subst e;rw[hnw] at hk;cases hk
      rw[getD_set_ne true T9];exact hC2 k hk
     ·by_cases T9:j=k
      ·subst T9;rcases Nat.lt_or_ge j listed.size with h'|h'
       ·simp[h'] at Sh
       ·simp[h'] at LR
      ·rw[getD_set_ne true T9] at Sh;exact hC3 k o ho hki Sh ht
     ·cases ht:T oj with
      |false=>rfl
      |true=>have:=hC3 j oj A2 LF LR ht;rw[hnw] at this;cases this
   obtain⟨hC',Xe⟩:=gR;have h2:=hV listed a w j oj hVa hG A2 hj _ (FU A2 Fj (fun cs b=>QN i oi cs b hi) (fun cs b=>QN j oj cs b A2) hQ hy h1)
   have Ua:∀k ok,ops[k]?=some ok->k≠i->(listed.setIfInBounds j true).getD k true=false->
     (∀e∈ok.after,Region.binds .any e=true->e.on≠i)->oi.apart ops ok=true:=fun k ok hk hki Sh xX=>by
    refine dj k ok hk hki ?_ xX;by_cases T9:j=k
    ·subst T9;exact LR
    ·rw[getD_set_ne true T9] at Sh;exact Sh
   refine wpOp_mono (fun a' w' h3=>⟨fun o ho ht=>h3.1.2.1 o ho (by rw[A2] at ho;obtain rfl:=zy ho;rw[QP];exact ht),ih (listed.setIfInBounds j true) a' w' h3.2 Ua (ready_mono hr (Ne.symm LF)) h3.1.1 ?_ hC' ?_⟩) h2
   ·rcases Xe with h|⟨h,ht⟩
    ·exact h w'
    ·exact h w w' (h3.1.2.1 oj A2 (by rw[QP];exact ht)) hG
   ·rw[Array.setIfInBounds_comm _ _ LF];exact h3.1.2.2
end

section
variable {C : qG} {w0 : World} {bc : List Nat}
def nD(nt:Nat)(ops:List Oper):Bool:=ops.all fun o=>(match o.op with| .select .. =>false|_=>true)&&(match o.dst with|some t=>decide (t<nt)|none=>true)
theorem nE(h:nD nt ops=true)(ho:o∈ops):(∀cs b,o.op≠ .select cs b)/\∀t,o.dst=some t->t<nt:=by
 have:=yf.1 h o ho;simp only[zT] at this;refine⟨fun cs b e=>?_,fun t ht=>?_⟩
 ·simp[e] at this
 ·simpa[ht] using this.2
theorem IW(h:worldless C o=true∨qM o=true):∃q,AA C o st=some q:=by
 unfold AA;unfold worldless qM at h;split<;>first|exact⟨_,rfl⟩|skip
 all_goals simp_all
structure VA(C:qG)(ops:Array Oper)(jF:Array Bool)(st:St)(a0:Act)(listed:Array Bool)(a:Act):Prop where
 mono:∀k,jF.getD k true=true->listed.getD k true=true
 size:a.tmps.size=a0.tmps.size
 agree:∀t,(¬ ∃(k:Nat)(ok:Oper),ops[k]?=some ok/\jF.getD k true=false/\ok.dst=some t)->a.tmps.getD t undef=a0.tmps.getD t undef
 NO:∀k t v,rZ C ops jF st t k=some v->listed.getD k true=true->a.tmps.getD t undef=v
theorem ti{ops:Array Oper}{listed:Array Bool}{t k:Nat}(h:qN ops listed t k=true)(hj:ops[j]?=some oj)(hu:listed.getD j true=false)(hd:oj.dst=some t):j=k:=by
 have bK:=(zK.1 hj).1;have:=yf.1 h j (yZ.2 bK);simpa[hu,hj,hd] using this
theorem mM{ops:Array Oper}{listed:Array Bool}{t k:Nat}(h:rZ C ops listed st t k=some v):
  ∃(lo:Oper)(ty:TypeId)(x i off:Nat),ops[k]?=some lo/\lo.op= .load ty (.tmp x)/\listed.getD k true=false/\lo.dst=some t/\lo.guard=none/\qN ops listed t k=true/\qN ops listed x ops.size=true/\
   look x st.env=some (.loc i off)/\FA C ty st (fun s=>s= .v v) (.loc i off):=by
 unfold rZ at h;split at h
 ·rename_i lo V1;split at h
  ·rename_i ty x hop;split at h
   ·rename_i hc;simp only[zT,Bool.not_eq_true',beq_iff_eq,Option.isNone_iff_eq_none] at hc;split at h
    ·rename_i lk d i off hk hu hl;split at h
     ·rename_i b bt cs hx;refine⟨lo,ty,x,i,off,V1,hop,hc.1.1.1.1,hc.1.1.1.2,hc.1.1.2,hc.1.2,hc.2,hl,?_⟩;unfold FA;simp only[hx,typed,hu,hk,h]
     ·cases h
    ·cases h
   ·cases h
  ·cases h
 ·cases h
theorem VA.start{ops:Array Oper}{listed:Array Bool}{a:Act} :VA C ops listed st a listed a:=⟨fun _ h=>h,rfl,fun _ _=>rfl,fun k t v h hk=>by
 obtain⟨lo,ty,x,i,off,_,_,h3,_⟩:=mM h
 rw[h3] at hk;cases hk⟩
theorem VA.step{ops:Array Oper}{Q:Exit->Act->World->Prop}{jF listed:Array Bool}{a0 a:Act}(he:dy C.nt st.env st.own a0)(bK:∀(k:Nat)(ok:Oper),ops[k]?=some ok->∀t,ok.dst=some t->t<C.nt)
  (hV:VA C ops jF st a0 listed a) (hG:fD st.H w/\nu st.own w)   (A2:ops[j]?=some oj) (hj:j∈Region.ready .any ops listed) {K:Act->World->Prop} (h:wpOp C.P ops Q j K a w):
  wpOp C.P ops Q j (fun a' w'=>K a' w'/\VA C ops jF st a0 (listed.setIfInBounds j true) a') a w:=by
 have LR:=(mem_ready.1 hj).1
 have QQ:jF.getD j true=false:=by
  cases hh:jF.getD j true with
  |false=>rfl
  |true=>have:=hV.mono j hh;rw[LR] at this;cases this
 have Si:∀k,jF.getD k true=true->(listed.setIfInBounds j true).getD k true=true:=fun k hk=>by
  by_cases Sj:j=k
  ·subst Sj;rw[QQ] at hk;cases hk
  ·rw[getD_set_ne true Sj];exact hV.mono k hk
 have NP:∀(a':Act),(∀t:Nat,oj.dst≠some t->a'.tmps.getD t undef=a.tmps.getD t undef)->∀t,(¬ ∃(k:Nat)(ok:Oper),ops[k]?=some ok/\jF.getD k true=false/\ok.dst=some t)->a'.tmps.getD t undef=a0.tmps.getD t undef:=fun a' ha t ht=>
  (ha t fun e=>ht ⟨j,oj,A2,QQ,e⟩).trans (hV.agree t ht)
 have Kj:∀(a':Act),(∀t:Nat,oj.dst≠some t->a'.tmps.getD t undef=a.tmps.getD t undef)->∀k t v,rZ C ops jF st t k=some v->k≠j->(listed.setIfInBounds j true).getD k true=true->a'.tmps.getD t undef=v:=fun a' ha k t v hk Sj hl=>by
  obtain⟨lo,ty,x,i,off,_,_,_,_,_,h6,_⟩:=mM hk;rw[getD_set_ne true (Ne.symm Sj)] at hl;exact(ha t fun e=>Sj (ti h6 A2 QQ e).symm).trans (hV.NO k t v hk hl)
 have h1:=IP A2 h;by_cases hd:∃t v,rZ C ops jF st t j=some v
 ·obtain⟨t,v,hd⟩:=hd;obtain⟨lo,ty,x,i,off,g1,g2,g3,g4,g5,g6,g7,g8,g9⟩:=mM hd;obtain rfl:lo=oj:=by rw[A2] at g1;exact(zy g1).symm
  have hx:a.tmps.getD x undef=SV.val st.own (.loc i off):=by
   rw[hV.agree x fun⟨k,ok,k1,k2,k3⟩=>by
    have:=ti g7 k1 k2 k3;have:=(zK.1 k1).1
    omega]
   exact(he.ck x _ g8).2.1
  obtain⟨r,hr,_,kA⟩:=wR ty st _ _ g9;subst hr
  have hex:(execOp a.eval lo).run C.P w= .ok (.value v) w:=by
   have hv:a.eval (.tmp x)=SV.val st.own (.loc i off):=hx;have hr2:=kA w hG.1 hG.2;simp only[SV.val] at hr2;simp[execOp,g2,hv,SV.val,hr2]
  refine wpOp_mono (fun a' w' h2=>⟨h2.1.1,Si,h2.1.2.1.trans hV.size,NP a' h2.1.2.2,fun k t' v' hk hl=>?_⟩) (NN A2 g5 hex h1);by_cases Sj:k=j
  ·subst Sj;obtain⟨lo',ty',x',i',off',k1,k2,k3,k4,k5,k6,k7,k8,k9⟩:=mM hk;obtain rfl:lo'=lo:=by rw[A2] at k1;exact(zy k1).symm
   obtain rfl:t'=t:=by rw[g4] at k4;exact(zy k4).symm
   obtain rfl:v'=v:=by rw[hd] at hk;exact(zy hk).symm
   rw[h2.2,g4];have:=bK k lo' A2 t' g4;have hs:t'<a.tmps.size:=by rw[hV.size,he.size];exact this
   simp[Act.put,hs]
  ·exact Kj a' h2.1.2.2 k t' v' hk Sj hl
 ·refine wpOp_mono (fun a' w' h2=>⟨h2.1,Si,h2.2.1.trans hV.size,NP a' h2.2.2,fun k t v hk hl=>?_⟩) h1;exact Kj a' h2.2.2 k t v hk (fun e=>hd ⟨t,v,e▸hk⟩) hl
theorem NQ{ops:Array Oper}{listed:Array Bool}{a:Act}(he:dy C.nt st.env st.own a):
  ∀(mN:Array Bool)(a':Act)(j:Nat)(o:Oper),VA C ops listed st a mN a'->ops[j]?=some o->j∈Region.ready .any ops mN->qO C ops listed st o=false->dJ C a' o=false:=fun mN a' j o hs A2 hj hT=>by
 have key:∀t (c:Call),o.op= .call c->c.callee= .value (.tmp t)->qO C ops listed st o=false->dJ C a' o=false:=fun t c hc ht hT=>by
  obtain⟨ce,args,ts⟩:=c;dsimp only at ht;subst ht;unfold qO at hT;split at hT
  ·simp[turns,hc] at hT
  ·rw[hc] at hT;dsimp only at hT;split at hT
   ·rename_i kj
    have hd:¬ ∃(k:Nat)(ok:Oper),ops[k]?=some ok/\listed.getD k true=false/\ok.dst=some t:=fun⟨k,ok,hk,hu,hdt⟩=>by
     have bK:=(zK.1 hk).1;have:=yf.1 kj k (yZ.2 bK);simp[hu,hk,hdt] at this
    split at hT
    ·rename_i g x y hl;obtain⟨_,h2,_⟩:=he.ck t _ hl;have hv:a'.tmps.getD t undef= .func (.func g) x y:=by rw[hs.agree t hd,h2];rfl
     simp only[dJ,hc,hv];exact hT
    ·rename_i g x hl;obtain⟨_,h2,_⟩:=he.ck t _ hl;have hv:a'.tmps.getD t undef= .func (.func g) #[] (x.map fun i=>Value.pointer (some ⟨fW st.own i,0,none⟩)).toArray:=by rw[hs.agree t hd,h2];rfl
     simp only[dJ,hc,hv];exact hT
    ·cases hT
   ·split at hT
    ·simp only[Bool.not_eq_false'] at hT;unfold FC at hT;obtain⟨e,he',hT⟩:=yV.1 hT;simp only[zT] at hT;obtain⟨hb,hT⟩:=hT;split at hT
     ·rename_i g x y hl;obtain⟨_,o',Qn,kj⟩:=mem_ready.1 hj;obtain rfl:o=o':=by rw[A2] at Qn;exact zy Qn
      have hle:=kj e he' hb
      have hle':mN.getD e.on true=true:=by
       rcases Nat.lt_or_ge e.on mN.size with h'|h'
       ·simpa[h'] using hle
       ·simp[h']
      have hv:=hs.NO e.on t _ hl hle';simp only[dJ,hc,hv];simpa using hT
     ·cases hT
    ·cases hT
 unfold dJ;split
 ·rename_i t args ts hc;have:=key t _ hc rfl hT;simpa only[dJ,hc] using this
 ·rfl
 ·rename_i eE hni;unfold qO at hT;split at hT
  ·exact hT
  ·split at hT
   ·rename_i t args ts hc;exact absurd hc (eE t args ts)
   ·rename_i t m k x hc;exact absurd hc (hni t m k x)
   ·exact hT
theorem iT(mZ:fy C.P C.fE){ops:Array Oper}{Q:Exit->Act->World->Prop}{aa:List Bx}{W:List Nat}{dX:Act}{k:St->Prop}(hQ:∀st a w,k st->Good C w0 bc aa W dX st a w->Q .normal a w)(hp:∀c a w,¬Q (.panic c) a w)
  (eC:nD C.nt ops.toList=true) (hd:∀o∈ops.toList,∀t,o.dst=some t->t∈W):
  ∀(n:Nat)(listed:Array Bool)(st:St)(a:Act)(w:World),Good C w0 bc aa W dX st a w->qP C ops n listed st k->FV C ops Q n listed a w
 |0,listed,st,a,w,hg,h=>by
  simp only[qP] at h;split at h
  ·rename_i hr;exact⟨hr,hQ st a w h hg⟩
  ·exact h.elim
 |n+1,listed,st,a,w,hg,h=>by
  simp only[qP] at h
  have NR:∀ {i:Nat} {o:Oper},ops[i]?=some o->∀t,o.dst=some t->t<C.nt/\t∈W:=fun hi t ht=>by
   have hm:=Array.mem_toList_iff.2 (Array.mem_of_getElem? hi);exact⟨(nE eC hm).2 t ht,hd _ hm t ht⟩
  have go:∀i,(match ops[i]? with
     |some o=>AG ops o st
       (fun st=>VU C o none st fun s own H=>qP C ops n (listed.setIfInBounds i true) (St.put ⟨st.env,own,H⟩ o.dst s) k)
       (fun st=>qP C ops n (listed.setIfInBounds i true) (st.put o.dst (.v undef)) k)
     |none=>False)->wpOp C.P ops Q i (fun a' w'=>(∀o,ops[i]?=some o->dJ C a o=false->qU w w')/\FV C ops Q n (listed.setIfInBounds i true) a' w') a w:=fun i h=>by
   split at h
   ·rename_i o ho;obtain⟨mw,he,h⟩:=pJ hg.env h;have gu:Good C w0 bc aa W dX ⟨mw,st.own,st.H⟩ a w:=⟨he,hg.iA,hg.cB⟩
    simp only[wpOp,ho];rcases h with⟨hw,h⟩|⟨hw,h⟩
    ·rw[pI hw];refine .inl (CX mZ (st:=⟨mw,st.own,st.H⟩) he hg.iA (fun s dQ H' w' hf oJ jK hs ht=>⟨fun o' Qn=>?_,?_⟩) h)
     ·obtain rfl:=zy Qn;exact ht
     ·exact iT mZ hQ hp eC hd n _ _ _ _ (gu.put jK hs (NR ho) oJ) hf
    ·rw[nI (by simp[hw])];exact⟨fun _ _ _=>(bL.refl _ _).Iy,iT mZ hQ hp eC hd n _ _ _ _ (gu.put (s:= .v undef) (aW.refl _) hg.iA (NR ho) trivial) h⟩
   ·exact h.elim
  split at h
  ·rename_i hr;exact⟨fun _=>hQ st a w h hg,by rw[hr];simp⟩
  ·rename_i eE;split at h
   ·rename_i i hf;have hi:=List.mem_of_find?_eq_some hf;have hc:=List.find?_some hf;split at h
    case h_2=>exact h.elim
    rename_i o ho;simp only[Kd,ho,zT,Bool.or_eq_true] at hc;obtain⟨dj,hc⟩:=hc;have QN:∀(j:Nat)(o:Oper) cs b,ops[j]?=some o->o.op≠ .select cs b:=fun j o cs b hj=>(nE eC (Array.mem_toList_iff.2 (Array.mem_of_getElem? hj))).1 cs b;obtain⟨mw,he,h⟩:=pJ hg.env h;have gu:Good C w0 bc aa W dX ⟨mw,st.own,st.H⟩ a w:=⟨he,hg.iA,hg.cB⟩
    have Cp:worldless C o=true∨qM o=true:=by
     rcases hc with hc|hc
     ·exact .inl hc
     ·exact .inr hc.1.1
    obtain⟨G,hG,hGw,Xf,Xg⟩:∃G:World->Prop,G w/\(∀w,G w->worldless C o=true∨(fD st.H w/\nu st.own w/\qM o=true))/\((∀w,G w)∨ ∀w,G w->fD st.H w/\nu st.own w)/\Calm (qO C ops listed st) ops G i listed:=by
     rcases hc with hc|hc
     ·exact⟨fun _=>True,trivial,fun _ _=> .inl hc,.inl fun _=>trivial,.inl fun _=>trivial⟩
     ·refine⟨fun w=>fD st.H w/\nu st.own w,⟨hg.iA.dI,hg.iA.aE.c⟩,fun _ h=> .inr ⟨h.1,h.2,hc.1.1⟩,.inr fun _ h=>h,.inr ⟨fun w w' hb h=>⟨h.1.Iz hb,h.2.Iz hb⟩,fun k hk=>?_,fun j oj A2 LF Sh ht=>?_⟩⟩
      ·have bK:k<ops.size:=by
        rw[waits] at hk;split at hk
        ·rename_i o' Qn;exact(zK.1 Qn).1
        ·cases hk
       have:=yf.1 hc.2 k (yZ.2 bK);simpa[hk] using this
      ·have bK:=(zK.1 A2).1;have:=yf.1 hc.1.2 j (yZ.2 bK);simpa[Sh,A2,ht] using this
    obtain⟨V,hV0,hV,hT⟩:∃V:Array Bool->Act->Prop,V listed a/\(∀(listed:Array Bool)(a:Act)(w:World)(j:Nat)(oj:Oper),V listed a->G w->ops[j]?=some oj->j∈Region.ready .any ops listed->∀K,wpOp C.P ops Q j K a w->wpOp C.P ops Q j (fun a' w'=>K a' w'/\V (listed.setIfInBounds j true) a') a w)/\
      ((∀w,G w)∨ ∀(mN:Array Bool)(a:Act)(j:Nat)(o:Oper),V mN a->ops[j]?=some o->j∈Region.ready .any ops mN->qO C ops listed st o=false->dJ C a o=false):=by
     by_cases kj:∀w,G w
     ·exact⟨fun _ _=>True,trivial,fun listed a w j oj _ _ _ _ K h=>wpOp_mono (fun _ _ h=>⟨h,trivial⟩) h,.inl kj⟩
     ·rcases Xf with Xf|Xf
      ·exact absurd Xf kj
      ·exact⟨VA C ops listed st a,VA.start,fun mN a' w' j oj hVa hGw A2 hj K h=>VA.step hg.env (fun k ok hk t ht=>(NR hk t ht).1) hVa (Xf w' hGw) A2 hj h,.inr (NQ hg.env)⟩
    have fin:∀v,iI G C.P ops o v a->FV C ops Q n (listed.setIfInBounds i true) (a.put o.dst v) w->FV C ops Q (n+1) listed a w:=fun v hy hv=>
     IV (T:=qO C ops listed st) (V:=V) ho QN hp hV hT n listed a w hV0 (Region.free_spec ho dj) hi hy hG Xg hv
    rcases h with⟨hw,h⟩|⟨hw,h⟩
    ·obtain⟨q,hq⟩:=IW (st:=⟨mw,st.own,st.H⟩) Cp;simp only[VU,hq] at h;obtain⟨s,hf,oJ,hy⟩:=wS (f:=fun s=>qP C ops n (listed.setIfInBounds i true) (St.put ⟨mw,st.own,st.H⟩ o.dst s) k) o _ hq h a he;exact fin _ (.inl ⟨hw,fun w' hG'=>hy a w' he ((hGw w' hG').imp id fun h=>⟨h.1,h.2.1,.inl h.2.2⟩)⟩) (iT mZ hQ hp eC hd n _ _ _ _ (gu.put (aW.refl _) hg.iA (NR ho) oJ) hf)
    ·exact fin _ (.inr ⟨hw,rfl⟩) (iT mZ hQ hp eC hd n _ _ _ _ (gu.put (s:= .v undef) (aW.refl _) hg.iA (NR ho) trivial) h)
   ·refine⟨fun h0=>absurd h0 eE,fun i hi=>go i ?_⟩
    have:∀(l:List Nat)(f:Nat->Prop),TZ l f->∀i∈l,f i:=fun l f=>by
     induction l with
     |nil=>intro _ i hi;cases hi
     |cons x r ih=>
      intro h i hi
      cases r with
      |nil=>simp at hi;subst hi;exact h
      |cons y r=>
       rcases zm.1 hi with rfl|hi
       ·exact h.1
       ·exact ih h.2 i hi
    exact this _ _ h i hi
end
open Go Go.RowKit

theorem wp_loop_ghost{α:Type}{P:Program}{c:Code}{Q:Exit->Act->World->Prop}{a:Act}(I:α->Act->World->Prop)(μ:α->Nat)(Xh:α)(v7:I Xh a w)
  (round:∀x a w,I x a w->c.wp P (Exit.then (fun a' w'=>∃x',I x' a' w'/\μ x'<μ x) Q) a w):(Code.loop c).wp P Q a w:=by
 have least:∀a w,(∃x,I x a w)->∃m,(∃x,I x a w/\μ x=m)/\∀x,I x a w->m<=μ x:=fun a w=>by
  rintro⟨x,hx⟩;generalize hn:μ x=n
  induction n using Nat.strongRecOn generalizing x with
  |_ n ih=>
   by_cases h:∃y,I y a w/\μ y<n
   ·obtain⟨y,hy,bK⟩:=h;exact ih (μ y) bK y hy rfl
   ·exact⟨n,⟨x,hx,hn⟩,fun y hy=>Nat.le_of_not_lt fun bK=>h ⟨y,hy,bK⟩⟩
 classical
 let m:Act->World->Nat:=fun a w=>if h:∃x,I x a w then(least a w h).choose else 0
 have hm:∀a w,(∃x,I x a w)->(∃x,I x a w/\μ x=m a w)/\∀x,I x a w->m a w<=μ x:=fun a w h=>by
  have:=(least a w h).choose_spec;simp only[m,dif_pos h];exact this
 refine wp_loop (fun a w=>∃x,I x a w) m ⟨Xh,v7⟩ fun a w hx=>?_;obtain⟨⟨x,hI,V2⟩,_⟩:=hm a w hx;refine wp_mono (round x a w hI) fun e a' w' hq=>?_
 cases e with
 |normal=>
  obtain⟨x',Xi,bK⟩:=hq;refine⟨⟨x',Xi⟩,?_⟩;have:=(hm a' w' ⟨x',Xi⟩).2 x' Xi
  show m a' w'<m a w
  omega
 |_=>exact hq

theorem NS{y:Bx}(hb:y.b=x.b)(hm:y.map=x.map)(ht:y.ty=x.ty):x.set y.cs=y:=by
 cases x;cases y;simp_all[Bx.set]
theorem pK{own:List Bx} :∀ {is:List Nat} {vs:List Value},pz own is=some vs->vs.length=is.length/\fP vs=(is.filterMap fun i=>(own[i]?).map Bx.cs)/\∀i∈is,∃x,own[i]?=some x
 | [],vs,h=>by simp[pz] at h;subst h;exact⟨rfl,rfl,by simp⟩
 |i::r,vs,h=>by
  simp only[pz] at h;split at h
  ·rename_i x l hx hl;obtain rfl:=zy h;obtain⟨h1,h2,h3⟩:=pK hl;refine⟨by simp[h1],?_,fun j hj=>?_⟩
   ·simp only[fP,zB] at h2⊢;rw[List.filterMap_cons,hx];simp only[yy];rw[←h2];simp[Value.cells]
   ·rcases zm.1 hj with rfl|hj
    ·exact⟨x,hx⟩
    ·exact h3 j hj
  ·cases h
theorem iJ{own:List Bx} :∀ {is:List Nat},(∀i∈is,∃x,own[i]?=some x)->∀k:Nat,(is.filterMap fun i=>(own[i]?).map Bx.cs)[k]?=(is[k]?).bind fun i=>(own[i]?).map Bx.cs
 | [],_,k=>by simp
 |i::r,h,k=>by
  obtain⟨x,hx⟩:=h i zr;rw[List.filterMap_cons,hx];simp only[yy]
  cases k with
  |zero=>simp[hx]
  |succ k=>
   simp only[yR];exact iJ (fun j hj=>h j (zj _ hj)) k
theorem lO{st:St} :∀ {ss:List Nat} {vs:List Value},oL st ss=some vs->vs.length=ss.length/\∀k s:Nat,ss[k]?=some s->∃sv,look s st.env=some sv/\vs[k]?=some (sv.val st.own)
 | [],vs,h=>by simp[oL] at h;subst h;exact⟨rfl,fun k s hk=>by simp at hk⟩
 |s::r,vs,h=>by
  simp only[oL] at h;split at h
  ·rename_i v l hv hl;obtain rfl:=zy h;obtain⟨h1,h2⟩:=lO hl;refine⟨by simp[h1],fun k s' hk=>?_⟩
   cases k with
   |zero=>simp at hk;subst hk;exact⟨v,hv,rfl⟩
   |succ k=>simpa using h2 k s' (by simpa using hk)
  ·cases h
theorem tj(h:lW dF aE st=some vs):
  oL st dF=some (vs.take dF.length)/\pz st.own aE=some (vs.drop dF.length):=by
 unfold lW at h;split at h
 ·rename_i a b ha hb;obtain rfl:=zy h;have:=(lO ha).1;rw[←this,List.take_left',List.drop_left']<;>first|exact⟨ha,hb⟩|rfl
 ·cases h
theorem FW{own:List Bx}(he:aW own dQ)(hb:pz dQ aE=some vs)
  (kB:jJ aE own own.length=[]∨jJ aE dQ own.length=jJ aE own own.length):gr own aE (fP vs)=dQ.take own.length:=by
 obtain⟨_,hc,mZ⟩:=pK hb;apply List.ext_getElem?;intro j;rw[jk]
 cases hx:own[j]? with
 |none=>
  have:own.length<=j:=by simpa using hx
  rw[List.getElem?_eq_none (by simp;omega)]
  rfl
 |some x=>
  have bK:=pC hx;obtain⟨x',V2,h1,h2,h3⟩:=he.same j x hx;rw[zD,pI bK,V2];simp only[yy,Option.some.injEq];rw[hc];split
  ·rename_i c ha;obtain⟨k,h4,h5⟩:=wg ha;rw[iJ mZ,h4] at h5;simp only[yj,V2,yy,Option.some.injEq] at h5;subst h5;exact NS h1 h2 h3
  ·rename_i ha
   have hl:(aE.filterMap fun i=>(dQ[i]?).map Bx.cs).length=aE.length:=by
    rw[←hc];simp[fP,(pK hb).1]
   have hnj:=nA hl ha
   have kj:∀i∈(yi own.length).filter (fun i=> !aE.contains i),(∃x,own[i]?=some x)/\∃x,dQ[i]?=some x:=fun i hi=>by
    have:=yZ.1 (List.mem_filter.1 hi).1;have hl:=he.len;exact⟨⟨_,zu this⟩,⟨_,zu (by omega)⟩⟩
   have rb:j∈(yi own.length).filter (fun i=> !aE.contains i):=List.mem_filter.2 ⟨yZ.2 bK,by simpa using hnj⟩;obtain⟨k,hk⟩:=yr.1 rb;have g1:=iJ (fun i hi=>(kj i hi).1) k;have g2:=iJ (fun i hi=>(kj i hi).2) k;rw[hk] at g1 g2;simp only[yj,hx,V2,yy] at g1 g2
   have Ib:x'.cs=x.cs:=by
    unfold jJ at kB;rcases kB with hr|hr
    ·rw[hr] at g1;simp at g1
    ·rw[hr,g1] at g2;exact(zy g2).symm
   have:=NS h1 h2 h3;rw[Ib] at this;rw[←this]
   cases x;rfl
theorem wY{ss:List Nat} :∀ {vs:List Value} {env:List (Nat×SV)} {s:Nat} {sv:SV},vs.length=ss.length->look s (lj ss vs env)=some sv->(∃(k:Nat)(v:Value),ss[k]?=some s/\vs[k]?=some v/\sv= .v v)∨look s env=some sv:=by
 induction ss with
 |nil=>intro vs env s sv _ h;cases vs<;>exact .inr (by simpa[lj] using h)
 |cons x r ih=>
  intro vs env s sv hl h
  cases vs with
  |nil=>simp at hl
  |cons v vs=>
   simp only[lj,look] at h;split at h
   ·rename_i e;subst e;exact .inl ⟨0,v,rfl,rfl,(zy h).symm⟩
   ·rcases ih (by simpa using hl) h with⟨k,u,h1,h2,h3⟩|h
    ·exact .inl ⟨k+1,u,by simpa using h1,by simpa using h2,h3⟩
    ·exact .inr h
theorem tk{VV aU:List (List Value)}{f:Prop}(h:oM VV aU f):(VV=[]∨aU=VV)/\f:=by
 unfold oM at h;split at h
 ·exact⟨.inl rfl,h⟩
 ·exact⟨.inr h.1,h.2⟩

section
variable {C : qG} {w0 : World} {bc : List Nat}
def Qof(C:qG)(w0:World)(bc:List Nat)(ks:Ks)(aa:List Bx)(W:List Nat)(dX:Act):Exit->Act->World->Prop
 | .normal,a,w=>∃st,ks.n st/\Good C w0 bc aa W dX st a w
 | .exit i,a,w=>∃st,ks.x i st/\Good C w0 bc aa W dX st a w
 | .ret,a,w=>∃st,ks.r st/\Good C w0 bc aa W dX st a w
 |_,_,_=>False
theorem iR.shorter{own:List Bx}(h:iR C w0 bc dQ H w)(he:∀x∈own,x∈dQ)(hn:(own.map Bx.b).Nodup):iR C w0 bc own H w:=
 ⟨h.dI,⟨fun x hx=>h.aE.ok x (he x hx),fun x hx=>h.aE.hid x (he x hx),hn⟩,fun x hx=>h.mK x (he x hx),h.below,h.next,h.aa,h.jo⟩
theorem iU{t:Nat}(ho:o∈ops)(ht:o.dst=some t):t∈writes ops:=zL.2 ⟨o,ho,ht⟩
theorem IX{t:Tmp}(h:ND C ops=some t):∃o∈ops,o.dst=some t:=by
 unfold ND at h;split at h
 ·rename_i o _ hl;split at h
  ·exact⟨o,List.mem_of_getLast? hl,h⟩
  ·cases h
 ·cases h
theorem mO{f:Prop}{a b:List Bx}(h:r7 f a b):b=a/\f:=by
 unfold r7 at h;split at h
 ·exact⟨rfl,h⟩
 ·exact h
theorem A3{φ:Prop}{s:SV}{own:List Bx}(h:Ke φ s):s.val own= .bool (@decide φ (zh φ)):=by
 unfold Ke at h;split at h
 ·simp[SV.val,h]
 ·simp[SV.val,h]
 ·rename_i q d;simp only[SV.val,Value.bool.injEq];exact(decide_eq_decide.2 h).symm
 ·rename_i b;simp only[SV.val,Value.bool.injEq]
  cases b<;>simp_all
 ·exact h.elim
theorem re{n:Nat}{gM:St} :∀ {ts:List (Nat×TypeId)} {is:List Nat} {xs:List Bx},oN n gM ts=some is->pick gM.own is=some xs->
  uJ ts (xs.map Bx.b) (fP (pA xs))=xs/\is.Nodup/\(∀i∈is,n<=i)/\xs.length=ts.length/\
  ∀(k s:Nat)(t:TypeId),ts[k]?=some (s,t)->∃(i:Nat)(x:Bx),look s gM.env=some (.loc i 0)/\gM.own[i]?=some x/\xs[k]?=some x
 | [],is,xs,h,hp=>by
  simp only[oN,Option.some.injEq] at h;subst h;simp only[pick,Option.some.injEq] at hp;subst hp
  exact⟨rfl,List.nodup_nil,fun _ h=>(by cases h),rfl,fun k s t h=>(by simp at h)⟩
 |(s,t)::r,is,xs,h,hp=>by
  simp only[oN] at h;split at h
  case h_2=>cases h
  rename_i i l hl hr;split at h
  case h_2=>cases h
  rename_i x hx;split at h
  case h_2=>cases h
  rename_i hc;obtain rfl:=zy h;simp only[zT,Bool.not_eq_true',Nat.ble_eq,List.contains_eq_mem,decide_eq_false_iff_not] at hc;obtain⟨⟨⟨hm,hn⟩,ht⟩,hni⟩:=hc;simp only[pick,hx] at hp;split at hp
  case h_2=>cases hp
  rename_i y l' hy W2;obtain rfl:=zy hy;obtain rfl:=zy hp;obtain⟨h1,h2,h3,h4,h5⟩:=re hr W2;obtain rfl:=Nat.eq_of_beq_eq_true ht;refine⟨?_,List.nodup_cons.2 ⟨hni,h2⟩,fun j hj=>?_,by simp[h4],fun k s' t' hk=>?_⟩
  ·obtain⟨b,m,ty,cs⟩:=x;dsimp only at hm;subst hm
   show(⟨b,false,ty,_⟩:Bx)::uJ r (l'.map Bx.b) (fP (pA l'))=_
   rw[h1];rfl
  ·rcases zm.1 hj with rfl|hj
   ·exact hn
   ·exact h3 j hj
  ·cases k with
   |zero=>
    simp only[List.getElem?_cons_zero,Option.some.injEq,Prod.mk.injEq] at hk;obtain⟨rfl,_⟩:=hk
    exact⟨i,x,hl,hx,rfl⟩
   |succ k=>exact h5 k s' t' (by simpa using hk)
theorem tm{env:List (Nat×SV)} :∀ {ts:List (Nat×TypeId)} {n s:Nat} {sv:SV},look s (qS env n ts)=some sv->(∃(k:Nat)(t:TypeId),ts[k]?=some (s,t)/\sv= .loc (n+k) 0)∨look s env=some sv
 | [],n,s,sv,h=> .inr h
 |(s',t')::r,n,s,sv,h=>by
  simp only[qS,look] at h;split at h
  ·rename_i e;subst e;exact .inl ⟨0,t',rfl,(zy h).symm⟩
  ·rcases tm h with⟨k,t,h1,h2⟩|h
   ·exact .inl ⟨k+1,t,by simpa using h1,by rw[h2];congr 1;omega⟩
   ·exact .inr h
theorem FX:∀ {bs:List Nat} {f:List Nat->Prop},alN bs.length f->f bs
 | [],_,h=>h
 |b::bs,_,h=>FX (bs:=bs) (h b)
theorem pL:∀ {ops:List Oper} {s:Nat} {t:TypeId},(s,t)∈qR ops->∃o∈ops,o.dst=some s
 | [],_,_,h=>by cases h
 |o::r,s,t,h=>by
  simp only[qR] at h;split at h
  ·rename_i d _ _ hd;rcases zm.1 h with h|h
   ·obtain⟨rfl,_⟩:=Prod.mk.inj h;exact⟨o,zr ..,hd⟩
   ·obtain⟨o',h1,h2⟩:=pL h;exact⟨o',zj _ h1,h2⟩
  ·obtain⟨o',h1,h2⟩:=pL h;exact⟨o',zj _ h1,h2⟩
theorem DZ{aa:List Bx}{W:List Nat}{dX a a':Act}{k:St->Prop}{p:List Value->Prop}{ts:List (Nat×TypeId)}(T8:∀s t,(s,t)∈ts->∃o∈ops,o.dst=some s)(hg:Good C w0 bc aa W dX st a w)(gu:Good C w0 bc st.own (writes ops) a gM a' w')
  (hW:∀o∈ops,∀t,o.dst=some t->t∈W) (hl:AJ ts (uI C.P ts) p st gM)
  (hk:alN ts.length fun bs=>K1.Lz (uI C.P ts) fun vs=>p vs->k ⟨qS (gh ops st.env) st.own.length ts,st.own++uJ ts bs (fP vs),st.H⟩):∃st,k st/\Good C w0 bc aa W dX st a' w':=by
 unfold AJ at hl;split at hl
 case h_2=>exact hl.elim
 rename_i is his;split at hl
 case h_2=>exact hl.elim
 rename_i xs Se;obtain⟨qD,kX,hl⟩:=mO hl;obtain⟨oR,hp⟩:=jj hl;obtain⟨h1,h2,h3,h4,h5⟩:=re his Se;have hlen:(xs.map Bx.b).length=ts.length:=by simp[h4]
 rw[←hlen] at hk;have Ct:=K1.lX oR (FX hk) hp;rw[h1] at Ct;obtain⟨Kk,hpat⟩:=mY Se
 have Sf:∀x∈xs,∃i,st.own.length<=i/\gM.own[i]?=some x:=fun x hx=>by
  obtain⟨j,hj⟩:=yr.1 hx;have bK:j<is.length:=by rw[←Kk];exact(zw.1 hj).1
  obtain⟨y,g1,g2⟩:=hpat j _ (zu bK);rw[hj] at g2;obtain rfl:=zy g2;exact⟨_,h3 _ (List.getElem_mem bK),g1⟩
 have rb:∀x∈st.own++xs,x∈gM.own:=fun x hx=>by
  rcases zd.1 hx with hx|hx
  ·rw[←qD] at hx;exact zH hx
  ·obtain⟨i,_,hi⟩:=Sf x hx;exact zt hi
 have Lx:((st.own++xs).map Bx.b).Nodup:=by
  rw[List.map_append,List.nodup_append];refine⟨hg.iA.aE.apart,(AR gu.iA.aE h2 Se).apart,fun b hb b' Fk e=>?_⟩;obtain⟨x,hx,rfl⟩:=zM.1 hb;obtain⟨y,hy,rfl⟩:=zM.1 Fk;obtain⟨j,Sk,Ub⟩:=Sf y hy;obtain⟨i,hi⟩:=yr.1 hx;have hi':=(zw.1 hi).1;rw[←qD,zD] at hi;rw[pI hi'] at hi;have ha:=List.pairwise_iff_getElem.1 gu.iA.aE.apart i j (by rw[ym];exact(zw.1 hi).1) (by rw[ym];exact(zw.1 Ub).1) (by omega);rw[List.getElem_map,List.getElem_map,(zw.1 hi).2,(zw.1 Ub).2] at ha;exact ha e
 have jK:aW st.own (st.own++xs):=aW.append _ _;have Fi:=gu.iA.shorter rb Lx;refine⟨_,Ct,⟨⟨gu.env.size,gu.env.defers,fun s sv hs=>?_⟩,⟨fun b kb hb=>gu.iA.dI b kb (kX b kb hb),⟨Fi.aE.ok,fun x hx=>?_,Fi.aE.apart⟩,Fi.mK,gu.iA.below,hg.iA.next,hg.iA.aa,hg.iA.jo⟩,⟨hg.cB.ext.trans jK,fun s hs=>?_⟩⟩⟩
 ·rcases tm hs with⟨j,t,hj,rfl⟩|hs
  ·obtain⟨i,x,g1,g2,g3⟩:=h5 j s t hj;obtain⟨e1,e2,_⟩:=gu.env.ck s _ g1;have Ff:(st.own++xs)[st.own.length+j]?=some x:=by rw[zY (by omega)];simpa using g3
   refine⟨e1,?_,(zw.1 Ff).1⟩;rw[e2];simp[SV.val,fW,g2,Ff]
  ·obtain⟨g1,g2⟩:=jW (p:=fun s=> !(writes ops).contains s) hs;obtain⟨g3,g4,g5⟩:=hg.env.ck s sv g1;exact⟨g3,by rw[gu.cB.cR s (by simpa using g2),g4,SV.y7 jK g5],SV.y8 jK.len g5⟩
 ·have:=Fi.aE.hid x hx
  cases hb:st.H x.b with
  |none=>rfl
  |some kb=>rw[kX _ _ hb] at this;cases this
 ·rw[gu.cB.cR s (fun hm=>?_),hg.cB.cR s hs];obtain⟨o,ho,ht⟩:=zL.1 hm;exact hs (hW o ho _ ht)
theorem D0{x y:Code}{t:Tmp}(h:DJ x y=some t):∃o∈aT x,o.dst=some t:=by
 unfold DJ at h;split at h
 ·split at h
  ·rename_i hb;obtain rfl:=zy h;simp only[zT] at hb;obtain⟨o,ho,hd⟩:=yV.1 hb.2;exact⟨o,by simp[aT,ho],by simpa using hd⟩
  ·cases h
 ·cases h
theorem CD(mZ:fy C.P C.fE){ops:Array Oper}{Q:Exit->Act->World->Prop}{aa:List Bx}{W:List Nat}{dX:Act}{k:St->Prop}(hQ:∀st a w,k st->Good C w0 bc aa W dX st a w->Q .normal a w)
   {a:Act}  (hd:∀o∈ops.toList,∀t,o.dst=some t->t<C.nt/\t∈W) (hg:Good C w0 bc aa W dX st a w) (h:DI C ops st k):wpList C.P ops Q ops.toList a w:=by
 unfold DI at h;split at h
 ·split at h
  ·rename_i t ht;obtain⟨φ,hops,hk⟩:=h;obtain⟨o,ho,hot⟩:=IX ht;refine nC (aa:=st.own) (W:=writes ops.toList) (dX:=a) mZ (fun gM a' w' hl gu=>?_) _ _ _ _ (fun o ho t ht=>⟨(hd o ho t ht).1,iU ho ht⟩) ⟨hg.env,hg.iA,⟨aW.refl _,fun _ _=>rfl⟩⟩ hops;obtain⟨qD,kX,hl⟩:=mO hl;refine hQ _ _ _ hk ⟨⟨gu.env.size,gu.env.defers,fun s sv hs=>?_⟩,⟨fun b kb hb=>gu.iA.dI b kb (kX b kb hb),⟨fun x hx=>gu.iA.aE.ok x (qD▸hx),hg.iA.aE.hid,hg.iA.aE.apart⟩,hg.iA.mK,gu.iA.below,hg.iA.next,hg.iA.aa,hg.iA.jo⟩,⟨hg.cB.ext,fun s hs=>?_⟩⟩
   ·simp only[look] at hs;split at hs
    ·rename_i e;subst e;obtain rfl:=zy hs;split at hl
     ·rename_i s' LP;obtain⟨_,h2,_⟩:=gu.env.ck _ _ LP;exact⟨(hd o ho _ hot).1,by rw[h2,A3 hl];rfl,trivial⟩
     ·exact hl.elim
    ·obtain⟨h1,h2⟩:=jW (p:=fun s=> !(writes ops.toList).contains s) hs;obtain⟨h3,h4,h5⟩:=hg.env.ck s sv h1;exact⟨h3,by rw[gu.cB.cR s (by simpa using h2),h4],h5⟩
   ·rw[gu.cB.cR s (fun hm=>?_),hg.cB.cR s hs];obtain⟨o,ho,ht⟩:=zL.1 hm;exact hs (hd o ho _ ht).2
  ·exact nC mZ hQ _ _ _ _ hd hg h
 ·exact nC mZ hQ _ _ _ _ hd hg h
variable (D1 : C.P.follows .mixedOrders = true)
include D1
omit D1 in
theorem D2{kinds:List K1}{I:List Value->Heap->Prop}{aa:List Bx}{W:List Nat}{dX a a':Act}{k:St->Prop}(Xj:∀s∈dF,s∈writes ops/\s<C.nt)(hg:Good C w0 bc aa W dX st a w)(gu:Good C w0 bc st.own (writes ops) a gM a' w')
  (hW:∀o∈ops,∀t,o.dst=some t->t∈W) (hl:AK dF aE kinds I st.own gM)
  (hk:K1.Lz kinds fun vs=>∀H',Next C.aa C.H0 H'->I vs H'->k ⟨lj dF (vs.take dF.length) (gh ops st.env),gr st.own aE (fP (vs.drop dF.length)),H'⟩):∃st,k st/\Good C w0 bc aa W dX st a' w':=by
 unfold AK at hl;split at hl
 case h_2=>exact hl.elim
 rename_i oO hv;obtain⟨oR,hl⟩:=jj hl;obtain⟨hr,hI⟩:=tk hl;have Ct:=K1.lX oR hk gM.H gu.iA.next hI;obtain⟨IY,hbv⟩:=tj hv;have qD:gr st.own aE (fP (oO.drop dF.length))=gM.own.take st.own.length:=FW gu.cB.ext hbv hr;have jK:aW st.own (gr st.own aE (fP (oO.drop dF.length))):=nY _ _ _;refine⟨_,Ct,⟨⟨gu.env.size,gu.env.defers,fun s sv hs=>?_⟩,?_,⟨hg.cB.ext.trans jK,fun s hs=>?_⟩⟩⟩
 ·obtain⟨hl,Ff⟩:=lO IY;rcases wY hl hs with⟨k,v,h1,h2,rfl⟩|hs
  ·obtain⟨sv,h3,h4⟩:=Ff k s h1;rw[h2] at h4;obtain⟨_,h5,_⟩:=gu.env.ck s sv h3;exact⟨(Xj s (zt h1)).2,by rw[h5];exact(zy h4).symm,trivial⟩
  ·obtain⟨h1,h2⟩:=jW (p:=fun s=> !(writes ops).contains s) hs;obtain⟨h3,h4,h5⟩:=hg.env.ck s sv h1;refine⟨h3,?_,SV.y8 jK.len h5⟩;rw[gu.cB.cR s (by simpa using h2),h4,SV.y7 jK h5]
 ·refine gu.iA.shorter (fun y hy=>?_) ?_
  ·rw[qD] at hy;exact zH hy
  ·rw[show(gr st.own aE (fP (oO.drop dF.length))).map Bx.b=st.own.map Bx.b from wh _ _ _];exact hg.iA.aE.apart
 ·rw[gu.cB.cR s (fun hm=>?_),hg.cB.cR s hs];obtain⟨o,ho,ht⟩:=zL.1 hm;exact hs (hW o ho _ ht)
theorem wZ(mZ:fy C.P C.fE):∀(c:Code)(ks:Ks)(aa:List Bx)(W:List Nat)(dX:Act)(st:St)(a:Act)(w:World),nD C.nt (aT c)=true->(∀o∈aT c,∀t,o.dst=some t->t∈W)->
  Good C w0 bc aa W dX st a w->gw C c ks st->c.wp C.P (Qof C w0 bc ks aa W dX) a w:=by
 intro c
 induction c with
 |skip=>intro ks aa W dX st a w _ _ hg h;exact wp_skip ⟨st,h,hg⟩
 |label l=>intro ks aa W dX st a w _ _ hg h;exact wp_label ⟨st,h,hg⟩
 |exit i=>intro ks aa W dX st a w _ _ hg h;exact wp_exit ⟨st,h,hg⟩
 |ret=>intro ks aa W dX st a w _ _ hg h;exact wp_ret ⟨st,h,hg⟩
 |goto l=>intro ks aa W dX st a w _ _ hg h;exact h.elim
 |refuse s=>intro ks aa W dX st a w _ _ hg h;exact h.elim
 |rangeFunc f ps x y=>intro ks aa W dX st a w _ _ hg h;exact h.elim
 |seq x y Xk Xl=>
  intro ks aa W dX st a w eC hW hg h;simp only[aT,nD,List.all_append,zT] at eC
  have plain:gw C x ⟨gw C y ks,ks.x,ks.r⟩ st->(Code.seq x y).wp C.P (Qof C w0 bc ks aa W dX) a w:=fun h=>by
   refine wp_seq (wp_mono (Xk _ aa W dX st a w eC.1 (fun o ho=>hW o (by simp[aT,ho])) hg h) fun e a' w' hq=>?_)
   cases e with
   |normal=>
    obtain⟨gM,hk,gu⟩:=hq
    exact Xl ks aa W dX gM a' w' eC.2 (fun o ho=>hW o (by simp[aT,ho])) gu hk
   |_=>exact hq
  simp only[gw] at h;split at h
  ·split at h
   ·exact plain h
   ·split at h
    ·exact plain h
    ·rename_i t ht;obtain⟨Pd,hx,hy⟩:=h;have Sm:∀o∈aT x,∀t,o.dst=some t->t<C.nt:=fun o ho=>(nE (ops:=aT x) (by simpa[nD] using eC.1) ho).2;refine wp_seq (wp_mono (Xk _ st.own (writes (aT x)) a st a w eC.1 (fun o ho t ht=>iU ho ht) ⟨hg.env,hg.iA,⟨aW.refl _,fun _ _=>rfl⟩⟩ hx) fun e a' w' hq=>?_)
     cases e with
     |normal=>
      obtain⟨gM,hl,gu⟩:=hq;obtain⟨qD,kX,hl⟩:=mO hl;split at hl
      case h_2=>exact hl.elim
      rename_i s' LP;obtain⟨oR,hP⟩:=jj hl;have VW:=K1.lX oR hy hP;obtain⟨g1,g2,_⟩:=gu.env.ck _ _ LP;refine Xl ks aa W dX ⟨lj [t] [s'.val gM.own] (gh (aT x) st.env),st.own,st.H⟩ a' w' eC.2 (fun o ho=>hW o (by simp[aT,ho])) ⟨⟨gu.env.size,gu.env.defers,fun s sv hs=>?_⟩,⟨fun b kb hb=>gu.iA.dI b kb (kX b kb hb),⟨fun x hx=>gu.iA.aE.ok x (qD▸hx),hg.iA.aE.hid,hg.iA.aE.apart⟩,hg.iA.mK,gu.iA.below,hg.iA.next,hg.iA.aa,hg.iA.jo⟩,⟨hg.cB.ext,fun s hs=>?_⟩⟩ VW
      ·simp only[lj,look] at hs;split at hs
       ·rename_i e;subst e;obtain rfl:=zy hs;exact⟨g1,g2,trivial⟩
       ·obtain⟨h1,h2⟩:=jW (p:=fun s=> !(writes (aT x)).contains s) hs;obtain⟨h3,h4,h5⟩:=hg.env.ck s sv h1;exact⟨h3,by rw[gu.cB.cR s (by simpa using h2),h4],h5⟩
      ·rw[gu.cB.cR s (fun hm=>?_),hg.cB.cR s hs];obtain⟨o,ho,ht⟩:=zL.1 hm
       exact hs (hW o (by simp[aT,ho]) _ ht)
     |exit i=>obtain⟨_,hf,_⟩:=hq;exact hf.elim
     |ret=>obtain⟨_,hf,_⟩:=hq;exact hf.elim
     |_=>exact hq
  ·split at h
   ·exact plain h
   ·rename_i t ht;obtain⟨φ,hx,hy⟩:=h;obtain⟨o,ho,hot⟩:=D0 ht;have Sm:∀o∈aT x,∀t,o.dst=some t->t<C.nt:=fun o ho=>(nE (ops:=aT x) (by simpa[nD] using eC.1) ho).2;refine wp_seq (wp_mono (Xk _ st.own (writes (aT x)) a st a w eC.1 (fun o ho t ht=>iU ho ht) ⟨hg.env,hg.iA,⟨aW.refl _,fun _ _=>rfl⟩⟩ hx) fun e a' w' hq=>?_)
    cases e with
    |normal=>
     obtain⟨gM,hl,gu⟩:=hq;obtain⟨qD,kX,hl⟩:=mO hl;refine Xl ks aa W dX ⟨(t,.p φ (zh φ))::gh (aT x) st.env,st.own,st.H⟩ a' w' eC.2 (fun o ho=>hW o (by simp[aT,ho])) ⟨⟨gu.env.size,gu.env.defers,fun s sv hs=>?_⟩,⟨fun b kb hb=>gu.iA.dI b kb (kX b kb hb),⟨fun x hx=>gu.iA.aE.ok x (qD▸hx),hg.iA.aE.hid,hg.iA.aE.apart⟩,hg.iA.mK,gu.iA.below,hg.iA.next,hg.iA.aa,hg.iA.jo⟩,⟨hg.cB.ext,fun s hs=>?_⟩⟩ hy
     ·simp only[look] at hs;split at hs
      ·rename_i e;subst e;obtain rfl:=zy hs;split at hl
       ·rename_i s' LP;obtain⟨_,h2,_⟩:=gu.env.ck _ _ LP;exact⟨Sm o ho _ hot,by rw[h2,A3 hl];rfl,trivial⟩
       ·exact hl.elim
      ·obtain⟨h1,h2⟩:=jW (p:=fun s=> !(writes (aT x)).contains s) hs;obtain⟨h3,h4,h5⟩:=hg.env.ck s sv h1;exact⟨h3,by rw[gu.cB.cR s (by simpa using h2),h4],h5⟩
     ·rw[gu.cB.cR s (fun hm=>?_),hg.cB.cR s hs];obtain⟨o,ho,ht⟩:=zL.1 hm
      exact hs (hW o (by simp[aT,ho]) _ ht)
    |exit i=>obtain⟨_,hf,_⟩:=hq;exact hf.elim
    |ret=>obtain⟨_,hf,_⟩:=hq;exact hf.elim
    |_=>exact hq
 |cond c x y Xk Xl=>
  intro ks aa W dX st a w eC hW hg h;simp only[aT,nD,List.all_append,zT] at eC;have hx:=fun h=>Xk ks aa W dX st a w eC.1 (fun o ho=>hW o (by simp[aT,ho])) hg h;have hy:=fun h=>Xl ks aa W dX st a w eC.2 (fun o ho=>hW o (by simp[aT,ho])) hg h;simp only[gw] at h;split at h
  ·rename_i hs;exact wp_cond_true (ai hg.env hs).1 (hx h)
  ·rename_i hs;exact wp_cond_false (ai hg.env hs).1 (hy h)
  ·rename_i q d hs;by_cases hq:q
   ·exact wp_cond_true (by rw[(ai hg.env hs).1];simp[SV.val,hq]) (hx (h.1 hq))
   ·exact wp_cond_false (by rw[(ai hg.env hs).1];simp[SV.val,hq]) (hy (h.2 hq))
  ·rename_i b hs
   cases b
   ·exact wp_cond_false (ai hg.env hs).1 (hy (h.2 rfl))
   ·exact wp_cond_true (ai hg.env hs).1 (hx (h.1 rfl))
  ·exact h.elim
 |block id x ih=>
  intro ks aa W dX st a w eC hW hg h;refine wp_block (wp_mono (ih _ aa W dX st a w eC hW hg h) fun e a' w' hq=>?_)
  cases e with
  |exit i=>
   obtain⟨gM,hk,gu⟩:=hq;simp only[Exit.inBlock];simp only at hk;split at hk
   ·rename_i e;rw[pI e];exact⟨gM,hk,gu⟩
   ·rename_i e;rw[nI e];exact⟨gM,hk,gu⟩
  |_=>exact hq
 |scope x ih=>
  intro ks aa W dX st a w eC hW hg h;refine wp_scope_straight (wp_mono (ih _ aa W dX st a w eC hW hg h) fun e a' w' hq=>?_)
  cases e with
  |goto l=>exact hq
  |_=>exact hq
 |region id ops draw=>
  intro ks aa W dX st a w eC hW hg h;simp only[gw] at h;simp only[aT] at eC hW;split at h
  ·refine wp_region_any D1 (A1 _ _ _ _ ?_);have hB:bL [] w { w with drawn:=w.drawn+1 } :=bL.drew [] w;have gu:Good C w0 bc aa W dX st a { w with drawn:=w.drawn+1 } :=⟨hg.env,hg.iA.lY hB (hg.iA.dI.below hB) (Next.refl _ _),hg.cB⟩
   split at h
   ·unfold Kf at h;split at h
    case h_2=>exact h.elim
    obtain⟨I,hd,hk⟩:=h
    have Xj:∀s∈qQ C ops.toList st.env,s∈writes ops.toList/\s<C.nt:=fun s hs=>by
     have:=List.mem_filter.1 hs;have h2:=this.2;simp only[zT,List.contains_iff_mem] at h2;exact⟨h2.2,yZ.1 this.1⟩
    exact iT (aa:=st.own) (W:=writes ops.toList) (dX:=a) mZ (fun gM a' w' hl Uc=>D2 Xj gu Uc hW hl hk) (fun _ _ _ h=>h) eC (fun o ho t ht=>iU ho ht) _ _ _ _ _ ⟨gu.env,gu.iA,⟨aW.refl _,fun _ _=>rfl⟩⟩ hd
   ·split at h
    ·rename_i x r _ hr;obtain⟨p,hd,hk⟩:=h;exact iT (aa:=st.own) (W:=writes ops.toList) (dX:=a) mZ (fun gM a' w' hl Uc=>DZ (fun s t hm=>pL (hr▸hm)) gu Uc hW hl hk) (fun _ _ _ h=>h) eC (fun o ho t ht=>iU ho ht) _ _ _ _ _ ⟨gu.env,gu.iA,⟨aW.refl _,fun _ _=>rfl⟩⟩ hd
    ·exact iT mZ (fun st a w hk hg=>⟨st,hk,hg⟩) (fun _ _ _ h=>h) eC hW _ _ _ _ _ gu h
  ·exact wp_region_list (CD mZ (fun st a w hk hg=>⟨st,hk,hg⟩) (fun o ho t ht=>⟨(nE eC ho).2 t ht,hW o ho t ht⟩) hg h)
 |loop x ih=>
  intro ks aa W dX st a w eC hW hg h;simp only[gw] at h;simp only[aT] at eC hW;split at h
  case h_2=>exact h.elim
  rename_i Qj xs hv0 Se;generalize Ud:qQ C (aT x) st.env=dF at*;generalize hboxes:AH C (aT x) st.env=aE at*;obtain⟨Xm,NT⟩:=jj h
  clear h
  obtain⟨J,Pd,m0,hJ0,Ue,hPd⟩:∃(J:Nat->List Value->Heap->Prop)(Pd:Nat->List Value->List Value->Heap->Prop)(m0:Nat),J m0 Qj st.H/\
    (∀m vs,Fits (dF.map (wP C (aT x))++AF C.P xs) vs->∀H',Next C.aa C.H0 H'->J m vs H'->
     gw C x ⟨fun gM=>(match lW dF aE gM with
        |some oO=>sQ (dF.map (wP C (aT x))++AF C.P xs) oO (oM (jJ aE st.own st.own.length) (jJ aE gM.own st.own.length) (Pd m vs oO gM.H))
        |none=>False),ks.x,ks.r⟩
       ⟨lj dF (vs.take dF.length) (gh (aT x) st.env),gr st.own aE (fP (vs.drop dF.length)),H'⟩)/\
    ∀m vs H1 oO H,J m vs H1->Pd m vs oO H->∃m',m'<m/\J m' oO H:=by
   split at NT
   ·obtain⟨I,μ,hI0,hr⟩:=NT;exact⟨fun m vs H=>I vs H/\m=μ vs,fun _ vs oO H=>I oO H/\μ oO<μ vs,μ Qj,⟨hI0,rfl⟩,fun m vs hf H' hN hJ=>K1.lX hf hr H' hN hJ.1,fun m vs H1 oO H hJ hP=>⟨μ oO,by rw[hJ.2];exact hP.2,hP.1,rfl⟩⟩
   ·obtain⟨I,m0,hI0,hr⟩:=NT;exact⟨I,fun m _ oO H=>∃m',m'<m/\I m' oO H,m0,hI0,fun m vs hf H' hN hJ=>K1.lX hf (hr m) H' hN hJ,fun m vs H1 oO H _ hP=>hP⟩
  have Xj:∀s∈dF,s∈writes (aT x)/\s<C.nt:=fun s hs=>by
   rw[←Ud] at hs;have:=List.mem_filter.1 hs;have h2:=this.2;simp only[zT,List.contains_iff_mem] at h2;exact⟨h2.2,yZ.1 this.1⟩
  let oT:List Value->List Bx:=fun vs=>gr st.own aE (fP (vs.drop dF.length))
  let NU:List Value->List (Nat×SV):=fun vs=>lj dF (vs.take dF.length) (gh (aT x) st.env)
  let LI:List Value×Nat->Act->World->Prop:=fun p a' w'=>∃H',Fits (dF.map (wP C (aT x))++AF C.P xs) p.1/\J p.2 p.1 H'/\dy C.nt (NU p.1) (oT p.1) a'/\iR C w0 bc (oT p.1) H' w'/\
   ∀s:Nat,s∉writes (aT x)->a'.tmps.getD s undef=a.tmps.getD s undef
  have key:∀(gM:St)(oO:List Value)(a':Act)(w':World),lW dF aE gM=some oO->(jJ aE st.own st.own.length=[]∨jJ aE gM.own st.own.length=jJ aE st.own st.own.length)->
    aW st.own gM.own->dy C.nt gM.env gM.own a'->iR C w0 bc gM.own gM.H w'->(∀s:Nat,s∉writes (aT x)->a'.tmps.getD s undef=a.tmps.getD s undef)->dy C.nt (NU oO) (oT oO) a'/\iR C w0 bc (oT oO) gM.H w':=fun gM oO a' w' hv hr he FY er oU=>by
   obtain⟨IY,hbv⟩:=tj hv;have qD:oT oO=gM.own.take st.own.length:=FW he hbv hr;have jK:aW st.own (oT oO):=nY _ _ _;refine⟨⟨FY.size,FY.defers,fun s sv hs=>?_⟩,?_⟩
   ·obtain⟨hl,Ff⟩:=lO IY;rcases wY hl hs with⟨k,v,h1,h2,rfl⟩|hs
    ·obtain⟨sv,h3,h4⟩:=Ff k s h1;rw[h2] at h4;obtain⟨_,h5,_⟩:=FY.ck s sv h3;exact⟨(Xj s (zt h1)).2,by rw[h5];exact(zy h4).symm,trivial⟩
    ·obtain⟨h1,h2⟩:=jW (p:=fun s=> !(writes (aT x)).contains s) hs;obtain⟨h3,h4,h5⟩:=hg.env.ck s sv h1;refine⟨h3,?_,SV.y8 jK.len h5⟩;rw[oU s (by simpa using h2),h4,SV.y7 jK h5]
   ·refine er.shorter (fun y hy=>?_) ?_
    ·rw[qD] at hy;exact zH hy
    ·show((oT oO).map Bx.b).Nodup
     rw[show(oT oO).map Bx.b=st.own.map Bx.b from wh _ _ _];exact hg.iA.aE.apart
  refine wp_loop_ghost LI (fun p=>p.2) (Qj,m0) ?_ fun pm a' w' hLI=>?_
  ·obtain⟨h1,h2⟩:=key st Qj a w hv0 (.inr rfl) (aW.refl _) hg.env hg.iA (fun _ _=>rfl);exact⟨st.H,Xm,hJ0,h1,h2,fun _ _=>rfl⟩
  ·obtain⟨vs,m⟩:=pm;obtain⟨H',oR,hI,LS,IZ,oU⟩:=hLI;dsimp only at oR hI LS IZ;have jK:aW st.own (oT vs):=nY _ _ _;have hc:=Ue m vs oR H' IZ.next hI;have Xn:Good C w0 bc (oT vs) (writes (aT x)) a' ⟨NU vs,oT vs,H'⟩ a' w':=⟨LS,IZ,⟨aW.refl _,fun _ _=>rfl⟩⟩
   have kX:∀ {s:Nat},s∉W->s∉writes (aT x):=fun hs hm=>by
    obtain⟨o,ho,ht⟩:=zL.1 hm;exact hs (hW o ho _ ht)
   refine wp_mono (ih _ (oT vs) (writes (aT x)) a' _ a' w' eC (fun o ho t ht=>iU ho ht) Xn hc) fun e Fl QM hq=>?_
   have out:∀gM,Good C w0 bc (oT vs) (writes (aT x)) a' gM Fl QM->Good C w0 bc aa W dX gM Fl QM:=fun gM gu=>
    ⟨gu.env,gu.iA,⟨hg.cB.ext.trans (jK.trans gu.cB.ext),fun s hs=>by rw[gu.cB.cR s (kX hs),oU s (kX hs),hg.cB.cR s hs]⟩⟩
   cases e with
   |normal=>
    obtain⟨gM,hk,gu⟩:=hq;simp only at hk;split at hk
    case h_2=>exact hk.elim
    rename_i oO AM;obtain⟨Xo,hk⟩:=jj hk;obtain⟨hr,hPP⟩:=tk hk;obtain⟨m',bK,Xi⟩:=hPd m vs H' oO gM.H hI hPP;have NV:∀s:Nat,s∉writes (aT x)->Fl.tmps.getD s undef=a.tmps.getD s undef:=fun s hs=>by rw[gu.cB.cR s hs,oU s hs]
    obtain⟨h1,h2⟩:=key gM oO Fl QM AM hr (jK.trans gu.cB.ext) gu.env gu.iA NV
    exact⟨(oO,m'),⟨gM.H,Xo,Xi,h1,h2,NV⟩,bK⟩
   |exit i=>obtain⟨gM,hk,gu⟩:=hq;exact⟨gM,hk,out gM gu⟩
   |ret=>obtain⟨gM,hk,gu⟩:=hq;exact⟨gM,hk,out gM gu⟩
   |_=>exact hq
end
open Go Go.RowKit
section
variable {C : qG} {w0 : World} {bc : List Nat}
def tZ(tmps:Array Value):ResultVar->Sem Value
 | .tmp t=>pure (tmps.getD t undef)
 | .cell a t=>do loadVar t (←asAddr (tmps.getD a undef))
theorem A4{P:Program}{tmps:Array Value}{t:Nat}(h:tmps.getD t undef=v)(w:World):(tZ tmps (.tmp t)).run P w= .ok v w:=by
 simp only[tZ,h,Sem.run_pure]
theorem my{P:Program}{tmps:Array Value}{x:Nat}{ad:Addr}(h:tmps.getD x undef= .pointer (some ad))(hr:(loadVar t ad).run P w= .ok v w):(tZ tmps (.cell x t)).run P w= .ok v w:=by
 simp only[tZ,h,asAddr,Sem.run_bind,Sem.run_pure,Result.andThen_ok,hr]
theorem lP{P:Program}{f:ResultVar->Sem Value}{r:ResultVar}{rs:List ResultVar}(h1:(f r).run P w= .ok v w)(h2:(rs.mapM f).run P w= .ok vs w):((r::rs).mapM f).run P w= .ok (v::vs) w:=by
 simp only[List.mapM_cons,Sem.run_bind,h1,h2,Result.andThen_ok,Sem.run_pure]
theorem lq{st:St}{a:Act}{w:World}(ha:dy C.nt st.env st.own a)(hb:dx st.own st.H w):∀ {rs:List ResultVar} {f:List Value->Prop},DK C st rs f->
  ∃vs,f vs/\(rs.mapM (tZ a.tmps)).run C.P w= .ok vs w
 | [],f,h=>⟨[],h,by simp⟩
 | .tmp t::r,f,h=>by
  simp only[DK] at h;split at h
  ·rename_i s hs;obtain⟨vs,hf,hr⟩:=lq ha hb h;obtain⟨_,h2,_⟩:=ha.ck t s hs;exact⟨_,hf,lP (A4 h2 w) hr⟩
  ·exact h.elim
 | .cell x t::r,f,h=>by
  simp only[DK] at h;split at h
  ·rename_i i hs;obtain⟨_,h2,_⟩:=ha.ck x _ hs;split at h
   ·rename_i b ty cs hx;have e:fW st.own i=b:=pB hx;have hv:a.tmps.getD x undef= .pointer (some ⟨b,0,none⟩):=by rw[h2];simp[SV.val,e]
    split at h
    ·rename_i d lk hu hk;split at h
     ·rename_i v;obtain⟨vs,hf,ih⟩:=lq ha hb h;exact⟨_,hf,lP (my hv (jE hk (by simp[hu]) (uK hb hx (by simp)).2)) ih⟩
     ·exact h.elim
    ·rename_i d n hu hk;obtain⟨hlen,h⟩:=h;obtain⟨vs,hf,ih⟩:=lq ha hb h;exact⟨_,hf,lP (my hv (fF (fun lk Ct=>by rw[hk] at Ct;cases Ct) hlen (info_of_underlying (by simp[hu])) (fun j v hj=>by simpa using(uK hb hx hj).2))) ih⟩
    ·rename_i d hu NE WZ;split at h
     ·rename_i hlen;obtain⟨vs,hf,ih⟩:=lq ha hb h;exact⟨_,hf,lP (my hv (fF (fun lk Ct=>NE lk Ct) hlen (info_of_underlying (by simp[hu])) (fun j v hj=>by simpa using(uK hb hx hj).2))) ih⟩
     ·exact h.elim
    ·exact h.elim
   ·exact h.elim
  ·exact h.elim
theorem xb{P:Program}{tmps:Array Value}(h:(fn.results.toList.mapM (tZ tmps)).run P w= .ok vs w):
  (results fn tmps).run P w= .ok (if h:vs.length=1 then vs[0] else .tuple vs.toArray) w:=by
 have e:results fn tmps=(do let vs ←fn.results.mapM (tZ tmps);pure (if h:vs.size=1 then vs[0] else .tuple vs)):=by
  unfold results
  congr 1
 rw[e,Array.mapM_eq_mapM_toList,map_eq_pure_bind];simp[h]
theorem pM:∀ {args:List SV} {i s:Nat} {sv:SV},look s (lM i args)=some sv->∃k:Nat,s=i+k/\args[k]?=some sv
 | [],i,s,sv,h=>by simp[lM,look] at h
 |x::r,i,s,sv,h=>by
  simp only[lM,look] at h;split at h
  ·rename_i e;subst e;exact⟨0,rfl,h⟩
  ·obtain⟨k,h1,h2⟩:=pM h;exact⟨k+1,by omega,h2⟩
theorem FZ{own:List Bx}(he:aW own dQ):gi own ((dQ.take own.length).map Bx.cs)=dQ.take own.length:=by
 induction own generalizing dQ with
 |nil=>simp[gi]
 |cons x r ih=>
  obtain⟨y,hy,h1,h2,h3⟩:=he.same 0 x rfl
  cases dQ with
  |nil=>simp at hy
  |cons z r'=>
   simp at hy;subst hy;simp only[zi,List.take_succ_cons,zB,gi];rw[NS h1 h2 h3,ih];exact⟨by have:=he.len;simpa using this,fun i u hu=>by simpa using he.same (i+1) u (by simpa using hu)⟩
end
theorem A5{P:Program}{c:Code}(mZ:fy P fE)(hf:P.funcs[f]?=some fn)(hb:fn.body=some c)(Sm:fn.ntmps=nt)
  (D1:P.follows .mixedOrders=true) (eC:nD nt (aT c)=true)
  {own:List Bx} {args:List SV} (dE:args.length<=nt) (oJ:∀s∈args,s.wf own.length)  {Q:Value->List (List Value)->Heap->Prop}
  (h:∀aa,(∀b k,H b=some k->b<aa)->(∀x∈own,x.b<aa)->qC ⟨P,nt,fE,aa,H⟩ c fn.results.toList args own Q):eZ P f (args.map (SV.val own)) own H Q:=by
 intro w hs se;refine calls_of_wp hf hb ?_
 let C:qG:=⟨P,nt,fE,w.heap.size,H⟩
 have hV:=h w.heap.size (fun b k hk=>hs.lt hk) (fun x hx=>Bx.qo (se.ok x hx));have kv:(args.map (SV.val own)).toArray.size=args.length:=by simp
 have LS:dy C.nt (lM 0 args) own { tmps:=(args.map (SV.val own)).toArray++yT (fn.ntmps-(args.map (SV.val own)).toArray.size) undef,defers:=[] } :=by
  refine⟨by simp[C,Sm];omega,rfl,fun s sv hs=>?_⟩;obtain⟨k,rfl,hk⟩:=pM hs;have bK:=pC hk;refine⟨by show 0+k<nt;omega,?_,oJ sv (zt hk)⟩;rw[Array.getD_eq_getD_getElem?,yN (by simpa using bK)];simp[hk]
 have IZ:iR C w (own.map Bx.b) own H w:=⟨hs,se,fun x hx=> .inr (List.mem_map_of_mem hx),bL.refl _ _,Next.refl _ _,rfl,hs⟩
 refine wp_mono (wZ (C:=C) (w0:=w) (bc:=own.map Bx.b) D1 mZ c _ own (writes (aT c)) _ ⟨lM 0 args,own,H⟩ _ w eC (fun o ho t ht=>iU ho ht) ⟨LS,IZ,⟨aW.refl _,fun _ _=>rfl⟩⟩ hV) fun e a' w' hq=>?_
 have key:∀st,T0 C fn.results.toList own.length Q st->Good C w (own.map Bx.b) own (writes (aT c)) { tmps:=(args.map (SV.val own)).toArray++yT (fn.ntmps-(args.map (SV.val own)).toArray.size) undef,defers:=[] } st a' w'->
   a'.defers=[]/\∃v,(results fn a'.tmps).run P w'= .ok v w'/\∃v' iy H',Ending.returned v= .returned v'/\iy.length=own.length/\bL (own.map Bx.b) w w'/\
    fD H' w'/\dx (gi own iy) H' w'/\Next w.heap.size H H'/\Q v' iy H':=fun st hr hg=>by
  refine⟨hg.env.defers,?_⟩;have jK:=hg.cB.ext
  have post:∀v,Q v ((st.own.take own.length).map Bx.cs) st.H->∃v' iy H',Ending.returned v= .returned v'/\iy.length=own.length/\bL (own.map Bx.b) w w'/\
    fD H' w'/\dx (gi own iy) H' w'/\Next w.heap.size H H'/\Q v' iy H':=fun v hQ=>by
   refine⟨v,_,st.H,rfl,?_,hg.iA.below,hg.iA.dI,?_,hg.iA.next,hQ⟩
   ·simp;have:=jK.len;omega
   ·rw[FZ jK];refine⟨fun x hx=>hg.iA.aE.ok x (zH hx),fun x hx=>hg.iA.aE.hid x (zH hx),?_⟩;rw[List.map_take];exact hg.iA.aE.apart.sublist (List.take_sublist _ _)
  obtain⟨vs,hf,kA⟩:=lq hg.env hg.iA.aE hr;have D3:=xb (fn:=fn) kA;split at hf
  ·rename_i v;exact⟨v,by simpa using D3,post v hf⟩
  ·rename_i eE;refine⟨.tuple vs.toArray,?_,post _ hf⟩;rw[dif_neg (fun hl=>?_)] at D3
   ·exact D3
   ·obtain⟨x,hx⟩:=List.length_eq_one_iff.1 hl;exact eE x hx
 cases e with
 |normal=>obtain⟨st,hr,hg⟩:=hq;exact key st hr hg
 |ret=>obtain⟨st,hr,hg⟩:=hq;exact key st hr hg
 |exit i=>obtain⟨st,hr,hg⟩:=hq;exact hr.elim
 |_=>exact hq.elim
theorem sf{P:Program}{c:Code}(mZ:fy P fE)(hf:P.funcs[f]?=some fn)(hb:fn.body=some c)(Sm:fn.ntmps=nt)
  (D1:P.follows .mixedOrders=true) (eC:nD nt (aT c)=true)
   (dE:args.length<=nt)  {Q:Value->Heap->Prop}
  (h:∀aa,(∀b k,H b=some k->b<aa)->qC ⟨P,nt,fE,aa,H⟩ c fn.results.toList (args.map SV.v) [] (fun v _ H'=>Q v H')):bS P f args H Q:=by
 have:=A5 (own:=[]) (args:=args.map SV.v) mZ hf hb Sm D1 eC (by simpa using dE) (fun s hs=>by obtain⟨v,_,rfl⟩:=zM.1 hs;trivial) (fun aa hb _=>h aa hb);simpa[bS,Function.comp_def,SV.val] using this
open Go Go.RowKit
theorem QR(P:Program)(list:List FuncId)(j:Bool):fy P ⟨list,WX,j⟩:=fun _ _ _ _ _ _ _ _ h=>by cases h
theorem A6{g:FuncId}{fn:Func} :∀ {fs:List (FuncId×Func)},vX g fs=some fn->(g,fn)∈fs
 | [],h=>by cases h
 |(k,f)::r,h=>by
  simp only[vX] at h;split at h
  ·rename_i e;subst e;obtain rfl:=zy h;exact zr
  ·exact zj _ (A6 h)
theorem rf{P:Program}{list:List FuncId}{fs:List (FuncId×Func)}{prev:jV}{j:Bool}(Xp:fy P ⟨list,prev,true⟩)(D1:P.follows .mixedOrders=true)
  (WY:∀p∈fs,P.funcs[p.1]?=some p.2/\p.2.body=some (p.2.body.getD .skip)/\nD p.2.ntmps (aT (p.2.body.getD .skip))=true/\list.contains p.1=true):fy P ⟨list,qT P list fs prev,j⟩:=by
 intro aa H0 g pre own H f p hp;simp only[qT] at hp;split at hp
 ·cases hp
 ·rename_i fn hl;split at hp
  ·rename_i hlen;obtain rfl:=zy hp;obtain⟨hf,hb,eC,hc⟩:=WY _ (A6 hl);refine⟨hc,fun h C w0 bc w fN Xq hw oJ=>?_⟩;subst fN Xq;refine calls_of_wp hf hb ?_
   let C':qG:=⟨P,fn.ntmps,⟨list,prev,true⟩,C.aa,C.H0⟩
   have IZ:iR C' w0 bc own H w:=⟨hw.dI,hw.aE,hw.mK,hw.below,hw.next,hw.aa,hw.jo⟩
   have LS:dy C'.nt (lM 0 pre) own { tmps:=(pre.map (SV.val own)).toArray++yT (fn.ntmps-(pre.map (SV.val own)).toArray.size) undef,defers:=[] } :=by
    refine⟨by simp[C'];omega,rfl,fun s sv hs=>?_⟩;obtain⟨k,rfl,hk⟩:=pM hs;have bK:=pC hk;refine⟨by show 0+k<fn.ntmps;omega,?_,oJ sv (zt hk)⟩;rw[Array.getD_eq_getD_getElem?,yN (by simpa using bK)];simp[hk]
   refine wp_mono (wZ (C:=C') (w0:=w0) (bc:=bc) D1 Xp _ _ own (writes (aT (fn.body.getD .skip))) _ ⟨lM 0 pre,own,H⟩ _ w eC (fun o ho t ht=>iU ho ht) ⟨LS,IZ,⟨aW.refl _,fun _ _=>rfl⟩⟩ h) fun e a' w' hq=>?_
   have key:∀st,T1 C' fn.results.toList f st->Good C' w0 bc own (writes (aT (fn.body.getD .skip))) { tmps:=(pre.map (SV.val own)).toArray++yT (fn.ntmps-(pre.map (SV.val own)).toArray.size) undef,defers:=[] } st a' w'->
     a'.defers=[]/\∃v,(results fn a'.tmps).run P w'= .ok v w'/\∃v' dQ H',Ending.returned v= .returned v'/\f (.v v') dQ H'/\aW own dQ/\iR C w0 bc dQ H' w':=fun st hr hg=>by
    refine⟨hg.env.defers,?_⟩;have LP:iR C w0 bc st.own st.H w':=⟨hg.iA.dI,hg.iA.aE,hg.iA.mK,hg.iA.below,hg.iA.next,hg.iA.aa,hg.iA.jo⟩
    obtain⟨vs,hf,kA⟩:=lq hg.env hg.iA.aE hr;have D3:=xb (fn:=fn) kA;split at hf
    ·rename_i v;exact⟨v,by simpa using D3,v,st.own,st.H,rfl,hf,hg.cB.ext,LP⟩
    ·rename_i eE;refine⟨.tuple vs.toArray,?_,_,st.own,st.H,rfl,hf,hg.cB.ext,LP⟩;rw[dif_neg (fun hl=>?_)] at D3
     ·exact D3
     ·obtain⟨x,hx⟩:=List.length_eq_one_iff.1 hl;exact eE x hx
   cases e with
   |normal=>obtain⟨st,hr,hg⟩:=hq;exact key st hr hg
   |ret=>obtain⟨st,hr,hg⟩:=hq;exact key st hr hg
   |exit i=>obtain⟨st,hr,hg⟩:=hq;exact hr.elim
   |_=>exact hq.elim
  ·cases hp
open Go Go.Proofs
def gS(fn:Func):Code:=fn.body.getD .skip
abbrev fV(m:xT)(fn:Func)(aa:Nat)(H:Heap)(a:List SV)(o:List Bx)(K:KT):Prop:=qC ⟨Tryz.prog,fn.ntmps,m,aa,H⟩ (gS fn) fn.results.toList a o K
def oV(fn:Func):Bool:=fn.body.isSome&&nD fn.ntmps (aT (gS fn))
theorem dK(h:oV fn=true):fn.body=some (gS fn):=by
 unfold oV at h
 cases hb:fn.body with
 |none=>simp[hb] at h
 |some c=>simp[gS,hb]
theorem ij(h:oV fn=true):nD fn.ntmps (aT (gS fn))=true:=by
 unfold oV at h;simp only[zT] at h;exact h.2
def TryzList:List FuncId:=[235,236,43,259,276,290,199,200,201,202,283,218,174,179,178,91,285,298,176,221,180,177]
noncomputable def TryzFs:List (FuncId×Func):=[(235,Tryz.f235),(236,Tryz.f236),(43,Tryz.f43),(259,Tryz.f259),(276,Tryz.f276),(290,Tryz.f290),(199,Tryz.f199),(200,Tryz.f200),(201,Tryz.f201),(202,Tryz.f202),(283,Tryz.f283),(218,Tryz.f218),(174,Tryz.f174),(179,Tryz.f179),(178,Tryz.f178),(91,Tryz.f91)]
noncomputable def TryzIn1:jV:=qT Tryz.prog TryzList TryzFs WX
noncomputable def TryzIn2:jV:=qT Tryz.prog TryzList TryzFs TryzIn1
noncomputable def TryzIn3:jV:=qT Tryz.prog TryzList TryzFs TryzIn2
noncomputable def TryzMuts:xT:=⟨TryzList,TryzIn3,false⟩
theorem Tryzmixed: Tryz.prog.follows .mixedOrders=true:=by kernel_rfl
theorem Tryzfs:∀p∈ TryzFs,Tryz.prog.funcs[p.1]?=some p.2/\p.2.body=some (p.2.body.getD .skip)/\nD p.2.ntmps (aT (p.2.body.getD .skip))=true/\ TryzList.contains p.1=true:=by
 have h:∀(g:FuncId)(fn:Func),Tryz.prog.funcs[g]?=some fn->oV fn=true->TryzList.contains g=true->Tryz.prog.funcs[g]?=some fn/\fn.body=some (fn.body.getD .skip)/\nD fn.ntmps (aT (fn.body.getD .skip))=true/\ TryzList.contains g=true:=
  fun g fn h1 h2 h3=>⟨h1,dK h2,ij h2,h3⟩
 intro p hp;simp only[TryzFs,zm,List.not_mem_nil,or_false] at hp;rcases hp with rfl|rfl|rfl|rfl|rfl|rfl|rfl|rfl|rfl|rfl|rfl|rfl|rfl|rfl|rfl|rfl
 ·exact h _ _ Tryz.func235 (by kernel_rfl) (by decide)
 ·exact h _ _ Tryz.func236 (by kernel_rfl) (by decide)
 ·exact h _ _ Tryz.func43 (by kernel_rfl) (by decide)
 ·exact h _ _ Tryz.func259 (by kernel_rfl) (by decide)
 ·exact h _ _ Tryz.func276 (by kernel_rfl) (by decide)
 ·exact h _ _ Tryz.func290 (by kernel_rfl) (by decide)
 ·exact h _ _ Tryz.func199 (by kernel_rfl) (by decide)
 ·exact h _ _ Tryz.func200 (by kernel_rfl) (by decide)
 ·exact h _ _ Tryz.func201 (by kernel_rfl) (by decide)
 ·exact h _ _ Tryz.func202 (by kernel_rfl) (by decide)
 ·exact h _ _ Tryz.func283 (by kernel_rfl) (by decide)
 ·exact h _ _ Tryz.func218 (by kernel_rfl) (by decide)
 ·exact h _ _ Tryz.func174 (by kernel_rfl) (by decide)
 ·exact h _ _ Tryz.func179 (by kernel_rfl) (by decide)
 ·exact h _ _ Tryz.func178 (by kernel_rfl) (by decide)
 ·exact h _ _ Tryz.func91 (by kernel_rfl) (by decide)
theorem Tryzin3(j:Bool):fy Tryz.prog ⟨TryzList,TryzIn3,j⟩:=rf (rf (rf (QR _ _ _) Tryzmixed Tryzfs) Tryzmixed Tryzfs) Tryzmixed Tryzfs
theorem Tryzinl:fy Tryz.prog TryzMuts:= Tryzin3 false
abbrev Sp:=bS Tryz.prog
theorem Tryzspec(hf: Tryz.prog.funcs[f]?=some fn)(eC:oV fn=true)(dE:Nat.ble args.length fn.ntmps=true){Q:Value->Heap->Prop}
  (h:∀aa,(∀b k,H b=some k->b<aa)->qC ⟨Tryz.prog,fn.ntmps,TryzMuts,aa,H⟩ (gS fn) fn.results.toList (args.map SV.v) [] (fun v _ H'=>Q v H')):Sp f args H Q:=
 sf Tryzinl hf (dK eC) rfl Tryzmixed (ij eC) (z8 dE) h
theorem Tryzvc(hf: Tryz.prog.funcs[f]?=some fn)(eC:oV fn=true)(dE:Nat.ble args.length fn.ntmps=true)(Q:Value->Heap->Prop){sv:List SV}(IY:args.map SV.v=sv)
  {F:Nat->(Value->List (List Value)->Heap->Prop)->Prop} (hv:∀aa K,qC ⟨Tryz.prog,fn.ntmps,TryzMuts,aa,H⟩ (gS fn) fn.results.toList sv [] K=F aa K)
  (h:∀aa,(∀b k,H b=some k->b<aa)->F aa (fun v _ H'=>Q v H')):Sp f args H Q:=
 Tryzspec hf eC dE fun aa hb=>by
  rw[IY,hv aa];exact h aa hb
theorem xY(hf: Tryz.prog.funcs[f]?=some fn){Q:Value->Heap->Prop}{F:Nat->(Value->List (List Value)->Heap->Prop)->Prop}(hv:∀aa K,qC ⟨Tryz.prog,fn.ntmps,TryzMuts,aa,H⟩ (gS fn) fn.results.toList (args.map SV.v) [] K=F aa K)(h:∀aa,(∀b k,H b=some k->b<aa)->F aa (fun v _ H'=>Q v H'))(eC:oV fn=true:=by kernel_rfl)(dE:Nat.ble args.length fn.ntmps=true:=by kernel_rfl):Sp f args H Q:=Tryzvc hf eC dE Q rfl hv h
open Go
structure Has(H:Heap)(sz:Nat)(a:O)(n:Nat)(rows:List (List Value)):Prop where
 len:rows.length=n
 le:(n:Int)<=9223372036854775807
 ck:0<n->∃b o:Nat,a=some ⟨b,o,none⟩/\∀(i:Nat)(r:List Value),rows[i]?=some r->∀(j:Nat)(v:Value),r[j]?=some v->H.cell b (o+i*sz+j)=some v
theorem Heap.aJ(h:∀b k,H b=some k->H' b=some k){o:Nat}(hc:H.cell b o=some v):H'.cell b o=some v:=by
 unfold Heap.cell at*
 cases hb:H b with
 |none=>rw[hb] at hc;cases hc
 |some k=>rw[hb] at hc;rw[h b k hb];exact hc
abbrev aH(H H':Heap):Prop:=∀b k,H b=some k->H' b=some k
theorem aH.refl(H:Heap):aH H H:=fun _ _ h=>h
theorem aH.trans{a b c:Heap}(h:aH a b)(k:aH b c):aH a c:=fun x y e=>k x y (h x y e)
theorem Has.ext{rows:List (List Value)}(h:Has H sz a n rows)(e:∀b k,H b=some k->H' b=some k):Has H' sz a n rows:=
 ⟨h.len,h.le,fun hn=>by
  obtain⟨b,o,ha,hc⟩:=h.ck hn
  exact⟨b,o,ha,fun i r hr j v hv=>Heap.aJ e (hc i r hr j v hv)⟩⟩
theorem Has.get{rows:List (List Value)}(h:Has H sz a n rows)(hi:i<n):∃(b o:Nat)(r:List Value),a=some ⟨b,o,none⟩/\rows[i]?=some r/\∀(j:Nat)(v:Value),r[j]?=some v->H.cell b (o+i*sz+j)=some v:=by
 obtain⟨b,o,ha,hc⟩:=h.ck (by omega);have hl:=h.len;exact⟨b,o,rows[i],ha,zu (by omega),fun j v hv=>hc i _ (zu (by omega)) j v hv⟩
theorem Has.ub{g:Nat}(h:H g=some (ay ty cs)){rows:List (List Value)}(hr:rows.flatten=cs)(hs:∀r∈rows,r.length=sz)(hn:rows.length=n)(hle:(n:Int)<=9223372036854775807):Has H sz (some ⟨g,0,none⟩) n rows:=by
 refine⟨hn,hle,fun _=>⟨g,0,rfl,fun i r hi j v hj=>?_⟩⟩;subst hr;unfold Heap.cell;rw[h];simp only[yj,ay,zS]
 clear h hn hle
 induction rows generalizing i with
 |nil=>simp at hi
 |cons x rest ih=>
  have hx:=hs x zr
  cases i with
  |zero=>
   simp at hi;subst hi;rw[zW,Nat.zero_mul,zS,zU (by have:=zw.1 hj;exact this.1)]
   exact hj
  |succ i=>
   simp only[yR] at hi;rw[zW,zY (by rw[hx,yz];omega),hx,show(i+1)*sz+j-sz=i*sz+j from by rw[yz];omega];exact ih (fun r hr=>hs r (zj _ hr)) _ hi
theorem eZ.mono{P:Program}{own:List Bx}{Q Q':Value->List (List Value)->Heap->Prop}(h:eZ P f args own H Q)(hq:∀v iy H',(∀b k,H b=some k->H' b=some k)->Q v iy H'->Q' v iy H'):eZ P f args own H Q':=
 fun w hs hb=>Calls.mono (h w hs hb) fun e w' he=>by
  obtain⟨v,iy,H',h1,h2,h3,h4,h5,h6,h7⟩:=he;exact⟨v,iy,H',h1,h2,h3,h4,h5,h6,hq v iy H' h6.ext h7⟩
theorem bS.mono{P:Program}{Q Q':Value->Heap->Prop}(h:bS P f args H Q)(hq:∀v H',(∀b k,H b=some k->H' b=some k)->Q v H'->Q' v H'):bS P f args H Q':=
 eZ.mono h fun v _ H'=>hq v H'
theorem bS.one{P:Program}{r:Value}{Q':Value->Heap->Prop}(h:bS P f args H fun v _=>v=r)(hq:∀H',Q' r H'):bS P f args H Q':=
 h.mono fun v H' _ e=>e▸hq H'
abbrev i64(n:Int):Value:= .int .i64 n
theorem aj{n:Int}(h: -9223372036854775808<=n:=by omega)(h':n<=9223372036854775807:=by omega):IntKind.wrap .i64 n=n:=IntWalk.i64_in n ⟨h,h'⟩
def iK(l:List Int):List (List Value):=l.map fun n=>[i64 n]
abbrev Ints(H:Heap)(a:O)(n:Nat)(l:List Int):Prop:=Has H 1 a n (iK l)
theorem Has.int{l:List Int}(h:Ints H a n l)(h0:0<=k)(h1:k<n):
  ∃(b o:Nat)(x:Int),a=some ⟨b,o,none⟩/\l[k.toNat]?=some x/\H.cell b (o+k.toNat*1)=some (i64 x):=by
 obtain⟨b,o,r,ha,hr,hc⟩:=h.get (i:=k.toNat) (by omega);simp only[iK,zP] at hr
 cases hx:l[k.toNat]? with
 |none=>rw[hx] at hr;cases hr
 |some x=>
  rw[hx] at hr;simp only[yy,Option.some.injEq] at hr;exact⟨b,o,x,ha,rfl,by have:=hc 0 (i64 x) (by rw[←hr];rfl);simpa using this⟩
def aN(n:Nat)(j:Nat):List Value->Nat:=fun vs=>match vs[j]? with|some (.int _ k)=>n-k.toNat|_=>0
open Go
abbrev jq(α:Type):=Heap->List Value->α->Prop
def jq.oW{α:Type}(R:jq α):Prop:=∀(H H':Heap)(r:List Value)(x:α),aH H H'->R H r x->R H' r x
structure Sl{α:Type}(R:jq α)(sz:Nat)(H:Heap)(a:O)(n:Nat)(xs:List α):Prop where
 len:xs.length=n
 le:(n:Int)<=9223372036854775807
 ck:0<n->∃b o:Nat,a=some ⟨b,o,none⟩/\∀(i:Nat)(x:α),xs[i]?=some x->∃r,R H r x/\∀(j:Nat)(v:Value),r[j]?=some v->H.cell b (o+i*sz+j)=some v
theorem Sl.ext{α:Type}{R:jq α}(hR:R.oW){xs:List α}(h:Sl R sz H a n xs)(e:aH H H'):Sl R sz H' a n xs:=
 ⟨h.len,h.le,fun hn=>by
  obtain⟨b,o,ha,hc⟩:=h.ck hn;refine⟨b,o,ha,fun i x hx=>?_⟩;obtain⟨r,hr,hv⟩:=hc i x hx
  exact⟨r,hR _ _ _ _ e hr,fun j v hj=>Heap.aJ e (hv j v hj)⟩⟩
theorem Sl.nil{α:Type}{R:jq α} :Sl R sz H a 0 ([]:List α):=⟨rfl,by omega,fun h=>by omega⟩
theorem Sl.get{α:Type}{R:jq α}{xs:List α}(h:Sl R sz H a n xs)(h0:0<=k)(h1:k<n):
  ∃(b o:Nat)(r:List Value)(x:α),a=some ⟨b,o,none⟩/\xs[k.toNat]?=some x/\R H r x/\∀(j:Nat)(v:Value),r[j]?=some v->H.cell b (o+k.toNat*sz+j)=some v:=by
 obtain⟨b,o,ha,hc⟩:=h.ck (by omega);have hl:=h.len;have hk:xs[k.toNat]?=some (xs[k.toNat]'(by omega)):=zu (by omega);obtain⟨r,hr,hv⟩:=hc _ _ hk;exact⟨b,o,r,_,ha,hk,hr,hv⟩
theorem av{α:Type}{xs:List α}{x:α}(h:xs[i]?=some x):xs.drop i=x::xs.drop (i+1):=by
 obtain⟨hi,rfl⟩:=zw.1 h;exact List.drop_eq_getElem_cons hi
theorem fQ{α:Type}{xs:List α}{x:α}(h:xs[i]?=some x):xs.take (i+1)=xs.take i++[x]:=by
 rw[List.take_add_one,h];rfl
theorem aK{α:Type}{xs:List α}(h:xs.length=n)(hi:n<=i):xs.drop i=[]:=zO (by omega)
theorem Sl.sub{α:Type}{R:jq α}{a':O}{xs:List α}(h:Sl R sz H a n xs){l m:Nat}(hm:l+m<=n)
  (ha:0<m->a'=a.map fun ad=>ad.add (l*sz)):Sl R sz H a' m ((xs.drop l).take m):=by
 have hl:=h.len;have hle:=h.le;refine⟨by simp;omega,by omega,fun Qo=>?_⟩;obtain⟨b,o,rfl,hc⟩:=h.ck (by omega);refine⟨b,o+l*sz,?_,fun i x hx=>?_⟩
 ·rw[ha Qo];simp[Addr.add]
 ·rw[zD] at hx;split at hx
  ·rw[List.getElem?_drop] at hx;obtain⟨r,hr,hv⟩:=hc _ _ hx;refine⟨r,hr,fun j v hj=>?_⟩;have:=hv j v hj;rw[Nat.add_mul] at this;rw[show o+l*sz+i*sz+j=o+(l*sz+i*sz)+j from by omega];exact this
  ·cases hx
theorem Sl.oz{α:Type}{R:jq α}{xs:List α}{rows:List (List Value)}(h:Has H sz a n rows)(hl:rows.length=xs.length)
  (hR:∀(i:Nat) r x,rows[i]?=some r->xs[i]?=some x->R H r x):Sl R sz H a n xs:=
 ⟨by rw[←hl];exact h.len,h.le,fun hn=>by
  obtain⟨b,o,ha,hc⟩:=h.ck hn;refine⟨b,o,ha,fun i x hx=>?_⟩;have hi:i<rows.length:=by rw[hl];exact(zw.1 hx).1
  exact⟨rows[i],hR i _ x (zu hi) hx,hc i _ (zu hi)⟩⟩
theorem pN{c:Nat}(h:bg aa H e sz a n c cs){rows:List (List Value)}(hf:rows.flatten=cs)
  (hs:∀r∈rows,r.length=sz) (hn:rows.length=n):Has H sz a n rows:=by
 obtain⟨h1,h2,h3,h4⟩:=h;refine⟨hn,by have:maxLen=9223372036854775807:=rfl;omega,fun hp=>?_⟩;rcases h4 with⟨h,_⟩|⟨g,k,ha,hg,hH,_,_,_,v8⟩
 ·omega
 ·refine⟨g,0,ha,fun i r hi j v hj=>?_⟩;unfold Heap.cell;rw[hH];simp only[yj,zS];apply v8;subst hf
  clear hn h1 hp hH ha v8
  induction rows generalizing i with
  |nil=>simp at hi
  |cons x rest ih=>
   have hx:=hs x zr
   cases i with
   |zero=>
    simp at hi;subst hi;rw[zW,Nat.zero_mul,zS,zU (by have:=zw.1 hj;exact this.1)]
    exact hj
   |succ i=>
    simp only[yR] at hi;rw[zW,zY (by rw[hx,yz];omega),hx,show(i+1)*sz+j-sz=i*sz+j from by rw[yz];omega];exact ih (fun r hr=>hs r (zj _ hr)) _ hi
theorem bg.nil :bg aa H e sz none 0 0 []:=⟨by simp,by omega,by decide,.inl ⟨rfl,rfl⟩⟩

def ft:jq Int:=fun _ r x=>r=[i64 x]
theorem ft.mono:ft.oW:=fun _ _ _ _ _ h=>h
def uT:jq Bool:=fun _ r x=>r=[.bool x]
theorem uT.mono:uT.oW:=fun _ _ _ _ _ h=>h
def oX{α:Type}(R:jq α)(sz:Nat):jq (List α):=fun H r xs=>∃a n c,r=[.slice a n c]/\Sl R sz H a n xs
theorem oX.mono{α:Type}{R:jq α}(hR:R.oW) :(oX R sz).oW:=fun _ _ _ _ e ⟨a,n,c,h,hs⟩=>⟨a,n,c,h,hs.ext hR e⟩
theorem Sl.int{xs:List Int}(h:Sl ft 1 H a n xs)(e:aH H H')(h0:0<=k)(h1:k<n){F:Int->Prop}(hF:∀x,xs[k.toNat]?=some x->F x):
  ∃(b o:Nat),a=some ⟨b,o,none⟩/\0<=k/\k<n/\∃x:Int,H'.cell b (o+k.toNat*1)=some (.int .i64 x)/\F x:=by
 obtain⟨b,o,r,x,ha,hx,hr,hc⟩:=h.get h0 h1;obtain rfl:=hr;exact⟨b,o,ha,h0,h1,x,Heap.aJ e (hc 0 _ rfl),hF x hx⟩
theorem Sl.bool{xs:List Bool}(h:Sl uT 1 H a n xs)(e:aH H H')(h0:0<=k)(h1:k<n){F:Bool->Prop}(hF:∀x,xs[k.toNat]?=some x->F x):
  ∃(b o:Nat),a=some ⟨b,o,none⟩/\0<=k/\k<n/\∃x:Bool,H'.cell b (o+k.toNat*1)=some (.bool x)/\F x:=by
 obtain⟨b,o,r,x,ha,hx,hr,hc⟩:=h.get h0 h1;obtain rfl:=hr;exact⟨b,o,ha,h0,h1,x,Heap.aJ e (hc 0 _ rfl),hF x hx⟩
theorem Sl.slice{α:Type}{R:jq α}{xs:List (List α)}(h:Sl (oX R sz) 1 H a n xs)(e:aH H H')(h0:0<=k)(h1:k<n){F:O->Nat->Nat->Prop}
  (hF:∀x a' n' c',xs[k.toNat]?=some x->Sl R sz H a' n' x->F a' n' c'):
  ∃(b o:Nat),a=some ⟨b,o,none⟩/\0<=k/\k<n/\∃(a':O)(n' c':Nat),H'.cell b (o+k.toNat*1)=some (.slice a' n' c')/\F a' n' c':=by
 obtain⟨b,o,r,x,ha,hx,⟨a',n',c',rfl,hs⟩,hc⟩:=h.get h0 h1;exact⟨b,o,ha,h0,h1,a',n',c',Heap.aJ e (hc 0 _ rfl),hF x a' n' c' hx hs⟩

theorem bg.ext{c:Nat}(h:bg aa H e sz a n c cs)(x:aH H H'):bg aa H' e sz a n c cs:=
 ⟨h.1,h.2.1,h.2.2.1,h.2.2.2.imp id fun⟨g,k,h1,h2,h3,h4⟩=>⟨g,k,h1,h2,x _ _ h3,h4⟩⟩
theorem oa{c:Nat}{s:List Int}(h:bg aa H e 1 a n c (s.map i64)):Sl ft 1 H a n s:=by
 have h1:=h.1;refine Sl.oz (rows:=iK s) (pN h ?_ ?_ ?_) (by simp[iK]) ?_
 ·clear h h1
  induction s with
  |nil=>rfl
  |cons x r ih=>simp[iK] at ih⊢;exact ih
 ·intro r hr;simp[iK] at hr;obtain⟨x,_,rfl⟩:=hr;rfl
 ·simp[iK] at h1⊢;omega
 ·intro i r x hr hx;simp[iK] at hr;obtain⟨y,hy,rfl⟩:=hr;rw[hx] at hy;obtain rfl:=zy hy;rfl

theorem bS.bY{P:Program}(h:bS P f args H fun v _=>v=i64 m){G:Int->Heap->Prop}(hG:∀H',aH H H'->Next aa H H'->G m H'):
  bS P f args H fun v H'=>∃n:Int,v= .int .i64 n/\(Next aa H H'->G n H'):=
 h.mono fun v H' e hv=>⟨m,hv,fun hN=>hG H' e hN⟩
theorem bS.aO{P:Program}{m:Bool}(h:bS P f args H fun v _=>v= .bool m){G:Bool->Heap->Prop}(hG:∀H',aH H H'->Next aa H H'->G m H'):
  bS P f args H fun v H'=>∃n:Bool,v= .bool n/\(Next aa H H'->G n H'):=
 h.mono fun v H' e hv=>⟨m,hv,fun hN=>hG H' e hN⟩
theorem bS.I0{P:Program}{m':Int}(h:bS P f args H fun v _=>v= .tuple #[i64 m,i64 m']){G:Int->Int->Heap->Prop}(hG:∀H',aH H H'->Next aa H H'->G m m' H'):
  bS P f args H fun v H'=>∃n n':Int,v= .tuple #[.int .i64 n,.int .i64 n']/\(Next aa H H'->G n n' H'):=
 h.mono fun v H' e hv=>⟨m,m',hv,fun hN=>hG H' e hN⟩
open Go Go.Proofs Go.RowKit
theorem fD.low(h:fD H w)(hB:Below w.heap.size w w'):fD H w':=fun b k hb=>by
 rw[hB.block b (h.lt hb)];exact h b k hb
theorem fD.sub(h:fD H' w)(e:aH H H'):fD H w:=fun b k hb=>h b k (e b k hb)
def gK(P:Program)(f:FuncId)(args:List Value)(H:Heap)(Q:Value->Prop):Prop:=
 ∀w,fD H w->Calls P f args.toArray w fun e w'=>∃v,e= .returned v/\Q v/\Below w.heap.size w w'
theorem gK.ext{P:Program}{Q:Value->Prop}(h:gK P f args H Q)(e:aH H H'):gK P f args H' Q:=fun w hw=>h w (hw.sub e)
theorem gK.mono{P:Program}{Q Q':Value->Prop}(h:gK P f args H Q)(hq:∀v,Q v->Q' v):gK P f args H Q':=
 fun w hw=>(h w hw).mono fun e w' ⟨v,he,hv,hB⟩=>⟨v,he,hq v hv,hB⟩
theorem LU(h:Below w.heap.size w w'):bL [] w w':=⟨h.os,h.tape,h.output,h.size,fun k hk _=>h.block k hk⟩
theorem gK.spec{P:Program}{f:FuncId}{args:List Value}{H:Heap}{Q:Value->Prop}(h:gK P f args H Q):bS P f args H fun v H'=>Q v/\H'=H:=fun w hw hb=>
 (h w hw).mono fun e w' ⟨v,he,hv,hB⟩=>⟨v,[],H,he,rfl,LU hB,hw.low hB,⟨fun _ hx=>(by cases hx),fun _ hx=>(by cases hx),by simp[gi]⟩,⟨fun _ _ h=>h,fun b k h h'=>(by rw[h] at h';cases h')⟩,hv,rfl⟩
def str(l:List UInt8):Value:= .string ⟨l.toArray⟩
def F2:jq (List UInt8):=fun _ r x=>r=[str x]
theorem F2.mono:F2.oW:=fun _ _ _ _ _ h=>h
theorem Sl.str{xs:List (List UInt8)}(h:Sl F2 1 H a n xs)(e:aH H H')(h0:0<=k)(h1:k<n){F:ByteArray->Prop}(hF:∀x,xs[k.toNat]?=some x->F ⟨x.toArray⟩):
  ∃(b o:Nat),a=some ⟨b,o,none⟩/\0<=k/\k<n/\∃s:ByteArray,H'.cell b (o+k.toNat*1)=some (.string s)/\F s:=by
 obtain⟨b,o,r,x,ha,hx,hr,hc⟩:=h.get h0 h1;obtain rfl:=hr;exact⟨b,o,ha,h0,h1,⟨x.toArray⟩,Heap.aJ e (hc 0 _ rfl),hF x hx⟩
section
variable {P : Program} {f : FuncId} {args : List Value} {H : Heap} {aa : Nat}
theorem gK.ud{m:List UInt8}(h:gK P f args H fun v=>v=str m){G:ByteArray->Heap->Prop}(hG:∀H',aH H H'->Next aa H H'->G ⟨m.toArray⟩ H'):
  bS P f args H fun v H'=>∃s:ByteArray,v= .string s/\(Next aa H H'->G s H'):=
 h.spec.mono fun v H' e hv=>⟨_,hv.1,fun hN=>hG H' e hN⟩
theorem gK.bY(h:gK P f args H fun v=>v= .int .i64 m){G:Int->Heap->Prop}(hG:∀H',aH H H'->Next aa H H'->G m H'):
  bS P f args H fun v H'=>∃n:Int,v= .int .i64 n/\(Next aa H H'->G n H'):=
 h.spec.mono fun v H' e hv=>⟨_,hv.1,fun hN=>hG H' e hN⟩
theorem gK.aO{m:Bool}(h:gK P f args H fun v=>v= .bool m){G:Bool->Heap->Prop}(hG:∀H',aH H H'->Next aa H H'->G m H'):
  bS P f args H fun v H'=>∃n:Bool,v= .bool n/\(Next aa H H'->G n H'):=
 h.spec.mono fun v H' e hv=>⟨_,hv.1,fun hN=>hG H' e hN⟩
theorem gK.Uf{a b:List UInt8}{c:Bool}(h:gK P f args H fun v=>v= .tuple #[str a,str b,.bool c]){G:ByteArray->ByteArray->Bool->Heap->Prop}(hG:∀H',aH H H'->Next aa H H'->G ⟨a.toArray⟩ ⟨b.toArray⟩ c H'):
  bS P f args H fun v H'=>∃(s t:ByteArray)(b:Bool),v= .tuple #[.string s,.string t,.bool b]/\(Next aa H H'->G s t b H'):=
 h.spec.mono fun v H' e hv=>⟨_,_,_,hv.1,fun hN=>hG H' e hN⟩
theorem gK.cut2{a:List UInt8}{c:Bool}(h:gK P f args H fun v=>v= .tuple #[str a,.bool c]){G:ByteArray->Bool->Heap->Prop}(hG:∀H',aH H H'->Next aa H H'->G ⟨a.toArray⟩ c H'):
  bS P f args H fun v H'=>∃(s:ByteArray)(b:Bool),v= .tuple #[.string s,.bool b]/\(Next aa H H'->G s b H'):=
 h.spec.mono fun v H' e hv=>⟨_,_,hv.1,fun hN=>hG H' e hN⟩
theorem bS.QS{m:List UInt8}{e:Int}(h:bS P f args H fun v _=>v= .tuple #[str m,.int .i64 e]){G:ByteArray->Int->Heap->Prop}(hG:∀H',aH H H'->Next aa H H'->G ⟨m.toArray⟩ e H'):
  bS P f args H fun v H'=>∃(s:ByteArray)(n:Int),v= .tuple #[.string s,.int .i64 n]/\(Next aa H H'->G s n H'):=
 h.mono fun v H' x hv=>⟨_,_,hv,fun hN=>hG H' x hN⟩
theorem bS.ud{m:List UInt8}(h:bS P f args H fun v _=>v=str m){G:ByteArray->Heap->Prop}(hG:∀H',aH H H'->Next aa H H'->G ⟨m.toArray⟩ H'):
  bS P f args H fun v H'=>∃s:ByteArray,v= .string s/\(Next aa H H'->G s H'):=
 h.mono fun v H' e hv=>⟨_,hv,fun hN=>hG H' e hN⟩
end
theorem eu{P:Program}{yo:Operand}{a b c:List UInt8}(e:a++b=c)(h:a.length+b.length<=9223372036854775807):aR P (aI .add ty xo yo (.string ⟨a.toArray⟩) (.string ⟨b.toArray⟩)) (.string ⟨c.toArray⟩):=by
 intro w;subst e;have hg:(eqGuard .add ty xo yo (.string ⟨a.toArray⟩) (.string ⟨b.toArray⟩)).run P w= .ok () w:=by simp[eqGuard]
 have hb:(binOp .add ty (.string ⟨a.toArray⟩) (.string ⟨b.toArray⟩)).run P w= .ok (.string ((⟨a.toArray⟩:ByteArray)++⟨b.toArray⟩)) w:=by
  have h1:(⟨a.toArray⟩:ByteArray).size=a.length:=rfl;have h2:(⟨b.toArray⟩:ByteArray).size=b.length:=rfl
  have h3:¬(IntKind.i64.max<((a.length+b.length:Nat):Int)):=by
   have:IntKind.i64.max=9223372036854775807:=by decide
   omega
  simp only[binOp,Op.stringOp,h1,h2,gt_iff_lt,nI h3];rfl
 have hc:((⟨a.toArray⟩:ByteArray)++⟨b.toArray⟩)=⟨(a++b).toArray⟩:=by
  apply ByteArray.ext;simp[ByteArray.data_append]
 simp only[aI,Sem.run_bind,hg,Result.andThen_ok,hb,hc]
end Go.Vg
namespace Go.Proofs
open Go.Shelf
def Tryz.I1:Go.Shelf.Ren:=⟨fun|99=>209|206=>240|n=>n,fun|9=>9|4=>4|3=>3|n=>n,fun|n=>n⟩
theorem Tryz.Ug:Go.Proofs.Lays.n99 Tryz.prog Tryz.I1:=by repeat' (first|kernel_rfl|(intro w;kernel_rfl)|constructor)
def Tryz.F3:Go.Shelf.Ren:=⟨fun|100=>150|207=>206|n=>n,fun|9=>9|4=>4|3=>3|n=>n,fun|n=>n⟩
theorem Tryz.QT:Go.Proofs.Lays.n100 Tryz.prog Tryz.F3:=by repeat' (first|kernel_rfl|(intro w;kernel_rfl)|constructor)
def Tryz.F4:Go.Shelf.Ren:=⟨fun|103=>227|210=>250|206=>240|n=>n,fun|9=>9|4=>4|24=>245|3=>3|n=>n,fun|n=>n⟩
theorem Tryz.QU:Go.Proofs.Lays.n103 Tryz.prog Tryz.F4:=by repeat' (first|kernel_rfl|(intro w;kernel_rfl)|constructor)
def Tryz.F5:Go.Shelf.Ren:=⟨fun|145=>195|220=>225|219=>247|217=>266|225=>267|224=>268|267=>269|266=>286|314=>287|n=>n,fun|9=>9|4=>4|59=>232|3=>3|5=>5|46=>294|146=>315|51=>314|n=>n,fun|1=>0|n=>n⟩
theorem Tryz.QV:Go.Proofs.Lays.n145 Tryz.prog Tryz.F5:=by repeat' (first|kernel_rfl|(intro w;kernel_rfl)|constructor)
def Tryz.F6:Go.Shelf.Ren:=⟨fun|146=>208|221=>205|268=>237|138=>238|143=>239|195=>260|197=>261|218=>262|219=>247|260=>277|217=>266|225=>267|224=>268|267=>269|266=>286|314=>287|n=>n,fun|9=>9|31=>187|3=>3|4=>4|0=>0|105=>289|21=>21|5=>5|46=>294|119=>322|139=>325|138=>324|146=>315|51=>314|n=>n,fun|1=>0|3=>3|4=>4|n=>n⟩
theorem Tryz.D4:Go.Proofs.Lays.n146 Tryz.prog Tryz.F6:=by repeat' (first|kernel_rfl|(intro w;kernel_rfl)|constructor)
def Tryz.rh:Go.Shelf.Ren:=⟨fun|156=>299|165=>303|166=>283|169=>285|240=>298|241=>304|276=>302|277=>305|n=>n,fun|31=>187|9=>9|3=>3|4=>4|0=>0|20=>20|72=>311|76=>264|70=>309|37=>33|75=>263|127=>333|164=>338|5=>5|80=>313|n=>n,fun|n=>n⟩
theorem Tryz.uU:Go.Proofs.Lays.n156 Tryz.prog Tryz.rh:=by repeat' (first|kernel_rfl|(intro w;kernel_rfl)|constructor)
def Tryz.D5:Go.Shelf.Ren:=⟨fun|171=>223|243=>246|246=>264|283=>279|284=>280|285=>281|286=>282|129=>294|317=>293|318=>295|319=>296|320=>297|337=>300|338=>301|n=>n,fun|3=>3|9=>9|2=>2|4=>4|171=>304|0=>0|53=>301|37=>33|5=>5|173=>307|212=>328|51=>314|20=>20|213=>329|46=>294|232=>340|233=>341|n=>n,fun|17=>5|18=>6|19=>7|n=>n⟩
theorem Tryz.NW:Go.Proofs.LaysM.n171 Tryz.prog Tryz.D5:=by repeat' (first|kernel_rfl|(intro w;kernel_rfl)|constructor)
def Tryz.D6:Go.Shelf.Ren:=⟨fun|173=>242|246=>264|283=>279|284=>280|285=>281|286=>282|129=>294|317=>293|318=>295|319=>296|320=>297|337=>300|338=>301|n=>n,fun|2=>2|3=>3|9=>9|4=>4|171=>304|0=>0|53=>301|37=>33|5=>5|173=>307|212=>328|51=>314|20=>20|213=>329|46=>294|232=>340|233=>341|n=>n,fun|17=>5|18=>6|19=>7|n=>n⟩
theorem Tryz.NX:Go.Proofs.LaysM.n173 Tryz.prog Tryz.D6:=by repeat' (first|kernel_rfl|(intro w;kernel_rfl)|constructor)
def Tryz.D7:Go.Shelf.Ren:=⟨fun|172=>226|244=>248|245=>249|247=>263|279=>270|280=>271|281=>272|282=>273|287=>278|316=>288|171=>223|205=>289|321=>291|322=>292|243=>246|246=>264|283=>279|284=>280|285=>281|286=>282|129=>294|317=>293|318=>295|319=>296|320=>297|337=>300|338=>301|n=>n,fun|9=>9|3=>3|75=>263|76=>264|4=>4|5=>5|167=>295|37=>33|0=>0|85=>272|2=>2|168=>296|53=>301|175=>302|46=>294|210=>319|127=>333|145=>336|143=>334|21=>21|171=>304|173=>307|212=>328|51=>314|20=>20|213=>329|232=>340|233=>341|80=>313|n=>n,fun|15=>1|16=>2|17=>5|18=>6|19=>7|n=>n⟩
theorem Tryz.A7:Go.Proofs.LaysC.n172 Tryz.prog Tryz.D7:=by repeat' (first|kernel_rfl|(intro w;kernel_rfl)|constructor)
def Tryz.D8:Go.Shelf.Ren:=⟨fun|174=>241|247=>263|245=>249|287=>278|279=>270|280=>271|281=>272|282=>273|321=>291|322=>292|316=>288|171=>223|205=>289|243=>246|246=>264|283=>279|284=>280|285=>281|286=>282|129=>294|317=>293|318=>295|319=>296|320=>297|337=>300|338=>301|n=>n,fun|9=>9|3=>3|2=>2|75=>263|85=>272|4=>4|167=>295|5=>5|53=>301|175=>302|46=>294|168=>296|37=>33|0=>0|210=>319|21=>21|127=>333|145=>336|143=>334|171=>304|173=>307|212=>328|51=>314|20=>20|213=>329|232=>340|233=>341|80=>313|n=>n,fun|15=>1|16=>2|17=>5|18=>6|19=>7|n=>n⟩
theorem Tryz.A8:Go.Proofs.LaysC.n174 Tryz.prog Tryz.D8:=by repeat' (first|kernel_rfl|(intro w;kernel_rfl)|constructor)
end Go.Proofs
namespace Go.Vg
open Go

def gH(c:UInt8):List UInt8->List (List UInt8)
 | []=>[[]]
 |b::r=>if b=c then []::gH c r else(b::(gH c r).headD [])::(gH c r).tail
theorem D9(c:UInt8):∀s,gH c s≠[]
 | []=>by simp[gH]
 |b::r=>by unfold gH;split<;>simp
def fA(c:UInt8):List (List UInt8)->List UInt8
 | []=>[]
 |w::ws=>w++ws.flatMap fun x=>c::x
theorem A9{c:UInt8}{w:List UInt8}(h:ws≠[]):fA c (w::ws)=w++c::fA c ws:=by
 cases ws with
 |nil=>exact absurd rfl h
 |cons x r=>simp[fA]
theorem pO(c:UInt8):∀s,fA c (gH c s)=s
 | []=>rfl
 |b::r=>by
  have ih:=pO c r;unfold gH
  cases hc:gH c r with
  |nil=>exact absurd hc (D9 c r)
  |cons w ws=>
   rw[hc] at ih;split
   ·rename_i e;subst e;rw[A9 (by simp),ih];rfl
   ·rw[←ih];simp[fA]
theorem oY{c:UInt8} :∀ {w:List UInt8},c∉w->gH c w=[w]
 | [],_=>rfl
 |b::r,h=>by
  have h1:b≠c:=fun e=>h (by simp[e]);have h2:c∉r:=fun e=>h (by simp[e]);unfold gH;rw[nI h1,oY h2];rfl
theorem jY{c:UInt8} :∀ {w t:List UInt8},c∉w->gH c (w++c::t)=w::gH c t
 | [],t,_=>by show gH c (c::t)=_;rw[gH,pI rfl]
 |b::r,t,h=>by
  have h1:b≠c:=fun e=>h (by simp[e]);have h2:c∉r:=fun e=>h (by simp[e])
  show gH c (b::(r++c::t))=_
  conv=>lhs;unfold gH
  rw[nI h1,jY h2];rfl
theorem ue{c:UInt8} :∀ {ws:List (List UInt8)},ws≠[]->(∀w∈ws,c∉w)->gH c (fA c ws)=ws
 | [w],_,h=>by rw[show fA c [w]=w from by simp[fA]];exact oY (h w (by simp))
 |w::x::r,_,h=>by
  rw[A9 (by simp),jY (h w (by simp)),ue (by simp) fun y hy=>h y (by simp[zm.1 hy])]
theorem jL(c:UInt8):∀s:List UInt8,(c∉s/\Lib.index s [c]= -1)∨ ∃w t,s=w++c::t/\c∉w/\Lib.index s [c]=(w.length:Int)
 | []=> .inl ⟨by simp,by simp[Lib.index]⟩
 |b::r=>by
  by_cases hb:c=b
  ·subst hb;exact .inr ⟨[],r,rfl,by simp,by simp[Lib.index]⟩
  ·have hp:([c].isPrefixOf (b::r))=false:=by
    show((c==b)&&List.isPrefixOf [] r)=false
    simp[hb]
   rcases jL c r with⟨h1,h2⟩|⟨w,t,h1,h2,h3⟩
   ·exact .inl ⟨by simp[hb,h1],by simp[Lib.index,hp,h2,hb]⟩
   ·refine .inr ⟨b::w,t,by rw[h1];rfl,by simp[hb,h2],?_⟩;have:¬((w.length:Int)= -1):=by omega
    simp[Lib.index,hp,h3,this,hb]
theorem Ba{c:UInt8}{s:List UInt8}(h:c∉s):s.count c=0:=List.count_eq_zero.2 h
theorem xd(c:UInt8):∀(k:Nat)(s:List UInt8),s.count c=k->Lib.splitK [c] 0 k s=gH c s
 |0,s,h=>by
  have:c∉s:=List.count_eq_zero.1 h
  rw[Lib.splitK,oY this]
 |k+1,s,h=>by
  rcases jL c s with⟨h1,h2⟩|⟨w,t,rfl,h2,h3⟩
  ·rw[Ba h1] at h;cases h
  ·rw[Lib.splitK,h3,nI (by simp),jY h2];have e1:((w.length:Int)).toNat=w.length:=by omega
   rw[e1,yS];have e2:(w++c::t).take (w.length+0)=w:=by simp
   have e3:(w++c::t).drop (w.length+1)=t:=by
    rw[List.drop_append,zO (by omega)];simp
   rw[e2,e3,xd c k t (by
    rw[List.count_append,Ba h2,List.count_cons_self] at h
    omega)]
theorem Ea{c:UInt8}{w t:List UInt8}(h:c∉w):Lib.cut (w++c::t) [c]=(w,t,true):=by
 rcases jL c (w++c::t) with⟨h1,_⟩|⟨w',t',e,h2,h3⟩
 ·exact absurd (by simp) h1
 ·have:=jY (t:=t) h;rw[e,jY h2] at this;injection this with e1 e2;subst e1;have e4:t'=t:=by simpa using e.symm
  subst e4;have e1:((w'.length:Int)).toNat=w'.length:=by omega
  rw[Lib.cut,h3,pI (by omega),e1];simp[List.drop_append]
theorem F7{c:UInt8}{s:List UInt8}(h:c∉s):Lib.cut s [c]=(s,[],false):=by
 rcases jL c s with⟨_,h2⟩|⟨w,t,e,_,_⟩
 ·rw[Lib.cut,h2,nI (by decide)]
 ·exact absurd (by rw[e];simp) h
theorem ng(c:UInt8)(s:List UInt8):(c∉s/\Lib.cut s [c]=(s,[],false))∨ ∃w t,s=w++c::t/\c∉w/\Lib.cut s [c]=(w,t,true):=by
 rcases jL c s with⟨h1,_⟩|⟨w,t,e,h2,_⟩
 ·exact .inl ⟨h1,F7 h1⟩
 ·exact .inr ⟨w,t,e,h2,by rw[e];exact Ea h2⟩

theorem Bb:∀(l:List UInt8)(acc:Nat)(d:UInt8),Lib.parseUint10 acc (l++[d])=match Lib.parseUint10 acc l with| .ok a=>Lib.parseUint10 a [d]|e=>e
 | [],acc,d=>by simp[Lib.parseUint10]
 |c::r,acc,d=>by
  rw[List.cons_append,Lib.parseUint10,Lib.parseUint10];split
  ·split
   ·rfl
   ·split
    ·rfl
    ·exact Bb r _ d
  ·rfl
theorem sg{k:Nat}(h:k<10):(UInt8.ofNat (48+k)).toNat=48+k:=by
 rw[UInt8.toNat_ofNat'];omega
theorem uV:∀(u:Nat),u<18446744073709551616->Lib.parseUint10 0 (Lib.decDigits u)= .ok u:=by
 intro u
 induction u using Nat.strongRecOn with
 |_ u ih=>
  intro hu;unfold Lib.decDigits;split
  ·rename_i h;rw[Lib.parseUint10,sg h,pI (by omega),nI (by omega),nI (by omega),Lib.parseUint10]
   congr 1;omega
  ·rename_i h;rw[Bb,ih (u/10) (by omega) (by omega)];dsimp only;rw[Lib.parseUint10,sg (Nat.mod_lt _ (by omega)),pI (by omega),nI (by omega),nI (by omega),Lib.parseUint10]
   congr 1;omega
theorem mz:∀(u:Nat),∀b∈Lib.decDigits u,48<=b.toNat/\b.toNat<=57:=by
 intro u
 induction u using Nat.strongRecOn with
 |_ u ih=>
  intro b hb;unfold Lib.decDigits at hb;split at hb
  ·rename_i h;simp only[zN] at hb;subst hb;rw[sg h];omega
  ·rename_i h;rcases zd.1 hb with hb|hb
   ·exact ih _ (by omega) b hb
   ·simp only[zN] at hb;subst hb;rw[sg (Nat.mod_lt _ (by omega))];omega
theorem pP(u:Nat):Lib.decDigits u≠[]:=by
 unfold Lib.decDigits;split<;>simp
theorem I2(n:Int):∀b∈Lib.itoa n,b.toNat=45∨48<=b.toNat/\b.toNat<=57:=by
 intro b hb;unfold Lib.itoa at hb;split at hb
 ·rcases zm.1 hb with rfl|hb
  ·exact .inl rfl
  ·exact .inr (mz _ b hb)
 ·exact .inr (mz _ b hb)
theorem ri{c:UInt8}(n:Int)(h1:c.toNat≠45)(h2:c.toNat<48∨57<c.toNat):c∉Lib.itoa n:=fun h=>by
 rcases I2 n c h with h|h
 ·exact h1 h
 ·omega
theorem LW{n:Int}(h0: -9223372036854775808<=n)(h1:n<=9223372036854775807):Lib.atoiAll (Lib.itoa n)= .ok n:=by
 unfold Lib.itoa;split
 ·rename_i h;rw[Lib.atoiAll_minus,Lib.parseMag,nI (pP _),uV _ (by omega),Lib.signed];rw[nI (by omega)]
  congr 1;omega
 ·rename_i h;have hb:=mz n.toNat;have hp:Lib.parseMag (Lib.decDigits n.toNat)= .ok n.toNat:=by rw[Lib.parseMag,nI (pP _),uV _ (by omega)]
  cases hd:Lib.decDigits n.toNat with
  |nil=>exact absurd hd (pP _)
  |cons c r=>
   rw[hd] at hb hp;have:=hb c (by simp);rw[Lib.atoiAll_plain c r (by omega) (by omega),hp,Lib.signless,nI (by omega)]
   congr 1;omega
def cj(s:List UInt8):Option Int:=
 match Lib.atoiAll s with
 | .ok v=>if Lib.itoa v=s then some v else none
 |_=>none
theorem Bc{n:Int}(h0: -9223372036854775808<=n)(h1:n<=9223372036854775807):cj (Lib.itoa n)=some n:=by
 rw[cj,LW h0 h1];simp
theorem Bd{s:List UInt8}{n:Int}(h:cj s=some n):Lib.itoa n=s/\ -9223372036854775808<=n/\n<=9223372036854775807:=by
 unfold cj at h;split at h
 ·rename_i v hv;split at h
  ·rename_i e;obtain rfl:=zy h;exact⟨e,Lib.atoiAll_bounds hv⟩
  ·cases h
 ·cases h
theorem lr{n:Int}(h0:0<=n)(h1:n<=99):(Lib.itoa n).length<=2:=by
 unfold Lib.itoa;rw[nI (by omega),Lib.decDigits_length];by_cases h:n.toNat<10
 ·rw[Lib.nDigits_small h];omega
 ·rw[Lib.nDigits_big h,Lib.nDigits_small (by omega)];omega
theorem lZ{n:Int}(h0:0<=n)(h1:n<=999):(Lib.itoa n).length<=3:=by
 unfold Lib.itoa;rw[nI (by omega),Lib.decDigits_length];by_cases h:n.toNat<10
 ·rw[Lib.nDigits_small h];omega
 ·rw[Lib.nDigits_big h];by_cases h2:n.toNat/10<10
  ·rw[Lib.nDigits_small h2];omega
  ·rw[Lib.nDigits_big h2,Lib.nDigits_small (by omega)];omega
open Go Go.Proofs Go.RowKit Go.Shelf
structure Lb(H:Heap):Prop where
 max:∃m:Int,H.cell 0 0=some (.int .i64 m)
 syn:∃(t:TypeId)(p:Value),H.cell 1 0=some (.iface t p)
 rng:∃(t:TypeId)(p:Value),H.cell 2 0=some (.iface t p)
 tab:∃k,H 5=some k/\k.size=Lib.pow10Tab.length/\∀(j:Nat)(z:Int),Lib.pow10Tab[j]?=some z->k.cells j=some (.int .u64 z)
theorem Lb.ext(h:Lb H)(e:aH H H'):Lb H':=by
 obtain⟨⟨m,h1⟩,⟨t,p,h2⟩,⟨t',p',h3⟩,⟨k,h4,h5⟩⟩:=h;exact⟨⟨m,Heap.aJ e h1⟩,⟨t,p,Heap.aJ e h2⟩,⟨t',p',Heap.aJ e h3⟩,⟨k,e _ _ h4,h5⟩⟩
theorem F8{P:Program}(hs:fD H w){name:String}{g:Nat}{zs:List Int}(hn:P.globalNamed name=some g)(h:∃k,H g=some k/\k.size=zs.length/\∀(j:Nat)(z:Int),zs[j]?=some z->k.cells j=some (.int .u64 z)):Lib.TabIs P w name .u64 zs:=by
 obtain⟨k,hk,kv,hc⟩:=h;obtain⟨cur,fr,hw,h1,_,h2⟩:=hs g k hk;unfold Lib.TabIs World.var?;rw[hn];simp only[yj,hw,Option.some.injEq];apply Array.ext
 ·simp[h1,kv]
 ·intro i h3 h4;have hi:i<zs.length:=by simpa using h4
  have:=h2 i _ (hc i _ (zu hi));have h5:cur[i]?=some cur[i]:=yw h3;rw[h5] at this;rw[zy this];simp
section
variable {H : Heap} (hL : Lb H)
include hL
theorem nF{n:Int}(h0: -9223372036854775808<=n)(h1:n<=9223372036854775807):gK Tryz.prog 223 [.int .i64 n] H fun v=>v=str (Lib.itoa n):=fun w hw=>
 (Any.strconv_Itoa Tryz.NW n h0 h1 w (F8 hw (by kernel_rfl) hL.tab)).mono fun e w' ⟨he,k,os,er⟩=>⟨_,he,rfl,by rw[er];exact Lib.below_grow _ w (ze _) k os⟩
theorem Xr{n:Int}(h0: -9223372036854775808<=n)(h1:n<=9223372036854775807):gK Tryz.prog 242 [.int .i64 n,.int .i64 10] H fun v=>v=str (Lib.itoa n):=fun w hw=>
 (Any.strconv_FormatInt_10 Tryz.NX n h0 h1 w (F8 hw (by kernel_rfl) hL.tab)).mono fun e w' ⟨he,k,os,er⟩=>⟨_,he,rfl,by rw[er];exact Lib.below_grow _ w (ze _) k os⟩
def Xs(x:Lib.NumEnd Int)(v:Value):Prop:=∃(n:Int)(e:Value),v= .tuple #[.int .i64 n,e]/\((x= .ok n/\e= .nilIface)∨((∀m,x≠ .ok m)/\∃t p,e= .iface t p))
theorem NY(hs:s.size<=281474976710656):gK Tryz.prog 226 [.string s] H (Xs (Lib.atoiAll s.data.toList)):=fun w hw=>by
 cases h:Lib.atoiAll s.data.toList
 ·rename_i v;refine(Any.strconv_Atoi_ok Tryz.A7 s (by omega) v h w).mono fun e w' ⟨he,er⟩=>⟨_,he,⟨_,_,rfl,.inl ⟨rfl,rfl⟩⟩,?_⟩
  rcases er with rfl|⟨t,rfl⟩
  ·exact Below.refl _ _
  ·exact Lib.bytesWorld_below _ _ _
 ·obtain⟨t,p,hc⟩:=hL.syn;exact (Any.strconv_Atoi_syntax Tryz.A7 s hs h (.iface t p) w (hw.cell hc) (.inr ⟨t, p, rfl⟩)).mono fun e w' ⟨N, he, _, _, hB⟩ => ⟨_, he, ⟨_, _, rfl, .inr ⟨(by simp), _, _, rfl⟩⟩, hB⟩
 ·obtain⟨t,p,hc⟩:=hL.rng;exact(Any.strconv_Atoi_range Tryz.A7 s hs h (.iface t p) w (hw.cell hc) (.inr ⟨t,p,rfl⟩)).mono fun e w' ⟨N,he,_,_,hB⟩=>⟨_,he,⟨_,_,rfl,.inr ⟨(by simp),_,_,rfl⟩⟩,hB⟩
theorem Uh(hs:s.size<=281474976710656):gK Tryz.prog 241 [.string s,.int .i64 10,.int .i64 64] H (Xs (Lib.atoiAll s.data.toList)):=fun w hw=>by
 rw[←Lib.parseIntB_64]
 cases h:Lib.parseIntB 64 s.data.toList
 ·rename_i v;refine(Any.strconv_ParseInt_10_at64_ok Tryz.A8 s (by omega) v h w).mono fun e w' ⟨he,er⟩=>⟨_,he,⟨_,_,rfl,.inl ⟨rfl,rfl⟩⟩,?_⟩
  rcases er with rfl|⟨t,rfl⟩
  ·exact Below.refl _ _
  ·exact Lib.bytesWorld_below _ _ _
 ·obtain⟨t,p,hc⟩:=hL.syn;exact (Any.strconv_ParseInt_10_at64_syntax Tryz.A8 s hs h (.iface t p) w (hw.cell hc) (.inr ⟨t, p, rfl⟩)).mono fun e w' ⟨N, he, _, _, hB⟩ => ⟨_, he, ⟨_, _, rfl, .inr ⟨(by simp), _, _, rfl⟩⟩, hB⟩
 ·obtain⟨t,p,hc⟩:=hL.rng;exact(Any.strconv_ParseInt_10_at64_range Tryz.A8 s hs h (.iface t p) w (hw.cell hc) (.inr ⟨t,p,rfl⟩)).mono fun e w' ⟨N,he,_,_,hB⟩=>⟨_,he,⟨_,_,rfl,.inr ⟨(by simp),_,_,rfl⟩⟩,hB⟩
theorem Sn(hs:s.size<4294967281):gK Tryz.prog 195 [.string s,.string sep] H fun v=>
  v= .tuple #[str (Lib.cut s.data.toList sep.data.toList).1,str (Lib.cut s.data.toList sep.data.toList).2.1,.bool (Lib.cut s.data.toList sep.data.toList).2.2]:=fun w hw=>by
 obtain⟨m,hm⟩:=hL.max;exact(Any.strings_Cut Tryz.QV s sep m w hs (hw.cell hm)).mono fun e w' ⟨he,n,er⟩=>⟨_,he,rfl,by rw[er];exact⟨rfl,rfl,rfl,ze _,fun _ _=>rfl⟩⟩
theorem QW(hs:s.size<4294967281):gK Tryz.prog 239 [.string s,.string sep] H fun v=>v= .int .i64 (Lib.index s.data.toList sep.data.toList):=fun w hw=>by
 obtain⟨m,hm⟩:=hL.max;exact(Any.strings_Index { Tryz.D4 with } s sep m w hs (hw.cell hm)).mono fun e w' ⟨he,er⟩=>⟨_,he,rfl,by rw[er];exact Below.refl _ _⟩
omit hL in
theorem NZ :gK Tryz.prog 209 [.string s,.string p] H fun v=>v= .bool (Lib.hasPrefix s.data.toList p.data.toList):=fun w hw=>
 (Any.strings_HasPrefix Tryz.Ug s p w).mono fun e w' ⟨he,er⟩=>⟨_,he,rfl,by rw[er];exact Below.refl _ _⟩
omit hL in
theorem F9 :gK Tryz.prog 227 [.string s,.string p] H fun v=>v= .tuple #[str (Lib.trimPrefix s.data.toList p.data.toList),.bool (Lib.hasPrefix s.data.toList p.data.toList)]:=fun w hw=>
 (Any.strings_CutPrefix Tryz.QU s p w).mono fun e w' ⟨he,er⟩=>⟨_,he,rfl,by rw[er];exact Below.refl _ _⟩
theorem Ac{c:UInt8}(hs:s.size<4294967281):Sp 208 [.string s,.string ⟨#[c]⟩] H fun v H'=>
  ∃(g n:Nat),v= .slice (some ⟨g,0,none⟩) n n/\Sl F2 1 H' (some ⟨g,0,none⟩) n (gH c s.data.toList):=fun w hw hb=>by
 obtain⟨m,hm⟩:=hL.max;have one:1<=(⟨#[c]⟩:ByteArray).size:=ze 1;refine(Any.strings_Split Tryz.D4 (by kernel_rfl) s ⟨#[c]⟩ m w hs (hw.cell hm) one).mono fun e w' ⟨he,er⟩=>?_
 have hn:H w.heap.size=none:=by
  cases hk:H w.heap.size with
  |none=>rfl
  |some k=>exact absurd (hw.lt hk) (by omega)
 have Ui:Lib.countB s ⟨#[c]⟩=s.data.toList.count c:=by rw[←Lib.count_one]
 have Gd:(Lib.splitB ⟨#[c]⟩ 0 (Lib.countB s ⟨#[c]⟩) s).map (·.data.toList)=gH c s.data.toList:=by
  rw[Lib.splitB_data,Ui];exact xd c _ _ rfl
 have hlen:(gH c s.data.toList).length=Lib.countB s ⟨#[c]⟩+1:=by
  rw[←Gd,ym];exact Lib.splitB_all _ one 0 _ s rfl
 have uQ:(Lib.splitB ⟨#[c]⟩ 0 (Lib.countB s ⟨#[c]⟩) s).map Value.string=(gH c s.data.toList).map str:=by
  rw[←Gd,List.map_map];rfl
 have hle:=Lib.countB_le ⟨#[c]⟩ one s.size s (ze _);rw[uQ] at er
 have Uj:w'.heap[w.heap.size]?=some (.cells ((gH c s.data.toList).map str).toArray 9 (0,0)):=by
  rw[er];show(w.heap.push _)[w.heap.size]?=_;simp;rfl
 have hB:bL [] w w':=by rw[er];exact bL.alloc [] w _
 refine⟨_,[],fun b=>if b=w.heap.size then some (ay 9 ((gH c s.data.toList).map str)) else H b,he,rfl,hB,fun b k hk=>?_,⟨fun _ hx=>(by cases hx),fun _ hx=>(by cases hx),by simp[gi]⟩,⟨fun b k hk=>?_,fun b k hk Eb=>?_⟩,w.heap.size,_,rfl,?_⟩
 ·by_cases e1:b=w.heap.size
  ·subst e1;simp only[pI] at hk;obtain rfl:=zy hk;exact⟨_,_,Uj,by simp[ay],fun _=>rfl,fun j v hj=>by simpa[ay] using hj⟩
  ·simp only[nI e1] at hk;rw[hB.block b (hw.lt hk) (by simp)];exact hw b k hk
 ·have e1:b≠w.heap.size:=fun e1=>by rw[e1,hn] at hk;cases hk
  simp only[nI e1];exact hk
 ·by_cases e1:b=w.heap.size
  ·omega
  ·simp only[nI e1] at hk;rw[hk] at Eb;cases Eb
 ·refine⟨hlen,by omega,fun _=>⟨_,0,rfl,fun i x hx=>⟨[str x],rfl,fun j v hj=>?_⟩⟩⟩
  cases j with
  |zero=>
   simp only[List.getElem?_cons_zero,Option.some.injEq] at hj;subst hj;unfold Heap.cell
   simp[ay,hx]
  |succ j=>simp at hj
omit hL in
theorem Uk{c:Nat}{b:UInt8}(h:Sl F2 1 H a n ws)(hc:n<=c)(hn:n<=1000000)(hl:(fA b ws).length<=140737488355328):
  gK Tryz.prog 299 [.slice a n c,.string ⟨#[b]⟩] H fun v=>v=str (fA b ws):=fun w hw=>by
 have hX:Builder.Extra Tryz.prog Tryz.rh:= {
  sizeBuilder:=by kernel_rfl
  liesBuilder:=by kernel_rfl
  t5:= Tryz.underlying5
  a5:= Tryz.isAgg5
  z5:= Tryz.sizeOf5
  v5:= Tryz.zeroValue5
  infoByte:=by kernel_rfl
  cellsByte:=by kernel_rfl
  sizeByte:=by kernel_rfl
  neB5:=by decide }
 have So:∀ws:List (List UInt8),Lib.join ws [b]=fA b ws:=fun ws=>by
  cases ws with
  |nil=>rfl
  |cons x r=>
   rw[Lib.join_cons];unfold Lib.joinTail
   show x++(List.map (fun y=>[b]++y) r).flatten=x++r.flatMap fun y=>b::y
   rw[List.flatMap_def];rfl
 have hlen:=h.len
 match ws,hlen,h with
 | [],hlen,h=>
  obtain rfl:n=0:=by simpa using hlen.symm
  exact(Any.strings_Join_none Tryz.uU hX a c ⟨#[b]⟩ w).mono fun e w' ⟨he,er⟩=>⟨_,he,rfl,by rw[er];exact Below.refl _ _⟩
 | [x],hlen,h=>
  obtain rfl:n=1:=by simpa using hlen.symm
  obtain⟨bk,o,rfl,cI⟩:=h.ck (by omega);obtain⟨r,hr,hv⟩:=cI 0 x rfl;obtain rfl:=hr;have:=hw.cell (hv 0 _ rfl);refine(Any.strings_Join_one Tryz.uU hX bk o c ⟨x.toArray⟩ ⟨#[b]⟩ w (by simpa[str] using this)).mono fun e w' ⟨he,er⟩=>⟨_,he,?_,by rw[er];exact Below.refl _ _⟩
  simp[str,fA]
 |x::y::r,hlen,h=>
  obtain⟨bk,o,rfl,cI⟩:=h.ck (by simp at hlen;omega)
  have Ic:bk<w.heap.size:=by
   obtain⟨r,hr,hv⟩:=cI 0 x rfl;obtain rfl:=hr;have:=hv 0 _ rfl;unfold Heap.cell at this
   cases hk:H bk with
   |none=>rw[hk] at this;cases this
   |some k=>exact hw.lt hk
  have hm:((x::y::r).map fun l=>(⟨l.toArray⟩:ByteArray)).map (·.data.toList)=x::y::r:=by
   rw[List.map_map];exact List.map_id'' (fun _=>rfl) _
  have:=Any.strings_Join_many Tryz.uU hX bk o c ((x::y::r).map fun l=>(⟨l.toArray⟩:ByteArray)) ⟨#[b]⟩ w (fun j z hz=>by
   rw[zP] at hz
   cases hj:(x::y::r)[j]? with
   |none=>rw[hj] at hz;cases hz
   |some l=>
    rw[hj] at hz;obtain rfl:=zy hz;obtain⟨q,hq,hv⟩:=cI j l hj;obtain rfl:=hq;have:=hw.cell (hv 0 _ rfl)
    simpa[str] using this) Ic (by simp) (by rw[ym,hlen];omega) (by rw[ym,hlen];exact hc) (by rw[hm];rw[show(⟨#[b]⟩:ByteArray).data.toList=[b] from rfl,So];exact hl)
  rw[hm] at this;rw[show(⟨#[b]⟩:ByteArray).data.toList=[b] from rfl,So] at this;rw[ym] at this;rw[←hlen];exact this.mono fun e w' ⟨he,hB⟩=>⟨_,he,rfl,hB⟩
end
end Go.Vg
