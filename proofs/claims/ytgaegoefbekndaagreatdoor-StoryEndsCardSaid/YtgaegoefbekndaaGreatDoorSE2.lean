/- What is proved here: a part of the proof of laws of this seat: what a contract is, how it comes of a condition, contracts of the functions that are reached, the plain laws. -/
import Derived.Test.YtgaegoefbekndaaGreatDoorSE1
import Derived.Lib.AppendStr
import Derived.Lib.ConvBytes
set_option linter.unusedSimpArgs false
set_option linter.unusedVariables false
set_option maxRecDepth 100000
namespace Go.Vg
open Go Go.RowKit
section
variable {C : Cfg} {w0 : World} {own0 : List Nat}
theorem svsOf_sound{nt:Nat}{st:St}{a:Act}(h:EnvOk nt st.env st.own a):∀ {xs:List Operand} {l:List SV},svsOf st xs=some l->xs.map a.eval=l.map (SV.val st.own)
 | [],l,e=>by simp[svsOf] at e;subst e;rfl
 |x::r,l,e=>by
  simp only[svsOf] at e
  split at e
  ·rename_i s l' hs hl
   obtain rfl:=Option.some.inj e
   simp[(get_sound h hs).1,svsOf_sound h hl]
  ·cases e
theorem dedup_nodup(l:List Nat):(dedup l).Nodup:=by
 induction l with
 |nil=>exact List.nodup_nil
 |cons y r ih=>
  simp only[dedup]
  split
  ·exact ih
  ·rename_i h
   exact List.nodup_cons.2 ⟨by simpa using h,ih⟩
theorem pick_spec{own:List Bx} :∀ {is:List Nat} {xs:List Bx},pick own is=some xs->xs.length=is.length/\∀k i:Nat,is[k]?=some i->∃x,own[i]?=some x/\xs[k]?=some x
 | [],xs,h=>by simp[pick] at h;subst h;exact⟨rfl,fun k i h=>by simp at h⟩
 |i::r,xs,h=>by
  simp only[pick] at h
  split at h
  ·rename_i x l hx hl
   obtain rfl:=Option.some.inj h
   obtain⟨h1,h2⟩:=pick_spec hl
   refine⟨by simp[h1],fun k j hk=> ?_⟩
   cases k with
   |zero=>simp at hk;subst hk;exact⟨x,hx,rfl⟩
   |succ k=>simpa using h2 k j (by simpa using hk)
  ·cases h
theorem pick_mem{own:List Bx}{is:List Nat}{xs:List Bx}(h:pick own is=some xs){x:Bx}(hx:x∈xs):∃k i:Nat,is[k]?=some i/\own[i]?=some x/\xs[k]?=some x:=by
 obtain⟨k,hk⟩:=List.mem_iff_getElem?.1 hx
 obtain⟨h1,h2⟩:=pick_spec h
 have hl:=idx_lt hk
 have hi:is[k]?=some is[k]:=List.getElem?_eq_getElem (by omega)
 obtain⟨x',ha,hb⟩:=h2 k _ hi
 rw[hk] at hb
 obtain rfl:=Option.some.inj hb
 exact⟨k,_,hi,ha,hk⟩
theorem pick_own{own:List Bx}{is:List Nat}{xs:List Bx}(h:pick own is=some xs){x:Bx}(hx:x∈xs):x∈own:=by
 obtain⟨_,i,_,h2,_⟩:=pick_mem h hx
 exact List.mem_of_getElem? h2
theorem pick_boxes{own:List Bx}{H:Heap}{w:World}(hb:BoxesOk own H w){is:List Nat}(hn:is.Nodup){xs:List Bx}(h:pick own is=some xs):BoxesOk xs H w:=by
 refine⟨fun x hx=>hb.ok x (pick_own h hx),fun x hx=>hb.hid x (pick_own h hx),?_⟩
 unfold List.Nodup
 rw[List.pairwise_iff_getElem]
 intro k l hk hl hkl e
 obtain⟨h1,h2⟩:=pick_spec h
 simp only[List.length_map] at hl hk
 have hi:is[k]?=some is[k]:=List.getElem?_eq_getElem (by omega)
 have hj:is[l]?=some is[l]:=List.getElem?_eq_getElem (by omega)
 obtain⟨x,ha,hx⟩:=h2 k _ hi
 obtain⟨y,hc,hy⟩:=h2 l _ hj
 simp only[List.getElem_map] at e
 rw[List.getElem?_eq_getElem hk] at hx
 rw[List.getElem?_eq_getElem hl] at hy
 rw[Option.some.inj hx,Option.some.inj hy] at e
 have he:=own_unique hb ha hc e
 have:=(List.getElem?_inj (by omega) hn).1 (hi.trans ((congrArg some he).trans hj.symm))
 omega
theorem alook_zip:∀ {is:List Nat} {cs:List (List Value)} {i:Nat} {c:List Value},alook i (is.zip cs)=some c->∃k:Nat,is[k]?=some i/\cs[k]?=some c
 | [],_,_,_,h=>by simp[alook] at h
 |j::r,[],_,_,h=>by simp[alook] at h
 |j::r,d::cs,i,c,h=>by
  simp only[List.zip_cons_cons,alook] at h
  split at h
  ·rename_i e
   subst e
   exact⟨0,rfl,h⟩
  ·obtain⟨k,h1,h2⟩:=alook_zip h
   exact⟨k+1,h1,h2⟩
theorem alook_zip_none:∀ {is:List Nat} {cs:List (List Value)} {i:Nat},cs.length=is.length->alook i (is.zip cs)=none->i∉is
 | [],_,_,_,_=>by simp
 |j::r,[],_,hl,_=>by simp at hl
 |j::r,d::cs,i,hl,h=>by
  simp only[List.zip_cons_cons,alook] at h
  split at h
  ·cases h
  ·rename_i e
   simp only[List.mem_cons,not_or]
   exact⟨Ne.symm e,alook_zip_none (by simpa using hl) h⟩
theorem ownWith_getElem?(al:List (Nat×List Value)):∀(own:List Bx)(i j:Nat),(ownWith al i own)[j]?=(own[j]?).map fun x=>match alook (i+j) al with|some c=>x.set c|none=>x
 | [],i,j=>by simp[ownWith]
 |x::r,i,0=>by cases h:alook i al<;>simp[ownWith,h]
 |x::r,i,j+1=>by
  simp only[ownWith,List.getElem?_cons_succ]
  rw[ownWith_getElem? al r (i+1) j,show i+1+j=i+(j+1) from by omega]
theorem putBack_getElem?(own:List Bx)(is:List Nat)(cs:List (List Value))(j:Nat):(putBack own is cs)[j]?=(own[j]?).map fun x=>match alook j (is.zip cs) with|some c=>x.set c|none=>x:=by
 simp[putBack,ownWith_getElem?]
theorem ownWith_length(al:List (Nat×List Value)):∀(own:List Bx)(i:Nat),(ownWith al i own).length=own.length
 | [],_=>rfl
 |x::r,i=>by simp[ownWith,ownWith_length al r]
theorem putBack_length(own:List Bx)(is:List Nat)(cs:List (List Value)):(putBack own is cs).length=own.length:=ownWith_length _ _ _
theorem putBack_ext(own:List Bx)(is:List Nat)(cs:List (List Value)):OwnExt own (putBack own is cs):=by
 refine⟨by rw[putBack_length];exact Nat.le_refl _,fun i x hx=> ?_⟩
 rw[putBack_getElem?,hx]
 simp only[Option.map_some]
 split
 ·exact⟨_,rfl,rfl,rfl,rfl⟩
 ·exact⟨_,rfl,rfl,rfl,rfl⟩
theorem putBack_b(own:List Bx)(is:List Nat)(cs:List (List Value)):(putBack own is cs).map Bx.b=own.map Bx.b:=by
 apply List.ext_getElem?
 intro j
 rw[List.getElem?_map,putBack_getElem?,List.getElem?_map]
 cases own[j]? with
 |none=>rfl
 |some x=>simp only[Option.map_some];split<;>rfl
theorem setAll_getElem?:∀ {xs:List Bx} {cs:List (List Value)} {k:Nat} {x:Bx} {c:List Value},xs[k]?=some x->cs[k]?=some c->(setAll xs cs)[k]?=some (x.set c)
 | [],_,_,_,_,h,_=>by simp at h
 |x::xs,[],_,_,_,_,h=>by simp at h
 |x::xs,c::cs,0,_,_,h,h'=>by simp at h h';subst h;subst h';rfl
 |x::xs,c::cs,k+1,_,_,h,h'=>by simpa[setAll] using setAll_getElem? (xs:=xs) (cs:=cs) (k:=k) (by simpa using h) (by simpa using h')
theorem StW.called{own:List Bx}{H H':Heap}{w w':World}(hw:StW C w0 own0 own H w){is:List Nat}{xs:List Bx}(hp:pick own is=some xs){css:List (List Value)}(hl:css.length=xs.length)
  (hB:BelowX (xs.map Bx.b) w w') (hS:Sees H' w') (hO:BoxesOk (setAll xs css) H' w') (hN:Next w.heap.size H H'):StW C w0 own0 (putBack own is css) H' w':=by
 have hbl:=hw.base_le
 obtain⟨hlen,_⟩:=pick_spec hp
 have hmem:∀y∈putBack own is css,(∃x∈own,y.b=x.b)/\y.ok w'/\H' y.b=none:=fun y hy=>by
  obtain⟨j,hj⟩:=List.mem_iff_getElem?.1 hy
  rw[putBack_getElem?] at hj
  cases hx:own[j]? with
  |none=>simp[hx] at hj
  |some x=>
   simp only[hx,Option.map_some,Option.some.injEq] at hj
   have hxm:=List.mem_of_getElem? hx
   cases ha:alook j (is.zip css) with
   |some c=>
    simp only[ha] at hj
    subst hj
    obtain⟨k,h1,h2⟩:=alook_zip ha
    obtain⟨x',h3,h4⟩:=(pick_spec hp).2 k j h1
    rw[hx] at h3
    obtain rfl:=Option.some.inj h3
    have hm:=List.mem_of_getElem? (setAll_getElem? h4 h2)
    exact⟨⟨x,hxm,rfl⟩,hO.ok _ hm,hO.hid _ hm⟩
   |none=>
    simp only[ha] at hj
    subst hj
    have hnj:=alook_zip_none (by omega) ha
    have hlt:=Bx.ok_lt (hw.boxes.ok x hxm)
    have hnx:x.b∉xs.map Bx.b:=fun hmem=>by
     obtain⟨z,hz,hzb⟩:=List.mem_map.1 hmem
     obtain⟨k,i,h1,h2,_⟩:=pick_mem hp hz
     have:=own_unique hw.boxes h2 hx hzb
     subst this
     exact hnj (List.mem_of_getElem? h1)
    refine⟨⟨x,hxm,rfl⟩,Bx.ok_same (hw.boxes.ok x hxm) (hB.block _ hlt hnx),?_⟩
    cases hk:H' x.b with
    |none=>rfl
    |some k=>have:=hN.fresh _ _ hk (hw.boxes.hid x hxm);omega
 refine⟨hS,⟨fun y hy=>(hmem y hy).2.1,fun y hy=>(hmem y hy).2.2,by rw[putBack_b];exact hw.boxes.apart⟩,fun y hy=> ?_,hw.step hB.os hB.tape hB.output hB.size fun k hk hn=>hB.block k (by omega) (fun hm=> ?_),hw.next.trans (hN.mono hbl),hw.base,hw.seen0⟩
 ·obtain⟨⟨x,hx,e⟩,_⟩:=hmem y hy
  rw[e];exact hw.locs x hx
 ·obtain⟨z,hz,hzb⟩:=List.mem_map.1 hm
  rcases hw.locs z (pick_own hp hz) with h|h
  ·omega
  ·exact hn (hzb▸h)
theorem StW.calledPlain{own:List Bx}{H H':Heap}{w w':World}(hw:StW C w0 own0 own H w)(hB:BelowX [] w w')(hS:Sees H' w')(hN:Next w.heap.size H H'):StW C w0 own0 own H' w':=by
 have hbl:=hw.base_le
 refine⟨hS,⟨(hw.boxes.below hB).ok,fun y hy=> ?_,hw.boxes.apart⟩,hw.locs,hw.step hB.os hB.tape hB.output hB.size fun k hk _=>hB.block k (by omega) (by simp),hw.next.trans (hN.mono hbl),hw.base,hw.seen0⟩
 have hlt:=Bx.ok_lt (hw.boxes.ok y hy)
 cases hk:H' y.b with
 |none=>rfl
 |some k=>have:=hN.fresh _ _ hk (hw.boxes.hid y hy);omega
def lendH(xs:List Bx)(H:Heap):Heap:=fun b=>match xs.find? (fun x=>x.b==b) with
 |some x=>some (boxKB x.ty x.cs)
 |none=>H b
theorem lendH_at{xs:List Bx}{H:Heap}{w:World}(hb:BoxesOk xs H w){x:Bx}(hx:x∈xs):lendH xs H x.b=some (boxKB x.ty x.cs):=by
 unfold lendH
 cases hf:xs.find? (fun y=>y.b==x.b) with
 |none=>have:=List.find?_eq_none.1 hf x hx;simp at this
 |some y=>
  have h1:=List.mem_of_find?_eq_some hf
  have h2:=List.find?_some hf
  simp at h2
  obtain⟨i,hi⟩:=List.mem_iff_getElem?.1 h1
  obtain⟨j,hj⟩:=List.mem_iff_getElem?.1 hx
  have e:=own_unique hb hi hj h2
  subst e
  rw[hi] at hj
  obtain rfl:=Option.some.inj hj
  rfl
theorem lendH_other{xs:List Bx}{H:Heap}{b:Nat}(h:∀x∈xs,b≠x.b):lendH xs H b=H b:=by
 unfold lendH
 have:xs.find? (fun x=>x.b==b)=none:=List.find?_eq_none.2 fun x hx=>by simp;exact fun e=>h x hx e.symm
 rw[this]
theorem lendH_knows{xs:List Bx}{H:Heap}{w:World}(hb:BoxesOk xs H w):∀ys:List Bx,(∀y∈ys,y∈xs)->knows (lendH xs H) ys
 | [],_=>trivial
 |y::r,h=>⟨lendH_at hb (h y List.mem_cons_self),lendH_knows hb r fun z hz=>h z (List.mem_cons_of_mem _ hz)⟩
theorem lendH_sees{xs:List Bx}{H:Heap}{w:World}(hs:Sees H w)(hb:BoxesOk xs H w)(hmap:xs.all (fun x=> !x.map)=true):Sees (lendH xs H) w:=by
 intro b k hk
 by_cases h:∃x∈xs,b=x.b
 ·obtain⟨x,hx,rfl⟩:=h
  rw[lendH_at hb hx] at hk
  obtain rfl:=Option.some.inj hk
  have hm:x.map=false:=by simpa using List.all_eq_true.1 hmap x hx
  have hok:=hb.ok x hx
  simp only[Bx.ok,hm] at hok
  rw[hok];exact boxKB_sees _ _
 ·have hn:∀x∈xs,b≠x.b:=fun x hx e=>h ⟨x,hx,e⟩
  rw[lendH_other hn] at hk
  exact hs b k hk
theorem lendH_next{xs:List Bx}{H:Heap}{w:World}(hb:BoxesOk xs H w):Next 0 H (lendH xs H):=by
 refine⟨fun b k hk=> ?_,fun _ _ _ _=>Nat.zero_le _⟩
 rw[lendH_other fun x hx e=> ?_]
 ·exact hk
 ·rw[e,hb.hid x hx] at hk;cases hk
def maskH(xs:List Bx)(H:Heap):Heap:=fun b=>if xs.any (fun x=>x.b==b) then none else H b
theorem maskH_spec{xs:List Bx}{H:Heap}{b:Nat} :(∀x∈xs,b≠x.b)/\maskH xs H b=H b∨maskH xs H b=none:=by
 unfold maskH
 by_cases h:xs.any (fun x=>x.b==b)=true
 ·rw[if_pos h];exact .inr rfl
 ·rw[if_neg h]
  refine .inl ⟨fun x hx e=>h (List.any_eq_true.2 ⟨x,hx,by simp[e]⟩),rfl⟩

theorem run_callFunc{P:Program}{g:FuncId}(h:bodied P g=true)(args:Array Value)(w:World):(callFunc g args).run P w= .ok (.enter g args) w:=by
 unfold bodied at h
 split at h
 ·rename_i fn hf
  simp only[Bool.and_eq_true,bne_iff_ne,ne_eq] at h
  have h2:fn.body≠none:=by cases hb:fn.body<;>simp_all
  simp[callFunc,hf,h.2,h2]
 ·cases h
def InlOk(P:Program)(m:Muts):Prop:=∀base H0 g pre own H f p,m.inl base H0 g pre own H f=some p->m.list.contains g=true/\(p->∀(C:Cfg)(w0:World)(own0:List Nat)(w:World),C.base=base->C.H0=H0->StW C w0 own0 own H w->(∀s∈pre,SV.wf own.length s)->
 Calls P g (pre.map (SV.val own)).toArray w fun e w'=>∃v own' H',e= .returned v/\f (.v v) own' H'/\OwnExt own own'/\StW C w0 own0 own' H' w')
theorem svsOf_wf{nt:Nat}{st:St}{a:Act}(h:EnvOk nt st.env st.own a):∀ {xs:List Operand} {l:List SV},svsOf st xs=some l->∀s∈l,SV.wf st.own.length s
 | [],l,e=>by simp[svsOf] at e;subst e;simp
 |x::r,l,e=>by
  simp only[svsOf] at e
  split at e
  ·rename_i s l' hs hl
   obtain rfl:=Option.some.inj e
   intro t ht
   rcases List.mem_cons.1 ht with rfl|ht
   ·exact(get_sound h hs).2
   ·exact svsOf_wf h hl t ht
  ·cases e
theorem callTo_sound(hin:InlOk C.P C.muts){o:Oper}{st:St}{a:Act}{w:World}{g:FuncId}{pre:List SV}{rty:TypeId}
  (hr:∀(w:World),(execOp a.eval o).run C.P w=(callFunc g (pre.map (SV.val st.own)).toArray).run C.P w)
  (hturn:turnsA C a o=false->C.muts.list.contains g=false) (hwf:∀s∈pre,SV.wf st.own.length s)
  (hw:StW C w0 own0 st.own st.H w) {f:SV->List Bx->Heap->Prop} {K:Act->World->Prop} {Q:Exit->Act->World->Prop} (hK:Cont C w0 own0 st o a w f K)
  (h:callTo C g pre st rty f):o.wp C.P a w K Q:=by
 unfold callTo at h
 split at h
 case isFalse=>
  split at h
  ·split at h
   ·obtain⟨hx,hf⟩:=h
    exact wp_value ((hr w).trans (hx w hw.sees)) (hK .ff _ _ _ hf trivial (OwnExt.refl _) hw (fun _=>(BelowX.refl _ _).toC))
   ·obtain⟨r,hx,hf⟩:=K2.ex_spec h
    exact wp_value ((hr w).trans (hx w hw.sees)) (hK (.v r) _ _ _ hf trivial (OwnExt.refl _) hw (fun _=>(BelowX.refl _ _).toC))
  ·exact h.elim
 rename_i hg
 unfold Oper.wp
 rw[hr,run_callFunc hg]
 rw[Oper.upon_enter]
 split at h
 ·rename_i p hp
  obtain⟨hc,hcall⟩:=hin _ _ _ _ _ _ _ _ hp
  refine Calls.mono (hcall h C w0 own0 w rfl rfl hw hwf) fun e w' he=> ?_
  obtain⟨v,own',H',rfl,hf,hext,hw'⟩:=he
  exact hK (.v v) _ _ _ hf trivial hext hw' (fun ht=>by rw[hturn ht] at hc;cases hc)
 split at h
 ·rename_i hd
  have hS:=h w hw.sees ⟨by simp,by simp,by simp⟩
  refine Calls.mono hS fun e w' he=> ?_
  obtain⟨v,css,H',rfl,hl,hB,hS',_,hN,hq⟩:=he
  obtain⟨r,rfl,hf⟩:=K2.ex_spec hq
  exact hK (.v _) _ _ _ (hf (hN.mono hw.base_le)) trivial (OwnExt.refl _) (hw.calledPlain (by simpa using hB) hS' hN) (fun _=>BelowX.toC (by simpa using hB))
 ·rename_i is hd
  split at h
  ·rename_i xs hp
   have hnd:(dedup (lentBy pre)).Nodup:=dedup_nodup _
   have hbx:=pick_boxes hw.boxes hnd hp
   split at h
   ·rename_i hmut
    refine Calls.mono (h w hw.sees hbx) fun e w' he=> ?_
    obtain⟨v,css,H',rfl,hl,hB,hS',hO,hN,hq⟩:=he
    obtain⟨r,rfl,hq⟩:=K2.ex_spec hq
    obtain⟨ws,⟨rfl,hf⟩,_⟩:=K1.exs_spec hq
    exact hK (.v _) _ _ _ (hf (hN.mono hw.base_le)) trivial (putBack_ext _ _ _) (hw.called hp hl hB hS' hO hN) (fun ht=>by rw[hturn ht] at hmut;cases hmut)
   ·obtain⟨hmap,h⟩:=h
    have hSl:=lendH_sees hw.sees hbx hmap
    refine Calls.mono (h (lendH xs st.H) (lendH_next hbx) (lendH_knows hbx xs fun _ h=>h) w hSl ⟨by simp,by simp,by simp⟩) fun e w' he=> ?_
    obtain⟨v,css,H'',rfl,hl,hB,hS',_,hN,hq⟩:=he
    obtain⟨r,rfl,hq⟩:=K2.ex_spec hq
    have hB':BelowX [] w w':=by simpa using hB
    have hN':Next w.heap.size st.H (maskH xs H''):=by
     refine⟨fun b k hk=> ?_,fun b k hk hk0=> ?_⟩
     ·have hn:∀x∈xs,b≠x.b:=fun x hx e=>by rw[e,hbx.hid x hx] at hk;cases hk
      have h1:=hN.ext b k (by rw[lendH_other hn];exact hk)
      unfold maskH
      rw[if_neg,h1]
      intro hany
      obtain⟨x,hx,e⟩:=List.any_eq_true.1 hany
      exact hn x hx (by simpa using(beq_iff_eq.1 e).symm)
     ·rcases maskH_spec (xs:=xs) (H:=H'') (b:=b) with⟨hn,e⟩|e
      ·rw[e] at hk
       exact hN.fresh b k hk (by rw[lendH_other hn];exact hk0)
      ·rw[e] at hk;cases hk
    have hSm:Sees (maskH xs H'') w':=fun b k hk=>by
     rcases maskH_spec (xs:=xs) (H:=H'') (b:=b) with⟨hn,e⟩|e
     ·rw[e] at hk;exact hS' b k hk
     ·rw[e] at hk;cases hk
    refine hK (.v _) _ _ _ (hq _ (hN'.mono hw.base_le) fun b k hk hn=> ?_) trivial (OwnExt.refl _) (hw.calledPlain hB' hSm hN') (fun _=>hB'.toC)
    unfold maskH
    rw[if_neg,hk]
    intro hany
    obtain⟨x,hx,e⟩:=List.any_eq_true.1 hany
    exact hn x hx (by simpa using(beq_iff_eq.1 e).symm)
  ·exact h.elim
theorem callV_sound(hin:InlOk C.P C.muts){o:Oper}{fo:Operand}{args:Array Operand}{ts:Array TypeId}(ho:o.op= .call { callee:= .value fo,args:=args,argTypes:=ts }){st:St}{a:Act}{w:World}(ha:EnvOk C.nt st.env st.own a)
  (hw:StW C w0 own0 st.own st.H w) {f:SV->List Bx->Heap->Prop} {K:Act->World->Prop} {Q:Exit->Act->World->Prop} (hK:Cont C w0 own0 st o a w f K)
  (h:callV C fo args.toList st o.type f):o.wp C.P a w K Q:=by
 unfold callV at h
 split at h
 case h_2=>exact h.elim
 rename_i as1 has
 have hargs:=svsOf_sound ha has
 have hmap:args.map a.eval=(as1.map (SV.val st.own)).toArray:=by
  apply Array.ext'
  simpa using hargs
 have key:∀g (x y:Array Value),((∃g',fo= .func g')->fo= .func g)->a.eval fo= .func (.func g) x y->turnsA C a o=false->C.muts.list.contains g=false:=fun g x y hg hv ht=>by
  cases fo with
  |func g'=>
   have:=hg ⟨g',rfl⟩
   cases this
   simpa[turnsA,turns,ho] using ht
  |tmp t=>
   have hv':a.tmps.getD t undef= .func (.func g) x y:=by simpa[Act.eval] using hv
   simpa[turnsA,ho,hv'] using ht
  |_=>simp[turnsA,turns,ho] at ht
 split at h
 ·rename_i g first caps hfo
  have hv:=(get_sound ha hfo).1
  refine callTo_sound hin (fun w=> ?_) (key g _ _ ?_ hv) (fun s hs=> ?_) hw hK h
  ·simp only[SV.val] at hv
   simp[execOp,ho,resolve,Deferred.ofValue,hv,invoke,hmap,SV.val,Function.comp_def]
   congr 2
   exact Array.ext' (by simp)
  ·rintro⟨g',rfl⟩
   simp[St.get] at hfo
   rw[hfo.1]
  ·simp only[List.mem_append,List.mem_map] at hs
   rcases hs with(⟨v,_,rfl⟩|hs)|⟨v,_,rfl⟩
   ·trivial
   ·exact svsOf_wf ha has s hs
   ·trivial
 ·rename_i g caps hfo
  have hv:=(get_sound ha hfo).1
  refine callTo_sound hin (fun w=> ?_) (key g _ _ ?_ hv) (fun s hs=> ?_) hw hK h
  ·simp only[SV.val] at hv
   simp[execOp,ho,resolve,Deferred.ofValue,hv,invoke,hmap,SV.val,Function.comp_def]
  ·rintro⟨g',rfl⟩
   simp[St.get] at hfo
  ·simp only[List.mem_append,List.mem_map] at hs
   rcases hs with hs|⟨i,hi,rfl⟩
   ·exact svsOf_wf ha has s hs
   ·exact(get_sound ha hfo).2 i hi
 ·exact h.elim
end
open Go Go.RowKit
section
variable {C : Cfg} {w0 : World} {own0 : List Nat}
theorem strCells_u8s(s:ByteArray):Lib.strCells s=u8s s.data.toList:=by simp[Lib.strCells,u8s]
theorem run_append_bareS{P:Program}{t u e ty:TypeId}{i:TypeInfo}(a:O){s:ByteArray}{v:Value}{w w':World}(hm:0<s.size)(hu:P.underlying t=some (.slice e))(hu2:P.underlying u=some .string)(hi:P.info? e=some i)
  (hb:s.size*i.bytes<=140737488355328) (h:(Builtin.append_ #[t,u] ty #[.slice none 0 0,.string s]).run P w= .ok v w'):(Builtin.append_ #[t,u] ty #[.slice a 0 0,.string s]).run P w= .ok v w':=by
 have hn:¬s.size=0:=by omega
 have hf:∀(s:O)(w:World),(Builtin.firstCells i.size 0 (.slice s 0 0)).run P w= .ok #[] w:=fun s w=>by
  cases s<;>simp[Builtin.firstCells,loadCells,loadCellsFrom]
 have hcap:¬(281474976710656<Builtin.nextslicecap s.size 0*i.bytes):=by rw[nextslicecap_zero (by omega)];omega
 rw[←h]
 simp[Builtin.append_,run_underlying hu,run_underlying hu2,sizeOf,typeInfo,hi,Builtin.lenOf,hn,hcap,Sem.run_bind,hf]
theorem run_append_zeroS{P:Program}{t u e:TypeId}{i:TypeInfo}(hu:P.underlying t=some (.slice e))(hu2:P.underlying u=some .string)(hi:P.info? e=some i){a:O}{n c:Nat}(h:n<=c)(ty:TypeId)(w:World){s:ByteArray}(hs:s.size=0):
  (Builtin.append_ #[t,u] ty #[.slice a n c,.string s]).run P w= .ok (.slice a n c) w:=by
 have hf:(Builtin.firstCells i.size s.size (.string s)).run P w= .ok #[] w:=by
  rw[Lib.run_firstCells_string]
  have:Lib.strCells s=[]:=List.eq_nil_of_length_eq_zero (by rw[Lib.strCells_length];exact hs)
  rw[this]
 rw[hs] at hf
 cases a<;>simp[Builtin.append_,run_underlying hu,run_underlying hu2,sizeOf,typeInfo,hi,Builtin.lenOf,h,hs,hf,storeCells]
theorem appendS_sound{o:Oper}{t u:TypeId}{so xo:Operand}(ho:o.op= .call { callee:= .builtin .append,args:= #[so,xo],argTypes:= #[t,u] }){st:St}{a:Act}{w:World}(ha:EnvOk C.nt st.env st.own a)
  (hw:StW C w0 own0 st.own st.H w) {f:SV->List Bx->Heap->Prop} {K:Act->World->Prop} {Q:Exit->Act->World->Prop} (hK:Cont C w0 own0 st o a w f K) {e:TypeId} {sa:O} {n c:Nat} {s:ByteArray}
  (hs:st.get so=some (.v (.slice sa n c))) (hx:st.get xo=some (.v (.string s))) (hu:C.P.underlying t=some (.slice e)) (hu2:C.P.underlying u=some .string)
  (h:appendSV C e st f sa n c s):o.wp C.P a w K Q:=by
 have hturn:turnsA C a o=true:=by simp[turnsA,turns,ho]
 have run:∀ {v:Value} {w':World},(Builtin.append_ #[t,u] o.type #[.slice sa n c,.string s]).run C.P w= .ok v w'->(execOp a.eval o).run C.P w= .ok (.value v) w':=fun{v w'} h=>by
  simp[execOp,ho,resolve,invoke,builtin,(get_sound ha hs).1,(get_sound ha hx).1,SV.val,h]
 have hmx:maxLen=9223372036854775807:=rfl
 unfold appendSV at h
 split at h
 ·rename_i hzz'
  cases hi:C.P.info? e with
  |none=>rw[hi] at hzz';cases hzz'
  |some i=>
   rw[hi] at hzz'
   have hzz:i.zero=some (.int .u8 0):=hzz'
   split at h
   ·rename_i hc
    have hsz:i.size=1:=by rw[←hc.1];simp[Program.cellsOf,hi]
    have hby:i.bytes=1:=by rw[←hc.2];simp[Program.bytesOf,hi]
    obtain⟨xs,hrow,hbytes,h⟩:=h
    by_cases hm:s.size=0
    ·have hr:=run_append_zeroS (a:=sa) hu hu2 hi hrow.2.1 o.type w hm
     have hc0:u8s s.data.toList=[]:=by rw[←strCells_u8s];exact List.eq_nil_of_length_eq_zero (by rw[Lib.strCells_length];exact hm)
     have h':=h sa c st.H ⟨fun x k hx _=>hx,fun x k hx hn=>by(rw[hx] at hn;cases hn),fun hc _ _=> .inr ⟨rfl,hc⟩,fun _=>⟨rfl,rfl⟩⟩ (by rw[hc0,hm];simpa using hrow)
     rw[hm] at h'
     exact wp_value (run hr) (hK _ _ _ _ h' trivial (OwnExt.refl _) hw (fun ht=>by rw[hturn] at ht;cases ht))
    ·have hsl:=Lib.strCells_length s
     rcases hrow.old with⟨rfl,rfl,hro⟩|⟨hc0,hro⟩
     ·obtain⟨v',w',hr,h2,h3,_⟩:=Lib.run_append_own_string (P:=C.P) w C.base t u o.type e i hu hu2 hi hzz hsz hby (.slice none 0 0) 0 xs (hro.owns hw.sees) s (by omega) hbytes hw.base_le
      have h4:v'.ownBlock=some w.heap.size:=by
       have:=run_append_nil_string (P:=C.P) w t u o.type e i (.int .u8 0) hu hu2 hi hzz s (by omega) (by omega) (by rw[hby];omega)
       rw[hr] at this
       injection this with e1 _
       rw[e1];rfl
      obtain⟨a',c',H',rfl,hg,hrow',hw'⟩:=append_step hw hro (fun _=>rfl) h2 h3 (.inr h4) (fun h=>by omega)
      rw[strCells_u8s] at hrow'
      have hr':=run_append_bareS sa (by omega) hu hu2 hi (by rw[hby];omega) hr
      exact wp_value (run hr') (hK _ _ _ _ (h a' c' H' ⟨fun x k hx _=>hg.keep x k hx (.inl rfl),hg.fresh,fun hc g he=> .inl ((hg.place hc g he).resolve_right fun h=>h.2 rfl),fun h=>by omega⟩ hrow') trivial (OwnExt.refl _) hw' (fun ht=>by rw[hturn] at ht;cases ht))
     ·obtain⟨v',w',hr,h2,h3,_⟩:=Lib.run_append_own_string (P:=C.P) w C.base t u o.type e i hu hu2 hi hzz hsz hby (.slice sa n c) n xs (hro.owns hw.sees) s (by omega) hbytes hw.base_le
      have hxl:=hro.1
      rw[Nat.mul_one] at hxl
      have h45:(v'.ownBlock=(Value.slice sa n c).ownBlock∨v'.ownBlock=some w.heap.size)/\(n+s.size<=c->v'= .slice sa (n+s.size) c):=by
       obtain⟨_,hnc,hcm,hf4⟩:=hro
       rcases hf4 with⟨_,_,h0⟩|⟨g,k,rfl,hb,hH,hty,hksz,hfree,hcl⟩
       ·exact absurd h0 hc0
       ·obtain⟨cur,fr,hcu,hcsz,hfr,hcell⟩:=hw.sees g _ hH
        obtain rfl:=hfr hfree
        rw[hty] at hcu
        by_cases hroom:n+s.size<=c
        ·have:=Lib.run_append_room_string (P:=C.P) w t u o.type e i hu hu2 hi hsz g n c cur hcu s hroom (by omega)
         rw[hr] at this
         injection this with e1 _
         rw[e1]
         exact⟨.inl rfl,fun _=>rfl⟩
        ·have:=Lib.run_append_grow_string (P:=C.P) w t u o.type e i (.int .u8 0) hu hu2 hi hzz ⟨g,0,none⟩ n c xs (by rw[hsz];omega) (fun j v hj=>by
          rw[addr_add,Nat.zero_add]
          refine hw.sees.cell ?_
          unfold Heap.cell;rw[hH];exact hcl j v hj) s (by omega) (by omega) (by rw[hby];exact growslice_fits (by omega) (by omega))
         rw[hr] at this
         injection this with e1 _
         rw[e1]
         exact⟨.inr rfl,fun h=>absurd h hroom⟩
      obtain⟨a',c',H',rfl,hg,hrow',hw'⟩:=append_step hw hro (fun h=>absurd h hc0) h2 h3 h45.1 h45.2
      rw[strCells_u8s] at hrow'
      exact wp_value (run hr) (hK _ _ _ _ (h a' c' H' hg hrow') trivial (OwnExt.refl _) hw' (fun ht=>by rw[hturn] at ht;cases ht))
   ·exact h.elim
 ·exact h.elim
theorem cellsAt_ofS{H:Heap}{b o:Nat} :∀(cs:List Value)(i:Nat),(∀(j:Nat) v,cs[j]?=some v->H.cell b (o+(i+j))=some v)->cellsAt H b o i cs
 | [],_,_=>trivial
 |v::r,i,h=>⟨by simpa using h 0 v rfl,cellsAt_ofS r (i+1) fun j u hj=>by
   have:=h (j+1) u (by simpa using hj)
   rw[show i+1+j=i+(j+1) from by omega];exact this⟩
theorem toBytes_sound{o:Oper}{src dst:TypeId}{xo:Operand}(ho:o.op= .convert src dst xo){st:St}{a:Act}{w:World}(ha:EnvOk C.nt st.env st.own a)
  (hw:StW C w0 own0 st.own st.H w) {f:SV->List Bx->Heap->Prop} {K:Act->World->Prop} {Q:Exit->Act->World->Prop} (hK:Cont C w0 own0 st o a w f K) {s:ByteArray} (hx:st.get xo=some (.v (.string s)))
  (h:toBytesV C src dst st f s):o.wp C.P a w K Q:=by
 unfold toBytesV at h
 split at h
 ·rename_i d e hu1 hu2
  split at h
  ·rename_i hu3
   have hr:(execOp a.eval o).run C.P w= .ok (.value (.slice (some ⟨w.heap.size,0,none⟩) s.size (grownCap w s.size 0 e))) (Lib.bytesWorld w e s):=by
    simp only[execOp,ho,(get_sound ha hx).1,SV.val,Sem.run_bind,Lib.run_convert_string_bytes w src dst e s hu1 hu2 hu3]
    rfl
   refine wp_value hr ?_
   have hB:Below w.heap.size w (Lib.bytesWorld w e s):=⟨rfl,rfl,rfl,by rw[Lib.bytesWorld_size];omega,fun k hk=>Lib.bytesWorld_at_old w e s k hk⟩
   have hBX:BelowX [] w (Lib.bytesWorld w e s):=⟨hB.os,hB.tape,hB.output,hB.size,fun k hk _=>hB.block k hk⟩
   have hnew:=Lib.bytesWorld_at_new w e s
   have hn:st.H w.heap.size=none:=by
    cases hk:st.H w.heap.size with
    |none=>rfl
    |some k=>exact absurd (hw.sees.lt hk) (by omega)
   let k:KB:=⟨e,(Lib.bytesCells w e s).size,false,fun j=>(u8s s.data.toList)[j]?⟩
   have hlen:(u8s s.data.toList).length=s.size:=by simp[u8s]
   have hN:Next w.heap.size st.H (fun b=>if b=w.heap.size then some k else st.H b):=by
    refine⟨fun b k' hb=> ?_,fun b k' hb hnb=> ?_⟩
    ·by_cases e:b=w.heap.size
     ·subst e;rw[hn] at hb;cases hb
     ·simpa[e] using hb
    ·by_cases e:b=w.heap.size
     ·omega
     ·simp[e,hnb] at hb
   have hsee:Sees (fun b=>if b=w.heap.size then some k else st.H b) (Lib.bytesWorld w e s):=fun b k' hb=>by
    by_cases e1:b=w.heap.size
    ·subst e1
     simp only[if_pos] at hb
     obtain rfl:=Option.some.inj hb
     refine⟨_,_,hnew,rfl,fun h=>(by cases h),fun j v hj=> ?_⟩
     have hj':(u8s s.data.toList)[j]?=some v:=hj
     have hjl:j<s.data.size:=by
      have:=(List.getElem?_eq_some_iff.1 hj').1
      rw[hlen] at this;exact this
     unfold Lib.bytesCells
     rw[Array.getElem?_append_left (by simpa using hjl)]
     rw[←hj',←Array.getElem?_toList]
     simp[u8s]
    ·simp only[if_neg e1] at hb
     rw[hB.block b (hw.sees.lt hb)]
     exact hw.sees b k' hb
   refine hK _ _ _ _ (h w.heap.size (grownCap w s.size 0 e) _ (grownCap_ge w s.size 0 e) (hN.mono hw.base_le) hn (cellsAt_ofS _ 0 fun j v hj=> ?_)) trivial (OwnExt.refl _) (hw.calledPlain hBX hsee hN) (fun _=>hBX.toC)
   unfold Heap.cell
   simpa[k] using hj
  ·exact h.elim
 ·exact h.elim
end
open Go Go.RowKit
section
variable {C : Cfg} {w0 : World} {own0 : List Nat}
theorem appendZ_sound{o:Oper}{t u:TypeId}{so xo:Operand}(ho:o.op= .call { callee:= .builtin .append,args:= #[so,xo],argTypes:= #[t,u] }){st:St}{a:Act}{w:World}(ha:EnvOk C.nt st.env st.own a)
  (hw:StW C w0 own0 st.own st.H w) {f:SV->List Bx->Heap->Prop} {K:Act->World->Prop} {Q:Exit->Act->World->Prop} (hK:Cont C w0 own0 st o a w f K) {ss sx:SV} (hs:st.get so=some ss) (hx:st.get xo=some sx)
  (h:appendZV C t u st f ss sx):o.wp C.P a w K Q:=by
 have hturn:turnsA C a o=true:=by simp[turnsA,turns,ho]
 unfold appendZV at h
 split at h
 case h_3=>exact h.elim
 case h_2=>
  rename_i e sa n c y hu hu2
  exact appendS_sound ho ha hw hK hs hx hu hu2 h
 rename_i e ki sa n c kx k hu htn
 cases hz:zeroCellsOf C.P e with
 |none=>rw[hz] at h;exact h.elim
 |some z=>
  rw[hz] at h
  dsimp only at h
  split at h
  case isFalse=>exact h.elim
  rename_i hc
  obtain⟨hzl,hpos⟩:=hc
  obtain⟨xs,m,rfl,hm,hroom,hrow,hbytes,hmax,h⟩:=h
  obtain⟨i,zv,hi,hzz,rfl⟩:=zeroCells_spec hz
  have hsz:i.size=C.P.cellsOf e:=by simp[Program.cellsOf,hi]
  have hby:i.bytes=C.P.bytesOf e:=by simp[Program.bytesOf,hi]
  have hzs:zv.cells.size=C.P.cellsOf e:=by simpa using hzl
  have hmx:maxLen=9223372036854775807:=rfl
  have hold:(Builtin.firstCells i.size n (.slice sa n c)).run C.P w.drew= .ok xs.toArray w.drew:=by
   by_cases hn:n=0
   ·subst hn
    have:xs=[]:=List.eq_nil_of_length_eq_zero (by simpa using hrow.1)
    subst this
    cases sa<;>simp[Builtin.firstCells,loadCells,loadCellsFrom]
   ·rcases hrow.2.2.2 with⟨h1,_⟩|⟨g,kb,rfl,hg,hH,_,_,_,hcl⟩
    ·exact absurd h1 hn
    ·refine run_firstCells_some (P:=C.P) w.drew i.size n ⟨g,0,none⟩ n c xs (by rw[hsz];exact hrow.1) fun j v hj=> ?_
     rw[addr_add,Nat.zero_add]
     have:st.H.cell g j=some v:=by unfold Heap.cell;rw[hH];exact hcl j v hj
     have:=hw.sees.cell this
     simpa using this
  have hfit:Builtin.nextslicecap (n+m) c*i.bytes<=281474976710656:=growslice_fits (by omega) (by rw[hby];exact hbytes)
  have hr:=Lib.run_append_grow_zeros (P:=C.P) w t u o.type e i zv kx ki hu htn hi hzz sa n c xs hold m hm (by omega) hroom (by omega) (by
   rw[hby]
   have:m*C.P.bytesOf e<=(n+m)*C.P.bytesOf e:=Nat.mul_le_mul_right _ (by omega)
   omega) hfit
  have hr':(execOp a.eval o).run C.P w= .ok (.value (.slice (some ⟨w.heap.size,0,none⟩) (n+m) (grownCap w (n+m) c e))) (w.drew.alloc (.cells (xs.toArray++Builtin.zeroCells zv.cells m++Builtin.zeroCells zv.cells (grownCap w (n+m) c e-(n+m))) e)):=by
   simp only[execOp,ho,resolve,invoke,builtin,(get_sound ha hs).1,(get_sound ha hx).1,SV.val,List.map_toArray,List.map_cons,List.map_nil,Sem.run_bind,Sem.run_pure,Result.andThen_ok]
   rw[hr]
   rfl
  refine wp_value hr' ?_
  have hge:=grownCap_ge w (n+m) c e
  have hcm:grownCap w (n+m) c e<=maxLen:=grownCap_le_maxLen w (n+m) c e hmax
  have hwd:StW C w0 own0 st.own st.H w.drew:=hw.calledPlain (BelowX.drew [] w) (hw.sees.below (BelowX.drew [] w)) (Next.refl _ _)
  have hzc:(Builtin.zeroCells zv.cells m).toList=(List.replicate m zv.cells.toList).flatten:=by
   have:Builtin.zeroCells zv.cells m=madeCells zv.cells (m*zv.cells.size):=rfl
   rw[this,made_eq]
  have hsize:(xs.toArray++Builtin.zeroCells zv.cells m++Builtin.zeroCells zv.cells (grownCap w (n+m) c e-(n+m))).size=grownCap w (n+m) c e*C.P.cellsOf e:=by
   simp only[Array.size_append,List.size_toArray,size_zeroCells,hzs,hrow.1,←Nat.add_mul]
   congr 1;omega
  have hlen:(xs++(List.replicate m zv.cells.toList).flatten).length=(n+m)*C.P.cellsOf e:=by
   rw[List.length_append,hrow.1,←hzc,Nat.add_mul];simp[size_zeroCells,hzs]
  obtain⟨h4,h5,h6⟩:=hwd.newKnown (k:=⟨e,grownCap w (n+m) c e*C.P.cellsOf e,true,fun j=>(xs++(List.replicate m zv.cells.toList).flatten)[j]?⟩) (o:= .cells (xs.toArray++Builtin.zeroCells zv.cells m++Builtin.zeroCells zv.cells (grownCap w (n+m) c e-(n+m))) e) (by
   refine⟨_,_,rfl,hsize,fun _=>rfl,fun j v hj=> ?_⟩
   have hj':(xs++(List.replicate m zv.cells.toList).flatten)[j]?=some v:=hj
   rw[←Array.getElem?_toList,Array.toList_append,Array.toList_append,hzc]
   rw[List.getElem?_append_left (by
    have:=(List.getElem?_eq_some_iff.1 hj').1
    simpa using this)]
   exact hj')
  exact hK _ _ _ _ (h w.heap.size _ _ (h5.mono hw.base_le) h6 ⟨hlen,hge,hcm,.inr ⟨w.heap.size,_,rfl,hw.base_le,if_pos rfl,rfl,rfl,rfl,fun j v hj=>hj⟩⟩) trivial (OwnExt.refl _) h4 (fun ht=>by rw[hturn] at ht;cases ht)
theorem loud_sound(hin:InlOk C.P C.muts){o:Oper}{next:Option Oper}{st:St}{a:Act}{w:World}(ha:EnvOk C.nt st.env st.own a)
  (hw:StW C w0 own0 st.own st.H w) {f:SV->List Bx->Heap->Prop} {K:Act->World->Prop} {Q:Exit->Act->World->Prop} (hK:Cont C w0 own0 st o a w f K)
  (h:loudV C o next st f):o.wp C.P a w K Q:=by
 unfold loudV at h
 split at h
 case h_1 t ao x ho=>
  split at h
  ·rename_i sa sx hsa hsx
   obtain⟨own',H',w',hf,hext,hw',hr⟩:=storeV_sound t st (sx.val st.own) _ sa hw h
   exact wp_skip' (by simp[execOp,ho,(get_sound ha hsa).1,(get_sound ha hsx).1,hr]) (hK _ _ _ _ hf trivial hext hw' (fun ht=>by simp[turnsA,turns,ho] at ht))
  ·exact h.elim
 case h_2 t ho=>
  split at h
  ·rename_i z hz;exact alloc_sound ho hw hK hz h
  ·exact h.elim
 case h_3 t x ho=>
  split at h
  ·rename_i s hs;exact box_sound ho ha hw hK hs h
  ·exact h.elim
 case h_4 t n parts ho=>exact buildSlice_sound ho ha hw hK h
 case h_5 t ho=>exact makeMap_sound ho hw hK h
 case h_6 t m k x ho=>
  split at h
  ·rename_i kt e i sk sx hu hm hk hx
   split at h
   ·rename_i b bt cs hfit hbx
    obtain⟨cs',hset,hf⟩:=h
    exact mapUpdate_sound (.inl ho) ha hw hK hu hm hk hx hfit hbx hset hf
   ·exact h.elim
  ·exact h.elim
 case h_7 t m k x ho=>
  split at h
  ·rename_i kt e i sk sx hu hm hk hx
   split at h
   ·rename_i b bt cs hfit hbx
    obtain⟨cs',hset,hf⟩:=h
    exact mapUpdate_sound (.inr ho) ha hw hK hu hm hk hx hfit hbx hset hf
   ·exact h.elim
  ·exact h.elim
 case h_8 t l c ho=>
  split at h
  ·rename_i sl sc hl hc;exact makeSlice_sound ho ha hw hK hl hc h
  ·exact h.elim
 case h_9 args ts ho=>
  split at h
  ·rename_i so xo t u hargs hts
   split at h
   ·rename_i ss sx hs hx
    split at h
    ·rename_i e
     subst e
     have e1:args= #[so,xo]:=Array.ext' (by simpa using hargs)
     have e2:ts= #[t,t]:=Array.ext' (by simpa using hts)
     subst e1;subst e2
     exact append_sound ho ha hw hK hs hx h
    ·have e1:args= #[so,xo]:=Array.ext' (by simpa using hargs)
     have e2:ts= #[t,u]:=Array.ext' (by simpa using hts)
     subst e1;subst e2
     exact appendZ_sound ho ha hw hK hs hx h
   ·exact h.elim
  ·exact h.elim
 case h_10 args ts ho=>
  split at h
  ·rename_i d x t u hargs hts
   split at h
   ·rename_i sd sx hd hx
    split at h
    ·rename_i e
     subst e
     have e1:args= #[d,x]:=Array.ext' (by simpa using hargs)
     have e2:ts= #[t,t]:=Array.ext' (by simpa using hts)
     subst e1;subst e2
     exact copy_sound ho ha hw hK hd hx h
    ·exact h.elim
   ·exact h.elim
  ·exact h.elim
 case h_11 args ts ho=>
  split at h
  ·rename_i d t hargs hts
   split at h
   ·rename_i sd hd
    have e1:args= #[d]:=Array.ext' (by simpa using hargs)
    have e2:ts= #[t]:=Array.ext' (by simpa using hts)
    subst e1;subst e2
    exact clear_sound ho ha hw hK hd h
   ·exact h.elim
  ·exact h.elim
 case h_12 fo args ts ho=>exact callV_sound hin ho ha hw hK h
 case h_13 src dst x ho=>
  split at h
  ·rename_i s hs;exact toBytes_sound ho ha hw hK hs h
  ·exact h.elim
 case h_14=>exact h.elim
theorem opV_sound(hin:InlOk C.P C.muts){o:Oper}{next:Option Oper}{st:St}{a:Act}{w:World}(ha:EnvOk C.nt st.env st.own a)
  (hw:StW C w0 own0 st.own st.H w) {f:SV->List Bx->Heap->Prop} {K:Act->World->Prop} {Q:Exit->Act->World->Prop} (hK:Cont C w0 own0 st o a w f K)
  (h:opV C o next st f):o.wp C.P a w K Q:=by
 unfold opV at h
 split at h
 ·rename_i q hq
  obtain⟨s,hf,hwf,hy⟩:=quiet_sound (f:=fun s=>f s st.own st.H) o st hq h a ha
  exact wp_value (hy a w ha (.inr ⟨hw.sees,hw.boxes.c,.inr hw.boxes⟩)) (hK _ _ _ _ hf hwf (OwnExt.refl _) hw (fun _=>(BelowX.refl _ _).toC))
 ·exact loud_sound hin ha hw hK h
theorem yielded_of{nt:Nat}{env:List (Nat×SV)}{own:List Bx}{a:Act}(h:EnvOk nt env own a){ops:Array Oper}{j t:Nat}(ht:(ops[j]?).bind (·.dst)=some t){s:SV}(hs:look t env=some s):
  yielded ops a.tmps j=(match s.val own with| .bool b=>some b|_=>none):=by
 obtain⟨h1,h2,_⟩:=h.at_ t s hs
 have:a.tmps[t]?=some (s.val own):=by
  rw[←h2]
  simp[h.size,h1]
 simp only[yielded,ht,Option.bind_some,this]
 cases s.val own<;>rfl
theorem guardV_sound{ops:Array Oper}{o:Oper}{st:St}{yes no:St->Prop}{a:Act}(ha:EnvOk C.nt st.env st.own a)(h:guardV ops o st yes no):
  ∃env',EnvOk C.nt env' st.own a/\((Region.wanted o (yielded ops a.tmps)=true/\yes ⟨env',st.own,st.H⟩)∨(Region.wanted o (yielded ops a.tmps)=false/\no ⟨env',st.own,st.H⟩)):=by
 unfold guardV at h
 split at h
 ·rename_i hg
  exact⟨st.env,ha,.inl ⟨by simp[Region.wanted,hg],h⟩⟩
 ·rename_i j want hg
  split at h
  ·rename_i t ht
   have hw:∀ {s:SV} {b:Bool},look t st.env=some s->s.val st.own= .bool b->Region.wanted o (yielded ops a.tmps)=(b==want):=fun{s b} hs hv=>by
    simp only[Region.wanted,hg,yielded_of ha ht hs,hv]
    cases want<;>cases b<;>rfl
   have key:∀ {s:SV} {b:Bool} {env':List (Nat×SV)},look t st.env=some s->s.val st.own= .bool b->EnvOk C.nt env' st.own a->byWant want (if b then yes ⟨env',st.own,st.H⟩ else no ⟨env',st.own,st.H⟩) (if b then no ⟨env',st.own,st.H⟩ else yes ⟨env',st.own,st.H⟩)->
     ∃env',EnvOk C.nt env' st.own a/\((Region.wanted o (yielded ops a.tmps)=true/\yes ⟨env',st.own,st.H⟩)∨(Region.wanted o (yielded ops a.tmps)=false/\no ⟨env',st.own,st.H⟩)):=fun{s b env'} hs hv he hb=>by
    have:=hw hs hv
    refine⟨env',he,?_⟩
    cases want<;>cases b<;>simp_all[byWant]
   split at h
   ·rename_i hs
    exact key hs rfl ha (by simpa using h)
   ·rename_i hs
    refine key hs rfl ha ?_
    cases want<;>simpa[byWant] using h
   ·rename_i q d hs
    by_cases hq:q
    ·have hv:(SV.p q d).val st.own= .bool true:=by simp[SV.val,hq]
     have he:=ha.respell (s':= .tt) hs (by rw[hv];rfl) trivial
     exact key hs hv he (by simpa[St.put] using h.1 hq)
    ·have hv:(SV.p q d).val st.own= .bool false:=by simp[SV.val,hq]
     have he:=ha.respell (s':= .ff) hs (by rw[hv];rfl) trivial
     refine key hs hv he ?_
     have:=h.2 hq
     cases want<;>simpa[byWant,St.put] using this
   ·rename_i b hs
    cases b
    ·have he:=ha.respell (s':= .ff) hs rfl trivial
     refine key hs rfl he ?_
     have:=h.2 rfl
     cases want<;>simpa[byWant,St.put] using this
    ·have he:=ha.respell (s':= .tt) hs rfl trivial
     exact key hs rfl he (by simpa[St.put] using h.1 rfl)
   ·rename_i vs hs
    refine⟨st.env,ha,.inr ⟨?_,h⟩⟩
    simp[Region.wanted,hg,yielded_of ha ht hs,SV.val]
   ·exact h.elim
  ·exact h.elim
structure Rel(base:List Bx)(W:List Nat)(a₀ a:Act)(own:List Bx):Prop where
 ext:OwnExt base own
 keep:∀s:Nat,s∉W->a.tmps.getD s undef=a₀.tmps.getD s undef
structure Good(C:Cfg)(w0:World)(own0:List Nat)(base:List Bx)(W:List Nat)(a₀:Act)(st:St)(a:Act)(w:World):Prop where
 env:EnvOk C.nt st.env st.own a
 stw:StW C w0 own0 st.own st.H w
 rel:Rel base W a₀ a st.own
theorem put_keep{a:Act}{d:Option Tmp}{v:Value}{s:Nat}(h:d≠some s):(a.put d v).tmps.getD s undef=a.tmps.getD s undef:=by
 cases d with
 |none=>rfl
 |some t=>
  have:t≠s:=fun e=>h (by rw[e])
  simp[Act.put,Array.getElem?_setIfInBounds_ne this]
theorem Good.put{base:List Bx}{W:List Nat}{a₀:Act}{st:St}{a:Act}{w w':World}(h:Good C w0 own0 base W a₀ st a w){own':List Bx}{H':Heap}(he:OwnExt st.own own')(hs:StW C w0 own0 own' H' w'){d:Option Tmp}
  (hd:∀t,d=some t->t<C.nt/\t∈W) {s:SV} (hwf:s.wf own'.length):Good C w0 own0 base W a₀ (St.put ⟨st.env,own',H'⟩ d s) (a.put d (s.val own')) w':=by
 have h1:=h.env.ext he
 cases d with
 |none=>exact⟨h1,hs,h.rel.ext.trans he,h.rel.keep⟩
 |some t=>
  obtain⟨h2,h3⟩:=hd t rfl
  refine⟨h1.put h2 hwf,hs,h.rel.ext.trans he,fun s' hs'=> ?_⟩
  rw[put_keep (fun e=>hs' (by cases e;exact h3))]
  exact h.rel.keep s' hs'
theorem opsV_sound(hin:InlOk C.P C.muts){ops:Array Oper}{Q:Exit->Act->World->Prop}{base:List Bx}{W:List Nat}{a₀:Act}{k:St->Prop}(hQ:∀st a w,k st->Good C w0 own0 base W a₀ st a w->Q .normal a w):
  ∀(l:List Oper)(st:St)(a:Act)(w:World),(∀o∈l,∀t,o.dst=some t->t<C.nt/\t∈W)->Good C w0 own0 base W a₀ st a w->opsV C ops l st k->wpList C.P ops Q l a w
 | [],st,a,w,_,hg,h=>hQ st a w h hg
 |o::rest,st,a,w,hd,hg,h=>by
  simp only[opsV] at h
  obtain⟨env',he,h⟩:=guardV_sound hg.env h
  have hg':Good C w0 own0 base W a₀ ⟨env',st.own,st.H⟩ a w:=⟨he,hg.stw,hg.rel⟩
  have hdo:=hd o List.mem_cons_self
  unfold wpList
  rcases h with⟨hw,h⟩|⟨hw,h⟩
  ·rw[if_pos hw]
   refine .inl (opV_sound hin (st:=⟨env',st.own,st.H⟩) he hg.stw (fun s own' H' w' hf hwf hext hs _=> ?_) h)
   exact opsV_sound hin hQ rest _ _ _ (fun o ho=>hd o (List.mem_cons_of_mem _ ho)) (hg'.put hext hs hdo hwf) hf
  ·rw[if_neg (by simp[hw])]
   exact opsV_sound hin hQ rest _ _ _ (fun o ho=>hd o (List.mem_cons_of_mem _ ho)) (hg'.put (s:= .v undef) (OwnExt.refl _) hg.stw hdo trivial) h
end
open Go Go.RowKit

section
variable {P : Program} {ops : Array Oper} {Q : Exit->Act->World->Prop}
def YieldsG(G:World->Prop)(P:Program)(ops:Array Oper)(o:Oper)(v:Value)(a:Act):Prop:=
 (Region.wanted o (yielded ops a.tmps)=true/\∀w,G w->(execOp a.eval o).run P w= .ok (.value v) w)∨(Region.wanted o (yielded ops a.tmps)=false/\v=undef)
theorem YieldsG.same{G:World->Prop}{o:Oper}{v:Value}{a a':Act}(h:YieldsG G P ops o v a)(he:execOp a'.eval o=execOp a.eval o)
  (hw:Region.wanted o (yielded ops a'.tmps)=Region.wanted o (yielded ops a.tmps)):YieldsG G P ops o v a':=by
 unfold YieldsG at*;rw[he,hw];exact h
theorem YieldsG.take{G:World->Prop}{i:Nat}{o:Oper}{v:Value}{a:Act}{w:World}(h:YieldsG G P ops o v a)(hi:ops[i]?=some o)(hG:G w){K:Act->World->Prop}(hK:K (a.put o.dst v) w):wpOp P ops Q i K a w:=by
 simp only[wpOp,hi]
 rcases h with⟨hw,hv⟩|⟨hw,rfl⟩
 ·rw[if_pos hw];exact .inl (wp_value (hv w hG) hK)
 ·rw[if_neg (by simp[hw])];exact hK
theorem wpOp_before{G:World->Prop}{j:Nat}{oi oj:Oper}{v:Value}(hj:ops[j]?=some oj)(hap:oi.apart ops oj=true)
  (hsi:∀cs b,oi.op≠ .select cs b) (hsj:∀cs b,oj.op≠ .select cs b) (hQ:∀c a w,¬Q (.panic c) a w) {K:Act->World->Prop} {a:Act} {w:World} (hy:YieldsG G P ops oi v a)
  (h:wpOp P ops Q j K (a.put oi.dst v) w):wpOp P ops Q j (fun a' w'=>YieldsG G P ops oi v a'/\K (a'.put oi.dst v) w') a w:=by
 obtain⟨h1,h2,h3⟩:=Oper.apart_spec hap
 have ex:execOp (a.put oi.dst v).eval oj=execOp a.eval oj:=execOp_put oj hsj a oi.dst v h1
 have wn:=wanted_put (ops:=ops) oj a oi.dst v h1
 have keep:∀b:Act,YieldsG G P ops oi v b->∀u,YieldsG G P ops oi v (b.put oj.dst u):=fun b hb u=>hb.same (execOp_put oi hsi b oj.dst u h3) (wanted_put oi b oj.dst u h3)
 have go:∀(b:Act),YieldsG G P ops oi v b->∀u w',K ((b.put oi.dst v).put oj.dst u) w'->YieldsG G P ops oi v (b.put oj.dst u)/\K ((b.put oj.dst u).put oi.dst v) w':=fun b hb u w' hk=>
  ⟨keep b hb u,by rw[←Act.put_comm b v u h2];exact hk⟩
 simp only[wpOp,hj] at h⊢
 rw[wn] at h
 by_cases hw:Region.wanted oj (yielded ops a.tmps)=true
 ·rw[if_pos hw] at h⊢
  refine h.imp (fun h=> ?_) (fun h=>⟨by have:=h.1;unfold Oper.asks at*;rw[ex] at this;exact this,h.2⟩)
  unfold Oper.wp at*
  rw[ex] at h
  generalize (execOp a.eval oj).run P w=r at h⊢
  cases r with
  |halt x w'=>cases x<;>simp only[Oper.upon] at h⊢;exact absurd h (hQ _ _ _)
  |ok n w'=>
   cases n<;>simp only[Oper.upon] at h⊢
   case value u=>exact go a hy u w' h
   case skip=>exact go a hy undef w' h
   case defer d=>exact go { a with defers:=d::a.defers } (hy.same rfl rfl) undef w' (by rw[←Act.put_defers];exact h)
   case enter f args=>
    refine Calls.mono h fun e w'' he=> ?_
    cases e with
    |returned u=>exact go a hy u w'' he
    |panicked c=>exact absurd he (hQ _ _ _)
    |outgrown=>exact he
   case row row args=>exact Rows.mono h fun u w'' he=>go a hy u w'' he
 ·rw[if_neg hw] at h⊢
  exact go a hy undef w h
theorem wpOp_keeps{j:Nat}{oj:Oper}(hj:ops[j]?=some oj){K:Act->World->Prop}{a:Act}{w:World}(h:wpOp P ops Q j K a w):
  wpOp P ops Q j (fun a' w'=>K a' w'/\a'.tmps.size=a.tmps.size/\∀t:Nat,oj.dst≠some t->a'.tmps.getD t undef=a.tmps.getD t undef) a w:=by
 simp only[wpOp,hj] at h⊢
 have hk:∀(b:Act)(u:Value),b.tmps=a.tmps->(b.put oj.dst u).tmps.size=a.tmps.size/\∀t:Nat,oj.dst≠some t->(b.put oj.dst u).tmps.getD t undef=a.tmps.getD t undef:=fun b u hb=>⟨by cases oj.dst<;>simp[Act.put,hb],fun t ht=>by rw[put_keep ht,hb]⟩
 by_cases hw:Region.wanted oj (yielded ops a.tmps)=true
 ·rw[if_pos hw] at h⊢
  refine h.imp (fun h=> ?_) (fun h=>h)
  unfold Oper.wp at*
  generalize (execOp a.eval oj).run P w=r at h⊢
  cases r with
  |halt x w'=>cases x<;>exact h
  |ok n w'=>
   cases n<;>simp only[Oper.upon] at h⊢
   case value u=>exact⟨h,hk a u rfl⟩
   case skip=>exact⟨h,hk a undef rfl⟩
   case defer d=>exact⟨h,hk { a with defers:=d::a.defers } undef rfl⟩
   case enter f args=>
    refine Calls.mono h fun e w'' he=> ?_
    cases e with
    |returned u=>exact⟨he,hk a u rfl⟩
    |panicked c=>exact he
    |outgrown=>exact he
   case row row args=>exact Rows.mono h fun u w'' he=>⟨he,hk a u rfl⟩
 ·rw[if_neg hw] at h⊢
  exact⟨h,hk a undef rfl⟩
theorem wpOp_val{j:Nat}{oj:Oper}(hj:ops[j]?=some oj)(hg:oj.guard=none){v:Value}{K:Act->World->Prop}{a:Act}{w:World}(hr:(execOp a.eval oj).run P w= .ok (.value v) w)(h:wpOp P ops Q j K a w):
  wpOp P ops Q j (fun a' w'=>K a' w'/\a'=a.put oj.dst v) a w:=by
 have hw:Region.wanted oj (yielded ops a.tmps)=true:=by unfold Region.wanted;rw[hg]
 simp only[wpOp,hj] at h⊢
 rw[if_pos hw] at h⊢
 refine h.imp (fun h=> ?_) (fun h=>h)
 unfold Oper.wp at*
 rw[hr] at h⊢
 exact⟨h,rfl⟩
end

section
variable (C : Cfg) (ops : Array Oper) (Q : Exit->Act->World->Prop)
def vAny:Nat->Array Bool->Act->World->Prop
 |0,listed,a,w=>Region.ready .any ops listed=[]/\Q .normal a w
 |n+1,listed,a,w=>(Region.ready .any ops listed=[]->Q .normal a w)/\
  ∀i∈Region.ready .any ops listed,wpOp C.P ops Q i (fun a' w'=>(∀o,ops[i]?=some o->turnsA C a o=false->BelowC w w')/\vAny n (listed.setIfInBounds i true) a' w') a w
end
section
variable {C : Cfg} {ops : Array Oper} {Q : Exit->Act->World->Prop}
theorem vAny_wpAny:∀(n:Nat)(listed:Array Bool)(a:Act)(w:World),vAny C ops Q n listed a w->wpAny C.P .any ops Q n listed a w
 |0,listed,a,w,h=>h
 |n+1,listed,a,w,h=>⟨h.1,fun i hi=>wpOp_mono (fun a' w' h'=>vAny_wpAny n _ a' w' h'.2) (h.2 i hi)⟩
theorem waits_mono{j i:Nat} :∀ {n:Nat},waits ops n j i=true->waits ops (n+1) j i=true:=by
 intro n
 induction n generalizing j with
 |zero=>
  intro h
  simp only[waits] at h⊢
  split at h
  ·rename_i o ho;simp only[h,Bool.true_or]
  ·cases h
 |succ n ih=>
  intro h
  rw[waits] at h⊢
  split at h
  ·rename_i o ho
   simp only[Bool.or_eq_true] at h⊢
   refine h.imp id fun h=> ?_
   obtain⟨e,he,h⟩:=Array.any_eq_true'.1 h
   simp only[Bool.and_eq_true] at h
   exact Array.any_eq_true'.2 ⟨e,he,by simp only[Bool.and_eq_true];exact⟨h.1,ih h.2⟩⟩
  ·cases h
theorem getD_flip{l:Array Bool}{i:Nat}(h:l.getD i true=false):l.getD i false=false:=by
 rcases Nat.lt_or_ge i l.size with h'|h'
 ·simpa[h'] using h
 ·simp[h'] at h
theorem not_ready{listed:Array Bool}{i j:Nat}(hi:listed.getD i true=false)(hw:∀k,waits ops 4 k i=true->listed.getD k true=false)(hj:j∈Region.ready .any ops listed):waits ops 4 j i=false:=by
 cases h:waits ops 4 j i with
 |false=>rfl
 |true=>
  obtain⟨_,o,ho,hall⟩:=mem_ready.1 hj
  rw[waits,ho] at h
  simp only[Bool.or_eq_true] at h
  rcases h with h|h
  ·obtain⟨e,he,h⟩:=Array.any_eq_true'.1 h
   simp only[Bool.and_eq_true,beq_iff_eq] at h
   have:=hall e he h.1
   rw[h.2,getD_flip hi] at this
   cases this
  ·obtain⟨e,he,h⟩:=Array.any_eq_true'.1 h
   simp only[Bool.and_eq_true] at h
   have h1:=hall e he h.1
   rw[getD_flip (hw _ (waits_mono h.2))] at h1
   cases h1
def Calm(T:Oper->Bool)(ops:Array Oper)(G:World->Prop)(i:Nat)(listed:Array Bool):Prop:=
 (∀w,G w)∨((∀w w',BelowC w w'->G w->G w')/\(∀k,waits ops 4 k i=true->listed.getD k true=false)/\
  ∀(j:Nat)(o:Oper),ops[j]?=some o->j≠i->listed.getD j true=false->T o=true->waits ops 4 j i=true)
theorem turnsA_put{o:Oper}{a:Act}{d:Option Tmp}{v:Value}(h:∀x,d=some x->x∉o.looksAt ops):turnsA C (a.put d v) o=turnsA C a o:=by
 unfold turnsA
 split
 ·rename_i t args ts hc
  have hne:d≠some t:=fun e=>h t e (by
   unfold Oper.looksAt
   refine List.mem_append_left _ (List.mem_filterMap.2 ⟨.tmp t,?_,rfl⟩)
   rw[hc]
   simp[Op.operands,Call.operands])
  rw[put_keep hne]
 ·rfl
 ·rfl
theorem vAny_first{T:Oper->Bool}{V:Array Bool->Act->Prop}{G:World->Prop}{i:Nat}{oi:Oper}{v:Value}(hi:ops[i]?=some oi)(hsel:∀(j:Nat)(o:Oper) cs b,ops[j]?=some o->o.op≠ .select cs b)(hQ:∀c a w,¬Q (.panic c) a w)
  (hV:∀(listed:Array Bool)(a:Act)(w:World)(j:Nat)(oj:Oper),V listed a->G w->ops[j]?=some oj->j∈Region.ready .any ops listed->∀K,wpOp C.P ops Q j K a w->wpOp C.P ops Q j (fun a' w'=>K a' w'/\V (listed.setIfInBounds j true) a') a w)
  (hT:(∀w,G w)∨ ∀(listed:Array Bool)(a:Act)(j:Nat)(o:Oper),V listed a->ops[j]?=some o->j∈Region.ready .any ops listed->T o=false->turnsA C a o=false):
  ∀(n:Nat)(listed:Array Bool)(a:Act)(w:World),V listed a->
   (∀j oj,ops[j]?=some oj->j≠i->listed.getD j true=false->(∀e∈oj.after,Region.binds .any e=true->e.on≠i)->oi.apart ops oj=true)->
   i∈Region.ready .any ops listed->YieldsG G C.P ops oi v a->G w->Calm T ops G i listed->vAny C ops Q n (listed.setIfInBounds i true) (a.put oi.dst v) w->vAny C ops Q (n+1) listed a w:=by
 intro n
 induction n with
 |zero=>
  intro listed a w _ _ hr hy hG hC H
  refine⟨fun h=>(by rw[h] at hr;cases hr),fun j hj=> ?_⟩
  by_cases hji:j=i
  ·subst hji;exact hy.take hi hG ⟨fun _ _ _=>(BelowX.refl _ _).toC,H⟩
  ·have:=ready_mono hj hji
   rw[H.1] at this
   cases this
 |succ n ih=>
  intro listed a w hVa hfree hr hy hG hC H
  refine⟨fun h=>(by rw[h] at hr;cases hr),fun j hj=> ?_⟩
  by_cases hji:j=i
  ·subst hji;exact hy.take hi hG ⟨fun _ _ _=>(BelowX.refl _ _).toC,H⟩
  ·have h1:=H.2 j (ready_mono hj hji)
   obtain⟨hjun,oj,hoj,hall⟩:=mem_ready.1 hj
   have hiun:=(mem_ready.1 hr).1
   have hnot:∀e∈oj.after,Region.binds .any e=true->e.on≠i:=fun e he hb heq=>by
    have h1:=hall e he hb
    rw[heq,getD_flip hiun] at h1
    cases h1
   have hap:=hfree j oj hoj hji hjun hnot
   have hput:turnsA C (a.put oi.dst v) oj=turnsA C a oj:=turnsA_put (Oper.apart_spec hap).1
   have hturn:Calm T ops G i (listed.setIfInBounds j true)/\((∀w,G w)∨((∀w w',BelowC w w'->G w->G w')/\turnsA C a oj=false)):=by
    rcases hC with hC|⟨hC1,hC2,hC3⟩
    ·exact⟨.inl hC,.inl hC⟩
    ·rcases hT with hT|hT
     ·exact⟨.inl hT,.inl hT⟩
     have hnw:=not_ready hiun hC2 hj
     refine⟨.inr ⟨hC1,fun k hk=> ?_,fun k o ho hki hun ht=> ?_⟩,.inr ⟨hC1,hT listed a j oj hVa hoj hj ?_⟩⟩
     ·have hjk:j≠k:=fun e=>by subst e;rw[hnw] at hk;cases hk
      rw[getD_set_ne true hjk];exact hC2 k hk
     ·by_cases hjk:j=k
      ·subst hjk
       rcases Nat.lt_or_ge j listed.size with h'|h'
       ·simp[h'] at hun
       ·simp[h'] at hjun
      ·rw[getD_set_ne true hjk] at hun;exact hC3 k o ho hki hun ht
     ·cases ht:T oj with
      |false=>rfl
      |true=>have:=hC3 j oj hoj hji hjun ht;rw[hnw] at this;cases this
   obtain⟨hC',hstep⟩:=hturn
   have h2:=hV listed a w j oj hVa hG hoj hj _ (wpOp_before hoj hap (fun cs b=>hsel i oi cs b hi) (fun cs b=>hsel j oj cs b hoj) hQ hy h1)
   have hfree':∀k ok,ops[k]?=some ok->k≠i->(listed.setIfInBounds j true).getD k true=false->
     (∀e∈ok.after,Region.binds .any e=true->e.on≠i)->oi.apart ops ok=true:=fun k ok hk hki hun hno=>by
    refine hfree k ok hk hki ?_ hno
    by_cases hjk:j=k
    ·subst hjk;exact hjun
    ·rw[getD_set_ne true hjk] at hun;exact hun
   refine wpOp_mono (fun a' w' h3=>⟨fun o ho ht=>h3.1.2.1 o ho (by rw[hoj] at ho;obtain rfl:=Option.some.inj ho;rw[hput];exact ht),ih (listed.setIfInBounds j true) a' w' h3.2 hfree' (ready_mono hr (Ne.symm hji)) h3.1.1 ?_ hC' ?_⟩) h2
   ·rcases hstep with h|⟨h,ht⟩
    ·exact h w'
    ·exact h w w' (h3.1.2.1 oj hoj (by rw[hput];exact ht)) hG
   ·rw[Array.setIfInBounds_comm _ _ hji]
    exact h3.1.2.2
end

section
variable {C : Cfg} {w0 : World} {own0 : List Nat}
def opsOk(nt:Nat)(ops:List Oper):Bool:=ops.all fun o=>(match o.op with| .select .. =>false|_=>true)&&(match o.dst with|some t=>decide (t<nt)|none=>true)
theorem opsOk_spec{nt:Nat}{ops:List Oper}(h:opsOk nt ops=true){o:Oper}(ho:o∈ops):(∀cs b,o.op≠ .select cs b)/\∀t,o.dst=some t->t<nt:=by
 have:=List.all_eq_true.1 h o ho
 simp only[Bool.and_eq_true] at this
 refine⟨fun cs b e=> ?_,fun t ht=> ?_⟩
 ·simp[e] at this
 ·simpa[ht] using this.2
theorem quiet_some{o:Oper}{st:St}(h:worldless C o=true∨isLoad o=true):∃q,quietV C o st=some q:=by
 unfold quietV
 unfold worldless isLoad at h
 split<;>first|exact⟨_,rfl⟩|skip
 all_goals simp_all
structure VA(C:Cfg)(ops:Array Oper)(listed0:Array Bool)(st:St)(a0:Act)(listed:Array Bool)(a:Act):Prop where
 mono:∀k,listed0.getD k true=true->listed.getD k true=true
 size:a.tmps.size=a0.tmps.size
 agree:∀t,(¬ ∃(k:Nat)(ok:Oper),ops[k]?=some ok/\listed0.getD k true=false/\ok.dst=some t)->a.tmps.getD t undef=a0.tmps.getD t undef
 loaded:∀k t v,loadedV C ops listed0 st t k=some v->listed.getD k true=true->a.tmps.getD t undef=v
theorem noWriter_spec{ops:Array Oper}{listed:Array Bool}{t k:Nat}(h:noWriter ops listed t k=true){j:Nat}{oj:Oper}(hj:ops[j]?=some oj)(hu:listed.getD j true=false)(hd:oj.dst=some t):j=k:=by
 have hlt:=(Array.getElem?_eq_some_iff.1 hj).1
 have:=List.all_eq_true.1 h j (List.mem_range.2 hlt)
 simpa[hu,hj,hd] using this
theorem loadedV_spec{ops:Array Oper}{listed:Array Bool}{st:St}{t k:Nat}{v:Value}(h:loadedV C ops listed st t k=some v):
  ∃(lo:Oper)(ty:TypeId)(x i off:Nat),ops[k]?=some lo/\lo.op= .load ty (.tmp x)/\listed.getD k true=false/\lo.dst=some t/\lo.guard=none/\noWriter ops listed t k=true/\noWriter ops listed x ops.size=true/\
   look x st.env=some (.loc i off)/\loadV C ty st (fun s=>s= .v v) (.loc i off):=by
 unfold loadedV at h
 split at h
 ·rename_i lo hlo
  split at h
  ·rename_i ty x hop
   split at h
   ·rename_i hc
    simp only[Bool.and_eq_true,Bool.not_eq_true',beq_iff_eq,Option.isNone_iff_eq_none] at hc
    split at h
    ·rename_i lk d i off hk hu hl
     split at h
     ·rename_i b bt cs hx
      refine⟨lo,ty,x,i,off,hlo,hop,hc.1.1.1.1,hc.1.1.1.2,hc.1.1.2,hc.1.2,hc.2,hl,?_⟩
      unfold loadV
      simp only[hx,typed,hu,hk,h]
     ·cases h
    ·cases h
   ·cases h
  ·cases h
 ·cases h
theorem VA.start{ops:Array Oper}{listed:Array Bool}{st:St}{a:Act} :VA C ops listed st a listed a:=⟨fun _ h=>h,rfl,fun _ _=>rfl,fun k t v h hk=>by
 obtain⟨lo,ty,x,i,off,_,_,h3,_⟩:=loadedV_spec h
 rw[h3] at hk;cases hk⟩
theorem VA.step{ops:Array Oper}{Q:Exit->Act->World->Prop}{listed0 listed:Array Bool}{st:St}{a0 a:Act}{w:World}(he:EnvOk C.nt st.env st.own a0)(hlt:∀(k:Nat)(ok:Oper),ops[k]?=some ok->∀t,ok.dst=some t->t<C.nt)
  (hV:VA C ops listed0 st a0 listed a) (hG:Sees st.H w/\BoxesC st.own w) {j:Nat} {oj:Oper} (hoj:ops[j]?=some oj) (hj:j∈Region.ready .any ops listed) {K:Act->World->Prop} (h:wpOp C.P ops Q j K a w):
  wpOp C.P ops Q j (fun a' w'=>K a' w'/\VA C ops listed0 st a0 (listed.setIfInBounds j true) a') a w:=by
 have hjun:=(mem_ready.1 hj).1
 have hj0:listed0.getD j true=false:=by
  cases hh:listed0.getD j true with
  |false=>rfl
  |true=>have:=hV.mono j hh;rw[hjun] at this;cases this
 have mono':∀k,listed0.getD k true=true->(listed.setIfInBounds j true).getD k true=true:=fun k hk=>by
  by_cases hkj:j=k
  ·subst hkj;rw[hj0] at hk;cases hk
  ·rw[getD_set_ne true hkj];exact hV.mono k hk
 have agree':∀(a':Act),(∀t:Nat,oj.dst≠some t->a'.tmps.getD t undef=a.tmps.getD t undef)->∀t,(¬ ∃(k:Nat)(ok:Oper),ops[k]?=some ok/\listed0.getD k true=false/\ok.dst=some t)->a'.tmps.getD t undef=a0.tmps.getD t undef:=fun a' ha t ht=>
  (ha t fun e=>ht ⟨j,oj,hoj,hj0,e⟩).trans (hV.agree t ht)
 have loaded':∀(a':Act),(∀t:Nat,oj.dst≠some t->a'.tmps.getD t undef=a.tmps.getD t undef)->∀k t v,loadedV C ops listed0 st t k=some v->k≠j->(listed.setIfInBounds j true).getD k true=true->a'.tmps.getD t undef=v:=fun a' ha k t v hk hkj hl=>by
  obtain⟨lo,ty,x,i,off,_,_,_,_,_,h6,_⟩:=loadedV_spec hk
  rw[getD_set_ne true (Ne.symm hkj)] at hl
  exact(ha t fun e=>hkj (noWriter_spec h6 hoj hj0 e).symm).trans (hV.loaded k t v hk hl)
 have h1:=wpOp_keeps hoj h
 by_cases hd:∃t v,loadedV C ops listed0 st t j=some v
 ·obtain⟨t,v,hd⟩:=hd
  obtain⟨lo,ty,x,i,off,g1,g2,g3,g4,g5,g6,g7,g8,g9⟩:=loadedV_spec hd
  obtain rfl:lo=oj:=by rw[hoj] at g1;exact(Option.some.inj g1).symm
  have hx:a.tmps.getD x undef=SV.val st.own (.loc i off):=by
   rw[hV.agree x fun⟨k,ok,k1,k2,k3⟩=>by
    have:=noWriter_spec g7 k1 k2 k3
    have:=(Array.getElem?_eq_some_iff.1 k1).1
    omega]
   exact(he.at_ x _ g8).2.1
  obtain⟨r,hr,_,hrun⟩:=loadV_sound ty st _ _ g9
  subst hr
  have hex:(execOp a.eval lo).run C.P w= .ok (.value v) w:=by
   have hv:a.eval (.tmp x)=SV.val st.own (.loc i off):=hx
   have hr2:=hrun w hG.1 hG.2
   simp only[SV.val] at hr2
   simp[execOp,g2,hv,SV.val,hr2]
  refine wpOp_mono (fun a' w' h2=>⟨h2.1.1,mono',h2.1.2.1.trans hV.size,agree' a' h2.1.2.2,fun k t' v' hk hl=> ?_⟩) (wpOp_val hoj g5 hex h1)
  by_cases hkj:k=j
  ·subst hkj
   obtain⟨lo',ty',x',i',off',k1,k2,k3,k4,k5,k6,k7,k8,k9⟩:=loadedV_spec hk
   obtain rfl:lo'=lo:=by rw[hoj] at k1;exact(Option.some.inj k1).symm
   obtain rfl:t'=t:=by rw[g4] at k4;exact(Option.some.inj k4).symm
   obtain rfl:v'=v:=by rw[hd] at hk;exact(Option.some.inj hk).symm
   rw[h2.2,g4]
   have:=hlt k lo' hoj t' g4
   have hs:t'<a.tmps.size:=by rw[hV.size,he.size];exact this
   simp[Act.put,hs]
  ·exact loaded' a' h2.1.2.2 k t' v' hk hkj hl
 ·refine wpOp_mono (fun a' w' h2=>⟨h2.1,mono',h2.2.1.trans hV.size,agree' a' h2.2.2,fun k t v hk hl=> ?_⟩) h1
  exact loaded' a' h2.2.2 k t v hk (fun e=>hd ⟨t,v,e▸hk⟩) hl
theorem still_ok{ops:Array Oper}{listed:Array Bool}{st:St}{a:Act}(he:EnvOk C.nt st.env st.own a):
  ∀(listed':Array Bool)(a':Act)(j:Nat)(o:Oper),VA C ops listed st a listed' a'->ops[j]?=some o->j∈Region.ready .any ops listed'->stillT C ops listed st o=false->turnsA C a' o=false:=fun listed' a' j o hs hoj hj hT=>by
 have key:∀t (c:Call),o.op= .call c->c.callee= .value (.tmp t)->stillT C ops listed st o=false->turnsA C a' o=false:=fun t c hc ht hT=>by
  obtain⟨ce,args,ts⟩:=c
  dsimp only at ht
  subst ht
  unfold stillT at hT
  split at hT
  ·simp[turns,hc] at hT
  ·rw[hc] at hT
   dsimp only at hT
   split at hT
   ·rename_i hall
    have hd:¬ ∃(k:Nat)(ok:Oper),ops[k]?=some ok/\listed.getD k true=false/\ok.dst=some t:=fun⟨k,ok,hk,hu,hdt⟩=>by
     have hlt:=(Array.getElem?_eq_some_iff.1 hk).1
     have:=List.all_eq_true.1 hall k (List.mem_range.2 hlt)
     simp[hu,hk,hdt] at this
    split at hT
    ·rename_i g x y hl
     obtain⟨_,h2,_⟩:=he.at_ t _ hl
     have hv:a'.tmps.getD t undef= .func (.func g) x y:=by rw[hs.agree t hd,h2];rfl
     simp only[turnsA,hc,hv]
     exact hT
    ·rename_i g x hl
     obtain⟨_,h2,_⟩:=he.at_ t _ hl
     have hv:a'.tmps.getD t undef= .func (.func g) #[] (x.map fun i=>Value.pointer (some ⟨boxNo st.own i,0,none⟩)).toArray:=by rw[hs.agree t hd,h2];rfl
     simp only[turnsA,hc,hv]
     exact hT
    ·cases hT
   ·split at hT
    ·simp only[Bool.not_eq_false'] at hT
     unfold loadedFn at hT
     obtain⟨e,he',hT⟩:=Array.any_eq_true'.1 hT
     simp only[Bool.and_eq_true] at hT
     obtain⟨hb,hT⟩:=hT
     split at hT
     ·rename_i g x y hl
      obtain⟨_,o',ho',hall⟩:=mem_ready.1 hj
      obtain rfl:o=o':=by rw[hoj] at ho';exact Option.some.inj ho'
      have hle:=hall e he' hb
      have hle':listed'.getD e.on true=true:=by
       rcases Nat.lt_or_ge e.on listed'.size with h'|h'
       ·simpa[h'] using hle
       ·simp[h']
      have hv:=hs.loaded e.on t _ hl hle'
      simp only[turnsA,hc,hv]
      simpa using hT
     ·cases hT
    ·cases hT
 unfold turnsA
 split
 ·rename_i t args ts hc
  have:=key t _ hc rfl hT
  simpa only[turnsA,hc] using this
 ·rfl
 ·rename_i hne hni
  unfold stillT at hT
  split at hT
  ·exact hT
  ·split at hT
   ·rename_i t args ts hc
    exact absurd hc (hne t args ts)
   ·rename_i t m k x hc
    exact absurd hc (hni t m k x)
   ·exact hT
theorem drawV_sound(hin:InlOk C.P C.muts){ops:Array Oper}{Q:Exit->Act->World->Prop}{base:List Bx}{W:List Nat}{a₀:Act}{k:St->Prop}(hQ:∀st a w,k st->Good C w0 own0 base W a₀ st a w->Q .normal a w)(hp:∀c a w,¬Q (.panic c) a w)
  (hok:opsOk C.nt ops.toList=true) (hd:∀o∈ops.toList,∀t,o.dst=some t->t∈W):
  ∀(n:Nat)(listed:Array Bool)(st:St)(a:Act)(w:World),Good C w0 own0 base W a₀ st a w->drawV C ops n listed st k->vAny C ops Q n listed a w
 |0,listed,st,a,w,hg,h=>by
  simp only[drawV] at h
  split at h
  ·rename_i hr;exact⟨hr,hQ st a w h hg⟩
  ·exact h.elim
 |n+1,listed,st,a,w,hg,h=>by
  simp only[drawV] at h
  have dsts:∀ {i:Nat} {o:Oper},ops[i]?=some o->∀t,o.dst=some t->t<C.nt/\t∈W:=fun hi t ht=>by
   have hm:=Array.mem_toList_iff.2 (Array.mem_of_getElem? hi)
   exact⟨(opsOk_spec hok hm).2 t ht,hd _ hm t ht⟩
  have go:∀i,(match ops[i]? with
     |some o=>guardV ops o st
       (fun st=>opV C o none st fun s own H=>drawV C ops n (listed.setIfInBounds i true) (St.put ⟨st.env,own,H⟩ o.dst s) k)
       (fun st=>drawV C ops n (listed.setIfInBounds i true) (st.put o.dst (.v undef)) k)
     |none=>False)->wpOp C.P ops Q i (fun a' w'=>(∀o,ops[i]?=some o->turnsA C a o=false->BelowC w w')/\vAny C ops Q n (listed.setIfInBounds i true) a' w') a w:=fun i h=>by
   split at h
   ·rename_i o ho
    obtain⟨env',he,h⟩:=guardV_sound hg.env h
    have hg':Good C w0 own0 base W a₀ ⟨env',st.own,st.H⟩ a w:=⟨he,hg.stw,hg.rel⟩
    simp only[wpOp,ho]
    rcases h with⟨hw,h⟩|⟨hw,h⟩
    ·rw[if_pos hw]
     refine .inl (opV_sound hin (st:=⟨env',st.own,st.H⟩) he hg.stw (fun s own' H' w' hf hwf hext hs ht=>⟨fun o' ho'=> ?_,?_⟩) h)
     ·obtain rfl:=Option.some.inj ho';exact ht
     ·exact drawV_sound hin hQ hp hok hd n _ _ _ _ (hg'.put hext hs (dsts ho) hwf) hf
    ·rw[if_neg (by simp[hw])]
     exact⟨fun _ _ _=>(BelowX.refl _ _).toC,drawV_sound hin hQ hp hok hd n _ _ _ _ (hg'.put (s:= .v undef) (OwnExt.refl _) hg.stw (dsts ho) trivial) h⟩
   ·exact h.elim
  split at h
  ·rename_i hr
   exact⟨fun _=>hQ st a w h hg,by rw[hr];simp⟩
  ·rename_i hne
   split at h
   ·rename_i i hf
    have hi:=List.mem_of_find?_eq_some hf
    have hc:=List.find?_some hf
    split at h
    case h_2=>exact h.elim
    rename_i o ho
    simp only[canTake,ho,Bool.and_eq_true,Bool.or_eq_true] at hc
    obtain⟨hfree,hc⟩:=hc
    have hsel:∀(j:Nat)(o:Oper) cs b,ops[j]?=some o->o.op≠ .select cs b:=fun j o cs b hj=>(opsOk_spec hok (Array.mem_toList_iff.2 (Array.mem_of_getElem? hj))).1 cs b
    obtain⟨env',he,h⟩:=guardV_sound hg.env h
    have hg':Good C w0 own0 base W a₀ ⟨env',st.own,st.H⟩ a w:=⟨he,hg.stw,hg.rel⟩
    have hwl:worldless C o=true∨isLoad o=true:=by
     rcases hc with hc|hc
     ·exact .inl hc
     ·exact .inr hc.1.1
    obtain⟨G,hG,hGw,hGs,hCalm⟩:∃G:World->Prop,G w/\(∀w,G w->worldless C o=true∨(Sees st.H w/\BoxesC st.own w/\isLoad o=true))/\((∀w,G w)∨ ∀w,G w->Sees st.H w/\BoxesC st.own w)/\Calm (stillT C ops listed st) ops G i listed:=by
     rcases hc with hc|hc
     ·exact⟨fun _=>True,trivial,fun _ _=> .inl hc,.inl fun _=>trivial,.inl fun _=>trivial⟩
     ·refine⟨fun w=>Sees st.H w/\BoxesC st.own w,⟨hg.stw.sees,hg.stw.boxes.c⟩,fun _ h=> .inr ⟨h.1,h.2,hc.1.1⟩,.inr fun _ h=>h,.inr ⟨fun w w' hb h=>⟨h.1.belowC hb,h.2.belowC hb⟩,fun k hk=> ?_,fun j oj hoj hji hun ht=> ?_⟩⟩
      ·have hlt:k<ops.size:=by
        rw[waits] at hk
        split at hk
        ·rename_i o' ho';exact(Array.getElem?_eq_some_iff.1 ho').1
        ·cases hk
       have:=List.all_eq_true.1 hc.2 k (List.mem_range.2 hlt)
       simpa[hk] using this
      ·have hlt:=(Array.getElem?_eq_some_iff.1 hoj).1
       have:=List.all_eq_true.1 hc.1.2 j (List.mem_range.2 hlt)
       simpa[hun,hoj,ht] using this
    obtain⟨V,hV0,hV,hT⟩:∃V:Array Bool->Act->Prop,V listed a/\(∀(listed:Array Bool)(a:Act)(w:World)(j:Nat)(oj:Oper),V listed a->G w->ops[j]?=some oj->j∈Region.ready .any ops listed->∀K,wpOp C.P ops Q j K a w->wpOp C.P ops Q j (fun a' w'=>K a' w'/\V (listed.setIfInBounds j true) a') a w)/\
      ((∀w,G w)∨ ∀(listed':Array Bool)(a:Act)(j:Nat)(o:Oper),V listed' a->ops[j]?=some o->j∈Region.ready .any ops listed'->stillT C ops listed st o=false->turnsA C a o=false):=by
     by_cases hall:∀w,G w
     ·exact⟨fun _ _=>True,trivial,fun listed a w j oj _ _ _ _ K h=>wpOp_mono (fun _ _ h=>⟨h,trivial⟩) h,.inl hall⟩
     ·rcases hGs with hGs|hGs
      ·exact absurd hGs hall
      ·exact⟨VA C ops listed st a,VA.start,fun listed' a' w' j oj hVa hGw hoj hj K h=>VA.step hg.env (fun k ok hk t ht=>(dsts hk t ht).1) hVa (hGs w' hGw) hoj hj h,.inr (still_ok hg.env)⟩
    have fin:∀v,YieldsG G C.P ops o v a->vAny C ops Q n (listed.setIfInBounds i true) (a.put o.dst v) w->vAny C ops Q (n+1) listed a w:=fun v hy hv=>
     vAny_first (T:=stillT C ops listed st) (V:=V) ho hsel hp hV hT n listed a w hV0 (Region.free_spec ho hfree) hi hy hG hCalm hv
    rcases h with⟨hw,h⟩|⟨hw,h⟩
    ·obtain⟨q,hq⟩:=quiet_some (st:=⟨env',st.own,st.H⟩) hwl
     simp only[opV,hq] at h
     obtain⟨s,hf,hwf,hy⟩:=quiet_sound (f:=fun s=>drawV C ops n (listed.setIfInBounds i true) (St.put ⟨env',st.own,st.H⟩ o.dst s) k) o _ hq h a he
     exact fin _ (.inl ⟨hw,fun w' hG'=>hy a w' he ((hGw w' hG').imp id fun h=>⟨h.1,h.2.1,.inl h.2.2⟩)⟩) (drawV_sound hin hQ hp hok hd n _ _ _ _ (hg'.put (OwnExt.refl _) hg.stw (dsts ho) hwf) hf)
    ·exact fin _ (.inr ⟨hw,rfl⟩) (drawV_sound hin hQ hp hok hd n _ _ _ _ (hg'.put (s:= .v undef) (OwnExt.refl _) hg.stw (dsts ho) trivial) h)
   ·refine⟨fun h0=>absurd h0 hne,fun i hi=>go i ?_⟩
    have:∀(l:List Nat)(f:Nat->Prop),allV l f->∀i∈l,f i:=fun l f=>by
     induction l with
     |nil=>intro _ i hi;cases hi
     |cons x r ih=>
      intro h i hi
      cases r with
      |nil=>simp at hi;subst hi;exact h
      |cons y r=>
       rcases List.mem_cons.1 hi with rfl|hi
       ·exact h.1
       ·exact ih h.2 i hi
    exact this _ _ h i hi
end
open Go Go.RowKit

theorem wp_loop_ghost{α:Type}{P:Program}{c:Code}{Q:Exit->Act->World->Prop}{a:Act}{w:World}(I:α->Act->World->Prop)(μ:α->Nat)(x₀:α)(h₀:I x₀ a w)
  (round:∀x a w,I x a w->c.wp P (Exit.then (fun a' w'=>∃x',I x' a' w'/\μ x'<μ x) Q) a w):(Code.loop c).wp P Q a w:=by
 have least:∀a w,(∃x,I x a w)->∃m,(∃x,I x a w/\μ x=m)/\∀x,I x a w->m<=μ x:=fun a w=>by
  rintro⟨x,hx⟩
  generalize hn:μ x=n
  induction n using Nat.strongRecOn generalizing x with
  |_ n ih=>
   by_cases h:∃y,I y a w/\μ y<n
   ·obtain⟨y,hy,hlt⟩:=h
    exact ih (μ y) hlt y hy rfl
   ·exact⟨n,⟨x,hx,hn⟩,fun y hy=>Nat.le_of_not_lt fun hlt=>h ⟨y,hy,hlt⟩⟩
 classical
 let m:Act->World->Nat:=fun a w=>if h:∃x,I x a w then(least a w h).choose else 0
 have hm:∀a w,(∃x,I x a w)->(∃x,I x a w/\μ x=m a w)/\∀x,I x a w->m a w<=μ x:=fun a w h=>by
  have:=(least a w h).choose_spec
  simp only[m,dif_pos h]
  exact this
 refine wp_loop (fun a w=>∃x,I x a w) m ⟨x₀,h₀⟩ fun a w hx=> ?_
 obtain⟨⟨x,hI,hx'⟩,_⟩:=hm a w hx
 refine wp_mono (round x a w hI) fun e a' w' hq=> ?_
 cases e with
 |normal=>
  obtain⟨x',hI',hlt⟩:=hq
  refine⟨⟨x',hI'⟩,?_⟩
  have:=(hm a' w' ⟨x',hI'⟩).2 x' hI'
  show m a' w'<m a w
  omega
 |_=>exact hq

theorem Bx_eq{x y:Bx}(hb:y.b=x.b)(hm:y.map=x.map)(ht:y.ty=x.ty):x.set y.cs=y:=by
 cases x;cases y;simp_all[Bx.set]
theorem boxVals_spec{own:List Bx} :∀ {is:List Nat} {vs:List Value},boxVals own is=some vs->vs.length=is.length/\toCells vs=(is.filterMap fun i=>(own[i]?).map Bx.cs)/\∀i∈is,∃x,own[i]?=some x
 | [],vs,h=>by simp[boxVals] at h;subst h;exact⟨rfl,rfl,by simp⟩
 |i::r,vs,h=>by
  simp only[boxVals] at h
  split at h
  ·rename_i x l hx hl
   obtain rfl:=Option.some.inj h
   obtain⟨h1,h2,h3⟩:=boxVals_spec hl
   refine⟨by simp[h1],?_,fun j hj=> ?_⟩
   ·simp only[toCells,List.map_cons] at h2⊢
    rw[List.filterMap_cons,hx]
    simp only[Option.map_some]
    rw[←h2]
    simp[Value.cells]
   ·rcases List.mem_cons.1 hj with rfl|hj
    ·exact⟨x,hx⟩
    ·exact h3 j hj
  ·cases h
theorem filterMap_getElem{own:List Bx} :∀ {is:List Nat},(∀i∈is,∃x,own[i]?=some x)->∀k:Nat,(is.filterMap fun i=>(own[i]?).map Bx.cs)[k]?=(is[k]?).bind fun i=>(own[i]?).map Bx.cs
 | [],_,k=>by simp
 |i::r,h,k=>by
  obtain⟨x,hx⟩:=h i List.mem_cons_self
  rw[List.filterMap_cons,hx]
  simp only[Option.map_some]
  cases k with
  |zero=>simp[hx]
  |succ k=>
   simp only[List.getElem?_cons_succ]
   exact filterMap_getElem (fun j hj=>h j (List.mem_cons_of_mem _ hj)) k
theorem slotVals_spec{st:St} :∀ {ss:List Nat} {vs:List Value},slotVals st ss=some vs->vs.length=ss.length/\∀k s:Nat,ss[k]?=some s->∃sv,look s st.env=some sv/\vs[k]?=some (sv.val st.own)
 | [],vs,h=>by simp[slotVals] at h;subst h;exact⟨rfl,fun k s hk=>by simp at hk⟩
 |s::r,vs,h=>by
  simp only[slotVals] at h
  split at h
  ·rename_i v l hv hl
   obtain rfl:=Option.some.inj h
   obtain⟨h1,h2⟩:=slotVals_spec hl
   refine⟨by simp[h1],fun k s' hk=> ?_⟩
   cases k with
   |zero=>simp at hk;subst hk;exact⟨v,hv,rfl⟩
   |succ k=>simpa using h2 k s' (by simpa using hk)
  ·cases h
theorem headVals_spec{slots boxes:List Nat}{st:St}{vs:List Value}(h:headVals slots boxes st=some vs):
  slotVals st slots=some (vs.take slots.length)/\boxVals st.own boxes=some (vs.drop slots.length):=by
 unfold headVals at h
 split at h
 ·rename_i a b ha hb
  obtain rfl:=Option.some.inj h
  have:=(slotVals_spec ha).1
  rw[←this,List.take_left',List.drop_left']<;>first|exact⟨ha,hb⟩|rfl
 ·cases h
theorem head_own{own own':List Bx}(he:OwnExt own own'){boxes:List Nat}{vs:List Value}(hb:boxVals own' boxes=some vs)
  (hrest:restCs boxes own own.length=[]∨restCs boxes own' own.length=restCs boxes own own.length):putBack own boxes (toCells vs)=own'.take own.length:=by
 obtain⟨_,hc,hin⟩:=boxVals_spec hb
 apply List.ext_getElem?
 intro j
 rw[putBack_getElem?]
 cases hx:own[j]? with
 |none=>
  have:own.length<=j:=by simpa using hx
  rw[List.getElem?_eq_none (by simp;omega)]
  rfl
 |some x=>
  have hlt:=idx_lt hx
  obtain⟨x',hx',h1,h2,h3⟩:=he.same j x hx
  rw[List.getElem?_take,if_pos hlt,hx']
  simp only[Option.map_some,Option.some.injEq]
  rw[hc]
  split
  ·rename_i c ha
   obtain⟨k,h4,h5⟩:=alook_zip ha
   rw[filterMap_getElem hin,h4] at h5
   simp only[Option.bind_some,hx',Option.map_some,Option.some.injEq] at h5
   subst h5
   exact Bx_eq h1 h2 h3
  ·rename_i ha
   have hl:(boxes.filterMap fun i=>(own'[i]?).map Bx.cs).length=boxes.length:=by
    rw[←hc];simp[toCells,(boxVals_spec hb).1]
   have hnj:=alook_zip_none hl ha
   have hall:∀i∈(List.range own.length).filter (fun i=> !boxes.contains i),(∃x,own[i]?=some x)/\∃x,own'[i]?=some x:=fun i hi=>by
    have:=List.mem_range.1 (List.mem_filter.1 hi).1
    have hl:=he.len
    exact⟨⟨_,List.getElem?_eq_getElem this⟩,⟨_,List.getElem?_eq_getElem (by omega)⟩⟩
   have hmem:j∈(List.range own.length).filter (fun i=> !boxes.contains i):=List.mem_filter.2 ⟨List.mem_range.2 hlt,by simpa using hnj⟩
   obtain⟨k,hk⟩:=List.mem_iff_getElem?.1 hmem
   have g1:=filterMap_getElem (fun i hi=>(hall i hi).1) k
   have g2:=filterMap_getElem (fun i hi=>(hall i hi).2) k
   rw[hk] at g1 g2
   simp only[Option.bind_some,hx,hx',Option.map_some] at g1 g2
   have hcs:x'.cs=x.cs:=by
    unfold restCs at hrest
    rcases hrest with hr|hr
    ·rw[hr] at g1;simp at g1
    ·rw[hr,g1] at g2;exact(Option.some.inj g2).symm
   have:=Bx_eq h1 h2 h3
   rw[hcs] at this
   rw[←this]
   cases x;rfl
theorem look_reslot{ss:List Nat} :∀ {vs:List Value} {env:List (Nat×SV)} {s:Nat} {sv:SV},vs.length=ss.length->look s (reslot ss vs env)=some sv->(∃(k:Nat)(v:Value),ss[k]?=some s/\vs[k]?=some v/\sv= .v v)∨look s env=some sv:=by
 induction ss with
 |nil=>intro vs env s sv _ h;cases vs<;>exact .inr (by simpa[reslot] using h)
 |cons x r ih=>
  intro vs env s sv hl h
  cases vs with
  |nil=>simp at hl
  |cons v vs=>
   simp only[reslot,look] at h
   split at h
   ·rename_i e
    subst e
    exact .inl ⟨0,v,rfl,rfl,(Option.some.inj h).symm⟩
   ·rcases ih (by simpa using hl) h with⟨k,u,h1,h2,h3⟩|h
    ·exact .inl ⟨k+1,u,by simpa using h1,by simpa using h2,h3⟩
    ·exact .inr h
theorem sameRest_spec{was now:List (List Value)}{f:Prop}(h:sameRest was now f):(was=[]∨now=was)/\f:=by
 unfold sameRest at h
 split at h
 ·exact⟨.inl rfl,h⟩
 ·exact⟨.inr h.1,h.2⟩

section
variable {C : Cfg} {w0 : World} {own0 : List Nat}
def Qof(C:Cfg)(w0:World)(own0:List Nat)(ks:Ks)(base:List Bx)(W:List Nat)(a₀:Act):Exit->Act->World->Prop
 | .normal,a,w=>∃st,ks.n st/\Good C w0 own0 base W a₀ st a w
 | .exit i,a,w=>∃st,ks.x i st/\Good C w0 own0 base W a₀ st a w
 | .ret,a,w=>∃st,ks.r st/\Good C w0 own0 base W a₀ st a w
 |_,_,_=>False
theorem StW.shorter{own own':List Bx}{H:Heap}{w:World}(h:StW C w0 own0 own' H w)(he:∀x∈own,x∈own')(hn:(own.map Bx.b).Nodup):StW C w0 own0 own H w:=
 ⟨h.sees,⟨fun x hx=>h.boxes.ok x (he x hx),fun x hx=>h.boxes.hid x (he x hx),hn⟩,fun x hx=>h.locs x (he x hx),h.below,h.next,h.base,h.seen0⟩
theorem writes_mem{ops:List Oper}{o:Oper}{t:Nat}(ho:o∈ops)(ht:o.dst=some t):t∈writes ops:=List.mem_filterMap.2 ⟨o,ho,ht⟩
theorem joins_spec{ops:List Oper}{t:Tmp}(h:joins C ops=some t):∃o∈ops,o.dst=some t:=by
 unfold joins at h
 split at h
 ·rename_i o _ hl
  split at h
  ·exact⟨o,List.mem_of_getLast? hl,h⟩
  ·cases h
 ·cases h
theorem sameOwn_spec{f:Prop}{a b:List Bx}(h:sameOwn f a b):b=a/\f:=by
 unfold sameOwn at h
 split at h
 ·exact⟨rfl,h⟩
 ·exact h
theorem leafV_spec{φ:Prop}{s:SV}{own:List Bx}(h:leafV φ s):s.val own= .bool (@decide φ (Classical.propDecidable φ)):=by
 unfold leafV at h
 split at h
 ·simp[SV.val,h]
 ·simp[SV.val,h]
 ·rename_i q d
  simp only[SV.val,Value.bool.injEq]
  exact(decide_eq_decide.2 h).symm
 ·rename_i b
  simp only[SV.val,Value.bool.injEq]
  cases b<;>simp_all
 ·exact h.elim
theorem newPlaces_spec{n:Nat}{st':St} :∀ {ts:List (Nat×TypeId)} {is:List Nat} {xs:List Bx},newPlaces n st' ts=some is->pick st'.own is=some xs->
  mkBoxes ts (xs.map Bx.b) (toCells (cellsOfAll xs))=xs/\is.Nodup/\(∀i∈is,n<=i)/\xs.length=ts.length/\
  ∀(k s:Nat)(t:TypeId),ts[k]?=some (s,t)->∃(i:Nat)(x:Bx),look s st'.env=some (.loc i 0)/\st'.own[i]?=some x/\xs[k]?=some x
 | [],is,xs,h,hp=>by
  simp only[newPlaces,Option.some.injEq] at h
  subst h
  simp only[pick,Option.some.injEq] at hp
  subst hp
  exact⟨rfl,List.nodup_nil,fun _ h=>(by cases h),rfl,fun k s t h=>(by simp at h)⟩
 |(s,t)::r,is,xs,h,hp=>by
  simp only[newPlaces] at h
  split at h
  case h_2=>cases h
  rename_i i l hl hr
  split at h
  case h_2=>cases h
  rename_i x hx
  split at h
  case h_2=>cases h
  rename_i hc
  obtain rfl:=Option.some.inj h
  simp only[Bool.and_eq_true,Bool.not_eq_true',Nat.ble_eq,List.contains_eq_mem,decide_eq_false_iff_not] at hc
  obtain⟨⟨⟨hm,hn⟩,ht⟩,hni⟩:=hc
  simp only[pick,hx] at hp
  split at hp
  case h_2=>cases hp
  rename_i y l' hy hl'
  obtain rfl:=Option.some.inj hy
  obtain rfl:=Option.some.inj hp
  obtain⟨h1,h2,h3,h4,h5⟩:=newPlaces_spec hr hl'
  obtain rfl:=Nat.eq_of_beq_eq_true ht
  refine⟨?_,List.nodup_cons.2 ⟨hni,h2⟩,fun j hj=> ?_,by simp[h4],fun k s' t' hk=> ?_⟩
  ·obtain⟨b,m,ty,cs⟩:=x
   dsimp only at hm
   subst hm
   show(⟨b,false,ty,_⟩:Bx)::mkBoxes r (l'.map Bx.b) (toCells (cellsOfAll l'))=_
   rw[h1]
   rfl
  ·rcases List.mem_cons.1 hj with rfl|hj
   ·exact hn
   ·exact h3 j hj
  ·cases k with
   |zero=>
    simp only[List.getElem?_cons_zero,Option.some.injEq,Prod.mk.injEq] at hk
    obtain⟨rfl,_⟩:=hk
    exact⟨i,x,hl,hx,rfl⟩
   |succ k=>exact h5 k s' t' (by simpa using hk)
theorem look_slotLocs{env:List (Nat×SV)} :∀ {ts:List (Nat×TypeId)} {n s:Nat} {sv:SV},look s (slotLocs env n ts)=some sv->(∃(k:Nat)(t:TypeId),ts[k]?=some (s,t)/\sv= .loc (n+k) 0)∨look s env=some sv
 | [],n,s,sv,h=> .inr h
 |(s',t')::r,n,s,sv,h=>by
  simp only[slotLocs,look] at h
  split at h
  ·rename_i e
   subst e
   exact .inl ⟨0,t',rfl,(Option.some.inj h).symm⟩
  ·rcases look_slotLocs h with⟨k,t,h1,h2⟩|h
   ·exact .inl ⟨k+1,t,by simpa using h1,by rw[h2];congr 1;omega⟩
   ·exact .inr h
theorem alN_spec:∀ {bs:List Nat} {f:List Nat->Prop},alN bs.length f->f bs
 | [],_,h=>h
 |b::bs,_,h=>alN_spec (bs:=bs) (h b)
theorem newSlots_mem:∀ {ops:List Oper} {s:Nat} {t:TypeId},(s,t)∈newSlots ops->∃o∈ops,o.dst=some s
 | [],_,_,h=>by cases h
 |o::r,s,t,h=>by
  simp only[newSlots] at h
  split at h
  ·rename_i d _ _ hd
   rcases List.mem_cons.1 h with h|h
   ·obtain⟨rfl,_⟩:=Prod.mk.inj h
    exact⟨o,List.mem_cons_self ..,hd⟩
   ·obtain⟨o',h1,h2⟩:=newSlots_mem h
    exact⟨o',List.mem_cons_of_mem _ h1,h2⟩
  ·obtain⟨o',h1,h2⟩:=newSlots_mem h
   exact⟨o',List.mem_cons_of_mem _ h1,h2⟩
theorem drawCut_good{ops:List Oper}{st st':St}{base:List Bx}{W:List Nat}{a₀ a a':Act}{w w':World}{k:St->Prop}{p:List Value->Prop}{ts:List (Nat×TypeId)}(hts:∀s t,(s,t)∈ts->∃o∈ops,o.dst=some s)(hg:Good C w0 own0 base W a₀ st a w)(hg':Good C w0 own0 st.own (writes ops) a st' a' w')
  (hW:∀o∈ops,∀t,o.dst=some t->t∈W) (hl:drawLeaf ts (newKinds C.P ts) p st st')
  (hk:alN ts.length fun bs=>K1.als (newKinds C.P ts) fun vs=>p vs->k ⟨slotLocs (dropSlots ops st.env) st.own.length ts,st.own++mkBoxes ts bs (toCells vs),st.H⟩):∃st,k st/\Good C w0 own0 base W a₀ st a' w':=by
 unfold drawLeaf at hl
 split at hl
 case h_2=>exact hl.elim
 rename_i is his
 split at hl
 case h_2=>exact hl.elim
 rename_i xs hxs
 obtain⟨hown,hsub,hl⟩:=sameOwn_spec hl
 obtain⟨hfit,hp⟩:=fitP_spec hl
 obtain⟨h1,h2,h3,h4,h5⟩:=newPlaces_spec his hxs
 have hlen:(xs.map Bx.b).length=ts.length:=by simp[h4]
 rw[←hlen] at hk
 have hk':=K1.als_spec hfit (alN_spec hk) hp
 rw[h1] at hk'
 obtain⟨hpl,hpat⟩:=pick_spec hxs
 have hxm:∀x∈xs,∃i,st.own.length<=i/\st'.own[i]?=some x:=fun x hx=>by
  obtain⟨j,hj⟩:=List.mem_iff_getElem?.1 hx
  have hlt:j<is.length:=by rw[←hpl];exact(List.getElem?_eq_some_iff.1 hj).1
  obtain⟨y,g1,g2⟩:=hpat j _ (List.getElem?_eq_getElem hlt)
  rw[hj] at g2
  obtain rfl:=Option.some.inj g2
  exact⟨_,h3 _ (List.getElem_mem hlt),g1⟩
 have hmem:∀x∈st.own++xs,x∈st'.own:=fun x hx=>by
  rcases List.mem_append.1 hx with hx|hx
  ·rw[←hown] at hx;exact List.mem_of_mem_take hx
  ·obtain⟨i,_,hi⟩:=hxm x hx;exact List.mem_of_getElem? hi
 have hnd:((st.own++xs).map Bx.b).Nodup:=by
  rw[List.map_append,List.nodup_append]
  refine⟨hg.stw.boxes.apart,(pick_boxes hg'.stw.boxes h2 hxs).apart,fun b hb b' hb' e=> ?_⟩
  obtain⟨x,hx,rfl⟩:=List.mem_map.1 hb
  obtain⟨y,hy,rfl⟩:=List.mem_map.1 hb'
  obtain⟨j,hj1,hj2⟩:=hxm y hy
  obtain⟨i,hi⟩:=List.mem_iff_getElem?.1 hx
  have hi':=(List.getElem?_eq_some_iff.1 hi).1
  rw[←hown,List.getElem?_take] at hi
  rw[if_pos hi'] at hi
  have ha:=List.pairwise_iff_getElem.1 hg'.stw.boxes.apart i j (by rw[List.length_map];exact(List.getElem?_eq_some_iff.1 hi).1) (by rw[List.length_map];exact(List.getElem?_eq_some_iff.1 hj2).1) (by omega)
  rw[List.getElem_map,List.getElem_map,(List.getElem?_eq_some_iff.1 hi).2,(List.getElem?_eq_some_iff.1 hj2).2] at ha
  exact ha e
 have hext:OwnExt st.own (st.own++xs):=OwnExt.append _ _
 have hst:=hg'.stw.shorter hmem hnd
 refine⟨_,hk',⟨⟨hg'.env.size,hg'.env.defers,fun s sv hs=> ?_⟩,⟨fun b kb hb=>hg'.stw.sees b kb (hsub b kb hb),⟨hst.boxes.ok,fun x hx=> ?_,hst.boxes.apart⟩,hst.locs,hg'.stw.below,hg.stw.next,hg.stw.base,hg.stw.seen0⟩,⟨hg.rel.ext.trans hext,fun s hs=> ?_⟩⟩⟩
 ·rcases look_slotLocs hs with⟨j,t,hj,rfl⟩|hs
  ·obtain⟨i,x,g1,g2,g3⟩:=h5 j s t hj
   obtain⟨e1,e2,_⟩:=hg'.env.at_ s _ g1
   have hat:(st.own++xs)[st.own.length+j]?=some x:=by rw[List.getElem?_append_right (by omega)];simpa using g3
   refine⟨e1,?_,(List.getElem?_eq_some_iff.1 hat).1⟩
   rw[e2]
   simp[SV.val,boxNo,g2,hat]
  ·obtain⟨g1,g2⟩:=look_filter (p:=fun s=> !(writes ops).contains s) hs
   obtain⟨g3,g4,g5⟩:=hg.env.at_ s sv g1
   exact⟨g3,by rw[hg'.rel.keep s (by simpa using g2),g4,SV.val_ext hext g5],SV.wf_mono hext.len g5⟩
 ·have:=hst.boxes.hid x hx
  cases hb:st.H x.b with
  |none=>rfl
  |some kb=>rw[hsub _ _ hb] at this;cases this
 ·rw[hg'.rel.keep s (fun hm=> ?_),hg.rel.keep s hs]
  obtain⟨o,ho,ht⟩:=List.mem_filterMap.1 hm
  exact hs (hW o ho _ ht)
theorem chainOf_spec{x y:Code}{t:Tmp}(h:chainOf x y=some t):∃o∈codeOps x,o.dst=some t:=by
 unfold chainOf at h
 split at h
 ·split at h
  ·rename_i hb
   obtain rfl:=Option.some.inj h
   simp only[Bool.and_eq_true] at hb
   obtain⟨o,ho,hd⟩:=Array.any_eq_true'.1 hb.2
   exact⟨o,by simp[codeOps,ho],by simpa using hd⟩
  ·cases h
 ·cases h
theorem regionV_sound(hin:InlOk C.P C.muts){ops:Array Oper}{Q:Exit->Act->World->Prop}{base:List Bx}{W:List Nat}{a₀:Act}{k:St->Prop}(hQ:∀st a w,k st->Good C w0 own0 base W a₀ st a w->Q .normal a w)
  {st:St} {a:Act} {w:World} (hd:∀o∈ops.toList,∀t,o.dst=some t->t<C.nt/\t∈W) (hg:Good C w0 own0 base W a₀ st a w) (h:regionV C ops st k):wpList C.P ops Q ops.toList a w:=by
 unfold regionV at h
 split at h
 ·split at h
  ·rename_i t ht
   obtain⟨φ,hops,hk⟩:=h
   obtain⟨o,ho,hot⟩:=joins_spec ht
   refine opsV_sound (base:=st.own) (W:=writes ops.toList) (a₀:=a) hin (fun st' a' w' hl hg'=> ?_) _ _ _ _ (fun o ho t ht=>⟨(hd o ho t ht).1,writes_mem ho ht⟩) ⟨hg.env,hg.stw,⟨OwnExt.refl _,fun _ _=>rfl⟩⟩ hops
   obtain⟨hown,hsub,hl⟩:=sameOwn_spec hl
   refine hQ _ _ _ hk ⟨⟨hg'.env.size,hg'.env.defers,fun s sv hs=> ?_⟩,⟨fun b kb hb=>hg'.stw.sees b kb (hsub b kb hb),⟨fun x hx=>hg'.stw.boxes.ok x (hown▸hx),hg.stw.boxes.hid,hg.stw.boxes.apart⟩,hg.stw.locs,hg'.stw.below,hg.stw.next,hg.stw.base,hg.stw.seen0⟩,⟨hg.rel.ext,fun s hs=> ?_⟩⟩
   ·simp only[look] at hs
    split at hs
    ·rename_i e
     subst e
     obtain rfl:=Option.some.inj hs
     split at hl
     ·rename_i s' hs'
      obtain⟨_,h2,_⟩:=hg'.env.at_ _ _ hs'
      exact⟨(hd o ho _ hot).1,by rw[h2,leafV_spec hl];rfl,trivial⟩
     ·exact hl.elim
    ·obtain⟨h1,h2⟩:=look_filter (p:=fun s=> !(writes ops.toList).contains s) hs
     obtain⟨h3,h4,h5⟩:=hg.env.at_ s sv h1
     exact⟨h3,by rw[hg'.rel.keep s (by simpa using h2),h4],h5⟩
   ·rw[hg'.rel.keep s (fun hm=> ?_),hg.rel.keep s hs]
    obtain⟨o,ho,ht⟩:=List.mem_filterMap.1 hm
    exact hs (hd o ho _ ht).2
  ·exact opsV_sound hin hQ _ _ _ _ hd hg h
 ·exact opsV_sound hin hQ _ _ _ _ hd hg h
variable (hmix : C.P.follows .mixedOrders = true)
include hmix
theorem codeV_sound(hin:InlOk C.P C.muts):∀(c:Code)(ks:Ks)(base:List Bx)(W:List Nat)(a₀:Act)(st:St)(a:Act)(w:World),opsOk C.nt (codeOps c)=true->(∀o∈codeOps c,∀t,o.dst=some t->t∈W)->
  Good C w0 own0 base W a₀ st a w->codeV C c ks st->c.wp C.P (Qof C w0 own0 ks base W a₀) a w:=by
 intro c
 induction c with
 |skip=>intro ks base W a₀ st a w _ _ hg h;exact wp_skip ⟨st,h,hg⟩
 |label l=>intro ks base W a₀ st a w _ _ hg h;exact wp_label ⟨st,h,hg⟩
 |exit i=>intro ks base W a₀ st a w _ _ hg h;exact wp_exit ⟨st,h,hg⟩
 |ret=>intro ks base W a₀ st a w _ _ hg h;exact wp_ret ⟨st,h,hg⟩
 |goto l=>intro ks base W a₀ st a w _ _ hg h;exact h.elim
 |refuse s=>intro ks base W a₀ st a w _ _ hg h;exact h.elim
 |rangeFunc f ps x y=>intro ks base W a₀ st a w _ _ hg h;exact h.elim
 |seq x y ihx ihy=>
  intro ks base W a₀ st a w hok hW hg h
  simp only[codeOps,opsOk,List.all_append,Bool.and_eq_true] at hok
  have plain:codeV C x ⟨codeV C y ks,ks.x,ks.r⟩ st->(Code.seq x y).wp C.P (Qof C w0 own0 ks base W a₀) a w:=fun h=>by
   refine wp_seq (wp_mono (ihx _ base W a₀ st a w hok.1 (fun o ho=>hW o (by simp[codeOps,ho])) hg h) fun e a' w' hq=> ?_)
   cases e with
   |normal=>
    obtain⟨st',hk,hg'⟩:=hq
    exact ihy ks base W a₀ st' a' w' hok.2 (fun o ho=>hW o (by simp[codeOps,ho])) hg' hk
   |_=>exact hq
  simp only[codeV] at h
  split at h
  ·split at h
   ·exact plain h
   ·split at h
    ·exact plain h
    ·rename_i t ht
     obtain⟨Pd,hx,hy⟩:=h
     have hnt:∀o∈codeOps x,∀t,o.dst=some t->t<C.nt:=fun o ho=>(opsOk_spec (ops:=codeOps x) (by simpa[opsOk] using hok.1) ho).2
     refine wp_seq (wp_mono (ihx _ st.own (writes (codeOps x)) a st a w hok.1 (fun o ho t ht=>writes_mem ho ht) ⟨hg.env,hg.stw,⟨OwnExt.refl _,fun _ _=>rfl⟩⟩ hx) fun e a' w' hq=> ?_)
     cases e with
     |normal=>
      obtain⟨st',hl,hg'⟩:=hq
      obtain⟨hown,hsub,hl⟩:=sameOwn_spec hl
      split at hl
      case h_2=>exact hl.elim
      rename_i s' hs'
      obtain⟨hfit,hP⟩:=fitP_spec hl
      have hy':=K1.als_spec hfit hy hP
      obtain⟨g1,g2,_⟩:=hg'.env.at_ _ _ hs'
      refine ihy ks base W a₀ ⟨reslot [t] [s'.val st'.own] (dropSlots (codeOps x) st.env),st.own,st.H⟩ a' w' hok.2 (fun o ho=>hW o (by simp[codeOps,ho])) ⟨⟨hg'.env.size,hg'.env.defers,fun s sv hs=> ?_⟩,⟨fun b kb hb=>hg'.stw.sees b kb (hsub b kb hb),⟨fun x hx=>hg'.stw.boxes.ok x (hown▸hx),hg.stw.boxes.hid,hg.stw.boxes.apart⟩,hg.stw.locs,hg'.stw.below,hg.stw.next,hg.stw.base,hg.stw.seen0⟩,⟨hg.rel.ext,fun s hs=> ?_⟩⟩ hy'
      ·simp only[reslot,look] at hs
       split at hs
       ·rename_i e
        subst e
        obtain rfl:=Option.some.inj hs
        exact⟨g1,g2,trivial⟩
       ·obtain⟨h1,h2⟩:=look_filter (p:=fun s=> !(writes (codeOps x)).contains s) hs
        obtain⟨h3,h4,h5⟩:=hg.env.at_ s sv h1
        exact⟨h3,by rw[hg'.rel.keep s (by simpa using h2),h4],h5⟩
      ·rw[hg'.rel.keep s (fun hm=> ?_),hg.rel.keep s hs]
       obtain⟨o,ho,ht⟩:=List.mem_filterMap.1 hm
       exact hs (hW o (by simp[codeOps,ho]) _ ht)
     |exit i=>obtain⟨_,hf,_⟩:=hq;exact hf.elim
     |ret=>obtain⟨_,hf,_⟩:=hq;exact hf.elim
     |_=>exact hq
  ·split at h
   ·exact plain h
   ·rename_i t ht
    obtain⟨φ,hx,hy⟩:=h
    obtain⟨o,ho,hot⟩:=chainOf_spec ht
    have hnt:∀o∈codeOps x,∀t,o.dst=some t->t<C.nt:=fun o ho=>(opsOk_spec (ops:=codeOps x) (by simpa[opsOk] using hok.1) ho).2
    refine wp_seq (wp_mono (ihx _ st.own (writes (codeOps x)) a st a w hok.1 (fun o ho t ht=>writes_mem ho ht) ⟨hg.env,hg.stw,⟨OwnExt.refl _,fun _ _=>rfl⟩⟩ hx) fun e a' w' hq=> ?_)
    cases e with
    |normal=>
     obtain⟨st',hl,hg'⟩:=hq
     obtain⟨hown,hsub,hl⟩:=sameOwn_spec hl
     refine ihy ks base W a₀ ⟨(t,.p φ (Classical.propDecidable φ))::dropSlots (codeOps x) st.env,st.own,st.H⟩ a' w' hok.2 (fun o ho=>hW o (by simp[codeOps,ho])) ⟨⟨hg'.env.size,hg'.env.defers,fun s sv hs=> ?_⟩,⟨fun b kb hb=>hg'.stw.sees b kb (hsub b kb hb),⟨fun x hx=>hg'.stw.boxes.ok x (hown▸hx),hg.stw.boxes.hid,hg.stw.boxes.apart⟩,hg.stw.locs,hg'.stw.below,hg.stw.next,hg.stw.base,hg.stw.seen0⟩,⟨hg.rel.ext,fun s hs=> ?_⟩⟩ hy
     ·simp only[look] at hs
      split at hs
      ·rename_i e
       subst e
       obtain rfl:=Option.some.inj hs
       split at hl
       ·rename_i s' hs'
        obtain⟨_,h2,_⟩:=hg'.env.at_ _ _ hs'
        exact⟨hnt o ho _ hot,by rw[h2,leafV_spec hl];rfl,trivial⟩
       ·exact hl.elim
      ·obtain⟨h1,h2⟩:=look_filter (p:=fun s=> !(writes (codeOps x)).contains s) hs
       obtain⟨h3,h4,h5⟩:=hg.env.at_ s sv h1
       exact⟨h3,by rw[hg'.rel.keep s (by simpa using h2),h4],h5⟩
     ·rw[hg'.rel.keep s (fun hm=> ?_),hg.rel.keep s hs]
      obtain⟨o,ho,ht⟩:=List.mem_filterMap.1 hm
      exact hs (hW o (by simp[codeOps,ho]) _ ht)
    |exit i=>obtain⟨_,hf,_⟩:=hq;exact hf.elim
    |ret=>obtain⟨_,hf,_⟩:=hq;exact hf.elim
    |_=>exact hq
 |cond c x y ihx ihy=>
  intro ks base W a₀ st a w hok hW hg h
  simp only[codeOps,opsOk,List.all_append,Bool.and_eq_true] at hok
  have hx:=fun h=>ihx ks base W a₀ st a w hok.1 (fun o ho=>hW o (by simp[codeOps,ho])) hg h
  have hy:=fun h=>ihy ks base W a₀ st a w hok.2 (fun o ho=>hW o (by simp[codeOps,ho])) hg h
  simp only[codeV] at h
  split at h
  ·rename_i hs;exact wp_cond_true (get_sound hg.env hs).1 (hx h)
  ·rename_i hs;exact wp_cond_false (get_sound hg.env hs).1 (hy h)
  ·rename_i q d hs
   by_cases hq:q
   ·exact wp_cond_true (by rw[(get_sound hg.env hs).1];simp[SV.val,hq]) (hx (h.1 hq))
   ·exact wp_cond_false (by rw[(get_sound hg.env hs).1];simp[SV.val,hq]) (hy (h.2 hq))
  ·rename_i b hs
   cases b
   ·exact wp_cond_false (get_sound hg.env hs).1 (hy (h.2 rfl))
   ·exact wp_cond_true (get_sound hg.env hs).1 (hx (h.1 rfl))
  ·exact h.elim
 |block id x ih=>
  intro ks base W a₀ st a w hok hW hg h
  refine wp_block (wp_mono (ih _ base W a₀ st a w hok hW hg h) fun e a' w' hq=> ?_)
  cases e with
  |exit i=>
   obtain⟨st',hk,hg'⟩:=hq
   simp only[Exit.inBlock]
   simp only at hk
   split at hk
   ·rename_i e;rw[if_pos e];exact⟨st',hk,hg'⟩
   ·rename_i e;rw[if_neg e];exact⟨st',hk,hg'⟩
  |_=>exact hq
 |scope x ih=>
  intro ks base W a₀ st a w hok hW hg h
  refine wp_scope_straight (wp_mono (ih _ base W a₀ st a w hok hW hg h) fun e a' w' hq=> ?_)
  cases e with
  |goto l=>exact hq
  |_=>exact hq
 |region id ops draw=>
  intro ks base W a₀ st a w hok hW hg h
  simp only[codeV] at h
  simp only[codeOps] at hok hW
  split at h
  ·refine wp_region_any hmix (vAny_wpAny _ _ _ _ ?_)
   have hB:BelowX [] w { w with drawn:=w.drawn+1 } :=BelowX.drew [] w
   have hg':Good C w0 own0 base W a₀ st a { w with drawn:=w.drawn+1 } :=⟨hg.env,hg.stw.calledPlain hB (hg.stw.sees.below hB) (Next.refl _ _),hg.rel⟩
   split at h
   ·rename_i x r _ hr
    obtain⟨p,hd,hk⟩:=h
    exact drawV_sound (base:=st.own) (W:=writes ops.toList) (a₀:=a) hin (fun st' a' w' hl hg''=>drawCut_good (fun s t hm=>newSlots_mem (hr▸hm)) hg' hg'' hW hl hk) (fun _ _ _ h=>h) hok (fun o ho t ht=>writes_mem ho ht) _ _ _ _ _ ⟨hg'.env,hg'.stw,⟨OwnExt.refl _,fun _ _=>rfl⟩⟩ hd
   ·exact drawV_sound hin (fun st a w hk hg=>⟨st,hk,hg⟩) (fun _ _ _ h=>h) hok hW _ _ _ _ _ hg' h
  ·exact wp_region_list (regionV_sound hin (fun st a w hk hg=>⟨st,hk,hg⟩) (fun o ho t ht=>⟨(opsOk_spec hok ho).2 t ht,hW o ho t ht⟩) hg h)
 |loop x ih=>
  intro ks base W a₀ st a w hok hW hg h
  simp only[codeV] at h
  simp only[codeOps] at hok hW
  split at h
  case h_2=>exact h.elim
  rename_i vs0 xs hv0 hxs
  generalize hslots:genSlots C (codeOps x) st.env=slots at*
  generalize hboxes:modBoxes C (codeOps x) st.env=boxes at*
  obtain⟨hfit0,hloop⟩:=fitP_spec h
  clear h
  obtain⟨J,Pd,m0,hJ0,hround,hPd⟩:∃(J:Nat->List Value->Heap->Prop)(Pd:Nat->List Value->List Value->Heap->Prop)(m0:Nat),J m0 vs0 st.H/\
    (∀m vs,Fits (slots.map (slotK C (codeOps x))++boxKs C.P xs) vs->∀H',Next C.base C.H0 H'->J m vs H'->
     codeV C x ⟨fun st'=>(match headVals slots boxes st' with
        |some vs'=>fitP (slots.map (slotK C (codeOps x))++boxKs C.P xs) vs' (sameRest (restCs boxes st.own st.own.length) (restCs boxes st'.own st.own.length) (Pd m vs vs' st'.H))
        |none=>False),ks.x,ks.r⟩
       ⟨reslot slots (vs.take slots.length) (dropSlots (codeOps x) st.env),putBack st.own boxes (toCells (vs.drop slots.length)),H'⟩)/\
    ∀m vs H1 vs' H,J m vs H1->Pd m vs vs' H->∃m',m'<m/\J m' vs' H:=by
   split at hloop
   ·obtain⟨I,μ,hI0,hr⟩:=hloop
    exact⟨fun m vs H=>I vs H/\m=μ vs,fun _ vs vs' H=>I vs' H/\μ vs'<μ vs,μ vs0,⟨hI0,rfl⟩,fun m vs hf H' hN hJ=>K1.als_spec hf hr H' hN hJ.1,fun m vs H1 vs' H hJ hP=>⟨μ vs',by rw[hJ.2];exact hP.2,hP.1,rfl⟩⟩
   ·obtain⟨I,m0,hI0,hr⟩:=hloop
    exact⟨I,fun m _ vs' H=>∃m',m'<m/\I m' vs' H,m0,hI0,fun m vs hf H' hN hJ=>K1.als_spec hf (hr m) H' hN hJ,fun m vs H1 vs' H _ hP=>hP⟩
  have hsw:∀s∈slots,s∈writes (codeOps x)/\s<C.nt:=fun s hs=>by
   rw[←hslots] at hs
   have:=List.mem_filter.1 hs
   have h2:=this.2
   simp only[Bool.and_eq_true,List.contains_iff_mem] at h2
   exact⟨h2.2,List.mem_range.1 this.1⟩
  let headO:List Value->List Bx:=fun vs=>putBack st.own boxes (toCells (vs.drop slots.length))
  let headE:List Value->List (Nat×SV):=fun vs=>reslot slots (vs.take slots.length) (dropSlots (codeOps x) st.env)
  let LI:List Value×Nat->Act->World->Prop:=fun p a' w'=>∃H',Fits (slots.map (slotK C (codeOps x))++boxKs C.P xs) p.1/\J p.2 p.1 H'/\EnvOk C.nt (headE p.1) (headO p.1) a'/\StW C w0 own0 (headO p.1) H' w'/\
   ∀s:Nat,s∉writes (codeOps x)->a'.tmps.getD s undef=a.tmps.getD s undef
  have key:∀(st':St)(vs':List Value)(a':Act)(w':World),headVals slots boxes st'=some vs'->(restCs boxes st.own st.own.length=[]∨restCs boxes st'.own st.own.length=restCs boxes st.own st.own.length)->
    OwnExt st.own st'.own->EnvOk C.nt st'.env st'.own a'->StW C w0 own0 st'.own st'.H w'->(∀s:Nat,s∉writes (codeOps x)->a'.tmps.getD s undef=a.tmps.getD s undef)->EnvOk C.nt (headE vs') (headO vs') a'/\StW C w0 own0 (headO vs') st'.H w':=fun st' vs' a' w' hv hr he ha' hw' hkeep=>by
   obtain⟨hsv,hbv⟩:=headVals_spec hv
   have hown:headO vs'=st'.own.take st.own.length:=head_own he hbv hr
   have hext:OwnExt st.own (headO vs'):=putBack_ext _ _ _
   refine⟨⟨ha'.size,ha'.defers,fun s sv hs=> ?_⟩,?_⟩
   ·obtain⟨hl,hat⟩:=slotVals_spec hsv
    rcases look_reslot hl hs with⟨k,v,h1,h2,rfl⟩|hs
    ·obtain⟨sv,h3,h4⟩:=hat k s h1
     rw[h2] at h4
     obtain⟨_,h5,_⟩:=ha'.at_ s sv h3
     exact⟨(hsw s (List.mem_of_getElem? h1)).2,by rw[h5];exact(Option.some.inj h4).symm,trivial⟩
    ·obtain⟨h1,h2⟩:=look_filter (p:=fun s=> !(writes (codeOps x)).contains s) hs
     obtain⟨h3,h4,h5⟩:=hg.env.at_ s sv h1
     refine⟨h3,?_,SV.wf_mono hext.len h5⟩
     rw[hkeep s (by simpa using h2),h4,SV.val_ext hext h5]
   ·refine hw'.shorter (fun y hy=> ?_) ?_
    ·rw[hown] at hy;exact List.mem_of_mem_take hy
    ·show((headO vs').map Bx.b).Nodup
     rw[show(headO vs').map Bx.b=st.own.map Bx.b from putBack_b _ _ _]
     exact hg.stw.boxes.apart
  refine wp_loop_ghost LI (fun p=>p.2) (vs0,m0) ?_ fun pm a' w' hLI=> ?_
  ·obtain⟨h1,h2⟩:=key st vs0 a w hv0 (.inr rfl) (OwnExt.refl _) hg.env hg.stw (fun _ _=>rfl)
   exact⟨st.H,hfit0,hJ0,h1,h2,fun _ _=>rfl⟩
  ·obtain⟨vs,m⟩:=pm
   obtain⟨H',hfit,hI,henv,hstw,hkeep⟩:=hLI
   dsimp only at hfit hI henv hstw
   have hext:OwnExt st.own (headO vs):=putBack_ext _ _ _
   have hc:=hround m vs hfit H' hstw.next hI
   have hgood:Good C w0 own0 (headO vs) (writes (codeOps x)) a' ⟨headE vs,headO vs,H'⟩ a' w':=⟨henv,hstw,⟨OwnExt.refl _,fun _ _=>rfl⟩⟩
   have hsub:∀ {s:Nat},s∉W->s∉writes (codeOps x):=fun hs hm=>by
    obtain⟨o,ho,ht⟩:=List.mem_filterMap.1 hm
    exact hs (hW o ho _ ht)
   refine wp_mono (ih _ (headO vs) (writes (codeOps x)) a' _ a' w' hok (fun o ho t ht=>writes_mem ho ht) hgood hc) fun e a'' w'' hq=> ?_
   have out:∀st',Good C w0 own0 (headO vs) (writes (codeOps x)) a' st' a'' w''->Good C w0 own0 base W a₀ st' a'' w'':=fun st' hg'=>
    ⟨hg'.env,hg'.stw,⟨hg.rel.ext.trans (hext.trans hg'.rel.ext),fun s hs=>by rw[hg'.rel.keep s (hsub hs),hkeep s (hsub hs),hg.rel.keep s hs]⟩⟩
   cases e with
   |normal=>
    obtain⟨st',hk,hg'⟩:=hq
    simp only at hk
    split at hk
    case h_2=>exact hk.elim
    rename_i vs' hv'
    obtain⟨hfit',hk⟩:=fitP_spec hk
    obtain⟨hr,hPP⟩:=sameRest_spec hk
    obtain⟨m',hlt,hI'⟩:=hPd m vs H' vs' st'.H hI hPP
    have hkeep':∀s:Nat,s∉writes (codeOps x)->a''.tmps.getD s undef=a.tmps.getD s undef:=fun s hs=>by rw[hg'.rel.keep s hs,hkeep s hs]
    obtain⟨h1,h2⟩:=key st' vs' a'' w'' hv' hr (hext.trans hg'.rel.ext) hg'.env hg'.stw hkeep'
    exact⟨(vs',m'),⟨st'.H,hfit',hI',h1,h2,hkeep'⟩,hlt⟩
   |exit i=>obtain⟨st',hk,hg'⟩:=hq;exact⟨st',hk,out st' hg'⟩
   |ret=>obtain⟨st',hk,hg'⟩:=hq;exact⟨st',hk,out st' hg'⟩
   |_=>exact hq
end
open Go Go.RowKit
section
variable {C : Cfg} {w0 : World} {own0 : List Nat}
def resOne(tmps:Array Value):ResultVar->Sem Value
 | .tmp t=>pure (tmps.getD t undef)
 | .cell a t=>do loadVar t (←asAddr (tmps.getD a undef))
theorem run_resOne_tmp{P:Program}{tmps:Array Value}{t:Nat}{v:Value}(h:tmps.getD t undef=v)(w:World):(resOne tmps (.tmp t)).run P w= .ok v w:=by
 simp only[resOne,h,Sem.run_pure]
theorem run_resOne_cell{P:Program}{tmps:Array Value}{x:Nat}{t:TypeId}{ad:Addr}{v:Value}{w:World}(h:tmps.getD x undef= .pointer (some ad))(hr:(loadVar t ad).run P w= .ok v w):(resOne tmps (.cell x t)).run P w= .ok v w:=by
 simp only[resOne,h,asAddr,Sem.run_bind,Sem.run_pure,Result.andThen_ok,hr]
theorem run_mapM_cons{P:Program}{f:ResultVar->Sem Value}{r:ResultVar}{rs:List ResultVar}{v:Value}{vs:List Value}{w:World}(h1:(f r).run P w= .ok v w)(h2:(rs.mapM f).run P w= .ok vs w):((r::rs).mapM f).run P w= .ok (v::vs) w:=by
 simp only[List.mapM_cons,Sem.run_bind,h1,h2,Result.andThen_ok,Sem.run_pure]
theorem resV_sound{st:St}{a:Act}{w:World}(ha:EnvOk C.nt st.env st.own a)(hb:BoxesOk st.own st.H w):∀ {rs:List ResultVar} {f:List Value->Prop},resV C st rs f->
  ∃vs,f vs/\(rs.mapM (resOne a.tmps)).run C.P w= .ok vs w
 | [],f,h=>⟨[],h,by simp⟩
 | .tmp t::r,f,h=>by
  simp only[resV] at h
  split at h
  ·rename_i s hs
   obtain⟨vs,hf,hr⟩:=resV_sound ha hb h
   obtain⟨_,h2,_⟩:=ha.at_ t s hs
   exact⟨_,hf,run_mapM_cons (run_resOne_tmp h2 w) hr⟩
  ·exact h.elim
 | .cell x t::r,f,h=>by
  simp only[resV] at h
  split at h
  ·rename_i i hs
   obtain⟨_,h2,_⟩:=ha.at_ x _ hs
   split at h
   ·rename_i b ty cs hx
    have e:boxNo st.own i=b:=box_no hx
    have hv:a.tmps.getD x undef= .pointer (some ⟨b,0,none⟩):=by rw[h2];simp[SV.val,e]
    split at h
    ·rename_i d lk hu hk
     split at h
     ·rename_i v
      obtain⟨vs,hf,ih⟩:=resV_sound ha hb h
      exact⟨_,hf,run_mapM_cons (run_resOne_cell hv (run_loadVar_one hk (by simp[hu]) (box_cell hb hx (by simp)).2)) ih⟩
     ·exact h.elim
    ·rename_i d n hu hk
     obtain⟨hlen,h⟩:=h
     obtain⟨vs,hf,ih⟩:=resV_sound ha hb h
     exact⟨_,hf,run_mapM_cons (run_resOne_cell hv (run_loadVar_agg (fun lk hk'=>by rw[hk] at hk';cases hk') hlen (info_of_underlying (by simp[hu])) (fun j v hj=>by simpa using(box_cell hb hx hj).2))) ih⟩
    ·rename_i d hu hk1 hk2
     split at h
     ·rename_i hlen
      obtain⟨vs,hf,ih⟩:=resV_sound ha hb h
      exact⟨_,hf,run_mapM_cons (run_resOne_cell hv (run_loadVar_agg (fun lk hk'=>hk1 lk hk') hlen (info_of_underlying (by simp[hu])) (fun j v hj=>by simpa using(box_cell hb hx hj).2))) ih⟩
     ·exact h.elim
    ·exact h.elim
   ·exact h.elim
  ·exact h.elim
theorem run_results{P:Program}{fn:Func}{tmps:Array Value}{vs:List Value}{w:World}(h:(fn.results.toList.mapM (resOne tmps)).run P w= .ok vs w):
  (results fn tmps).run P w= .ok (if h:vs.length=1 then vs[0] else .tuple vs.toArray) w:=by
 have e:results fn tmps=(do let vs ←fn.results.mapM (resOne tmps);pure (if h:vs.size=1 then vs[0] else .tuple vs)):=by
  unfold results
  congr 1
 rw[e,Array.mapM_eq_mapM_toList,map_eq_pure_bind]
 simp[h]
theorem look_zipFrom:∀ {args:List SV} {i s:Nat} {sv:SV},look s (zipFrom i args)=some sv->∃k:Nat,s=i+k/\args[k]?=some sv
 | [],i,s,sv,h=>by simp[zipFrom,look] at h
 |x::r,i,s,sv,h=>by
  simp only[zipFrom,look] at h
  split at h
  ·rename_i e
   subst e
   exact⟨0,rfl,h⟩
  ·obtain⟨k,h1,h2⟩:=look_zipFrom h
   exact⟨k+1,by omega,h2⟩
theorem setAll_take{own own':List Bx}(he:OwnExt own own'):setAll own ((own'.take own.length).map Bx.cs)=own'.take own.length:=by
 induction own generalizing own' with
 |nil=>simp[setAll]
 |cons x r ih=>
  obtain⟨y,hy,h1,h2,h3⟩:=he.same 0 x rfl
  cases own' with
  |nil=>simp at hy
  |cons z r'=>
   simp at hy
   subst hy
   simp only[List.length_cons,List.take_succ_cons,List.map_cons,setAll]
   rw[Bx_eq h1 h2 h3,ih]
   exact⟨by have:=he.len;simpa using this,fun i u hu=>by simpa using he.same (i+1) u (by simpa using hu)⟩
end
theorem specO_of{P:Program}{f:FuncId}{fn:Func}{c:Code}{nt:Nat}{muts:Muts}(hin:InlOk P muts)(hf:P.funcs[f]?=some fn)(hb:fn.body=some c)(hnt:fn.ntmps=nt)
  (hmix:P.follows .mixedOrders=true) (hok:opsOk nt (codeOps c)=true)
  {own:List Bx} {args:List SV} (hargs:args.length<=nt) (hwf:∀s∈args,s.wf own.length) {H:Heap} {Q:Value->List (List Value)->Heap->Prop}
  (h:∀base,(∀b k,H b=some k->b<base)->(∀x∈own,x.b<base)->funV ⟨P,nt,muts,base,H⟩ c fn.results.toList args own Q):SpecO P f (args.map (SV.val own)) own H Q:=by
 intro w hs hbx
 refine calls_of_wp hf hb ?_
 let C:Cfg:=⟨P,nt,muts,w.heap.size,H⟩
 have hV:=h w.heap.size (fun b k hk=>hs.lt hk) (fun x hx=>Bx.ok_lt (hbx.ok x hx))
 have hsz:(args.map (SV.val own)).toArray.size=args.length:=by simp
 have henv:EnvOk C.nt (zipFrom 0 args) own { tmps:=(args.map (SV.val own)).toArray++Array.replicate (fn.ntmps-(args.map (SV.val own)).toArray.size) undef,defers:=[] } :=by
  refine⟨by simp[C,hnt];omega,rfl,fun s sv hs=> ?_⟩
  obtain⟨k,rfl,hk⟩:=look_zipFrom hs
  have hlt:=idx_lt hk
  refine⟨by show 0+k<nt;omega,?_,hwf sv (List.mem_of_getElem? hk)⟩
  rw[Array.getD_eq_getD_getElem?,Array.getElem?_append_left (by simpa using hlt)]
  simp[hk]
 have hstw:StW C w (own.map Bx.b) own H w:=⟨hs,hbx,fun x hx=> .inr (List.mem_map_of_mem hx),BelowX.refl _ _,Next.refl _ _,rfl,hs⟩
 refine wp_mono (codeV_sound (C:=C) (w0:=w) (own0:=own.map Bx.b) hmix hin c _ own (writes (codeOps c)) _ ⟨zipFrom 0 args,own,H⟩ _ w hok (fun o ho t ht=>writes_mem ho ht) ⟨henv,hstw,⟨OwnExt.refl _,fun _ _=>rfl⟩⟩ hV) fun e a' w' hq=> ?_
 have key:∀st,retV C fn.results.toList own.length Q st->Good C w (own.map Bx.b) own (writes (codeOps c)) { tmps:=(args.map (SV.val own)).toArray++Array.replicate (fn.ntmps-(args.map (SV.val own)).toArray.size) undef,defers:=[] } st a' w'->
   a'.defers=[]/\∃v,(results fn a'.tmps).run P w'= .ok v w'/\∃v' css H',Ending.returned v= .returned v'/\css.length=own.length/\BelowX (own.map Bx.b) w w'/\
    Sees H' w'/\BoxesOk (setAll own css) H' w'/\Next w.heap.size H H'/\Q v' css H':=fun st hr hg=>by
  refine⟨hg.env.defers,?_⟩
  have hext:=hg.rel.ext
  have post:∀v,Q v ((st.own.take own.length).map Bx.cs) st.H->∃v' css H',Ending.returned v= .returned v'/\css.length=own.length/\BelowX (own.map Bx.b) w w'/\
    Sees H' w'/\BoxesOk (setAll own css) H' w'/\Next w.heap.size H H'/\Q v' css H':=fun v hQ=>by
   refine⟨v,_,st.H,rfl,?_,hg.stw.below,hg.stw.sees,?_,hg.stw.next,hQ⟩
   ·simp;have:=hext.len;omega
   ·rw[setAll_take hext]
    refine⟨fun x hx=>hg.stw.boxes.ok x (List.mem_of_mem_take hx),fun x hx=>hg.stw.boxes.hid x (List.mem_of_mem_take hx),?_⟩
    rw[List.map_take]
    exact hg.stw.boxes.apart.sublist (List.take_sublist _ _)
  obtain⟨vs,hf,hrun⟩:=resV_sound hg.env hg.stw.boxes hr
  have hres:=run_results (fn:=fn) hrun
  split at hf
  ·rename_i v
   exact⟨v,by simpa using hres,post v hf⟩
  ·rename_i hne
   refine⟨.tuple vs.toArray,?_,post _ hf⟩
   rw[dif_neg (fun hl=> ?_)] at hres
   ·exact hres
   ·obtain⟨x,hx⟩:=List.length_eq_one_iff.1 hl
    exact hne x hx
 cases e with
 |normal=>obtain⟨st,hr,hg⟩:=hq;exact key st hr hg
 |ret=>obtain⟨st,hr,hg⟩:=hq;exact key st hr hg
 |exit i=>obtain⟨st,hr,hg⟩:=hq;exact hr.elim
 |_=>exact hq.elim
theorem spec_of{P:Program}{f:FuncId}{fn:Func}{c:Code}{nt:Nat}{muts:Muts}(hin:InlOk P muts)(hf:P.funcs[f]?=some fn)(hb:fn.body=some c)(hnt:fn.ntmps=nt)
  (hmix:P.follows .mixedOrders=true) (hok:opsOk nt (codeOps c)=true)
  {args:List Value} (hargs:args.length<=nt) {H:Heap} {Q:Value->Heap->Prop}
  (h:∀base,(∀b k,H b=some k->b<base)->funV ⟨P,nt,muts,base,H⟩ c fn.results.toList (args.map SV.v) [] (fun v _ H'=>Q v H')):Spec P f args H Q:=by
 have:=specO_of (own:=[]) (args:=args.map SV.v) hin hf hb hnt hmix hok (by simpa using hargs) (fun s hs=>by obtain⟨v,_,rfl⟩:=List.mem_map.1 hs;trivial) (fun base hb _=>h base hb)
 simpa[Spec,Function.comp_def,SV.val] using this
open Go Go.RowKit
theorem inl0_ok(P:Program)(list:List FuncId)(j:Bool):InlOk P ⟨list,inl0,j⟩:=fun _ _ _ _ _ _ _ _ h=>by cases h
theorem lookFn_mem{g:FuncId}{fn:Func} :∀ {fs:List (FuncId×Func)},lookFn g fs=some fn->(g,fn)∈fs
 | [],h=>by cases h
 |(k,f)::r,h=>by
  simp only[lookFn] at h
  split at h
  ·rename_i e
   subst e
   obtain rfl:=Option.some.inj h
   exact List.mem_cons_self
  ·exact List.mem_cons_of_mem _ (lookFn_mem h)
theorem inl_ok{P:Program}{list:List FuncId}{fs:List (FuncId×Func)}{prev:InlFn}{j:Bool}(hprev:InlOk P ⟨list,prev,true⟩)(hmix:P.follows .mixedOrders=true)
  (hfs:∀p∈fs,P.funcs[p.1]?=some p.2/\p.2.body=some (p.2.body.getD .skip)/\opsOk p.2.ntmps (codeOps (p.2.body.getD .skip))=true/\list.contains p.1=true):InlOk P ⟨list,inlOf P list fs prev,j⟩:=by
 intro base H0 g pre own H f p hp
 simp only[inlOf] at hp
 split at hp
 ·cases hp
 ·rename_i fn hl
  split at hp
  ·rename_i hlen
   obtain rfl:=Option.some.inj hp
   obtain⟨hf,hb,hok,hc⟩:=hfs _ (lookFn_mem hl)
   refine⟨hc,fun h C w0 own0 w hbase hH0 hw hwf=> ?_⟩
   subst hbase hH0
   refine calls_of_wp hf hb ?_
   let C':Cfg:=⟨P,fn.ntmps,⟨list,prev,true⟩,C.base,C.H0⟩
   have hstw:StW C' w0 own0 own H w:=⟨hw.sees,hw.boxes,hw.locs,hw.below,hw.next,hw.base,hw.seen0⟩
   have henv:EnvOk C'.nt (zipFrom 0 pre) own { tmps:=(pre.map (SV.val own)).toArray++Array.replicate (fn.ntmps-(pre.map (SV.val own)).toArray.size) undef,defers:=[] } :=by
    refine⟨by simp[C'];omega,rfl,fun s sv hs=> ?_⟩
    obtain⟨k,rfl,hk⟩:=look_zipFrom hs
    have hlt:=idx_lt hk
    refine⟨by show 0+k<fn.ntmps;omega,?_,hwf sv (List.mem_of_getElem? hk)⟩
    rw[Array.getD_eq_getD_getElem?,Array.getElem?_append_left (by simpa using hlt)]
    simp[hk]
   refine wp_mono (codeV_sound (C:=C') (w0:=w0) (own0:=own0) hmix hprev _ _ own (writes (codeOps (fn.body.getD .skip))) _ ⟨zipFrom 0 pre,own,H⟩ _ w hok (fun o ho t ht=>writes_mem ho ht) ⟨henv,hstw,⟨OwnExt.refl _,fun _ _=>rfl⟩⟩ h) fun e a' w' hq=> ?_
   have key:∀st,retI C' fn.results.toList f st->Good C' w0 own0 own (writes (codeOps (fn.body.getD .skip))) { tmps:=(pre.map (SV.val own)).toArray++Array.replicate (fn.ntmps-(pre.map (SV.val own)).toArray.size) undef,defers:=[] } st a' w'->
     a'.defers=[]/\∃v,(results fn a'.tmps).run P w'= .ok v w'/\∃v' own' H',Ending.returned v= .returned v'/\f (.v v') own' H'/\OwnExt own own'/\StW C w0 own0 own' H' w':=fun st hr hg=>by
    refine⟨hg.env.defers,?_⟩
    have hs':StW C w0 own0 st.own st.H w':=⟨hg.stw.sees,hg.stw.boxes,hg.stw.locs,hg.stw.below,hg.stw.next,hg.stw.base,hg.stw.seen0⟩
    obtain⟨vs,hf,hrun⟩:=resV_sound hg.env hg.stw.boxes hr
    have hres:=run_results (fn:=fn) hrun
    split at hf
    ·rename_i v
     exact⟨v,by simpa using hres,v,st.own,st.H,rfl,hf,hg.rel.ext,hs'⟩
    ·rename_i hne
     refine⟨.tuple vs.toArray,?_,_,st.own,st.H,rfl,hf,hg.rel.ext,hs'⟩
     rw[dif_neg (fun hl=> ?_)] at hres
     ·exact hres
     ·obtain⟨x,hx⟩:=List.length_eq_one_iff.1 hl
      exact hne x hx
   cases e with
   |normal=>obtain⟨st,hr,hg⟩:=hq;exact key st hr hg
   |ret=>obtain⟨st,hr,hg⟩:=hq;exact key st hr hg
   |exit i=>obtain⟨st,hr,hg⟩:=hq;exact hr.elim
   |_=>exact hq.elim
  ·cases hp
end Go.Vg
