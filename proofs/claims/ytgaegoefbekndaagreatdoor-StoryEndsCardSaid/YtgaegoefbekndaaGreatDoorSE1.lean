/- What is proved here: a part of the proof of laws of this seat: what a contract is, how it comes of a condition, contracts of the functions that are reached, the plain laws. -/
import Derived.Test.YtgaegoefbekndaaGreatDoorSE0
import Derived.Great.BuildSlice
import Derived.Laws.IdiomStrings
import Derived.Maps.AppendAt
import Derived.Lib.AppendZerosOnto
set_option linter.unusedSimpArgs false
set_option linter.unusedVariables false
set_option maxRecDepth 100000
namespace Go.Vg
open Go
section
variable {C : Cfg}
theorem map_add_zero(a:O):a.map (fun x=>x.add 0)=a:=by cases a<;>simp[Addr.add]
theorem run_sliceBound{P:Program}{w:World}{k:IntKind}{i:Int}{y:Nat}{c:BoundsCode}(h0:0<=i)(h1:i<=y):(Instr.sliceBound (.int k i) y c).run P w= .ok i.toNat w:=by
 simp[Instr.sliceBound,asIntOf,h0,h1]
theorem numeral_zero{o:Operand}(h:numeral o=some 0):∃k,o= .const (.int k 0):=by
 unfold numeral at h
 split at h
 ·rename_i k m
  obtain rfl:=Option.some.inj h
  exact⟨k,rfl⟩
 ·cases h
theorem sliceV_sound(t:TypeId)(st:St)(x:Operand)(lo hi mx:Option Operand)(f:SV->Prop)(h:sliceV C t st x lo hi mx f):
  ∃r,f r/\∀a:Act,EnvOk C.nt st.env st.own a->Gives C.P st.own (Instr.sliceAt t (a.eval x) (lo.map a.eval) (hi.map a.eval) (mx.map a.eval)) r:=by
 unfold sliceV at h
 split at h
 ·rename_i e sl n c hu hx
  obtain⟨hie,h⟩:=sized_spec h
  split at h
  ·refine⟨_,h,fun a ha=>⟨trivial,fun w=> ?_⟩⟩
   rw[(get_sound ha hx).1]
   simp[SV.val,Instr.sliceAt,Instr.slice,run_underlying hu,Instr.sliceBounds,run_sizeOf' hie,map_add_zero]
  ·rename_i ho
   split at h
   ·rename_i k hv hho
    obtain⟨h0,h1,hf⟩:=h
    refine⟨_,hf,fun a ha=>⟨trivial,fun w=> ?_⟩⟩
    rw[(get_sound ha hx).1]
    simp[SV.val,Instr.sliceAt,Instr.slice,run_underlying hu,Instr.sliceBounds,run_sizeOf' hie,map_add_zero,(get_sound ha hho).1,run_sliceBound h0 h1]
   ·exact h.elim
  ·rename_i l
   split at h
   ·rename_i k lv hl
    obtain⟨h0,h1,h2,hf⟩:=h
    by_cases e1:lv<c
    ·have e2:¬c=lv.toNat:=by omega
     refine⟨_,hf _ (fun _=>rfl),fun a ha=>⟨trivial,fun w=> ?_⟩⟩
     rw[(get_sound ha hx).1]
     simp[SV.val,Instr.sliceAt,Instr.slice,run_underlying hu,Instr.sliceBounds,run_sizeOf' hie,(get_sound ha hl).1,run_sliceBound h0 h1,e2]
    ·have e2:c=lv.toNat:=by omega
     refine⟨_,hf sl (fun h=>absurd h e1),fun a ha=>⟨trivial,fun w=> ?_⟩⟩
     rw[(get_sound ha hx).1]
     simp[SV.val,Instr.sliceAt,Instr.slice,run_underlying hu,Instr.sliceBounds,run_sizeOf' hie,(get_sound ha hl).1,run_sliceBound h0 h1,e2]
   ·exact h.elim
  ·rename_i l ho
   split at h
   ·rename_i k lv k' hv hl hho
    obtain⟨h0,h1,h2,hf⟩:=h
    have h3:0<=hv:=by omega
    have h4:lv<=(hv.toNat:Int):=by omega
    by_cases e1:lv<c
    ·have e2:¬c=lv.toNat:=by omega
     refine⟨_,hf _ (fun _=>rfl),fun a ha=>⟨trivial,fun w=> ?_⟩⟩
     rw[(get_sound ha hx).1]
     simp[SV.val,Instr.sliceAt,Instr.slice,run_underlying hu,Instr.sliceBounds,run_sizeOf' hie,(get_sound ha hl).1,(get_sound ha hho).1,run_sliceBound h3 h2,run_sliceBound h0 h4,e2]
    ·have e2:hv.toNat=c:=by omega
     have e3:lv.toNat=c:=by omega
     refine⟨_,hf sl (fun h=>absurd h e1),fun a ha=>⟨trivial,fun w=> ?_⟩⟩
     rw[(get_sound ha hx).1]
     simp[SV.val,Instr.sliceAt,Instr.slice,run_underlying hu,Instr.sliceBounds,run_sizeOf' hie,(get_sound ha hl).1,(get_sound ha hho).1,run_sliceBound h3 h2,e2,e3,run_sliceBound (y:=c) h0 (by omega)]
   ·exact h.elim
 ·rename_i e sl n c mo hu hx
  obtain⟨hie,h⟩:=sized_spec h
  split at h
  ·rename_i ho
   split at h
   ·rename_i h1 h2
    refine⟨_,h,fun a ha=>⟨trivial,fun w=> ?_⟩⟩
    obtain⟨k1,rfl⟩:=numeral_zero h1
    obtain⟨k2,rfl⟩:=numeral_zero h2
    rw[(get_sound ha hx).1]
    have e1:=run_sliceBound (P:=C.P) (w:=w) (k:=k2) (i:=0) (y:=c) (c:= .slice3Acap) (by omega) (by omega)
    simp[SV.val,Act.eval,Instr.sliceAt,Instr.slice,run_underlying hu,Instr.sliceBounds,run_sizeOf' hie,map_add_zero,Instr.sliceBound,asIntOf]
   ·exact h.elim
  ·rename_i l ho
   split at h
   ·rename_i k lv k' hv k'' mv hl hho hmo
    obtain⟨h0,h1,h2,h2',hf⟩:=h
    have h3:0<=hv:=by omega
    have h3':0<=mv:=by omega
    have h4:lv<=(hv.toNat:Int):=by omega
    have h5:hv<=(mv.toNat:Int):=by omega
    by_cases e1:lv<mv
    ·have e2:¬mv.toNat=lv.toNat:=by omega
     refine⟨_,hf _ (fun _=>rfl),fun a ha=>⟨trivial,fun w=> ?_⟩⟩
     rw[(get_sound ha hx).1]
     simp[SV.val,Instr.sliceAt,Instr.slice,run_underlying hu,Instr.sliceBounds,run_sizeOf' hie,(get_sound ha hl).1,(get_sound ha hho).1,(get_sound ha hmo).1,run_sliceBound h3' h2',run_sliceBound h3 h5,run_sliceBound h0 h4,e2]
    ·have e2:mv.toNat=lv.toNat:=by omega
     have e3:hv.toNat=lv.toNat:=by omega
     refine⟨_,hf sl (fun h=>absurd h e1),fun a ha=>⟨trivial,fun w=> ?_⟩⟩
     rw[(get_sound ha hx).1]
     simp[SV.val,Instr.sliceAt,Instr.slice,run_underlying hu,Instr.sliceBounds,run_sizeOf' hie,(get_sound ha hl).1,(get_sound ha hho).1,(get_sound ha hmo).1,run_sliceBound h3' h2',run_sliceBound (y:=lv.toNat) h3 (by omega),run_sliceBound (y:=lv.toNat) h0 (by omega),e2,e3]
   ·exact h.elim
  ·exact h.elim
 ·rename_i s hu hx
  split at h
  ·refine⟨_,h,fun a ha=>⟨trivial,fun w=> ?_⟩⟩
   rw[(get_sound ha hx).1]
   simp[SV.val,Instr.sliceAt,Instr.slice,run_underlying hu,Instr.sliceBounds]
  ·rename_i ho
   split at h
   ·rename_i k hv hho
    obtain⟨h0,h1,hf⟩:=h
    refine⟨_,hf,fun a ha=>⟨trivial,fun w=> ?_⟩⟩
    rw[(get_sound ha hx).1]
    simp[SV.val,Instr.sliceAt,Instr.slice,run_underlying hu,Instr.sliceBounds,(get_sound ha hho).1,run_sliceBound h0 h1]
   ·exact h.elim
  ·rename_i l
   split at h
   ·rename_i k lv hl
    obtain⟨h0,h1,hf⟩:=h
    refine⟨_,hf,fun a ha=>⟨trivial,fun w=> ?_⟩⟩
    rw[(get_sound ha hx).1]
    simp[SV.val,Instr.sliceAt,Instr.slice,run_underlying hu,Instr.sliceBounds,(get_sound ha hl).1,run_sliceBound h0 h1]
   ·exact h.elim
  ·rename_i l ho
   split at h
   ·rename_i k lv k' hv hl hho
    obtain⟨h0,h1,h2,hf⟩:=h
    have h3:0<=hv:=by omega
    have h4:lv<=(hv.toNat:Int):=by omega
    refine⟨_,hf,fun a ha=>⟨trivial,fun w=> ?_⟩⟩
    rw[(get_sound ha hx).1]
    simp[SV.val,Instr.sliceAt,Instr.slice,run_underlying hu,Instr.sliceBounds,(get_sound ha hl).1,(get_sound ha hho).1,run_sliceBound h3 h2,run_sliceBound h0 h4]
   ·exact h.elim
 ·exact h.elim

theorem capsOf_sound{nt:Nat}{st:St}{a:Act}(h:EnvOk nt st.env st.own a):∀ {xs:List Operand} {l:List Nat},capsOf st xs=some l->
  xs.map a.eval=l.map (fun i=>Value.pointer (some ⟨boxNo st.own i,0,none⟩))/\∀i∈l,i<st.own.length
 | [],l,hl=>by simp[capsOf] at hl;subst hl;simp
 |x::r,l,hl=>by
  simp only[capsOf] at hl
  split at hl
  ·rename_i i l' hi hl'
   obtain rfl:=Option.some.inj hl
   obtain⟨h1,h2⟩:=capsOf_sound h hl'
   obtain⟨h3,h4⟩:=get_sound h hi
   refine⟨by simp[h1,h3,SV.val],?_⟩
   intro j hj
   rcases List.mem_cons.1 hj with rfl|hj
   ·exact h4
   ·exact h2 j hj
  ·cases hl
theorem capVals_sound{nt:Nat}{st:St}{a:Act}(h:EnvOk nt st.env st.own a):∀ {xs:List Operand} {l:List Value},capVals st xs=some l->xs.map a.eval=l
 | [],l,hl=>by simp[capVals] at hl;subst hl;rfl
 |x::r,l,hl=>by
  simp only[capVals] at hl
  split at hl
  ·rename_i v l' hi hl'
   obtain rfl:=Option.some.inj hl
   simp[capVals_sound h hl',(get_sound h hi).1,SV.val]
  ·cases hl
theorem makeFuncV_sound(fn:Fn)(first caps:Array Operand)(st:St)(f:SV->Prop)(h:makeFuncV fn first.toList caps.toList st f):
  ∃r,f r/\∀a:Act,EnvOk C.nt st.env st.own a->Gives C.P st.own (Instr.makeFunc fn (first.map a.eval) (caps.map a.eval)) r:=by
 unfold makeFuncV at h
 split at h
 ·rename_i l hf hl
  have e1:first= #[]:=Array.toList_eq_nil_iff.1 hf
  subst e1
  refine⟨_,h,fun a ha=> ?_⟩
  obtain⟨h1,h2⟩:=capsOf_sound ha hl
  refine⟨h2,fun w=> ?_⟩
  have e2:caps.map a.eval=(l.map (fun i=>Value.pointer (some ⟨boxNo st.own i,0,none⟩))).toArray:=by
   apply Array.ext';simpa using h1
  simp[Instr.makeFunc,e2,SV.val]
 ·rename_i hf hl
  have e1:first= #[]:=Array.toList_eq_nil_iff.1 hf
  subst e1
  split at h
  ·rename_i vs hvs
   refine⟨_,h,fun a ha=>⟨trivial,fun w=> ?_⟩⟩
   have e2:caps.map a.eval=vs.toArray:=by apply Array.ext';simpa using capVals_sound ha hvs
   simp[Instr.makeFunc,e2,SV.val]
  ·exact h.elim
 ·exact h.elim

theorem run_getObj_map{P:Program}{w:World}{r:Nat}{es:Array MapEntry}{c:Nat}(h:w.heap[r]?=some (.map es c)):(getObj r).run P w= .ok (.map es c) w:=by
 simp[getObj,Sem.run,h]
theorem keyFits_shape{kt:TypeId}{key:SV}{own:List Bx}(h:keyFits C kt key=true):
  (∃d k a,C.P.underlying kt=some (.int d)/\key.val own= .int k a)∨(∃b,C.P.underlying kt=some .bool/\key.val own= .bool b):=by
 unfold keyFits at h
 split at h
 ·rename_i d k a hu;exact .inl ⟨d,k,a,hu,rfl⟩
 ·rename_i b hu;exact .inr ⟨b,hu,rfl⟩
 ·rename_i q d hu;exact .inr ⟨_,hu,rfl⟩
 ·rename_i hu;exact .inr ⟨true,hu,rfl⟩
 ·rename_i hu;exact .inr ⟨false,hu,rfl⟩
 ·cases h
theorem sameNow_of{d:TypeDesc}{key k:Value}{t:Bool}(hs:keySame key k=some t)
  (hd:(∃i j a,d= .int i/\key= .int j a)∨(∃b,d= .bool/\key= .bool b)):Instr.sameNow d key k=some t:=by
 rcases hd with⟨i,j,a,rfl,rfl⟩|⟨b,rfl,rfl⟩
 ·cases k<;>simp[keySame] at hs
  rename_i j' a'
  obtain⟨rfl,rfl⟩:=hs
  simp[Instr.sameNow,beq_dec]
 ·cases k<;>simp[keySame] at hs
  subst hs
  rfl
theorem findNow_of{d:TypeDesc}{z key:Value}(hd:(∃i j a,d= .int i/\key= .int j a)∨(∃b,d= .bool/\key= .bool b)):
  ∀(es:List MapEntry)(i:Nat) {r:Value} {b:Bool},mapGet z key (flatEntries es)=some (r,b)->
   (b=true/\∃j,Instr.findNow d key es i=some (some (j,r)))∨(b=false/\r=z/\Instr.findNow d key es i=some none)
 | [],i,r,b,h=>by
  simp only[flatEntries,mapGet] at h
  obtain⟨rfl,rfl⟩:=Prod.mk.inj (Option.some.inj h)
  exact .inr ⟨rfl,rfl,rfl⟩
 |e::es,i,r,b,h=>by
  simp only[flatEntries,mapGet] at h
  split at h
  ·rename_i hk
   have hs:=sameNow_of hk hd
   obtain⟨rfl,rfl⟩:=Prod.mk.inj (Option.some.inj h)
   refine .inl ⟨rfl,i,?_⟩
   simp[Instr.findNow,hs]
  ·rename_i hk
   have hs:=sameNow_of hk hd
   have:=findNow_of hd es (i+1) h
   simpa[Instr.findNow,hs] using this
  ·cases h
theorem run_checkKey{P:Program}{kt:TypeId}{key:Value}(b:Bool)(n:Nat)(hd:(∃d k a,P.underlying kt=some (.int d)/\key= .int k a)∨(∃b,P.underlying kt=some .bool/\key= .bool b))(w:World):
  (Instr.checkKey b (n+1) kt key).run P w= .ok () w:=by
 rcases hd with⟨d,k,a,hu,rfl⟩|⟨b,hu,rfl⟩<;>simp[Instr.checkKey,run_underlying hu]
theorem lookup_run{P:Program}{t kt e:TypeId}{i:TypeInfo}{z key:Value}(hu:P.underlying t=some (.map kt e))(hi:P.info? e=some i)(hz:i.zero=some z)
  (hd:(∃d k a,P.underlying kt=some (.int d)/\key= .int k a)∨(∃b,P.underlying kt=some .bool/\key= .bool b))
  {w:World} {r:Nat} {es:Array MapEntry} {c:Nat} (hw:w.heap[r]?=some (.map es c)) {v:Value} {b:Bool} (hg:mapGet z key (flatEntries es.toList)=some (v,b)) (ok:Bool):
  (Instr.lookup t (.map (some r)) key ok).run P w= .ok (if ok then .tuple #[v,.bool b] else v) w:=by
 have hdd:∃d,P.underlying kt=some d/\((∃i j a,d= .int i/\key= .int j a)∨(∃b,d= .bool/\key= .bool b)):=by
  rcases hd with⟨d,k,a,hu,rfl⟩|⟨b,hu,rfl⟩
  ·exact⟨_,hu,.inl ⟨_,_,_,rfl,rfl⟩⟩
  ·exact⟨_,hu,.inr ⟨_,rfl,rfl⟩⟩
 obtain⟨d,hud,hdd⟩:=hdd
 have hck:=run_checkKey (P:=P) es.isEmpty 9999 hd w
 rcases findNow_of hdd es.toList 0 hg with⟨rfl,j,hj⟩|⟨rfl,rfl,hj⟩
 ·simp[Instr.lookup,run_underlying hu,run_getObj_map hw,hck,Instr.findKey,run_underlying hud,hj]
 ·simp[Instr.lookup,run_underlying hu,run_getObj_map hw,hck,Instr.findKey,run_underlying hud,hj,zeroValue,typeInfo,hi,hz]
theorem box_map{own:List Bx}{H:Heap}{w:World}(h:BoxesOk own H w){i:Nat}{b:Nat}{ty:TypeId}{cs:List Value}(hx:own[i]?=some ⟨b,true,ty,cs⟩):
  boxNo own i=b/\∃es c,w.heap[b]?=some (.map es c)/\flatEntries es.toList=cs:=by
 have hm:(⟨b,true,ty,cs⟩:Bx)∈own:=List.mem_of_getElem? hx
 have:=h.ok _ hm
 simp only[Bx.ok] at this
 exact⟨by simp[boxNo,hx],this⟩
theorem lookupV_sound(t:TypeId)(ok:Bool)(st:St)(f:SV->Prop)(m key:SV)(h:lookupV C t ok st f m key):
  ∃r,f r/\Reads C.P st (Instr.lookup t (m.val st.own) (key.val st.own) ok) r:=by
 unfold lookupV at h
 split at h
 ·rename_i kt e i hu
  have main:∀ {b:Nat} {ty:TypeId} {cs:List Value} {z r:Value} {t':Bool},keyFits C kt key=true->st.own[i]?=some ⟨b,true,ty,cs⟩->(C.P.info? e).bind (·.zero)=some z->mapGet z (key.val st.own) cs=some (r,t')->
    ∀w,Sees st.H w->BoxesOk st.own st.H w->(Instr.lookup t (SV.val st.own (.mp i)) (key.val st.own) ok).run C.P w= .ok (if ok then .tuple #[r,.bool t'] else r) w:=by
   intro b ty cs z r t' hk hx hz hg w _ hb
   obtain⟨e1,es,c,hw,hes⟩:=box_map hb hx
   cases hi:C.P.info? e with
   |none=>simp[hi] at hz
   |some ie=>
    simp only[hi,Option.bind_some] at hz
    simp only[SV.val,e1]
    exact lookup_run hu hi hz (keyFits_shape hk) hw (by rw[hes];exact hg) ok
  split at h
  ·rename_i b ty cs z lk hk hx hz hkk
   split at h
   ·obtain⟨r,⟨t',hg,hf⟩,_⟩:=LK.ex_spec h
    exact⟨_,hf,trivial,fun w hs hb=>by simpa[SV.val] using main hk hx hz hg w hs hb⟩
   ·obtain⟨r,⟨t',hg,hf⟩,_⟩:=LK.ex_spec h
    exact⟨_,hf,trivial,fun w hs hb=>by simpa[SV.val] using main hk hx hz hg w hs hb⟩
  ·rename_i b ty cs z hk hx hz hkk
   split at h
   ·obtain⟨r,⟨t',hg,hf⟩,_⟩:=K1.ex_spec h
    exact⟨_,hf,trivial,fun w hs hb=>by simpa[SV.val] using main hk hx hz hg w hs hb⟩
   ·exact h.elim
  ·exact h.elim
 ·exact h.elim

theorem lenV_sound(t:TypeId)(st:St)(f:SV->Prop)(x:SV)(h:lenV C t st f x):
  ∃r,f r/\r.wf st.own.length/\∀(ty:TypeId) w,((∀kt e,C.P.underlying t≠some (.map kt e))∨(Sees st.H w/\BoxesOk st.own st.H w))->(Builtin.len_ #[t] ty #[x.val st.own]).run C.P w= .ok (r.val st.own) w:=by
 unfold lenV at h
 split at h
 ·split at h
  ·rename_i e hu
   exact⟨_,h,trivial,fun ty w _=>by simp[Builtin.len_,run_underlying hu,SV.val,goInt]⟩
  ·exact h.elim
 ·split at h
  ·rename_i hu
   exact⟨_,h,trivial,fun ty w _=>by simp[Builtin.len_,run_underlying hu,SV.val,goInt]⟩
  ·exact h.elim
 ·split at h
  ·rename_i kt e b ty' cs hu hx
   refine⟨_,h,trivial,fun ty w hw=> ?_⟩
   rcases hw with hw|⟨_,hb⟩
   ·exact absurd hu (hw kt e)
   ·obtain⟨e1,es,c,hh,hes⟩:=box_map hb hx
    have hl:∀l:List MapEntry,(flatEntries l).length=2*l.length:=by
     intro l;induction l with
     |nil=>rfl
     |cons e l ih=>simp[flatEntries,ih];omega
    have:cs.length/2=es.size:=by rw[←hes,hl];simp
    simp[Builtin.len_,run_underlying hu,SV.val,goInt,e1,run_getObj_map hh,this]
  ·exact h.elim
 ·exact h.elim
theorem capV_sound(t:TypeId)(own:List Bx)(f:SV->Prop)(x:SV)(h:capV C t f x):∃r,f r/\∀ty,Gives C.P own (Builtin.cap_ #[t] ty #[x.val own]) r:=by
 unfold capV at h
 split at h
 ·split at h
  ·rename_i e hu
   exact⟨_,h,fun ty=>⟨trivial,fun w=>by simp[Builtin.cap_,run_underlying hu,SV.val,goInt]⟩⟩
  ·exact h.elim
 ·exact h.elim
def Yields(C:Cfg)(st:St)(o:Oper)(s:SV):Prop:=
 ∀a w,EnvOk C.nt st.env st.own a->(worldless C o=true∨(Sees st.H w/\BoxesC st.own w/\(isLoad o=true∨BoxesOk st.own st.H w)))->(execOp a.eval o).run C.P w= .ok (.value (s.val st.own)) w
set_option maxHeartbeats 1000000 in
theorem quiet_sound(o:Oper)(st:St){q:(SV->Prop)->Prop}(hq:quietV C o st=some q){f:SV->Prop}(h:q f)(a₀:Act)(h₀:EnvOk C.nt st.env st.own a₀):
  ∃s,f s/\s.wf st.own.length/\Yields C st o s:=by
 unfold quietV at hq
 split at hq
 case h_1 x ho=>
  obtain rfl:=Option.some.inj hq
  split at h
  ·rename_i s hs
   exact⟨s,h,(get_sound h₀ hs).2,fun a w ha _=>by simp[execOp,ho,(get_sound ha hs).1]⟩
  ·exact h.elim
 case h_2 x ho=>
  obtain rfl:=Option.some.inj hq
  split at h
  ·rename_i s hs
   exact⟨s,h,(get_sound h₀ hs).2,fun a w ha _=>by simp[execOp,ho,(get_sound ha hs).1]⟩
  ·exact h.elim
 case h_3 c x y ho=>
  obtain rfl:=Option.some.inj hq
  split at h
  ·rename_i s hs
   obtain⟨r,hf,hr⟩:=pickV_sound (nt:=C.nt) f x y s h
   refine⟨r,hf,(hr a₀ h₀).1,fun a w ha _=> ?_⟩
   obtain⟨_,b,hb,he⟩:=hr a ha
   simp only[execOp,ho,(get_sound ha hs).1,hb,asBool,Sem.run_bind,Sem.run_pure,Result.andThen_ok,he]
  ·exact h.elim
 case h_4 op ty x y yt ho=>
  obtain rfl:=Option.some.inj hq
  split at h
  ·rename_i sx sy hx hy
   obtain⟨r,hf,hw,hr⟩:=binV_sound op ty o.type x y st.own sx sy f h
   refine⟨r,hf,hw,fun a w ha _=> ?_⟩
   have:=hr w
   simp only[binRun] at this
   simp only[execOp,ho,(get_sound ha hx).1,(get_sound ha hy).1]
   rw[Sem.run_bind,this]
   rfl
  ·exact h.elim
 case h_5 ty x ho=>
  obtain rfl:=Option.some.inj hq
  split at h
  ·rename_i s hs
   obtain⟨r,hf,hw,hr⟩:=notV_sound (C:=C) st.own f s h
   exact⟨r,hf,hw,fun a w ha _=>by simp[execOp,ho,(get_sound ha hs).1,hr w]⟩
  ·exact h.elim
 case h_6 ty x ho=>
  obtain rfl:=Option.some.inj hq
  split at h
  ·rename_i k n hs
   exact⟨_,h _ rfl,trivial,fun a w ha _=>by simp[execOp,ho,(get_sound ha hs).1,SV.val,Op.unary,Op.intArith]⟩
  ·exact h.elim
 case h_7 ty x ho=>
  obtain rfl:=Option.some.inj hq
  split at h
  ·rename_i s hs
   obtain⟨r,hf,hw,hr⟩:=loadV_sound ty st f s h
   refine⟨r,hf,hw,fun a w ha hc=> ?_⟩
   rcases hc with hc|⟨h1,h2,_⟩
   ·simp[worldless,ho] at hc
   ·simp[execOp,ho,(get_sound ha hs).1,hr w h1 h2]
  ·exact h.elim
 case h_8 s x fld ho=>
  obtain rfl:=Option.some.inj hq
  split at h
  ·rename_i sx hs
   obtain⟨r,hf,hw,hr⟩:=fieldAddrV_sound s fld st f sx (get_sound h₀ hs).2 h
   exact⟨r,hf,hw,fun a w ha _=>by simp[execOp,ho,(get_sound ha hs).1,hr w]⟩
  ·exact h.elim
 case h_9 t x ix ho=>
  obtain rfl:=Option.some.inj hq
  split at h
  ·rename_i sx si hx hi
   obtain⟨r,hf,hw,hr⟩:=indexAddrV_sound t ix st f sx si (get_sound h₀ hx).2 h (fun m hm=>by
    obtain⟨k,hk⟩:=numeral_eval (a:=a₀) hm
    exact⟨k,by rw[←(get_sound h₀ hi).1];exact hk⟩)
   exact⟨r,hf,hw,fun a w ha _=>by simp[execOp,ho,(get_sound ha hx).1,(get_sound ha hi).1,hr w]⟩
  ·exact h.elim
 case h_10 t x ix ho=>
  obtain rfl:=Option.some.inj hq
  split at h
  ·rename_i sx si hx hi
   obtain⟨r,hf,hw,hr⟩:=indexV_sound t o.type st f sx si h
   exact⟨r,hf,hw,fun a w ha _=>by simp[execOp,ho,(get_sound ha hx).1,(get_sound ha hi).1,hr w]⟩
  ·exact h.elim
 case h_11 t x fld ho=>
  obtain rfl:=Option.some.inj hq
  split at h
  ·rename_i sx hs
   obtain⟨r,hf,hw,hr⟩:=fieldV_sound t fld st f sx h
   exact⟨r,hf,hw,fun a w ha _=>by simp[execOp,ho,(get_sound ha hs).1,hr w]⟩
  ·exact h.elim
 case h_12 x i ho=>
  obtain rfl:=Option.some.inj hq
  split at h
  ·rename_i vs hs
   split at h
   ·rename_i v hv
    have hv':vs[i]?=some v:=by simpa using hv
    exact⟨_,h,trivial,fun a w ha _=>by simp[execOp,ho,(get_sound ha hs).1,SV.val,Instr.extract,hv']⟩
   ·exact h.elim
  ·exact h.elim
 case h_13 t parts ho=>
  obtain rfl:=Option.some.inj hq
  obtain⟨r,hf,hr⟩:=buildV_sound t parts st f h
  refine⟨r,hf,(hr a₀ h₀).1,fun a w ha _=> ?_⟩
  have:=(hr a ha).2 w
  simp only[execOp,ho]
  rw[Sem.run_bind,this]
  rfl
 case h_14 t x lo hi mx ho=>
  obtain rfl:=Option.some.inj hq
  obtain⟨r,hf,hr⟩:=sliceV_sound t st x lo hi mx f h
  refine⟨r,hf,(hr a₀ h₀).1,fun a w ha _=> ?_⟩
  have:=(hr a ha).2 w
  simp only[execOp,ho]
  rw[Sem.run_bind,this]
  rfl
 case h_15 fn first caps ho=>
  obtain rfl:=Option.some.inj hq
  obtain⟨r,hf,hr⟩:=makeFuncV_sound (C:=C) fn first caps st f h
  refine⟨r,hf,(hr a₀ h₀).1,fun a w ha _=> ?_⟩
  have:=(hr a ha).2 w
  simp only[execOp,ho]
  rw[Sem.run_bind,this]
  rfl
 case h_16 t m k ok ho=>
  obtain rfl:=Option.some.inj hq
  split at h
  ·rename_i sm sk hm hk
   obtain⟨r,hf,hw,hr⟩:=lookupV_sound t ok st f sm sk h
   refine⟨r,hf,hw,fun a w ha hc=> ?_⟩
   rcases hc with hc|⟨h1,_,h2⟩
   ·simp[worldless,ho] at hc
   ·rcases h2 with h2|h2
    ·simp[isLoad,ho] at h2
    ·simp[execOp,ho,(get_sound ha hm).1,(get_sound ha hk).1,hr w h1 h2]
  ·exact h.elim
 case h_17 args ts ho=>
  obtain rfl:=Option.some.inj hq
  split at h
  ·rename_i x t hx ht
   obtain rfl:args= #[x]:=by apply Array.ext';simpa using hx
   obtain rfl:ts= #[t]:=by apply Array.ext';simpa using ht
   split at h
   ·rename_i s hs
    obtain⟨r,hf,hw,hr⟩:=lenV_sound t st f s h
    refine⟨r,hf,hw,fun a w ha hc=> ?_⟩
    have hc':(∀kt e,C.P.underlying t≠some (.map kt e))∨(Sees st.H w/\BoxesOk st.own st.H w):=by
     rcases hc with hc|hc
     ·refine .inl fun kt e hu=> ?_
      simp[worldless,ho,hu] at hc
     ·rcases hc with⟨h1,_,h2⟩
      rcases h2 with h2|h2
      ·simp[isLoad,ho] at h2
      ·exact .inr ⟨h1,h2⟩
    simp[execOp,ho,resolve,invoke,builtin,(get_sound ha hs).1,hr o.type w hc']
   ·exact h.elim
  ·exact h.elim
 case h_18 args ts ho=>
  obtain rfl:=Option.some.inj hq
  split at h
  ·rename_i x t hx ht
   obtain rfl:args= #[x]:=by apply Array.ext';simpa using hx
   obtain rfl:ts= #[t]:=by apply Array.ext';simpa using ht
   split at h
   ·rename_i s hs
    obtain⟨r,hf,hr⟩:=capV_sound t st.own f s h
    exact⟨r,hf,(hr o.type).1,fun a w ha _=>by simp[execOp,ho,resolve,invoke,builtin,(get_sound ha hs).1,(hr o.type).2 w]⟩
   ·exact h.elim
  ·exact h.elim
 case h_19 args ts ho=>
  obtain rfl:=Option.some.inj hq
  split at h
  ·rename_i x y hx
   obtain rfl:args= #[x,y]:=by apply Array.ext';simpa using hx
   split at h
   ·rename_i k n k' m h1 h2
    exact⟨_,h,trivial,fun a w ha _=>by simp[execOp,ho,resolve,invoke,builtin,(get_sound ha h1).1,(get_sound ha h2).1,SV.val,Builtin.min_,Builtin.min2]⟩
   ·exact h.elim
  ·exact h.elim
 case h_20 args ts ho=>
  obtain rfl:=Option.some.inj hq
  split at h
  ·rename_i x y hx
   obtain rfl:args= #[x,y]:=by apply Array.ext';simpa using hx
   split at h
   ·rename_i k n k' m h1 h2
    exact⟨_,h,trivial,fun a w ha _=>by simp[execOp,ho,resolve,invoke,builtin,(get_sound ha h1).1,(get_sound ha h2).1,SV.val,Builtin.max_,Builtin.max2]⟩
   ·exact h.elim
  ·exact h.elim
 case h_21 x ho=>
  obtain rfl:=Option.some.inj hq
  split at h
  ·rename_i i off hs
   exact⟨_,h,(get_sound h₀ hs).2,fun a w ha _=>by simp[execOp,ho,(get_sound ha hs).1,SV.val]⟩
  ·rename_i i off hs
   exact⟨_,h,(get_sound h₀ hs).2,fun a w ha _=>by simp[execOp,ho,(get_sound ha hs).1,SV.val]⟩
  ·rename_i p hs
   exact⟨_,h,trivial,fun a w ha _=>by simp[execOp,ho,(get_sound ha hs).1,SV.val]⟩
  ·exact h.elim
 case h_22 src dst x ho=>
  split at hq
  ·rename_i k n hs
   obtain rfl:=Option.some.inj hq
   split at h
   ·rename_i d k' hu1 hu2
    refine⟨_,h _ rfl,trivial,fun a w ha _=> ?_⟩
    simp[execOp,ho,(get_sound ha hs).1,SV.val,convert,run_underlying hu1,run_underlying hu2,Conv.intToInt]
   ·exact h.elim
  ·rename_i s hs
   split at hq
   ·rename_i hu2
    obtain rfl:=Option.some.inj hq
    split at h
    ·rename_i hu1
     refine⟨_,h,trivial,fun a w ha _=> ?_⟩
     simp[execOp,ho,(get_sound ha hs).1,SV.val,convert,run_underlying hu1,run_underlying hu2]
    ·exact h.elim
   ·cases hq
  ·rename_i xa n xc hs
   obtain rfl:=Option.some.inj hq
   unfold bytesV at h
   split at h
   ·rename_i e hu1 hu2
    split at h
    ·rename_i hu3
     obtain⟨l,rfl,hat,hf⟩:=h
     refine⟨_,hf,trivial,fun a w ha hc=> ?_⟩
     rcases hc with hc|⟨h1,h2⟩
     ·simp[worldless,ho] at hc
     ·have hr:(convert src dst (.slice xa l.length xc)).run C.P w= .ok (.string ⟨l.toArray⟩) w:=by
       by_cases hl:l=[]
       ·subst hl
        rw[List.length_nil,run_convert_bytes_string w src dst e xa 0 xc hu1 hu3 hu2]
        cases xa<;>simp[Conv.bytesToString,loadCells,loadCellsFrom]<;>rfl
       ·obtain⟨b,o',rfl,hcells⟩:=hat.resolve_left (by simpa using hl)
        refine run_convert_bytes_back w src dst e ⟨b,o',none⟩ xc l hu1 hu3 hu2 fun j hj=> ?_
        have:=h1.cell (cellsAt_spec hcells j (.int .u8 (l[j].toNat:Int)) (by simp[u8s,hj]))
        rw[addr_add];simpa using this
      simp[execOp,ho,(get_sound ha hs).1,SV.val,hr]
    ·exact h.elim
   ·exact h.elim
  ·cases hq
 case h_23=>cases hq
end
open Go

structure StW(C:Cfg)(w0:World)(own0:List Nat)(own:List Bx)(H:Heap)(w:World):Prop where
 sees:Sees H w
 boxes:BoxesOk own H w
 locs:∀x∈own,C.base<=x.b∨x.b∈own0
 below:BelowX own0 w0 w
 next:Next C.base C.H0 H
 base:C.base=w0.heap.size
 seen0:Sees C.H0 w0

section
variable {C : Cfg} {w0 : World} {own0 : List Nat}
theorem StW.base_le{own:List Bx}{H:Heap}{w:World}(h:StW C w0 own0 own H w):C.base<=w.heap.size:=by rw[h.base];exact h.below.size
theorem StW.h0_lt{own:List Bx}{H:Heap}{w:World}(h:StW C w0 own0 own H w){b:Nat}{k:KB}(hb:C.H0 b=some k):b<C.base:=by rw[h.base];exact h.seen0.lt hb

theorem allOne_spec:∀ {vs:List Value},allOne vs=true->∀v∈vs,v.oneCell'=true
 | [],_,v,h=>by cases h
 |x::r,h,v,hv=>by
  simp only[allOne,Bool.and_eq_true] at h
  rcases List.mem_cons.1 hv with rfl|hv
  ·exact h.1
  ·exact allOne_spec h.2 v hv
theorem setRange_getElem?:∀(vs cs:List Value)(o j:Nat),o+vs.length<=cs.length->(setRange cs o vs)[j]?=if o<=j/\j<o+vs.length then vs[j-o]? else cs[j]?
 | [],cs,o,j,_=>by simp[setRange];intros;omega
 |v::vs,cs,o,j,h=>by
  simp only[setRange]
  rw[setRange_getElem? vs (cs.set o v) (o+1) j (by simp at h⊢;omega)]
  simp only[List.length_cons] at*
  by_cases h1:o+1<=j/\j<o+1+vs.length
  ·rw[if_pos h1,if_pos (by omega)]
   obtain⟨d,rfl⟩:∃d,j=o+1+d:=⟨j-(o+1),by omega⟩
   rw[show o+1+d-(o+1)=d from by omega,show o+1+d-o=d+1 from by omega]
   simp
  ·rw[if_neg h1]
   by_cases h2:o=j
   ·subst h2
    rw[if_pos (by omega)]
    simp only[Nat.sub_self,List.getElem?_cons_zero]
    rw[List.getElem?_set_self (by omega)]
   ·rw[if_neg (by omega),List.getElem?_set_ne h2]
theorem setRange_eq(cs vs:List Value)(o:Nat)(h:o+vs.length<=cs.length):setRange cs o vs=cs.take o++vs++cs.drop (o+vs.length):=by
 apply List.ext_getElem?
 intro j
 rw[setRange_getElem? vs cs o j h]
 by_cases h1:j<o
 ·rw[if_neg (by omega),List.append_assoc,List.getElem?_append_left (by simp;omega),List.getElem?_take,if_pos h1]
 ·by_cases h2:j<o+vs.length
  ·rw[if_pos (by omega),List.append_assoc,List.getElem?_append_right (by simp;omega),List.getElem?_append_left (by simp;omega)]
   congr 1
   simp;omega
  ·rw[if_neg (by omega),List.getElem?_append_right (by simp;omega),List.getElem?_drop]
   congr 1
   simp;omega
theorem run_storeVar{ty bt:TypeId}{w:World}{b o:Nat}{cur:Array Value}{v:Value}(hi:(C.P.info? ty).isSome=true)(hl:v.cells.toList.length=C.P.cellsOf ty)(h1:allOne v.cells.toList=true)
  (hb:w.heap[b]?=some (.cells cur bt (0,0))) (ho:o+C.P.cellsOf ty<=cur.size):
  (Instr.storeAt ty (.pointer (some ⟨b,o,none⟩)) v).run C.P w= .ok () (w.setRow b (setRange cur.toList o v.cells.toList).toArray):=by
 have hs:v.cells.size=C.P.cellsOf ty:=by simpa using hl
 have:=run_storeCells_at C.P b o bt v.cells.toList 0 cur w hb (by simp;omega) (allOne_spec h1)
 simp only[Nat.add_zero] at this
 rw[←setRange_eq _ _ _ (by simp;omega)] at this
 simp[Instr.storeAt,Instr.sureAddr,storeVar,run_sizeOf' hi,hs,this]
theorem storable_spec{ty:TypeId}{vs:List Value}{f:Prop}(h:storable C ty vs f):(C.P.info? ty).isSome=true/\vs.length=C.P.cellsOf ty/\allOne vs=true/\f:=by
 unfold storable at h
 obtain⟨hi,h⟩:=sized_spec h
 refine⟨hi,?_⟩
 split at h
 ·rename_i n hk
  obtain⟨h1,h2,h3⟩:=h
  refine⟨?_,h2,h3⟩
  rw[h1]
  unfold k1Of at hk
  split at hk
  ·split at hk
   ·cases hk
   ·cases hk;rfl
  ·cases hk;rfl
  ·cases hk
 ·split at h
  ·rename_i hc;exact⟨hc.1,hc.2,h⟩
  ·exact h.elim

theorem own_unique{own:List Bx}{H:Heap}{w:World}(h:BoxesOk own H w){i j:Nat}{x y:Bx}(hx:own[i]?=some x)(hy:own[j]?=some y)(e:x.b=y.b):i=j:=by
 have hi:=idx_lt hx
 have hj:=idx_lt hy
 have:=h.apart
 have e1:(own.map Bx.b)[i]?=(own.map Bx.b)[j]?:=by simp[hx,hy,e]
 exact(List.getElem?_inj (by simpa using hi) this).1 e1
theorem mem_set{α:Type}{l:List α}{i:Nat}{x y:α}(h:y∈l.set i x):y=x∨ ∃j:Nat,j≠i/\l[j]?=some y:=by
 obtain⟨j,hj⟩:=List.mem_iff_getElem?.1 h
 by_cases e:i=j
 ·subst e
  have hl:=idx_lt hj
  simp at hl
  simp[hl] at hj
  exact .inl hj.symm
 ·rw[List.getElem?_set_ne e] at hj
  exact .inr ⟨j,Ne.symm e,hj⟩
theorem boxes_set{own:List Bx}{H:Heap}{w w':World}(h:BoxesOk own H w){i:Nat}{x x':Bx}(hx:own[i]?=some x)(hb:x'.b=x.b)(hok:x'.ok w')
  (hsame:∀k,k≠x.b->k<w.heap.size->w'.heap[k]?=w.heap[k]?):BoxesOk (own.set i x') H w':=by
 have hm:=List.mem_of_getElem? hx
 refine⟨fun y hy=> ?_,fun y hy=> ?_,?_⟩
 ·rcases mem_set hy with rfl|⟨j,hji,hj⟩
  ·exact hok
  ·have hy':=List.mem_of_getElem? hj
   have hne:y.b≠x.b:=fun e=>hji (own_unique h hj hx e)
   exact Bx.ok_same (h.ok y hy') (hsame _ hne (Bx.ok_lt (h.ok y hy')))
 ·rcases mem_set hy with rfl|⟨j,hji,hj⟩
  ·rw[hb];exact h.hid x hm
  ·exact h.hid y (List.mem_of_getElem? hj)
 ·have:(own.set i x').map Bx.b=own.map Bx.b:=by
   rw[List.map_set,hb]
   apply List.ext_getElem?
   intro j
   by_cases e:i=j
   ·subst e
    rw[List.getElem?_set_self (by simpa using idx_lt hx)]
    simp[hx]
   ·rw[List.getElem?_set_ne e]
  rw[this];exact h.apart
theorem StW.step{own:List Bx}{H:Heap}{w w':World}(h:StW C w0 own0 own H w)(hos:w'.os=w.os)(hta:w'.tape=w.tape)(hou:w'.output=w.output)(hsz:w.heap.size<=w'.heap.size)
  (hsame:∀k,k<C.base->k∉own0->w'.heap[k]?=w.heap[k]?):BelowX own0 w0 w':=
 ⟨hos.trans h.below.os,hta.trans h.below.tape,hou.trans h.below.output,Nat.le_trans h.below.size hsz,fun k hk hn=>(hsame k (by rw[h.base];exact hk) hn).trans (h.below.block k hk hn)⟩
theorem StW.setBox{own:List Bx}{H:Heap}{w w':World}(h:StW C w0 own0 own H w){i:Nat}{x x':Bx}(hx:own[i]?=some x)(hb:x'.b=x.b)(hok:x'.ok w')
  (hsame:∀k,k≠x.b->k<w.heap.size->w'.heap[k]?=w.heap[k]?) (hos:w'.os=w.os) (hta:w'.tape=w.tape) (hou:w'.output=w.output) (hsz:w'.heap.size=w.heap.size):StW C w0 own0 (own.set i x') H w':=by
 have hm:=List.mem_of_getElem? hx
 have hbl:=h.base_le
 refine⟨h.sees.of_same fun b k hk=>hsame b (fun e=> ?_) (h.sees.lt hk),boxes_set h.boxes hx hb hok hsame,fun y hy=> ?_,h.step hos hta hou (by omega) fun k hk hn=>hsame k (fun e=> ?_) (by omega),h.next,h.base,h.seen0⟩
 ·rw[e,h.boxes.hid x hm] at hk;cases hk
 ·rcases mem_set hy with rfl|⟨j,_,hj⟩
  ·rw[hb];exact h.locs x hm
  ·exact h.locs y (List.mem_of_getElem? hj)
 ·subst e
  rcases h.locs x hm with hl|hl
  ·omega
  ·exact hn hl
theorem StW.newBox{own:List Bx}{H:Heap}{w:World}(h:StW C w0 own0 own H w){o:Obj}{x:Bx}(hb:x.b=w.heap.size)(hok:x.ok (w.alloc o)):StW C w0 own0 (own++[x]) H (w.alloc o):=by
 have hB:BelowX [] w (w.alloc o):=BelowX.alloc [] w o
 have hbl:=h.base_le
 refine⟨h.sees.below hB,⟨fun y hy=> ?_,fun y hy=> ?_,?_⟩,fun y hy=> ?_,h.step rfl rfl rfl hB.size fun k hk _=>hB.block k (by omega) (by simp),h.next,h.base,h.seen0⟩
 ·rcases List.mem_append.1 hy with hy|hy
  ·exact(h.boxes.below hB).ok y hy
  ·obtain rfl:=List.mem_singleton.1 hy;exact hok
 ·rcases List.mem_append.1 hy with hy|hy
  ·exact h.boxes.hid y hy
  ·obtain rfl:=List.mem_singleton.1 hy
   cases hk:H y.b with
   |none=>rfl
   |some k=>have:=h.sees.lt hk;omega
 ·rw[List.map_append,List.nodup_append]
  refine⟨h.boxes.apart,by simp,fun b hb1 b2 hb2 e=> ?_⟩
  obtain⟨y,hy,rfl⟩:=List.mem_map.1 hb1
  simp at hb2
  have:=Bx.ok_lt (h.boxes.ok y hy)
  omega
 ·rcases List.mem_append.1 hy with hy|hy
  ·exact h.locs y hy
  ·obtain rfl:=List.mem_singleton.1 hy;exact .inl (by omega)
theorem StW.newKnown{own:List Bx}{H:Heap}{w:World}(h:StW C w0 own0 own H w){o:Obj}{k:KB}(hk:k.sees (some o)):StW C w0 own0 own (fun b=>if b=w.heap.size then some k else H b) (w.alloc o)/\Next w.heap.size H (fun b=>if b=w.heap.size then some k else H b)/\H w.heap.size=none:=by
 have hB:BelowX [] w (w.alloc o):=BelowX.alloc [] w o
 have hbl:=h.base_le
 have hn:H w.heap.size=none:=by
  cases hk:H w.heap.size with
  |none=>rfl
  |some k=>exact absurd (h.sees.lt hk) (by omega)
 have hx:Next w.heap.size H (fun b=>if b=w.heap.size then some k else H b):=by
  refine⟨fun b k' hb=> ?_,fun b k' hb hnb=> ?_⟩
  ·by_cases e:b=w.heap.size
   ·subst e;rw[hn] at hb;cases hb
   ·simpa[e] using hb
  ·by_cases e:b=w.heap.size
   ·omega
   ·simp[e,hnb] at hb
 refine⟨⟨fun b k' hb=> ?_,⟨(h.boxes.below hB).ok,fun y hy=> ?_,h.boxes.apart⟩,h.locs,h.step rfl rfl rfl hB.size fun k hk _=>hB.block k (by omega) (by simp),h.next.trans (hx.mono hbl),h.base,h.seen0⟩,hx,hn⟩
 ·by_cases e:b=w.heap.size
  ·subst e
   simp only[if_pos] at hb
   obtain rfl:=Option.some.inj hb
   show k.sees ((w.heap.push o)[w.heap.size]?)
   simpa using hk
  ·simp only[if_neg e] at hb
   exact(h.sees.below hB) b k' hb
 ·have:=Bx.ok_lt (h.boxes.ok y hy)
  rw[if_neg (by omega)]
  exact h.boxes.hid y hy
theorem boxKB_sees(ty:TypeId)(cs:List Value):(boxKB ty cs).sees (some (.cells cs.toArray ty (0,0))):=
 ⟨cs.toArray,(0,0),rfl,by simp[boxKB],fun _=>rfl,fun j v hv=>by simpa[boxKB] using hv⟩
end
open Go
section
variable {C : Cfg} {w0 : World} {own0 : List Nat}
theorem bx_false{own:List Bx}{H:Heap}{w:World}(h:BoxesOk own H w){i:Nat}{b:Nat}{ty:TypeId}{cs:List Value}(hx:own[i]?=some ⟨b,false,ty,cs⟩):w.heap[b]?=some (.cells cs.toArray ty (0,0)):=by
 have:=h.ok _ (List.mem_of_getElem? hx)
 simpa[Bx.ok] using this
theorem storeBox{own:List Bx}{H:Heap}{w:World}(hw:StW C w0 own0 own H w){i b off:Nat}{ty bt:TypeId}{cs:List Value}{v:Value}(hx:own[i]?=some ⟨b,false,bt,cs⟩)
  (hi:(C.P.info? ty).isSome=true) (hl:v.cells.toList.length=C.P.cellsOf ty) (h1:allOne v.cells.toList=true) (ho:off+C.P.cellsOf ty<=cs.length):
  ∃w',(Instr.storeAt ty (.pointer (some ⟨boxNo own i,off,none⟩)) v).run C.P w= .ok () w'/\StW C w0 own0 (own.set i ⟨b,false,bt,setRange cs off v.cells.toList⟩) H w':=by
 have hb:=bx_false hw.boxes hx
 have e:boxNo own i=b:=box_no hx
 have hr:=run_storeVar (ty:=ty) (o:=off) (v:=v) hi hl h1 hb (by simpa using ho)
 rw[e]
 refine⟨_,hr,hw.setBox (x':=⟨b,false,bt,setRange cs off v.cells.toList⟩) hx rfl ?_ (fun k hk _=>setRow_other w b k _ hk) rfl rfl rfl (by simp)⟩
 simp only[Bx.ok]
 exact setRow_heap w b _ _ bt _ hb
theorem setRange_whole{cs vs:List Value}(h:cs.length=vs.length):setRange cs 0 vs=vs:=by
 apply List.ext_getElem?
 intro j
 rw[setRange_getElem? _ _ _ _ (by omega)]
 split
 ·simp
 ·rw[List.getElem?_eq_none (by omega),List.getElem?_eq_none (by omega)]
theorem storeV_sound(ty:TypeId)(st:St)(v:Value)(f:List Bx->Heap->Prop)(sa:SV){w:World}(hw:StW C w0 own0 st.own st.H w)(h:storeV C ty st v.cells.toList f sa):
  ∃own' H' w',f own' H'/\OwnExt st.own own'/\StW C w0 own0 own' H' w'/\(Instr.storeAt ty (sa.val st.own) v).run C.P w= .ok () w':=by
 unfold storeV at h
 split at h
 ·rename_i i off
  split at h
  ·rename_i b bt cs hx
   split at h
   ·rename_i hk
    obtain⟨hi,hl,h1,hcl,h⟩:=storable_spec h
    obtain⟨w',hr,hw'⟩:=storeBox (off:=0) hw hx hi hl h1 (by omega)
    rw[setRange_whole (by omega)] at hw'
    exact⟨_,_,w',h,OwnExt.set hx rfl rfl rfl,hw',hr⟩
   ·obtain⟨hi,hl,h1,h⟩:=storable_spec h
    split at h
    ·rename_i ho
     obtain⟨w',hr,hw'⟩:=storeBox hw hx hi hl h1 ho
     exact⟨_,_,w',h,OwnExt.set hx rfl rfl rfl,hw',hr⟩
    ·exact h.elim
  ·exact h.elim
 ·rename_i i off
  split at h
  ·rename_i b bt cs hx
   obtain⟨hi,hl,h1,ho,h⟩:=storable_spec h
   obtain⟨w',hr,hw'⟩:=storeBox hw hx hi hl h1 ho
   exact⟨_,_,w',h,OwnExt.set hx rfl rfl rfl,hw',hr⟩
  ·exact h.elim
 ·rename_i b o
  obtain⟨hi,hl,h1,k,hk,hfree,hbase,ho,h⟩:=storable_spec h
  obtain⟨cur,fr,hcur,hsz,hfr,hcells⟩:=hw.sees b k hk
  obtain rfl:=hfr hfree
  have hr:=run_storeVar (ty:=ty) (o:=o) (v:=v) hi hl h1 hcur (by omega)
  have hlen:o+v.cells.toList.length<=cur.toList.length:=by simp at hl⊢;omega
  let H':Heap:=fun x=>if x=b then some { k with cells:=updCells k.cells o v.cells.toList } else st.H x
  have hu:Upd st.H b o k v.cells.toList H':=⟨by simp[H'],fun x hx=>by simp[H',hx]⟩
  have hsame:∀x,x≠b->(w.setRow b (setRange cur.toList o v.cells.toList).toArray).heap[x]?=w.heap[x]?:=fun x hx=>setRow_other w b x _ hx
  have hn0:C.H0 b=none:=by
   cases h0:C.H0 b with
   |none=>rfl
   |some k0=>have:=hw.h0_lt h0;omega
  refine⟨_,H',w.setRow b (setRange cur.toList o v.cells.toList).toArray,h H' hu,OwnExt.refl _,⟨fun x k' hx=> ?_,⟨fun y hy=> ?_,fun y hy=> ?_,hw.boxes.apart⟩,hw.locs,hw.step rfl rfl rfl (by simp) (fun x hx _=>hsame x (by omega)),⟨fun x k' hx=> ?_,fun x k' hx hx0=> ?_⟩,hw.base,hw.seen0⟩,hr⟩
  ·by_cases e:x=b
   ·subst e
    simp only[H',if_pos] at hx
    obtain rfl:=Option.some.inj hx
    rw[setRow_heap w x cur _ k.ty _ hcur]
    refine⟨_,_,rfl,by simp[setRange_length,hsz],fun _=>rfl,fun j v' hv'=> ?_⟩
    simp only[List.getElem?_toArray]
    rw[setRange_getElem? _ _ _ _ hlen]
    simp only[updCells] at hv'
    split
    ·rename_i hc;rw[if_pos hc] at hv';exact hv'
    ·rename_i hc;rw[if_neg hc] at hv';simpa using hcells j v' hv'
   ·simp only[H',if_neg e] at hx
    rw[hsame x e]
    exact hw.sees x k' hx
  ·have hne:y.b≠b:=fun e=>by have:=hw.boxes.hid y hy;rw[e,hk] at this;cases this
   exact Bx.ok_same (hw.boxes.ok y hy) (hsame _ hne)
  ·have hne:y.b≠b:=fun e=>by have:=hw.boxes.hid y hy;rw[e,hk] at this;cases this
   simp only[H',if_neg hne]
   exact hw.boxes.hid y hy
  ·have hne:x≠b:=fun e=>by rw[e,hn0] at hx;cases hx
   simp only[H',if_neg hne]
   exact hw.next.ext x k' hx
  ·by_cases e:x=b
   ·omega
   ·simp only[H',if_neg e] at hx
    exact hw.next.fresh x k' hx hx0
 ·exact h.elim

def turnsA(C:Cfg)(a:Act)(o:Oper):Bool:=
 match o.op with
 | .call { callee:= .value (.tmp t), .. } =>(match a.tmps.getD t undef with| .func (.func g) _ _=>C.muts.list.contains g|_=>true)
 | .insert .. =>false
 |_=>turns C o
def Cont(C:Cfg)(w0:World)(own0:List Nat)(st:St)(o:Oper)(a:Act)(w:World)(f:SV->List Bx->Heap->Prop)(K:Act->World->Prop):Prop:=
 ∀s own' H' w',f s own' H'->s.wf own'.length->OwnExt st.own own'->StW C w0 own0 own' H' w'->(turnsA C a o=false->BelowC w w')->K (a.put o.dst (s.val own')) w'
theorem wp_value{P:Program}{o:Oper}{a:Act}{w w':World}{v:Value}{K:Act->World->Prop}{Q:Exit->Act->World->Prop}(hr:(execOp a.eval o).run P w= .ok (.value v) w')(h:K (a.put o.dst v) w'):o.wp P a w K Q:=by
 unfold Oper.wp;rw[hr];exact h
theorem wp_skip'{P:Program}{o:Oper}{a:Act}{w w':World}{K:Act->World->Prop}{Q:Exit->Act->World->Prop}(hr:(execOp a.eval o).run P w= .ok .skip w')(h:K (a.put o.dst undef) w'):o.wp P a w K Q:=by
 unfold Oper.wp;rw[hr];exact h

theorem zeroCells_spec{t:TypeId}{z:List Value}(h:zeroCellsOf C.P t=some z):∃i zv,C.P.info? t=some i/\i.zero=some zv/\zv.cells.toList=z:=by
 unfold zeroCellsOf at h
 cases hi:C.P.info? t with
 |none=>simp[hi] at h
 |some it=>
  cases hzz:it.zero with
  |none=>simp[hi,hzz] at h
  |some zv=>exact⟨it,zv,rfl,hzz,by simpa[hi,hzz] using h⟩
theorem made_eq(z:Array Value):∀n:Nat,madeCells z (n*z.size)=((List.replicate n z.toList).flatten).toArray:=by
 intro n
 apply Array.ext'
 simp only[madeCells,Array.toList_map,Array.toList_range]
 induction n with
 |zero=>simp
 |succ n ih=>
  rw[Nat.succ_mul,List.range_add,List.map_append,ih,List.replicate_succ',List.flatten_append]
  congr 1
  simp only[List.map_map,List.flatten_cons,List.flatten_nil,List.append_nil]
  apply List.ext_getElem?
  intro j
  by_cases hj:j<z.size
  ·simp[hj,Nat.mod_eq_of_lt hj,Nat.mul_add_mod',getElem!_pos,Nat.add_mod]
  ·simp[hj,Nat.le_of_not_lt hj]
end
open Go Go.RowKit
section
variable {C : Cfg} {w0 : World} {own0 : List Nat}
theorem OwnExt_len{own:List Bx}(x:Bx):own.length<(own++[x]).length:=by simp
theorem boxNo_append{own:List Bx}(x:Bx):boxNo (own++[x]) own.length=x.b:=by simp[boxNo]

theorem alloc_sound{o:Oper}{t:TypeId}(ho:o.op= .alloc t){st:St}{a:Act}{w:World}(hw:StW C w0 own0 st.own st.H w){f:SV->List Bx->Heap->Prop}{K:Act->World->Prop}{Q:Exit->Act->World->Prop}
  (hK:Cont C w0 own0 st o a w f K) {z:List Value} (hz:zeroCellsOf C.P t=some z) (h:∀b:Nat,f (.loc st.own.length 0) (st.own++[⟨b,false,t,z⟩]) st.H):o.wp C.P a w K Q:=by
 obtain⟨i,zv,hi,hzz,rfl⟩:=zeroCells_spec hz
 have hr:(execOp a.eval o).run C.P w= .ok (.value (.pointer (some ⟨w.heap.size,0,none⟩))) (w.alloc (.cells zv.cells t)):=by
  simp[execOp,ho,Instr.alloc,zeroValue,typeInfo,hi,hzz,newVar,newRow]
 refine wp_value hr ?_
 have:=hK _ _ _ (w.alloc (.cells zv.cells t)) (h w.heap.size) (OwnExt_len _) (OwnExt.append _ _) (hw.newBox rfl (by
  simp only[Bx.ok];show(w.heap.push _)[w.heap.size]?=_;simp)) (fun _=>(BelowX.alloc [] w _).toC)
 simpa[SV.val,boxNo_append] using this
theorem box_sound{o:Oper}{t:TypeId}{x:Operand}(ho:o.op= .box t x){st:St}{a:Act}{w:World}(ha:EnvOk C.nt st.env st.own a)(hw:StW C w0 own0 st.own st.H w){f:SV->List Bx->Heap->Prop}{K:Act->World->Prop}{Q:Exit->Act->World->Prop}
  (hK:Cont C w0 own0 st o a w f K) {s:SV} (hs:st.get x=some s) (h:∀b:Nat,f (.loc st.own.length 0) (st.own++[⟨b,false,t,(s.val st.own).cells.toList⟩]) st.H):o.wp C.P a w K Q:=by
 have hr:(execOp a.eval o).run C.P w= .ok (.value (.pointer (some ⟨w.heap.size,0,none⟩))) (w.alloc (.cells (s.val st.own).cells t)):=by
  simp[execOp,ho,Instr.box,newVar,newRow,(get_sound ha hs).1]
 refine wp_value hr ?_
 have:=hK _ _ _ (w.alloc (.cells (s.val st.own).cells t)) (h w.heap.size) (OwnExt_len _) (OwnExt.append _ _) (hw.newBox rfl (by
  simp only[Bx.ok];show(w.heap.push _)[w.heap.size]?=_;simp)) (fun _=>(BelowX.alloc [] w _).toC)
 simpa[SV.val,boxNo_append] using this
theorem makeMap_sound{o:Oper}{t:TypeId}(ho:o.op= .makeMap t none){st:St}{a:Act}{w:World}(hw:StW C w0 own0 st.own st.H w){f:SV->List Bx->Heap->Prop}{K:Act->World->Prop}{Q:Exit->Act->World->Prop}
  (hK:Cont C w0 own0 st o a w f K) (h:∀b:Nat,f (.mp st.own.length) (st.own++[⟨b,true,t,[]⟩]) st.H):o.wp C.P a w K Q:=by
 have hr:(execOp a.eval o).run C.P w= .ok (.value (.map (some w.heap.size))) (w.alloc (.map #[] 0)):=by
  simp[execOp,ho,Instr.makeMap]
 refine wp_value hr ?_
 have:=hK _ _ _ (w.alloc (.map #[] 0)) (h w.heap.size) (OwnExt_len _) (OwnExt.append _ _) (hw.newBox rfl (by
  simp only[Bx.ok];exact⟨#[],0,by show(w.heap.push _)[w.heap.size]?=_;simp,rfl⟩)) (fun _=>(BelowX.alloc [] w _).toC)
 simpa[SV.val,boxNo_append] using this
theorem fillL_length(place:Nat->Option (Nat×Nat)):∀(parts:List (Nat×Value))(cells out:List Value),fillL place cells parts=some out->out.length=cells.length
 | [],cells,out,h=>by simp[fillL] at h;subst h;rfl
 |(i,v)::rest,cells,out,h=>by
  simp only[fillL] at h
  split at h
  ·cases h
  ·split at h
   ·rw[fillL_length place rest _ _ h,setRange_length]
   ·cases h
theorem buildSlice_sound{o:Oper}{t:TypeId}{n:Nat}{parts:Array (Nat×Operand)}(ho:o.op= .buildSlice t n parts){st:St}{a:Act}{w:World}(ha:EnvOk C.nt st.env st.own a)(hw:StW C w0 own0 st.own st.H w)
  {f:SV->List Bx->Heap->Prop} {K:Act->World->Prop} {Q:Exit->Act->World->Prop} (hK:Cont C w0 own0 st o a w f K) {feeds:Bool} (h:buildSliceV C t n parts.toList st feeds f):o.wp C.P a w K Q:=by
 unfold buildSliceV at h
 split at h
 ·rename_i e hu
  split at h
  ·rename_i z vs hz hvs
   split at h
   ·rename_i hc
    obtain⟨hc1,hc2,hc3⟩:=hc
    split at h
    ·rename_i cells hcells
     obtain⟨i,zv,hi,hzz,rfl⟩:=zeroCells_spec hz
     have hsz:i.size=C.P.cellsOf e:=by simp[Program.cellsOf,hi]
     have hzs:zv.cells.size=C.P.cellsOf e:=by simpa using hc2
     have hev:(parts.map fun(i,x)=>(i,a.eval x)).toList=vs:=by
      rw[Array.toList_map];exact valsOf_sound ha hvs
     have hev2:List.map (fun x=>(x.fst,a.eval x.snd)) parts.toList=vs:=valsOf_sound ha hvs
     have hr:(execOp a.eval o).run C.P w= .ok (.value (.slice (some ⟨w.heap.size,0,none⟩) n n)) (w.alloc (.cells cells.toArray e)):=by
      have hf:=fill_eq _ _ _ _ hcells
      rw[←made_eq,hzs,←hsz] at hf
      by_cases h0:n*i.size=0
      ·have hn:n=0:=by
        rcases Nat.mul_eq_zero.1 h0 with h|h
        ·exact h
        ·omega
       subst hn
       have hvn:cells=[]:=by
        have:=fillL_length _ _ _ _ hcells
        simpa using this
       subst hvn
       have hf':Instr.fill (fun i_1=>some (i_1*i.size,i.size)) #[] vs=some #[]:=by
        simpa[madeCells,Array.range_zero'] using hf
       have hbs:(Instr.buildSlice t 0 (parts.map fun(i,x)=>(i,a.eval x))).run C.P w= .ok (.slice (some ⟨w.heap.size,0,none⟩) 0 0) (w.alloc (.cells #[] e)):=by
        simp[Instr.buildSlice,run_underlying hu,sizeOf,typeInfo,hi,newRow,Array.range_zero',hev2,hf']
       simp only[execOp,ho]
       rw[Sem.run_bind,hbs]
       rfl
      ·have hbs:=run_buildSlice w t e n (parts.map fun(i,x)=>(i,a.eval x)) cells.toArray i zv hu hi hzz (by rw[hsz];omega) h0 (by rw[hev];exact hf)
       simp only[execOp,ho]
       rw[Sem.run_bind,hbs]
       rfl
     refine wp_value hr ?_
     split at h
     ·have:=hK _ _ _ (w.alloc (.cells cells.toArray e)) (h w.heap.size) (OwnExt_len _) (OwnExt.append _ _) (hw.newBox rfl (by
       simp only[Bx.ok];show(w.heap.push _)[w.heap.size]?=_;simp)) (fun _=>(BelowX.alloc [] w _).toC)
      simpa[SV.val,boxNo_append] using this
     ·obtain⟨h1,h2,h3⟩:=hw.newKnown (boxKB_sees e cells)
      exact hK _ _ _ _ (h w.heap.size _ (h2.mono hw.base_le) h3 (by simp)) trivial (OwnExt.refl _) h1 (fun _=>(BelowX.alloc [] w _).toC)
    ·exact h.elim
   ·exact h.elim
  ·exact h.elim
 ·exact h.elim
theorem makeSlice_sound{o:Oper}{t:TypeId}{lo co:Operand}(ho:o.op= .makeSlice t lo co){st:St}{a:Act}{w:World}(ha:EnvOk C.nt st.env st.own a)(hw:StW C w0 own0 st.own st.H w)
  {f:SV->List Bx->Heap->Prop} {K:Act->World->Prop} {Q:Exit->Act->World->Prop} (hK:Cont C w0 own0 st o a w f K) {sl sc:SV} (hl:st.get lo=some sl) (hc:st.get co=some sc) (h:makeSliceV C t st f sl sc):o.wp C.P a w K Q:=by
 unfold makeSliceV at h
 split at h
 ·rename_i e l c hu
  split at h
  ·rename_i z hz
   split at h
   ·rename_i hzl
    obtain⟨h0,h1,h2,h3,h⟩:=h
    obtain⟨i,zv,hi,hzz,rfl⟩:=zeroCells_spec hz
    have hsz:i.size=C.P.cellsOf e:=by simp[Program.cellsOf,hi]
    have hby:i.bytes=C.P.bytesOf e:=by simp[Program.bytesOf,hi]
    have hzs:zv.cells.size=C.P.cellsOf e:=by simpa using hzl
    have hr:=run_make (P:=C.P) w t e i zv hu hi hzz .i64 .i64 l c h0 h1 (by
     rw[hby]
     have:c=(c.toNat:Int):=by omega
     rw[this,←Int.natCast_mul,Nat.mul_comm];omega) h3
    rw[hsz,←hzs,made_eq] at hr
    have hr':(execOp a.eval o).run C.P w= .ok (.value (.slice (some ⟨w.heap.size,0,none⟩) l.toNat c.toNat)) (w.alloc (.cells (List.replicate c.toNat zv.cells.toList).flatten.toArray e)):=by
     simp only[execOp,ho,(get_sound ha hl).1,(get_sound ha hc).1,SV.val]
     rw[Sem.run_bind,hr]
     rfl
    refine wp_value hr' ?_
    obtain⟨h4,h5,h6⟩:=hw.newKnown (boxKB_sees e (List.replicate c.toNat zv.cells.toList).flatten)
    exact hK _ _ _ _ (h w.heap.size _ (h5.mono hw.base_le) h6 (by simp)) trivial (OwnExt.refl _) h4 (fun _=>(BelowX.alloc [] w _).toC)
   ·exact h.elim
  ·exact h.elim
 ·exact h.elim

def RowO(base:Nat)(H:Heap)(e:TypeId)(size:Nat)(a:O)(n c:Nat)(xs:List Value):Prop:=
 xs.length=n*size/\n<=c/\c<=maxLen/\
 ((a=none/\n=0/\c=0)∨ ∃g k,a=some ⟨g,0,none⟩/\base<=g/\H g=some k/\k.ty=e/\k.size=c*size/\k.free=true/\∀j v,xs[j]?=some v->k.cells j=some v)
theorem Row.old{base:Nat}{H:Heap}{e:TypeId}{size:Nat}{a:O}{n c:Nat}{xs:List Value}(h:Row base H e size a n c xs):(n=0/\c=0/\RowO base H e size none 0 0 xs)∨(c≠0/\RowO base H e size a n c xs):=by
 obtain⟨h1,h2,h3,h4⟩:=h
 by_cases hc:c=0
 ·subst hc
  obtain rfl:n=0:=by omega
  exact .inl ⟨rfl,rfl,h1,h2,h3,.inl ⟨rfl,rfl,rfl⟩⟩
 ·rcases h4 with⟨_,h5⟩|h4
  ·exact absurd h5 hc
  ·exact .inr ⟨hc,h1,h2,h3,.inr h4⟩
theorem RowO.owns{H:Heap}{w:World}(hs:Sees H w){base:Nat}{e:TypeId}{size:Nat}{a:O}{n c:Nat}{xs:List Value}(h:RowO base H e size a n c xs):w.ownsRow base e size (.slice a n c) n xs:=by
 obtain⟨h1,h2,h3,h4⟩:=h
 refine⟨h1,?_⟩
 rcases h4 with⟨rfl,rfl,rfl⟩|⟨g,k,rfl,hg,hH,hty,hksz,hfree,hcl⟩
 ·exact .inl ⟨rfl,rfl⟩
 ·obtain⟨cur,fr,hc,hsz,hfr,hcell⟩:=hs g _ hH
  obtain rfl:=hfr hfree
  rw[hty] at hc
  refine .inr ⟨g,c,cur,rfl,hg,hc,h2,h3,by rw[hsz,hksz],?_⟩
  apply List.ext_getElem?
  intro j
  rw[List.getElem?_take]
  split
  ·rename_i hj
   have:xs[j]?=some xs[j]:=by simp[h1,hj]
   rw[this]
   simpa using hcell j _ (hcl j _ this)
  ·rename_i hj
   exact(List.getElem?_eq_none (by omega)).symm
theorem append_room_eq{P:Program}{H:Heap}{w w':World}(hs:Sees H w){base:Nat}{t ty e:TypeId}{i:TypeInfo}(hu:P.underlying t=some (.slice e))(hi:P.info? e=some i){a:O}{n c:Nat}{xs:List Value}(hrow:RowO base H e i.size a n c xs)(hc:c≠0)
  {ad:Addr} {m xc:Nat} {news:List Value} (hl:news.length=m*i.size) (hnews:∀j u,news[j]?=some u->w.cell? (ad.add j)=some u) (h1:∀u∈news,u.oneCell'=true) {v':Value}
  (hr:(Builtin.append_ #[t,t] ty #[.slice a n c,.slice (some ad) m xc]).run P w= .ok v' w') (hroom:n+m<=c):v'= .slice a (n+m) c:=by
 obtain⟨_,_,_,h4⟩:=hrow
 rcases h4 with⟨_,_,h⟩|⟨g,k,rfl,hb,hH,hty,hksz,hfree,hcl⟩
 ·exact absurd h hc
 ·obtain⟨cur,fr,hcu,hsz,hfr,_⟩:=hs g _ hH
  obtain rfl:=hfr hfree
  rw[hty] at hcu
  have:=run_append_room (P:=P) w t ty e i hu hi g n c cur hcu ad m xc news hl hnews h1 hroom (by rw[hl,hsz,hksz,←Nat.add_mul];exact Nat.mul_le_mul_right _ hroom)
  rw[hr] at this
  injection this
theorem append_step{own:List Bx}{H:Heap}{w w':World}(hw:StW C w0 own0 own H w){e:TypeId}{size:Nat}{a:O}{n c:Nat}{xs ys:List Value}{v':Value}{n':Nat}(hrow:RowO C.base H e size a n c xs)(hca:c=0->a=none)
  (h2:w'.ownsRow C.base e size v' n' ys) (h3:w.grownBy w' (Value.slice a n c).ownBlock) (h4:v'.ownBlock=(Value.slice a n c).ownBlock∨v'.ownBlock=some w.heap.size) (h5:n'<=c->v'= .slice a n' c):
  ∃a' c' H',v'= .slice a' n' c'/\Grew C.base H H' a c a' c' n'/\Row C.base H' e size a' n' c' ys/\StW C w0 own0 own H' w':=by
 have hold:∀g,(Value.slice a n c).ownBlock=some g->C.base<=g/\g<w.heap.size/\a=some ⟨g,0,none⟩/\(H g).isSome=true:=by
  intro g hg
  obtain⟨_,_,_,h6⟩:=hrow
  rcases h6 with⟨rfl,_,_⟩|⟨g',k',rfl,hb,hH,_⟩
  ·simp[Value.ownBlock] at hg
  ·simp[Value.ownBlock] at hg
   subst hg
   exact⟨hb,hw.sees.lt hH,rfl,by simp[hH]⟩
 have hbl:=hw.base_le
 have hblock:∀k,k<w.heap.size->(Value.slice a n c).ownBlock≠some k->w'.heap[k]?=w.heap[k]?:=fun k hk hne=>h3.block k hk (fun e=>hne e.symm)
 have hbelow:BelowX own0 w0 w':=hw.step h3.os h3.tape h3.output h3.size fun k hk _=>hblock k (by omega) (fun e=>by have:=(hold k e).1;omega)
 have hbox:∀y∈own,(Value.slice a n c).ownBlock≠some y.b:=fun y hy e=>by
  have:=(hold y.b e).2.2.2
  rw[hw.boxes.hid y hy] at this;cases this
 have hn0:∀g,C.base<=g->C.H0 g=none:=fun g hg=>by
  cases h0:C.H0 g with
  |none=>rfl
  |some k0=>have:=hw.h0_lt h0;omega
 obtain⟨h21,h22⟩:=h2
 rcases h22 with⟨rfl,rfl⟩|⟨g,cap,cur,rfl,hb,hg,hnc,hcm,hcs,htake⟩
 ·have hnil:(Value.slice a n c).ownBlock=none:=by
   rcases h4 with h4|h4
   ·simpa[Value.ownBlock] using h4.symm
   ·simp[Value.ownBlock] at h4
  have hxs:ys=[]:=List.eq_nil_of_length_eq_zero (by simpa using h21)
  subst hxs
  refine⟨none,0,H,rfl,⟨fun x k hx _=>hx,fun x k hx hn=>by(rw[hx] at hn;cases hn),fun h=>absurd rfl h,fun h=>by have:=h5 h;simp at this;exact⟨this.1,this.2⟩⟩,⟨h21,Nat.le_refl _,Nat.zero_le _,.inl ⟨rfl,rfl⟩⟩,
   ⟨hw.sees.of_same fun b k hk=>hblock b (hw.sees.lt hk) (by rw[hnil];simp),⟨fun y hy=>Bx.ok_same (hw.boxes.ok y hy) (hblock _ (Bx.ok_lt (hw.boxes.ok y hy)) (hbox y hy)),hw.boxes.hid,hw.boxes.apart⟩,hw.locs,hbelow,hw.next,hw.base,hw.seen0⟩⟩
 ·have hgw:(Value.slice a n c).ownBlock=some g∨g=w.heap.size:=by
   rcases h4 with h4|h4
   ·exact .inl (by simpa[Value.ownBlock] using h4.symm)
   ·exact .inr (by simpa[Value.ownBlock] using h4)
  let H':Heap:=fun x=>if x=g then some ⟨e,cap*size,true,fun j=>ys[j]?⟩ else if(Value.slice a n c).ownBlock=some x then none else H x
  have hgH:∀x k,H x=some k->(c=0∨a≠some ⟨x,0,none⟩)->x≠g/\(Value.slice a n c).ownBlock≠some x:=fun x k hx hne=>by
   have h1:(Value.slice a n c).ownBlock≠some x:=fun e=>by
    rcases hne with hne|hne
    ·have:=(hold x e).2.2.1;rw[hca hne] at this;cases this
    ·exact hne (hold x e).2.2.1
   refine⟨fun e=> ?_,h1⟩
   subst e
   rcases hgw with h|h
   ·exact h1 h
   ·have:=hw.sees.lt hx;omega
  refine⟨some ⟨g,0,none⟩,cap,H',rfl,⟨fun x k hx hne=> ?_,fun x k hx hn=> ?_,fun _ x hx=> ?_,fun h=>by have:=h5 h;simp at this;exact⟨this.1,this.2⟩⟩,⟨h21,hnc,hcm,.inr ⟨g,⟨e,cap*size,true,fun j=>ys[j]?⟩,rfl,hb,by simp[H'],rfl,rfl,rfl,fun j v h=>h⟩⟩,⟨fun x k hx=> ?_,⟨fun y hy=> ?_,fun y hy=> ?_,hw.boxes.apart⟩,hw.locs,hbelow,⟨fun x k hx=> ?_,fun x k hx hn=> ?_⟩,hw.base,hw.seen0⟩⟩
  ·obtain⟨e1,e2⟩:=hgH x k hx hne
   simp[H',e1,e2,hx]
  ·by_cases e1:x=g
   ·omega
   ·simp only[H',if_neg e1] at hx
    split at hx
    ·cases hx
    ·rw[hx] at hn;cases hn
  ·obtain rfl:g=x:=by simpa using hx
   rcases hgw with h|h
   ·have e1:=(hold g h).2.2.1
    exact .inr ⟨e1.symm,fun h0=>by have:=hca h0;rw[this] at e1;cases e1⟩
   ·refine .inl ?_
    cases hg2:H g with
    |none=>rfl
    |some k=>have:=hw.sees.lt hg2;omega
  ·by_cases e1:x=g
   ·subst e1
    simp only[H',if_pos] at hx
    obtain rfl:=Option.some.inj hx
    refine⟨cur,(0,0),hg,hcs,fun _=>rfl,fun j v hv=> ?_⟩
    have hv':ys[j]?=some v:=hv
    have hj:j<n'*size:=by rw[←h21];exact idx_lt hv'
    rw[←htake,List.getElem?_take,if_pos hj] at hv'
    simpa using hv'
   ·simp only[H',if_neg e1] at hx
    split at hx
    ·cases hx
    ·rename_i e2
     rw[hblock x (hw.sees.lt hx) e2]
     exact hw.sees x k hx
  ·exact Bx.ok_same (hw.boxes.ok y hy) (hblock _ (Bx.ok_lt (hw.boxes.ok y hy)) (hbox y hy))
  ·have hlt:=Bx.ok_lt (hw.boxes.ok y hy)
   have e1:y.b≠g:=fun e=>by
    rcases hgw with h|h
    ·exact hbox y hy (by rw[e];exact h)
    ·omega
   simp only[H',if_neg e1]
   split
   ·rfl
   ·exact hw.boxes.hid y hy
  ·have hlt:=hw.h0_lt hx
   have e1:x≠g:=by omega
   have e2:(Value.slice a n c).ownBlock≠some x:=fun e=>by have:=(hold x e).1;omega
   simp only[H',if_neg e1,if_neg e2]
   exact hw.next.ext x k hx
  ·by_cases e1:x=g
   ·omega
   ·simp only[H',if_neg e1] at hx
    split at hx
    ·cases hx
    ·exact hw.next.fresh x k hx hn
end
open Go Go.RowKit
section
variable {C : Cfg} {w0 : World} {own0 : List Nat}
theorem run_append_zero{P:Program}{t e:TypeId}{i:TypeInfo}(hu:P.underlying t=some (.slice e))(hi:P.info? e=some i){a xa:O}{n c xc:Nat}(h:n<=c)(ty:TypeId)(w:World):
  (Builtin.append_ #[t,t] ty #[.slice a n c,.slice xa 0 xc]).run P w= .ok (.slice a n c) w:=by
 have hf:(Builtin.firstCells i.size 0 (.slice xa 0 xc)).run P w= .ok #[] w:=by
  cases xa<;>simp[Builtin.firstCells,loadCells,loadCellsFrom]
 cases a<;>simp[Builtin.append_,run_underlying hu,sizeOf,typeInfo,hi,Builtin.lenOf,h,hf,storeCells]
theorem run_append_bare{P:Program}{t e ty:TypeId}{i:TypeInfo}(a:O){m xc:Nat}{xa:O}{v:Value}{w w':World}(hm:0<m)(hu:P.underlying t=some (.slice e))(hi:P.info? e=some i)
  (hb:(0+m)*i.bytes<=140737488355328) (h:(Builtin.append_ #[t,t] ty #[.slice none 0 0,.slice xa m xc]).run P w= .ok v w'):(Builtin.append_ #[t,t] ty #[.slice a 0 0,.slice xa m xc]).run P w= .ok v w':=by
 have hn:¬m=0:=by omega
 rw[Nat.zero_add] at hb
 have hf:∀(s:O)(w:World),(Builtin.firstCells i.size 0 (.slice s 0 0)).run P w= .ok #[] w:=fun s w=>by
  cases s<;>simp[Builtin.firstCells,loadCells,loadCellsFrom]
 have hcap:¬(281474976710656<Builtin.nextslicecap m 0*i.bytes):=by rw[nextslicecap_zero (by omega)];omega
 rw[←h]
 simp[Builtin.append_,run_underlying hu,sizeOf,typeInfo,hi,Builtin.lenOf,hn,hcap,Sem.run_bind,hf]
theorem append_sound{o:Oper}{t:TypeId}{so xo:Operand}(ho:o.op= .call { callee:= .builtin .append,args:= #[so,xo],argTypes:= #[t,t] }){st:St}{a:Act}{w:World}(ha:EnvOk C.nt st.env st.own a)
  (hw:StW C w0 own0 st.own st.H w) {f:SV->List Bx->Heap->Prop} {K:Act->World->Prop} {Q:Exit->Act->World->Prop} (hK:Cont C w0 own0 st o a w f K) {ss sx:SV} (hs:st.get so=some ss) (hx:st.get xo=some sx)
  (h:appendV C t st f ss sx):o.wp C.P a w K Q:=by
 have hturn:turnsA C a o=true:=by simp[turnsA,turns,ho]
 have run:∀ {v:Value} {w':World},(Builtin.append_ #[t,t] o.type #[ss.val st.own,sx.val st.own]).run C.P w= .ok v w'->(execOp a.eval o).run C.P w= .ok (.value v) w':=fun{v w'} h=>by
  simp[execOp,ho,resolve,invoke,builtin,(get_sound ha hs).1,(get_sound ha hx).1,h]
 unfold appendV at h
 split at h
 ·rename_i e sa n c hu
  split at h
  ·rename_i hsize
   obtain⟨hpos,hzl⟩:=hsize
   cases hz:zeroCellsOf C.P e with
   |none=>simp[hz] at hzl
   |some z=>
    simp only[hz,Option.map_some,Option.some.injEq] at hzl
    obtain⟨i,zv,hi,hzz,rfl⟩:=zeroCells_spec hz
    have hsz:i.size=C.P.cellsOf e:=by simp[Program.cellsOf,hi]
    have hby:i.bytes=C.P.bytesOf e:=by simp[Program.bytesOf,hi]
    have hzs:zv.cells.size=C.P.cellsOf e:=by simpa using hzl
    split at h
    ·rename_i j m
     split at h
     ·rename_i b bt cells hbx
      split at h
      ·rename_i hc
       obtain⟨hl,h1,hm⟩:=hc
       obtain⟨xs,hrow,hbytes,hmax,h⟩:=h
       have hnews:∀k u,cells[k]?=some u->w.cell? ((⟨b,0,none⟩:Addr).add k)=some u:=fun k u hk=>by
        rw[addr_add,Nat.zero_add];exact(box_cell hw.boxes hbx hk).2
       have e1:boxNo st.own j=b:=box_no hbx
       rcases hrow.old with⟨rfl,rfl,hro⟩|⟨hc0,hro⟩
       ·obtain⟨v',w',hr,h2,h3,_,h4⟩:=run_append_own_at (P:=C.P) w C.base t o.type e i zv (C.P.cellsOf e) (C.P.bytesOf e) hu hi hzz hsz hby hzs hpos (.slice none 0 0) 0 xs (hro.owns hw.sees) ⟨b,0,none⟩ m m cells hl hnews (allOne_spec h1) hmax hbytes hw.base_le
        obtain⟨a',c',H',rfl,hg,hrow',hw'⟩:=append_step hw hro (fun _=>rfl) h2 h3 h4 (fun h=>by omega)
        have hr':=run_append_bare sa hm hu hi (by rw[hby];omega) hr
        exact wp_value (run (by simpa[SV.val,e1] using hr')) (hK _ _ _ _ (h a' c' H' ⟨fun x k hx _=>hg.keep x k hx (.inl rfl),hg.fresh,fun hc g he=> .inl ((hg.place hc g he).resolve_right fun h=>h.2 rfl),fun h=>by omega⟩ hrow') trivial (OwnExt.refl _) hw' (fun ht=>by rw[hturn] at ht;cases ht))
       ·obtain⟨v',w',hr,h2,h3,_,h4⟩:=run_append_own_at (P:=C.P) w C.base t o.type e i zv (C.P.cellsOf e) (C.P.bytesOf e) hu hi hzz hsz hby hzs hpos (.slice sa n c) n xs (hro.owns hw.sees) ⟨b,0,none⟩ m m cells hl hnews (allOne_spec h1) hmax hbytes hw.base_le
        obtain⟨a',c',H',rfl,hg,hrow',hw'⟩:=append_step hw hro (fun h=>absurd h hc0) h2 h3 h4 (append_room_eq hw.sees hu hi (by rw[hsz];exact hro) hc0 (by rw[hsz];exact hl) hnews (allOne_spec h1) hr)
        exact wp_value (run (by simpa[SV.val,e1] using hr)) (hK _ _ _ _ (h a' c' H' hg hrow') trivial (OwnExt.refl _) hw' (fun ht=>by rw[hturn] at ht;cases ht))
      ·exact h.elim
     ·exact h.elim
    ·rename_i xa m xc
     obtain⟨xs,cells,hrow,hl,h1,hat,hbytes,hmax,h⟩:=h
     by_cases hm:m=0
     ·subst hm
      have hc:cells=[]:=List.eq_nil_of_length_eq_zero (by simpa using hl)
      subst hc
      have hr:=run_append_zero (xa:=xa) (a:=sa) (xc:=xc) hu hi hrow.2.1 o.type w
      refine wp_value (run (by simpa[SV.val] using hr)) (hK _ _ _ _ (h sa c st.H ⟨fun x k hx _=>hx,fun x k hx hn=>by(rw[hx] at hn;cases hn),fun hc _ _=> .inr ⟨rfl,hc⟩,fun _=>⟨rfl,rfl⟩⟩ (by simpa using hrow)) trivial (OwnExt.refl _) hw (fun ht=>by rw[hturn] at ht;cases ht))
     ·obtain⟨b,o',rfl,hcells⟩:=hat.resolve_left hm
      have hnews:∀k u,cells[k]?=some u->w.cell? ((⟨b,o',none⟩:Addr).add k)=some u:=fun k u hk=>by
       rw[addr_add];exact hw.sees.cell (by simpa using cellsAt_spec hcells k u hk)
      rcases hrow.old with⟨rfl,rfl,hro⟩|⟨hc0,hro⟩
      ·obtain⟨v',w',hr,h2,h3,_,h4⟩:=run_append_own_at (P:=C.P) w C.base t o.type e i zv (C.P.cellsOf e) (C.P.bytesOf e) hu hi hzz hsz hby hzs hpos (.slice none 0 0) 0 xs (hro.owns hw.sees) ⟨b,o',none⟩ m xc cells hl hnews (allOne_spec h1) hmax hbytes hw.base_le
       obtain⟨a',c',H',rfl,hg,hrow',hw'⟩:=append_step hw hro (fun _=>rfl) h2 h3 h4 (fun h=>by omega)
       have hr':=run_append_bare sa (Nat.pos_of_ne_zero hm) hu hi (by rw[hby];omega) hr
       exact wp_value (run (by simpa[SV.val] using hr')) (hK _ _ _ _ (h a' c' H' ⟨fun x k hx _=>hg.keep x k hx (.inl rfl),hg.fresh,fun hc g he=> .inl ((hg.place hc g he).resolve_right fun h=>h.2 rfl),fun h=>by omega⟩ hrow') trivial (OwnExt.refl _) hw' (fun ht=>by rw[hturn] at ht;cases ht))
      ·obtain⟨v',w',hr,h2,h3,_,h4⟩:=run_append_own_at (P:=C.P) w C.base t o.type e i zv (C.P.cellsOf e) (C.P.bytesOf e) hu hi hzz hsz hby hzs hpos (.slice sa n c) n xs (hro.owns hw.sees) ⟨b,o',none⟩ m xc cells hl hnews (allOne_spec h1) hmax hbytes hw.base_le
       obtain⟨a',c',H',rfl,hg,hrow',hw'⟩:=append_step hw hro (fun h=>absurd h hc0) h2 h3 h4 (append_room_eq hw.sees hu hi (by rw[hsz];exact hro) hc0 (by rw[hsz];exact hl) hnews (allOne_spec h1) hr)
       exact wp_value (run (by simpa[SV.val] using hr)) (hK _ _ _ _ (h a' c' H' hg hrow') trivial (OwnExt.refl _) hw' (fun ht=>by rw[hturn] at ht;cases ht))
    ·exact h.elim
  ·exact h.elim
 ·exact h.elim

theorem heap_store{own:List Bx}{H:Heap}{w:World}(hw:StW C w0 own0 own H w){b o:Nat}{k:KB}{vs:List Value}(hk:H b=some k)(hfree:k.free=true)(hbase:C.base<=b)(ho:o+vs.length<=k.size)(h1:allOne vs=true):
  ∃H' w',Upd H b o k vs H'/\StW C w0 own0 own H' w'/\(storeCells ⟨b,o,none⟩ vs).run C.P w= .ok () w':=by
 obtain⟨cur,fr,hcur,hsz,hfr,hcells⟩:=hw.sees b k hk
 obtain rfl:=hfr hfree
 have hr:=run_storeCells_at C.P b o k.ty vs 0 cur w hcur (by omega) (allOne_spec h1)
 simp only[Nat.add_zero] at hr
 rw[←setRange_eq _ _ _ (by simp;omega)] at hr
 have hlen:o+vs.length<=cur.toList.length:=by simp;omega
 let H':Heap:=fun x=>if x=b then some { k with cells:=updCells k.cells o vs } else H x
 have hu:Upd H b o k vs H':=⟨by simp[H'],fun x hx=>by simp[H',hx]⟩
 have hsame:∀x,x≠b->(w.setRow b (setRange cur.toList o vs).toArray).heap[x]?=w.heap[x]?:=fun x hx=>setRow_other w b x _ hx
 have hn0:C.H0 b=none:=by
  cases h0:C.H0 b with
  |none=>rfl
  |some k0=>have:=hw.h0_lt h0;omega
 refine⟨H',w.setRow b (setRange cur.toList o vs).toArray,hu,⟨fun x k' hx=> ?_,⟨fun y hy=> ?_,fun y hy=> ?_,hw.boxes.apart⟩,hw.locs,hw.step rfl rfl rfl (by simp) (fun x hx _=>hsame x (by omega)),⟨fun x k' hx=> ?_,fun x k' hx hx0=> ?_⟩,hw.base,hw.seen0⟩,hr⟩
 ·by_cases e:x=b
  ·subst e
   simp only[H',if_pos] at hx
   obtain rfl:=Option.some.inj hx
   rw[setRow_heap w x cur _ k.ty _ hcur]
   refine⟨_,_,rfl,by simp[setRange_length,hsz],fun _=>rfl,fun j v' hv'=> ?_⟩
   simp only[List.getElem?_toArray]
   rw[setRange_getElem? _ _ _ _ hlen]
   simp only[updCells] at hv'
   split
   ·rename_i hc;rw[if_pos hc] at hv';exact hv'
   ·rename_i hc;rw[if_neg hc] at hv';simpa using hcells j v' hv'
  ·simp only[H',if_neg e] at hx
   rw[hsame x e]
   exact hw.sees x k' hx
 ·have hne:y.b≠b:=fun e=>by have:=hw.boxes.hid y hy;rw[e,hk] at this;cases this
  exact Bx.ok_same (hw.boxes.ok y hy) (hsame _ hne)
 ·have hne:y.b≠b:=fun e=>by have:=hw.boxes.hid y hy;rw[e,hk] at this;cases this
  simp only[H',if_neg hne]
  exact hw.boxes.hid y hy
 ·have hne:x≠b:=fun e=>by rw[e,hn0] at hx;cases hx
  simp only[H',if_neg hne]
  exact hw.next.ext x k' hx
 ·by_cases e:x=b
  ·omega
  ·simp only[H',if_neg e] at hx
   exact hw.next.fresh x k' hx hx0
theorem copy_sound{o:Oper}{t:TypeId}{dop xo:Operand}(ho:o.op= .call { callee:= .builtin .copy,args:= #[dop,xo],argTypes:= #[t,t] }){st:St}{a:Act}{w:World}(ha:EnvOk C.nt st.env st.own a)
  (hw:StW C w0 own0 st.own st.H w) {f:SV->List Bx->Heap->Prop} {K:Act->World->Prop} {Q:Exit->Act->World->Prop} (hK:Cont C w0 own0 st o a w f K) {sd sx:SV} (hd:st.get dop=some sd) (hx:st.get xo=some sx)
  (h:copyV C t st f sd sx):o.wp C.P a w K Q:=by
 have hturn:turnsA C a o=true:=by simp[turnsA,turns,ho]
 have run:∀ {v:Value} {w':World},(Builtin.copy_ #[t,t] o.type #[sd.val st.own,sx.val st.own]).run C.P w= .ok v w'->(execOp a.eval o).run C.P w= .ok (.value v) w':=fun{v w'} h=>by
  simp[execOp,ho,resolve,invoke,builtin,(get_sound ha hd).1,(get_sound ha hx).1,h]
 unfold copyV at h
 split at h
 ·rename_i e da dn dc sa sn sc hu
  obtain⟨hie,h1,h2⟩:=sized_spec h
  by_cases hm:min sn dn=0
  ·have hr:(Builtin.copy_ #[t,t] o.type #[(SV.v (.slice da dn dc)).val st.own,(SV.v (.slice sa sn sc)).val st.own]).run C.P w= .ok (.int .i64 0) w:=by
    have hm':Nat.min sn dn=0:=hm
    have hf:(Builtin.firstCells (C.P.cellsOf e) 0 (.slice sa sn sc)).run C.P w= .ok #[] w:=by
     cases sa<;>simp[Builtin.firstCells,loadCells,loadCellsFrom]
    cases da<;>simp[SV.val,Builtin.copy_,run_underlying hu,run_sizeOf' hie,Builtin.lenOf,hm',hf,storeCells,goInt]
   exact wp_value (run hr) (hK _ _ _ _ (h1 hm) trivial (OwnExt.refl _) hw (fun ht=>by rw[hturn] at ht;cases ht))
  ·obtain⟨cells,b,o',b',o'',k,hl,hone,rfl,hcells,rfl,hk,hfree,hbase,hsz,hf⟩:=h2 hm
   obtain⟨H',w',hu',hw',hst⟩:=heap_store hw hk hfree hbase hsz hone
   have hld:(Builtin.firstCells (C.P.cellsOf e) (min sn dn) (.slice (some ⟨b,o',none⟩) sn sc)).run C.P w= .ok cells.toArray w:=by
    refine run_firstCells_some w (C.P.cellsOf e) (min sn dn) ⟨b,o',none⟩ sn sc cells hl fun j u hj=> ?_
    rw[addr_add]
    exact hw.sees.cell (by simpa using cellsAt_spec hcells j u hj)
   have hr:(Builtin.copy_ #[t,t] o.type #[(SV.v (.slice (some ⟨b',o'',none⟩) dn dc)).val st.own,(SV.v (.slice (some ⟨b,o',none⟩) sn sc)).val st.own]).run C.P w= .ok (.int .i64 (min sn dn:Nat)) w':=by
    have hmm:Nat.min sn dn=min sn dn:=rfl
    simp[SV.val,Builtin.copy_,run_underlying hu,run_sizeOf' hie,Builtin.lenOf,hmm,hld,hst,goInt]
   exact wp_value (run hr) (hK _ _ _ _ (hf H' hu') trivial (OwnExt.refl _) hw' (fun ht=>by rw[hturn] at ht;cases ht))
 ·exact h.elim
theorem clear_sound{o:Oper}{t:TypeId}{dop:Operand}(ho:o.op= .call { callee:= .builtin .clear,args:= #[dop],argTypes:= #[t] }){st:St}{a:Act}{w:World}(ha:EnvOk C.nt st.env st.own a)
  (hw:StW C w0 own0 st.own st.H w) {f:SV->List Bx->Heap->Prop} {K:Act->World->Prop} {Q:Exit->Act->World->Prop} (hK:Cont C w0 own0 st o a w f K) {sd:SV} (hd:st.get dop=some sd)
  (h:clearV C t st f sd):o.wp C.P a w K Q:=by
 have hturn:turnsA C a o=true:=by simp[turnsA,turns,ho]
 have run:∀ {v:Value} {w':World},(Builtin.clear_ #[t] o.type #[sd.val st.own]).run C.P w= .ok v w'->(execOp a.eval o).run C.P w= .ok (.value v) w':=fun{v w'} h=>by
  simp[execOp,ho,resolve,invoke,builtin,(get_sound ha hd).1,h]
 unfold clearV at h
 split at h
 ·rename_i e da dn dc hu
  split at h
  ·rename_i z hz
   split at h
   ·rename_i hzl
    obtain⟨hzl,hz1⟩:=hzl
    obtain⟨h1,h2⟩:=h
    obtain⟨i,zv,hi,hzz,rfl⟩:=zeroCells_spec hz
    by_cases hm:dn=0
    ·subst hm
     have hr:(Builtin.clear_ #[t] o.type #[(SV.v (.slice da 0 dc)).val st.own]).run C.P w= .ok (.tuple #[]) w:=by
      cases da<;>simp[SV.val,Builtin.clear_,run_underlying hu]
     exact wp_value (run hr) (hK _ _ _ _ (h1 rfl) trivial (OwnExt.refl _) hw (fun ht=>by rw[hturn] at ht;cases ht))
    ·obtain⟨b,o',k,rfl,hk,hfree,hbase,hsz,hf⟩:=h2 hm
     have hone:∀n,allOne (List.replicate n zv.cells.toList).flatten=true:=by
      intro n
      induction n with
      |zero=>rfl
      |succ n ih=>
       rw[List.replicate_succ,List.flatten_cons]
       have:∀(a b:List Value),allOne a=true->allOne b=true->allOne (a++b)=true:=by
        intro a
        induction a with
        |nil=>intro b _ h;exact h
        |cons x r ih=>intro b h h';simp only[allOne,Bool.and_eq_true,List.cons_append] at h⊢;exact⟨h.1,ih b h.2 h'⟩
       exact this _ _ hz1 ih
     have hlen:(List.replicate dn zv.cells.toList).flatten.length=dn*C.P.cellsOf e:=by simp[hzl]
     obtain⟨H',w',hu',hw',hst⟩:=heap_store hw hk hfree hbase (by rw[hlen];exact hsz) (hone dn)
     have hzc:(Builtin.zeroCells zv.cells dn).toList=(List.replicate dn zv.cells.toList).flatten:=by
      have e2:Builtin.zeroCells zv.cells dn=madeCells zv.cells (dn*zv.cells.size):=rfl
      rw[e2,made_eq]
     have hr:(Builtin.clear_ #[t] o.type #[(SV.v (.slice (some ⟨b,o',none⟩) dn dc)).val st.own]).run C.P w= .ok (.tuple #[]) w':=by
      obtain⟨m,rfl⟩:∃m,dn=m+1:=⟨dn-1,by omega⟩
      simp[SV.val,Builtin.clear_,run_underlying hu,zeroValue,typeInfo,hi,hzz,hzc,hst]
     exact wp_value (run hr) (hK _ _ _ _ (hf H' hu') trivial (OwnExt.refl _) hw' (fun ht=>by rw[hturn] at ht;cases ht))
   ·exact h.elim
  ·exact h.elim
 ·exact h.elim

theorem flatEntries_append(es:List MapEntry)(e:MapEntry):flatEntries (es++[e])=flatEntries es++[e.key,e.val]:=by
 induction es with
 |nil=>rfl
 |cons x es ih=>simp[flatEntries,ih]
theorem sameBits_of{key k:Value}(hs:keySame key k=some true)(hd:(∃j a,key= .int j a)∨(∃b,key= .bool b)):Instr.sameBits 10000 k key=true:=by
 rcases hd with⟨j,a,rfl⟩|⟨b,rfl⟩
 ·cases k<;>simp[keySame] at hs
  obtain⟨rfl,rfl⟩:=hs
  simp[Instr.sameBits]
 ·cases k<;>simp[keySame] at hs
  subst hs
  simp[Instr.sameBits]
theorem mapSet_find{d:TypeDesc}{key val:Value}(hd:(∃i j a,d= .int i/\key= .int j a)∨(∃b,d= .bool/\key= .bool b)):
  ∀(es:List MapEntry)(i:Nat) {cs':List Value},mapSet key val (flatEntries es)=some cs'->
   (∃j old e,Instr.findNow d key es i=some (some (i+j,old))/\es[j]?=some e/\Instr.sameBits 10000 e.key key=true/\flatEntries (es.modify j fun e=> { e with key:=key,val:=val })=cs')∨
   (Instr.findNow d key es i=some none/\flatEntries es++[key,val]=cs')
 | [],i,cs',h=>by
  simp only[flatEntries,mapSet] at h
  obtain rfl:=Option.some.inj h
  exact .inr ⟨rfl,rfl⟩
 |e::es,i,cs',h=>by
  have hk':(∃j a,key= .int j a)∨(∃b,key= .bool b):=by
   rcases hd with⟨_,j,a,_,h⟩|⟨b,_,h⟩
   ·exact .inl ⟨j,a,h⟩
   ·exact .inr ⟨b,h⟩
  simp only[flatEntries,mapSet] at h
  split at h
  ·rename_i hk
   obtain rfl:=Option.some.inj h
   have hs:=sameNow_of hk hd
   refine .inl ⟨0,e.val,e,by simp[Instr.findNow,hs],rfl,sameBits_of hk hk',by simp[flatEntries]⟩
  ·rename_i hk
   have hs:=sameNow_of hk hd
   cases hm:mapSet key val (flatEntries es) with
   |none=>simp[hm] at h
   |some r'=>
    simp only[hm,Option.map_some,Option.some.injEq] at h
    subst h
    rcases mapSet_find hd es (i+1) hm with⟨j,old,e',h1,h2,h3,h4⟩|⟨h1,h2⟩
    ·refine .inl ⟨j+1,old,e',?_,by simpa using h2,h3,by simp[flatEntries,h4]⟩
     rw[show i+(j+1)=i+1+j from by omega]
     simpa[Instr.findNow,hs] using h1
    ·exact .inr ⟨by simpa[Instr.findNow,hs] using h1,by rw[←h2];rfl⟩
  ·cases h
theorem mapUpdate_run{P:Program}{t kt e:TypeId}{key val:Value}(hu:P.underlying t=some (.map kt e))
  (hd:(∃d k a,P.underlying kt=some (.int d)/\key= .int k a)∨(∃b,P.underlying kt=some .bool/\key= .bool b))
  {w:World} {r:Nat} {es:Array MapEntry} {c:Nat} (hw:w.heap[r]?=some (.map es c)) {cs':List Value} (hg:mapSet key val (flatEntries es.toList)=some cs'):
  ∃es' c',(Instr.mapUpdate t (.map (some r)) key val).run P w= .ok () { w with heap:=w.heap.setIfInBounds r (.map es' c') }/\flatEntries es'.toList=cs':=by
 have hdd:∃d,P.underlying kt=some d/\((∃i j a,d= .int i/\key= .int j a)∨(∃b,d= .bool/\key= .bool b)):=by
  rcases hd with⟨d,k,a,hu,rfl⟩|⟨b,hu,rfl⟩
  ·exact⟨_,hu,.inl ⟨_,_,_,rfl,rfl⟩⟩
  ·exact⟨_,hu,.inr ⟨_,rfl,rfl⟩⟩
 obtain⟨d,hud,hdd⟩:=hdd
 have hck:=run_checkKey (P:=P) false 9999 hd w
 have hset:∀o,(setObj r o).run P w= .ok () { w with heap:=w.heap.setIfInBounds r o } :=fun o=>by simp[setObj,Sem.run,hw]
 rcases mapSet_find hdd es.toList 0 hg with⟨j,old,e',h1,h2,h3,h4⟩|⟨h1,h2⟩
 ·refine⟨es.modify j fun e=> { e with key:=key,val:=val },c,?_,by rw[Array.toList_modify];exact h4⟩
  have h2':es[j]?=some e':=by simpa using h2
  simp only[Nat.zero_add] at h1
  simp[Instr.mapUpdate,run_underlying hu,run_getObj_map hw,hck,Instr.findKey,run_underlying hud,h1,h2',Instr.keyThatStays,h3,hset]
 ·refine⟨es.push { key,val:=val,born:=c },c+1,?_,by rw[Array.toList_push,flatEntries_append];exact h2⟩
  simp[Instr.mapUpdate,run_underlying hu,run_getObj_map hw,hck,Instr.findKey,run_underlying hud,h1,hset]
theorem mapUpdate_sound{o:Oper}{t kt e:TypeId}{mo ko xo:Operand}(ho:o.op= .mapUpdate t mo ko xo∨o.op= .insert t mo ko xo){st:St}{a:Act}{w:World}(ha:EnvOk C.nt st.env st.own a)
  (hw:StW C w0 own0 st.own st.H w) {f:SV->List Bx->Heap->Prop} {K:Act->World->Prop} {Q:Exit->Act->World->Prop} (hK:Cont C w0 own0 st o a w f K)
  (hu:C.P.underlying t=some (.map kt e)) {i b:Nat} {sk sx:SV} {bt:TypeId} {cs cs':List Value} (hm:st.get mo=some (.mp i)) (hk:st.get ko=some sk) (hx:st.get xo=some sx) (hfit:keyFits C kt sk=true)
  (hbx:st.own[i]?=some ⟨b,true,bt,cs⟩) (hset:mapSet (sk.val st.own) (sx.val st.own) cs=some cs') (hf:f (.v undef) (st.own.set i ⟨b,true,bt,cs'⟩) st.H):o.wp C.P a w K Q:=by
 obtain⟨e1,es,c,hmap,hes⟩:=box_map hw.boxes hbx
 obtain⟨es',c',hr,hes'⟩:=mapUpdate_run hu (keyFits_shape hfit) hmap (by rw[hes];exact hset)
 have hrun:(execOp a.eval o).run C.P w= .ok .skip { w with heap:=w.heap.setIfInBounds b (.map es' c') } :=by
  have hmv:a.eval mo= .map (some b):=by rw[(get_sound ha hm).1];simp[SV.val,e1]
  rcases ho with ho|ho<;>simp[execOp,ho,hmv,(get_sound ha hk).1,(get_sound ha hx).1,hr]
 have hlt:b<w.heap.size:=(Array.getElem?_eq_some_iff.1 hmap).1
 refine wp_skip' hrun (hK _ _ _ _ hf trivial (OwnExt.set hbx rfl rfl rfl) (hw.setBox (x':=⟨b,true,bt,cs'⟩) hbx rfl ?_ (fun k hk _=> ?_) rfl rfl rfl (by simp)) (fun _=>⟨fun k c t f hk=>by
  have hne:b≠k:=fun e=>by rw[←e,hmap] at hk;cases hk
  rw[←hk];exact Array.getElem?_setIfInBounds_ne hne⟩))
 ·exact⟨es',c',by simp[hlt],hes'⟩
 ·simp only at hk
  simp[Array.getElem?_setIfInBounds_ne (Ne.symm hk)]
end
end Go.Vg
