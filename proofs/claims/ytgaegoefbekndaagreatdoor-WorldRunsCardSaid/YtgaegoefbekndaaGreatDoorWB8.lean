/- What is proved here: a part of the proof of laws of this seat: what a contract is, how it comes of a condition, contracts of the functions that are reached, the plain laws. -/
import Derived.Test.YtgaegoefbekndaaGreatDoorWB7
set_option linter.unusedSimpArgs false
set_option linter.unusedVariables false
set_option maxRecDepth 100000
open Bool renaming and_eq_true → zT
open Except renaming ok → yY
open Int renaming toNat_natCast → zz
open Option renaming map → zA
open Option.some renaming inj → zy
open Array renaming getElem?_eq_getElem → yw
open List renaming getElem?_eq_getElem → zu,mem_singleton → zN,mem_cons → zm,mem_cons_self → zr,getElem?_eq_some_iff → zw,length → zo,mem_of_getElem? → zt,eq_nil_of_length_eq_zero → zG,mem_of_mem_take → zH,length_take → zF,flatten_append → zI,getElem?_append_right → zY,flatten_cons → zW,getElem?_append_left → zU,take_of_length_le → zg,length_drop → yv,replicate → zk,flatten → yk,length_append → zq,mem_map → zM,length_map → ym,drop_eq_nil_of_le → zO
open Nat renaming le_of_ble_eq_true → z8,zero_add → zS,le_refl → ze
open Classical renaming propDecidable → zh
variable{p:Go.Vg.WA}{f:Go.FuncId}{args W0:List Go.Value}{H G:Go.Vg.Heap}{w:Go.Vg.cY}{e aS t:Int}{aa l b g fl fc rc wl wc hl hc k n b0 b1 b2 b3 b4 b5 sz c':Nat}{fn:Go.Func}{sv:List Go.Vg.SV}{fa ra wa ha a a':Go.Vg.O}{K:Go.Vg.KT}{r:Go.Vg.bD}{fb:List (List Go.Value)}{x:Go.Vg.gX}{m:Go.Vg.df}{xs:List Int}
namespace Go.Vg
open Go Go.Proofs
theorem kh:Value.bool (@decide True (zh True))= .bool true:=by simp
theorem uD{p:Prop}(h:p): @decide p (zh p)=true:= @decide_eq_true _ (zh _) h
theorem bS.PN{P:Program}(h:bS P f args H fun v H'=>∃p,v= .tuple #[cO w p,i64 e]/\bB H' w p)
  {G:Int->O->Nat->Nat->O->Nat->Nat->O->Nat->Nat->Int->O->Nat->Nat->Int->Int->Bool->O->Nat->Nat->Int->O->Nat->Nat->O->Nat->Nat->Bool->O->Nat->Nat->O->Nat->Nat->Int->Heap->Prop} (hG:∀(p:WA) H',aH H H'->Vg.Next aa H H'->bB H' w p->G w.c.first.id p.fa p.fl p.fc p.ra p.rl p.rc p.wa p.wl p.wc w.c.aS p.la p.ll p.lc w.h.l.aU w.h.l.ab w.h.l.ac p.ka p.kl p.kc w.h.l.nx p.sa p.sl p.sc p.ta p.tl p.tc w.h.up p.na p.nl p.nc p.ma p.ml p.mc e H'):
  bS P f args H fun v H'=>∃(n1:Int)(a2:O)(l2 c2:Nat)(a3:O)(l3 c3:Nat)(a4:O)(l4 c4:Nat)(n5:Int)(a6:O)(l6 c6:Nat)(n7:Int)(n8:Int)(b9:Bool)(ER:O)(l10 Hq:Nat)(EK:Int)(a12:O)(K5 c12:Nat)(ES:O)(K6 Hr:Nat)(K7:Bool)(Hu:O)(K8 JE:Nat)(ET:O)(K9 JF:Nat)(e1:Int),v= .tuple #[.agg #[.int .i64 n1,.slice a2 l2 c2,.slice a3 l3 c3,.slice a4 l4 c4,.int .i64 n5,.slice a6 l6 c6,.int .i64 n7,.int .i64 n8,.bool b9,.slice ER l10 Hq,.int .i64 EK,.slice a12 K5 c12,.slice ES K6 Hr,.bool K7,.slice Hu K8 JE,.slice ET K9 JF],.int .i64 e1]/\(Vg.Next aa H H'->G n1 a2 l2 c2 a3 l3 c3 a4 l4 c4 n5 a6 l6 c6 n7 n8 b9 ER l10 Hq EK a12 K5 c12 ES K6 Hr K7 Hu K8 JE ET K9 JF e1 H'):=
 h.mono fun v H' ex hv=>by
  obtain⟨p,rfl,h1⟩:=hv;exact⟨_,_,_,_,_,_,_,_,_,_,_,_,_,_,_,_,_,_,_,_,_,_,_,_,_,_,_,_,_,_,_,_,_,_,_,rfl,fun hN=>hG p H' ex hN h1⟩
theorem bS.ZW{P:Program}{l:List Int}(h:bS P f args H fun v H'=>∃p s sn sc,v= .tuple #[cO w p,.slice s sn sc,i64 e]/\bB H' w p/\Sl ft 1 H' s sn l/\sn<=sc)
  {G:Int->O->Nat->Nat->O->Nat->Nat->O->Nat->Nat->Int->O->Nat->Nat->Int->Int->Bool->O->Nat->Nat->Int->O->Nat->Nat->O->Nat->Nat->Bool->O->Nat->Nat->O->Nat->Nat->O->Nat->Nat->Int->Heap->Prop} (hG:∀(p:WA) s sn sc H',aH H H'->Vg.Next aa H H'->bB H' w p->Sl ft 1 H' s sn l->sn<=sc->G w.c.first.id p.fa p.fl p.fc p.ra p.rl p.rc p.wa p.wl p.wc w.c.aS p.la p.ll p.lc w.h.l.aU w.h.l.ab w.h.l.ac p.ka p.kl p.kc w.h.l.nx p.sa p.sl p.sc p.ta p.tl p.tc w.h.up p.na p.nl p.nc p.ma p.ml p.mc s sn sc e H'):
  bS P f args H fun v H'=>∃(n1:Int)(a2:O)(l2 c2:Nat)(a3:O)(l3 c3:Nat)(a4:O)(l4 c4:Nat)(n5:Int)(a6:O)(l6 c6:Nat)(n7:Int)(n8:Int)(b9:Bool)(ER:O)(l10 Hq:Nat)(EK:Int)(a12:O)(K5 c12:Nat)(ES:O)(K6 Hr:Nat)(K7:Bool)(Hu:O)(K8 JE:Nat)(ET:O)(K9 JF:Nat)(ZV:O)(l17 c17:Nat)(e1:Int),v= .tuple #[.agg #[.int .i64 n1,.slice a2 l2 c2,.slice a3 l3 c3,.slice a4 l4 c4,.int .i64 n5,.slice a6 l6 c6,.int .i64 n7,.int .i64 n8,.bool b9,.slice ER l10 Hq,.int .i64 EK,.slice a12 K5 c12,.slice ES K6 Hr,.bool K7,.slice Hu K8 JE,.slice ET K9 JF],.slice ZV l17 c17,.int .i64 e1]/\(Vg.Next aa H H'->G n1 a2 l2 c2 a3 l3 c3 a4 l4 c4 n5 a6 l6 c6 n7 n8 b9 ER l10 Hq EK a12 K5 c12 ES K6 Hr K7 Hu K8 JE ET K9 JF ZV l17 c17 e1 H'):=
 h.mono fun v H' ex hv=>by
  obtain⟨p,s,sn,sc,rfl,h1,h2,h3⟩:=hv;exact⟨_,_,_,_,_,_,_,_,_,_,_,_,_,_,_,_,_,_,_,_,_,_,_,_,_,_,_,_,_,_,_,_,_,_,_,_,_,_,rfl,fun hN=>hG p s sn sc H' ex hN h1 h2 h3⟩
theorem bS.wld1{P:Program}(h:bS P f args H fun v H'=>∃p,v=cO w p/\bB H' w p)
  {G:Int->O->Nat->Nat->O->Nat->Nat->O->Nat->Nat->Int->O->Nat->Nat->Int->Int->Bool->O->Nat->Nat->Int->O->Nat->Nat->O->Nat->Nat->Bool->O->Nat->Nat->O->Nat->Nat->Heap->Prop} (hG:∀(p:WA) H',aH H H'->Vg.Next aa H H'->bB H' w p->G w.c.first.id p.fa p.fl p.fc p.ra p.rl p.rc p.wa p.wl p.wc w.c.aS p.la p.ll p.lc w.h.l.aU w.h.l.ab w.h.l.ac p.ka p.kl p.kc w.h.l.nx p.sa p.sl p.sc p.ta p.tl p.tc w.h.up p.na p.nl p.nc p.ma p.ml p.mc H'):
  bS P f args H fun v H'=>∃(n1:Int)(a2:O)(l2 c2:Nat)(a3:O)(l3 c3:Nat)(a4:O)(l4 c4:Nat)(n5:Int)(a6:O)(l6 c6:Nat)(n7:Int)(n8:Int)(b9:Bool)(ER:O)(l10 Hq:Nat)(EK:Int)(a12:O)(K5 c12:Nat)(ES:O)(K6 Hr:Nat)(K7:Bool)(Hu:O)(K8 JE:Nat)(ET:O)(K9 JF:Nat),v= .agg #[.int .i64 n1,.slice a2 l2 c2,.slice a3 l3 c3,.slice a4 l4 c4,.int .i64 n5,.slice a6 l6 c6,.int .i64 n7,.int .i64 n8,.bool b9,.slice ER l10 Hq,.int .i64 EK,.slice a12 K5 c12,.slice ES K6 Hr,.bool K7,.slice Hu K8 JE,.slice ET K9 JF]/\(Vg.Next aa H H'->G n1 a2 l2 c2 a3 l3 c3 a4 l4 c4 n5 a6 l6 c6 n7 n8 b9 ER l10 Hq EK a12 K5 c12 ES K6 Hr K7 Hu K8 JE ET K9 JF H'):=
 h.mono fun v H' ex hv=>by
  obtain⟨p,rfl,h1⟩:=hv;exact⟨_,_,_,_,_,_,_,_,_,_,_,_,_,_,_,_,_,_,_,_,_,_,_,_,_,_,_,_,_,_,_,_,_,_,rfl,fun hN=>hG p H' ex hN h1⟩
open Go Go.Proofs
def TryzListL:List FuncId:=1000002:: TryzListK
theorem TryzsumL(j:Bool):fy Tryz.prog ⟨TryzListL,TryzSum,j⟩:=fun aa H0 g pre own H f p hp=>by
 obtain⟨h1,h2⟩:= TryzsumK j aa H0 g pre own H f p hp;refine⟨?_,h2⟩;have h1: TryzListK.contains g=true:=h1
 show TryzListL.contains g=true
 unfold TryzListL;rw[List.contains_cons,h1,Bool.or_true]
noncomputable def TryzMutsL:xT:=⟨TryzListL,TryzSum,true⟩
theorem TryzvcL(hf: Tryz.prog.funcs[f]?=some fn)(eC:oV fn=true)(dE:Nat.ble args.length fn.ntmps=true)(Q:Value->Heap->Prop)(IY:args.map SV.v=sv)
  {F:Nat->(Value->List (List Value)->Heap->Prop)->Prop} (hv:∀aa K,qC ⟨Tryz.prog,fn.ntmps,TryzMutsL,aa,H⟩ (gS fn) fn.results.toList sv [] K=F aa K)
  (h:∀aa,(∀b k,H b=some k->b<aa)->F aa (fun v _ H'=>Q v H')):Sp f args H Q:=
 sf (fE:= TryzMutsL) (TryzsumL true) hf (dK eC) rfl Tryzmixed (ij eC) (z8 dE) fun aa hb=>by
  rw[IY,hv aa];exact h aa hb
theorem tvcL(hf: Tryz.prog.funcs[f]?=some fn){Q:Value->Heap->Prop}{F:Nat->(Value->List (List Value)->Heap->Prop)->Prop}(hv:∀aa K,qC ⟨Tryz.prog,fn.ntmps,TryzMutsL,aa,H⟩ (gS fn) fn.results.toList (args.map SV.v) [] K=F aa K)(h:∀aa,(∀b k,H b=some k->b<aa)->F aa (fun v _ H'=>Q v H'))(eC:oV fn=true:=by kernel_rfl)(dE:Nat.ble args.length fn.ntmps=true:=by kernel_rfl):Sp f args H Q:=TryzvcL hf eC dE Q rfl hv h
theorem TryzvcLO(hf: Tryz.prog.funcs[f]?=some fn)(eC:oV fn=true){own:List Bx}{args:List SV}(dE:Nat.ble args.length fn.ntmps=true)(oJ:∀s∈args,s.wf own.length)(Q:Value->List (List Value)->Heap->Prop)
  {F:Nat->(Value->List (List Value)->Heap->Prop)->Prop} (hv:∀aa K,qC ⟨Tryz.prog,fn.ntmps,TryzMutsL,aa,H⟩ (gS fn) fn.results.toList args own K=F aa K)
  (h:∀aa,(∀b k,H b=some k->b<aa)->(∀x∈own,x.b<aa)->F aa Q):eZ Tryz.prog f (args.map (SV.val own)) own H Q:=
 A5 (fE:= TryzMutsL) (TryzsumL true) hf (dK eC) rfl Tryzmixed (ij eC) (z8 dE) oJ fun aa hb ho=>by
  rw[hv aa];exact h aa hb ho
def B9(b:Nat)(H:Heap):Heap:=fun x=>if x=b then none else H x
def Dr(b:Nat)(k:KB)(H:Heap):Heap:=fun x=>if x=b then some k else H x
theorem bS.lend{P:Program}{Q:Value->Heap->Prop}{ty:TypeId}{cs:List Value}(hb:H b=some (ay ty cs))
  (h:eZ P f args [⟨b,false,ty,cs⟩] (B9 b H) fun v iy H'=>iy=[cs]/\Q v (Dr b (ay ty cs) H')):bS P f args H Q:=fun w hs _=>by
 obtain⟨cur,fr,h1,h2,h3,h4⟩:=hs b _ hb;obtain rfl:fr=(0,0):=h3 rfl
 have IG:cur=cs.toArray:=by
  refine Array.ext (by simpa[ay] using h2) fun i hi hi'=>?_;have Wh:i<cs.length:=by simpa using hi'
  have:=h4 i cs[i] (zu Wh);rw[yw hi] at this;simpa using zy this
 subst IG
 have LP:fD (B9 b H) w:=fun x k hk=>by
  unfold B9 at hk;split at hk
  ·cases hk
  ·exact hs x k hk
 refine(h w LP ⟨fun x hx=>?_,fun x hx=>?_,by simp⟩).mono fun e w' he=>?_
 ·simp only[zN] at hx;subst hx;exact h1
 ·simp only[zN] at hx;subst hx;simp[B9]
 ·obtain⟨v,iy,H',rfl,hl,PO,hse,se,hn,rfl,hQ⟩:=he;have B4:w'.heap[b]?=some (.cells cs.toArray ty (0,0)):=se.ok ⟨b,false,ty,cs⟩ (by simp[gi,Bx.set]);refine⟨v,[],Dr b (ay ty cs) H',rfl,rfl,⟨PO.os,PO.tape,PO.output,PO.size,fun k hk _=>?_⟩,fun x k hk=>?_,⟨by simp[gi],by simp[gi],by simp[gi]⟩,⟨fun x k hk=>?_,fun x k hk hx=>?_⟩,hQ⟩
  ·by_cases e:k=b
   ·subst e;rw[B4];exact h1.symm
   ·exact PO.block k hk (by simpa using e)
  ·unfold Dr at hk;split at hk
   ·rename_i e;subst e;obtain rfl:=zy hk;exact⟨cs.toArray,(0,0),B4,by simp[ay],fun _=>rfl,fun j v hj=>by simpa[ay] using hj⟩
   ·exact hse x k hk
  ·unfold Dr;split
   ·rename_i e;subst e;rw[hb] at hk;exact hk
   ·rename_i e;exact hn.ext x k (by unfold B9;rw[nI e];exact hk)
  ·unfold Dr at hk;split at hk
   ·rename_i e;subst e;rw[hb] at hx;cases hx
   ·rename_i e;exact hn.fresh x k hk (by unfold B9;rw[nI e];exact hx)
open Go Go.Proofs
def Ds:Nat->List Bx->Option Nat
 |_,[]=>none
 |i,x::r=>match !x.map&&Nat.beq x.ty 41 with
  |true=>some i
  |false=>Ds (i+1) r
noncomputable def TryzFsQ:List (FuncId×Func):=[(118,Tryz.f118),(122,Tryz.f122),(123,Tryz.f123),(124,Tryz.f124)]
def TryzListQ:List FuncId:=1000001::2000003::4000002::4000018::4000080::118::122::123::124::125:: TryzListL
theorem ZX{g:FuncId}(h: TryzListL.contains g=true): TryzListQ.contains g=true:=by
 unfold TryzListQ;simp only[List.contains_cons,h,Bool.or_true]
theorem TryzsumQ0(j:Bool):fy Tryz.prog ⟨TryzListQ,TryzSum,j⟩:=fun aa H0 g pre own H f p hp=>by
 obtain⟨h1,h2⟩:= TryzsumL j aa H0 g pre own H f p hp;exact⟨ZX h1,h2⟩
theorem TryzfsQ:∀p∈ TryzFsQ,Tryz.prog.funcs[p.1]?=some p.2/\p.2.body=some (p.2.body.getD .skip)/\nD p.2.ntmps (aT (p.2.body.getD .skip))=true/\ TryzListQ.contains p.1=true:=by
 intro p hp;simp only[TryzFsQ,zm,List.not_mem_nil,or_false] at hp;rcases hp with rfl|rfl|rfl|rfl
 ·exact⟨Tryz.func118,dK (by kernel_rfl),ij (by kernel_rfl),by decide⟩
 ·exact⟨Tryz.func122,dK (by kernel_rfl),ij (by kernel_rfl),by decide⟩
 ·exact⟨Tryz.func123,dK (by kernel_rfl),ij (by kernel_rfl),by decide⟩
 ·exact⟨Tryz.func124,dK (by kernel_rfl),ij (by kernel_rfl),by decide⟩
noncomputable def TryzInQ:jV:=fun aa H0 g pre own H f=>match vX g TryzFsQ with
 |some _=>qT Tryz.prog TryzListQ TryzFsQ TryzSum aa H0 g pre own H f
 |none=> TryzSum aa H0 g pre own H f
theorem TryzinQ(j:Bool):fy Tryz.prog ⟨TryzListQ,TryzInQ,j⟩:=by
 intro aa H0 g pre own H f p hp;unfold TryzInQ at hp;dsimp only at hp;split at hp
 ·exact(rf (j:=j) (TryzsumQ0 true) Tryzmixed TryzfsQ) aa H0 g pre own H f p hp
 ·exact TryzsumQ0 j aa H0 g pre own H f p hp
noncomputable def RJ (prev:jV):jV:=fun aa H0 g pre own H f=>
 if g=124 then(match pre,Ds 3 (own.drop 3) with
  | [.v m,.v (.pointer (some ⟨x,o,none⟩))],some i=>(match own[i]? with
   |some ⟨b,false,_,_⟩=>(match prev aa H0 g [.v m,.loc i 0] own H f with
    |some p=>some ((x=b/\o=0)/\p)
    |none=>none)
   |_=>none)
  |_,_=>none)
 else prev aa H0 g pre own H f
theorem Lf{P:Program}{L:List FuncId}{prev:jV}{j:Bool}(h:fy P ⟨L,prev,j⟩):fy P ⟨L,RJ prev,j⟩:=by
 intro aa H0 g pre own H f p hp;unfold RJ at hp;dsimp only at hp;split at hp
 ·split at hp
  ·rename_i m x o i hwb;split at hp
   ·rename_i b ty cs hX;split at hp
    ·rename_i p' Zh;obtain rfl:=zy hp;obtain⟨h1,h2⟩:=h aa H0 g [.v m,.loc i 0] own H f p' Zh;refine⟨h1,fun hh C w0 bc w hb hH hw oJ=>?_⟩;obtain⟨⟨rfl,rfl⟩,hh⟩:=hh
     have:=h2 hh C w0 bc w hb hH hw (by
      intro s hs;simp only[zm,List.not_mem_nil,or_false] at hs;rcases hs with rfl|rfl
      ·exact oJ _ zr
      ·exact(zw.1 hX).1)
     have e:([.v m,.loc i 0]:List SV).map (SV.val own)=([.v m,.v (.pointer (some ⟨x,0,none⟩))]:List SV).map (SV.val own):=by
      simp[SV.val,pB hX]
     rw[e] at this;exact this
    ·cases hp
   ·cases hp
  ·cases hp
 ·exact h aa H0 g pre own H f p hp
noncomputable def TryzSumQ:jV:=fun aa H0 g pre own H f=>
 if g=125 then qT Tryz.prog TryzListQ [(125,Tryz.f125)] (RJ TryzInQ) aa H0 g pre own H f
 else RJ TryzInQ aa H0 g pre own H f
theorem TryzsumQ(j:Bool):fy Tryz.prog ⟨TryzListQ,TryzSumQ,j⟩:=by
 intro aa H0 g pre own H f p hp;unfold TryzSumQ at hp;dsimp only at hp;split at hp
 ·refine(rf (j:=j) (Lf (TryzinQ true)) Tryzmixed fun q hq=>?_) aa H0 g pre own H f p hp;simp only[zm,List.not_mem_nil,or_false] at hq;subst hq;exact⟨Tryz.func125,dK (by kernel_rfl),ij (by kernel_rfl),by decide⟩
 ·exact Lf (TryzinQ j) aa H0 g pre own H f p hp
noncomputable def TryzMutsQ:xT:=⟨TryzListQ,TryzSumQ,true⟩
theorem TryzvcQ(hf: Tryz.prog.funcs[f]?=some fn)(eC:oV fn=true)(dE:Nat.ble args.length fn.ntmps=true)(Q:Value->Heap->Prop)(IY:args.map SV.v=sv)
  {F:Nat->(Value->List (List Value)->Heap->Prop)->Prop} (hv:∀aa K,qC ⟨Tryz.prog,fn.ntmps,TryzMutsQ,aa,H⟩ (gS fn) fn.results.toList sv [] K=F aa K)
  (h:∀aa,(∀b k,H b=some k->b<aa)->F aa (fun v _ H'=>Q v H')):Sp f args H Q:=
 sf (fE:= TryzMutsQ) (TryzsumQ true) hf (dK eC) rfl Tryzmixed (ij eC) (z8 dE) fun aa hb=>by
  rw[IY,hv aa];exact h aa hb
theorem tvcQ(hf: Tryz.prog.funcs[f]?=some fn){Q:Value->Heap->Prop}{F:Nat->(Value->List (List Value)->Heap->Prop)->Prop}(hv:∀aa K,qC ⟨Tryz.prog,fn.ntmps,TryzMutsQ,aa,H⟩ (gS fn) fn.results.toList (args.map SV.v) [] K=F aa K)(h:∀aa,(∀b k,H b=some k->b<aa)->F aa (fun v _ H'=>Q v H'))(eC:oV fn=true:=by kernel_rfl)(dE:Nat.ble args.length fn.ntmps=true:=by kernel_rfl):Sp f args H Q:=TryzvcQ hf eC dE Q rfl hv h
open Go Go.Proofs
open Go.Value renaming int → I, slice → S, bool → B, agg → A, tuple → T, pointer → P, string → bH
open Go.IntKind renaming i64 → Z, wrap → W
open Go.Addr renaming mk → D
open Go.Vg.Bx renaming mk → J
open Go.Vg renaming Next → X, Sp → Y, eZ → YO, i64 → U
open Go.Vg.Heap renaming cell → C
open Int renaming toNat → N
abbrev vH(y2:Int)(K:KT)(w5:AV)(r2:Heap)(kV:AV):Prop:=
 ∀a3:Nat,(¬y2=0->K (T w5) [] r2)/\(¬¬y2=0->K (T kV) [] r2)
abbrev Am(wq pr CZ:AV)(H:Heap)(aa:Nat)(K:KT)(pQ ui:AV)(sa:O)(sl sc:Nat)(ta:O)(tl tc:Nat)(id:Int)(fa:O)(fl fc:Nat)(ra:O)(rl rc:Nat)(wa:O)(wl wc:Nat)(aS:Int)(up:Bool)(na:O)(nl nc:Nat)(ma:O)(ml mc:Nat):Prop:=
 ∀c:Nat,Y 83 [A wq,A pr,A CZ] H fun d e=>∃g h i j k l m n o p q,d=T #[A #[S g h i,U j,U k,B l,S m n o,U p],U q]/\(X aa H e->∀r:Nat,(¬q=0->∀s:Nat,(¬q=0->K (T #[A pQ,U q]) [] e)/\(¬¬q=0->K (T ui) [] e))/\(¬¬q=0->Y 119 [A #[S sa sl sc,S ta tl tc],A CZ] e fun s t=>∃u v w x y z,(fun w3:AV=>∃a1,(fun w2:AV=>s=T #[A #[S u v w,S x y z],U a1]/\(X aa e t->∀b1:Nat,(a1=0->(vH a1 K w2 t w3)/\vH a1 K w2 t w3)/\(¬a1=0->vH a1 K w2 t ui))) #[A pQ,U a1]) #[A #[U id,S fa fl fc,S ra rl rc,S wa wl wc,U aS,S g h i,U j,U k,B l,S m n o,U p,S u v w,S x y z,B up,S na nl nc,S ma ml mc],U 0]))
abbrev Ca(i2:Value)(aa:Nat)(t1 j2:Heap)(K:KT):Prop:=
 ∃(k2:Int)(l2:O)(m2 n2:Nat)(o2:O)(p2 q2:Nat)(r2:O)(s2 t2:Nat)(u2:Int)(v2:O)(w2 x2:Nat)(y2 z2:Int)(a3:Bool)(c3:O)(d3 e3:Nat)(f3:Int)(g3:O)(h3 i3:Nat)(j3:O)(k3 l3:Nat)(m3:Bool)(n3:O)(o3 p3:Nat)(q3:O)(r3 s3:Nat)(t3:Int),(fun pQ:AV=>i2=T pQ/\(X aa t1 j2->K (T pQ) [] j2)) #[A #[U k2,S l2 m2 n2,S o2 p2 q2,S r2 s2 t2,U u2,S v2 w2 x2,U y2,U z2,B a3,S c3 d3 e3,U f3,S g3 h3 i3,S j3 k3 l3,B m3,S n3 o3 p3,S q3 r3 s3],U t3]
abbrev sN(b:Heap)(aa:Nat)(K:KT):Prop:=
 Y 117 [U 7] b fun t u=>Ca t aa b u K
abbrev vtK(id aS:Int)(fa ra wa:O)(fl fc rl rc wl wc:Nat)(aU ab nx:Int)(ac:Bool)(la ka:O)(ll lc kl kc:Nat)(sa ta:O)(sl sc tl tc:Nat)(up:Bool)(na ma:O)(nl nc ml mc:Nat)(hk hg hn:Int)(fM:Bool)(ha:O)(hl hc:Nat)(aa:Nat)(H:Heap)(K:KT):Prop:=
 (fun wI:AV=>(fun QA:AV=>(fun CZ:AV=>(fun wq:AV=>(fun pr:AV=>(fun pQ:AV=>(fun ui:AV=>(up=false->sN H aa K)/\(¬up=false->∀a:Int,(fun tu:AV=>a=W Z ((ll:Int)+1)->∀b:Nat,(hk=2->Am wq pr CZ H aa K pQ ui sa sl sc ta tl tc id fa fl fc ra rl rc wa wl wc aS up na nl nc ma ml mc)/\(¬hk=2->(hk=5->Am wq pr QA H aa K pQ ui sa sl sc ta tl tc id fa fl fc ra rl rc wa wl wc aS up na nl nc ma ml mc)/\(¬hk=5->(hk=6->Am wq pr wI H aa K pQ ui sa sl sc ta tl tc id fa fl fc ra rl rc wa wl wc aS up na nl nc ma ml mc)/\(¬hk=6->Am wq pr tu H aa K pQ ui sa sl sc ta tl tc id fa fl fc ra rl rc wa wl wc aS up na nl nc ma ml mc)))) #[U 4,U 0,U 0,U 0,B false,U a,S ha hl hc])) #[A #[U id,S fa fl fc,S ra rl rc,S wa wl wc,U aS,S la ll lc,U aU,U ab,B ac,S ka kl kc,U nx,S sa sl sc,S ta tl tc,B up,S na nl nc,S ma ml mc],U 0]) #[U 0,S none 0 0,S none 0 0,S none 0 0,U 0,S none 0 0,U 0,U 0,B false,S none 0 0,U 0,S none 0 0,S none 0 0,B false,S none 0 0,S none 0 0]) #[S la ll lc,U aU,U ab,B ac,S ka kl kc,U nx]) #[U id,S fa fl fc,S ra rl rc,S wa wl wc,U aS]) #[U 5,U 0,U 0,U hn,B false,U 0,S none 0 0]) #[U 8,U 0,U 0,U 0,B false,U 0,S none 0 0]) #[U 9,U 0,U 0,U 0,B false,U 0,S none 0 0]
abbrev Cb(f2:Heap)(o2 aa p2:Nat)(mg:Int)(i1:O)(j1 k1:Nat)(l1 m1:Int)(n1:Bool)(o1:Int)(p1:O)(q1 r1:Nat)(s1:Bool)(na:O)(nl:Nat)(g2:O)(h2 i2:Nat)(j2:O)(k2 l2:Nat)(K:KT)(w8:AV):Prop:=
 ∃q2:KB,f2 o2=some q2/\KB.free q2=true/\aa<=o2/\p2+N mg*10+7<=KB.size q2/\∀r2:Heap,kW f2 o2 (p2+N mg*10) q2 [S i1 j1 k1,U l1,U m1,B n1,U o1,S p1 q1 r1,B s1] r2->∃s2 t2,na=some (D s2 t2 none)/\0<=mg/\mg<(nl:Int)/\∃u2:KB,r2 s2=some u2/\KB.free u2=true/\aa<=s2/\t2+N mg*10+7+2<=KB.size u2/\∀v2:Heap,kW r2 s2 (t2+N mg*10+7) u2 [S g2 h2 i2,S j2 k2 l2] v2->K (T w8) [] v2
abbrev Lg(m2:Int)(na:O)(mg:Int)(nl:Nat)(f2:Heap)(aa:Nat)(i1:O)(j1 k1:Nat)(l1 m1:Int)(n1:Bool)(o1:Int)(p1:O)(q1 r1:Nat)(s1:Bool)(g2:O)(h2 i2:Nat)(j2:O)(k2 l2:Nat)(K:KT)(w8:AV):Prop:=
 (m2=0->∃o2 p2,na=some (D o2 p2 none)/\0<=mg/\mg<(nl:Int)/\((Cb f2 o2 aa p2 mg i1 j1 k1 l1 m1 n1 o1 p1 q1 r1 s1 na nl g2 h2 i2 j2 k2 l2 K w8)/\Cb f2 o2 aa p2 mg i1 j1 k1 l1 m1 n1 o1 p1 q1 r1 s1 na nl g2 h2 i2 j2 k2 l2 K w8)/\((Cb f2 o2 aa p2 mg i1 j1 k1 l1 m1 n1 o1 p1 q1 r1 s1 na nl g2 h2 i2 j2 k2 l2 K w8)/\Cb f2 o2 aa p2 mg i1 j1 k1 l1 m1 n1 o1 p1 q1 r1 s1 na nl g2 h2 i2 j2 k2 l2 K w8)/\Cb f2 o2 aa p2 mg i1 j1 k1 l1 m1 n1 o1 p1 q1 r1 s1 na nl g2 h2 i2 j2 k2 l2 K w8)/\(¬m2=0->K (T w8) [] f2)
abbrev An(t1:Heap)(i2 j2:Nat)(hg:Int)(k2:O)(l2 m2:Nat)(n2:O)(o2 p2:Nat):Prop:=
 C t1 i2 (j2+N hg*10+7)=some (S k2 l2 m2)/\C t1 i2 (j2+N hg*10+7+1)=some (S n2 o2 p2)/\True
abbrev Lh(t1:Int)(K:KT)(w8:AV)(h1:Heap)(na:O)(mg:Int)(nl aa:Nat)(i1:O)(j1 k1:Nat)(l1 m1:Int)(n1:Bool)(o1:Int)(p1:O)(q1 r1:Nat)(s1:Bool)(w9:AV):Prop:=
 (¬t1=0->K (T w8) [] h1)/\(¬¬t1=0->∃v1 w1,na=some (D v1 w1 none)/\0<=mg/\mg<(nl:Int)/\∃(x1:O)(y1 z1:Nat)(a2:O)(c2 d2:Nat),(fun w4:LV=>(An h1 v1 w1 mg x1 y1 z1 a2 c2 d2)/\(Y 119 w4 h1 fun e2 f2=>∃g2 h2 i2 j2 k2 l2 m2,e2=T #[A #[S g2 h2 i2,S j2 k2 l2],U m2]/\(X aa h1 f2->∀n2:Nat,Lg m2 na mg nl f2 aa i1 j1 k1 l1 m1 n1 o1 p1 q1 r1 s1 g2 h2 i2 j2 k2 l2 K w8))/\∀e2:Nat,Y 119 w4 h1 fun f2 g2=>∃h2 i2 j2 k2 l2 m2 n2,f2=T #[A #[S h2 i2 j2,S k2 l2 m2],U n2]/\(X aa h1 g2->Lg n2 na mg nl g2 aa i1 j1 k1 l1 m1 n1 o1 p1 q1 r1 s1 h2 i2 j2 k2 l2 m2 K w8)) [A #[S x1 y1 z1,S a2 c2 d2],A w9])
abbrev Ao(y:Heap)(f1 g1:Nat)(hg:Int)(h1:O)(i1 j1:Nat)(k1 l1:Int)(m1:Bool)(n1:Int)(o1:O)(p1 q1:Nat)(r1:Bool):Prop:=
 C y f1 (g1+N hg*10)=some (S h1 i1 j1)/\C y f1 (g1+N hg*10+1)=some (U k1)/\C y f1 (g1+N hg*10+2)=some (U l1)/\C y f1 (g1+N hg*10+3)=some (B m1)/\C y f1 (g1+N hg*10+4)=some (U n1)/\C y f1 (g1+N hg*10+5)=some (S o1 p1 q1)/\C y f1 (g1+N hg*10+6)=some (B r1)/\True
abbrev JX(na:O)(hg:Int)(nl:Nat)(t1:Heap)(b3 ml aa:Nat)(ma:O)(mc:Nat)(K:KT)(id:Int)(fa:O)(fl fc:Nat)(ra:O)(rl rc:Nat)(wa:O)(wl wc:Nat)(aS:Int)(la:O)(ll lc:Nat)(aU ab:Int)(ac:Bool)(ka:O)(kl kc:Nat)(nx:Int)(sa:O)(sl sc:Nat)(ta:O)(tl tc:Nat)(up:Bool)(nc:Nat)(kV:AV):Prop:=
 (∃i2 j2,na=some (D i2 j2 none)/\0<=hg/\hg<(nl:Int)/\∃k2,C t1 i2 (j2+N hg*10+2)=some (U k2)/\∃l2 m2,na=some (D l2 m2 none)/\0<=hg/\hg<(nl:Int)/\∃n2,C t1 l2 (m2+N hg*10+6)=some (B n2)/\(b3=b3/\0=0)/\∀o2:Nat,((ml:Int)<40->∀p2:Nat,∃q2:List Value,bg aa t1 74 6 ma ml mc q2/\(ml+1)*56<=140737488355328/\ml+1<=9223372036854775807/\∀(r2:O)(s2:Nat)(t2:Heap),cu aa t1 t2 ma mc r2 s2 (ml+1)->bg aa t2 74 6 r2 (ml+1) s2 (q2++[U hg,U k2,B true,B n2,U 0,S none 0 0])->K (T #[A #[U id,S fa fl fc,S ra rl rc,S wa wl wc,U aS,S la ll lc,U aU,U ab,B ac,S ka kl kc,U nx,S sa sl sc,S ta tl tc,B up,S na nl nc,S r2 (ml+1) s2],U 0]) [] t2)/\(¬(ml:Int)<40->K (T kV) [] t1))/\∃i2 j2,na=some (D i2 j2 none)/\0<=hg/\hg<(nl:Int)/\∃k2,C t1 i2 (j2+N hg*10+6)=some (B k2)/\∃l2 m2,na=some (D l2 m2 none)/\0<=hg/\hg<(nl:Int)/\∃n2,C t1 l2 (m2+N hg*10+2)=some (U n2)/\(b3=b3/\0=0)/\∀o2:Nat,((ml:Int)<40->∀p2:Nat,∃q2:List Value,bg aa t1 74 6 ma ml mc q2/\(ml+1)*56<=140737488355328/\ml+1<=9223372036854775807/\∀(r2:O)(s2:Nat)(t2:Heap),cu aa t1 t2 ma mc r2 s2 (ml+1)->bg aa t2 74 6 r2 (ml+1) s2 (q2++[U hg,U n2,B true,B k2,U 0,S none 0 0])->K (T #[A #[U id,S fa fl fc,S ra rl rc,S wa wl wc,U aS,S la ll lc,U aU,U ab,B ac,S ka kl kc,U nx,S sa sl sc,S ta tl tc,B up,S na nl nc,S r2 (ml+1) s2],U 0]) [] t2)/\(¬(ml:Int)<40->K (T kV) [] t1)
abbrev vtH(w0:List Value)(b0 b1 b2 b3 b4 b5:Nat)(b6:Nat)(mg mt U1:Int)(mr U2:Bool)(pa:O)(pl pc:Nat)(id aS:Int)(fa ra wa:O)(fl fc rl rc wl wc:Nat)(aU ab nx:Int)(ac:Bool)(la ka:O)(ll lc kl kc:Nat)(sa ta:O)(sl sc tl tc:Nat)(up:Bool)(na ma:O)(nl nc ml mc:Nat)(hk hg hn:Int)(fM:Bool)(ha:O)(hl hc:Nat)(aa:Nat)(H:Heap)(K:KT):Prop:=
 (fun tu:AV=>(fun w9:AV=>(fun w8:AV=>(hk=11->K (T w8) [] H)/\(¬hk=11->∃a b,na=some (D a b none)/\0<=mg/\mg<(nl:Int)/\∃(c:O)(d e:Nat)(g h:Int)(i:Bool)(j:Int)(k:O)(l m:Nat)(n:Bool),(Ao H a b mg c d e g h i j k l m n)/\∀o:Nat,(fun w7:LB=>∃p:Prop,(∃q:Prop,((mr=true->w7=w7/\ak H H/\(q↔up=false))/\(mr=false->w7=w7/\ak H H/\¬q))/\(q->w7=w7/\ak H H/\(p↔q))/\(¬q->∃r:Prop,((mr=false->∃s t,na=some (D s t none)/\0<=mg/\mg<(nl:Int)/\∃u,C H s (t+N mg*10+9)=some (B u)/\w7=w7/\ak H H/\(r↔u=false))/\(¬mr=false->w7=w7/\ak H H/\¬r))/\w7=w7/\ak H H/\(p↔r)))/\(p->sN H aa K)/\(¬p->(mr=true->∀q:Nat,Y 83 [A #[U id,S fa fl fc,S ra rl rc,S wa wl wc,U aS],A #[S la ll lc,U aU,U ab,B ac,S ka kl kc,U nx],A tu] H fun r s=>∃t u v w x y z a1 c1 d1 e1,r=T #[A #[S t u v,U w,U x,B y,S z a1 c1,U d1],U e1]/\(X aa H s->∀f1:Nat,(¬e1=0->K (T w8) [] s)/\(¬¬e1=0->Y 119 [A #[S sa sl sc,S ta tl tc],A tu] s fun g1 h1=>∃i1 j1 k1 l1 m1 n1,(fun w3:AV=>∃o1,g1=T #[A #[S i1 j1 k1,S l1 m1 n1],U o1]/\(X aa s h1->∀p1:Nat,(o1=0->K (T w3) [] h1/\K (T w3) [] h1)/\(¬o1=0->K (T w8) [] h1))) #[A #[U id,S fa fl fc,S ra rl rc,S wa wl wc,U aS,S t u v,U w,U x,B y,S z a1 c1,U d1,S i1 j1 k1,S l1 m1 n1,B up,S na nl nc,S ma ml mc],U 0])))/\(mr=false->∃q:Prop,((h=mt->w7=w7/\ak H H/\(q↔i=false))/\(¬h=mt->w7=w7/\ak H H/\¬q))/\(q->JX na mg nl H b3 ml aa ma mc K id fa fl fc ra rl rc wa wl wc aS la ll lc aU ab ac ka kl kc nx sa sl sc ta tl tc up nc w8)/\(¬q->∀r:Nat,∃s t,na=some (D s t none)/\0<=mg/\mg<(nl:Int)/\∃(u:O)(v w:Nat)(x y:Int)(z:Bool)(a1:Int)(c1:O)(d1 e1:Nat)(f1:Bool),(fun w6:LV=>(Ao H s t mg u v w x y z a1 c1 d1 e1 f1)/\(Y 85 w6 H fun g1 h1=>∃i1 j1 k1 l1 m1 n1 o1 p1 q1 r1 s1 t1,g1=T #[A #[S i1 j1 k1,U l1,U m1,B n1,U o1,S p1 q1 r1,B s1],U t1]/\(X aa H h1->∀u1:Nat,Lh t1 K w8 h1 na mg nl aa i1 j1 k1 l1 m1 n1 o1 p1 q1 r1 s1 w9))/\∀g1:Nat,Y 85 w6 H
 fun h1 i1=>∃j1 k1 l1 m1 n1 o1 p1 q1 r1 s1 t1 u1,h1=T #[A #[S j1 k1 l1,U m1,U n1,B o1,U p1,S q1 r1 s1,B t1],U u1]/\(X aa H i1->Lh u1 K w8 i1 na mg nl aa j1 k1 l1 m1 n1 o1 p1 q1 r1 s1 t1 w9)) [A #[S u v w,U x,U y,B z,U a1,S c1 d1 e1,B f1],A w9])))) [J b0 false 41 w0,J b1 false 62 [U hk,U hg,U hn,B fM,S ha hl hc],J b2 false 41 [U 0,S none 0 0,S none 0 0,S none 0 0,U 0,S none 0 0,U 0,U 0,B false,S none 0 0,U 0,S none 0 0,S none 0 0,B false,S none 0 0,S none 0 0],J b3 false 41 [U id,S fa fl fc,S ra rl rc,S wa wl wc,U aS,S la ll lc,U aU,U ab,B ac,S ka kl kc,U nx,S sa sl sc,S ta tl tc,B up,S na nl nc,S ma ml mc],J b4 false 158 [Value.func (Fn.func 119) #[] #[]],J b5 false 162 [Value.func (Fn.func 124) #[] #[P (some (D b3 0 none))]],J b6 false 74 [U mg,U mt,B mr,B U2,U U1,S pa pl pc],J o false 46 [S c d e,U g,U h,B i,U j,S k l m,B n]])) #[A #[U id,S fa fl fc,S ra rl rc,S wa wl wc,U aS,S la ll lc,U aU,U ab,B ac,S ka kl kc,U nx,S sa sl sc,S ta tl tc,B up,S na nl nc,S ma ml mc],U 0]) #[U 1,U 0,U mt,U 0,B false,U U1,S pa pl pc]) #[U 7,U mg,U mt,U 0,B U2,U 0,S none 0 0]
abbrev Ap(g2:Int)(K:KT)(t1:Heap):Prop:=
 ¬g2=0->K (T #[A #[U 0,S none 0 0,S none 0 0,S none 0 0,U 0,S none 0 0,U 0,U 0,B false,S none 0 0,U 0,S none 0 0,S none 0 0,B false,S none 0 0,S none 0 0],U g2]) [] t1
abbrev Li(f1:Value)(aa:Nat)(u g1:Heap)(na:O)(hg:Int)(nl:Nat)(v:O)(w x:Nat)(y:O)(z a1:Nat)(j:Bool)(K:KT)(w7:AV):Prop:=
 ∃h1 i1 j1 k1 l1 m1 n1 o1 p1 q1 r1 s1,f1=T #[A #[S h1 i1 j1,U k1,U l1,B m1,U n1,S o1 p1 q1,B r1],U s1]/\(X aa u g1->∀t1:Nat,∃u1 v1,na=some (D u1 v1 none)/\0<=hg/\hg<(nl:Int)/\∃w1:KB,g1 u1=some w1/\KB.free w1=true/\aa<=u1/\v1+N hg*10+10<=KB.size w1/\∀x1:Heap,kW g1 u1 (v1+N hg*10) w1 [S h1 i1 j1,U k1,U l1,B m1,U n1,S o1 p1 q1,B r1,S v w x,S y z a1,B (decide (j=false))] x1->∀y1:Nat,(Ap s1 K x1)/\(¬¬s1=0->K (T w7) [] x1))
abbrev PQ(j:Bool)(hk:Int)(b:Heap)(aa:Nat)(K:KT)(m:O)(n o:Nat)(p:O)(q r:Nat)(hg:Int)(w8:AV)(id:Int)(fa:O)(fl fc:Nat)(ra:O)(rl rc:Nat)(wa:O)(wl wc:Nat)(aS:Int)(na:O)(nl nc:Nat)(ma:O)(ml mc:Nat)(w7:AV):Prop:=
 ∃s,aR Tryz.prog (aI BinOp.neq 4 (Operand.tmp 266) (Operand.tmp 269) (B j) (B (decide (hk=12)))) (B s)/\(s=true->sN b aa K)/\(¬s=true->(hk=13->Y 23 [A #[S m n o,S p q r]] b fun t u=>∃v w x y z a1 c1 d1 e1,t=T #[A #[S v w x,S y z a1],S c1 d1 e1]/\(X aa b u->(hg<0->Y 24 [A w8,S c1 d1 e1] u fun f1 g1=>∃h1 i1 j1 k1 l1 m1 n1 o1 p1 q1 r1,f1=T #[A #[S h1 i1 j1,U k1,U l1,B m1,S n1 o1 p1,U q1],U r1]/\(X aa u g1->∀s1 t1:Nat,(Ap r1 K g1)/\(¬¬r1=0->K (T #[A #[U id,S fa fl fc,S ra rl rc,S wa wl wc,U aS,S h1 i1 j1,U k1,U l1,B m1,S n1 o1 p1,U q1,S v w x,S y z a1,B (decide (j=false)),S na nl nc,S ma ml mc],U 0]) [] g1)))/\(¬hg<0->Y 25 [A #[U id,S fa fl fc],S c1 d1 e1] u fun f1 g1=>Li f1 aa u g1 na hg nl v w x y z a1 j K w7)))/\(¬hk=13->(hg<0->Y 24 [A w8,S none 0 0] b fun t u=>∃v w x y z a1 c1 d1 e1 f1 g1,t=T #[A #[S v w x,U y,U z,B a1,S c1 d1 e1,U f1],U g1]/\(X aa b u->∀h1 i1:Nat,(Ap g1 K u)/\(¬¬g1=0->K (T #[A #[U id,S fa fl fc,S ra rl rc,S wa wl wc,U aS,S v w x,U y,U z,B a1,S c1 d1 e1,U f1,S m n o,S p q r,B (decide (j=false)),S na nl nc,S ma ml mc],U 0]) [] u)))/\(¬hg<0->Y 25 [A #[U id,S fa fl fc],S none 0 0] b fun t u=>Li t aa b u na hg nl m n o p q r j K w7)))
abbrev vtR(w0:List Value)(b0 b1 b2 b3 b4 b5:Nat)(id aS:Int)(fa ra wa:O)(fl fc rl rc wl wc:Nat)(aU ab nx:Int)(ac:Bool)(la ka:O)(ll lc kl kc:Nat)(sa ta:O)(sl sc tl tc:Nat)(up:Bool)(na ma:O)(nl nc ml mc:Nat)(hk hg hn:Int)(fM:Bool)(ha:O)(hl hc:Nat)(aa:Nat)(H:Heap)(K:KT)(Tl:Heap->Prop):Prop:=
 (fun w8:AV=>(fun w7:AV=>(fun w6:LB=>Y 92 [U hk,U 1,U 13] H fun a b=>∃c,a=B c/\(X aa H b->(c=false->Y 117 [U 4] b fun d e=>Ca d aa b e K)/\(¬c=false->∃d:Prop,((hk=12->w6=w6/\ak b b/\d)/\(¬hk=12->w6=w6/\ak b b/\(d↔hk=13)))/\∃e:Prop,(((nl:Int)<=hg->w6=w6/\ak b b/\e)/\(¬(nl:Int)<=hg->(hg<0->w6=w6/\ak b b/\(e↔¬d))/\(¬hg<0->w6=w6/\ak b b/\¬e)))/\(e->Y 117 [U 5] b fun g h=>Ca g aa b h K)/\(¬e->(d->∀g:Nat,(0<=hg->∃h i,na=some (D h i none)/\0<=hg/\hg<(nl:Int)/\∃j,C b h (i+N hg*10+9)=some (B j)/\∃k l,na=some (D k l none)/\0<=hg/\hg<(nl:Int)/\∃(m:O)(n o:Nat)(p:O)(q r:Nat),(An b k l hg m n o p q r)/\PQ j hk b aa K m n o p q r hg w8 id fa fl fc ra rl rc wa wl wc aS na nl nc ma ml mc w7)/\(¬0<=hg->PQ up hk b aa K sa sl sc ta tl tc hg w8 id fa fl fc ra rl rc wa wl wc aS na nl nc ma ml mc w7))/\(¬d->Tl b))))) [J b0 false 41 w0,J b1 false 62 [U hk,U hg,U hn,B fM,S ha hl hc],J b2 false 41 [U 0,S none 0 0,S none 0 0,S none 0 0,U 0,S none 0 0,U 0,U 0,B false,S none 0 0,U 0,S none 0 0,S none 0 0,B false,S none 0 0,S none 0 0],J b3 false 41 [U id,S fa fl fc,S ra rl rc,S wa wl wc,U aS,S la ll lc,U aU,U ab,B ac,S ka kl kc,U nx,S sa sl sc,S ta tl tc,B up,S na nl nc,S ma ml mc],J b4 false 158 [Value.func (Fn.func 119) #[] #[]],J b5 false 162 [Value.func (Fn.func 124) #[] #[P (some (D b3 0 none))]]]) #[A #[U id,S fa fl fc,S ra rl rc,S wa wl wc,U aS,S la ll lc,U aU,U ab,B ac,S ka kl kc,U nx,S sa sl sc,S ta tl tc,B up,S na nl nc,S ma ml mc],U 0]) #[U id,S fa fl fc,S ra rl rc,S wa wl wc,U aS]
abbrev vI(aa:Nat)(H0:Heap)(l:LI)(K:KT):Prop:=
 ∀(m:Int)(n:O)(o p:Nat)(q:O)(r s:Nat)(t:O)(u v:Nat)(w:Int)(x:O)(y z:Nat)(a1 c1:Int)(d1:Bool)(e1:O)(f1 g1:Nat)(h1:Int)(i1:O)(j1 k1:Nat)(l1:O)(m1 n1:Nat)(o1:Bool)(p1:O)(q1 r1:Nat)(s1:O)(t1 u1:Nat)(v1:Heap),(fun w4:AV=>X aa H0 v1->l [A w4] v1->K (T #[A w4,U 0]) [] v1) #[U m,S n o p,S q r s,S t u v,U w,S x y z,U a1,U c1,B d1,S e1 f1 g1,U h1,S i1 j1 k1,S l1 m1 n1,B o1,S p1 q1 r1,S s1 t1 u1]
abbrev vJ(g2:Int)(t1:Heap)(aa:Nat)(K:KT):Prop:=
 ¬g2=0->Y 117 [U g2] t1 fun i2 j2=>Ca i2 aa t1 j2 K
abbrev vtT(w0:List Value)(b0 b1 b2 b3 b4 b5:Nat)(id aS:Int)(fa ra wa:O)(fl fc rl rc wl wc:Nat)(aU ab nx:Int)(ac:Bool)(la ka:O)(ll lc kl kc:Nat)(sa ta:O)(sl sc tl tc:Nat)(up:Bool)(na ma:O)(nl nc ml mc:Nat)(hk hg hn:Int)(fM:Bool)(ha:O)(hl hc:Nat)(aa:Nat)(H0 H:Heap)(K:KT)(Tl:Heap->Prop):Prop:=
 (fun RL:LV=>(fun Wr:LV=>(fun ZY:LV=>(fun Ws:LV=>(fun w21:LV=>(fun Wt:LV=>(fun w19:LB=>∃a:Prop,((hk=3->w19=w19/\ak H H/\a)/\(¬hk=3->w19=w19/\ak H H/\(a↔hk=4)))/\(a->∀b:Nat,(fun w18:LB=>∃c:Prop,((up=false->w18=w18/\ak H H/\c)/\(¬up=false->w18=w18/\ak H H/\(c↔ab=0)))/\(c->sN H aa K)/\(¬c->∃d e,ka=some (D d e none)/\0<=hg/\hg<(kl:Int)/\∃(g h:Int)(i:Bool),(fun wI=>(C H d (e+N hg*3)=some (U g)/\C H d (e+N hg*3+1)=some (U h)/\C H d (e+N hg*3+2)=some (B i)/\True)/\∀j:Nat,(fun QA:LB=>(hk=4->∃k:Prop,((¬g=1->QA=QA/\ak H H/\k)/\(¬¬g=1->∃l,aR Tryz.prog (aI BinOp.neq 4 (Operand.tmp 367) (Operand.tmp 369) (B i) (B ac)) (B l)/\QA=QA/\ak H H/\(k↔l=true)))/\(k->sN H aa K)/\(¬k->∃l:LI,(Y 127 ZY H fun m n=>∃o p q r,m=A #[U o,S p q r]/\(X aa H n->(b3=b3/\0=0)/\∀s:Nat,((ml:Int)<40->∀t:Nat,∃u:List Value,bg aa n 74 6 ma ml mc u/\(ml+1)*56<=140737488355328/\ml+1<=9223372036854775807/\∀(v:O)(w:Nat)(x:Heap),cu aa n x ma mc v w (ml+1)->bg aa x 74 6 v (ml+1) w (u++[U hg,U h,B false,B false,U o,S p q r])->wI=wI/\l [A #[U id,S fa fl fc,S ra rl rc,S wa wl wc,U aS,S la ll lc,U aU,U ab,B ac,S ka kl kc,U nx,S sa sl sc,S ta tl tc,B up,S na nl nc,S v (ml+1) w]] x)/\(¬(ml:Int)<40->wI=wI/\l w21 n)))/\vI aa H0 l K))/\(¬hk=4->∀k:Nat,Y 83 [A #[U id,S fa fl fc,S ra rl rc,S wa wl wc,U aS],A #[S la ll lc,U aU,U ab,B ac,S ka kl kc,U nx],A #[U 6,U hg,U nx,U 0,B false,U 0,S none 0 0]] H fun l m=>∃n o p q r s t u v w,(fun CZ=>∃x,l=T #[A #[S n o p,U q,U r,B s,S t u v,U w],U x]/\(X aa H m->∀y:Nat,(¬x=0->(vJ x m aa K)/\(¬¬x=0->∃z:LI,(Y 127 ZY m fun a1 c1=>∃d1 e1 f1 g1,a1=A #[U d1,S e1 f1 g1]/\(X aa m c1->(b3=b3/\0=0)/\∀h1:Nat,((ml:Int)<40->∀i1:Nat,∃j1:List Value,bg aa c1 74 6 ma ml mc j1/\(ml+1)*56<=140737488355328/\ml+1<=9223372036854775807/\∀(k1:O)(l1:Nat)
 (m1:Heap),cu aa c1 m1 ma mc k1 l1 (ml+1)->bg aa m1 74 6 k1 (ml+1) l1 (j1++[U hg,U nx,B false,B false,U d1,S e1 f1 g1])->CZ=CZ/\z [A #[U id,S fa fl fc,S ra rl rc,S wa wl wc,U aS,S la ll lc,U aU,U ab,B ac,S ka kl kc,U nx,S sa sl sc,S ta tl tc,B up,S na nl nc,S k1 (ml+1) l1]] m1)/\(¬(ml:Int)<40->CZ=CZ/\z w21 c1)))/\vI aa H0 z K))/\(¬¬x=0->Y 119 [A #[S sa sl sc,S ta tl tc],A #[U 6,U hg,U nx,U 0,B false,U 0,S none 0 0]] m fun z a1=>∃c1 d1 e1 f1 g1 h1,(fun wq:LV=>(fun pr=>∃i1,z=T #[A #[S c1 d1 e1,S f1 g1 h1],U i1]/\(X aa m a1->∀j1:Nat,(i1=0->((vJ i1 a1 aa K)/\(¬¬i1=0->∃k1:LI,(Y 127 ZY a1 fun l1 m1=>∃n1 o1 p1 q1,l1=A #[U n1,S o1 p1 q1]/\(X aa a1 m1->(b3=b3/\0=0)/\∀r1:Nat,((ml:Int)<40->∀s1:Nat,∃t1:List Value,bg aa m1 74 6 ma ml mc t1/\(ml+1)*56<=140737488355328/\ml+1<=9223372036854775807/\∀(u1:O)(v1:Nat)(w1:Heap),cu aa m1 w1 ma mc u1 v1 (ml+1)->bg aa w1 74 6 u1 (ml+1) v1 (t1++[U hg,U nx,B false,B false,U n1,S o1 p1 q1])->pr=pr/\k1 [A #[U id,S fa fl fc,S ra rl rc,S wa wl wc,U aS,S n o p,U q,U r,B s,S t u v,U w,S c1 d1 e1,S f1 g1 h1,B up,S na nl nc,S u1 (ml+1) v1]] w1)/\(¬(ml:Int)<40->pr=pr/\k1 wq m1)))/\vI aa H0 k1 K))/\(vJ i1 a1 aa K)/\(¬¬i1=0->∃k1:LI,(Y 127 ZY a1 fun l1 m1=>∃n1 o1 p1 q1,l1=A #[U n1,S o1 p1 q1]/\(X aa a1 m1->(b3=b3/\0=0)/\∀r1:Nat,((ml:Int)<40->∀s1:Nat,∃t1:List Value,bg aa m1 74 6 ma ml mc t1/\(ml+1)*56<=140737488355328/\ml+1<=9223372036854775807/\∀(u1:O)(v1:Nat)(w1:Heap),cu aa m1 w1 ma mc u1 v1 (ml+1)->bg aa w1 74 6 u1 (ml+1) v1 (t1++[U hg,U nx,B false,B false,U n1,S o1 p1 q1])->pr=pr/\k1 [A #[U id,S fa fl fc,S ra rl rc,S wa wl wc,U aS,S n o p,U q,U r,B s,S t u v,U w,S c1 d1 e1,S f1 g1 h1,B up,S na nl nc,S u1 (ml+1) v1]] w1)/\(¬(ml:Int)<40->pr=pr/\k1 wq m1)))/\vI aa H0 k1 K))/\(¬i1=0->(vJ i1 a1 aa K)/\(¬¬i1=
 0->∃k1:LI,(Y 127 ZY a1 fun l1 m1=>∃n1 o1 p1 q1,l1=A #[U n1,S o1 p1 q1]/\(X aa a1 m1->(b3=b3/\0=0)/\∀r1:Nat,((ml:Int)<40->∀s1:Nat,∃t1:List Value,bg aa m1 74 6 ma ml mc t1/\(ml+1)*56<=140737488355328/\ml+1<=9223372036854775807/\∀(u1:O)(v1:Nat)(w1:Heap),cu aa m1 w1 ma mc u1 v1 (ml+1)->bg aa w1 74 6 u1 (ml+1) v1 (t1++[U hg,U nx,B false,B false,U n1,S o1 p1 q1])->pr=pr/\k1 [A #[U id,S fa fl fc,S ra rl rc,S wa wl wc,U aS,S la ll lc,U aU,U ab,B ac,S ka kl kc,U nx,S sa sl sc,S ta tl tc,B up,S na nl nc,S u1 (ml+1) v1]] w1)/\(¬(ml:Int)<40->pr=pr/\k1 w21 m1)))/\vI aa H0 k1 K)))) [w0,Wr,Wt,RL,Ws,[S la ll lc,U aU,U ab,B ac,S ka kl kc,U nx],[U g,U h,B i],[U 6,U hg,U nx,U 0,B false,U 0,S none 0 0],[S n o p,U q,U r,B s,S t u v,U w],[S c1 d1 e1,S f1 g1 h1]]) [A #[U id,S fa fl fc,S ra rl rc,S wa wl wc,U aS,S n o p,U q,U r,B s,S t u v,U w,S c1 d1 e1,S f1 g1 h1,B up,S na nl nc,S ma ml mc]]))) [w0,Wr,Wt,RL,Ws,[S la ll lc,U aU,U ab,B ac,S ka kl kc,U nx],[U g,U h,B i],[U 6,U hg,U nx,U 0,B false,U 0,S none 0 0],[S n o p,U q,U r,B s,S t u v,U w]])) [J b0 false 41 w0,J b1 false 62 Wr,J b2 false 41 Wt,J b3 false 41 [U id,S fa fl fc,S ra rl rc,S wa wl wc,U aS,S la ll lc,U aU,U ab,B ac,S ka kl kc,U nx,S sa sl sc,S ta tl tc,B up,S na nl nc,S ma ml mc],J b4 false 158 RL,J b5 false 162 Ws,J b false 32 [S la ll lc,U aU,U ab,B ac,S ka kl kc,U nx],J j false 95 [U g,U h,B i]]) [w0,Wr,Wt,RL,Ws,[S la ll lc,U aU,U ab,B ac,S ka kl kc,U nx],[U g,U h,B i]])) [J b0 false 41 w0,J b1 false 62 Wr,J b2 false 41 Wt,J b3 false 41 [U id,S fa fl fc,S ra rl rc,S wa wl wc,U aS,S la ll lc,U aU,U ab,B ac,S ka kl kc,U nx,S sa sl sc,S ta tl tc,B up,S na nl nc,S ma ml mc],J b4 false 158 RL,J b5 false 162 Ws,J b false 32 [S la ll lc,U aU,U ab,B ac,S ka kl kc,U nx]])/\(¬a->Tl H)) [J b0
 false 41 w0,J b1 false 62 Wr,J b2 false 41 Wt,J b3 false 41 [U id,S fa fl fc,S ra rl rc,S wa wl wc,U aS,S la ll lc,U aU,U ab,B ac,S ka kl kc,U nx,S sa sl sc,S ta tl tc,B up,S na nl nc,S ma ml mc],J b4 false 158 RL,J b5 false 162 Ws]) [U 0,S none 0 0,S none 0 0,S none 0 0,U 0,S none 0 0,U 0,U 0,B false,S none 0 0,U 0,S none 0 0,S none 0 0,B false,S none 0 0,S none 0 0]) [A #[U id,S fa fl fc,S ra rl rc,S wa wl wc,U aS,S la ll lc,U aU,U ab,B ac,S ka kl kc,U nx,S sa sl sc,S ta tl tc,B up,S na nl nc,S ma ml mc]]) [Value.func (Fn.func 124) #[] #[P (some (D b3 0 none))]]) [A #[S la ll lc,U aU,U ab,B ac,S ka kl kc,U nx]]) [U hk,U hg,U hn,B fM,S ha hl hc]) [Value.func (Fn.func 119) #[] #[]]
abbrev JY(g2:Int)(t1:Heap)(aa:Nat)(K:KT)(na:O)(hg:Int)(nl b3 ml:Nat)(ma:O)(mc:Nat)(id:Int)(fa:O)(fl fc:Nat)(ra:O)(rl rc:Nat)(wa:O)(wl wc:Nat)(aS:Int)(la:O)(ll lc:Nat)(aU ab:Int)(ac:Bool)(ka:O)(kl kc:Nat)(nx:Int)(sa:O)(sl sc:Nat)(ta:O)(tl tc:Nat)(up:Bool)(nc:Nat)(kV:AV):Prop:=
 (vJ g2 t1 aa K)/\(¬¬g2=0->JX na hg nl t1 b3 ml aa ma mc K id fa fl fc ra rl rc wa wl wc aS la ll lc aU ab ac ka kl kc nx sa sl sc ta tl tc up nc kV)
abbrev vK(r2:Heap)(a3 aa c3:Nat)(hg:Int)(u1:O)(v1 w1:Nat)(x1 y1:Int)(z1:Bool)(a2:Int)(c2:O)(d2 e2:Nat)(f2:Bool)(na:O)(nl:Nat)(s2:O)(t2 u2:Nat)(v2:O)(w2 x2:Nat)(y2:Int)(K:KT)(b3 ml:Nat)(ma:O)(mc:Nat)(id:Int)(fa:O)(fl fc:Nat)(ra:O)(rl rc:Nat)(wa:O)(wl wc:Nat)(aS:Int)(la:O)(ll lc:Nat)(aU ab:Int)(ac:Bool)(ka:O)(kl kc:Nat)(nx:Int)(sa:O)(sl sc:Nat)(ta:O)(tl tc:Nat)(up:Bool)(nc:Nat)(kV:AV):Prop:=
 ∃d3:KB,r2 a3=some d3/\KB.free d3=true/\aa<=a3/\c3+N hg*10+7<=KB.size d3/\∀e3:Heap,kW r2 a3 (c3+N hg*10) d3 [S u1 v1 w1,U x1,U y1,B z1,U a2,S c2 d2 e2,B f2] e3->∃f3 g3,na=some (D f3 g3 none)/\0<=hg/\hg<(nl:Int)/\∃h3:KB,e3 f3=some h3/\KB.free h3=true/\aa<=f3/\g3+N hg*10+7+2<=KB.size h3/\∀i3:Heap,kW e3 f3 (g3+N hg*10+7) h3 [S s2 t2 u2,S v2 w2 x2] i3->JY y2 i3 aa K na hg nl b3 ml ma mc id fa fl fc ra rl rc wa wl wc aS la ll lc aU ab ac ka kl kc nx sa sl sc ta tl tc up nc kV
abbrev PR(y2:Int)(na:O)(hg:Int)(nl:Nat)(r2:Heap)(aa:Nat)(u1:O)(v1 w1:Nat)(x1 y1:Int)(z1:Bool)(a2:Int)(c2:O)(d2 e2:Nat)(f2:Bool)(s2:O)(t2 u2:Nat)(v2:O)(w2 x2:Nat)(K:KT)(b3 ml:Nat)(ma:O)(mc:Nat)(id:Int)(fa:O)(fl fc:Nat)(ra:O)(rl rc:Nat)(wa:O)(wl wc:Nat)(aS:Int)(la:O)(ll lc:Nat)(aU ab:Int)(ac:Bool)(ka:O)(kl kc:Nat)(nx:Int)(sa:O)(sl sc:Nat)(ta:O)(tl tc:Nat)(up:Bool)(nc:Nat)(kV:AV):Prop:=
 (y2=0->∃a3 c3,na=some (D a3 c3 none)/\0<=hg/\hg<(nl:Int)/\((vK r2 a3 aa c3 hg u1 v1 w1 x1 y1 z1 a2 c2 d2 e2 f2 na nl s2 t2 u2 v2 w2 x2 y2 K b3 ml ma mc id fa fl fc ra rl rc wa wl wc aS la ll lc aU ab ac ka kl kc nx sa sl sc ta tl tc up nc kV)/\vK r2 a3 aa c3 hg u1 v1 w1 x1 y1 z1 a2 c2 d2 e2 f2 na nl s2 t2 u2 v2 w2 x2 y2 K b3 ml ma mc id fa fl fc ra rl rc wa wl wc aS la ll lc aU ab ac ka kl kc nx sa sl sc ta tl tc up nc kV)/\((vK r2 a3 aa c3 hg u1 v1 w1 x1 y1 z1 a2 c2 d2 e2 f2 na nl s2 t2 u2 v2 w2 x2 y2 K b3 ml ma mc id fa fl fc ra rl rc wa wl wc aS la ll lc aU ab ac ka kl kc nx sa sl sc ta tl tc up nc kV)/\vK r2 a3 aa c3 hg u1 v1 w1 x1 y1 z1 a2 c2 d2 e2 f2 na nl s2 t2 u2 v2 w2 x2 y2 K b3 ml ma mc id fa fl fc ra rl rc wa wl wc aS la ll lc aU ab ac ka kl kc nx sa sl sc ta tl tc up nc kV)/\vK r2 a3 aa c3 hg u1 v1 w1 x1 y1 z1 a2 c2 d2 e2 f2 na nl s2 t2 u2 v2 w2 x2 y2 K b3 ml ma mc id fa fl fc ra rl rc wa wl wc aS la ll lc aU ab ac ka kl kc nx sa sl sc ta tl tc up nc kV)/\(¬y2=0->JY y2 r2 aa K na hg nl b3 ml ma mc id fa fl fc ra rl rc wa wl wc aS la ll lc aU ab ac ka kl kc nx sa sl sc ta tl tc up nc kV)
abbrev Lj(g2:Int)(t1:Heap)(aa:Nat)(K:KT)(na:O)(hg:Int)(nl b3 ml:Nat)(ma:O)(mc:Nat)(id:Int)(fa:O)(fl fc:Nat)(ra:O)(rl rc:Nat)(wa:O)(wl wc:Nat)(aS:Int)(la:O)(ll lc:Nat)(aU ab:Int)(ac:Bool)(ka:O)(kl kc:Nat)(nx:Int)(sa:O)(sl sc:Nat)(ta:O)(tl tc:Nat)(up:Bool)(nc:Nat)(kV:AV)(u1:O)(v1 w1:Nat)(x1 y1:Int)(z1:Bool)(a2:Int)(c2:O)(d2 e2:Nat)(f2:Bool)(yK:AV):Prop:=
 (¬g2=0->JY g2 t1 aa K na hg nl b3 ml ma mc id fa fl fc ra rl rc wa wl wc aS la ll lc aU ab ac ka kl kc nx sa sl sc ta tl tc up nc kV)/\(¬¬g2=0->∃i2 j2,na=some (D i2 j2 none)/\0<=hg/\hg<(nl:Int)/\∃(k2:O)(l2 m2:Nat)(n2:O)(o2 p2:Nat),(fun RL:LV=>(An t1 i2 j2 hg k2 l2 m2 n2 o2 p2)/\(Y 119 RL t1 fun q2 r2=>∃s2 t2 u2 v2 w2 x2 y2,q2=T #[A #[S s2 t2 u2,S v2 w2 x2],U y2]/\(X aa t1 r2->∀z2:Nat,PR y2 na hg nl r2 aa u1 v1 w1 x1 y1 z1 a2 c2 d2 e2 f2 s2 t2 u2 v2 w2 x2 K b3 ml ma mc id fa fl fc ra rl rc wa wl wc aS la ll lc aU ab ac ka kl kc nx sa sl sc ta tl tc up nc kV))/\∀q2:Nat,Y 119 RL t1 fun r2 s2=>∃t2 u2 v2 w2 x2 y2 z2,r2=T #[A #[S t2 u2 v2,S w2 x2 y2],U z2]/\(X aa t1 s2->PR z2 na hg nl s2 aa u1 v1 w1 x1 y1 z1 a2 c2 d2 e2 f2 t2 u2 v2 w2 x2 y2 K b3 ml ma mc id fa fl fc ra rl rc wa wl wc aS la ll lc aU ab ac ka kl kc nx sa sl sc ta tl tc up nc kV)) [A #[S k2 l2 m2,S n2 o2 p2],A yK])
abbrev Cc(r2:Heap)(a3 aa c3:Nat)(hg:Int)(u1:O)(v1 w1:Nat)(x1 y1:Int)(z1:Bool)(a2:Int)(c2:O)(d2 e2:Nat)(f2:Bool)(na:O)(nl:Nat)(s2:O)(t2 u2:Nat)(v2:O)(w2 x2:Nat)(y2:Int)(K:KT)(w5 kV:AV):Prop:=
 ∃d3:KB,r2 a3=some d3/\KB.free d3=true/\aa<=a3/\c3+N hg*10+7<=KB.size d3/\∀e3:Heap,kW r2 a3 (c3+N hg*10) d3 [S u1 v1 w1,U x1,U y1,B z1,U a2,S c2 d2 e2,B f2] e3->∃f3 g3,na=some (D f3 g3 none)/\0<=hg/\hg<(nl:Int)/\∃h3:KB,e3 f3=some h3/\KB.free h3=true/\aa<=f3/\g3+N hg*10+7+2<=KB.size h3/\∀i3:Heap,kW e3 f3 (g3+N hg*10+7) h3 [S s2 t2 u2,S v2 w2 x2] i3->vH y2 K w5 i3 kV
abbrev Ll(y2:Int)(na:O)(hg:Int)(nl:Nat)(r2:Heap)(aa:Nat)(u1:O)(v1 w1:Nat)(x1 y1:Int)(z1:Bool)(a2:Int)(c2:O)(d2 e2:Nat)(f2:Bool)(s2:O)(t2 u2:Nat)(v2:O)(w2 x2:Nat)(K:KT)(w5 kV:AV):Prop:=
 (y2=0->∃a3 c3,na=some (D a3 c3 none)/\0<=hg/\hg<(nl:Int)/\((Cc r2 a3 aa c3 hg u1 v1 w1 x1 y1 z1 a2 c2 d2 e2 f2 na nl s2 t2 u2 v2 w2 x2 y2 K w5 kV)/\Cc r2 a3 aa c3 hg u1 v1 w1 x1 y1 z1 a2 c2 d2 e2 f2 na nl s2 t2 u2 v2 w2 x2 y2 K w5 kV)/\((Cc r2 a3 aa c3 hg u1 v1 w1 x1 y1 z1 a2 c2 d2 e2 f2 na nl s2 t2 u2 v2 w2 x2 y2 K w5 kV)/\Cc r2 a3 aa c3 hg u1 v1 w1 x1 y1 z1 a2 c2 d2 e2 f2 na nl s2 t2 u2 v2 w2 x2 y2 K w5 kV)/\Cc r2 a3 aa c3 hg u1 v1 w1 x1 y1 z1 a2 c2 d2 e2 f2 na nl s2 t2 u2 v2 w2 x2 y2 K w5 kV)/\(¬y2=0->vH y2 K w5 r2 kV)
abbrev PS(g2:Int)(K:KT)(t1:Heap)(kV:AV)(na:O)(hg:Int)(nl aa:Nat)(u1:O)(v1 w1:Nat)(x1 y1:Int)(z1:Bool)(a2:Int)(c2:O)(d2 e2:Nat)(f2:Bool)(yJ:AV):Prop:=
 (¬g2=0->∀i2:Nat,(Ap g2 K t1)/\(¬¬g2=0->K (T kV) [] t1))/\(¬¬g2=0->∃i2 j2,na=some (D i2 j2 none)/\0<=hg/\hg<(nl:Int)/\∃(k2:O)(l2 m2:Nat)(n2:O)(o2 p2:Nat),(fun w7:LV=>(An t1 i2 j2 hg k2 l2 m2 n2 o2 p2)/\(Y 119 w7 t1 fun q2 r2=>∃s2 t2 u2 v2 w2 x2 y2,(fun w5:AV=>q2=T #[A #[S s2 t2 u2,S v2 w2 x2],U y2]/\(X aa t1 r2->∀z2:Nat,Ll y2 na hg nl r2 aa u1 v1 w1 x1 y1 z1 a2 c2 d2 e2 f2 s2 t2 u2 v2 w2 x2 K w5 kV)) #[A #[U 0,S none 0 0,S none 0 0,S none 0 0,U 0,S none 0 0,U 0,U 0,B false,S none 0 0,U 0,S none 0 0,S none 0 0,B false,S none 0 0,S none 0 0],U y2])/\∀q2:Nat,Y 119 w7 t1 fun r2 s2=>∃t2 u2 v2 w2 x2 y2 z2,(fun w6:AV=>r2=T #[A #[S t2 u2 v2,S w2 x2 y2],U z2]/\(X aa t1 s2->Ll z2 na hg nl s2 aa u1 v1 w1 x1 y1 z1 a2 c2 d2 e2 f2 t2 u2 v2 w2 x2 y2 K w6 kV)) #[A #[U 0,S none 0 0,S none 0 0,S none 0 0,U 0,S none 0 0,U 0,U 0,B false,S none 0 0,U 0,S none 0 0,S none 0 0,B false,S none 0 0,S none 0 0],U z2]) [A #[S k2 l2 m2,S n2 o2 p2],A yJ])
abbrev vtS(w0:List Value)(b0 b1 b2 b3 b4 b5:Nat)(id aS:Int)(fa ra wa:O)(fl fc rl rc wl wc:Nat)(aU ab nx:Int)(ac:Bool)(la ka:O)(ll lc kl kc:Nat)(sa ta:O)(sl sc tl tc:Nat)(up:Bool)(na ma:O)(nl nc ml mc:Nat)(hk hg hn:Int)(fM:Bool)(ha:O)(hl hc:Nat)(aa:Nat)(H:Heap)(K:KT):Prop:=
 (fun kV:AV=>∃a b,na=some (D a b none)/\0<=hg/\hg<(nl:Int)/\∃(c:O)(d e:Nat)(g h:Int),(fun yK:AV=>(fun yJ:AV=>∃(i:Bool)(j:Int)(k:O)(l m:Nat)(n:Bool)(o:O)(p q:Nat)(r:O)(s t:Nat)(u:Bool),(C H a (b+N hg*10)=some (S c d e)/\C H a (b+N hg*10+1)=some (U g)/\C H a (b+N hg*10+2)=some (U h)/\C H a (b+N hg*10+3)=some (B i)/\C H a (b+N hg*10+4)=some (U j)/\C H a (b+N hg*10+5)=some (S k l m)/\C H a (b+N hg*10+6)=some (B n)/\C H a (b+N hg*10+7)=some (S o p q)/\C H a (b+N hg*10+8)=some (S r s t)/\C H a (b+N hg*10+9)=some (B u)/\True)/\∀v:Nat,(fun qj:LB=>∃w:Prop,((u=false->qj=qj/\ak H H/\w)/\(¬u=false->∃x,aR Tryz.prog (aI BinOp.neq 4 (Operand.tmp 412) (Operand.tmp 415) (B i) (B (decide (hk=7)))) (B x)/\(x=true->qj=qj/\ak H H/\w)/\(¬x=true->qj=qj/\ak H H/\(w↔h=0))))/\(w->sN H aa K)/\(¬w->(hk=8->JX na hg nl H b3 ml aa ma mc K id fa fl fc ra rl rc wa wl wc aS la ll lc aU ab ac ka kl kc nx sa sl sc ta tl tc up nc kV)/\(¬hk=8->Y 128 [S c d e,S k l m] H fun x y=>∃z a1 c1 d1,x=T #[S z a1 c1,U d1]/\(X aa H y->(0<(a1:Int)->∀e1:Nat,∃f1 g1,na=some (D f1 g1 none)/\0<=hg/\hg<(nl:Int)/\∃(h1:O)(i1 j1:Nat)(k1 l1:Int)(m1:Bool)(n1:Int)(o1:O)(p1 q1:Nat)(r1:Bool),(fun ui:LV=>(Ao y f1 g1 hg h1 i1 j1 k1 l1 m1 n1 o1 p1 q1 r1)/\(Y 85 ui y fun s1 t1=>∃u1 v1 w1 x1 y1 z1 a2 c2 d2 e2 f2 g2,s1=T #[A #[S u1 v1 w1,U x1,U y1,B z1,U a2,S c2 d2 e2,B f2],U g2]/\(X aa y t1->∀h2:Nat,PS g2 K t1 kV na hg nl aa u1 v1 w1 x1 y1 z1 a2 c2 d2 e2 f2 yJ))/\∀s1:Nat,Y 85 ui y fun t1 u1=>∃v1 w1 x1 y1 z1 a2 c2 d2 e2 f2 g2 h2,t1=T #[A #[S v1 w1 x1,U y1,U z1,B a2,U c2,S d2 e2 f2,B g2],U h2]/\(X aa y u1->PS h2 K u1 kV na hg nl aa v1 w1 x1 y1 z1 a2 c2 d2 e2 f2 g2 yJ)) [A #[S h1 i1 j1,U k1,U l1,B m1,U n1,S o1 p1 q1,B r1],A yJ])/\(¬0<(a1:Int)->∀e1:Nat,∃f1 g1,na=some (D f1 g1 none)/\0<=hg/\hg<
 (nl:Int)/\∃(h1:O)(i1 j1:Nat)(k1 l1:Int)(m1:Bool)(n1:Int)(o1:O)(p1 q1:Nat)(r1:Bool),(fun mI:LV=>(Ao y f1 g1 hg h1 i1 j1 k1 l1 m1 n1 o1 p1 q1 r1)/\(Y 85 mI y fun s1 t1=>∃u1 v1 w1 x1 y1 z1 a2 c2 d2 e2 f2 g2,s1=T #[A #[S u1 v1 w1,U x1,U y1,B z1,U a2,S c2 d2 e2,B f2],U g2]/\(X aa y t1->∀h2:Nat,Lj g2 t1 aa K na hg nl b3 ml ma mc id fa fl fc ra rl rc wa wl wc aS la ll lc aU ab ac ka kl kc nx sa sl sc ta tl tc up nc kV u1 v1 w1 x1 y1 z1 a2 c2 d2 e2 f2 yK))/\∀s1:Nat,Y 85 mI y fun t1 u1=>∃v1 w1 x1 y1 z1 a2 c2 d2 e2 f2 g2 h2,t1=T #[A #[S v1 w1 x1,U y1,U z1,B a2,U c2,S d2 e2 f2,B g2],U h2]/\(X aa y u1->Lj h2 u1 aa K na hg nl b3 ml ma mc id fa fl fc ra rl rc wa wl wc aS la ll lc aU ab ac ka kl kc nx sa sl sc ta tl tc up nc kV v1 w1 x1 y1 z1 a2 c2 d2 e2 f2 g2 yK)) [A #[S h1 i1 j1,U k1,U l1,B m1,U n1,S o1 p1 q1,B r1],A yK]))))) [J b0 false 41 w0,J b1 false 62 [U hk,U hg,U hn,B fM,S ha hl hc],J b2 false 41 [U 0,S none 0 0,S none 0 0,S none 0 0,U 0,S none 0 0,U 0,U 0,B false,S none 0 0,U 0,S none 0 0,S none 0 0,B false,S none 0 0,S none 0 0],J b3 false 41 [U id,S fa fl fc,S ra rl rc,S wa wl wc,U aS,S la ll lc,U aU,U ab,B ac,S ka kl kc,U nx,S sa sl sc,S ta tl tc,B up,S na nl nc,S ma ml mc],J b4 false 158 [Value.func (Fn.func 119) #[] #[]],J b5 false 162 [Value.func (Fn.func 124) #[] #[P (some (D b3 0 none))]],J v false 58 [S c d e,U g,U h,B i,U j,S k l m,B n,S o p q,S r s t,B u]]) #[U 2,U 0,U h,U 0,B false,U 0,S none 0 0]) #[U 3,U 0,U h,U 0,B fM,U 0,S none 0 0]) #[A #[U id,S fa fl fc,S ra rl rc,S wa wl wc,U aS,S la ll lc,U aU,U ab,B ac,S ka kl kc,U nx,S sa sl sc,S ta tl tc,B up,S na nl nc,S ma ml mc],U 0]
abbrev Aq(nl:Nat)(na:O)(h:Heap)(j:List Value):Prop:=
 nl=0∨∃k l,na=some (D k l none)/\ba h k l 0 j
abbrev E5(aa:Nat)(h:Heap)(g nl:Nat)(na:O)(ml:Nat)(ma:O)(w7:LL)(e:LI)(id:Int)(fa:O)(fl fc:Nat)(ra:O)(rl rc:Nat)(wa:O)(wl wc:Nat)(aS:Int)(la:O)(ll lc:Nat)(aU ab:Int)(ac:Bool)(ka:O)(kl kc:Nat)(nx:Int)(sa:O)(sl sc:Nat)(ta:O)(tl tc:Nat)(up:Bool):Prop:=
 ∃i j:List Value,bg aa h 58 10 (some (D g 0 none)) 0 0 i/\zo j=nl*10/\aM j=true/\(Aq nl na h j)/\(0+nl)*144<=140737488355328/\0+nl<=9223372036854775807/\∀(k:O)(l:Nat)(m:Heap),cu aa h m (some (D g 0 none)) 0 k l (0+nl)->bg aa m 58 10 k (0+nl) l (i++j)->∀(n:Nat)(o:Heap),X aa m o->m n=none->o n=some (ay 74 [])->∃p q:List Value,bg aa o 74 6 (some (D n 0 none)) 0 0 p/\zo q=ml*6/\aM q=true/\(Aq ml ma o q)/\(0+ml)*56<=140737488355328/\0+ml<=9223372036854775807/\∀(r:O)(s:Nat)(t:Heap),cu aa o t (some (D n 0 none)) 0 r s (0+ml)->bg aa t 74 6 r (0+ml) s (p++q)->w7=w7/\e [A #[U id,S fa fl fc,S ra rl rc,S wa wl wc,U aS,S la ll lc,U aU,U ab,B ac,S ka kl kc,U nx,S sa sl sc,S ta tl tc,B up,S k (0+nl) l,S r (0+ml) s]] t
abbrev rV(aa:Nat)(j:Heap)(g nl:Nat)(na:O)(i ml:Nat)(ma:O)(w7:LL)(e:LI)(id:Int)(fa:O)(fl fc:Nat)(ra:O)(rl rc:Nat)(wa:O)(wl wc:Nat)(aS:Int)(la:O)(ll lc:Nat)(aU ab:Int)(ac:Bool)(ka:O)(kl kc:Nat)(nx:Int)(sa:O)(sl sc:Nat)(ta:O)(tl tc:Nat)(up:Bool):Prop:=
 ∃k l:List Value,bg aa j 58 10 (some (D g 0 none)) 0 0 k/\zo l=nl*10/\aM l=true/\(Aq nl na j l)/\(0+nl)*144<=140737488355328/\0+nl<=9223372036854775807/\∀(m:O)(n:Nat)(o:Heap),cu aa j o (some (D g 0 none)) 0 m n (0+nl)->bg aa o 58 10 m (0+nl) n (k++l)->∃p q:List Value,bg aa o 74 6 (some (D i 0 none)) 0 0 p/\zo q=ml*6/\aM q=true/\(Aq ml ma o q)/\(0+ml)*56<=140737488355328/\0+ml<=9223372036854775807/\∀(r:O)(s:Nat)(t:Heap),cu aa o t (some (D i 0 none)) 0 r s (0+ml)->bg aa t 74 6 r (0+ml) s (p++q)->w7=w7/\e [A #[U id,S fa fl fc,S ra rl rc,S wa wl wc,U aS,S la ll lc,U aU,U ab,B ac,S ka kl kc,U nx,S sa sl sc,S ta tl tc,B up,S m (0+nl) n,S r (0+ml) s]] t
theorem vq34{id:Int}{rl:Nat}{aU ab nx:Int}{ac:Bool}{la ka:O}{ll lc kl kc:Nat}{sa ta:O}{sl sc tl tc:Nat}{up:Bool}{na ma:O}{nl nc ml mc:Nat}{hk hg hn:Int}{fM:Bool}:
 (fV TryzMutsQ Tryz.f34 aa H [.v (A #[U id,S fa fl fc,S ra rl rc,S wa wl wc,U aS,S la ll lc,U aU,U ab,B ac,S ka kl kc,U nx,S sa sl sc,S ta tl tc,B up,S na nl nc,S ma ml mc]),.v (A #[U hk,U hg,U hn,B fM,S ha hl hc])] [] K)=(
 (fun tu:LV=>(fun w9:LV=>(fun w8:LV=>(fun w7:LL=>∀a b c d:Nat,(fun w6:LV=>∃e:LI,((∀(g:Nat)(h:Heap),X aa H h->H g=none->h g=some (ay 58 [])->(E5 aa h g nl na ml ma w7 e id fa fl fc ra rl rc wa wl wc aS la ll lc aU ab ac ka kl kc nx sa sl sc ta tl tc up)/\(∀(i:Nat)(j:Heap),X aa h j->h i=none->j i=some (ay 74 [])->(rV aa j g nl na i ml ma w7 e id fa fl fc ra rl rc wa wl wc aS la ll lc aU ab ac ka kl kc nx sa sl sc ta tl tc up)/\rV aa j g nl na i ml ma w7 e id fa fl fc ra rl rc wa wl wc aS la ll lc aU ab ac ka kl kc nx sa sl sc ta tl tc up)/\(E5 aa h g nl na ml ma w7 e id fa fl fc ra rl rc wa wl wc aS la ll lc aU ab ac ka kl kc nx sa sl sc ta tl tc up)/\∀(i:Nat)(j:Heap),X aa h j->h i=none->j i=some (ay 74 [])->rV aa j g nl na i ml ma w7 e id fa fl fc ra rl rc wa wl wc aS la ll lc aU ab ac ka kl kc nx sa sl sc ta tl tc up)/\(∀(g:Nat)(h:Heap),X aa H h->H g=none->h g=some (ay 74 [])->(∀(i:Nat)(j:Heap),X aa h j->h i=none->j i=some (ay 58 [])->(rV aa j i nl na g ml ma w7 e id fa fl fc ra rl rc wa wl wc aS la ll lc aU ab ac ka kl kc nx sa sl sc ta tl tc up)/\rV aa j i nl na g ml ma w7 e id fa fl fc ra rl rc wa wl wc aS la ll lc aU ab ac ka kl kc nx sa sl sc ta tl tc up)/\∀(i:Nat)(j:Heap),X aa h j->h i=none->j i=some (ay 58 [])->rV aa j i nl na g ml ma w7 e id fa fl fc ra rl rc wa wl wc aS la ll lc aU ab ac ka kl kc nx sa sl sc ta tl tc up)/\(∀(g:Nat)(h:Heap),X aa H h->H g=none->h g=some (ay 58 [])->(E5 aa h g nl na ml ma w7 e id fa fl fc ra rl rc wa wl wc aS la ll lc aU ab ac ka kl kc nx sa sl sc ta tl tc up)/\∀(i:Nat)(j:Heap),X aa h j->h i=none->j i=some (ay 74 [])->rV aa j g nl na i ml ma w7 e id fa fl fc ra rl rc wa wl wc aS la ll lc aU ab ac ka kl kc nx sa sl sc ta tl tc up)/\∀(g:Nat)(h:Heap),X aa H h->H g=none->h g=some (ay 74 [])->∀(i:Nat)(j:Heap),X aa h j->h i=none->j i=some
 (ay 58 [])->rV aa j i nl na g ml ma w7 e id fa fl fc ra rl rc wa wl wc aS la ll lc aU ab ac ka kl kc nx sa sl sc ta tl tc up)/\∀(g:Int)(h:O)(i j:Nat)(k:O)(l m:Nat)(n:O)(o p:Nat)(q:Int)(r:O)(s t:Nat)(u v:Int)(w:Bool)(x:O)(y z:Nat)(a1:Int)(b1:O)(c1 d1:Nat)(e1:O)(f1 g1:Nat)(h1:Bool)(i1:O)(j1 k1:Nat)(l1:O)(m1 n1:Nat)(o1:Heap),X aa H o1->e [A #[U g,S h i j,S k l m,S n o p,U q,S r s t,U u,U v,B w,S x y z,U a1,S b1 c1 d1,S e1 f1 g1,B h1,S i1 j1 k1,S l1 m1 n1]] o1->∀p1 q1:Nat,(fun w5:LB=>∃r1:Prop,((hk=9->w5=w5/\ak o1 o1/\(r1↔hk=9))/\(¬hk=9->(hk=10->w5=w5/\ak o1 o1/\(r1↔hk=10))/\(¬hk=10->w5=w5/\ak o1 o1/\(r1↔hk=11))))/\(r1->∀s1:Int,s1=W Z ((m1:Int)-1)->Y 92 [U hn,U 0,U s1] o1 fun t1 u1=>∃v1,t1=B v1/\(X aa o1 u1->(v1=false->Y 117 [U 5] u1 fun w1 x1=>Ca w1 aa u1 x1 K)/\(¬v1=false->∃w1 x1,l1=some (D w1 x1 none)/\0<=hn/\hn<(m1:Int)/\∃(y1 z1:Int)(a2 b2:Bool)(c2:Int)(d2:O)(e2 f2:Nat),(fun w4:LL=>(C u1 w1 (x1+N hn*6)=some (U y1)/\C u1 w1 (x1+N hn*6+1)=some (U z1)/\C u1 w1 (x1+N hn*6+2)=some (B a2)/\C u1 w1 (x1+N hn*6+3)=some (B b2)/\C u1 w1 (x1+N hn*6+4)=some (U c2)/\C u1 w1 (x1+N hn*6+5)=some (S d2 e2 f2)/\True)/\∀g2:Nat,(¬hk=10->∃h2:LI,(0<=hn/\hn<=(n1:Int)/\∀i2:Int,i2=W Z (hn+1)->0<=i2/\i2<=(m1:Int)/\m1<=n1/\∀j2:O,(i2<(n1:Int)->j2=zA (fun k2=>Addr.add k2 (N i2*6)) l1)->∀(k2:Nat)(l2:Heap),X aa u1 l2->u1 k2=none->l2 k2=some (ay 39 [S l1 (N hn) n1,S j2 (m1-N i2) (n1-N i2)])->Y 126 [S (some (D k2 0 none)) 2 2] l2 fun m2 n2=>∃o2 p2 q2,m2=S o2 p2 q2/\(X aa l2 n2->w4=w4/\h2 [A #[U g,S h i j,S k l m,S n o p,U q,S r s t,U u,U v,B w,S x y z,U a1,S b1 c1 d1,S e1 f1 g1,B h1,S i1 j1 k1,S o2 p2 q2]] n2))/\∀(i2:Int)(j2:O)(k2 l2:Nat)(m2:O)(n2 o2:Nat)(p2:O)(q2 r2:Nat)(s2:Int)(t2:O)(u2 v2:Nat)(w2 x2:Int)(y2:Bool)(z2:O)(a3 b3:Nat)(c3:Int)(d3:O)(e3 f3:Nat)(g3:O)(h3
 i3:Nat) (j3:Bool) (k3:O) (l3 m3:Nat) (n3:O) (o3 p3:Nat) (q3:Heap),X aa H q3->h2 [A #[U i2,S j2 k2 l2,S m2 n2 o2,S p2 q2 r2,U s2,S t2 u2 v2,U w2,U x2,B y2,S z2 a3 b3,U c3,S d3 e3 f3,S g3 h3 i3,B j3,S k3 l3 m3,S n3 o3 p3]] q3->vtH w8 a b c d p1 q1 g2 y1 z1 c2 a2 b2 d2 e2 f2 i2 s2 j2 m2 p2 k2 l2 n2 o2 q2 r2 w2 x2 c3 y2 t2 z2 u2 v2 a3 b3 d3 g3 e3 f3 h3 i3 j3 k3 n3 l3 m3 o3 p3 hk hg hn fM ha hl hc aa q3 K)/\(¬¬hk=10->vtH w8 a b c d p1 q1 g2 y1 z1 c2 a2 b2 d2 e2 f2 g q h k n i j l m o p u v a1 w r x s t y z b1 e1 c1 d1 f1 g1 h1 i1 l1 j1 k1 m1 n1 hk hg hn fM ha hl hc aa u1 K)) [w8,tu,w9,[Value.func (Fn.func 119) #[] #[]],w6,[U y1,U z1,B a2,B b2,U c2,S d2 e2 f2]])))/\(¬r1->∃s1:Prop,((hk=1->w5=w5/\ak o1 o1/\(s1↔hk=1))/\(¬hk=1->(hk=2->w5=w5/\ak o1 o1/\(s1↔hk=2))/\(¬hk=2->(hk=5->w5=w5/\ak o1 o1/\(s1↔hk=5))/\(¬hk=5->w5=w5/\ak o1 o1/\(s1↔hk=6)))))/\(s1->vtK g q h k n i j l m o p u v a1 w r x s t y z b1 e1 c1 d1 f1 g1 h1 i1 l1 j1 k1 m1 n1 hk hg hn fM ha hl hc aa o1 K)/\(¬s1->vtR w8 a b c d p1 q1 g q h k n i j l m o p u v a1 w r x s t y z b1 e1 c1 d1 f1 g1 h1 i1 l1 j1 k1 m1 n1 hk hg hn fM ha hl hc aa o1 K (fun t1=>vtT w8 a b c d p1 q1 g q h k n i j l m o p u v a1 w r x s t y z b1 e1 c1 d1 f1 g1 h1 i1 l1 j1 k1 m1 n1 hk hg hn fM ha hl hc aa H t1 K (fun u1=>vtS w8 a b c d p1 q1 g q h k n i j l m o p u v a1 w r x s t y z b1 e1 c1 d1 f1 g1 h1 i1 l1 j1 k1 m1 n1 hk hg hn fM ha hl hc aa u1 K))))) [J a false 41 w8,J b false 62 tu,J c false 41 w9,J d false 41 [U g,S h i j,S k l m,S n o p,U q,S r s t,U u,U v,B w,S x y z,U a1,S b1 c1 d1,S e1 f1 g1,B h1,S i1 j1 k1,S l1 m1 n1],J p1 false 158 [Value.func (Fn.func 119) #[] #[]],J q1 false 162 w6]) [Value.func (Fn.func 124) #[] #[P (some (D d 0 none))]]) [w8,tu,w9]) [U id,S fa fl fc,S ra rl rc,S wa wl wc,U aS,S la ll lc,U aU,U ab,B ac,S ka kl kc,U nx,S sa sl sc,S ta tl tc,B up,S na nl nc,S ma ml mc]) [U 0,S none 0 0,S none 0 0,S none 0 0,U 0,S none 0 0,U 0,U 0,B
 false,S none 0 0,U 0,S none 0 0,S none 0 0,B false,S none 0 0,S none 0 0]) [U hk,U hg,U hn,B fM,S ha hl hc]):=by kernel_rfl
open Go Go.Proofs
theorem pk(h:¬bU w.c w.h.l r=0):eJ w r= .error (bU w.c w.h.l r):=by unfold eJ;rw[pI h]
theorem po(h:bU w.c w.h.l r=0)(h2:¬bN (aY w.h.d r)=0):eJ w r= .error (bN (aY w.h.d r)):=by
 unfold eJ;rw[nI (by omega)]
 cases hd:aY w.h.d r with
 |ok d=>rw[hd] at h2;exact absurd rfl h2
 |error e=>rfl
theorem np(h:bU w.c w.h.l r=0)(h2:bN (aY w.h.d r)=0):eJ w r= .ok { w with h:=⟨iG w.c w.h.l r,kM (aY w.h.d r),w.h.up⟩ } :=by
 unfold eJ iG;rw[nI (by omega),pI h]
 cases hd:aY w.h.d r with
 |ok d=>rfl
 |error e=>rw[hd] at h2;exact absurd h2 (ig hd)
theorem kp{p:Prop}(h:¬¬p):p:=Classical.not_not.1 h
set_option maxHeartbeats 1000000 in
theorem ZZ{rows:List (List Value)}(hL:Lb G)(hR:cU w)(hO:HO aa G H w p rows fb)(hx:aL G ha hl x.ap)(hk:x.ae=1∨x.ae=2∨x.ae=5∨x.ae=6):
  vtK w.c.first.id w.c.aS p.fa p.ra p.wa p.fl p.fc p.rl p.rc p.wl p.wc w.h.l.aU w.h.l.ab w.h.l.nx w.h.l.ac p.la p.ka p.ll p.lc p.kl p.kc p.sa p.ta p.sl p.sc p.tl p.tc w.h.up p.na p.ma p.nl p.nc p.ml p.mc x.ae x.ah x.cj x.aP ha hl hc aa H (fun v _ H'=>∃p',v= .tuple #[cO (okW (bO w x)) p',i64 (bN (bO w x))]/\bB H' (okW (bO w x)) p'):=by
 have TL:bj w.h.d=0:=hR.head.rN;have jy:aL G none 0 []:=Sl.nil;unfold vtK;have hE:bO w x=if w.h.up=false then .error 7 else eJ w (lK w x):=by unfold bO;rw[nI (by omega),nI (by omega),pI hk]
 refine⟨fun hu=>?_,fun hu=>?_⟩
 ·rw[hE,pI hu];refine(ov 7).mono fun v Ha ea hv=>?_;subst hv;exact⟨_,_,_,_,_,_,_,_,_,_,_,_,_,_,_,_,_,_,_,_,_,_,_,_,_,_,_,_,_,_,_,_,_,_,_,rfl,fun E6=>⟨hY,rfl,bB.zero⟩⟩
 have hu:w.h.up=true:=by simpa using hu
 have Ii:=hO.ji.bJ.len;have Ng:=(sJ hR.ji).many;intro r hr b;have hr:r=(w.h.l.bJ.length:Int)+1:=by rw[hr,aj];omega
 refine⟨fun h2=>fun b0=>?_,fun h2=>⟨fun h5=>fun b0=>?_,fun h5=>⟨fun h6=>fun b0=>?_,fun h6=>fun b0=>?_⟩⟩⟩
 ·have hK:bO w x=eJ w ⟨5,0,0,x.cj,false,⟨0,[]⟩⟩:=by rw[hE,nI (by rw[hu];simp)];unfold lK;rw[nI (by omega),pI h2]
  refine((lJ (r:=⟨5,0,0,x.cj,false,⟨0,[]⟩⟩) (qc:=0) hO.iw hO.ji jy).grown hO.dH.sub).mono fun v Ha ea hv=>?_;obtain⟨Ga,ga,yE,yF,sX,yG,yH,sY,rfl,hA⟩:=hv;refine⟨_,_,_,_,_,_,_,_,_,_,_,rfl,fun E6=>fun b1=>⟨fun he=>?_,fun he=>?_⟩⟩
  ·have hW:=pk (w:=w) he;rw[hK,hW];exact fun b4=>⟨fun _=>⟨hY,rfl,bB.zero⟩,fun h=>absurd (kp h) he⟩
  have he:=kp he;refine((mW (r:=⟨5,0,0,x.cj,false,⟨0,[]⟩⟩) (qc:=0) (hL.ext ga.ext) (hO.iD.ext ga.ext) (jy.ext' ga.ext) TL).grown ga.sub).mono fun v Hb eb hv=>?_;obtain⟨Gb,gb,Fv,CE,Fw,HK,HL,HM,rfl,hD⟩:=hv;refine⟨_,_,_,_,_,_,_,rfl,fun Lm=>fun b2=>⟨fun jn=>?_,fun jn=>?_⟩⟩
  ·have hW:=np (w:=w) he jn;have vR:=(hO.grown (ga.trans gb)).head (up:=w.h.up) (lc:=sX) (kc:=sY) (hA.ext gb.ext) (hD jn);rw[hK,hW];exact⟨fun b3=>⟨fun h=>absurd jn h,fun _=>⟨{ p with la:=yE,ll:=yF,lc:=sX,ka:=yG,kl:=yH,kc:=sY,sa:=Fv,sl:=CE,sc:=Fw,ta:=HK,tl:=HL,tc:=HM },rfl,vR.ck⟩⟩,fun b3=>⟨fun h=>absurd jn h,fun _=>⟨{ p with la:=yE,ll:=yF,lc:=sX,ka:=yG,kl:=yH,kc:=sY,sa:=Fv,sl:=CE,sc:=Fw,ta:=HK,tl:=HL,tc:=HM },rfl,vR.ck⟩⟩⟩
  ·have hW:=po (w:=w) he jn;rw[hK,hW];exact fun b4=>⟨fun _=>⟨hY,rfl,bB.zero⟩,fun h=>absurd (kp h) jn⟩
 ·have hK:bO w x=eJ w ⟨8,0,0,0,false,⟨0,[]⟩⟩:=by rw[hE,nI (by rw[hu];simp)];unfold lK;rw[nI (by omega),nI h2,pI h5]
  refine((lJ (r:=⟨8,0,0,0,false,⟨0,[]⟩⟩) (qc:=0) hO.iw hO.ji jy).grown hO.dH.sub).mono fun v Ha ea hv=>?_;obtain⟨Ga,ga,yE,yF,sX,yG,yH,sY,rfl,hA⟩:=hv;refine⟨_,_,_,_,_,_,_,_,_,_,_,rfl,fun E6=>fun b1=>⟨fun he=>?_,fun he=>?_⟩⟩
  ·have hW:=pk (w:=w) he;rw[hK,hW];exact fun b4=>⟨fun _=>⟨hY,rfl,bB.zero⟩,fun h=>absurd (kp h) he⟩
  have he:=kp he;refine((mW (r:=⟨8,0,0,0,false,⟨0,[]⟩⟩) (qc:=0) (hL.ext ga.ext) (hO.iD.ext ga.ext) (jy.ext' ga.ext) TL).grown ga.sub).mono fun v Hb eb hv=>?_;obtain⟨Gb,gb,Fv,CE,Fw,HK,HL,HM,rfl,hD⟩:=hv;refine⟨_,_,_,_,_,_,_,rfl,fun Lm=>fun b2=>⟨fun jn=>?_,fun jn=>?_⟩⟩
  ·have hW:=np (w:=w) he jn;have vR:=(hO.grown (ga.trans gb)).head (up:=w.h.up) (lc:=sX) (kc:=sY) (hA.ext gb.ext) (hD jn);rw[hK,hW];exact⟨fun b3=>⟨fun h=>absurd jn h,fun _=>⟨{ p with la:=yE,ll:=yF,lc:=sX,ka:=yG,kl:=yH,kc:=sY,sa:=Fv,sl:=CE,sc:=Fw,ta:=HK,tl:=HL,tc:=HM },rfl,vR.ck⟩⟩,fun b3=>⟨fun h=>absurd jn h,fun _=>⟨{ p with la:=yE,ll:=yF,lc:=sX,ka:=yG,kl:=yH,kc:=sY,sa:=Fv,sl:=CE,sc:=Fw,ta:=HK,tl:=HL,tc:=HM },rfl,vR.ck⟩⟩⟩
  ·have hW:=po (w:=w) he jn;rw[hK,hW];exact fun b4=>⟨fun _=>⟨hY,rfl,bB.zero⟩,fun h=>absurd (kp h) jn⟩
 ·have hK:bO w x=eJ w ⟨9,0,0,0,false,⟨0,[]⟩⟩:=by rw[hE,nI (by rw[hu];simp)];unfold lK;rw[nI (by omega),nI h2,nI h5]
  refine((lJ (r:=⟨9,0,0,0,false,⟨0,[]⟩⟩) (qc:=0) hO.iw hO.ji jy).grown hO.dH.sub).mono fun v Ha ea hv=>?_;obtain⟨Ga,ga,yE,yF,sX,yG,yH,sY,rfl,hA⟩:=hv;refine⟨_,_,_,_,_,_,_,_,_,_,_,rfl,fun E6=>fun b1=>⟨fun he=>?_,fun he=>?_⟩⟩
  ·have hW:=pk (w:=w) he;rw[hK,hW];exact fun b4=>⟨fun _=>⟨hY,rfl,bB.zero⟩,fun h=>absurd (kp h) he⟩
  have he:=kp he;refine((mW (r:=⟨9,0,0,0,false,⟨0,[]⟩⟩) (qc:=0) (hL.ext ga.ext) (hO.iD.ext ga.ext) (jy.ext' ga.ext) TL).grown ga.sub).mono fun v Hb eb hv=>?_;obtain⟨Gb,gb,Fv,CE,Fw,HK,HL,HM,rfl,hD⟩:=hv;refine⟨_,_,_,_,_,_,_,rfl,fun Lm=>fun b2=>⟨fun jn=>?_,fun jn=>?_⟩⟩
  ·have hW:=np (w:=w) he jn;have vR:=(hO.grown (ga.trans gb)).head (up:=w.h.up) (lc:=sX) (kc:=sY) (hA.ext gb.ext) (hD jn);rw[hK,hW];exact⟨fun b3=>⟨fun h=>absurd jn h,fun _=>⟨{ p with la:=yE,ll:=yF,lc:=sX,ka:=yG,kl:=yH,kc:=sY,sa:=Fv,sl:=CE,sc:=Fw,ta:=HK,tl:=HL,tc:=HM },rfl,vR.ck⟩⟩,fun b3=>⟨fun h=>absurd jn h,fun _=>⟨{ p with la:=yE,ll:=yF,lc:=sX,ka:=yG,kl:=yH,kc:=sY,sa:=Fv,sl:=CE,sc:=Fw,ta:=HK,tl:=HL,tc:=HM },rfl,vR.ck⟩⟩⟩
  ·have hW:=po (w:=w) he jn;rw[hK,hW];exact fun b4=>⟨fun _=>⟨hY,rfl,bB.zero⟩,fun h=>absurd (kp h) jn⟩
 ·subst hr;have hK:bO w x=eJ w ⟨4,0,0,0,false,⟨w.h.l.bJ.length+1,x.ap⟩⟩:=by rw[hE,nI (by rw[hu];simp)];unfold lK;rw[pI (by omega)]
  refine((lJ (r:=⟨4,0,0,0,false,⟨w.h.l.bJ.length+1,x.ap⟩⟩) (qc:=hc) hO.iw hO.ji hx).grown hO.dH.sub).mono fun v Ha ea hv=>?_;obtain⟨Ga,ga,yE,yF,sX,yG,yH,sY,rfl,hA⟩:=hv;refine⟨_,_,_,_,_,_,_,_,_,_,_,rfl,fun E6=>fun b1=>⟨fun he=>?_,fun he=>?_⟩⟩
  ·have hW:=pk (w:=w) he;rw[hK,hW];exact fun b4=>⟨fun _=>⟨hY,rfl,bB.zero⟩,fun h=>absurd (kp h) he⟩
  have he:=kp he;refine((mW (r:=⟨4,0,0,0,false,⟨w.h.l.bJ.length+1,x.ap⟩⟩) (qc:=hc) (hL.ext ga.ext) (hO.iD.ext ga.ext) (hx.ext' ga.ext) TL).grown ga.sub).mono fun v Hb eb hv=>?_;obtain⟨Gb,gb,Fv,CE,Fw,HK,HL,HM,rfl,hD⟩:=hv;refine⟨_,_,_,_,_,_,_,rfl,fun Lm=>fun b2=>⟨fun jn=>?_,fun jn=>?_⟩⟩
  ·have hW:=np (w:=w) he jn;have vR:=(hO.grown (ga.trans gb)).head (up:=w.h.up) (lc:=sX) (kc:=sY) (hA.ext gb.ext) (hD jn);rw[hK,hW];exact⟨fun b3=>⟨fun h=>absurd jn h,fun _=>⟨{ p with la:=yE,ll:=yF,lc:=sX,ka:=yG,kl:=yH,kc:=sY,sa:=Fv,sl:=CE,sc:=Fw,ta:=HK,tl:=HL,tc:=HM },rfl,vR.ck⟩⟩,fun b3=>⟨fun h=>absurd jn h,fun _=>⟨{ p with la:=yE,ll:=yF,lc:=sX,ka:=yG,kl:=yH,kc:=sY,sa:=Fv,sl:=CE,sc:=Fw,ta:=HK,tl:=HL,tc:=HM },rfl,vR.ck⟩⟩⟩
  ·have hW:=po (w:=w) he jn;rw[hK,hW];exact fun b4=>⟨fun _=>⟨hY,rfl,bB.zero⟩,fun h=>absurd (kp h) jn⟩
set_option maxHeartbeats 2000000 in
theorem Z0{w1:cY}{rows:List (List Value)}{pa:O}{pl pc:Nat}{n:ke}{b6:Nat}(hL:Lb G)(TL:bj w1.h.d=0)(Mg:bj n.d=0)(hk6:k<6)(Z1:1<=m.au/\m.au<=200)(TK:bu w1.m=0)
  (hO:HO aa G H w1 p rows fb) (Z2:aL G pa pl m.cB.ap) (Rb:m.ah=(k:Int)) (hn:w1.n[k]?=some n) (Z3:x.ae=11->bO w x= .ok w1)
  (hEqN:¬x.ae=11->bO w x=if(m.rep=true/\w1.h.up=false)∨(m.rep=false/\n.up=false) then .error 7 else if m.rep=true then .ok (fU w1 (eJ w1 ⟨7,(k:Int),m.au,0,m.aP,⟨0,[]⟩⟩)) else if m.au=n.a.au/\n.a.going=false then .ok (gL w1 (eQ k n.a)) else .ok (fU w1 (gq w1 k ⟨1,0,m.au,0,false,m.cB⟩))):
  vtH W0 b0 b1 b2 b3 b4 b5 b6 m.ah m.au m.cB.id m.rep m.aP pa pl pc w1.c.first.id w1.c.aS p.fa p.ra p.wa p.fl p.fc p.rl p.rc p.wl p.wc w1.h.l.aU w1.h.l.ab w1.h.l.nx w1.h.l.ac p.la p.ka p.ll p.lc p.kl p.kc p.sa p.ta p.sl p.sc p.tl p.tc w1.h.up p.na p.ma p.nl p.nc p.ml p.mc x.ae x.ah x.cj x.aP ha hl hc aa H (fun v _ H'=>∃p',v= .tuple #[cO (okW (bO w x)) p',i64 (bN (bO w x))]/\bB H' (okW (bO w x)) p'):=by
 have jy:aL G none 0 []:=Sl.nil;rw[Rb];unfold vtH;refine⟨fun EQ=>?_,fun EQ=>?_⟩
 ·rw[Z3 EQ];exact⟨p,rfl,hO.ck⟩
 have Wu:=hEqN EQ;obtain⟨y,kb,q,nQ,B2,tR,EX,dj,qu,gJ,fH,hq,cI⟩:=hO.dH.nodeAt hn;have cc:∀ {H1:Heap},aH H H1->∀j v,(bR n q)[j]?=some v->H1.cell y (0+Int.toNat (k:Int)*10+j)=some v:=fun e j v hj=>Heap.aJ e (by rw[zz,zS];exact cI j v hj);have hle:=(hO.dH.sl dW.mono (by omega)).le;refine⟨y,0,nQ,by omega,by omega,_,_,_,_,_,_,_,_,_,_,_,⟨cc (aH.refl _) 0 _ rfl,cc (aH.refl _) 1 _ rfl,cc (aH.refl _) 2 _ rfl,cc (aH.refl _) 3 _ rfl,cc (aH.refl _) 4 _ rfl,cc (aH.refl _) 5 _ rfl,cc (aH.refl _) 6 _ rfl,trivial⟩,fun bn=>?_⟩
 refine⟨(m.rep=true/\w1.h.up=false)∨(m.rep=false/\n.up=false),⟨m.rep=true/\w1.h.up=false,⟨fun hr=>⟨rfl,dD,⟨fun h=>h.2,fun h=>⟨hr,h⟩⟩⟩,fun hr=>⟨rfl,dD,fun h=>by rw[hr] at h;cases h.1⟩⟩,fun h=>⟨rfl,dD,⟨fun _=>h,fun _=> .inl h⟩⟩,
  fun h=>⟨m.rep=false/\n.up=false,⟨fun hr=>⟨y,0,nQ,by omega,by omega,_,cc (aH.refl _) 9 _ rfl,rfl,dD,⟨fun h=>h.2,fun h=>⟨hr,h⟩⟩⟩,fun hr=>⟨rfl,dD,fun h=>hr h.1⟩⟩,rfl,dD,⟨fun h2=>h2.resolve_left h,.inr⟩⟩⟩,fun fT=>?_,fun HN=>?_⟩
 ·rw[Wu,pI fT];refine(ov 7).mono fun v Ha ea hv=>?_;subst hv;exact⟨_,_,_,_,_,_,_,_,_,_,_,_,_,_,_,_,_,_,_,_,_,_,_,_,_,_,_,_,_,_,_,_,_,_,_,rfl,fun E6=>⟨hY,rfl,bB.zero⟩⟩
 refine⟨fun hr=>fun b0=>?_,fun hr=>?_⟩
 ·refine((lJ (r:=⟨7,(k:Int),m.au,0,m.aP,⟨0,[]⟩⟩) (qc:=0) hO.iw hO.ji jy).grown hO.dH.sub).mono fun v Ha ea hv=>?_;obtain⟨Ga,ga,yE,yF,sX,yG,yH,sY,rfl,hA⟩:=hv;refine⟨_,_,_,_,_,_,_,_,_,_,_,rfl,fun E6=>fun b1=>⟨fun he=>?_,fun he=>?_⟩⟩
  ·have hW:=pk (w:=w1) he;have hX:bO w x= .ok w1:=by rw[Wu,nI HN,pI hr,hW];rfl
   rw[hX];exact⟨p,rfl,(hO.ext ea).ck⟩
  have he:=kp he;refine((mW (r:=⟨7,(k:Int),m.au,0,m.aP,⟨0,[]⟩⟩) (qc:=0) (hL.ext ga.ext) (hO.iD.ext ga.ext) (jy.ext' ga.ext) TL).grown ga.sub).mono fun v Hb eb hv=>?_;obtain⟨Gb,gb,Fv,CE,Fw,HK,HL,HM,rfl,hD⟩:=hv;refine⟨_,_,_,_,_,_,_,rfl,fun Lm=>fun b2=>⟨fun jn=>?_,fun jn=>?_⟩⟩
  ·have hW:=np (w:=w1) he jn;have vR:=(hO.grown (ga.trans gb)).head (up:=w1.h.up) (lc:=sX) (kc:=sY) (hA.ext gb.ext) (hD jn);have hX:=(Wu.trans (nI HN)).trans (pI hr);rw[hX,hW];exact⟨⟨{ p with la:=yE,ll:=yF,lc:=sX,ka:=yG,kl:=yH,kc:=sY,sa:=Fv,sl:=CE,sc:=Fw,ta:=HK,tl:=HL,tc:=HM },rfl,vR.ck⟩,⟨{ p with la:=yE,ll:=yF,lc:=sX,ka:=yG,kl:=yH,kc:=sY,sa:=Fv,sl:=CE,sc:=Fw,ta:=HK,tl:=HL,tc:=HM },rfl,vR.ck⟩⟩
  ·have hW:=po (w:=w1) he jn;have hX:bO w x= .ok w1:=by rw[Wu,nI HN,pI hr,hW];rfl
   rw[hX];exact⟨p,rfl,((hO.ext ea).ext eb).ck⟩
 have we:¬m.rep=true:=by rw[hr];simp
 refine⟨m.au=n.a.au/\n.a.going=false,⟨fun ht=>⟨rfl,dD,⟨fun h=>h.2,fun h=>⟨ht.symm,h⟩⟩⟩,fun ht=>⟨rfl,dD,fun h=>ht h.1.symm⟩⟩,fun hs=>?_,fun hs=>fun bz=>?_⟩
 ·have hX:bO w x= .ok (gL w1 (eQ k n.a)):=by rw[Wu,nI HN,nI we,pI hs]
  rw[hX,nS TK (JV hk6 (by rw[←hs.1];exact Z1.1) (by rw[←hs.1];exact Z1.2))];have Oo:=hO.cZ.row.1;have V3:=(hO.cZ.mb (by omega)).2;have JZ:=(cM.1 TK).1;refine⟨⟨y,0,nQ,by omega,by omega,_,cc (aH.refl _) 2 _ rfl,y,0,nQ,by omega,by omega,_,cc (aH.refl _) 6 _ rfl,?_⟩,y,0,nQ,by omega,by omega,_,cc (aH.refl _) 6 _ rfl,y,0,nQ,by omega,by omega,_,cc (aH.refl _) 2 _ rfl,?_⟩
  all_goals
   refine⟨⟨rfl,rfl⟩,fun bp=>⟨fun Ev=>fun bl=>⟨fb.flatten,hO.cZ.row,by omega,by omega,fun a' c' Hp hG RM=>?_⟩,fun Ev=>?_⟩⟩
   ·have Z4:=hO.post (m:=eQ k n.a) (qa:=none) (ql:=0) (qc:=0) hG RM Sl.nil;rw[pI (by omega)];exact⟨{ p with ma:=a',ml:=p.ml+1,mc:=c' },rfl,Z4⟩
   ·rw[nI (by omega)];exact⟨p,rfl,hO.ck⟩
 ·have hX:bO w x= .ok (fU w1 (gq w1 k ⟨1,0,m.au,0,false,m.cB⟩)):=by rw[Wu,nI HN,nI we,nI hs]
  rw[hX];have RN:gq w1 k ⟨1,0,m.au,0,false,m.cB⟩=match dV n ⟨1,0,m.au,0,false,m.cB⟩ with| .error e=> .error e| .ok n'=> .ok { w1 with n:=w1.n.set k n' } :=by unfold gq;rw[hn];rfl
  rw[RN];refine⟨y,0,nQ,by omega,by omega,_,_,_,_,_,_,_,_,_,_,_,⟨cc (aH.refl _) 0 _ rfl,cc (aH.refl _) 1 _ rfl,cc (aH.refl _) 2 _ rfl,cc (aH.refl _) 3 _ rfl,cc (aH.refl _) 4 _ rfl,cc (aH.refl _) 5 _ rfl,cc (aH.refl _) 6 _ rfl,trivial⟩,?_⟩;refine⟨?_,fun bd0=>?_⟩
  all_goals
   refine((vx (r:=⟨1,0,m.au,0,false,m.cB⟩) (rc:=pc) hq.ap hq.ab Z2).grown hO.dH.sub).mono fun v Ha ea hv=>?_;obtain⟨Ga,ga,Wv,Ww,Wx,Pl,Wy,Pm,rfl,Ft,Ln⟩:=hv;refine⟨_,_,_,_,_,_,_,_,_,_,_,_,rfl,fun E6=>?_⟩
   try intro bd1
   refine⟨fun he=>?_,fun he=>?_⟩
   ·have hX:dV n ⟨1,0,m.au,0,false,m.cB⟩= .error (bw n.a ⟨1,0,m.au,0,false,m.cB⟩):=by unfold dV;rw[pI he]
    rw[hX];exact⟨p,rfl,(hO.ext ea).ck⟩
   have he:=kp he;have hV:dS n.a ⟨1,0,m.au,0,false,m.cB⟩=bW n.a ⟨1,0,m.au,0,false,m.cB⟩:=by unfold dS;rw[pI he]
   rw[hV] at Ft Ln⊢;refine⟨y,0,nQ,by omega,by omega,_,_,_,_,_,_,⟨cc ea 7 _ rfl,cc ea 8 _ rfl,trivial⟩,?_⟩;refine⟨?_,fun bd2=>?_⟩
   all_goals
    refine((mW (r:=⟨1,0,m.au,0,false,m.cB⟩) (qc:=pc) (hL.ext ga.ext) (hq.iD.ext ga.ext) (Z2.ext' ga.ext) Mg).grown ga.sub).mono fun v Hb eb hv=>?_;obtain⟨Gb,gb,Z5,Z6,Z7,Z8,Z9,vc1,rfl,hD⟩:=hv;refine⟨_,_,_,_,_,_,_,rfl,fun Lm=>?_⟩
    try intro bd3
    refine⟨fun jn=>?_,fun jn=>?_⟩
    ·obtain⟨d1,yB⟩:∃d1,aY n.d ⟨1,0,m.au,0,false,m.cB⟩= .ok d1:=by
      cases yB:aY n.d ⟨1,0,m.au,0,false,m.cB⟩ with
      |ok d1=>exact⟨d1,rfl⟩
      |error e=>rw[yB] at jn;exact absurd jn (ig yB)
     have hD1:cr Gb d1 Z5 Z6 Z7 Z8 Z9 vc1:=by have:=hD jn;rw[yB] at this;exact this
     have hX:dV n ⟨1,0,m.au,0,false,m.cB⟩= .ok ⟨bW n.a ⟨1,0,m.au,0,false,m.cB⟩,d1,n.up⟩:=by unfold dV;rw[nI (by omega),yB]
     have PT:=hO.grown (ga.trans gb);have E7:Hb y=some kb:=(ga.trans gb).cR _ _ EX;refine⟨y,0,nQ,by omega,by omega,?_⟩
     repeat'
      first
      |exact PT.JW hn (Ft.ext' gb.ext) (Ln.ext' gb.ext) hD1 nQ tR E7 dj B2 gJ qu fun H2 B6 vR=>(by rw[hX];exact⟨p,rfl,vR.ck⟩)
      |refine⟨?_,?_⟩
    ·have hX:dV n ⟨1,0,m.au,0,false,m.cB⟩= .error (bN (aY n.d ⟨1,0,m.au,0,false,m.cB⟩)):=by
      unfold dV;rw[nI (by omega)]
      cases yB:aY n.d ⟨1,0,m.au,0,false,m.cB⟩ with
      |ok d1=>rw[yB] at jn;exact absurd rfl jn
      |error e=>rfl
     rw[hX];exact⟨p,rfl,((hO.ext ea).ext eb).ck⟩
open Go Go.Proofs
theorem Ar(b:Bool):decide (b=false)= !b:=by cases b<;>rfl
theorem TM{k:Int}{b:Bool}(h:k=12∨k=13)(hb:(b !=decide (k=12))=true):b=decide (k=13):=by
 rcases h with rfl|rfl<;>cases b<;>simp at hb⊢
theorem TN{k:Int}{b:Bool}(h:k=12∨k=13)(hb:¬(b !=decide (k=12))=true):¬b=decide (k=13):=by
 rcases h with rfl|rfl<;>cases b<;>simp at hb⊢
set_option maxHeartbeats 2000000 in
theorem Vv{rows:List (List Value)}{T:Heap->Prop}(hL:Lb G)(hR:cU w)(hO:HO aa G H w p rows fb)
  (h9:¬(x.ae=9∨x.ae=10∨x.ae=11)) (h1:¬(x.ae=1∨x.ae=2∨x.ae=5∨x.ae=6)) (hT:∀H',aH H H'->(1<=x.ae/\x.ae<=13)->¬(x.ae=12∨x.ae=13)->0<=x.ah->x.ah<w.n.length->T H'):
  vtR W0 b0 b1 b2 b3 b4 b5 w.c.first.id w.c.aS p.fa p.ra p.wa p.fl p.fc p.rl p.rc p.wl p.wc w.h.l.aU w.h.l.ab w.h.l.nx w.h.l.ac p.la p.ka p.ll p.lc p.kl p.kc p.sa p.ta p.sl p.sc p.tl p.tc w.h.up p.na p.ma p.nl p.nc p.ml p.mc x.ae x.ah x.cj x.aP ha hl hc aa H (fun v _ H'=>∃p',v= .tuple #[cO (okW (bO w x)) p',i64 (bN (bO w x))]/\bB H' (okW (bO w x)) p') T:=by
 unfold vtR;have Ah:=hO.dH.mb (by omega);have hle:=(hO.dH.sl dW.mono (by omega)).le;refine(uY x.ae 1 13).aO fun H1 e1 fh=>⟨fun hb=>?_,fun hb=>?_⟩
 ·have hX:bO w x= .error 4:=by
   have:¬(1<=x.ae/\x.ae<=13):=fun h=>by simp[me,h.1,h.2] at hb
   unfold bO;rw[nI (by omega),nI (by omega),nI (by omega),pI (by omega)]
  rw[hX];refine(ov 4).mono fun v Ha ea hv=>?_;subst hv;exact⟨_,_,_,_,_,_,_,_,_,_,_,_,_,_,_,_,_,_,_,_,_,_,_,_,_,_,_,_,_,_,_,_,_,_,_,rfl,fun E6=>⟨hY,rfl,bB.zero⟩⟩
 have RO:1<=x.ae/\x.ae<=13:=by simpa[me] using hb
 replace hO:=hO.ext e1
 refine⟨x.ae=12∨x.ae=13,⟨fun h=>⟨rfl,dD,.inl h⟩,fun h=>⟨rfl,dD,⟨fun h2=>h2.resolve_left h,.inr⟩⟩⟩,(p.nl:Int)<=x.ah∨(x.ah<0/\¬(x.ae=12∨x.ae=13)),
  ⟨fun h=>⟨rfl,dD,.inl h⟩,fun h=>⟨fun h2=>⟨rfl,dD,⟨fun h3=>(h3.resolve_left h).2,fun h3=> .inr ⟨h2,h3⟩⟩⟩,fun h2=>⟨rfl,dD,fun h3=>h3.elim h fun h4=>h2 h4.1⟩⟩⟩,fun fT=>?_,fun fT=>⟨fun MV=>fun bz=>?_,fun MV=>?_⟩⟩
 ·have hX:bO w x= .error 5:=by
   unfold bO;rw[nI (by omega),nI (by omega),nI (by omega),nI (by omega),pI (by omega)]
  rw[hX];refine(ov 5).mono fun v Ha ea hv=>?_;subst hv;exact⟨_,_,_,_,_,_,_,_,_,_,_,_,_,_,_,_,_,_,_,_,_,_,_,_,_,_,_,_,_,_,_,_,_,_,_,rfl,fun E6=>⟨hY,rfl,bB.zero⟩⟩
 ·have hP:bO w x=fL w x:=by
   unfold bO;rw[nI (by omega),nI (by omega),nI (by omega),nI (by omega),nI (by omega),nI (by omega),pI (by omega)]
  refine⟨fun h0=>?_,fun h0=>?_⟩
  ·obtain⟨k,mi⟩:∃k:Nat,x.ah=(k:Int):=⟨x.ah.toNat,by omega⟩
   rw[mi];obtain⟨n,hn⟩:∃n,w.n[k]?=some n:=⟨_,zu (show k<w.n.length by omega)⟩
   have Mg:bj n.d=0:=(hR.node n (zt hn)).rN
   have hE:bO w x=if n.up=decide (x.ae=13) then .error 7 else match az w.c.first (if x.ae=12 then [] else aX n.d) with
     | .error e=> .error e
     | .ok s=> .ok { w with n:=w.n.set k ⟨s,if x.ae=12 then n.d else dT n.d,!n.up⟩ } :=by
    rw[hP];unfold fL;rw[nI (by omega),mi,zz,hn]
    show(if n.up=decide (x.ae=13) then Except.error 7 else if bj n.d≠0 then .error (bj n.d) else _)=_
    rw[nI (show¬bj n.d≠0 by omega)];rfl
   obtain⟨y,kb,q,nQ,B2,tR,EX,dj,qu,gJ,fH,hq,cI⟩:=hO.dH.nodeAt hn;have cc:∀j v,(bR n q)[j]?=some v->H1.cell y (0+Int.toNat (k:Int)*10+j)=some v:=fun j v hj=>by rw[zz,zS];exact cI j v hj
   refine⟨y,0,nQ,by omega,by omega,_,cc 9 _ rfl,y,0,nQ,by omega,by omega,_,_,_,_,_,_,⟨cc 7 _ rfl,cc 8 _ rfl,trivial⟩,_,mV,fun B4=>?_,fun B4=>?_⟩
   ·rw[hE,pI (TM MV B4)];refine(ov 7).mono fun v Ha ea hv=>?_;subst hv;exact⟨_,_,_,_,_,_,_,_,_,_,_,_,_,_,_,_,_,_,_,_,_,_,_,_,_,_,_,_,_,_,_,_,_,_,_,rfl,fun E6=>⟨hY,rfl,bB.zero⟩⟩
   rw[nI (TN MV B4)] at hE;refine⟨fun ZO=>?_,fun ZO=>?_⟩
   ·rw[nI (show¬x.ae=12 by omega),nI (show¬x.ae=12 by omega)] at hE;refine((ux hL hq.iD Mg).grown hO.dH.sub).mono fun v Ha ea hv=>?_;obtain⟨Ga,ga,ra1,rn1,rc1,rb1,rm1,rd1,re1,rp1,rq1,rfl,hD,hle,hRe⟩:=hv;have Vw:=hO.grown ga;refine⟨_,_,_,_,_,_,_,_,_,rfl,fun E6=>⟨fun qF=>?_,fun qF=>?_⟩⟩
    ·exact absurd qF (by omega)
    ·refine((uB (f:=w.c.first) Vw.iw.pins hRe).grown Vw.dH.sub).mono fun v Hb eb hv=>?_;obtain⟨Gb,gb,Wv,Ww,Wx,Pl,Wy,Pm,rfl,Ft,Ln⟩:=hv;have PT:=Vw.grown gb;obtain⟨y2,Pz,q2,qi,E7,Vx,PU,J0,PA,Vy,PV,lf,Vz⟩:=PT.dH.nodeAt hn;refine⟨_,_,_,_,_,_,_,_,_,_,_,_,rfl,fun Lm=>fun b3=>⟨y2,0,qi,by omega,by omega,Pz,PU,J0,E7,by rw[zz];omega,fun H2 hu=>fun b4=>⟨fun he=>?_,fun he=>?_⟩⟩⟩
     ·have hX:bO w x= .error (bN (az w.c.first (aX n.d))):=by
       rw[hE]
       cases hr:az w.c.first (aX n.d) with
       |ok s=>rw[hr] at he;exact absurd rfl he
       |error e=>rfl
      rw[hX];exact⟨hY,rfl,bB.zero⟩
     ·obtain⟨s,hs⟩:∃s,az w.c.first (aX n.d)= .ok s:=by
       cases hr:az w.c.first (aX n.d) with
       |ok s=>exact⟨s,rfl⟩
       |error e=>rw[hr] at he;exact absurd (kp he) (fZ hr)
      rw[hs] at Ft Ln hu;have hX:bO w x= .ok { w with n:=w.n.set k ⟨s,dT n.d,!n.up⟩ } :=by rw[hE,hs]
      rw[hX];exact⟨p,rfl,(PT.put (o:=0+Int.toNat (k:Int)*10) PV (off:=0) (by simp) (by rw[zz];omega) qi Vx PU hu (y:=⟨s,dT n.d,!n.up⟩) ⟨⟨Wv,Ww,Wx,Pl,Wy,Pm,ra1,rn1,rc1,rb1,rm1,rd1⟩,by rw[Ar];rfl,⟨Ft,Ln,hD.ext gb.ext⟩⟩).ck⟩
   ·rw[pI (show x.ae=12 by omega),pI (show x.ae=12 by omega)] at hE;refine⟨fun qF=>absurd qF (by omega),fun qF=>?_⟩;refine((uB (f:=w.c.first) hO.iw.pins (Sl.nil:nV G none 0 [])).grown hO.dH.sub).mono fun v Hb eb hv=>?_;obtain⟨Gb,gb,Wv,Ww,Wx,Pl,Wy,Pm,rfl,Ft,Ln⟩:=hv;have PT:=hO.grown gb;obtain⟨y2,Pz,q2,qi,E7,Vx,PU,J0,PA,Vy,PV,lf,Vz⟩:=PT.dH.nodeAt hn;refine⟨_,_,_,_,_,_,_,_,_,_,_,_,rfl,fun Lm=>fun b3=>⟨y2,0,qi,by omega,by omega,Pz,PU,J0,E7,by rw[zz];omega,fun H2 hu=>fun b4=>⟨fun he=>?_,fun he=>?_⟩⟩⟩
    ·have hX:bO w x= .error (bN (az w.c.first [])):=by
      rw[hE]
      cases hr:az w.c.first [] with
      |ok s=>rw[hr] at he;exact absurd rfl he
      |error e=>rfl
     rw[hX];exact⟨hY,rfl,bB.zero⟩
    ·obtain⟨s,hs⟩:∃s,az w.c.first []= .ok s:=by
      cases hr:az w.c.first [] with
      |ok s=>exact⟨s,rfl⟩
      |error e=>rw[hr] at he;exact absurd (kp he) (fZ hr)
     rw[hs] at Ft Ln hu;have hX:bO w x= .ok { w with n:=w.n.set k ⟨s,n.d,!n.up⟩ } :=by rw[hE,hs]
     rw[hX];exact⟨p,rfl,(PT.put (o:=0+Int.toNat (k:Int)*10) PV (off:=0) (by simp) (by rw[zz];omega) qi Vx PU hu (y:=⟨s,n.d,!n.up⟩) ⟨⟨Wv,Ww,Wx,Pl,Wy,Pm,q.ua,q.ul,q.uc,q.va,q.vl,q.vc⟩,by rw[Ar];rfl,⟨Ft,Ln,hq.iD.ext gb.ext⟩⟩).ck⟩
  ·have Mg:bj w.h.d=0:=hR.head.rN
   have hE:bO w x=if w.h.up=decide (x.ae=13) then .error 7 else match aB w.c (if x.ae=12 then [] else aX w.h.d) with
     | .error e=> .error e
     | .ok s=> .ok { w with h:=⟨s,if x.ae=12 then w.h.d else dT w.h.d,!w.h.up⟩ } :=by
    rw[hP];unfold fL;rw[pI (by omega),nI (show¬bj w.h.d≠0 by omega)];rfl
   refine⟨_,mV,fun B4=>?_,fun B4=>?_⟩
   ·rw[hE,pI (TM MV B4)];refine(ov 7).mono fun v Ha ea hv=>?_;subst hv;exact⟨_,_,_,_,_,_,_,_,_,_,_,_,_,_,_,_,_,_,_,_,_,_,_,_,_,_,_,_,_,_,_,_,_,_,_,rfl,fun E6=>⟨hY,rfl,bB.zero⟩⟩
   rw[nI (TN MV B4)] at hE;refine⟨fun ZO=>?_,fun ZO=>?_⟩
   ·rw[nI (show¬x.ae=12 by omega),nI (show¬x.ae=12 by omega)] at hE;refine((ux hL hO.iD Mg).grown hO.dH.sub).mono fun v Ha ea hv=>?_;obtain⟨Ga,ga,ra1,rn1,rc1,rb1,rm1,rd1,re1,rp1,rq1,rfl,hD,hle,hRe⟩:=hv;have Vw:=hO.grown ga;refine⟨_,_,_,_,_,_,_,_,_,rfl,fun E6=>⟨fun qF=>?_,fun qF=>?_⟩⟩
    ·refine((rL Vw.iw hRe).grown Vw.dH.sub).mono fun v Hb eb hv=>?_;obtain⟨Gb,gb,yE,yF,sX,yG,yH,sY,rfl,hA⟩:=hv;refine⟨_,_,_,_,_,_,_,_,_,_,_,rfl,fun Lm=>fun b2 b3=>⟨fun he=>?_,fun he=>?_⟩⟩
     ·have hX:bO w x= .error (bN (aB w.c (aX w.h.d))):=by
       rw[hE]
       cases hr:aB w.c (aX w.h.d) with
       |ok s=>rw[hr] at he;exact absurd rfl he
       |error e=>rfl
      rw[hX];exact⟨hY,rfl,bB.zero⟩
     ·obtain⟨s,hs⟩:∃s,aB w.c (aX w.h.d)= .ok s:=by
       cases hr:aB w.c (aX w.h.d) with
       |ok s=>exact⟨s,rfl⟩
       |error e=>rw[hr] at he;exact absurd (kp he) (fY hr)
      rw[hs] at hA⊢;have hX:bO w x= .ok { w with h:=⟨s,dT w.h.d,!w.h.up⟩ } :=by rw[hE,hs]
      rw[hX];exact⟨{ p with la:=yE,ll:=yF,lc:=sX,ka:=yG,kl:=yH,kc:=sY,sa:=ra1,sl:=rn1,sc:=rc1,ta:=rb1,tl:=rm1,tc:=rd1 },by rw[Ar];rfl,((Vw.grown gb).head (l:=s) (d:=dT w.h.d) (up:= !w.h.up) (lc:=sX) (kc:=sY) hA (hD.ext gb.ext)).ck⟩
    ·exact absurd (by omega) qF
   ·rw[pI (show x.ae=12 by omega),pI (show x.ae=12 by omega)] at hE;refine⟨fun qF=>?_,fun qF=>absurd (by omega) qF⟩;refine((rL hO.iw (Sl.nil:nV G none 0 [])).grown hO.dH.sub).mono fun v Hb eb hv=>?_;obtain⟨Gb,gb,yE,yF,sX,yG,yH,sY,rfl,hA⟩:=hv;refine⟨_,_,_,_,_,_,_,_,_,_,_,rfl,fun Lm=>fun b2 b3=>⟨fun he=>?_,fun he=>?_⟩⟩
    ·have hX:bO w x= .error (bN (aB w.c [])):=by
      rw[hE]
      cases hr:aB w.c [] with
      |ok s=>rw[hr] at he;exact absurd rfl he
      |error e=>rfl
     rw[hX];exact⟨hY,rfl,bB.zero⟩
    ·obtain⟨s,hs⟩:∃s,aB w.c []= .ok s:=by
      cases hr:aB w.c [] with
      |ok s=>exact⟨s,rfl⟩
      |error e=>rw[hr] at he;exact absurd (kp he) (fY hr)
     rw[hs] at hA⊢;have hX:bO w x= .ok { w with h:=⟨s,w.h.d,!w.h.up⟩ } :=by rw[hE,hs]
     rw[hX];exact⟨{ p with la:=yE,ll:=yF,lc:=sX,ka:=yG,kl:=yH,kc:=sY },by rw[Ar];rfl,((hO.grown gb).head (l:=s) (d:=w.h.d) (up:= !w.h.up) (lc:=sX) (kc:=sY) hA (hO.iD.ext gb.ext)).ck⟩
 ·exact hT H1 e1 RO MV (by omega) (by omega)
open Go Go.Proofs
theorem RP{c:dM}{l:jh}{k:Int}(h:bU c l ⟨6,k,t,0,false,⟨0,[]⟩⟩=0):t<=200:=by
 unfold bU at h;split at h
 ·rename_i h1;exact absurd h h1
 ·split at h
  ·rename_i h1;exact absurd h h1
  ·rename_i h1;have h2:bC ⟨6,k,t,0,false,⟨0,[]⟩⟩=0:=kp h1;unfold bC at h2;split at h2
   ·cases h2
   ·split at h2
    ·cases h2
    ·split at h2
     ·cases h2
     ·rename_i h5;unfold gp at h5;simp at h5;omega
theorem HP(hR:cU w)(hT:dU w.c w.h.l (k:Int)=0){x:kU}(h:w.h.l.bJ[(uz w.h.l-1).toNat]?=some x):ez w.c w.h.l (k:Int)=x/\dp x=0:=by
 have hf:=sJ hR.ji;obtain⟨h1,h2,h3⟩:=hf.ids _ _ h;have h4:=(zw.1 h).1;have h5:=hf.many;constructor
 ·unfold ez;rw[pI hT,h];rfl
 ·unfold dp;rw[nI (by omega)];exact bF.2 ⟨h2,h3⟩
theorem Lo{x:kU}(hk:k<6)(h1:1<=t)(h2:t<=200)(hx:dp x=0):rM ⟨k,t,false,false,x⟩:=by
 refine⟨fun h=>?_,fun h=>?_,fun _=>hx⟩
 ·unfold jO at h;simp only at h;omega
 ·unfold iL at h;simp at h
set_option maxHeartbeats 4000000 in
theorem VB{H0:Heap}{rows:List (List Value)}{T:Heap->Prop}(hL:Lb G)(hR:cU w)(hO:HO aa G H w p rows fb)
  (RO:1<=x.ae/\x.ae<=13) (h0:0<=x.ah) (h1:x.ah<w.n.length) (hT:¬(x.ae=3∨x.ae=4)->T H):
  vtT W0 b0 b1 b2 b3 b4 b5 w.c.first.id w.c.aS p.fa p.ra p.wa p.fl p.fc p.rl p.rc p.wl p.wc w.h.l.aU w.h.l.ab w.h.l.nx w.h.l.ac p.la p.ka p.ll p.lc p.kl p.kc p.sa p.ta p.sl p.sc p.tl p.tc w.h.up p.na p.ma p.nl p.nc p.ml p.mc x.ae x.ah x.cj x.aP ha hl hc aa H0 H (fun v _ H'=>∃p',v= .tuple #[cO (okW (bO w x)) p',i64 (bN (bO w x))]/\bB H' (okW (bO w x)) p') T:=by
 unfold vtT;have tP:=hO.dH.mb (by omega);have hle:=(hO.dH.sl dW.mono (by omega)).le;have h6:=hR.UO;have JZ:=(cM.1 hR.cZ).1;have Oo:=(hO.cZ.mb (by omega)).2;have hags:=sI hR.ji;have hlen:=hR.len;have qu:=hO.ji.bX.len;have hf:=sJ hR.ji;have hnxr:=hf.nx;have TL:=hR.head.rN;have jy:aL G none 0 []:=Sl.nil;obtain⟨k,mi⟩:∃k:Nat,x.ah=(k:Int):=⟨x.ah.toNat,by omega⟩
 rw[mi];refine⟨x.ae=3∨x.ae=4,⟨fun h=>⟨rfl,dD,.inl h⟩,fun h=>⟨rfl,dD,⟨fun h2=>h2.resolve_left h,.inr⟩⟩⟩,fun fT=>fun bl=>?_,fun fT=>hT fT⟩
 have hE:bO w x=if w.h.up=false then .error 7 else iz w x:=by
  unfold bO;rw[nI (by omega),nI (by omega),nI (by omega),nI (by omega),nI (by omega),pI fT]
 refine⟨w.h.up=false∨w.h.l.ab=0,⟨fun h=>⟨rfl,dD,.inl h⟩,fun h=>⟨rfl,dD,⟨fun h2=>h2.resolve_left h,.inr⟩⟩⟩,fun hb=>?_,fun hb=>?_⟩
 ·have hX:bO w x= .error 7:=by
   rw[hE];by_cases hu:w.h.up=false
   ·rw[pI hu]
   have hg:=hb.resolve_left hu
   have hT:dU w.c w.h.l x.ah=7:=by
    unfold dU;rw[nI (by rw[hR.ji];simp),nI (by omega),pI hg]
   rw[nI hu];unfold iz;rw[hT,pI (by omega)]
  rw[hX];refine(ov 7).mono fun v Hc ec hv=>?_;subst hv;exact⟨_,_,_,_,_,_,_,_,_,_,_,_,_,_,_,_,_,_,_,_,_,_,_,_,_,_,_,_,_,_,_,_,_,_,_,rfl,fun TO=>⟨hY,rfl,bB.zero⟩⟩
 have hu:¬w.h.up=false:=fun h=>hb (.inl h);have PW:w.h.l.ab≠0:=fun h=>hb (.inr h)
 have gR:dU w.c w.h.l (k:Int)=0:=by
  unfold dU;rw[nI (by rw[hR.ji];simp),nI (by omega),nI PW]
 rw[nI hu] at hE;obtain⟨a,ha⟩:∃a,w.h.l.bX[k]?=some a:=⟨_,zu (show k<w.h.l.bX.length by omega)⟩
 refine Sl.kn hO.ji.bX hO.dH.sub (k:=(k:Int)) (by omega) (by omega) fun a0 ha0=>?_;rw[zz,ha] at ha0;obtain rfl:=zy ha0;refine fun bk=>⟨fun h4=>?_,fun h4=>fun br=>?_⟩
 ·have MW:bO w x=if a.st≠1∨a.ac≠w.h.l.ac then .error 7 else .ok (gL w ⟨k,a.au,false,false,ez w.c w.h.l k⟩):=by
   rw[hE];unfold iz;rw[mi,nI (by rw[gR];simp),pI h4,zz,ha]
  refine⟨¬a.st=1∨(a.ac !=w.h.l.ac)=true,⟨fun h=>⟨rfl,dD,.inl h⟩,fun h=>⟨_,mV,rfl,dD,⟨fun h2=>h2.resolve_left h,.inr⟩⟩⟩,fun Qk=>?_,fun Qk=>?_⟩
  ·have hX:bO w x= .error 7:=by
    rw[MW,pI (Qk.imp id fun h=>by simpa using h)]
   rw[hX];refine(ov 7).mono fun v Hc ec hv=>?_;subst hv;exact⟨_,_,_,_,_,_,_,_,_,_,_,_,_,_,_,_,_,_,_,_,_,_,_,_,_,_,_,_,_,_,_,_,_,_,_,rfl,fun TO=>⟨hY,rfl,bB.zero⟩⟩
  have Fi:a.st=1:=Classical.byContradiction fun h=>Qk (.inl h);have Ic:¬(a.st≠1∨a.ac≠w.h.l.ac):=fun h=>Qk (h.imp id fun h=>by simpa using h);rw[nI Ic] at MW;have CY:=hf.kn k a ha;have VC:bN (bO w x)=0:=by rw[MW];rfl
  refine⟨fun vs H'=>∃p',vs=[cO (okW (bO w x)) p']/\bB H' (okW (bO w x)) p',?_,fun n1 a1 l1 c1 a2 l2 c2 a3 l3 c3 n2 a4 l4 c4 n3 n4 f1 a5 l5 c5 n5 a6 l6 c6 a7 l7 c7 f2 a8 l8 c8 a9 l9 c9 Hf VD hI=>?_⟩
  ·refine((KU (lc:=p.lc) (kc:=p.kc) hO.ji hR.ji PW).grown hO.dH.sub).mono fun v Hg eg hv=>?_;obtain⟨Gg,gg,qa,ql,qc,xr,rfl,KO,Vt⟩:=hv;have Ew:=hO.grown gg;have PX:=HP hR gR KO
   have hX:bO w x= .ok (if w.m.length<40 then{ w with m:=w.m++[⟨k,a.au,false,false,xr⟩] } else w):=by
    rw[MW]
    show yY (gL w ⟨(k:Int),a.au,false,false,ez w.c w.h.l (k:Int)⟩)=_
    rw[PX.1,nS (w:=w) hR.cZ (Lo (by omega) (by have:=(CY.2.2.2.2.1 (by omega)).2;omega) (by omega) PX.2)]
   rw[hX];refine⟨_,_,_,_,rfl,fun Jm=>⟨⟨rfl,rfl⟩,fun bp=>⟨fun Ev=>fun bq=>⟨fb.flatten,Ew.cZ.row,by omega,by omega,fun a' c' Hp hG RM=>⟨rfl,?_⟩⟩,fun Ev=>⟨rfl,?_⟩⟩⟩⟩
   ·rw[pI (by show w.m.length<40;omega)];exact⟨{ p with ma:=a',ml:=p.ml+1,mc:=c' },rfl,Ew.post (m:=⟨k,a.au,false,false,xr⟩) (qa:=qa) (ql:=ql) (qc:=qc) hG RM Vt⟩
   ·rw[nI (by show¬w.m.length<40;omega)];exact⟨p,rfl,Ew.ck⟩
  ·obtain⟨pf,hv,hWf⟩:=hI;simp only[List.cons.injEq,Value.slice.injEq,Value.int.injEq,true_and,Value.agg.injEq,Array.mk.injEq,Value.bool.injEq,and_true] at hv;obtain⟨rfl,⟨rfl,rfl,rfl⟩,⟨rfl,rfl,rfl⟩,⟨rfl,rfl,rfl⟩,rfl,⟨rfl,rfl,rfl⟩,rfl,rfl,rfl,⟨rfl,rfl,rfl⟩,rfl,⟨rfl,rfl,rfl⟩,⟨rfl,rfl,rfl⟩,rfl,⟨rfl,rfl,rfl⟩,rfl,rfl,rfl⟩:=hv;exact⟨pf,by rw[VC],hWf⟩
 have h3:x.ae=3:=fT.resolve_right h4
 have MW:bO w x=match eJ w ⟨6,(k:Int),w.h.l.nx,0,false,⟨0,[]⟩⟩ with
   | .error e=> .error e
   | .ok y=> .ok (gL y ⟨k,w.h.l.nx,false,false,ez w.c w.h.l k⟩):=by
  rw[hE];unfold iz;rw[mi,nI (by rw[gR];simp),nI h4];rfl
 refine((lJ (r:=⟨6,(k:Int),w.h.l.nx,0,false,⟨0,[]⟩⟩) (qc:=0) hO.iw hO.ji jy).grown hO.dH.sub).mono fun v Ha ea hv=>?_;obtain⟨Ga,ga,yE,yF,sX,yG,yH,sY,rfl,hA⟩:=hv;refine⟨_,_,_,_,_,_,_,_,_,_,_,rfl,fun E6=>fun b1=>⟨fun he=>?_,fun he=>?_⟩⟩
 ·have hW:=pk (w:=w) he;refine⟨fun _=>?_,fun h=>absurd (kp h) he⟩;have hX:bO w x= .error (bU w.c w.h.l ⟨6,(k:Int),w.h.l.nx,0,false,⟨0,[]⟩⟩):=by rw[MW,hW]
  rw[hX];refine(ov _).mono fun v Hc ec hv=>?_;subst hv;exact⟨_,_,_,_,_,_,_,_,_,_,_,_,_,_,_,_,_,_,_,_,_,_,_,_,_,_,_,_,_,_,_,_,_,_,_,rfl,fun TO=>⟨hY,rfl,bB.zero⟩⟩
 have he:=kp he;refine((mW (r:=⟨6,(k:Int),w.h.l.nx,0,false,⟨0,[]⟩⟩) (qc:=0) (hL.ext ga.ext) (hO.iD.ext ga.ext) (jy.ext' ga.ext) TL).grown ga.sub).mono fun v Hb eb hv=>?_;obtain⟨Gb,gb,Fv,CE,Fw,HK,HL,HM,rfl,hD⟩:=hv;refine⟨_,_,_,_,_,_,_,rfl,fun Lm=>fun b2=>⟨fun jn=>?_,fun jn=>?_⟩⟩
 ·have hW:=np (w:=w) he jn;have vR:=(hO.grown (ga.trans gb)).head (up:=w.h.up) (lc:=sX) (kc:=sY) (hA.ext gb.ext) (hD jn);have VY:=RP (kp (fun h=>h he));rw[hW] at MW;have VC:bN (bO w x)=0:=by rw[MW];rfl
  have hldr:=hO.ji.ext (ga.trans gb).ext;refine⟨⟨fun h=>absurd jn h,fun _=>?_⟩,fun h=>absurd jn h,fun _=>?_⟩
  all_goals
   refine⟨fun vs H'=>∃p',vs=[cO (okW (bO w x)) p']/\bB H' (okW (bO w x)) p',?_,fun n1 a1 l1 c1 a2 l2 c2 a3 l3 c3 n2 a4 l4 c4 n3 n4 f1 a5 l5 c5 n5 a6 l6 c6 a7 l7 c7 f2 a8 l8 c8 a9 l9 c9 Hf VD hI=>?_⟩
   ·refine((KU (lc:=p.lc) (kc:=p.kc) hldr hR.ji PW).grown vR.dH.sub).mono fun v Hg eg hv=>?_;obtain⟨Gg,gg,qa,ql,qc,xr,rfl,KO,Vt⟩:=hv;have Ew:=vR.grown gg;have PX:=HP hR gR KO
    have hX:bO w x= .ok (if({ w with h:=⟨iG w.c w.h.l ⟨6,(k:Int),w.h.l.nx,0,false,⟨0,[]⟩⟩,kM (aY w.h.d ⟨6,(k:Int),w.h.l.nx,0,false,⟨0,[]⟩⟩),w.h.up⟩ } :cY).m.length<40 then{ ({ w with h:=⟨iG w.c w.h.l ⟨6,(k:Int),w.h.l.nx,0,false,⟨0,[]⟩⟩,kM (aY w.h.d ⟨6,(k:Int),w.h.l.nx,0,false,⟨0,[]⟩⟩),w.h.up⟩ } :cY) with m:=({ w with h:=⟨iG w.c w.h.l ⟨6,(k:Int),w.h.l.nx,0,false,⟨0,[]⟩⟩,kM (aY w.h.d ⟨6,(k:Int),w.h.l.nx,0,false,⟨0,[]⟩⟩),w.h.up⟩ } :cY).m++[⟨k,w.h.l.nx,false,false,xr⟩] } else({ w with h:=⟨iG w.c w.h.l ⟨6,(k:Int),w.h.l.nx,0,false,⟨0,[]⟩⟩,kM (aY w.h.d ⟨6,(k:Int),w.h.l.nx,0,false,⟨0,[]⟩⟩),w.h.up⟩ } :cY)):=by
     rw[MW]
     show yY (gL ({ w with h:=⟨iG w.c w.h.l ⟨6,(k:Int),w.h.l.nx,0,false,⟨0,[]⟩⟩,kM (aY w.h.d ⟨6,(k:Int),w.h.l.nx,0,false,⟨0,[]⟩⟩),w.h.up⟩ } :cY) ⟨(k:Int),w.h.l.nx,false,false,ez w.c w.h.l (k:Int)⟩)=_
     rw[PX.1,nS (w:=({ w with h:=⟨iG w.c w.h.l ⟨6,(k:Int),w.h.l.nx,0,false,⟨0,[]⟩⟩,kM (aY w.h.d ⟨6,(k:Int),w.h.l.nx,0,false,⟨0,[]⟩⟩),w.h.up⟩ } :cY)) hR.cZ (Lo (by omega) (by omega) (by omega) PX.2)]
    rw[hX];refine⟨_,_,_,_,rfl,fun Jm=>⟨⟨rfl,rfl⟩,fun bp=>⟨fun Ev=>fun bq=>⟨fb.flatten,Ew.cZ.row,by omega,by omega,fun a' c' Hp hG RM=>⟨rfl,?_⟩⟩,fun Ev=>⟨rfl,?_⟩⟩⟩⟩
    ·rw[pI (by show w.m.length<40;omega)];exact⟨{ ({ p with la:=yE,ll:=yF,lc:=sX,ka:=yG,kl:=yH,kc:=sY,sa:=Fv,sl:=CE,sc:=Fw,ta:=HK,tl:=HL,tc:=HM } :WA) with ma:=a',ml:=p.ml+1,mc:=c' },rfl,Ew.post (m:=⟨k,w.h.l.nx,false,false,xr⟩) (qa:=qa) (ql:=ql) (qc:=qc) hG RM Vt⟩
    ·rw[nI (by show¬w.m.length<40;omega)];exact⟨({ p with la:=yE,ll:=yF,lc:=sX,ka:=yG,kl:=yH,kc:=sY,sa:=Fv,sl:=CE,sc:=Fw,ta:=HK,tl:=HL,tc:=HM } :WA),rfl,Ew.ck⟩
   ·obtain⟨pf,hv,hWf⟩:=hI;simp only[List.cons.injEq,Value.slice.injEq,Value.int.injEq,true_and,Value.agg.injEq,Array.mk.injEq,Value.bool.injEq,and_true] at hv;obtain⟨rfl,⟨rfl,rfl,rfl⟩,⟨rfl,rfl,rfl⟩,⟨rfl,rfl,rfl⟩,rfl,⟨rfl,rfl,rfl⟩,rfl,rfl,rfl,⟨rfl,rfl,rfl⟩,rfl,⟨rfl,rfl,rfl⟩,⟨rfl,rfl,rfl⟩,rfl,⟨rfl,rfl,rfl⟩,rfl,rfl,rfl⟩:=hv;exact⟨pf,by rw[VC],hWf⟩
 ·have hW:=po (w:=w) he jn;refine⟨fun _=>?_,fun h=>absurd (kp h) jn⟩;have hX:bO w x= .error (bN (aY w.h.d ⟨6,(k:Int),w.h.l.nx,0,false,⟨0,[]⟩⟩)):=by rw[MW,hW]
  rw[hX];refine(ov _).mono fun v Hc ec hv=>?_;subst hv;exact⟨_,_,_,_,_,_,_,_,_,_,_,_,_,_,_,_,_,_,_,_,_,_,_,_,_,_,_,_,_,_,_,_,_,_,_,rfl,fun TO=>⟨hY,rfl,bB.zero⟩⟩
open Go Go.Proofs
theorem PY{rows:List (List Value)}{n:ke}(hO:HO aa G H w p rows fb)(hn:w.n[k]?=some n)(JZ:w.m.length<=40){F1:O->Nat->Heap->Prop}{F0:Prop}
  (Mw:w.m.length<40->∀a' c' H',bB H' { w with m:=w.m++[eQ k n.a] } { p with ma:=a',ml:=p.ml+1,mc:=c' }->F1 a' c' H') (hF0:¬w.m.length<40->F0):
  (∃(b o:Nat),p.na=some ⟨b,o,none⟩/\0<=(k:Int)/\(k:Int)<(p.nl:Int)/\∃(t:Int),H.cell b (o+Int.toNat (k:Int)*10+2)=some (.int .i64 t)/\∃(b o:Nat),p.na=some ⟨b,o,none⟩/\0<=(k:Int)/\(k:Int)<(p.nl:Int)/\∃(g:Bool),H.cell b (o+Int.toNat (k:Int)*10+6)=some (.bool g)/\
   (b3=b3/\0=0)/\∀_:Nat,((p.ml:Int)<40->∀_:Nat,∃(xs:List Value),bg aa H 74 6 p.ma p.ml p.mc xs/\(p.ml+1)*56<=140737488355328/\p.ml+1<=9223372036854775807/\∀(a':O)(c':Nat)(H':Heap),cu aa H H' p.ma p.mc a' c' (p.ml+1)->
    bg aa H' 74 6 a' (p.ml+1) c' (xs++[.int .i64 (k:Int),.int .i64 t,.bool true,.bool g,.int .i64 0,.slice none 0 0])->F1 a' c' H')/\(¬(p.ml:Int)<40->F0))/\
  (∃(b o:Nat),p.na=some ⟨b,o,none⟩/\0<=(k:Int)/\(k:Int)<(p.nl:Int)/\∃(g:Bool),H.cell b (o+Int.toNat (k:Int)*10+6)=some (.bool g)/\∃(b o:Nat),p.na=some ⟨b,o,none⟩/\0<=(k:Int)/\(k:Int)<(p.nl:Int)/\∃(t:Int),H.cell b (o+Int.toNat (k:Int)*10+2)=some (.int .i64 t)/\
   (b3=b3/\0=0)/\∀_:Nat,((p.ml:Int)<40->∀_:Nat,∃(xs:List Value),bg aa H 74 6 p.ma p.ml p.mc xs/\(p.ml+1)*56<=140737488355328/\p.ml+1<=9223372036854775807/\∀(a':O)(c':Nat)(H':Heap),cu aa H H' p.ma p.mc a' c' (p.ml+1)->
    bg aa H' 74 6 a' (p.ml+1) c' (xs++[.int .i64 (k:Int),.int .i64 t,.bool true,.bool g,.int .i64 0,.slice none 0 0])->F1 a' c' H')/\(¬(p.ml:Int)<40->F0)):=by
 obtain⟨y,kb,q,nQ,B2,tR,EX,dj,qu,gJ,fH,hq,cI⟩:=hO.dH.nodeAt hn;have cc:∀j v,(bR n q)[j]?=some v->H.cell y (0+Int.toNat (k:Int)*10+j)=some v:=fun j v hj=>by rw[zz,zS];exact cI j v hj
 have Oo:=(hO.cZ.mb (by omega)).2;have hle:=(hO.dH.sl dW.mono (by omega)).le
 refine⟨⟨y,0,nQ,by omega,by omega,_,cc 2 _ rfl,y,0,nQ,by omega,by omega,_,cc 6 _ rfl,⟨rfl,rfl⟩,fun _=>⟨fun Ev=>fun _=>⟨fb.flatten,hO.cZ.row,by omega,by omega,fun a' c' Hp hG RM=>?_⟩,fun Ev=>?_⟩⟩,
  y,0,nQ,by omega,by omega,_,cc 6 _ rfl,y,0,nQ,by omega,by omega,_,cc 2 _ rfl,⟨rfl,rfl⟩,fun _=>⟨fun Ev=>fun _=>⟨fb.flatten,hO.cZ.row,by omega,by omega,fun a' c' Hp hG RM=>?_⟩,fun Ev=>?_⟩⟩
 ·exact Mw (by omega) a' c' Hp (hO.post (m:=eQ k n.a) (qa:=none) (ql:=0) (qc:=0) hG RM Sl.nil)
 ·exact hF0 (by omega)
 ·exact Mw (by omega) a' c' Hp (hO.post (m:=eQ k n.a) (qa:=none) (ql:=0) (qc:=0) hG RM Sl.nil)
 ·exact hF0 (by omega)
theorem E8{a:lS}(h:cT a=0):(Lk a.ap/\a.ap.length<=12)/\1<=a.ck/\a.ck<=6/\0<=a.au/\a.au<=200/\(a.going=true->a.au≠0)/\True:=by
 obtain⟨h1,h2,h3,h4,h5,h6⟩:=gD h;exact⟨h1,h2,h3,h4,h5,fun hg=>(h6.1 hg).1,trivial⟩
theorem PZ{a:lS}(h:cT a=0)(hg:a.going=true):eO a.ap a.ab.ap=0:=by
 have h2:=(gD h).1;unfold eO;rw[pI (bF.2 h2)];exact bF.2 (pe h)
set_option maxHeartbeats 4000000 in
theorem VE{rows:List (List Value)}(hL:Lb G)(hR:cU w)(hO:HO aa G H w p rows fb)
  (hk:x.ae=7∨x.ae=8) (h0:0<=x.ah) (h1:x.ah<w.n.length):
  vtS W0 b0 b1 b2 b3 b4 b5 w.c.first.id w.c.aS p.fa p.ra p.wa p.fl p.fc p.rl p.rc p.wl p.wc w.h.l.aU w.h.l.ab w.h.l.nx w.h.l.ac p.la p.ka p.ll p.lc p.kl p.kc p.sa p.ta p.sl p.sc p.tl p.tc w.h.up p.na p.ma p.nl p.nc p.ml p.mc x.ae x.ah x.cj x.aP ha hl hc aa H (fun v _ H'=>∃p',v= .tuple #[cO (okW (bO w x)) p',i64 (bN (bO w x))]/\bB H' (okW (bO w x)) p'):=by
 unfold vtS;have tP:=hO.dH.mb (by omega);have hle:=(hO.dH.sl dW.mono (by omega)).le;have h6:=hR.UO;have TK:=hR.cZ;have JZ:=(cM.1 TK).1;obtain⟨k,mi⟩:∃k:Nat,x.ah=(k:Int):=⟨x.ah.toNat,by omega⟩
 rw[mi];have CY:k<w.n.length:=by omega
 obtain⟨n,hn⟩:∃n,w.n[k]?=some n:=⟨_,zu CY⟩
 have Wn:=zt hn;have Mg:bj n.d=0:=(hR.node n Wn).rN;have hA:=hR.Q8 Wn;obtain⟨⟨Ae,Q2⟩,-,-,ht0,ht1,vn,-⟩:=E8 hA
 have hE:bO w x=if n.up=false then .error 7 else if x.ae=7 then js w x n else if n.a.going=true∨n.a.au=0 then .error 7 else .ok (eK w k):=by
  unfold bO;rw[nI (by omega),nI (by omega),nI (by omega),nI (by omega),nI (by omega),nI (by omega),nI (by omega),mi,zz,hn]
 obtain⟨y,kb,q,nQ,B2,tR,EX,dj,qu,gJ,fH,hq,cI⟩:=hO.dH.nodeAt hn;have cc:∀ {H1:Heap},aH H H1->∀j v,(bR n q)[j]?=some v->H1.cell y (0+Int.toNat (k:Int)*10+j)=some v:=fun e j v hj=>Heap.aJ e (by rw[zz,zS];exact cI j v hj);refine⟨y,0,nQ,by omega,by omega,_,_,_,_,_,_,_,_,_,_,_,_,_,_,_,_,_,_,⟨cc (aH.refl _) 0 _ rfl,cc (aH.refl _) 1 _ rfl,cc (aH.refl _) 2 _ rfl,cc (aH.refl _) 3 _ rfl,cc (aH.refl _) 4 _ rfl,cc (aH.refl _) 5 _ rfl,cc (aH.refl _) 6 _ rfl,cc (aH.refl _) 7 _ rfl,cc (aH.refl _) 8 _ rfl,cc (aH.refl _) 9 _ rfl,trivial⟩,fun bn=>?_⟩;refine⟨n.up=false∨(n.a.going !=decide (x.ae=7))=true∨n.a.au=0,⟨fun h=>⟨rfl,dD,.inl h⟩,fun h=>⟨_,mV,fun h2=>⟨rfl,dD,.inr (.inl h2)⟩,fun h2=>⟨rfl,dD,⟨fun h3=>(h3.resolve_left h).resolve_left h2,fun h3=> .inr (.inr h3)⟩⟩⟩⟩,fun fT=>?_,fun fT=>?_⟩
 ·have hX:bO w x= .error 7:=by
   rw[hE];by_cases hu:n.up=false
   ·rw[pI hu]
   rw[nI hu];have fT:=fT.resolve_left hu;by_cases h7:x.ae=7
   ·rw[pI h7]
    have hg:n.a.going=false:=by
     rcases fT with h|h
     ·simpa[h7] using h
     ·cases hg:n.a.going with
      |false=>rfl
      |true=>exact absurd h (vn hg)
    unfold js;rw[pI hg]
   ·rw[nI h7,pI (fT.imp (fun h=>by simpa[h7] using h) id)]
  rw[hX];refine(ov 7).mono fun v Hc ec hv=>?_;subst hv;exact⟨_,_,_,_,_,_,_,_,_,_,_,_,_,_,_,_,_,_,_,_,_,_,_,_,_,_,_,_,_,_,_,_,_,_,_,rfl,fun TO=>⟨hY,rfl,bB.zero⟩⟩
 have hu:¬n.up=false:=fun h=>fT (.inl h);have hg:¬(n.a.going !=decide (x.ae=7))=true:=fun h=>fT (.inr (.inl h));have ht:¬n.a.au=0:=fun h=>fT (.inr (.inr h));rw[nI hu] at hE;refine⟨fun h8=>?_,fun h8=>?_⟩
 ·have hg:n.a.going=false:=by simpa[h8] using hg
  rw[nI (by omega),nI (by rw[hg];simpa using ht)] at hE
  have hX:bO w x= .ok (if w.m.length<40 then{ w with m:=w.m++[eQ k n.a] } else w):=by
   rw[hE];unfold eK;rw[hn]
   show yY (gL w (eQ k n.a))=_
   rw[nS TK (JV (by omega) (by omega) ht1)]
  exact PY hO hn JZ (fun Ev a' c' H' hW=>by rw[hX,pI Ev];exact⟨_,rfl,hW⟩) (fun Ev=>by rw[hX,nI Ev];exact⟨p,rfl,hO.ck⟩)
 have h7:x.ae=7:=by omega
 have hg:n.a.going=true:=by simpa[h7] using hg
 have MW:bO w x=if cy n.a≠[] then gq w k ⟨2,0,n.a.au,0,false,⟨0,[]⟩⟩ else match gq w k ⟨3,0,n.a.au,0,x.aP,⟨0,[]⟩⟩ with
   | .error e=> .error e
   | .ok y=> .ok (eK y k):=by
  rw[hE,pI h7];unfold js;rw[nI (by rw[hg];simp),nI (by rw[hA];simp),mi,zz];rfl
 refine(Ok (xs:=n.a.ap) (ys:=n.a.ab.ap) (hq.ap.ext' hO.dH.sub) (hq.ab.ext' hO.dH.sub)).mono fun v Hs es hv=>?_;obtain⟨za,zn,zc,rfl,W8,hS⟩:=hv;have hlen:=hS.len;rw[pI (PZ hA hg)] at hlen;have tM:cy n.a=jz n.a.ap n.a.ab.ap:=by unfold cy;rw[pI hg]
 replace hO:=hO.ext es
 replace EX:=es _ _ EX
 replace cc:∀ {H1:Heap},aH Hs H1->∀j v,(bR n q)[j]?=some v->H1.cell y (0+Int.toNat (k:Int)*10+j)=some v:=fun e=>cc (aH.trans es e)
 have jy:aL G none 0 []:=Sl.nil;refine⟨_,_,_,_,rfl,fun hNs=>⟨fun hz=>fun bz=>?_,fun hz=>fun bz=>?_⟩⟩
 ·have RN:bO w x=match dV n ⟨2,0,n.a.au,0,false,⟨0,[]⟩⟩ with| .error e=> .error e| .ok n'=> .ok { w with n:=w.n.set k n' } :=by
   rw[MW,pI (by rw[tM];intro h;rw[h] at hlen;simp at hlen;omega)];unfold gq;rw[hn];rfl
  refine⟨y,0,nQ,by omega,by omega,_,_,_,_,_,_,_,_,_,_,_,⟨cc (aH.refl _) 0 _ rfl,cc (aH.refl _) 1 _ rfl,cc (aH.refl _) 2 _ rfl,cc (aH.refl _) 3 _ rfl,cc (aH.refl _) 4 _ rfl,cc (aH.refl _) 5 _ rfl,cc (aH.refl _) 6 _ rfl,trivial⟩,?_⟩;refine⟨?_,fun bd0=>?_⟩
  all_goals
   refine((vx (r:=⟨2,0,n.a.au,0,false,⟨0,[]⟩⟩) (rc:=0) hq.ap hq.ab jy).grown hO.dH.sub).mono fun v Ha ea hv=>?_;obtain⟨Ga,ga,Wv,Ww,Wx,Pl,Wy,Pm,rfl,Ft,Ln⟩:=hv;refine⟨_,_,_,_,_,_,_,_,_,_,_,_,rfl,fun E6=>?_⟩
   try intro bd1
   refine⟨fun he=>?_,fun he=>?_⟩
   ·have hX:dV n ⟨2,0,n.a.au,0,false,⟨0,[]⟩⟩= .error (bw n.a ⟨2,0,n.a.au,0,false,⟨0,[]⟩⟩):=by unfold dV;rw[pI he]
    exact fun b=>⟨fun _=>by rw[RN,hX];exact⟨hY,rfl,bB.zero⟩,fun h=>absurd (kp h) he⟩
   have he:=kp he;have hV:dS n.a ⟨2,0,n.a.au,0,false,⟨0,[]⟩⟩=bW n.a ⟨2,0,n.a.au,0,false,⟨0,[]⟩⟩:=by unfold dS;rw[pI he]
   rw[hV] at Ft Ln⊢;refine⟨y,0,nQ,by omega,by omega,_,_,_,_,_,_,⟨cc ea 7 _ rfl,cc ea 8 _ rfl,trivial⟩,?_⟩;refine⟨?_,fun bd2=>?_⟩
   all_goals
    refine((mW (r:=⟨2,0,n.a.au,0,false,⟨0,[]⟩⟩) (qc:=0) (hL.ext ga.ext) (hq.iD.ext ga.ext) (jy.ext' ga.ext) Mg).grown ga.sub).mono fun v Hb eb hv=>?_;obtain⟨Gb,gb,Z5,Z6,Z7,Z8,Z9,vc1,rfl,hD⟩:=hv;refine⟨_,_,_,_,_,_,_,rfl,fun Lm=>?_⟩
    try intro bd3
    refine⟨fun jn=>?_,fun jn=>?_⟩
    ·obtain⟨d1,yB⟩:∃d1,aY n.d ⟨2,0,n.a.au,0,false,⟨0,[]⟩⟩= .ok d1:=by
      cases yB:aY n.d ⟨2,0,n.a.au,0,false,⟨0,[]⟩⟩ with
      |ok d1=>exact⟨d1,rfl⟩
      |error e=>rw[yB] at jn;exact absurd jn (ig yB)
     have hD1:cr Gb d1 Z5 Z6 Z7 Z8 Z9 vc1:=by have:=hD jn;rw[yB] at this;exact this
     have hX:dV n ⟨2,0,n.a.au,0,false,⟨0,[]⟩⟩= .ok ⟨bW n.a ⟨2,0,n.a.au,0,false,⟨0,[]⟩⟩,d1,n.up⟩:=by unfold dV;rw[nI (by omega),yB]
     have PT:=hO.grown (ga.trans gb);have E7:Hb y=some kb:=(ga.trans gb).cR _ _ EX;refine⟨y,0,nQ,by omega,by omega,?_⟩
     repeat'
      first
      |exact PT.JW hn (Ft.ext' gb.ext) (Ln.ext' gb.ext) hD1 nQ tR E7 dj B2 gJ qu fun H2 B6 vR=>(fun b=>⟨fun h=>absurd jn h,fun _=>by rw[RN,hX];exact⟨p,rfl,vR.ck⟩⟩)
      |refine⟨?_,?_⟩
    ·have hX:dV n ⟨2,0,n.a.au,0,false,⟨0,[]⟩⟩= .error (bN (aY n.d ⟨2,0,n.a.au,0,false,⟨0,[]⟩⟩)):=by
      unfold dV;rw[nI (by omega)]
      cases yB:aY n.d ⟨2,0,n.a.au,0,false,⟨0,[]⟩⟩ with
      |ok d1=>rw[yB] at jn;exact absurd rfl jn
      |error e=>rfl
     exact fun b=>⟨fun _=>by rw[RN,hX];exact⟨hY,rfl,bB.zero⟩,fun h=>absurd (kp h) jn⟩
 ·have RN:bO w x=match dV n ⟨3,0,n.a.au,0,x.aP,⟨0,[]⟩⟩ with| .error e=> .error e| .ok n'=> .ok (eK { w with n:=w.n.set k n' } k):=by
   rw[MW,nI (by rw[tM];intro h;exact h (zG (by omega)))];unfold gq;rw[hn]
   show(match(match dV n ⟨3,0,n.a.au,0,x.aP,⟨0,[]⟩⟩ with| .error e=>Except.error e| .ok n'=> .ok { w with n:=w.n.set k n' }) with| .error e=>Except.error e| .ok y=> .ok (eK y k))=_
   cases dV n ⟨3,0,n.a.au,0,x.aP,⟨0,[]⟩⟩<;>rfl
  have hX3:∀n',dV n ⟨3,0,n.a.au,0,x.aP,⟨0,[]⟩⟩= .ok n'->((n'.a.au=n.a.au)->bO w x= .ok (if w.m.length<40 then{ w with n:=w.n.set k n',m:=w.m++[eQ k n'.a] } else{ w with n:=w.n.set k n' })):=by
   intro n' hX ht2;rw[RN,hX]
   show yY (eK { w with n:=w.n.set k n' } k)=_
   unfold eK;rw[show({ w with n:=w.n.set k n' } :cY).n[k]?=some n' from List.getElem?_set_self CY]
   show yY (gL { w with n:=w.n.set k n' } (eQ k n'.a))=_
   rw[nS (w:= { w with n:=w.n.set k n' }) TK (JV (by omega) (by omega) (by omega))]
  refine⟨y,0,nQ,by omega,by omega,_,_,_,_,_,_,_,_,_,_,_,⟨cc (aH.refl _) 0 _ rfl,cc (aH.refl _) 1 _ rfl,cc (aH.refl _) 2 _ rfl,cc (aH.refl _) 3 _ rfl,cc (aH.refl _) 4 _ rfl,cc (aH.refl _) 5 _ rfl,cc (aH.refl _) 6 _ rfl,trivial⟩,?_⟩;refine⟨?_,fun bd0=>?_⟩
  all_goals
   refine((vx (r:=⟨3,0,n.a.au,0,x.aP,⟨0,[]⟩⟩) (rc:=0) hq.ap hq.ab jy).grown hO.dH.sub).mono fun v Ha ea hv=>?_;obtain⟨Ga,ga,Wv,Ww,Wx,Pl,Wy,Pm,rfl,Ft,Ln⟩:=hv;refine⟨_,_,_,_,_,_,_,_,_,_,_,_,rfl,fun E6=>?_⟩
   try intro bd1
   refine⟨fun he=>?_,fun he=>?_⟩
   ·have hX:dV n ⟨3,0,n.a.au,0,x.aP,⟨0,[]⟩⟩= .error (bw n.a ⟨3,0,n.a.au,0,x.aP,⟨0,[]⟩⟩):=by unfold dV;rw[pI he]
    refine⟨fun _=>?_,fun h=>absurd (kp h) he⟩;rw[RN,hX];refine(ov _).mono fun v Hc ec hv=>?_;subst hv;exact⟨_,_,_,_,_,_,_,_,_,_,_,_,_,_,_,_,_,_,_,_,_,_,_,_,_,_,_,_,_,_,_,_,_,_,_,rfl,fun TO=>⟨hY,rfl,bB.zero⟩⟩
   have he:=kp he;have hV:dS n.a ⟨3,0,n.a.au,0,x.aP,⟨0,[]⟩⟩=bW n.a ⟨3,0,n.a.au,0,x.aP,⟨0,[]⟩⟩:=by unfold dS;rw[pI he]
   rw[hV] at Ft Ln⊢;refine⟨y,0,nQ,by omega,by omega,_,_,_,_,_,_,⟨cc ea 7 _ rfl,cc ea 8 _ rfl,trivial⟩,?_⟩;refine⟨?_,fun bd2=>?_⟩
   all_goals
    refine((mW (r:=⟨3,0,n.a.au,0,x.aP,⟨0,[]⟩⟩) (qc:=0) (hL.ext ga.ext) (hq.iD.ext ga.ext) (jy.ext' ga.ext) Mg).grown ga.sub).mono fun v Hb eb hv=>?_;obtain⟨Gb,gb,Z5,Z6,Z7,Z8,Z9,vc1,rfl,hD⟩:=hv;refine⟨_,_,_,_,_,_,_,rfl,fun Lm=>?_⟩
    try intro bd3
    refine⟨fun jn=>?_,fun jn=>?_⟩
    ·obtain⟨d1,yB⟩:∃d1,aY n.d ⟨3,0,n.a.au,0,x.aP,⟨0,[]⟩⟩= .ok d1:=by
      cases yB:aY n.d ⟨3,0,n.a.au,0,x.aP,⟨0,[]⟩⟩ with
      |ok d1=>exact⟨d1,rfl⟩
      |error e=>rw[yB] at jn;exact absurd jn (ig yB)
     have hD1:cr Gb d1 Z5 Z6 Z7 Z8 Z9 vc1:=by have:=hD jn;rw[yB] at this;exact this
     have hX:dV n ⟨3,0,n.a.au,0,x.aP,⟨0,[]⟩⟩= .ok ⟨bW n.a ⟨3,0,n.a.au,0,x.aP,⟨0,[]⟩⟩,d1,n.up⟩:=by unfold dV;rw[nI (by omega),yB]
     have PT:=hO.grown (ga.trans gb);have E7:Hb y=some kb:=(ga.trans gb).cR _ _ EX;refine⟨y,0,nQ,by omega,by omega,?_⟩
     repeat'
      first
      |exact PT.JW hn (Ft.ext' gb.ext) (Ln.ext' gb.ext) hD1 nQ tR E7 dj B2 gJ qu fun H2 B6 vR=>⟨fun h=>absurd jn h,fun _=>PY vR (by show(w.n.set k _)[k]?=_;rw[List.getElem?_set_self CY]) JZ (fun Ev a' c' H' hW=>by rw[hX3 _ hX rfl,pI Ev];exact⟨_,rfl,hW⟩) (fun Ev=>by rw[hX3 _ hX rfl,nI Ev];exact⟨p,rfl,vR.ck⟩)⟩
      |refine⟨?_,?_⟩
    ·have hX:dV n ⟨3,0,n.a.au,0,x.aP,⟨0,[]⟩⟩= .error (bN (aY n.d ⟨3,0,n.a.au,0,x.aP,⟨0,[]⟩⟩)):=by
      unfold dV;rw[nI (by omega)]
      cases yB:aY n.d ⟨3,0,n.a.au,0,x.aP,⟨0,[]⟩⟩ with
      |ok d1=>rw[yB] at jn;exact absurd rfl jn
      |error e=>rfl
     refine⟨fun _=>?_,fun h=>absurd (kp h) jn⟩;rw[RN,hX];refine(ov _).mono fun v Hc ec hv=>?_;subst hv;exact⟨_,_,_,_,_,_,_,_,_,_,_,_,_,_,_,_,_,_,_,_,_,_,_,_,_,_,_,_,_,_,_,_,_,_,_,rfl,fun TO=>⟨hY,rfl,bB.zero⟩⟩
open Go Go.Proofs
theorem Lp{α:Type}{R:jq α}{e:TypeId}(hlen:∀ {H:Heap} {r:List Value} {x:α},R H r x->r.length=sz)(IJ:∀ {H:Heap} {r:List Value} {x:α},R H r x->aM r=true)
   {H1:Heap} {g:O} {bb:Nat} {xs:List α} (hS:Sl R sz H a n xs) (hE:aH H H1) (hb:(0+n)*bb<=140737488355328) {F:O->Nat->Heap->Prop}
  (hF:∀a' c' H2 rows,aH H1 H2->bV R sz e aa H H2 a' (0+n) c' rows xs->(∀y k,H1 y=some k->c'≠0->a'≠some ⟨y,0,none⟩)->F a' c' H2):
  ∃(zs:List Value),∃(cells:List Value),bg aa H1 e sz g 0 0 zs/\zo cells=n*sz/\aM cells=true/\(n=0∨ ∃(b:Nat),∃(o:Nat),a=some (Addr.mk b o none)/\ba H1 b o 0 cells)/\
   (0+n)*bb<=140737488355328/\0+n<=9223372036854775807/\∀(a':O)(c':Nat)(H2:Heap),cu aa H1 H2 g 0 a' c' (0+n)->bg aa H2 e sz a' (0+n) c' (zs++cells)->F a' c' H2:=by
 obtain⟨rows,r1,r2,r3,r4⟩:=hS.rows hlen;have hle:=hS.le;refine⟨[],rows.flatten,bg.zero,r3,ev IJ r2,r4.imp id (fun⟨b,o,h1,h2⟩=>⟨b,o,h1,fj hE h2⟩),hb,by omega,fun a' c' H2 hG hr=>?_⟩;have hO:=(bV.zero (R:=R) (sz:=sz) (e:=e) (aa:=aa) (a:=g) hE).oB (rows':=rows) (ys:=xs) hG (by simpa using hr) r1 r2;refine hF a' c' H2 rows (fun y k hy=>hG.cR y k hy (.inl rfl)) (by simpa using hO) fun y k hy hc hy2=>?_;rcases hG.place hc y hy2 with h|⟨_,h⟩
 ·rw[h] at hy;cases hy
 ·exact h rfl
theorem P0{α:Type}{R:jq α}{e:TypeId}{c:Nat}{rows:List (List Value)}{xs:List α}(h:bV R sz e aa G H a n c rows xs)(hf:∀y k,H y=some k->c'≠0->a'≠some ⟨y,0,none⟩):c≠0->c'≠0->a≠a':=by
 intro h1 h2 e;obtain⟨g,k,h3,h4⟩:=h.block h1;exact hf g k h4 h2 (e▸h3)
theorem bV.VF{c:Nat}{rows:List (List Value)}{xs:List df}(h:bV cK 6 74 aa G H a n c rows xs)(hx:xs[k]?=some m):
  ∃(b:Nat)(qa:O)(ql qc:Nat),a=some ⟨b,0,none⟩/\k<n/\aL G qa ql m.cB.ap/\∀j v,(gN m qa ql qc)[j]?=some v->H.cell b (k*6+j)=some v:=by
 obtain⟨r1,r2⟩:=h.mb (by omega);have hk:=(zw.1 hx).1;obtain⟨b,kb,h1,h2,h3,h4,h5,h6,h7⟩:=h.row.block (by omega);have fH:rows[k]?=some (rows[k]'(by omega)):=zu (by omega);obtain⟨qa,ql,qc,hq,Ff⟩:=h.all.get fH hx;refine⟨b,qa,ql,qc,h1,by omega,Ff,fun j v hj=>?_⟩;have FT:=(zw.1 hj).1;unfold Heap.cell;rw[h4];refine h7 _ _ ?_
 have hs:rows=rows.take k++gN m qa ql qc::rows.drop (k+1):=by
  rw[←hq,←List.drop_eq_getElem_cons (by omega),List.take_append_drop]
 have hl:(rows.take k).flatten.length=k*6:=by
  rw[iX (sz:=6) fun r hr=>h.wid r (zH hr),zF]
  congr 1;omega
 rw[hs,zI,zY (by omega),hl,show k*6+j-k*6=j from by omega,zW,zU (by simpa using FT)];exact hj
def rW(H:Heap)(a:O)(c:Nat):Heap:=fun b=>if c≠0/\a=some ⟨b,0,none⟩ then none else H b
theorem Cd{c:Nat} :aH (rW H a c) H:=fun b k h=>by
 unfold rW at h;split at h
 ·cases h
 ·exact h
theorem E9{c:Nat}(h:¬(c≠0/\a=some ⟨b,0,none⟩)):rW H a c b=H b:=by
 unfold rW;rw[nI h]
theorem Lq{c:Nat}(e:aH G H)(h:c≠0->∀g,a=some ⟨g,0,none⟩->G g=none):aH G (rW H a c):=fun b k hk=>by
 rw[E9 fun hh=>by rw[h hh.1 b hh.2] at hk;cases hk];exact e b k hk
theorem HO.hide{rows:List (List Value)}(h:HO aa G H w p rows fb):bV cK 6 74 aa G (rW H p.na p.nc) p.ma p.ml p.mc fb w.m:=by
 obtain⟨⟨h1,h2,h3,h4⟩,hw,ha,hs,hc⟩:=h.cZ;refine⟨⟨h1,h2,h3,?_⟩,hw,ha,Lq h.dH.sub h.dH.clear,hc⟩;by_cases hz:p.mc=0
 ·exact .inl ⟨by omega,hz⟩
 ·rcases h4 with h5|⟨g,k,q1,q2,q3,q4⟩
  ·exact .inl h5
  ·exact .inr ⟨g,k,q1,q2,by rw[E9 fun hh=>h.im hh.1 hz (hh.2.trans q1.symm)];exact q3,q4⟩
theorem HO.RQ{H':Heap}{rows:List (List Value)}(h:HO aa G H w p rows fb)(hm:w.m.length<=40){k:Int}(h0:0<=k)(h1:k<p.ml)
  (FY:k+1<(p.mc:Int)->a'=zA (fun(ad:Addr)=>Addr.add ad (Int.toNat (k+1)*6)) p.ma)  (hN:Vg.Next aa H H') (hg:H g=none) (hb:H' g=some (ay 39 [.slice p.ma (Int.toNat k) p.mc,.slice a' (p.ml-Int.toNat (k+1)) (p.mc-Int.toNat (k+1))]))
  {F:O->Nat->Nat->Heap->Prop} (hF:∀a n c H2 G2 rs,aH G G2->HO aa G2 H2 { w with m:=left w.m k false } { p with ma:=a,ml:=n,mc:=c } rows rs->F a n c H2):
  Sp 126 [.slice (some ⟨g,0,none⟩) 2 2] H' fun v H2=>∃(a:O)(n c:Nat),v= .slice a n c/\(Vg.Next aa H' H2->F a n c H2):=by
 have hO:=h.ext hN.ext;have hM:=hO.hide;have hS:=hM.sl cK.mono (by omega);have hle:=hS.le;have hlen:=hS.len;have tR:p.ml<=p.mc:=hM.row.2.1
 have hgy:¬(p.nc≠0/\p.na=some ⟨g,0,none⟩):=fun hh=>by
  obtain⟨y,kb,q1,q2⟩:=h.dH.block hh.1;rw[hh.2] at q1;simp at q1;subst q1;rw[hg] at q2
  cases q2
 have NE:Int.toNat (k+1)=Int.toNat k+1:=by omega
 have e1:(w.m.drop 0).take (Int.toNat k)=w.m.take (Int.toNat k):=by simp
 have e2:(w.m.drop (Int.toNat k+1)).take (p.ml-(Int.toNat k+1))=w.m.drop (Int.toNat k+1):=zg (by rw[yv];omega)
 have s1:Sl cK 6 (rW H' p.na p.nc) p.ma (Int.toNat k) (w.m.take (Int.toNat k)):=by
  rw[←e1];exact hS.sub (l:=0) (by omega) fun _=>by cases p.ma<;>simp[Addr.add]
 have s2:Sl cK 6 (rW H' p.na p.nc) a' (p.ml-Int.toNat (k+1)) (w.m.drop (Int.toNat k+1)):=by
  rw[NE,←e2];exact hS.sub (l:=Int.toNat k+1) (by omega) fun hh=>by rw[FY (by omega),NE]
 have hx:Sl (oX cK 6) 1 (rW H' p.na p.nc) (some ⟨g,0,none⟩) 2 [w.m.take (Int.toNat k),w.m.drop (Int.toNat k+1)]:=
  Jz (rs:=[[.slice p.ma (Int.toNat k) p.mc],[.slice a' (p.ml-Int.toNat (k+1)) (p.mc-Int.toNat (k+1))]]) (by rw[E9 hgy];exact hb) (by simp) ⟨⟨_,_,_,rfl,s1⟩,⟨_,_,_,rfl,s2⟩,trivial⟩ rfl (by omega)
 have M6: [w.m.take (Int.toNat k),w.m.drop (Int.toNat k+1)].flatten=left w.m k false:=by unfold left;rw[nI (by simp)];simp
 have Ii:=G6 (l:=w.m) (k:=k) (tw:=false);refine((PK (c:=2) hx (by omega) (by rw[M6];omega)).grown Cd).mono fun v H2 e2 hv=>?_;obtain⟨G2,gg,a,n,c,rs,rfl,Wz,hwid,hA⟩:=hv;rw[M6] at hA;have eG:aH G (rW H' p.na p.nc):=Lq hO.dH.sub hO.dH.clear;refine⟨a,n,c,rfl,fun dZ=>hF a n c H2 _ rs eG ⟨hO.iw.ext eG,hO.ji.ext eG,hO.iD.ext eG,?_,?_,?_⟩⟩
 ·exact⟨hO.dH.row.ext gg.cR,hO.dH.wid,hO.dH.all.mono dW.mono eG,Cd.trans gg.cR,fun hc y hy=>by unfold rW;rw[pI ⟨hc,hy⟩]⟩
 ·refine⟨⟨Wz.1,Wz.2.1,Wz.2.2.1,Wz.2.2.2.imp id fun⟨y,kb,q1,q2,q3,q4⟩=>⟨y,kb,q1,dZ.fresh y kb (gg.sub _ _ q3) (gg.im _ _ q3 q2),gg.sub _ _ q3,q4⟩⟩,hwid,hA,Cd.trans gg.cR,fun hc y hy=>?_⟩;rcases Wz.2.2.2 with⟨_,hz⟩|⟨z,kb,q1,q2,_⟩
  ·exact absurd hz hc
  ·have q:=hy.symm.trans q1;simp at q;subst q;exact q2
 ·intro Fb M8 heq;obtain⟨y,ky,q1,q2⟩:=hO.dH.block Fb;rcases Wz.2.2.2 with⟨_,hz⟩|⟨z,kb,q3,q4,q5,_⟩
  ·exact M8 hz
  ·have:some (⟨y,0,none⟩:Addr)=some ⟨z,0,none⟩:=q1.symm.trans (heq.trans q3);simp at this;subst this;rw[gg.im _ _ q5 q4] at q2
   cases q2
set_option maxHeartbeats 2000000 in
theorem wJ(hL:Lb H)(hw:bB H w p)(hR:cU w){c:Nat}(hx:aL H a l x.ap):
  Sp 34 [cO w p,jw x a l c] H fun v H'=>∃p',v= .tuple #[cO (okW (bO w x)) p',i64 (bN (bO w x))]/\bB H' (okW (bO w x)) p':=by
 refine tvcQ Tryz.func34 (fun _ _=>vq34) fun aa hb=>?_;have hn6:=hR.UO;have JZ:=(cM.1 hR.cZ).1;have Ah:=hw.dH.len;have Oo:=hw.cZ.len;intro b b b b;refine⟨fun vs H'=>∃p' rows fb,vs=[cO w p']/\HO aa H H' w p' rows fb,?_,fun n1 a1 l1 c1 a2 l2 c2 a3 l3 c3 n2 a4 l4 c4 n3 n4 f1 a5 l5 c5 n5 a6 l6 c6 a7 l7 c7 f2 a8 l8 c8 a9 l9 c9 Hf VD hI=>?_⟩
 ·have hE:aH H H:=aH.refl _
  repeat'
   first
   |exact⟨rfl, { p with na:=an,nl:=0+p.nl,nc:=cn,ma:=am,ml:=0+p.ml,mc:=cm },rn,rm,rfl,⟨hw.iw,hw.ji,hw.iD,WB,WC,Ij⟩⟩
   |(intro g Hx Vs kY FJ
     replace hE:=hE.trans Vs.ext
     try replace WB:=WB.ext Vs.ext
     try replace WC:=WC.ext Vs.ext)
   |(refine Lp dW.len dW.one hw.dH hE (by omega) fun an cn Hx rn ex WB WR=>?_
     replace hE:=hE.trans ex
     try have Ij:cn≠0->cm≠0->an≠am:=fun h1 h2 h3=>P0 WC WR h2 h1 h3.symm
     try replace WC:=WC.ext ex)
   |(refine Lp cK.len cK.one hw.cZ hE (by omega) fun am cm Hx rm ex WC hfm=>?_
     replace hE:=hE.trans ex
     try have Ij:=P0 WB hfm
     try replace WB:=WB.ext ex)
   |refine⟨?_,?_⟩
 obtain⟨p1,rows,fb,hv,hO⟩:=hI;simp only[List.cons.injEq,Value.slice.injEq,Value.int.injEq,true_and,Value.agg.injEq,Array.mk.injEq,Value.bool.injEq,and_true] at hv;obtain⟨rfl,⟨rfl,rfl,rfl⟩,⟨rfl,rfl,rfl⟩,⟨rfl,rfl,rfl⟩,rfl,⟨rfl,rfl,rfl⟩,rfl,rfl,rfl,⟨rfl,rfl,rfl⟩,rfl,⟨rfl,rfl,rfl⟩,⟨rfl,rfl,rfl⟩,rfl,⟨rfl,rfl,rfl⟩,rfl,rfl,rfl⟩:=hv;intro b6 b7;have hml1:=hO.cZ.mb (by omega);refine⟨x.ae=9∨x.ae=10∨x.ae=11,⟨fun h=>⟨rfl,dD,by omega⟩,fun h=>⟨fun h2=>⟨rfl,dD,by omega⟩,fun h2=>⟨rfl,dD,by omega⟩⟩⟩,fun fT=>?_,fun fT=>⟨x.ae=1∨x.ae=2∨x.ae=5∨x.ae=6,⟨fun h=>⟨rfl,dD,by omega⟩,fun h=>⟨fun h2=>⟨rfl,dD,by omega⟩,fun h2=>⟨fun h3=>⟨rfl,dD,by omega⟩,fun h3=>⟨rfl,dD,by omega⟩⟩⟩⟩,fun VG=>?_,fun VG=>?_⟩⟩
 ·intro r hr;have hr:r=(p1.ml:Int)-1:=by rw[hr,aj]
  subst hr;refine(uY x.cj 0 ((p1.ml:Int)-1)).aO fun H1 e1 fh=>⟨fun hb=>?_,fun hb=>?_⟩
  ·have hn:¬(0<=x.cj/\x.cj<w.m.length):=fun h=>by
    have h1:x.cj<=(p1.ml:Int)-1:=by omega
    simp[me,h.1,h1] at hb
   rw[RI hR fT hn];refine(ov 5).mono fun v Ha ea hv=>?_;subst hv;exact⟨_,_,_,_,_,_,_,_,_,_,_,_,_,_,_,_,_,_,_,_,_,_,_,_,_,_,_,_,_,_,_,_,_,_,_,rfl,fun E6=>⟨hY,rfl,bB.zero⟩⟩
  have mZ:0<=x.cj/\x.cj<=(p1.ml:Int)-1:=by simpa[me] using hb
  replace hO:=hO.ext e1
  obtain⟨ht,rb,eC,n,hn,hag0,hag1⟩:=E0 hR (k:=x.cj) mZ.1 (by omega)
  have VZ:w.m[x.cj.toNat]?=some (dw w.m x.cj):=by
   unfold dw;rw[List.getD_eq_getElem?_getD,zu (show x.cj.toNat<w.m.length by omega)];rfl
  obtain⟨y,qa,ql,qc,hma,Ur,Z2,cI⟩:=hO.cZ.VF VZ;have hbw:¬jO (dw w.m x.cj):=eC.1;have hgone:=fun(h:x.ae=11)=>PL hR h mZ.1 (by omega);have TP:=fun(h:x.ae=9∨x.ae=10)=>PM hR h mZ.1 (by omega) hn;generalize dw w.m x.cj=m at*;have Z1:1<=m.au/\m.au<=200:=by unfold jO at hbw;omega
  have Rb:m.ah=((m.ah.toNat:Nat):Int):=by omega
  have h6:=hR.UO;have Mg:bj n.d=0:=(hR.node n (zt hn)).rN;have cc:∀j v,(gN m qa ql qc)[j]?=some v->H1.cell y (0+x.cj.toNat*6+j)=some v:=fun j v hj=>by rw[zS];exact cI j v hj
  refine⟨y,0,hma,by omega,by omega,_,_,_,_,_,_,_,_,⟨cc 0 _ rfl,cc 1 _ rfl,cc 2 _ rfl,cc 3 _ rfl,cc 4 _ rfl,cc 5 _ rfl,trivial⟩,fun bm=>⟨fun Qz=>?_,fun Qz=>?_⟩⟩
  ·refine⟨fun vs Hc=>∃p2 rs G2,vs=[cO { w with m:=left w.m x.cj false } p2]/\aH H G2/\HO aa G2 Hc { w with m:=left w.m x.cj false } p2 rows rs,⟨by omega,by have:=hO.cZ.row.2.1;omega,fun r hr=>?_⟩,fun n1 a1 l1 c1 a2 l2 c2 a3 l3 c3 n2 a4 l4 c4 n3 n4 f1 a5 l5 c5 n5 a6 l6 c6 a7 l7 c7 f2 a8 l8 c8 a9 l9 c9 Hf VD hI=>?_⟩
   ·have hr:r=x.cj+1:=by rw[hr,aj]
    subst hr;have hmlc:p1.ml<=p1.mc:=hO.cZ.row.2.1;exact⟨by omega,by omega,hmlc,fun a' FY g Hg Jm kY FJ=>hO.RQ JZ mZ.1 (by omega) FY Jm kY FJ fun a n c H2 G2 rs eG vR=>⟨rfl,_,rs,G2,rfl,eG,vR⟩⟩
   ·obtain⟨p2,rs,G2,hv,eG,vR⟩:=hI;simp only[List.cons.injEq,Value.slice.injEq,Value.int.injEq,true_and,Value.agg.injEq,Array.mk.injEq,Value.bool.injEq,and_true] at hv;obtain⟨rfl,⟨rfl,rfl,rfl⟩,⟨rfl,rfl,rfl⟩,⟨rfl,rfl,rfl⟩,rfl,⟨rfl,rfl,rfl⟩,rfl,rfl,rfl,⟨rfl,rfl,rfl⟩,rfl,⟨rfl,rfl,rfl⟩,⟨rfl,rfl,rfl⟩,rfl,⟨rfl,rfl,rfl⟩,rfl,rfl,rfl⟩:=hv;have VH:decide (x.ae=10)=false:=by simpa using Qz
    exact Z0 (w1:= { w with m:=left w.m x.cj false }) (m:=m) (n:=n) (k:=m.ah.toNat) (hL.ext eG) hR.head.rN Mg (by omega) Z1 (show bu (left w.m x.cj false)=0 from KY hR.cZ) vR (Z2.ext' eG) Rb hn hgone fun EQ=>by
     rw[TP (by omega),VH,←Rb]
  ·have Qz:x.ae=10:=kp Qz;have VH:decide (x.ae=10)=true:=by simpa using Qz
   have bK:({ w with m:=left w.m x.cj true } :cY)=w:=by unfold left;rw[pI rfl]
   exact Z0 (w1:=w) (m:=m) (n:=n) (k:=m.ah.toNat) hL hR.head.rN Mg (by omega) Z1 hR.cZ hO Z2 Rb hn (fun EQ=>by omega) fun EQ=>by
    rw[TP (by omega),VH,bK,←Rb]
 ·exact ZZ hL hR hO hx VG
 ·exact Vv hL hR hO fT VG fun Ht et RO Vi h0 h1=>VB hL hR (hO.ext et) RO h0 h1 fun hk3=>VE hL hR (hO.ext et) (by omega) h0 h1
open Go Go.Proofs
abbrev P1(w6:LV)(s:Heap)(aa:Nat)(t:Int)(u:O)(v w:Nat)(x:O)(y z:Nat)(a1:O)(b1 c1:Nat)(d1:Int)(e:O)(g h:Nat)(i j:Int)(k:Bool)(l:O)(m n:Nat)(o:Int)(H:Heap)(id:Int)(fa:O)(fl fc:Nat)(w5:LL)(K:KT):Prop:=
 Y 88 w6 s fun f1 g1=>∃h1,f1=U h1/\(X aa s g1->∃(i1:NI)(j1:Nat),i1 j1 [U 0,A #[U t,S u v w,S x y z,S a1 b1 c1,U d1,S e g h,U i,U j,B k,S l m n,U o,S none 0 0,S none 0 0,B true,S none 0 0,S none 0 0]] g1/\∀(k1:Nat)(l1 m1:Int)(n1:O)(o1 p1:Nat)(q1:O)(r1 s1:Nat)(t1:O)(u1 v1:Nat)(w1:Int)(x1:O)(y1 z1:Nat)(a2 b2:Int)(c2:Bool)(d2:O)(e2 f2:Nat)(g2:Int)(h2:O)(i2 j2:Nat)(k2:O)(l2 m2:Nat)(n2:Bool)(o2:O)(p2 q2:Nat)(r2:O)(s2 t2:Nat)(u2:Heap),(fun w3:AV=>X aa H u2->i1 k1 [U l1,A w3] u2->(l1<h1->Y 89 [A #[U id,S fa fl fc]] u2 fun v2 w2=>∃x2 y2 z2 a3 b3 c3 d3 e3 f3 g3 h3 i3,v2=T #[A #[S x2 y2 z2,U a3,U b3,B c3,U d3,S e3 f3 g3,B h3],U i3]/\(X aa u2 w2->∀j3 k3:Nat,∃l3:List Value,bg aa w2 58 10 o2 p2 q2 l3/\(p2+1)*144<=140737488355328/\p2+1<=9223372036854775807/\∀(m3:O)(n3:Nat)(o3:Heap),cu aa w2 o3 o2 q2 m3 n3 (p2+1)->bg aa o3 58 10 m3 (p2+1) n3 (l3++[S x2 y2 z2,U a3,U b3,B c3,U d3,S e3 f3 g3,B h3,S none 0 0,S none 0 0,B true])->∀p3:Int,p3=W Z (l1+1)->w5=w5/\∃q3:Nat,q3<k1/\i1 q3 [U p3,A #[U m1,S n1 o1 p1,S q1 r1 s1,S t1 u1 v1,U w1,S x1 y1 z1,U a2,U b2,B c2,S d2 e2 f2,U g2,S h2 i2 j2,S k2 l2 m2,B n2,S m3 (p2+1) n3,S r2 s2 t2]] o3))/\(¬l1<h1->K (T #[A w3,U 0]) [] u2)) #[U m1,S n1 o1 p1,S q1 r1 s1,S t1 u1 v1,U w1,S x1 y1 z1,U a2,U b2,B c2,S d2 e2 f2,U g2,S h2 i2 j2,S k2 l2 m2,B n2,S o2 p2 q2,S r2 s2 t2])
theorem vk26{id:Int}{rl:Nat}:
 (fV TryzMutsK Tryz.f26 aa H [.v (A #[U id,S fa fl fc,S ra rl rc,S wa wl wc,U aS])] [] K)=(
 (fun w6:LV=>∀a b:Nat,Y 86 w6 H fun c d=>∃e g h i j k l m n o,(fun w5:LL=>∃p,c=T #[A #[S e g h,U i,U j,B k,S l m n,U o],U p]/\(X aa H d->∀q:Nat,(¬p=0->K (T #[A #[U 0,S none 0 0,S none 0 0,S none 0 0,U 0,S none 0 0,U 0,U 0,B false,S none 0 0,U 0,S none 0 0,S none 0 0,B false,S none 0 0,S none 0 0],U p]) [] d)/\(¬¬p=0->(Y 87 w6 d fun r s=>∃t u v w x y z a1 b1 c1 d1,r=A #[U t,S u v w,S x y z,S a1 b1 c1,U d1]/\(X aa d s->∀e1:Nat,P1 w6 s aa t u v w x y z a1 b1 c1 d1 e g h i j k l m n o H id fa fl fc w5 K))/\∀r:Nat,Y 87 w6 d fun s t=>∃u v w x y z a1 b1 c1 d1 e1,s=A #[U u,S v w x,S y z a1,S b1 c1 d1,U e1]/\(X aa d t->P1 w6 t aa u v w x y z a1 b1 c1 d1 e1 e g h i j k l m n o H id fa fl fc w5 K)))) [[U id,S fa fl fc,S ra rl rc,S wa wl wc,U aS],[U 0,S none 0 0,S none 0 0,S none 0 0,U 0,S none 0 0,U 0,U 0,B false,S none 0 0,U 0,S none 0 0,S none 0 0,B false,S none 0 0,S none 0 0],[S e g h,U i,U j,B k,S l m n,U o]]) [A #[U id,S fa fl fc,S ra rl rc,S wa wl wc,U aS]]):=by kernel_rfl
abbrev P2(w5:LV)(d:Heap)(aa:Nat)(id:Int)(fa:O)(fl fc:Nat)(ra:O)(rl rc:Nat)(wa:O)(wl wc:Nat)(aS:Int)(e:O)(g h:Nat)(i j:Int)(k:Bool)(l:O)(m n:Nat)(o:Int)(H:Heap)(w6:LV)(w4:LL)(K:KT):Prop:=
 Y 68 w5 d fun q r=>∃s,q=U s/\(X aa d r->∃(t:NI)(u:Nat),t u [U 0,A #[U id,S fa fl fc,S ra rl rc,S wa wl wc,U aS,S e g h,U i,U j,B k,S l m n,U o,S none 0 0,S none 0 0,B true,S none 0 0,S none 0 0]] r/\∀(v:Nat)(w x:Int)(y:O)(z a1:Nat)(b1:O)(c1 d1:Nat)(e1:O)(f1 g1:Nat)(h1:Int)(i1:O)(j1 k1:Nat)(l1 m1:Int)(n1:Bool)(o1:O)(p1 q1:Nat)(r1:Int)(s1:O)(t1 u1:Nat)(v1:O)(w1 x1:Nat)(y1:Bool)(z1:O)(a2 b2:Nat)(c2:O)(d2 e2:Nat)(f2:Heap),(fun w2:AV=>X aa H f2->t v [U w,A w2] f2->(w<s->∀g2:Nat,∃h2:List Value,bg aa f2 58 10 z1 a2 b2 h2/\(a2+1)*144<=140737488355328/\a2+1<=9223372036854775807/\∀(i2:O)(j2:Nat)(k2:Heap),cu aa f2 k2 z1 b2 i2 j2 (a2+1)->bg aa k2 58 10 i2 (a2+1) j2 (h2++w6)->∀l2:Int,l2=W Z (w+1)->w4=w4/\∃m2:Nat,m2<v/\t m2 [U l2,A #[U x,S y z a1,S b1 c1 d1,S e1 f1 g1,U h1,S i1 j1 k1,U l1,U m1,B n1,S o1 p1 q1,U r1,S s1 t1 u1,S v1 w1 x1,B y1,S i2 (a2+1) j2,S c2 d2 e2]] k2)/\(¬w<s->K (A w2) [] f2)) #[U x,S y z a1,S b1 c1 d1,S e1 f1 g1,U h1,S i1 j1 k1,U l1,U m1,B n1,S o1 p1 q1,U r1,S s1 t1 u1,S v1 w1 x1,B y1,S z1 a2 b2,S c2 d2 e2])
theorem vk29{id:Int}{rl:Nat}:
 (fV TryzMutsK Tryz.f29 aa H [.v (A #[U id,S fa fl fc,S ra rl rc,S wa wl wc,U aS])] [] K)=(
 (fun w6:LV=>(fun w5:LV=>(fun w4:LL=>∀a b:Nat,(Y 82 w5 H fun c d=>∃e g h i j k l m n o,c=A #[S e g h,U i,U j,B k,S l m n,U o]/\(X aa H d->∀p:Nat,P2 w5 d aa id fa fl fc ra rl rc wa wl wc aS e g h i j k l m n o H w6 w4 K))/\∀c:Nat,Y 82 w5 H fun d e=>∃g h i j k l m n o p,d=A #[S g h i,U j,U k,B l,S m n o,U p]/\(X aa H e->P2 w5 e aa id fa fl fc ra rl rc wa wl wc aS g h i j k l m n o p H w6 w4 K)) [[U id,S fa fl fc,S ra rl rc,S wa wl wc,U aS],[U 0,S none 0 0,S none 0 0,S none 0 0,U 0,S none 0 0,U 0,U 0,B false,S none 0 0,U 0,S none 0 0,S none 0 0,B false,S none 0 0,S none 0 0]]) [A #[U id,S fa fl fc,S ra rl rc,S wa wl wc,U aS]]) [S fa fl fc,U 1,U 0,B false,U 0,S none 0 0,B true,S none 0 0,S none 0 0,B true]):=by kernel_rfl
open Go Go.Proofs
def yM(c:dM):cY:=if de c=0 then ek c else ou
theorem Ce{c:dM}(h:de c=0):(c.first.ap.length<=100000/\c.rules.length<=100000/\c.bf.length<=100000/\∀x∈c.bf,x.length<=100000)/\1<=bo c.bf/\bo c.bf<=6:=by
 obtain⟨c1,c2,c3,c4,c5,c6,c7⟩:=dv h;obtain⟨b1,b2,b3⟩:=iV.1 c5;obtain⟨w1,w2⟩:=xJ c7;have w3:=(fk c7)
 have r:=ey c1;refine⟨⟨by omega,by omega,by omega,fun x hx=>by have:=w2 x hx;omega⟩,w3.1,w3.2.1⟩
theorem TQ{c:dM}{rl:Nat}(hc:fB H c fa fl ra rl wa wl):
  Sp 26 [eN c fa fl fc ra rl rc wa wl wc] H fun v H'=>∃p',v= .tuple #[cO (yM c) p',i64 (de c)]/\bB H' (yM c) p':=by
 refine wo Tryz.func26 (fun _ _=>vk26) fun aa hb=>fun b b'=>?_;have hNL:=S9 (fc:=fc) (rc:=rc) (wc:=wc) hc;by_cases h:de c=0
 case neg=>
  have hE:yM c=ou:=by unfold yM;rw[nI h]
  rw[hE];refine hNL.ji fun la ll lc ka kl kc H1 e1 fh hA=>fun b1=>⟨fun h=>?_,fun h2=>absurd h h2⟩
  exact⟨hY,rfl,bB.zero⟩
 case pos=>
  have hE:yM c=ek c:=by unfold yM;rw[pI h]
  rw[hE,h];rw[pI h,h] at hNL;refine hNL.ji fun la ll lc ka kl kc H1 e1 fh hA=>fun b1=>⟨fun h2=>absurd rfl h2,fun _=>?_⟩
  obtain⟨⟨s1,s2,s3,s4⟩,g1,g2⟩:=Ce h;refine⟨?_,fun b2=>?_⟩
  all_goals
   refine bS.ZF (HC (hc.ext e1) (by rw[←hc.pins.len];exact s1) (by rw[←hc.rules.len];exact s2) (by rw[←hc.bf.len];exact s3) s4) fun Ef Ei Ej Eg Ek El Eh Em En H2 e2 dZ hC=>?_
   first
    |refine fun(b3:Nat)=>(p9 ((hc.ext e1).ext e2)).bY fun H3 e3 fS=>?_
    |refine(p9 ((hc.ext e1).ext e2)).bY fun H3 e3 fS=>?_
   have hq:dp c.first=0:=(dv h).1;obtain⟨N,hNn⟩:∃N:Nat,N=(bo c.bf).toNat:=⟨_,rfl⟩
   have hP:lh H3 ⟨c,⟨dC c,sW,true⟩,[],[]⟩ ⟨Ef,Ei,Ej,Eg,Ek,El,Eh,Em,En,la,ll,lc,ka,kl,kc,none,0,0,none,0,0,none,0,0,none,0,0⟩:=⟨hC.ext e3,(hA.ext e2).ext e3,cr.zero,Sl.nil,ze 0⟩
   refine⟨fun m vs H'=>∃(k:Nat)(a:O)(ca:Nat)(rows:List (List Value))(G:Heap),vs=[.int .i64 k,cO ⟨c,⟨dC c,sW,true⟩,zk k (ei c.first),[]⟩ ⟨Ef,Ei,Ej,Eg,Ek,El,Eh,Em,En,la,ll,lc,ka,kl,kc,none,0,0,none,0,0,a,k,ca,none,0,0⟩]/\m=N-k/\k<=N/\bV dW 10 58 aa G H' a k ca rows (zk k (ei c.first))/\aH H3 G,N,⟨0,none,0,[],H3,rfl,rfl,by omega,bV.zero (aH.refl _),aH.refl _⟩,?_⟩;intro m Rs Rt a9 Fp c5 ER Np c6 a11 Nq c7 Qw a12 n18 c8 n19 n20 b3 ES n21 c9 n22 a14 n23 Hq Hu n24 c11 b4 ET n25 c12 ZV n26 Hr H' Vs hI;obtain⟨k,a,ca,rows,G,cv,rfl,hkN,hO,eG⟩:=hI;simp only[List.cons.injEq,Value.slice.injEq,Value.int.injEq,true_and,Value.agg.injEq,Array.mk.injEq,Value.bool.injEq,and_true] at cv;obtain⟨rfl,rfl,⟨rfl,rfl,rfl⟩,⟨rfl,rfl,rfl⟩,⟨rfl,rfl,rfl⟩,rfl,⟨rfl,rfl,rfl⟩,rfl,rfl,rfl,⟨rfl,rfl,rfl⟩,rfl,⟨rfl,rfl,rfl⟩,⟨rfl,rfl,rfl⟩,rfl,⟨rfl,rfl,rfl⟩,rfl,rfl,rfl⟩:=cv;obtain⟨k,hk⟩:∃k,k=n25:=⟨_,rfl⟩
   subst hk;refine⟨fun bK=>?_,fun gj=>?_⟩
   ·have hpG:aL G fa fl c.first.ap:=(((hc.pins.ext' e1).ext' e2).ext' e3).ext' eG;have hcN:=Zg (c:=fc) (r:=c.first) hpG;rw[pI hq,hq] at hcN;refine(hcN.grown hO.sub).mono fun v H4 e4 hv=>?_;obtain⟨G1,g1,xa,xl,xc,ga,gl,gc,rfl,q1,q2⟩:=hv;have C2:=hO.grown dW.mono g1;refine⟨_,_,_,_,_,_,_,_,_,_,_,_,rfl,fun iC=>fun b7 b8=>⟨rows.flatten,C2.row,by omega,by omega,fun a' c' H5 hg hr r GA=>⟨rfl,N-(k+1),by omega,k+1,a',c',rows++[bR (ei c.first) ⟨xa,xl,xc,ga,gl,gc,none,0,0,none,0,0⟩],G1,?_,rfl,by omega,?_,aH.trans eG g1.ext⟩⟩⟩
    ·rw[GA,wrap_small];rfl
    ·have VI:zk (k+1) (ei c.first)=zk k (ei c.first)++[ei c.first]:=List.replicate_succ';rw[VI];refine C2.oB hg (rows':=[bR (ei c.first) ⟨xa,xl,xc,ga,gl,gc,none,0,0,none,0,0⟩]) (ys:=[ei c.first]) (by rw[List.flatten_singleton];exact hr) (by simp) ⟨⟨_,rfl,q1,q2,cr.zero⟩,trivial⟩
   ·have Sa:k=N:=by omega
    subst Sa;have RR:=(hP.ext eG).ext hO.sub;refine⟨⟨a9,Fp,c5,ER,Np,c6,a11,Nq,c7,a12,n18,c8,ES,n21,c9,none,0,0,none,0,0,ET,_,c12,none,0,0⟩,rfl,⟨RR.iw,RR.ji,RR.iD,?_,RR.cZ⟩⟩
    show BZ H' _ _ (zk (bo c.bf).toNat (ei c.first))
    rw[←hNn];exact hO.sl dW.mono (by omega)
def lL(f:Int->Bool):Int->List Int->Int
 |_,[]=> -1
 |i,x::r=>if f x=true then i else lL f (i+1) r
theorem Cf(f:Int->Bool):∀(l:List Int)(i:Int),0<=i->(0<=lL f i l↔l.any f=true)
 | [],i,_=>by simp[lL]
 |x::r,i,h=>by
  unfold lL;split
  ·rename_i e;simp[h,e]
  ·rename_i e;rw[Cf f r (i+1) (by omega)];simp[e]
theorem Dt{x:Int}(h:xs[k]?=some x):xs.drop k=x::xs.drop (k+1):=by
 obtain⟨hk,h⟩:=zw.1 h;rw[List.drop_eq_getElem_cons hk,h]
open Go Go.Proofs
theorem VJ{c:dM}{rl:Nat}(hc:fB H c fa fl ra rl wa wl)(h:de c=0):
  Sp 29 [eN c fa fl fc ra rl rc wa wl wc] H fun v H'=>∃p',v=cO (ek c) p'/\bB H' (ek c) p':=by
 refine wo Tryz.func29 (fun _ _=>vk29) fun aa hb=>fun b b'=>?_;obtain⟨⟨s1,s2,s3,s4⟩,g1,g2⟩:=Ce h;have hid:=(dv h).2.1;refine⟨?_,fun b2=>?_⟩
 all_goals
  refine(KX (fc:=fc) (rc:=rc) (wc:=wc) hc h).mono fun v H1 e1 hv=>?_;obtain⟨la,ll,lc,ka,kl,kc,rfl,hA⟩:=hv;refine⟨_,_,_,_,_,_,_,_,_,_,rfl,fun fh=>?_⟩
  first
   |refine fun(b3:Nat)=>(jQ (hc.ext e1)).bY fun H2 e2 dZ=>?_
   |refine(jQ (hc.ext e1)).bY fun H2 e2 dZ=>?_
  rw[oF h];obtain⟨N,hNn⟩:∃N:Nat,N=(bo c.bf).toNat:=⟨_,rfl⟩
  have hP:lh H2 ⟨c,⟨dC c,sW,true⟩,[],[]⟩ ⟨fa,fl,fc,ra,rl,rc,wa,wl,wc,la,ll,lc,ka,kl,kc,none,0,0,none,0,0,none,0,0,none,0,0⟩:=⟨(hc.ext e1).ext e2,hA.ext e2,cr.zero,Sl.nil,ze 0⟩
  refine⟨fun m vs H'=>∃(k:Nat)(a:O)(ca:Nat)(rows:List (List Value))(G:Heap),vs=[.int .i64 k,cO ⟨c,⟨dC c,sW,true⟩,zk k (ei c.first),[]⟩ ⟨fa,fl,fc,ra,rl,rc,wa,wl,wc,la,ll,lc,ka,kl,kc,none,0,0,none,0,0,a,k,ca,none,0,0⟩]/\m=N-k/\k<=N/\bV dW 10 58 aa G H' a k ca rows (zk k (ei c.first))/\aH H2 G,N,⟨0,none,0,[],H2,rfl,rfl,by omega,bV.zero (aH.refl _),aH.refl _⟩,?_⟩;intro m Rs Rt a9 Fp c5 ER Np c6 a11 Nq c7 Qw a12 n18 c8 n19 n20 b3 ES n21 c9 n22 a14 n23 Hq Hu n24 c11 b4 ET n25 c12 ZV n26 Hr H' Vs hI;obtain⟨k,a,ca,rows,G,cv,rfl,hkN,hO,eG⟩:=hI;simp only[List.cons.injEq,Value.slice.injEq,Value.int.injEq,true_and,Value.agg.injEq,Array.mk.injEq,Value.bool.injEq,and_true] at cv;obtain⟨rfl,rfl,⟨rfl,rfl,rfl⟩,⟨rfl,rfl,rfl⟩,⟨rfl,rfl,rfl⟩,rfl,⟨rfl,rfl,rfl⟩,rfl,rfl,rfl,⟨rfl,rfl,rfl⟩,rfl,⟨rfl,rfl,rfl⟩,⟨rfl,rfl,rfl⟩,rfl,⟨rfl,rfl,rfl⟩,rfl,rfl,rfl⟩:=cv;obtain⟨k,hk⟩:∃k,k=n25:=⟨_,rfl⟩
  subst hk;refine⟨fun bK=>fun b7=>?_,fun gj=>?_⟩
  ·have hpG:aL G a9 Fp c.first.ap:=((hc.pins.ext' e1).ext' e2).ext' eG;refine⟨rows.flatten,hO.row,by omega,by omega,fun a' c' H5 hg hr r GA=>⟨rfl,N-(k+1),by omega,k+1,a',c',rows++[bR (ei c.first) ⟨a9,Fp,c5,none,0,0,none,0,0,none,0,0⟩],G,?_,rfl,by omega,?_,eG⟩⟩
   ·rw[GA,wrap_small];rfl
   ·have VI:zk (k+1) (ei c.first)=zk k (ei c.first)++[ei c.first]:=List.replicate_succ';rw[VI]
    have cI:bR (ei c.first) ⟨a9,Fp,c5,none,0,0,none,0,0,none,0,0⟩=[.slice a9 Fp c5,.int .i64 1,.int .i64 0,.bool false,.int .i64 0,.slice none 0 0,.bool true,.slice none 0 0,.slice none 0 0,.bool true]:=by
     show([.slice a9 Fp c5,.int .i64 c.first.id,.int .i64 0,.bool false,.int .i64 0,.slice none 0 0,.bool true,.slice none 0 0,.slice none 0 0,.bool true]:List Value)=_
     rw[hid]
    exact hO.oB hg (rows':=[bR (ei c.first) ⟨a9,Fp,c5,none,0,0,none,0,0,none,0,0⟩]) (ys:=[ei c.first]) (by rw[List.flatten_singleton,cI];exact hr) (by simp) ⟨⟨_,rfl,hpG,Sl.nil,cr.zero⟩,trivial⟩
  ·have Sa:k=N:=by omega
   subst Sa;have RR:=(hP.ext eG).ext hO.sub;refine⟨⟨a9,Fp,c5,ER,Np,c6,a11,Nq,c7,a12,n18,c8,ES,n21,c9,none,0,0,none,0,0,ET,_,c12,none,0,0⟩,rfl,⟨RR.iw,RR.ji,RR.iD,?_,RR.cZ⟩⟩
   show BZ H' _ _ (zk (bo c.bf).toNat (ei c.first))
   rw[←hNn];exact hO.sl dW.mono (by omega)
open Go Go.Proofs
theorem vk96(b:Nat)(k:Int)(aa:Nat)(H:Heap)(K:KT):
 (fV TryzMutsL Tryz.f96 aa H [.v (U k),.loc 0 0] [⟨b,false,141,[.func (.func 95) #[] #[]]⟩] K)=(
 Y 95 [U 3,U k] H fun a c=>∃d e g h i j l,a=A #[U d,U e,U g,B h,S i j l]/\(X aa H c->Y 95 [U 9,U 0] c fun m n=>∃o p q r s t u,m=A #[U o,U p,U q,B r,S s t u]/\(X aa c n->Y 95 [U 7,U k] n fun v w=>∃x y z a1 b1 c1 d1,v=A #[U x,U y,U z,B a1,S b1 c1 d1]/\(X aa n w->Y 95 [U 7,U k] w fun e1 f1=>∃g1 h1 i1 j1 k1 l1 m1,e1=A #[U g1,U h1,U i1,B j1,S k1 l1 m1]/\(X aa w f1->Y 95 [U 7,U k] f1 fun n1 o1=>∃p1 q1 r1 s1 t1 u1 v1,n1=A #[U p1,U q1,U r1,B s1,S t1 u1 v1]/\(X aa f1 o1->Y 95 [U 9,U 0] o1 fun w1 x1=>∃y1 z1 a2 b2 c2 d2 e2,w1=A #[U y1,U z1,U a2,B b2,S c2 d2 e2]/\(X aa o1 x1->∀(f2:Nat)(g2:Heap),X aa x1 g2->x1 f2=none->g2 f2=some (ay 62 [U d,U e,U g,B h,S i j l,U o,U p,U q,B r,S s t u,U x,U y,U z,B a1,S b1 c1 d1,U g1,U h1,U i1,B j1,S k1 l1 m1,U p1,U q1,U r1,B s1,S t1 u1 v1,U y1,U z1,U a2,B b2,S c2 d2 e2])->K (S (some (D f2 0 none)) 6 6) [[Value.func (Fn.func 95) #[] #[]]] g2))))))):=by kernel_rfl
abbrev J1(aa:Nat)(x3:Heap)(q2:Nat)(v2:O)(w2 x2:Nat)(c3:O)(d3 e3:Nat)(j3:O)(k3 l3 w3:Nat)(pr:AV)(z1:Int)(K:KT)(a:Nat)(wI:LV)(a2:Nat):Prop:=
 ∀(y3:Nat)(z3:Heap),X aa x3 z3->x3 y3=none->z3 y3=some (ay 72 [S (some (D q2 0 none)) 3 3,S v2 w2 x2,S c3 d3 e3,S j3 k3 l3,S (some (D w3 0 none)) 1 1])->Y 97 [S (some (D y3 0 none)) 5 5] z3 fun a4 b4=>∃c4 d4 e4,a4=S c4 d4 e4/\(X aa z3 b4->Y 39 [A pr,S c4 d4 e4] b4 fun f4 g4=>∃h4 i4 j4 k4 l4 m4 n4 o4 p4 q4 r4 s4 t4 u4 v4 w4 x4 y4 z4 a5 b5 c5 d5 e5 f5 g5 h5 i5 j5 k5 l5 m5 n5 o5,(fun w6:LB=>∃p5 q5 r5 s5,f4=T #[A #[U h4,S i4 j4 k4,S l4 m4 n4,S o4 p4 q4,U r4,S s4 t4 u4,U v4,U w4,B x4,S y4 z4 a5,U b5,S c5 d5 e5,S f5 g5 h5,B i5,S j5 k5 l5,S m5 n5 o5],S p5 q5 r5,U s5]/\(X aa b4 g4->Y 98 [S p5 q5 r5,Value.func (Fn.func 99) #[] #[]] g4 fun t5 u5=>∃v5,t5=U v5/\(X aa g4 u5->∃w5:Prop,((z1=0->(s5=0->((q5:Int)=22->(v5=2->∃x5 y5,p5=some (D x5 y5 none)/\Int.ofNat 0<=2/\2<(q5:Int)/\∃z5,C u5 x5 (y5+2*1)=some (U z5)/\(z5=7->Int.ofNat 0<=3/\3<=(q5:Int)/\q5<=r5/\∀a6:O,(3<(r5:Int)->a6=zA (fun b6=>Addr.add b6 (3*1)) p5)->Y 73 [S a6 (q5-3) (r5-3),Value.func (Fn.func 100) #[] #[]] u5 fun b6 c6=>∃d6,b6=B d6/\(X aa u5 c6->(d6=false->(v4=2->(w4=0->((n5:Int)=0->∃e6 f6,j5=some (D e6 f6 none)/\Int.ofNat 0<=2/\2<(k5:Int)/\∃g6,C c6 e6 (f6+2*10+1)=some (U g6)/\w6=w6/\ak u5 c6/\(w5↔g6=2))/\(¬(n5:Int)=0->w6=w6/\ak u5 c6/\¬w5))/\(¬w4=0->w6=w6/\ak u5 c6/\¬w5))/\(¬v4=2->w6=w6/\ak u5 c6/\¬w5))/\(¬d6=false->w6=w6/\ak u5 c6/\¬w5)))/\(¬z5=7->w6=w6/\ak u5 u5/\¬w5))/\(¬v5=2->w6=w6/\ak u5 u5/\¬w5))/\(¬(q5:Int)=22->w6=w6/\ak u5 u5/\¬w5))/\(¬s5=0->w6=w6/\ak u5 u5/\¬w5))/\(¬z1=0->w6=w6/\ak u5 u5/\¬w5))/\K (B (@decide w5 (zh w5))) [] u5))) [J a false 141 wI,J a2 false 41 [U h4,S i4 j4 k4,S l4 m4 n4,S o4 p4 q4,U r4,S s4 t4 u4,U v4,U w4,B x4,S y4 z4 a5,U b5,S c5 d5 e5,S f5 g5 h5,B i5,S j5 k5 l5,S m5 n5 o5]])
abbrev uE(i3:Heap)(wq:LB)(m3:Heap):Prop:=
 ∀(n3:Nat)(o3:KB),i3 n3=some o3->(∀p3:Bx,p3∈wq->n3≠Bx.b p3)->m3 n3=some o3
abbrev P3(m3:Heap)(aa q2:Nat)(v2:O)(w2 x2:Nat)(c3:O)(d3 e3:Nat)(j3:O)(k3 l3:Nat)(pr:AV)(z1:Int)(K:KT)(a:Nat)(wI:LV)(a2:Nat):Prop:=
 Y 95 [U 6,U 0] m3 fun n3 o3=>∃p3 q3 r3 s3 t3 u3 v3,n3=A #[U p3,U q3,U r3,B s3,S t3 u3 v3]/\(X aa m3 o3->∀(w3:Nat)(x3:Heap),X aa o3 x3->o3 w3=none->x3 w3=some (ay 62 [U p3,U q3,U r3,B s3,S t3 u3 v3])->J1 aa x3 q2 v2 w2 x2 c3 d3 e3 j3 k3 l3 w3 pr z1 K a wI a2)
abbrev J2(f3:Heap)(a:Nat)(wI CZ:LV)(aa:Nat)(wq:LB)(q2:Nat)(v2:O)(w2 x2:Nat)(c3:O)(d3 e3:Nat)(pr:AV)(z1:Int)(K:KT)(a2:Nat):Prop:=
 true=true/\∀g3:Heap,X 0 f3 g3->g3 a=some (ay 141 wI)/\True->Y 96 CZ g3 fun h3 i3=>∃j3 k3 l3,h3=S j3 k3 l3/\∀m3,X aa f3 m3->(uE i3 wq m3)->P3 m3 aa q2 v2 w2 x2 c3 d3 e3 j3 k3 l3 pr z1 K a wI a2
theorem vk30(aa:Nat)(H:Heap)(K:KT):
 (fV TryzMutsL Tryz.f30 aa H [] [] K)=(
 (fun wI:LV=>∀a:Nat,(fun QA:LV=>(fun CZ:LV=>(fun wq:LB=>Y 71 [] H fun b c=>∃d e g h i j k l m n o,b=A #[U d,S e g h,S i j k,S l m n,U o]/\(X aa H c->Y 26 [A #[U d,S e g h,S i j k,S l m n,U o]] c fun p q=>∃(r:Int)(s:O)(t u:Nat)(v:O)(w x:Nat)(y:O)(z a1:Nat)(b1:Int)(c1:O)(d1 e1:Nat)(f1 g1:Int)(h1:Bool)(i1:O)(j1 k1:Nat)(l1:Int)(m1:O)(n1 o1:Nat)(p1:O)(q1 r1:Nat)(s1:Bool)(t1:O)(u1 v1:Nat)(w1:O)(x1 y1:Nat),(fun pr:AV=>∃z1,p=T #[A pr,U z1]/\(X aa c q->∀a2:Nat,Y 72 [] q fun b2 c2=>∃d2 e2 f2 g2,b2=A #[U d2,S e2 f2 g2]/\(X aa q c2->Y 95 [U 3,U 0] c2 fun h2 i2=>∃j2 k2 l2 m2 n2 o2 p2,(fun pQ:LV=>h2=A #[U j2,U k2,U l2,B m2,S n2 o2 p2]/\(X aa c2 i2->(∀(q2:Nat)(r2:Heap),X aa i2 r2->i2 q2=none->r2 q2=some (ay 62 pQ)->true=true/\∀s2:Heap,X 0 r2 s2->s2 a=some (ay 141 wI)/\True->Y 96 [U 1,P (some (D a 0 none))] s2 fun t2 u2=>∃v2 w2 x2,t2=S v2 w2 x2/\∀y2,X aa r2 y2->(uE u2 wq y2)->true=true/\∀z2:Heap,X 0 y2 z2->z2 a=some (ay 141 wI)/\True->Y 96 QA z2 fun a3 b3=>∃c3 d3 e3,a3=S c3 d3 e3/\∀f3,X aa y2 f3->(uE b3 wq f3)->J2 f3 a wI CZ aa wq q2 v2 w2 x2 c3 d3 e3 pr z1 K a2)/\true=true/\∀q2:Heap,X 0 i2 q2->q2 a=some (ay 141 wI)/\True->Y 96 [U 1,P (some (D a 0 none))] q2 fun r2 s2=>∃t2 u2 v2,r2=S t2 u2 v2/\∀w2,X aa i2 w2->(uE s2 wq w2)->(∀(x2:Nat)(y2:Heap),X aa w2 y2->w2 x2=none->y2 x2=some (ay 62 pQ)->true=true/\∀z2:Heap,X 0 y2 z2->z2 a=some (ay 141 wI)/\True->Y 96 QA z2 fun a3 b3=>∃c3 d3 e3,a3=S c3 d3 e3/\∀f3,X aa y2 f3->(uE b3 wq f3)->J2 f3 a wI CZ aa wq x2 t2 u2 v2 c3 d3 e3 pr z1 K a2)/\true=true/\∀x2:Heap,X 0 w2 x2->x2 a=some (ay 141 wI)/\True->Y 96 QA x2 fun y2 z2=>∃a3 b3 c3,y2=S a3 b3 c3/\∀d3,X aa w2 d3->(uE z2 wq d3)->(∀(e3:Nat)(f3:Heap),X aa d3 f3->d3 e3=none->f3 e3=some (ay 62 pQ)->J2 f3 a wI CZ aa wq e3 t2
 u2 v2 a3 b3 c3 pr z1 K a2)/\true=true/\∀e3:Heap,X 0 d3 e3->e3 a=some (ay 141 wI)/\True->Y 96 CZ e3 fun f3 g3=>∃h3 i3 j3,f3=S h3 i3 j3/\∀k3,X aa d3 k3->(uE g3 wq k3)->(∀(l3:Nat)(m3:Heap),X aa k3 m3->k3 l3=none->m3 l3=some (ay 62 pQ)->P3 m3 aa l3 t2 u2 v2 a3 b3 c3 h3 i3 j3 pr z1 K a wI a2)/\Y 95 [U 6,U 0] k3 fun l3 m3=>∃n3 o3 p3 q3 r3 s3 t3,l3=A #[U n3,U o3,U p3,B q3,S r3 s3 t3]/\(X aa k3 m3->(∀(u3:Nat)(v3:Heap),X aa m3 v3->m3 u3=none->v3 u3=some (ay 62 pQ)->∀(w3:Nat)(x3:Heap),X aa v3 x3->v3 w3=none->x3 w3=some (ay 62 [U n3,U o3,U p3,B q3,S r3 s3 t3])->J1 aa x3 u3 t2 u2 v2 a3 b3 c3 h3 i3 j3 w3 pr z1 K a wI a2)/\∀(u3:Nat)(v3:Heap),X aa m3 v3->m3 u3=none->v3 u3=some (ay 62 [U n3,U o3,U p3,B q3,S r3 s3 t3])->∀(w3:Nat)(x3:Heap),X aa v3 x3->v3 w3=none->x3 w3=some (ay 62 pQ)->J1 aa x3 w3 t2 u2 v2 a3 b3 c3 h3 i3 j3 u3 pr z1 K a wI a2))) [U 1,U 0,U 0,B false,S e2 f2 g2,U 2,U 0,U 2,B false,S none 0 0,U j2,U k2,U l2,B m2,S n2 o2 p2]))) #[U r,S s t u,S v w x,S y z a1,U b1,S c1 d1 e1,U f1,U g1,B h1,S i1 j1 k1,U l1,S m1 n1 o1,S p1 q1 r1,B s1,S t1 u1 v1,S w1 x1 y1])) [J a false 141 wI]) [U 2,P (some (D a 0 none))]) [U 0,P (some (D a 0 none))]) [Value.func (Fn.func 95) #[] #[]]):=by kernel_rfl
open Go Go.Proofs
theorem vk95{k n:Int}:
 (fV TryzMutsK Tryz.f95 aa H [.v (U k),.v (U n)] [] K)=(
 ∀a:Nat,K (A #[U k,U n,U 0,B true,S none 0 0]) [] H):=by kernel_rfl
abbrev VK(g:Int)(l:Nat)(a:O)(h:Heap)(e:Int)(b:LI)(d:LM):Prop:=
 g<(l:Int)->∃i j,a=some (D i j none)/\0<=g/\g<(l:Int)/\∃k m n,C h i (j+N g*1)=some (S k m n)/\∀o:Int,o=W Z (e+(m:Int))->(o<0->False)/\(¬o<0->∀p:Int,p=W Z (g+1)->b [U o,U p] h/\d [U o,U p]<d [U e,U g])
theorem vk97{c:Nat}:
 (fV TryzMutsJ Tryz.f97 aa H [.v (S a l c)] [] K)=(
 ∃(b:LI)(d:LM),b [U 0,U 0] H/\∀(e g:Int)(h:Heap),X aa H h->b [U e,U g] h->(VK g l a h e b d)/\(¬g<(l:Int)->Y 185 [S none 0 0,U e] h fun i j=>∃k m n,i=S k m n/\(X aa h j->∃(o:LI)(p:LM),o [S k m n,U 0] j/\∀(q:O)(r s:Nat)(t:Int)(u:Heap),X aa H u->o [S q r s,U t] u->(t<(l:Int)->∃v w,a=some (D v w none)/\0<=t/\t<(l:Int)/\∃x y z,C u v (w+N t*1)=some (S x y z)/\∃a1 b1:List Value,bg aa u 62 5 q r s a1/\zo b1=y*5/\aM b1=true/\(y=0∨∃c1 d1,x=some (D c1 d1 none)/\ba u c1 d1 0 b1)/\(r+y)*56<=140737488355328/\r+y<=9223372036854775807/\∀(c1:O)(d1:Nat)(e1:Heap),cu aa u e1 q s c1 d1 (r+y)->bg aa e1 62 5 c1 (r+y) d1 (a1++b1)->∀f1:Int,f1=W Z (t+1)->o [S c1 (r+y) d1,U f1] e1/\p [S c1 (r+y) d1,U f1]<p [S q r s,U t])/\(¬t<(l:Int)->K (S q r s) [] u)))):=by kernel_rfl
theorem vk185{c:Nat}{n:Int}:
 (fV TryzMutsJ Tryz.f185 aa H [.v (S a l c),.v (U n)] [] K)=(
 (n<0->False)/\(¬n<0->∀b:Int,b=W Z ((c:Int)-(l:Int))->∀d:Int,d=W Z (n-b)->(0<d->0<=(c:Int)/\(c:Int)<=(c:Int)/\∃(e:List Value)(g:Nat),d=(g:Int)/\0<g/\c<N (c:Int)+g/\bg aa H 62 5 a (N (c:Int)) c e/\(N (c:Int)+g)*56<=140737488355328/\N (c:Int)+g<=9223372036854775807/\∀(h i:Nat)(j:Heap),X aa H j->H h=none->bg aa j 62 5 (some (D h 0 none)) (N (c:Int)+g) i (e++yk (zk g [U 0,U 0,U 0,B false,S none 0 0]))->0<=(l:Int)/\(l:Int)<=(i:Int)/\K (S (some (D h 0 none)) (N (l:Int)) i) [] j)/\(¬0<d->K (S a l c) [] H))):=by kernel_rfl
theorem vk99:
 (fV TryzMutsK Tryz.f99 aa H [.v (U e)] [] K)=(
 K (B (decide ¬e=0)) [] H):=by kernel_rfl
theorem vk100:
 (fV TryzMutsK Tryz.f100 aa H [.v (U e)] [] K)=(
 K (B (decide ¬e=0)) [] H):=by kernel_rfl
theorem vk98b{c:Nat}:
 (fV TryzMutsK Tryz.f98 aa H [.v (S a l c),.v (.func (.func 99) #[] #[])] [] K)=(
 ∃(b:NI)(d:Nat),b d [U 0,U 0] H/\∀(e:Nat)(g h:Int)(i:Heap),X aa H i->b e [U g,U h] i->(h<(l:Int)->∃j k,a=some (D j k none)/\0<=h/\h<(l:Int)/\∃m,C i j (k+N h*1)=some (U m)/\Y 99 [U m] i fun n o=>∃p,n=B p/\(X aa i o->(p=true->K (U h) [] o)/\(p=false->∀q:Int,q=W Z (h+1)->∃r:Nat,r<e/\b r [U g,U q] o)))/\(¬h<(l:Int)->K (U (-1)) [] i)):=by kernel_rfl
theorem vk98c{c:Nat}:
 (fV TryzMutsK Tryz.f98 aa H [.v (S a l c),.v (.func (.func 100) #[] #[])] [] K)=(
 ∃(b:NI)(d:Nat),b d [U 0,U 0] H/\∀(e:Nat)(g h:Int)(i:Heap),X aa H i->b e [U g,U h] i->(h<(l:Int)->∃j k,a=some (D j k none)/\0<=h/\h<(l:Int)/\∃m,C i j (k+N h*1)=some (U m)/\Y 100 [U m] i fun n o=>∃p,n=B p/\(X aa i o->(p=true->K (U h) [] o)/\(p=false->∀q:Int,q=W Z (h+1)->∃r:Nat,r<e/\b r [U g,U q] o)))/\(¬h<(l:Int)->K (U (-1)) [] i)):=by kernel_rfl
theorem vk73b{c:Nat}:
 (fV TryzMutsK Tryz.f73 aa H [.v (S a l c),.v (.func (.func 100) #[] #[])] [] K)=(
 Y 98 [S a l c,Value.func (Fn.func 100) #[] #[]] H fun b d=>∃e,b=U e/\(X aa H d->K (B (decide (0<=e))) [] d)):=by kernel_rfl
theorem vk40{c l':Nat}:
 (fV TryzMutsJ Tryz.f40 aa H [.v (S a l c),.v (S a' l' c')] [] K)=(
 (¬(l:Int)=(l':Int)->K (B false) [] H)/\(¬¬(l:Int)=(l':Int)->∃(b:LI)(d:LM),b [B false,U 0] H/\∀(e:Bool)(g:Int)(h:Heap),X aa H h->b [B e,U g] h->(g<(l:Int)->∃i j,a=some (D i j none)/\0<=g/\g<(l:Int)/\∃k,C h i (j+N g*1)=some (U k)/\∃m n,a'=some (D m n none)/\0<=g/\g<(l':Int)/\∃o,C h m (n+N g*1)=some (U o)/\(¬k=o->K (B false) [] h)/\(¬¬k=o->∀p:Int,p=W Z (g+1)->b [B e,U p] h/\d [B e,U p]<d [B e,U g]))/\(¬g<(l:Int)->K (B true) [] h))):=by kernel_rfl
open Go Go.Proofs
theorem MX:ow.oW:=fun H H' r x e h=>by
 obtain⟨a,l,c,rfl,hp⟩:=h;exact⟨a,l,c,rfl,hp.ext' e⟩
theorem ow.mono:ow.oW:=MX
theorem P4{r:List Value}{m:gX}(h:ow H r m):aM r=true:=by obtain⟨a,n,c,rfl,_⟩:=h;rfl
theorem VL{k:Int}(h0:0<=k)(h1:k<=1000000):Sp 185 [.slice none 0 0,.int .i64 k] H fun v H'=>∃a c,v= .slice a 0 c/\bZ H H' 62 5 a 0 c []:=by
 refine bh Tryz.func185 (fun _ _=>vk185) fun aa hb=>?_;refine⟨fun h=>by omega,fun _=>fun r hr=>?_⟩;obtain rfl:r=0:=by rw[hr,aj];omega
 rintro r rfl;rw[aj];refine⟨fun h=>⟨by omega,by omega,[],k.toNat,by omega,by omega,by omega,bg.zero,by omega,by omega,fun g c' H1 hN hg hR=>⟨by omega,by omega,?_⟩⟩,fun h=>⟨none,0,rfl,bZ.zero⟩⟩;refine⟨_,_,rfl,?_⟩;have:=hR.short (m:=0) (by omega);rw[Nat.zero_mul,List.take_zero] at this;exact this.fresh hb
theorem P5{c:Nat}{jx:List (List gX)}(hx:Sl (oX ow 5) 1 H a l jx)(hl:l<=100)(hn:jx.flatten.length<=200000):Sp 97 [.slice a l c] H fun v H'=>∃a n c,v= .slice a n c/\n<=c/\Sl ow 5 H' a n jx.flatten:=by
 refine bh Tryz.func97 (fun _ _=>vk97) fun aa hb=>?_;have Ia:=hx.len
 have nM:∀k,(jx.take k).flatten.length<=jx.flatten.length:=fun k=>by
  have:(jx.take k++jx.drop k).flatten.length=jx.flatten.length:=by rw[List.take_append_drop]
  rw[zI,zq] at this;omega
 have jd:∀k x,jx[k]?=some x->(jx.take (k+1)).flatten=(jx.take k).flatten++x:=fun k x h=>by
  rw[fQ h,zI];simp
 refine⟨fun vs H'=>∃(k:Nat),vs=[i64 ((jx.take k).flatten.length:Nat),i64 k]/\k<=l,aN l 1,⟨0,rfl,by omega⟩,fun n n1 H1 fh hI=>?_⟩;obtain⟨k,cv,hk⟩:=hI;obtain⟨rfl,rfl⟩:n=((jx.take k).flatten.length:Nat)/\n1=(k:Int):=by simpa using cv
 refine⟨fun bK=>hx.slice fh.ext (by omega) bK fun x a' n' c' mi hS=>?_,fun gj=>?_⟩
 ·rw[zz] at mi;have h1:=hS.len;have h2:=nM (k+1);rw[jd k x mi,zq] at h2;rintro r rfl;rw[aj];refine⟨fun h=>by omega,fun _=>?_⟩;rintro r rfl;rw[aj];exact⟨⟨k+1,by rw[jd k x mi,zq,h1];rfl,by omega⟩,by simp[aN];omega⟩
 ·have h2:=nM k;refine(VL (k:=((jx.take k).flatten.length:Nat)) (by omega) (by omega)).mono fun v H2 e2 hv=>?_;obtain⟨a2,c2,rfl,hF⟩:=hv;refine⟨a2,0,c2,rfl,fun dZ=>?_⟩
  have hO:bV ow 5 62 aa H H2 a2 0 c2 [] ([]:List gX):=⟨hF.row dZ,by simp,trivial,aH.trans fh.ext e2,fun hc g hg=>by
   rcases hF.2.2.2 with⟨_,h⟩|⟨g',k',h1,h2,_⟩
   ·exact absurd h hc
   ·rw[hg] at h1;simp at h1;subst h1
    cases hq:H g with
    |none=>rfl
    |some kb=>rw[fh.ext _ _ hq] at h2;cases h2⟩
  refine⟨fun vs H'=>∃(k:Nat)(a3:O)(n3 c3:Nat)(rows:List (List Value)),vs=[.slice a3 n3 c3,i64 k]/\k<=l/\bV ow 5 62 aa H H' a3 n3 c3 rows (jx.take k).flatten,aN l 1,
   ⟨0,a2,0,c2,[],rfl,by omega,hO⟩,fun a3 n3 c3 n4 H3 fS hI=>?_⟩
  obtain⟨k,xp,Gu,xq,rows,cv,hk,sG⟩:=hI;obtain⟨⟨rfl,rfl,rfl⟩,rfl⟩:(a3=xp/\n3=Gu/\c3=xq)/\n4=(k:Int):=by simpa using cv
  obtain⟨r1,r2⟩:=sG.mb (by omega);refine⟨fun bK=>hx.slice fS.ext (by omega) bK fun x a' n' c' mi hS=>?_,fun gj=>?_⟩
  ·rw[zz] at mi;have h1:=hS.len;have h3:=nM (k+1);rw[jd k x mi,zq] at h3;obtain⟨rs,p1,p2,p3,p4⟩:=hS.rows ow.len;refine⟨_,_,sG.row,p3,ev P4 p2,p4.imp id (fun⟨b,o,Fk,hc⟩=>⟨b,o,Fk,fj fS.ext hc⟩),by omega,by omega,fun a5 c5 H5 OH pd=>?_⟩;rintro r rfl;rw[aj];refine⟨⟨k+1,a5,_,c5,rows++rs,rfl,by omega,?_⟩,by simp[aN];omega⟩;rw[jd k x mi];exact sG.oB OH pd p1 p2
  ·obtain rfl:k=l:=by omega
   rw[←Ia,List.take_length] at sG;exact⟨_,_,_,rfl,sG.row.2.1,sG.sl ow.mono (by omega)⟩
open Go Go.Proofs
theorem HQ{c:dM}(h:de c=0):cU (ek c):=by
 have hw:=(fk (dv h).2.2.2.2.2.2)
 obtain⟨e1,e2,e3,e4⟩:=De.nil.err;have hlog:∀up,vt sW up= .ok []:=fun up=>nP.2 ⟨e1,fun _=>e4,by rw[e2];cases up<;>rfl⟩;refine⟨h,?_,rfl,fun m hm=>(by cases hm),rP.1 ?_,fun n hn=>rQ.1 ?_⟩
 ·show((zk (bo c.bf).toNat (ei c.first)).length:Int)=bo c.bf
  rw[List.length_replicate];omega
 ·show gY c ⟨dC c,sW,true⟩=0
  unfold gY;rw[hlog];have:aB c []= .ok (dC c):=by unfold aB;rw[nI (by omega),nI (by simp)];rfl
  dsimp only;rw[this];dsimp only;rw[pI rfl]
 ·obtain rfl:=List.eq_of_mem_replicate hn
  show iv c.first ⟨iF c.first,sW,true⟩=0
  unfold iv;rw[hlog];have hr:=(dv h).1;have:az c.first []= .ok (iF c.first):=by unfold az;rw[nI (by omega),nI (by simp)];rfl
  dsimp only;rw[this];dsimp only;rw[pI rfl]
theorem P6:de cS=0:=by decide+kernel
open Go Go.Proofs
def vL:nj:=(kR (vC cS) mH).1
def Du:List Int:=[0,0,7,0,0,0,0,0,0,0,0,0,0,0,0,0,0,0,0,0,0,0]
theorem MY:(kR (vC cS) mH).2=Du:=by decide+kernel
theorem P7:(decide (vL.l.aU=2)&&decide (vL.l.ab=0)&&vL.m.isEmpty&&(match vL.n[2]? with|some q=>decide (q.a.ck=2)|none=>false))=true:=by decide+kernel
theorem Cg:fu 22 (bA (ek cS) mH).1 vL/\(bA (ek cS) mH).2=Du:=by
 obtain⟨h1,h2⟩:=fu.run (l:=mH) (MF cS) (by decide);exact⟨h1,h2.trans MY⟩
theorem uF:jg (ek cS) mH=0:=by
 unfold jg;rw[nI (by rw[gF.2 (HQ P6)];simp),nI (by decide)]
theorem J3:∃n,(bA (ek cS) mH).1.h.l.aU=2/\(bA (ek cS) mH).1.h.l.ab=0/\(bA (ek cS) mH).1.m=[]/\(bA (ek cS) mH).1.n[2]?=some n/\n.a.ck=2:=by
 have h:=Cg.1;have e:=P7;simp only[zT,decide_eq_true_eq,List.isEmpty_iff] at e;obtain⟨⟨⟨e1,e2⟩,e3⟩,e4⟩:=e;split at e4
 ·rename_i q hq;obtain⟨n,hn⟩:∃n,(bA (ek cS) mH).1.n[2]?=some n:=⟨_,zu (by rw[h.n];exact(zw.1 hq).1)⟩
  refine⟨n,by rw[h.l];exact e1,by rw[h.l];exact e2,by rw[h.m];exact e3,hn,?_⟩;rw[(h.ck 2 n q hn hq).a];simpa using e4
 ·cases e4
open Go Go.Proofs
theorem bS.vM{P:Program}{c:Nat}(h:bS P f args H fun v _=>v=jw x a l c){G:Int->Int->Int->Bool->O->Nat->Nat->Heap->Prop}
  (hG:∀H',aH H H'->Vg.Next aa H H'->G x.ae x.ah x.cj x.aP a l c H'):
  bS P f args H fun v H'=>∃(n n1 n2:Int)(b:Bool)(a:O)(n3 c:Nat),v= .agg #[.int .i64 n,.int .i64 n1,.int .i64 n2,.bool b,.slice a n3 c]/\(Vg.Next aa H H'->G n n1 n2 b a n3 c H'):=
 h.mono fun v H' e hv=>⟨_,_,_,_,_,_,_,hv,fun hN=>hG H' e hN⟩
theorem Nr(ae k:Int):Sp 95 [.int .i64 ae,.int .i64 k] H fun v _=>v=jw (Ex ae k) none 0 0:=by
 refine wo Tryz.func95 (fun _ _=>vk95) fun aa hb=>fun b=>?_;rfl
def Lr(l:List gX):List (List Value):=l.map fun x=>nR x none 0 0
theorem Dv{H:Heap} :∀ {l:List gX},(∀x∈l,x.ap=[])->dY ow H (Lr l) l
 | [],_=>trivial
 |x::q,h=>⟨⟨none,0,0,rfl,by rw[h x (by simp)];exact Sl.nil⟩,Dv fun y hy=>h y (by simp[hy])⟩
theorem As{l:List gX}(h:H g=some (ay 62 (Lr l).flatten))(hl:∀x∈l,x.ap=[])(hn:l.length=n)(hle:(n:Int)<=9223372036854775807):Vr H (some ⟨g,0,none⟩) n l:=
 qd h (by intro r hr;obtain⟨x,_,rfl⟩:=zM.1 hr;rfl) (Dv hl) (by unfold Lr;rw[ym,hn]) hle
theorem Fa(hb:H b=some (ay 141 [.func (.func 95) #[] #[]]))(k:Int):Sp 96 [.int .i64 k,.pointer (some ⟨b,0,none⟩)] H fun v H'=>∃g,v= .slice (some ⟨g,0,none⟩) 6 6/\g≠b/\H' g=some (ay 62 (Lr (B5 k)).flatten):=by
 refine bS.lend hb ?_;refine TryzvcLO Tryz.func96 (by kernel_rfl) (own:=[⟨b,false,141,[.func (.func 95) #[] #[]]⟩]) (args:=[.v (.int .i64 k),.loc 0 0]) (by kernel_rfl) (by intro s hs;simp at hs;rcases hs with rfl|rfl<;>simp[SV.wf]) _ (fun aa K=>vk96 b k aa (B9 b H) K) fun aa fN qD=>?_;refine(Nr 3 k).vM fun H1 e1 fh=>(Nr 9 0).vM fun H2 e2 dZ=>(Nr 7 k).vM fun H3 e3 fS=>(Nr 7 k).vM fun H4 e4 iC=>(Nr 7 k).vM fun H5 e5 kT=>(Nr 9 0).vM fun H6 e6 Fo=>fun g H7 Mx Gl hg=>?_;have h1:=Mx.fresh g _ hg Gl;have h2:=qD _ zr
 have N4:g≠b:=by
  have h2:b<aa:=h2;omega
 refine⟨rfl,g,rfl,N4,?_⟩;unfold Dr;rw[nI N4];exact hg
theorem cNonR(e:Int):Sp 99 [.int .i64 e] H fun v _=>v= .bool (decide (¬e=0)):=by
 refine wo Tryz.func99 (fun _ _=>vk99) fun aa hb=>?_;rfl
theorem cNonS(e:Int):Sp 100 [.int .i64 e] H fun v _=>v= .bool (decide (¬e=0)):=by
 refine wo Tryz.func100 (fun _ _=>vk100) fun aa hb=>?_;rfl
theorem cIdxR{c:Nat}(hx:Sl ft 1 H a l xs):Sp 98 [.slice a l c,.func (.func 99) #[] #[]] H fun v _=>v=i64 (lL (fun e=>decide (¬e=0)) 0 xs):=by
 refine wo Tryz.func98 (fun _ _=>vk98b) fun aa hb=>?_;have hl:=hx.len;have hle:=hx.le;refine⟨fun m vs _=>∃(d:Int)(k:Nat),vs=[i64 d,i64 k]/\m=l-k/\k<=l/\lL (fun e=>decide (¬e=0)) k (xs.drop k)=lL (fun e=>decide (¬e=0)) 0 xs,l,⟨0,0,rfl,rfl,by omega,rfl⟩,fun m d n H' hN hI=>?_⟩;obtain⟨d',k,cv,rfl,hk,hI⟩:=hI;obtain⟨rfl,rfl⟩:d=d'/\n=(k:Int):=by simpa using cv
 refine⟨fun bK=>?_,fun gj=>?_⟩
 ·obtain⟨b,o,r,x,ha,mi,hr,cI⟩:=hx.get (k:=(k:Int)) (by omega) bK;obtain rfl:=hr;refine⟨b,o,ha,by omega,bK,_,Heap.aJ hN.ext (cI 0 _ rfl),?_⟩;have Ie:xs[k]?=some x:=by simpa using mi
  have Na:=Dt Ie;rw[Na,lL] at hI;refine(cNonR x).aO fun H2 e2 _=>⟨fun he=>?_,fun he=>fun r hr=>⟨l-(k+1),by omega,d,k+1,?_,rfl,by omega,?_⟩⟩
  ·rw[pI he] at hI;rw[hI]
  ·rw[hr,aj];rfl
  ·rw[nI (by rw[he];simp)] at hI;exact hI
 ·have Sa:k=l:=by omega
  rw[zO (by omega)] at hI;rw[←hI];rfl
theorem cIdxS{c:Nat}(hx:Sl ft 1 H a l xs):Sp 98 [.slice a l c,.func (.func 100) #[] #[]] H fun v _=>v=i64 (lL (fun e=>decide (¬e=0)) 0 xs):=by
 refine wo Tryz.func98 (fun _ _=>vk98c) fun aa hb=>?_;have hl:=hx.len;have hle:=hx.le;refine⟨fun m vs _=>∃(d:Int)(k:Nat),vs=[i64 d,i64 k]/\m=l-k/\k<=l/\lL (fun e=>decide (¬e=0)) k (xs.drop k)=lL (fun e=>decide (¬e=0)) 0 xs,l,⟨0,0,rfl,rfl,by omega,rfl⟩,fun m d n H' hN hI=>?_⟩;obtain⟨d',k,cv,rfl,hk,hI⟩:=hI;obtain⟨rfl,rfl⟩:d=d'/\n=(k:Int):=by simpa using cv
 refine⟨fun bK=>?_,fun gj=>?_⟩
 ·obtain⟨b,o,r,x,ha,mi,hr,cI⟩:=hx.get (k:=(k:Int)) (by omega) bK;obtain rfl:=hr;refine⟨b,o,ha,by omega,bK,_,Heap.aJ hN.ext (cI 0 _ rfl),?_⟩;have Ie:xs[k]?=some x:=by simpa using mi
  have Na:=Dt Ie;rw[Na,lL] at hI;refine(cNonS x).aO fun H2 e2 _=>⟨fun he=>?_,fun he=>fun r hr=>⟨l-(k+1),by omega,d,k+1,?_,rfl,by omega,?_⟩⟩
  ·rw[pI he] at hI;rw[hI]
  ·rw[hr,aj];rfl
  ·rw[nI (by rw[he];simp)] at hI;exact hI
 ·have Sa:k=l:=by omega
  rw[zO (by omega)] at hI;rw[←hI];rfl
theorem P8{c:Nat}(hx:Sl ft 1 H a l xs):Sp 73 [.slice a l c,.func (.func 100) #[] #[]] H fun v _=>v= .bool (xs.any fun e=>decide (¬e=0)):=by
 refine wo Tryz.func73 (fun _ _=>vk73b) fun aa hb=>?_;refine(cIdxS hx).bY fun H1 e1 fh=>?_;have:=Cf (fun e=>decide (¬e=0)) xs 0 (by omega)
 show Value.bool _=Value.bool _
 congr 1
 cases hq:(xs.any fun e=>decide (¬e=0)) with
 |true=>exact decide_eq_true (this.2 hq)
 |false=>exact decide_eq_false fun h0=>by rw[this.1 h0] at hq;cases hq
def TR:List (List gX):=[[⟨1,0,0,false,s2.ap⟩,⟨2,0,2,false,[]⟩,Ex 3 0],B5 1,B5 0,B5 2,[Ex 6 0]]
theorem MZ:TR.flatten=mH:=rfl
theorem P9:lL (fun e=>decide (¬e=0)) 0 Du=2:=by decide+kernel
theorem Qa:(((Du.drop 3).take 19).any fun e=>decide (¬e=0))=false:=by decide+kernel
theorem sO(hL:Lb H):Sp 30 [] H fun v _=>v= .bool true:=by
 refine tvcL Tryz.func30 (fun aa K=>vk30 aa H K) fun aa hb=>fun b=>?_;refine U9.mono fun v H1 e1 hv=>?_;obtain⟨a,n,c,a1,n1,c1,a2,n2,c2,rfl,hC⟩:=hv;refine⟨_,_,_,_,_,_,_,_,_,_,_,rfl,fun fh=>?_⟩;have hNW:=TQ (fc:=c) (rc:=c1) (wc:=c2) hC;rw[P6,show yM cS=ek cS from by unfold yM;rw[pI P6]] at hNW;refine hNW.PN fun p H2 e2 dZ hW=>fun b2=>?_;refine Rc.mono fun v H3 e3 hv=>?_;obtain⟨sa,sn,sc,rfl,hS⟩:=hv;refine⟨_,_,_,_,rfl,fun fS=>?_⟩;have hL:=((hL.ext e1).ext e2).ext e3;have hW:=hW.ext e3;refine(Nr 3 0).vM fun H4 e4 iC=>?_;have hL:=hL.ext e4;have hW:=hW.ext e4;have hS:=hS.ext' e4;refine⟨?l1,?r1⟩
 case' l1=>
  intro g Hx11 Qb hgn11 hg;have hL:=hL.ext Qb.ext;have hW:=hW.ext Qb.ext;have hS:=hS.ext' Qb.ext;refine⟨rfl,fun Hl12 Q2 hk12=>(Fa hk12.1 1).mono fun v Hm12 em12 hv=>?_⟩;obtain⟨q1,rfl,VM,iS⟩:=hv;refine⟨_,_,_,rfl,fun Hx12 Ls RS=>?_⟩;have iS:=RS q1 _ iS (by intro x hx;simp only[zN] at hx;subst hx;exact VM);have hL:=hL.ext Ls.ext;have hW:=hW.ext Ls.ext;have hS:=hS.ext' Ls.ext;have hg:=Ls.ext _ _ hg;refine⟨rfl,fun Hl13 hl13 hk13=>(Fa hk13.1 0).mono fun v Hm13 em13 hv=>?_⟩;obtain⟨q0,rfl,Qc,kS⟩:=hv;refine⟨_,_,_,rfl,fun Hx13 HR RT=>?_⟩;have kS:=RT q0 _ kS (by intro x hx;simp only[zN] at hx;subst hx;exact Qc);have hL:=hL.ext HR.ext;have hW:=hW.ext HR.ext;have hS:=hS.ext' HR.ext;have hg:=HR.ext _ _ hg;have iS:=HR.ext _ _ iS;refine⟨rfl,fun Hl14 hl14 hk14=>(Fa hk14.1 2).mono fun v Hm14 em14 hv=>?_⟩;obtain⟨q2,rfl,J4,lf⟩:=hv;refine⟨_,_,_,rfl,fun Hx14 Dw RU=>?_⟩;have lf:=RU q2 _ lf (by intro x hx;simp only[zN] at hx;subst hx;exact J4);have hL:=hL.ext Dw.ext;have hW:=hW.ext Dw.ext;have hS:=hS.ext' Dw.ext;have hg:=Dw.ext _ _ hg;have iS:=Dw.ext _ _ iS;have kS:=Dw.ext _ _ kS;refine(Nr 6 0).vM fun Hx15 J5 hNx15=>?_;have hL:=hL.ext J5;have hW:=hW.ext J5;have hS:=hS.ext' J5;have hg:=J5 _ _ hg;have iS:=J5 _ _ iS;have kS:=J5 _ _ kS;have lf:=J5 _ _ lf;intro g1 Hx16 Ch hgn16 kY;have hL:=hL.ext Ch.ext;have hW:=hW.ext Ch.ext;have hS:=hS.ext' Ch.ext;have hg:=Ch.ext _ _ hg;have iS:=Ch.ext _ _ iS;have kS:=Ch.ext _ _ kS;have lf:=Ch.ext _ _ lf;intro g2 Hx17 xN hgn17 FJ;have hL:=hL.ext xN.ext;have hW:=hW.ext xN.ext;have hS:=hS.ext' xN.ext;have hg:=xN.ext _ _ hg;have iS:=xN.ext _ _ iS;have kS:=xN.ext _ _ kS;have lf:=xN.ext _ _ lf;have kY:=xN.ext _ _ kY
 case' r1=>
  refine⟨rfl,fun Hl18 hl18 hk18=>(Fa hk18.1 1).mono fun v Hm18 em18 hv=>?_⟩;obtain⟨q1,rfl,VM,iS⟩:=hv;refine⟨_,_,_,rfl,fun Hx18 Qd RV=>?_⟩;have iS:=RV q1 _ iS (by intro x hx;simp only[zN] at hx;subst hx;exact VM);have hL:=hL.ext Qd.ext;have hW:=hW.ext Qd.ext;have hS:=hS.ext' Qd.ext;refine⟨?l2,?r2⟩
  case' l2=>
   intro g Hx19 Lt hgn19 hg;have hL:=hL.ext Lt.ext;have hW:=hW.ext Lt.ext;have hS:=hS.ext' Lt.ext;have iS:=Lt.ext _ _ iS;refine⟨rfl,fun Hl20 hl20 hk20=>(Fa hk20.1 0).mono fun v Hm20 em20 hv=>?_⟩;obtain⟨q0,rfl,Qc,kS⟩:=hv;refine⟨_,_,_,rfl,fun Hx20 HS RW=>?_⟩;have kS:=RW q0 _ kS (by intro x hx;simp only[zN] at hx;subst hx;exact Qc);have hL:=hL.ext HS.ext;have hW:=hW.ext HS.ext;have hS:=hS.ext' HS.ext;have iS:=HS.ext _ _ iS;have hg:=HS.ext _ _ hg;refine⟨rfl,fun Hl21 hl21 hk21=>(Fa hk21.1 2).mono fun v Hm21 em21 hv=>?_⟩;obtain⟨q2,rfl,J4,lf⟩:=hv;refine⟨_,_,_,rfl,fun Hx21 Dx RX=>?_⟩;have lf:=RX q2 _ lf (by intro x hx;simp only[zN] at hx;subst hx;exact J4);have hL:=hL.ext Dx.ext;have hW:=hW.ext Dx.ext;have hS:=hS.ext' Dx.ext;have iS:=Dx.ext _ _ iS;have hg:=Dx.ext _ _ hg;have kS:=Dx.ext _ _ kS;refine(Nr 6 0).vM fun Hx22 J6 hNx22=>?_;have hL:=hL.ext J6;have hW:=hW.ext J6;have hS:=hS.ext' J6;have iS:=J6 _ _ iS;have hg:=J6 _ _ hg;have kS:=J6 _ _ kS;have lf:=J6 _ _ lf;intro g1 Hx23 Ci hgn23 kY;have hL:=hL.ext Ci.ext;have hW:=hW.ext Ci.ext;have hS:=hS.ext' Ci.ext;have iS:=Ci.ext _ _ iS;have hg:=Ci.ext _ _ hg;have kS:=Ci.ext _ _ kS;have lf:=Ci.ext _ _ lf;intro g2 Hx24 xO hgn24 FJ;have hL:=hL.ext xO.ext;have hW:=hW.ext xO.ext;have hS:=hS.ext' xO.ext;have iS:=xO.ext _ _ iS;have hg:=xO.ext _ _ hg;have kS:=xO.ext _ _ kS;have lf:=xO.ext _ _ lf;have kY:=xO.ext _ _ kY
  case' r2=>
   refine⟨rfl,fun Hl25 hl25 hk25=>(Fa hk25.1 0).mono fun v Hm25 em25 hv=>?_⟩;obtain⟨q0,rfl,Qc,kS⟩:=hv;refine⟨_,_,_,rfl,fun Hx25 Lu RY=>?_⟩;have kS:=RY q0 _ kS (by intro x hx;simp only[zN] at hx;subst hx;exact Qc);have hL:=hL.ext Lu.ext;have hW:=hW.ext Lu.ext;have hS:=hS.ext' Lu.ext;have iS:=Lu.ext _ _ iS;refine⟨?l3,?r3⟩
   case' l3=>
    intro g Hx26 HT hgn26 hg;have hL:=hL.ext HT.ext;have hW:=hW.ext HT.ext;have hS:=hS.ext' HT.ext;have iS:=HT.ext _ _ iS;have kS:=HT.ext _ _ kS;refine⟨rfl,fun Hl27 hl27 hk27=>(Fa hk27.1 2).mono fun v Hm27 em27 hv=>?_⟩;obtain⟨q2,rfl,J4,lf⟩:=hv;refine⟨_,_,_,rfl,fun Hx27 Dy RZ=>?_⟩;have lf:=RZ q2 _ lf (by intro x hx;simp only[zN] at hx;subst hx;exact J4);have hL:=hL.ext Dy.ext;have hW:=hW.ext Dy.ext;have hS:=hS.ext' Dy.ext;have iS:=Dy.ext _ _ iS;have kS:=Dy.ext _ _ kS;have hg:=Dy.ext _ _ hg;refine(Nr 6 0).vM fun Hx28 J7 hNx28=>?_;have hL:=hL.ext J7;have hW:=hW.ext J7;have hS:=hS.ext' J7;have iS:=J7 _ _ iS;have kS:=J7 _ _ kS;have hg:=J7 _ _ hg;have lf:=J7 _ _ lf;intro g1 Hx29 Cj hgn29 kY;have hL:=hL.ext Cj.ext;have hW:=hW.ext Cj.ext;have hS:=hS.ext' Cj.ext;have iS:=Cj.ext _ _ iS;have kS:=Cj.ext _ _ kS;have hg:=Cj.ext _ _ hg;have lf:=Cj.ext _ _ lf;intro g2 Hx30 xP hgn30 FJ;have hL:=hL.ext xP.ext;have hW:=hW.ext xP.ext;have hS:=hS.ext' xP.ext;have iS:=xP.ext _ _ iS;have kS:=xP.ext _ _ kS;have hg:=xP.ext _ _ hg;have lf:=xP.ext _ _ lf;have kY:=xP.ext _ _ kY
   case' r3=>
    refine⟨rfl,fun Hl31 hl31 hk31=>(Fa hk31.1 2).mono fun v Hm31 em31 hv=>?_⟩;obtain⟨q2,rfl,J4,lf⟩:=hv;refine⟨_,_,_,rfl,fun Hx31 HU R0=>?_⟩;have lf:=R0 q2 _ lf (by intro x hx;simp only[zN] at hx;subst hx;exact J4);have hL:=hL.ext HU.ext;have hW:=hW.ext HU.ext;have hS:=hS.ext' HU.ext;have iS:=HU.ext _ _ iS;have kS:=HU.ext _ _ kS;refine⟨?l4,?r4⟩
    case' l4=>
     intro g Hx32 Dz hgn32 hg;have hL:=hL.ext Dz.ext;have hW:=hW.ext Dz.ext;have hS:=hS.ext' Dz.ext;have iS:=Dz.ext _ _ iS;have kS:=Dz.ext _ _ kS;have lf:=Dz.ext _ _ lf;refine(Nr 6 0).vM fun Hx33 J8 hNx33=>?_;have hL:=hL.ext J8;have hW:=hW.ext J8;have hS:=hS.ext' J8;have iS:=J8 _ _ iS;have kS:=J8 _ _ kS;have lf:=J8 _ _ lf;have hg:=J8 _ _ hg;intro g1 Hx34 Ck hgn34 kY;have hL:=hL.ext Ck.ext;have hW:=hW.ext Ck.ext;have hS:=hS.ext' Ck.ext;have iS:=Ck.ext _ _ iS;have kS:=Ck.ext _ _ kS;have lf:=Ck.ext _ _ lf;have hg:=Ck.ext _ _ hg;intro g2 Hx35 xQ hgn35 FJ;have hL:=hL.ext xQ.ext;have hW:=hW.ext xQ.ext;have hS:=hS.ext' xQ.ext;have iS:=xQ.ext _ _ iS;have kS:=xQ.ext _ _ kS;have lf:=xQ.ext _ _ lf;have hg:=xQ.ext _ _ hg;have kY:=xQ.ext _ _ kY
    case' r4=>
     refine(Nr 6 0).vM fun Hx36 M0 hNx36=>?_;have hL:=hL.ext M0;have hW:=hW.ext M0;have hS:=hS.ext' M0;have iS:=M0 _ _ iS;have kS:=M0 _ _ kS;have lf:=M0 _ _ lf;refine⟨?l5,?r5⟩
     case' l5=>
      intro g Hx37 DA hgn37 hg;have hL:=hL.ext DA.ext;have hW:=hW.ext DA.ext;have hS:=hS.ext' DA.ext;have iS:=DA.ext _ _ iS;have kS:=DA.ext _ _ kS;have lf:=DA.ext _ _ lf;intro g1 Hx38 Cl hgn38 kY;have hL:=hL.ext Cl.ext;have hW:=hW.ext Cl.ext;have hS:=hS.ext' Cl.ext;have iS:=Cl.ext _ _ iS;have kS:=Cl.ext _ _ kS;have lf:=Cl.ext _ _ lf;have hg:=Cl.ext _ _ hg;intro g2 Hx39 xR hgn39 FJ;have hL:=hL.ext xR.ext;have hW:=hW.ext xR.ext;have hS:=hS.ext' xR.ext;have iS:=xR.ext _ _ iS;have kS:=xR.ext _ _ kS;have lf:=xR.ext _ _ lf;have hg:=xR.ext _ _ hg;have kY:=xR.ext _ _ kY
     case' r5=>
      intro g1 Hx40 DB hgn40 kY;have hL:=hL.ext DB.ext;have hW:=hW.ext DB.ext;have hS:=hS.ext' DB.ext;have iS:=DB.ext _ _ iS;have kS:=DB.ext _ _ kS;have lf:=DB.ext _ _ lf;intro g Hx41 Cm hgn41 hg;have hL:=hL.ext Cm.ext;have hW:=hW.ext Cm.ext;have hS:=hS.ext' Cm.ext;have iS:=Cm.ext _ _ iS;have kS:=Cm.ext _ _ kS;have lf:=Cm.ext _ _ lf;have kY:=Cm.ext _ _ kY;intro g2 Hx42 xS hgn42 FJ;have hL:=hL.ext xS.ext;have hW:=hW.ext xS.ext;have hS:=hS.ext' xS.ext;have iS:=xS.ext _ _ iS;have kS:=xS.ext _ _ kS;have lf:=xS.ext _ _ lf;have kY:=xS.ext _ _ kY;have hg:=xS.ext _ _ hg
 all_goals
  have hP:Sl (oX ow 5) 1 _ (some ⟨g2,0,none⟩) 5 TR:=qd (rs:=[[.slice (some ⟨g,0,none⟩) 3 3],[.slice (some ⟨q1,0,none⟩) 6 6],[.slice (some ⟨q0,0,none⟩) 6 6],[.slice (some ⟨q2,0,none⟩) 6 6],[.slice (some ⟨g1,0,none⟩) 1 1]]) FJ (by simp) ⟨⟨_,_,_,rfl,qd (rs:=[nR ⟨1,0,0,false,s2.ap⟩ sa sn sc,nR ⟨2,0,2,false,[]⟩ none 0 0,nR (Ex 3 0) none 0 0]) hg (by simp) ⟨⟨_,_,_,rfl,hS⟩,⟨_,_,_,rfl,Sl.nil⟩,⟨_,_,_,rfl,Sl.nil⟩,trivial⟩ rfl (by decide)⟩,⟨_,_,_,rfl,As iS (by decide) rfl (by decide)⟩,⟨_,_,_,rfl,As kS (by decide) rfl (by decide)⟩,⟨_,_,_,rfl,As lf (by decide) rfl (by decide)⟩,⟨_,_,_,rfl,As (l:=[Ex 6 0]) kY (by decide) rfl (by decide)⟩,trivial⟩ rfl (by decide);refine(P5 (c:=5) hP (by omega) (by decide)).mono fun v H6 e6 hv=>?_;obtain⟨ra,rn,rc,rfl,_,hR⟩:=hv;refine⟨_,_,_,rfl,fun Fo=>?_⟩;rw[MZ] at hR;have hRun:=ZU (c:=rc) (hL.ext e6) (hW.ext e6) hR;rw[uF,show vG (ek cS) mH=(bA (ek cS) mH).1 from by unfold vG;rw[pI uF],show wH (ek cS) mH=Du from by unfold wH;rw[pI uF];exact Cg.2] at hRun;obtain⟨nd,r1,r2,r3,r4,r5⟩:=J3;generalize (bA (ek cS) mH).1=w at*;refine hRun.ZW fun p2 s sn2 WQ H7 e7 Mx hW7 vN LO=>?_;have h22:sn2=22:=by have:=vN.len;rw[←this];rfl
  subst h22;refine(cIdxR (c:=WQ) vN).bY fun H8 e8 Tr=>?_;rw[P9];have hW8:=hW7.ext e8;have Qe:=Sl.ext ft.mono vN e8;refine⟨True,⟨fun _=>⟨fun _=>⟨fun _=>⟨fun _=>?_,fun h=>absurd rfl h⟩,fun h=>absurd rfl h⟩,fun h=>absurd rfl h⟩,fun h=>absurd rfl h⟩,kh⟩;obtain⟨b3,o3,rr,xx,Xy,UX,hr3,hc3⟩:=Qe.get (k:=2) (by decide) (by decide)
  obtain rfl:xx=7:=by
   have UX:Du[2]?=some xx:=UX;exact(zy UX).symm
  obtain rfl:=hr3;refine⟨b3,o3,Xy,by decide,by decide,7,hc3 0 _ rfl,fun _=>⟨by decide,by decide,LO,fun a' FY=>?_⟩,fun h=>absurd rfl h⟩;have hDrop:=Qe.sub (l:=3) (m:=19) (a':=a') (by decide) (fun _=>FY (by omega));refine(P8 (c:=WQ-3) hDrop).aO fun H9 e9 hN9=>?_;rw[Qa];have Oo:p2.ml=0:=by have:=hW7.cZ.len;rw[r3] at this;simpa using this.symm
  have Ah:=hW7.dH.len;have h2n:=(zw.1 r4).1;obtain⟨b4,o4,rr4,x4,Ut,Wj,⟨q4,rfl,hq4⟩,hc4⟩:=(hW8.ext e9).dH.get (k:=2) (by decide) (by omega)
  obtain rfl:x4=nd:=by
   have Wj:w.n[2]?=some x4:=Wj;rw[r4] at Wj;exact(zy Wj).symm
  exact⟨fun _=>⟨fun _=>⟨fun _=>⟨fun _=>⟨b4,o4,Ut,by decide,by omega,_,hc4 1 _ rfl,rfl,e9,⟨fun _=>r5,fun _=>trivial⟩⟩,fun h=>absurd (by omega) h⟩,fun h=>absurd r2 h⟩,fun h=>absurd r1 h⟩,fun h=>absurd rfl h⟩
end Go.Vg
