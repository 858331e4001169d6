/- What is proved here: a part of the proof of laws of this seat: what a contract is, how it comes of a condition, contracts of the functions that are reached, the plain laws. -/
import Derived.Test.YtgaegoefbekndaaGreatDoorSE12
set_option linter.unusedSimpArgs false
set_option linter.unusedVariables false
set_option maxRecDepth 100000
namespace Go.Vg
open Go Go.Proofs
open Go.ChangeShapes Go.WideShapes Go.ChangeAt Go.RowKit
section
variable {HH : Type} {enc : TypeId × Value->HH} {w : World} {base : Nat} {spare : Nat->Bool} {held : Bool}
abbrev hapCells(x:Hap)(a:O)(l c:Nat):List Value:=[i64 x.kind,i64 x.agent,i64 x.num,.bool x.good,.slice a l c]
def RHap:Rep Hap:=fun H r x=>∃a l c,r=hapCells x a l c/\Pins H a l x.lock
theorem RHap.len{H:Heap}{r:List Value}{x:Hap}(h:RHap H r x):r.length=5:=by obtain⟨a,l,c,rfl,_⟩:=h;rfl
theorem reads_hap:ReadsAs enc Tryz.prog w base spare held 62 RHap:=fun fuel cs x h=>by
 have ci: Tryz.prog.cellsOf 3=1:=by kernel_rfl
 have cb: Tryz.prog.cellsOf 4=1:=by kernel_rfl
 have cp: Tryz.prog.cellsOf 22=1:=by kernel_rfl
 have cX: Tryz.prog.cellsOf 62=5:=by kernel_rfl
 have hl:=structLen Tryz.underlying62 h
 rw[cX] at hl
 obtain⟨k,h0,_⟩:=fieldInt Tryz.underlying62 h (i:=0) rfl Tryz.underlying3 ci rfl
 obtain⟨g,h1,_⟩:=fieldInt Tryz.underlying62 h (i:=1) rfl Tryz.underlying3 ci rfl
 obtain⟨n,h2,_⟩:=fieldInt Tryz.underlying62 h (i:=2) rfl Tryz.underlying3 ci rfl
 obtain⟨b,h3⟩:=fieldBool Tryz.underlying62 h (i:=3) rfl Tryz.underlying4 cb rfl
 obtain⟨a,l,c,ps,h4,hp⟩:=fieldSl Tryz.underlying62 h (i:=4) rfl reads_pins cp rfl
 refine⟨⟨k,g,n,b,ps⟩,a,l,c,?_,hp⟩
 match cs,hl with
 | [x0,x1,x2,x3,x4],_=>
  simp at h0 h1 h2 h3 h4
  subst h0 h1 h2 h3 h4
  rfl
theorem reads_haps:ReadsAs enc Tryz.prog w base spare held 72 (RSl RHap 5):=reads_slice Tryz.underlying72 (by kernel_rfl) (by omega) reads_hap RHap.len
end
open Go Go.Proofs
def noWld:Wld:=⟨⟨⟨0,[]⟩,[],[],0⟩,⟨noLdr,dsk0,false⟩,[],[]⟩
def noWA:WA:=⟨none,0,0,none,0,0,none,0,0,none,0,0,none,0,0,none,0,0,none,0,0,none,0,0,none,0,0⟩
def okW:Except Int Wld->Wld
 | .ok w=>w
 | .error _=>noWld
theorem WldAt.zero{H:Heap} :WldAt H noWld noWA:=⟨⟨Sl.nil,Sl.nil,Sl.nil⟩,⟨Sl.nil,Sl.nil⟩,DskAt.zero,Sl.nil,Sl.nil⟩
theorem wTell_err{w:Wld}{x:Hap}{e:Int}(h:wTell w x= .error e):e≠0:=by
 unfold wTell at h
 split at h
 ·rename_i hn;injection h with h;exact h▸hn
 ·split at h
  ·split at h
   ·injection h with h;omega
   ·split at h
    ·injection h with h;omega
    ·cases h
  ·split at h
   ·rename_i hl;injection h with h;exact h▸wLead_err hl
   ·cases h
theorem wStep_err{w:Wld}{x:Hap}{n:Nod}{e:Int}(h:wStep w x n= .error e):e≠0:=by
 unfold wStep at h
 split at h
 ·injection h with h;omega
 ·split at h
  ·rename_i hn;injection h with h;exact h▸hn
  ·split at h
   ·exact wDoes_err h
   ·split at h
    ·rename_i hl;injection h with h;exact h▸wDoes_err hl
    ·cases h
theorem wPower_err{w:Wld}{x:Hap}{e:Int}(h:wPower w x= .error e):e≠0:=by
 unfold wPower at h
 split at h
 ·split at h
  ·injection h with h;omega
  ·split at h
   ·rename_i hn;injection h with h;exact h▸hn
   ·split at h
    ·rename_i hl;injection h with h;exact h▸ledReplay_err hl
    ·cases h
 ·split at h
  ·injection h with h;omega
  ·split at h
   ·injection h with h;omega
   ·split at h
    ·rename_i hn;injection h with h;exact h▸hn
    ·split at h
     ·rename_i hl;injection h with h;exact h▸agtReplay_err hl
     ·cases h
theorem wHear_err{w:Wld}{x:Hap}{e:Int}(h:wHear w x= .error e):e≠0:=by
 unfold wHear at h
 split at h
 ·rename_i hn;injection h with h;exact h▸hn
 ·split at h
  ·injection h with h;omega
  ·split at h
   ·injection h with h;omega
   ·dsimp only at h
    split at h
    ·cases h
    ·split at h<;>cases h
theorem wHap_err{w:Wld}{x:Hap}{e:Int}(h:wHap w x= .error e):e≠0:=by
 unfold wHap at h
 split at h
 ·exact wHear_err h
 ·split at h
  ·split at h
   ·rename_i hn;injection h with h;exact h▸hn
   ·cases h
  ·split at h
   ·split at h
    ·injection h with h;omega
    ·exact wLead_err h
   ·split at h
    ·injection h with h;omega
    ·split at h
     ·injection h with h;omega
     ·split at h
      ·split at h
       ·injection h with h;omega
       ·exact wTell_err h
      ·split at h
       ·exact wPower_err h
       ·split at h
        ·injection h with h;omega
        ·split at h
         ·injection h with h;omega
         ·split at h
          ·exact wStep_err h
          ·split at h
           ·injection h with h;omega
           ·cases h
theorem OwnW.shut{base:Nat}{G H:Heap}{w:Wld}{p:WA}{rows:List (List Value)}(h:OwnW base G H w p rows):
  ∃G2,WldAt G2 w p/\Ext G2 H/\Ext G G2/\∀x k,G2 x=some k->G x=some k∨(p.nc≠0/\p.na=some ⟨x,0,none⟩):=by
 by_cases hc:p.nc=0
 ·have hnl:p.nl=0:=by have:=h.nod.row.2.1;omega
  have hn:w.n=[]:=List.length_eq_zero_iff.1 (by have:=(h.nod.rlen (by omega)).2;omega)
  refine⟨G,⟨h.parts.cfg,h.parts.ldr,h.parts.dsk,?_,h.parts.mail⟩,h.nod.sub,Ext.refl _,fun x k hx=> .inl hx⟩
  have hO:OwnSl RNod 10 58 base G G p.na p.nl p.nc rows w.n:=⟨⟨h.nod.row.1,h.nod.row.2.1,h.nod.row.2.2.1,.inl ⟨hnl,hc⟩⟩,h.nod.wid,h.nod.all,Ext.refl _,fun h=>absurd hc h⟩
  exact hO.sl RNod.mono (by omega)
 ·obtain⟨g,k,hg,hk⟩:=h.nod.block hc
  have hcl:=h.nod.clear hc g hg
  let G2:Heap:=fun x=>if x=g then H g else G x
  have e1:Ext G G2:=fun x kx hx=>by
   have:x≠g:=fun e=>by rw[e,hcl] at hx;cases hx
   simp only[G2,if_neg this];exact hx
  have e2:Ext G2 H:=fun x kx hx=>by
   by_cases e:x=g
   ·subst e;simp only[G2,if_true] at hx;exact hx
   ·simp only[G2,if_neg e] at hx;exact h.nod.sub x kx hx
  have hO:OwnSl RNod 10 58 base G G2 p.na p.nl p.nc rows w.n:=by
   obtain⟨r1,r2,r3,r4⟩:=h.nod.row
   refine⟨⟨r1,r2,r3,r4.imp id fun⟨g',k',h1,h2,h3,h4⟩=>⟨g',k',h1,h2,?_,h4⟩⟩,h.nod.wid,h.nod.all,e1,h.nod.clear⟩
   have:g'=g:=by rw[hg] at h1;simp at h1;exact h1.symm
   subst this
   simp only[G2,if_true];exact h3
  have hp:=h.parts.ext e1
  refine⟨G2,⟨hp.cfg,hp.ldr,hp.dsk,hO.sl RNod.mono (by omega),hp.mail⟩,e2,e1,fun x kx hx=> ?_⟩
  by_cases e:x=g
  ·subst e;exact .inr ⟨hc,hg⟩
  ·simp only[G2,if_neg e] at hx;exact .inl hx
theorem cDoM{H:Heap}(hL:Lb H){w:Wld}{p:WA}(hw:WldAt H w p){x:Hap}{a:O}{l c:Nat}(hx:Pins H a l x.lock):
  Spec Tryz.prog 27 [wldArg w p,hapArg x a l c] H fun v H'=>∃p',v= .tuple #[wldArg (okW (wDo w x)) p',i64 (errOf (wDo w x))]/\WldAt H' (okW (wDo w x)) p'/\p'.ml<=p'.mc:=by
 refine TryzvcH Tryz.func27 (by kernel_rfl) (by kernel_rfl) _ rfl (fun base K=>vx27 w.c.first.id w.c.bud p.fa p.ra p.wa p.fl p.fc p.rl p.rc p.wl p.wc w.h.l.now w.h.l.goal w.h.l.nx w.h.l.back p.la p.ka p.ll p.lc p.kl p.kc p.sa p.ta p.sl p.sc p.tl p.tc w.h.up p.na p.ma p.nl p.nc p.ml p.mc x.kind x.agent x.num x.good a l c base H K) fun base hb=>fun b b' b''=> ?_
 refine(cCheck hL hw).int1 fun H1 e1 hN1=>⟨fun he=> ?_,fun he=> ?_⟩
 ·have hE:wDo w x= .error (wldErr w):=by unfold wDo;rw[if_pos he]
  rw[hE]
  exact⟨noWA,rfl,WldAt.zero,Nat.le_refl 0⟩
 ·have he:=Decidable.not_not.1 he
  have hR:=wldErr_zero.1 he
  have hE:wDo w x=wHap w x:=by unfold wDo;rw[if_neg (by omega)]
  rw[hE]
  refine(cCopyW (hw.ext e1) hR).mono fun v H2 e2 hv=> ?_
  obtain⟨p',G,rows,rfl,eG,hN⟩:=hv
  refine⟨_,_,_,_,_,_,_,_,_,_,_,_,_,_,_,_,_,_,_,_,_,_,_,_,_,_,_,_,_,_,_,_,_,_,rfl,fun hN2=>⟨w,p',G,rows,x,a,l,c,⟨rfl,rfl,rfl,rfl⟩,⟨(hL.ext e1).ext eG,he,hN.own hN2,(hx.ext' e1).ext' eG⟩,rfl,fun e w' p'' G' rows' H' hP=> ?_⟩⟩
  obtain⟨hO,rfl,rfl⟩:=hP
  cases hh:wHap w x with
  |error e=>
   rw[hh] at hO
   exact⟨fun _=>⟨noWA,rfl,WldAt.zero,Nat.le_refl 0⟩,fun h0=>absurd (fun e0=>wHap_err hh e0) h0⟩
  |ok y=>
   rw[hh] at hO
   exact⟨fun h0=>absurd rfl h0,fun _=>⟨p'',rfl,hO.own.at_,hO.own.parts.room⟩⟩
theorem cDo{H:Heap}(hL:Lb H){w:Wld}{p:WA}(hw:WldAt H w p){x:Hap}{a:O}{l c:Nat}(hx:Pins H a l x.lock):
  Spec Tryz.prog 27 [wldArg w p,hapArg x a l c] H fun v H'=>∃p',v= .tuple #[wldArg (okW (wDo w x)) p',i64 (errOf (wDo w x))]/\WldAt H' (okW (wDo w x)) p':=
 (cDoM (c:=c) hL hw hx).mono fun _ _ _ ⟨p',h1,h2,_⟩=>⟨p',h1,h2⟩
abbrev Haps(H:Heap)(a:O)(n:Nat)(l:List Hap):Prop:=Sl RHap 5 H a n l
def ranW(w:Wld)(l:List Hap):Wld:=if runErr w l=0 then(wRunFrom w l).1 else noWld
def ranS(w:Wld)(l:List Hap):List Int:=if runErr w l=0 then(wRunFrom w l).2 else []
structure RunI(base:Nat)(H:Heap)(w:Wld)(l:List Hap)(k:Nat)(a:O)(c:Nat)(y:Wld)(q:WA)(said:List Int)(G0 H':Heap):Prop where
 le:k<=l.length
 row:Row base H' 42 1 a k c (said.map i64)
 at_:WldAt G0 y q
 right:WRight y
 from_:Ext H G0
 sub:Ext G0 H'
 apart:Apart G0 a c
 run:wRunFrom w l=((wRunFrom y (l.drop k)).1,said++(wRunFrom y (l.drop k)).2)
set_option maxHeartbeats 1000000 in
theorem cRun{H:Heap}(hL:Lb H){w:Wld}{p:WA}(hw:WldAt H w p){l:List Hap}{a:O}{n c:Nat}(hx:Haps H a n l):
  Spec Tryz.prog 39 [wldArg w p,.slice a n c] H fun v H'=>∃p' s sn sc,v= .tuple #[wldArg (ranW w l) p',.slice s sn sc,i64 (runErr w l)]/\WldAt H' (ranW w l) p'/\Sl RInt 1 H' s sn (ranS w l)/\sn<=sc:=by
 refine TryzvcH Tryz.func39 (by kernel_rfl) (by kernel_rfl) _ rfl (fun base K=>vx39 w.c.first.id w.c.bud p.fa p.ra p.wa p.fl p.fc p.rl p.rc p.wl p.wc w.h.l.now w.h.l.goal w.h.l.nx w.h.l.back p.la p.ka p.ll p.lc p.kl p.kc p.sa p.ta p.sl p.sc p.tl p.tc w.h.up p.na p.ma p.nl p.nc p.ml p.mc a n c base H K) fun base hb=>fun b b'=> ?_
 have hln:=hx.len
 refine(cCheck hL hw).int1 fun H1 e1 hN1=>⟨fun he=> ?_,fun he=> ?_⟩
 ·have hE:runErr w l=wldErr w:=by unfold runErr;rw[if_pos he]
  unfold ranW ranS
  rw[hE,if_neg he,if_neg he]
  exact⟨noWA,none,0,0,rfl,WldAt.zero,Sl.nil,Nat.le_refl _⟩
 ·have he:=Decidable.not_not.1 he
  have hR:=wldErr_zero.1 he
  refine⟨fun h5=> ?_,fun h5=> ?_⟩
  ·have hE:runErr w l=2:=by unfold runErr;rw[if_neg (by omega),if_pos (by omega)]
   unfold ranW ranS
   rw[hE,if_neg (by omega),if_neg (by omega)]
   exact⟨noWA,none,0,0,rfl,WldAt.zero,Sl.nil,Nat.le_refl _⟩
  ·have hE:runErr w l=0:=by unfold runErr;rw[if_neg (by omega),if_neg (by omega)]
   unfold ranW ranS
   rw[hE,if_pos rfl,if_pos rfl]
   refine(cCopyW (hw.ext e1) hR).mono fun v H2 e2 hv=> ?_
   obtain⟨p',G,rows,rfl,eG,hN⟩:=hv
   refine⟨_,_,_,_,_,_,_,_,_,_,_,_,_,_,_,_,_,_,_,_,_,_,_,_,_,_,_,_,_,_,_,_,_,_,rfl,fun hN2=> ?_⟩
   obtain⟨G2,hW2,eG2,eGG,hG2⟩:=(hN.own hN2).shut
   refine⟨fun m vs H'=>∃(k:Nat)(a:O)(c:Nat)(y:Wld)(q:WA)(said:List Int)(G0:Heap),vs=[.slice a k c,.int .i64 k,wldArg y q]/\m=l.length-k/\RunI base H w l k a c y q said G0 H',l.length,⟨0,none,0,w,p',[],G2,rfl,rfl,⟨Nat.zero_le _,Row.zero,hW2,hR,Ext.trans e1 (Ext.trans eG eGG),eG2,Apart.none,rfl⟩⟩,?_⟩
   intro m a1 n1 c1 n14 n15 a10 n16 c9 a11 n17 c10 a12 n18 c11 n19 a13 n20 c12 n21 n22 bb a14 n23 c13 n24 a15 n25 c14 a16 n26 c15 bb2 a17 n27 c16 a18 n28 c17 H' hNx hI
   obtain⟨k,a0,c0,y,q,said,G0,hvs,rfl,hI⟩:=hI
   simp only[List.cons.injEq,Value.slice.injEq,Value.int.injEq,true_and,Value.agg.injEq,Array.mk.injEq,Value.bool.injEq,and_true] at hvs
   obtain⟨⟨rfl,rfl,rfl⟩,rfl,rfl,⟨rfl,rfl,rfl⟩,⟨rfl,rfl,rfl⟩,⟨rfl,rfl,rfl⟩,rfl,⟨rfl,rfl,rfl⟩,rfl,rfl,rfl,⟨rfl,rfl,rfl⟩,rfl,⟨rfl,rfl,rfl⟩,⟨rfl,rfl,rfl⟩,rfl,⟨rfl,rfl,rfl⟩,rfl,rfl,rfl⟩:=hvs
   obtain⟨k,hk⟩:∃k,k=n1:=⟨_,rfl⟩
   subst hk
   refine⟨fun hlt=> ?_,fun hge=> ?_⟩
   ·have hkl:k<l.length:=by omega
    obtain⟨b3,o,r,x,ha,hxk,⟨ax,lx,cx,rfl,hpx⟩,hcell⟩:=hx.get (k:=(k:Int)) (by omega) (by omega)
    have cc:∀j v,(hapCells x ax lx cx)[j]?=some v->H'.cell b3 (o+(k:Int).toNat*5+j)=some v:=fun j v hj=>Heap.cell_next hNx.ext (hcell j v hj)
    refine⟨b3,o,ha,by omega,by omega,_,_,_,_,_,_,_,⟨cc 0 _ rfl,cc 1 _ rfl,cc 2 _ rfl,cc 3 _ rfl,cc 4 _ rfl,trivial⟩,fun b5=> ?_⟩
    refine((cCopyW hI.at_ hI.right).grown hI.sub).mono fun v H3 e3 hv=> ?_
    obtain⟨G1,g1,p2,Gc,rows2,rfl,eGc,hNew⟩:=hv
    refine⟨_,_,_,_,_,_,_,_,_,_,_,_,_,_,_,_,_,_,_,_,_,_,_,_,_,_,_,_,_,_,_,_,_,_,rfl,fun hN3=>fun b8=> ?_⟩
    have hN01:Vg.Next base G0 G1:=⟨g1.ext,fun z kz hz hn=>hN3.fresh z kz (g1.sub z kz hz) (g1.away z kz hz hn)⟩
    have hown:=(hNew.own hN01).ext g1.sub
    refine⟨y,p2,Gc,rows2,x,ax,lx,cx,⟨rfl,rfl,rfl,rfl⟩,⟨(hL.ext hI.from_).ext eGc,wldErr_zero.2 hI.right,hown,(hpx.ext' hI.from_).ext' eGc⟩,rfl,fun e w' p3 G' rows' H4 hP=> ?_⟩
    obtain⟨hO,rfl,rfl⟩:=hP
    have hnot:∀g kg,H' g=some kg->(p2.nc=0∨p2.na≠some ⟨g,0,none⟩):=fun g kg hg=>by
     by_cases hc:p2.nc=0
     ·exact .inl hc
     ·refine .inr fun e=> ?_
      obtain⟨r1,r2,r3,r4⟩:=hNew.row
      rcases r4 with⟨_,h0⟩|⟨g',k',q1,q2,q3,_⟩
      ·exact hc h0
      ·rw[e] at q1
       simp only[Option.some.injEq,Addr.mk.injEq,and_true] at q1
       subst q1
       rw[g1.away _ _ q3 q2] at hg;cases hg
    have eH4:Ext H' H4:=fun z kz hz=>hO.keep z kz (e3 z kz hz) (hnot z kz hz)
    have hrow:=hI.row.ext eH4
    have hdrop:l.drop k=x::l.drop (k+1):=by
     have:=List.drop_eq_getElem_cons hkl
     rw[this]
     congr 1
     have h2:=(List.getElem?_eq_some_iff.1 hxk).2
     simpa using h2
    have hrun:=hI.run
    rw[hdrop] at hrun
    have step:∀ {y':Wld} {q':WA} {G2:Heap} (_:WldAt G2 y' q')(_:WRight y')(_:Ext H G2)(_:Ext G2 H4)(_:Apart G2 a1 c1)(_:wRunFrom w l=((wRunFrom y' (l.drop (k+1))).1,(said++[errOf (wHap y x)])++(wRunFrom y' (l.drop (k+1))).2)),
      ∃(xs:List Value),Row base H4 42 1 a1 k c1 xs/\(k+1)*8<=140737488355328/\k+1<=9223372036854775807/\∀(a':O)(c':Nat)(H5:Heap),Grew base H4 H5 a1 c1 a' c' (k+1)->Row base H5 42 1 a' (k+1) c' (xs++[.int .i64 (errOf (wHap y x))])->∀(r:Int),r=IntKind.wrap .i64 ((k:Int)+1)->
       ∃m':Nat,m'<l.length-k/\∃(k2:Nat)(a:O)(c:Nat)(y2:Wld)(q:WA)(said:List Int)(G0:Heap),([.slice a' (k+1) c',.int .i64 r,wldArg y' q']:List Value)=[.slice a k2 c,.int .i64 k2,wldArg y2 q]/\m'=l.length-k2/\RunI base H w l k2 a c y2 q said G0 H5:=by
     intro y' q' G2 h1 h2 h3 h4 h5' h6
     refine⟨said.map i64,hrow,by omega,by omega,fun a' c' H5 hg hr r hrr=>⟨l.length-(k+1),by omega,k+1,a',c',y',q',said++[errOf (wHap y x)],G2,?_,rfl,?_⟩⟩
     ·rw[hrr,wrap_small (by omega) (by omega)];rfl
     ·obtain⟨f1,f2⟩:=h5'.grew h4 hg
      exact⟨by omega,by rw[List.map_append];exact hr,h1,h2,h3,f1,f2,h6⟩
    cases hh:wHap y x with
    |error e=>
     have hz:=wHap_err hh
     rw[hh] at hO step
     refine⟨fun h0=>absurd h0 hz,fun _=>fun b9=> ?_⟩
     obtain⟨xs,s1,s2,s3,s4⟩:=step hI.at_ hI.right hI.from_ (Ext.trans hI.sub eH4) hI.apart (by rw[hrun];simp only[wRunFrom,hh,List.append_assoc,List.singleton_append,errOf])
     exact⟨xs,s1,s2,s3,fun a' c' H5 hg hr r hrr=>⟨rfl,s4 a' c' H5 hg hr r hrr⟩⟩
    |ok y'=>
     rw[hh] at hO step
     refine⟨fun _=>fun b9=> ?_,fun h0=>absurd rfl h0⟩
     obtain⟨G2,k1,k2,k3,k4⟩:=hO.own.shut
     have hap:Apart G2 a1 c1:=fun hc z kz hz ha=>by
      obtain⟨r1,r2,r3,r4⟩:=hI.row
      rcases r4 with⟨_,h0⟩|⟨g',k',q1,q2,q3,_⟩
      ·exact hc h0
      ·rw[ha] at q1
       simp only[Option.some.injEq,Addr.mk.injEq,and_true] at q1
       subst q1
       have hG0:G0 z=none:=by
        cases hg:G0 z with
        |none=>rfl
        |some kg=>exact absurd ha (hI.apart hc z kg hg)
       have hG1:Gc z=none:=by
        cases hg:Gc z with
        |none=>rfl
        |some kg=>have:=g1.away z kg (hNew.sub z kg hg) hG0;rw[q3] at this;cases this
       rcases k4 z kz hz with h1|⟨h1,h2⟩
       ·have:=hO.away z kz h1 hG1
        rw[e3 z _ q3] at this;cases this
       ·rcases hnot z _ q3 with h3|h3
        ·exact h1 (hO.same.2.2.trans h3)
        ·exact h3 (hO.same.1.symm.trans h2)
     obtain⟨xs,s1,s2,s3,s4⟩:=step k1 (hI.right.hap hh).ok (Ext.trans hI.from_ (Ext.trans eGc (Ext.trans hO.ext k3))) k2 hap (by rw[hrun];simp only[wRunFrom,hh,List.append_assoc,List.singleton_append,errOf,orSame])
     exact⟨xs,s1,s2,s3,fun a' c' H5 hg hr r hrr=>⟨rfl,s4 a' c' H5 hg hr r hrr⟩⟩
   ·have hkl:k=l.length:=by have:=hI.le;omega
    have hrun:=hI.run
    rw[List.drop_eq_nil_of_le (by omega)] at hrun
    simp only[wRunFrom,List.append_nil] at hrun
    rw[hrun]
    exact⟨q,a1,k,c1,rfl,hI.at_.ext hI.sub,ints_of_row hI.row,hI.row.2.1⟩
open Go Go.Proofs
theorem true_bool:Value.bool (@decide True (Classical.propDecidable True))= .bool true:=by simp
theorem Spec.wldE{P:Program}{f:FuncId}{args:List Value}{H:Heap}{w:Wld}{e:Int}(h:Spec P f args H fun v H'=>∃p,v= .tuple #[wldArg w p,i64 e]/\WldAt H' w p){base:Nat}
  {G:Int->O->Nat->Nat->O->Nat->Nat->O->Nat->Nat->Int->O->Nat->Nat->Int->Int->Bool->O->Nat->Nat->Int->O->Nat->Nat->O->Nat->Nat->Bool->O->Nat->Nat->O->Nat->Nat->Int->Heap->Prop} (hG:∀(p:WA) H',Ext H H'->Vg.Next base H H'->WldAt H' w p->G w.c.first.id p.fa p.fl p.fc p.ra p.rl p.rc p.wa p.wl p.wc w.c.bud p.la p.ll p.lc w.h.l.now w.h.l.goal w.h.l.back p.ka p.kl p.kc w.h.l.nx p.sa p.sl p.sc p.ta p.tl p.tc w.h.up p.na p.nl p.nc p.ma p.ml p.mc e H'):
  Spec P f args H fun v H'=>∃(n1:Int)(a2:O)(l2 c2:Nat)(a3:O)(l3 c3:Nat)(a4:O)(l4 c4:Nat)(n5:Int)(a6:O)(l6 c6:Nat)(n7:Int)(n8:Int)(b9:Bool)(a10:O)(l10 c10:Nat)(n11:Int)(a12:O)(l12 c12:Nat)(a13:O)(l13 c13:Nat)(b14:Bool)(a15:O)(l15 c15:Nat)(a16:O)(l16 c16:Nat)(e1:Int),v= .tuple #[.agg #[.int .i64 n1,.slice a2 l2 c2,.slice a3 l3 c3,.slice a4 l4 c4,.int .i64 n5,.slice a6 l6 c6,.int .i64 n7,.int .i64 n8,.bool b9,.slice a10 l10 c10,.int .i64 n11,.slice a12 l12 c12,.slice a13 l13 c13,.bool b14,.slice a15 l15 c15,.slice a16 l16 c16],.int .i64 e1]/\(Vg.Next base H H'->G n1 a2 l2 c2 a3 l3 c3 a4 l4 c4 n5 a6 l6 c6 n7 n8 b9 a10 l10 c10 n11 a12 l12 c12 a13 l13 c13 b14 a15 l15 c15 a16 l16 c16 e1 H'):=
 h.mono fun v H' ex hv=>by
  obtain⟨p,rfl,h1⟩:=hv
  exact⟨_,_,_,_,_,_,_,_,_,_,_,_,_,_,_,_,_,_,_,_,_,_,_,_,_,_,_,_,_,_,_,_,_,_,_,rfl,fun hN=>hG p H' ex hN h1⟩
open Go Go.Proofs
open Go.Value renaming int → I, slice → S, bool → B, agg → A, tuple → T, pointer → P, string → Str
open Go.IntKind renaming i64 → Z, wrap → W
open Go.Addr renaming mk → D
open Go.Vg.Bx renaming mk → J
open Go.Vg renaming Next → X, Spec → Y, SpecO → YO
open Go.Vg.Heap renaming cell → C
open Int renaming toNat → N
theorem vl60(b:Nat)(id bud:Int)(fa ra wa:O)(fl fc rl rc wl wc:Nat)(now goal nx:Int)(back:Bool)(la ka:O)(ll lc kl kc:Nat)(sa ta:O)(sl sc tl tc:Nat)(up:Bool)(na ma:O)(nl nc ml mc:Nat)(kd k:Int)(base:Nat)(H:Heap)(K:KT):
 (fV TryzMutsL Tryz.f60 base H [.v (I Z kd),.v (I Z k),.loc 0 0] [⟨b,false,41,[I Z id,S fa fl fc,S ra rl rc,S wa wl wc,I Z bud,S la ll lc,I Z now,I Z goal,B back,S ka kl kc,I Z nx,S sa sl sc,S ta tl tc,B up,S na nl nc,S ma ml mc]⟩] K)=(
 Y Tryz.prog 27 [A #[I Z id,S fa fl fc,S ra rl rc,S wa wl wc,I Z bud,S la ll lc,I Z now,I Z goal,B back,S ka kl kc,I Z nx,S sa sl sc,S ta tl tc,B up,S na nl nc,S ma ml mc],A #[I Z kd,I Z k,I Z 0,B true,S none 0 0]] H fun a c=>∃d e g h i j l m n o p q r s t u v w x y z a1 b1 c1 d1 e1 f1 g1 h1 i1 j1 k1 l1 m1 n1,a=T #[A #[I Z d,S e g h,S i j l,S m n o,I Z p,S q r s,I Z t,I Z u,B v,S w x y,I Z z,S a1 b1 c1,S d1 e1 f1,B g1,S h1 i1 j1,S k1 l1 m1],I Z n1]/\(X base H c->∀o1:Nat,(n1=0->K (B (decide (n1=0))) [[I Z d,S e g h,S i j l,S m n o,I Z p,S q r s,I Z t,I Z u,B v,S w x y,I Z z,S a1 b1 c1,S d1 e1 f1,B g1,S h1 i1 j1,S k1 l1 m1]] c)/\(¬n1=0->K (B (decide (n1=0))) [[I Z id,S fa fl fc,S ra rl rc,S wa wl wc,I Z bud,S la ll lc,I Z now,I Z goal,B back,S ka kl kc,I Z nx,S sa sl sc,S ta tl tc,B up,S na nl nc,S ma ml mc]] c))):=by kernel_rfl
open Go
structure Sto(c:Conf)(w:Wld)(L:Ldr)(A:List Agt):Prop where
 cfg:w.c=c
 logs:Logs w L A
 inv:SInv c L A w.m
theorem Sto.hap{c:Conf}{w y:Wld}{L:Ldr}{A:List Agt}{x:Hap}(h:Sto c w L A)(hy:wHap w x= .ok y):∃L' A',Sto c y L' A':=by
 obtain⟨L',A',h1,h2,h3⟩:=h.logs.hap hy
 refine⟨L',A',h3.trans h.cfg,h1,?_⟩
 have hm:=h2
 rw[h.cfg] at hm
 exact h.inv.move hm
theorem Sto.fresh{c:Conf}(h:cfgErr c=0):Sto c (freshWld c) (newLdr c) (List.replicate (agentsOf c.waves).toNat (newAgt c.first)):=⟨rfl,fresh_logs h,fresh_inv h⟩
theorem Sto.right{c:Conf}{w:Wld}{L:Ldr}{A:List Agt}(h:Sto c w L A):WRight w:=wldErr_zero.1 h.logs.ok
def playW(c:Conf)(l:List Hap):Wld:=(wRunFrom (freshWld c) (l.take 90)).1
theorem Sto.run{c:Conf} :∀ {l:List Hap} {w:Wld} {L:Ldr} {A:List Agt},Sto c w L A->∃L' A',Sto c (wRunFrom w l).1 L' A'
 | [],w,L0,A0,h=>⟨L0,A0,h⟩
 |x::q,w,L0,A0,h=>by
  cases hx:wHap w x with
  |ok y=>
   obtain⟨L',A',h'⟩:=h.hap hx
   rw[wRun_ok hx]
   exact Sto.run h'
  |error e=>rw[wRun_err hx];exact Sto.run h
open Go
def okB:Except Int Wld->Bool
 | .ok _=>true
 | .error _=>false
theorem wDo_right{w:Wld}(h:WRight w)(x:Hap):wDo w x=wHap w x:=by unfold wDo;rw[if_neg (by rw[wldErr_zero.2 h];simp)]
theorem Live.right{w:Wld}(h:Live w):WRight w:=wldErr_zero.1 h.logs.ok
theorem eDo_sto{c:Conf}{w:Wld}{L:Ldr}{A:List Agt}(h:Sto c w L A)(kind k:Int):∃L' A',Sto c (eDo w kind k) L' A':=by
 unfold eDo
 cases hy:wHap w (hEnd kind k) with
 |ok y=>exact h.hap hy
 |error e=>exact⟨L,A,h⟩
theorem hap_up{w:Wld}{k:Int}(hk:k<w.n.length):wHap w (hEnd 13 k)=wPower w (hEnd 13 k):=by
 unfold wHap hEnd
 rw[if_neg (by simp),if_neg (by simp),if_neg (by simp),if_neg (by simp),if_neg (by simp;omega),if_neg (by simp),if_pos (by simp)]
theorem boot_head{c:Conf}{w:Wld}{L:Ldr}{A:List Agt}(h:Sto c w L A){k:Int}(hk:k<0):(eDo w 13 k).h.up=true/\(eDo w 13 k).n=w.n:=by
 unfold eDo
 rw[hap_up (by omega)]
 unfold wPower hEnd
 rw[if_pos hk]
 cases hu:w.h.up with
 |true=>
  rw[if_pos (by simp)]
  exact⟨hu,rfl⟩
 |false=>
  rw[if_neg (by simp),if_neg (by rw[h.logs.hd.err.1];simp),if_neg (by simp),h.logs.hl]
  exact⟨rfl,rfl⟩
theorem boot_node{c:Conf}{w:Wld}{L:Ldr}{A:List Agt}(h:Sto c w L A){k:Nat}{n:Nod}(hn:w.n[k]?=some n):
  (eDo w 13 k).h=w.h/\(eDo w 13 k).n.length=w.n.length/\∀(i:Nat)(m:Nod),(eDo w 13 k).n[i]?=some m->(i=k->m.up=true)/\(i≠k->w.n[i]?=some m):=by
 have hk:=(List.getElem?_eq_some_iff.1 hn).1
 obtain⟨a,ha,hd,hr,_⟩:=h.logs.agent hn
 unfold eDo
 rw[hap_up (by omega)]
 unfold wPower hEnd
 rw[if_neg (by simp only;omega)]
 simp only[Int.toNat_natCast]
 rw[hn]
 dsimp only
 cases hu:n.up with
 |true=>
  rw[if_pos (by simp)]
  refine⟨rfl,rfl,fun i m hm=>⟨fun e=> ?_,fun _=>hm⟩⟩
  have hm:w.n[i]?=some m:=hm
  subst e
  rw[hn] at hm
  obtain rfl:=Option.some.inj hm
  exact hu
 |false=>
  rw[if_neg (by simp),if_neg (by rw[hd.err.1];simp),if_neg (by omega),hr]
  refine⟨rfl,by simp[orSame],fun i m hm=> ?_⟩
  change (w.n.set k _)[i]?=some m at hm
  rw[List.getElem?_set] at hm
  split at hm
  ·rename_i e
   subst e
   obtain rfl:=Option.some.inj hm
   exact⟨fun _=>rfl,fun e=>absurd rfl e⟩
  ·rename_i e
   exact⟨fun e2=>absurd e2.symm e,fun _=>hm⟩
structure BootI(c:Conf)(N:Nat)(w:Wld)(k:Int):Prop where
 sto:∃L A,Sto c w L A
 len:w.n.length=N
 hup:0<=k->w.h.up=true
 nup:∀(i:Nat)(n:Nod),w.n[i]?=some n->(i:Int)<k->n.up=true
theorem BootI.right{c:Conf}{N:Nat}{w:Wld}{k:Int}(h:BootI c N w k):WRight w:=by
 obtain⟨L0,A0,hS⟩:=h.sto
 exact hS.right
theorem BootI.next{c:Conf}{N:Nat}{w:Wld}{k:Int}(h:BootI c N w k)(h1: -1<=k)(h2:k<N):BootI c N (eDo w 13 k) (k+1):=by
 obtain⟨⟨L0,A0,hS⟩,hl,hu,hn⟩:=h
 have hs:=eDo_sto hS 13 k
 by_cases hk:k<0
 ·obtain⟨b1,b2⟩:=boot_head hS hk
  exact⟨hs,by rw[b2];exact hl,fun _=>b1,fun i n hi hlt=>by omega⟩
 ·obtain⟨j,rfl⟩:∃j:Nat,k=j:=⟨k.toNat,by omega⟩
  obtain⟨b1,b2,b3⟩:=boot_node hS (List.getElem?_eq_getElem (show j<w.n.length by omega))
  refine⟨hs,b2.trans hl,fun _=>by rw[b1];exact hu (by omega),fun i n hi hlt=> ?_⟩
  obtain⟨c1,c2⟩:=b3 i n hi
  by_cases e:i=j
  ·exact c1 e
  ·exact hn i n (c2 e) (by omega)
theorem BootI.live{c:Conf}{N:Nat}{w:Wld}{k:Int}(h:BootI c N w k)(hk:(N:Int)<=k):Live w/\w.c=c:=by
 obtain⟨⟨L0,A0,hS⟩,hl,hu,hn⟩:=h
 refine⟨Live.of hS.logs (by rw[hS.cfg];exact hS.inv) (hu (by omega)) fun n hnm=> ?_,hS.cfg⟩
 obtain⟨i,hi⟩:=List.getElem?_of_mem hnm
 have:=(List.getElem?_eq_some_iff.1 hi).1
 exact hn i n hi (by omega)
structure DrainI(v w:Wld)(n:Nat):Prop where
 live:Live w
 few:mailW w.m<=n
 same:drainF n w=drainF 200 v
theorem DrainI.start{w:Wld}(h:Live w):DrainI w w 200:=by
 have h40:=(mailsCheck_iff.1 h.logs.mail).1
 exact⟨h,by have:=mailW_le w.m;omega,rfl⟩
theorem DrainI.next{v w:Wld}{n:Nat}(h:DrainI v w n)(hm:w.m≠[]):∃k,k<n/\okB (wHap w (hEnd 9 0))=true/\DrainI v (eDo w 9 0) k:=by
 cases hw:w.m with
 |nil=>exact absurd hw hm
 |cons m q=>
  obtain⟨y,h1,h2,h3,h4,_⟩:=h.live.hear hw
  have hf:=h.few
  obtain⟨k,rfl⟩:∃k,n=k+1:=⟨n-1,by omega⟩
  have he:eDo w 9 0=y:=by unfold eDo;rw[h1];rfl
  refine⟨k,by omega,by rw[h1];rfl,by rw[he];exact h2,by rw[he];omega,?_⟩
  rw[he,←drain_ok hm h1 k]
  exact h.same
theorem DrainI.done{v w:Wld}{n:Nat}(h:DrainI v w n)(hm:w.m=[]):w=drainF 200 v:=by
 rw[←h.same,drain_nil hm]
theorem Live.drained{w:Wld}(h:Live w):Live (drainF 200 w)/\(drainF 200 w).m=[]/\(drainF 200 w).n.length=w.n.length/\(drainF 200 w).c=w.c/\(drainF 200 w).h.l.goal=w.h.l.goal:=by
 have h40:=(mailsCheck_iff.1 h.logs.mail).1
 obtain⟨d1,d2,d3,_⟩:=h.drain (n:=200) (by have:=mailW_le w.m;omega)
 exact⟨d1,d3,d2.n,d2.c,d2.goal⟩
structure StepI(v w:Wld)(k:Nat)(f:Nat):Prop where
 live:Live w
 len:w.n.length=v.n.length
 few:∃n,w.n[k]?=some n/\stepW n.a<f
 same:stepsF f w k=stepsF 200 v k
theorem StepI.start{w:Wld}(h:Live w){k:Nat}(hk:k<w.n.length):StepI w w k 200:=by
 obtain⟨n,hn⟩:∃n,w.n[k]?=some n:=⟨_,List.getElem?_eq_getElem hk⟩
 have hA:=(h.node hn).2.2.2
 obtain⟨b,hb,hA,_⟩:=hA
 exact⟨h,rfl,⟨n,hn,by have:=stepW_le hA.ok;omega⟩,rfl⟩
theorem StepI.next{v w:Wld}{k f:Nat}(h:StepI v w k f):(okB (wHap w (hEnd 7 k))=true->∃g,g<f/\StepI v (eDo w 7 k) k g)/\(okB (wHap w (hEnd 7 k))=false->eDo w 7 k=stepsF 200 v k):=by
 obtain⟨hL,hl,⟨n,hn,hf⟩,hs⟩:=h
 obtain⟨g,rfl⟩:∃g,f=g+1:=⟨f-1,by omega⟩
 obtain⟨s1,s2,s3⟩:=hL.step1 hn
 unfold stepsF at hs
 cases hy:wHap w (hEnd 7 k) with
 |error e=>
  rw[hy] at hs
  refine⟨fun h=>(by cases h),fun _=> ?_⟩
  unfold eDo;rw[hy];exact hs
 |ok y=>
  rw[hy] at hs
  obtain⟨hg,hL',hP,n',g1,g2,g3,g4⟩:=s3 y hy
  have he:eDo w 7 k=y:=by unfold eDo;rw[hy];rfl
  refine⟨fun _=>⟨g,by omega,?_⟩,fun h=>(by cases h)⟩
  rw[he]
  exact⟨hL',hP.n.trans hl,⟨n',g1,by omega⟩,hs⟩
theorem Live.toldF{w:Wld}(h:Live w)(hm:w.m=[])(hg:w.h.l.goal≠0){k:Nat}(hk:k<w.n.length):
  Live (eDo w 3 k)/\Live (eDo (eDo w 3 k) 4 k)/\Live (drainF 200 (eDo (eDo w 3 k) 4 k))/\(drainF 200 (eDo (eDo w 3 k) 4 k)).n.length=w.n.length:=by
 obtain⟨a1,a2,a3,a4,a5,a6,a7⟩:=h.tell hg hk
 have hk1:k<(eDo w 3 k).n.length:=by rw[a3];exact hk
 have hg1:(eDo w 3 k).h.l.goal≠0:=by rw[a2.goal];exact hg
 obtain⟨b1,b2,b3,b4,b5,b6⟩:=a1.again hg1 hk1
 obtain⟨d1,d2,d3,d4,d5⟩:=b1.drained
 exact⟨a1,b1,d1,by rw[d3,b4,a3]⟩
theorem Live.saidF{w:Wld}(h:Live w){k:Nat}(hk:k<w.n.length):Live (stepsF 200 w k)/\Live (eDo (stepsF 200 w k) 8 k)/\(eDo (stepsF 200 w k) 8 k).n.length=w.n.length:=by
 obtain⟨n,hn⟩:∃n,w.n[k]?=some n:=⟨_,List.getElem?_eq_getElem hk⟩
 obtain⟨b,hb,hA,_⟩:=(h.node hn).2.2.2
 obtain⟨s1,s2,⟨n',s3,s4,s5⟩,s6⟩:=h.steps hn (f:=200) (by have:=stepW_le hA.ok;omega)
 obtain⟨t1,t2,t3,t4,t5,t6⟩:=s1.says s3
 exact⟨s1,t1,by rw[t4,s2.n]⟩
structure RoundI(v w:Wld)(k:Nat):Prop where
 live:Live w
 mail:w.m=[]
 goal:w.h.l.goal≠0
 len:w.n.length=v.n.length
 cfg:w.c=v.c
 same:w=(List.range k).foldl bkF v
theorem RoundI.next{v w:Wld}{k:Nat}(h:RoundI v w k)(hk:k<v.n.length):RoundI v (bkF w k) (k+1):=by
 obtain⟨b1,b2,b3,_⟩:=h.live.block h.mail h.goal (k:=k) (by rw[h.len];exact hk)
 refine⟨b1,b2,by rw[b3.goal];exact h.goal,by rw[b3.n];exact h.len,by rw[b3.c];exact h.cfg,?_⟩
 rw[List.range_succ,List.foldl_append,←h.same]
 rfl
structure EndI(c:Conf)(N:Nat)(v w:Wld)(f:Nat):Prop where
 live:Live w
 cfg:w.c=c
 len:w.n.length=N
 same:endsF f w=v
theorem EndI.stop{c:Conf}{N:Nat}{v w:Wld}{f:Nat}(h:EndI c N v w (f+1))(hg:(drainF 200 w).h.l.goal=0):drainF 200 w=v:=by
 have:=h.same
 unfold endsF at this
 rw[if_pos hg] at this
 exact this
theorem EndI.begins{c:Conf}{N:Nat}{v w:Wld}{f:Nat}(h:EndI c N v w (f+1))(hg:(drainF 200 w).h.l.goal≠0):RoundI (drainF 200 w) (drainF 200 w) 0:=by
 obtain⟨d1,d2,d3,d4,d5⟩:=h.live.drained
 exact⟨d1,d2,hg,rfl,rfl,rfl⟩
def wRound(bud:Int)(y:Wld):Wld:=eDo (if bud<cnt 3 y.h.l.ags then eDo y 5 0 else y) 6 0
theorem EndI.next{c:Conf}{N:Nat}{v w y:Wld}{f:Nat}(h:EndI c N v w (f+1))(hg:(drainF 200 w).h.l.goal≠0)(hR:RoundI (drainF 200 w) y N):EndI c N v (wRound c.bud y) f/\Live (if c.bud<cnt 3 y.h.l.ags then eDo y 5 0 else y):=by
 obtain⟨d1,d2,d3,d4,d5⟩:=h.live.drained
 have hs:=h.same
 unfold endsF at hs
 rw[if_neg hg] at hs
 have hr:roundF (drainF 200 w)=wRound c.bud y:=by
  unfold roundF wRound
  dsimp only
  rw[d3,h.len,←hR.same,d4,h.cfg]
 obtain⟨r1,r2,r3,r4,_⟩:=d1.round d2 hg
 rw[hr] at hs r1 r3 r4
 refine⟨⟨r1,by rw[r3,d4,h.cfg],by rw[r4,d3,h.len],hs⟩,?_⟩
 split
 ·exact(hR.live.backs hR.goal).1
 ·exact hR.live
open Go Go.Proofs
theorem SpecO.run{P:Program}{g:FuncId}{args:List Value}{xs:List Bx}{H:Heap}{Q:Value->List (List Value)->Heap->Prop}(h:SpecO P g args xs H Q){C:Cfg}{w0:World}{own0:List Nat}{own:List Bx}{w:World}(hw:StW C w0 own0 own H w){is:List Nat}(hp:pick own is=some xs)(hnd:is.Nodup):
  Calls P g args.toArray w fun e w'=>∃v css H',e= .returned v/\Q v css H'/\Vg.Next C.base H H'/\OwnExt own (putBack own is css)/\StW C w0 own0 (putBack own is css) H' w':=by
 have hbx:=pick_boxes hw.boxes hnd hp
 refine Calls.mono (h w hw.sees hbx) fun e w' he=> ?_
 obtain⟨v,css,H',rfl,hl,hB,hS',hO,hN,hq⟩:=he
 exact⟨v,css,H',rfl,hq,hN.mono hw.base_le,putBack_ext _ _ _,hw.called hp hl hB hS' hO hN⟩
theorem cEDo{H:Heap}(hL:Lb H){w:Wld}{p:WA}(hw:WldAt H w p)(hR:WRight w)(kind k:Int)(b:Nat):SpecO Tryz.prog 60 [.int .i64 kind,.int .i64 k,.pointer (some ⟨b,0,none⟩)] [⟨b,false,41,wldCells w p⟩] H fun v css H'=>∃p',v= .bool (okB (wHap w (hEnd kind k)))/\css=[wldCells (eDo w kind k) p']/\WldAt H' (eDo w kind k) p':=by
 refine TryzvcLO Tryz.func60 (by kernel_rfl) (own:=[⟨b,false,41,wldCells w p⟩]) (args:=[.v (.int .i64 kind),.v (.int .i64 k),.loc 0 0]) (by kernel_rfl) (by intro s hs;simp at hs;rcases hs with rfl|rfl|rfl<;>simp[SV.wf]) _ (fun base K=>vl60 b w.c.first.id w.c.bud p.fa p.ra p.wa p.fl p.fc p.rl p.rc p.wl p.wc w.h.l.now w.h.l.goal w.h.l.nx w.h.l.back p.la p.ka p.ll p.lc p.kl p.kc p.sa p.ta p.sl p.sc p.tl p.tc w.h.up p.na p.ma p.nl p.nc p.ml p.mc kind k base H K) fun base hb hown=> ?_
 have hD:=cDo (x:=hEnd kind k) (a:=none) (l:=0) (c:=0) hL hw Sl.nil
 rw[wDo_right hR] at hD
 cases hy:wHap w (hEnd kind k) with
 |error e=>
  have hE:eDo w kind k=w:=by unfold eDo;rw[hy];rfl
  rw[hy] at hD
  rw[hE]
  exact hD.wldE fun p1 H1 e1 hN1 hw1=>fun b2=>⟨fun h0=>absurd h0 (wHap_err hy),fun h0=>⟨p,by rw[decide_eq_false h0];rfl,rfl,hw.ext e1⟩⟩
 |ok y=>
  have hE:eDo w kind k=y:=by unfold eDo;rw[hy];rfl
  rw[hy] at hD
  rw[hE]
  exact hD.wldE fun p1 H1 e1 hN1 hw1=>fun b2=>⟨fun h0=>⟨p1,by rw[decide_eq_true h0];rfl,rfl,hw1⟩,fun h0=>absurd rfl h0⟩
def eDoP(base:Nat)(own:List Bx)(H:Heap)(f:SV->List Bx->Heap->Prop)(i b ty:Nat)(cs:List Value)(x o:Nat)(kind k:Int):Prop:=
 ∃(w:Wld)(p:WA),(x=b/\o=0/\ty=41/\cs=wldCells w p)/\Lb H/\WldAt H w p/\WRight w/\∀(y:Wld)(p':WA)(H':Heap),y=eDo w kind k->Vg.Next base H H'->WldAt H' y p'->f (.v (.bool (okB (wHap w (hEnd kind k))))) (putBack own [i] [wldCells y p']) H'
def worldBox:Nat->List Bx->Option Nat
 |_,[]=>none
 |i,x::r=>match !x.map&&Nat.beq x.ty 41 with
  |true=>some i
  |false=>worldBox (i+1) r
noncomputable def TryzSumE:InlFn:=fun base H0 g pre own H f=>
 if g=60 then(match pre,worldBox 0 own with
  | [.v (.int .i64 kind),.v (.int .i64 k),.v (.pointer (some ⟨x,o,none⟩))],some i=>(match own[i]? with
   |some ⟨b,false,ty,cs⟩=>some (eDoP base own H f i b ty cs x o kind k)
   |_=>none)
  |_,_=>none)
 else TryzSum base H0 g pre own H f
def TryzListD:List FuncId:=2000000::60::61:: TryzListK
theorem contD{g:FuncId}(h: TryzListK.contains g=true): TryzListD.contains g=true:=by
 unfold TryzListD
 simp only[List.contains_cons,h,Bool.or_true]
theorem sumE_gen{L:List FuncId}(h60:L.contains 60=true)(hc:∀g,TryzListK.contains g=true->L.contains g=true)(j:Bool):InlOk Tryz.prog ⟨L,TryzSumE,j⟩:=by
 intro base H0 g pre own H f p hp
 unfold TryzSumE at hp
 dsimp only at hp
 split at hp
 ·rename_i e
  subst e
  split at hp
  ·rename_i kind k x o i hwb
   split at hp
   ·rename_i b ty cs hX
    obtain rfl:=Option.some.inj hp
    refine⟨h60,fun h C w0 own0 wd hbase hH0 hw hwf=> ?_⟩
    subst hbase hH0
    obtain⟨w,p,⟨rfl,rfl,rfl,rfl⟩,hL,hW,hR,hf⟩:=h
    refine((cEDo hL hW hR kind k x).run hw (is:=[i]) (by simp[pick,hX]) (by simp)).mono fun e w' he=> ?_
    obtain⟨v,css,H',rfl,⟨p',rfl,rfl,hW'⟩,hN,hE,hS⟩:=he
    exact⟨_,_,H',rfl,hf _ p' H' rfl hN hW',hE,hS⟩
   ·cases hp
  ·cases hp
 ·obtain⟨h1,h2⟩:= TryzsumK j base H0 g pre own H f p hp
  exact⟨hc g h1,h2⟩
noncomputable def TryzMutsD:Muts:=⟨TryzListD,TryzSumE,false⟩
theorem TryzvcDO{f:FuncId}{fn:Func}(hf: Tryz.prog.funcs[f]?=some fn)(hok:okFn fn=true){own:List Bx}{args:List SV}(hargs:Nat.ble args.length fn.ntmps=true)(hwf:∀s∈args,s.wf own.length){H:Heap}(Q:Value->List (List Value)->Heap->Prop)
  {F:Nat->(Value->List (List Value)->Heap->Prop)->Prop} (hv:∀base K,funV ⟨Tryz.prog,fn.ntmps,TryzMutsD,base,H⟩ (bodyOf fn) fn.results.toList args own K=F base K)
  (h:∀base,(∀b k,H b=some k->b<base)->(∀x∈own,x.b<base)->F base Q):SpecO Tryz.prog f (args.map (SV.val own)) own H Q:=
 specO_of (muts:= TryzMutsD) (sumE_gen (by decide) (fun g=>contD) false) hf (body_some hok) rfl Tryzmixed (ops_ok hok) (Nat.le_of_ble_eq_true hargs) hwf fun base hb ho=>by
  rw[hv base]
  exact h base hb ho
open Go Go.Proofs
theorem ve61(b q:Nat)(id bud:Int)(fa ra wa:O)(fl fc rl rc wl wc:Nat)(now goal nx:Int)(back:Bool)(la ka:O)(ll lc kl kc:Nat)(sa ta:O)(sl sc tl tc:Nat)(up:Bool)(na ma:O)(nl nc ml mc:Nat)(base:Nat)(H:Heap)(K:KT):
 (fV TryzMutsD Tryz.f61 base H [.loc 0 0,.loc 1 0] [⟨b,false,41,[I Z id,S fa fl fc,S ra rl rc,S wa wl wc,I Z bud,S la ll lc,I Z now,I Z goal,B back,S ka kl kc,I Z nx,S sa sl sc,S ta tl tc,B up,S na nl nc,S ma ml mc]⟩,⟨q,false,105,[.func (.func 60) #[] #[.pointer (some ⟨b,0,none⟩)]]⟩] K)=(
 (fun w2:LV=>∃(a:NI)(c:Nat),a c [A #[I Z id,S fa fl fc,S ra rl rc,S wa wl wc,I Z bud,S la ll lc,I Z now,I Z goal,B back,S ka kl kc,I Z nx,S sa sl sc,S ta tl tc,B up,S na nl nc,S ma ml mc]] H/\∀(d:Nat)(e:Int)(g:O)(h i:Nat)(j:O)(k l:Nat)(m:O)(n o:Nat)(p:Int)(r:O)(s t:Nat)(u v:Int)(w:Bool)(x:O)(y z:Nat)(a1:Int)(b1:O)(c1 d1:Nat)(e1:O)(f1 g1:Nat)(h1:Bool)(i1:O)(j1 k1:Nat)(l1:O)(m1 n1:Nat)(o1:Heap),X base H o1->a d [A #[I Z e,S g h i,S j k l,S m n o,I Z p,S r s t,I Z u,I Z v,B w,S x y z,I Z a1,S b1 c1 d1,S e1 f1 g1,B h1,S i1 j1 k1,S l1 m1 n1]] o1->(0<(m1:Int)->∃(p1:Wld)(q1:WA),(b=b/\0=0/\41=41/\ [I Z e,S g h i,S j k l,S m n o,I Z p,S r s t,I Z u,I Z v,B w,S x y z,I Z a1,S b1 c1 d1,S e1 f1 g1,B h1,S i1 j1 k1,S l1 m1 n1]=wldCells p1 q1)/\Lb o1/\WldAt o1 p1 q1/\WRight p1/\∀(r1:Wld)(s1:WA)(t1:Heap),r1=eDo p1 9 0->X base o1 t1->WldAt t1 r1 s1->(okB (wHap p1 (hEnd 9 0))=true->[w2]=[w2]/\∃u1:Nat,u1<d/\a u1 [A (wldCells r1 s1).toArray]
 t1)/\(okB (wHap p1 (hEnd 9 0))=false->∃(u1:Wld)(v1:WA),(b=b/\0=0/\41=41/\wldCells r1 s1=wldCells u1 v1)/\Lb t1/\WldAt t1 u1 v1/\WRight u1/\∀(w1:Wld)(x1:WA)(y1:Heap),w1=eDo u1 11 0->X base t1 y1->WldAt y1 w1 x1->(okB (wHap u1 (hEnd 11 0))=true->[w2]=[w2]/\∃z1:Nat,z1<d/\a z1 [A (wldCells w1 x1).toArray] y1)/\(okB (wHap u1 (hEnd 11 0))=false->K (T #[]) [(wldCells w1 x1),w2] y1)))/\(¬0<(m1:Int)->K (T #[]) [[I Z e,S g h i,S j k l,S m n o,I Z p,S r s t,I Z u,I Z v,B w,S x y z,I Z a1,S b1 c1 d1,S e1 f1 g1,B h1,S i1 j1 k1,S l1 m1 n1],w2] o1)) [Value.func (Fn.func 60) #[] #[P (some (D b 0 none))]]):=by kernel_rfl
open Go Go.Proofs
abbrev doBox(q b:Nat):Bx:=⟨q,false,105,[.func (.func 60) #[] #[.pointer (some ⟨b,0,none⟩)]]⟩
theorem cDrain{H:Heap}(hL:Lb H){w:Wld}{p:WA}(hw:WldAt H w p)(h:Live w)(b q:Nat):SpecO Tryz.prog 61 [.pointer (some ⟨b,0,none⟩),.pointer (some ⟨q,0,none⟩)] [⟨b,false,41,wldCells w p⟩,doBox q b] H fun v css H'=>∃p',v= .tuple #[]/\css=[wldCells (drainF 200 w) p',[.func (.func 60) #[] #[.pointer (some ⟨b,0,none⟩)]]]/\WldAt H' (drainF 200 w) p':=by
 refine TryzvcDO Tryz.func61 (by kernel_rfl) (own:=[⟨b,false,41,wldCells w p⟩,doBox q b]) (args:=[.loc 0 0,.loc 1 0]) (by kernel_rfl) (by intro s hs;simp at hs;rcases hs with rfl|rfl<;>simp[SV.wf]) _ (fun base K=>ve61 b q w.c.first.id w.c.bud p.fa p.ra p.wa p.fl p.fc p.rl p.rc p.wl p.wc w.h.l.now w.h.l.goal w.h.l.nx w.h.l.back p.la p.ka p.ll p.lc p.kl p.kc p.sa p.ta p.sl p.sc p.tl p.tc w.h.up p.na p.ma p.nl p.nc p.ml p.mc base H K) fun base hb hown=> ?_
 refine⟨fun m vs H'=>∃(y:Wld)(p':WA),vs=[wldArg y p']/\WldAt H' y p'/\DrainI w y m/\Ext H H',200,⟨w,p,rfl,hw,DrainI.start h,Ext.refl _⟩,?_⟩
 intro m n1 a2 l2 c2 a3 l3 c3 a4 l4 c4 n5 a6 l6 c6 n7 n8 b9 aA lA cA nB aC lC cC aD lD cD bE aF lF cF aG lG cG H' hN hI
 obtain⟨y,p',hvs,hy,hD,eH⟩:=hI
 simp only[List.cons.injEq,Value.slice.injEq,Value.int.injEq,true_and,Value.agg.injEq,Array.mk.injEq,Value.bool.injEq,and_true] at hvs
 obtain⟨rfl,⟨rfl,rfl,rfl⟩,⟨rfl,rfl,rfl⟩,⟨rfl,rfl,rfl⟩,rfl,⟨rfl,rfl,rfl⟩,rfl,rfl,rfl,⟨rfl,rfl,rfl⟩,rfl,⟨rfl,rfl,rfl⟩,⟨rfl,rfl,rfl⟩,rfl,⟨rfl,rfl,rfl⟩,rfl,rfl,rfl⟩:=hvs
 have hml:=hy.mail.len
 refine⟨fun h0=> ?_,fun h0=> ?_⟩
 ·have hm:y.m≠[]:=fun e=>by rw[e] at hml;simp at hml;omega
  obtain⟨k,hk,hok,hD'⟩:=hD.next hm
  refine⟨y,p',⟨rfl,rfl,rfl,rfl⟩,hL.ext eH,hy,hD.live.right,fun z p2 H2 hz hN2 hw2=>⟨fun _=>⟨rfl,k,hk,z,p2,rfl,hw2,by rw[hz];exact hD',Ext.trans eH hN2.ext⟩,fun h0=>by rw[hok] at h0;cases h0⟩⟩
 ·have hm:y.m=[]:=List.eq_nil_of_length_eq_zero (by omega)
  have hE:=hD.done hm
  subst hE
  exact⟨p',rfl,rfl,hy⟩
open Go Go.Proofs
def drainP(base:Nat)(own:List Bx)(H:Heap)(f:SV->List Bx->Heap->Prop)(i b ty:Nat)(cs:List Value)(q ty2:Nat)(cs2:List Value):Prop:=
 ∃(w:Wld)(p:WA),(ty=41/\cs=wldCells w p/\ty2=105/\cs2=[.func (.func 60) #[] #[.pointer (some ⟨b,0,none⟩)]])/\Lb H/\WldAt H w p/\Live w/\∀(y:Wld)(p':WA)(H':Heap),y=drainF 200 w->Vg.Next base H H'->WldAt H' y p'->f (.v (.tuple #[])) (putBack own [i] [wldCells y p']) H'
theorem putBack_two{own:List Bx}{i j:Nat}{b ty q ty2:Nat}{cs cs2 c:List Value}(hj:own[j]?=some ⟨q,false,ty2,cs2⟩):putBack own [i,j] [c,cs2]=putBack own [i] [c]:=by
 have key:∀(l:List Bx)(k:Nat),(∀x,l[j-k]?=some x->k<=j->x=⟨q,false,ty2,cs2⟩)->ownWith ([i,j].zip [c,cs2]) k l=ownWith ([i].zip [c]) k l:=by
  intro l
  induction l with
  |nil=>intro k h;rfl
  |cons x r ih=>
   intro k h
   have hr:=ih (k+1) (fun y hy hk=>h y (by rw[show j-k=(j-(k+1))+1 from by omega];exact hy) (by omega))
   simp only[List.zip_cons_cons,List.zip_nil_left,List.zip_nil_right] at hr⊢
   show(match alook k [(i,c),(j,cs2)] with|some c=>x.set c|none=>x)::_=(match alook k [(i,c)] with|some c=>x.set c|none=>x)::_
   rw[hr]
   congr 1
   simp only[alook]
   by_cases e:i=k
   ·rw[if_pos e,if_pos e]
   ·rw[if_neg e,if_neg e]
    by_cases e2:j=k
    ·rw[if_pos e2]
     have:=h x (by rw[e2,Nat.sub_self];rfl) (by omega)
     rw[this];rfl
    ·rw[if_neg e2]
 exact key own 0 (fun x hx _=>by
  rw[Nat.sub_zero,hj] at hx
  exact(Option.some.inj hx).symm)
noncomputable def TryzSumF:InlFn:=fun base H0 g pre own H f=>
 if g=61 then(match pre with
  | [.loc i 0,.loc j 0]=>(match own[i]?,own[j]?,Nat.beq i j with
   |some ⟨b,false,ty,cs⟩,some ⟨q,false,ty2,cs2⟩,false=>some (drainP base own H f i b ty cs q ty2 cs2)
   |_,_,_=>none)
  |_=>none)
 else TryzSumE base H0 g pre own H f
def TryzListE:List FuncId:=2000001::3000002::60::61:: TryzListK
theorem contE{g:FuncId}(h: TryzListK.contains g=true): TryzListE.contains g=true:=by
 unfold TryzListE
 simp only[List.contains_cons,h,Bool.or_true]
theorem TryzsumF(j:Bool):InlOk Tryz.prog ⟨TryzListE,TryzSumF,j⟩:=by
 intro base H0 g pre own H f p hp
 unfold TryzSumF at hp
 dsimp only at hp
 split at hp
 ·rename_i e
  subst e
  split at hp
  ·rename_i i j
   split at hp
   ·rename_i b ty cs q ty2 cs2 hi hj hij
    obtain rfl:=Option.some.inj hp
    refine⟨by show TryzListE.contains 61=true;decide,fun h C w0 own0 wd hbase hH0 hw hwf=> ?_⟩
    subst hbase hH0
    obtain⟨w,p,⟨rfl,rfl,rfl,rfl⟩,hL,hW,hR,hf⟩:=h
    have hne:i≠j:=fun e=>by subst e;simp at hij
    have hv:([SV.loc i 0,SV.loc j 0].map (SV.val own)).toArray=[Value.pointer (some ⟨b,0,none⟩),Value.pointer (some ⟨q,0,none⟩)].toArray:=by
     simp[SV.val,box_no hi,box_no hj]
    rw[hv]
    refine((cDrain hL hW hR b q).run hw (is:=[i,j]) (by simp[pick,hi,hj]) (by simp[hne])).mono fun e w' he=> ?_
    obtain⟨v,css,H',rfl,⟨p',rfl,rfl,hW'⟩,hN,hE,hS⟩:=he
    rw[putBack_two (b:=b) (ty:=41) (cs:=[]) hj] at hE hS
    exact⟨_,_,H',rfl,hf _ p' H' rfl hN hW',hE,hS⟩
   ·cases hp
  ·cases hp
 ·exact(sumE_gen (by decide) (fun g=>contE) j) base H0 g pre own H f p hp
noncomputable def TryzMutsE:Muts:=⟨TryzListE,TryzSumF,true⟩
theorem TryzvcE{f:FuncId}{fn:Func}(hf: Tryz.prog.funcs[f]?=some fn)(hok:okFn fn=true){args:List Value}(hargs:Nat.ble args.length fn.ntmps=true){H:Heap}(Q:Value->Heap->Prop){sv:List SV}(hsv:args.map SV.v=sv)
  {F:Nat->(Value->List (List Value)->Heap->Prop)->Prop} (hv:∀base K,funV ⟨Tryz.prog,fn.ntmps,TryzMutsE,base,H⟩ (bodyOf fn) fn.results.toList sv [] K=F base K)
  (h:∀base,(∀b k,H b=some k->b<base)->F base (fun v _ H'=>Q v H')):Spec Tryz.prog f args H Q:=
 spec_of (muts:= TryzMutsE) (TryzsumF true) hf (body_some hok) rfl Tryzmixed (ops_ok hok) (Nat.le_of_ble_eq_true hargs) fun base hb=>by
  rw[hsv,hv base]
  exact h base hb
open Go Go.Proofs
theorem ve16(id bud:Int)(fa ra wa:O)(fl fc rl rc wl wc:Nat)(ha:O)(hl hc:Nat)(base:Nat)(H:Heap)(K:KT):
 (fV TryzMutsE Tryz.f16 base H [.v (A #[I Z id,S fa fl fc,S ra rl rc,S wa wl wc,I Z bud]),.v (S ha hl hc)] [] K)=(
 ∀a:Nat,Y Tryz.prog 45 [A #[I Z id,S fa fl fc,S ra rl rc,S wa wl wc,I Z bud],S ha hl hc,Value.func (Fn.func 59) #[] #[]] H fun b c=>∃d e g h i j k l m n o p q r s t u v w x y z a1 b1 c1 d1 e1 f1 g1 h1 i1 j1 k1 l1 m1,b=T #[A #[I Z d,S e g h,S i j k,S l m n,I Z o,S p q r,I Z s,I Z t,B u,S v w x,I Z y,S z a1 b1,S c1 d1 e1,B f1,S g1 h1 i1,S j1 k1 l1],B m1]/\(X base H c->∀n1:Nat,(fun w17:LV=>(fun w16:LL=>(fun w15:LB=>∃o1:Prop,(Y Tryz.prog 20 [] c fun p1 q1=>∃r1,p1=B r1/\(X base c q1->(r1=false->w15=w15/\SubH c q1/\o1)/\(¬r1=false->(m1=false->w15=w15/\SubH c q1/\o1)/\(¬m1=false->w15=w15/\SubH c q1/\(o1↔(h1:Int)=0)))))/\(o1->∃p1:Prop,(Y Tryz.prog 20 [] c fun q1 r1=>∃s1,q1=B s1/\(X base c r1->(s1=true->w15=w15/\SubH c r1/\(p1↔m1=true))/\(s1=false->w15=w15/\SubH c r1/\¬p1)))/\K (B (@decide p1 (Classical.propDecidable p1))) [] c)/\(¬o1->∀p1:Nat,∃(q1:NI)(r1:Nat),q1 r1 [I Z (-1),A #[I Z d,S e g h,S i j k,S l m n,I Z o,S p q r,I Z s,I Z t,B u,S v w x,I Z y,S z a1 b1,S c1 d1 e1,B f1,S g1 h1 i1,S j1 k1 l1]] c/\∀(s1:Nat)(t1 u1:Int)(v1:O)(w1 x1:Nat)(y1:O)(z1 a2:Nat)(b2:O)(c2 d2:Nat)(e2:Int)(f2:O)(g2 h2:Nat)(i2 j2:Int)(k2:Bool)(l2:O)(m2 n2:Nat)(o2:Int)(p2:O)(q2 r2:Nat)(s2:O)(t2 u2:Nat)(v2:Bool)(w2:O)(x2 y2:Nat)(z2:O)(a3 b3:Nat)(c3:Heap),X base H c3->q1 s1 [I Z t1,A #[I Z u1,S v1 w1 x1,S y1 z1 a2,S b2 c2 d2,I Z e2,S f2 g2 h2,I Z i2,I Z j2,B k2,S l2 m2 n2,I Z o2,S p2 q2 r2,S s2 t2 u2,B v2,S w2 x2 y2,S z2 a3 b3]] c3->(t1<(x2:Int)->∃(d3:Wld)(e3:WA),(n1=n1/\0=0/\41=41/\ [I Z u1,S v1 w1 x1,S y1 z1 a2,S b2 c2 d2,I Z e2,S f2 g2 h2,I Z i2,I Z j2,B k2,S l2 m2 n2,I Z o2,S p2 q2 r2,S s2 t2 u2,B v2,S w2 x2 y2,S z2 a3 b3]=wldCells d3 e3)/\Lb c3/\WldAt c3 d3 e3/\WRight d3/\∀(f3:Wld)(g3:WA)(h3:Heap),f3=eDo d3 13 t1->X base c3 h3->WldAt h3 f3 g3->∀i3:Int,i3=W Z (t1+1)->w16=w16/\∃j3:Nat,j3<s1/\q1 j3 [I Z i3,A (wldCells f3 g3).toArray] h3)/\(¬t1<(x2:Int)->∀d3:Int,d3=W Z (2*(x2:Int))->∀e3:Int,e3=W Z (d3+4)->∃(f3:NI)(g3:Nat),f3 g3 [I Z 0,A #[I Z u1,S v1 w1 x1,S y1 z1 a2,S b2 c2 d2,I Z e2,S f2 g2 h2,I Z i2,I Z j2,B k2,S l2 m2 n2,I Z o2,S p2 q2 r2,S s2 t2 u2,B v2,S w2 x2 y2,S z2 a3 b3]] c3/\∀(h3:Nat)(i3 j3:Int)(k3:O)(l3 m3:Nat)(n3:O)(o3 p3:Nat)(q3:O)(r3 s3:Nat)(t3:Int)(u3:O)(v3 w3:Nat)(x3 y3:Int)(z3:Bool)(a4:O)(b4 c4:Nat)(d4:Int)(e4:O)(f4 g4:Nat)(h4:O)(i4 j4:Nat)(k4:Bool)(l4:O)(m4 n4:Nat)(o4:O)(p4 q4:Nat)(r4:Heap),(fun w14:LB=>X base H r4->f3 h3 [I Z i3,A #[I Z j3,S k3 l3 m3,S n3 o3 p3,S q3 r3 s3,I Z t3,S u3 v3 w3,I Z x3,I Z y3,B z3,S a4 b4 c4,I Z d4,S e4 f4 g4,S h4 i4 j4,B k4,S l4 m4 n4,S o4 p4 q4]] r4->(i3<e3->∃(s4:Wld)(t4:WA),(41=41/\ [I Z j3,S k3 l3 m3,S n3 o3 p3,S q3 r3 s3,I Z t3,S u3 v3 w3,I Z x3,I Z y3,B z3,S a4 b4 c4,I Z d4,S e4 f4 g4,S h4 i4 j4,B k4,S l4 m4 n4,S o4 p4 q4]=wldCells s4 t4/\105=105/\w17=w17)/\Lb r4/\WldAt r4 s4 t4/\Live s4/\∀(u4:Wld)(v4:WA)(w4:Heap),(fun w11:LB=>u4=drainF 200 s4->X base r4 w4->WldAt w4 u4 v4->(Ldr.goal (Hed.l (Wld.h u4))=0->∃x4:Prop,((180<Ldr.nx (Hed.l (Wld.h u4))->w11=w11/\SubH w4 w4/\x4)/\(¬180<Ldr.nx (Hed.l (Wld.h u4))->(30000<(↑(WA.sl v4):Int)->w11=w11/\SubH w4 w4/\x4)/\(¬30000<(↑(WA.sl v4):Int)->Y Tryz.prog 62 [S (WA.na v4) (WA.nl v4) (WA.nc v4),Value.func (Fn.func 63) #[] #[]] w4 fun y4 z4=>∃a5,y4=B a5/\(X base w4 z4->w11=w11/\SubH w4 z4/\(x4↔a5=true)))))/\(x4->K (B true) [] w4)/\(¬x4->Y Tryz.prog 64 [A #[S (WA.sa v4) (WA.sl v4) (WA.sc v4),S (WA.ta v4) (WA.tl v4) (WA.tc v4)]] w4 fun y4 z4=>∃a5 b5 c5 d5 e5 f5,(fun w10:LL=>∃g5 h5 i5 j5,y4=T #[A #[S a5 b5 c5,S d5 e5 f5],S g5 h5 i5,I Z j5]/\(X base w4 z4->∀k5:Nat,(160<(h5:Int)->K (B true) [] z4)/\(¬160<(h5:Int)->∃(l5:NI)(m5:Nat),l5 m5 [B false,I Z 0,A (wldCells u4 v4).toArray] z4/\∀(n5:Nat)(o5:Bool)(p5 q5:Int)(r5:O)(s5 t5:Nat)(u5:O)(v5 w5:Nat)(x5:O)(y5 z5:Nat)(a6:Int)(b6:O)(c6 d6:Nat)(e6 f6:Int)(g6:Bool)(h6:O)(i6 j6:Nat)(k6:Int)(l6:O)(m6 n6:Nat)(o6:O)(p6 q6:Nat)(r6:Bool)(s6:O)(t6 u6:Nat)(v6:O)(w6
 x6:Nat) (y6:Heap),(fun w9:LB=>X base H y6->l5 n5 [B o5,I Z p5,A #[I Z q5,S r5 s5 t5,S u5 v5 w5,S x5 y5 z5,I Z a6,S b6 c6 d6,I Z e6,I Z f6,B g6,S h6 i6 j6,I Z k6,S l6 m6 n6,S o6 p6 q6,B r6,S s6 t6 u6,S v6 w6 x6]] y6->(p5<(↑(WA.nl v4):Int)->∃z6 a7,WA.na v4=some (D z6 a7 none)/\0<=p5/\p5<(↑(WA.nl v4):Int)/\∃(b7:O)(c7 d7:Nat)(e7 f7:Int)(g7:Bool)(h7:Int)(i7:O)(j7 k7:Nat)(l7:Bool)(m7:O)(n7 o7:Nat)(p7:O)(q7 r7:Nat)(s7:Bool),(C y6 z6 (a7+N p5*10)=some (S b7 c7 d7)/\C y6 z6 (a7+N p5*10+1)=some (I Z e7)/\C y6 z6 (a7+N p5*10+2)=some (I Z f7)/\C y6 z6 (a7+N p5*10+3)=some (B g7)/\C y6 z6 (a7+N p5*10+4)=some (I Z h7)/\C y6 z6 (a7+N p5*10+5)=some (S i7 j7 k7)/\C y6 z6 (a7+N p5*10+6)=some (B l7)/\C y6 z6 (a7+N p5*10+7)=some (S m7 n7 o7)/\C y6 z6 (a7+N p5*10+8)=some (S p7 q7 r7)/\C y6 z6 (a7+N p5*10+9)=some (B s7)/\True)/\∀t7:Nat,Y Tryz.prog 64 [A #[S m7 n7 o7,S p7 q7 r7]] y6 fun u7 v7=>∃w7 x7 y7 z7 a8 b8 c8 d8 e8 f8,u7=T #[A #[S w7 x7 y7,S z7 a8 b8],S c8 d8 e8,I Z f8]/\(X base y6 v7->∀g8:Nat,(160<(d8:Int)->K (B true) [] v7)/\(¬160<(d8:Int)->∀h8:Int,h8=W Z (p5+1)->w10=w10/\∃i8:Nat,i8<n5/\l5 i8 [B o5,I Z h8,A #[I Z q5,S r5 s5 t5,S u5 v5 w5,S x5 y5 z5,I Z a6,S b6 c6 d6,I Z e6,I Z f6,B g6,S h6 i6 j6,I Z k6,S l6 m6 n6,S o6 p6 q6,B r6,S s6 t6 u6,S v6 w6 x6]] v7)))/\(¬p5<(↑(WA.nl v4):Int)->∃z6:Prop,((f6=0->true=true/\∀a7:Heap,X 0 y6 a7->a7 n1=some (boxKB 41 [I Z q5,S r5 s5 t5,S u5 v5 w5,S x5 y5 z5,I Z a6,S b6 c6 d6,I Z e6,I Z f6,B g6,S h6 i6 j6,I Z k6,S l6 m6 n6,S o6 p6 q6,B r6,S s6 t6 u6,S v6 w6 x6])/\True->Y Tryz.prog 62 [S s6 t6 u6,Value.func (Fn.func 65) #[] #[P (some (D n1 0 none))]] a7 fun b7 c7=>∃d7,b7=B d7/\∀e7,X base y6 e7->(∀(f7:Nat)(g7:KB),c7 f7=some g7->(∀h7:Bx,h7∈ [J n1 false 41 [I Z q5,S r5 s5 t5,S u5 v5 w5,S x5 y5 z5,I Z a6,S b6 c6 d6,I Z e6,I Z f6,B g6,S h6 i6 j6,I Z k6,S l6 m6 n6,S o6 p6 q6,B r6,S s6 t6 u6,S v6 w6 x6]]->f7≠Bx.b h7)->e7 f7=some g7)->w9=w9/\SubH y6
 e7/\(z6↔d7=false))/\(¬f6=0->w9=w9/\SubH y6 y6/\¬z6))/\K (B (@decide z6 (Classical.propDecidable z6))) [] y6)) [J a false 28 [I Z id,S fa fl fc,S ra rl rc,S wa wl wc,I Z bud],J n1 false 41 [I Z q5,S r5 s5 t5,S u5 v5 w5,S x5 y5 z5,I Z a6,S b6 c6 d6,I Z e6,I Z f6,B g6,S h6 i6 j6,I Z k6,S l6 m6 n6,S o6 p6 q6,B r6,S s6 t6 u6,S v6 w6 x6],J p1 false 105 w17,J k5 false 35 [S a5 b5 c5,S d5 e5 f5]]))) [[I Z id,S fa fl fc,S ra rl rc,S wa wl wc,I Z bud],w17,[S a5 b5 c5,S d5 e5 f5]]))/\(¬Ldr.goal (Hed.l (Wld.h u4))=0->∃(x4:NI)(y4:Nat),x4 y4 [I Z 0,A (wldCells u4 v4).toArray] w4/\∀(z4:Nat)(a5 b5:Int)(c5:O)(d5 e5:Nat)(f5:O)(g5 h5:Nat)(i5:O)(j5 k5:Nat)(l5:Int)(m5:O)(n5 o5:Nat)(p5 q5:Int)(r5:Bool)(s5:O)(t5 u5:Nat)(v5:Int)(w5:O)(x5 y5:Nat)(z5:O)(a6 b6:Nat)(c6:Bool)(d6:O)(e6 f6:Nat)(g6:O)(h6 i6:Nat)(j6:Heap),X base H j6->x4 z4 [I Z a5,A #[I Z b5,S c5 d5 e5,S f5 g5 h5,S i5 j5 k5,I Z l5,S m5 n5 o5,I Z p5,I Z q5,B r5,S s5 t5 u5,I Z v5,S w5 x5 y5,S z5 a6 b6,B c6,S d6 e6 f6,S g6 h6 i6]] j6->(a5<(↑(WA.nl v4):Int)->∃(k6:Wld)(l6:WA),(n1=n1/\0=0/\41=41/\ [I Z b5,S c5 d5 e5,S f5 g5 h5,S i5 j5 k5,I Z l5,S m5 n5 o5,I Z p5,I Z q5,B r5,S s5 t5 u5,I Z v5,S w5 x5 y5,S z5 a6 b6,B c6,S d6 e6 f6,S g6 h6 i6]=wldCells k6 l6)/\Lb j6/\WldAt j6 k6 l6/\WRight k6/\∀(m6:Wld)(n6:WA)(o6:Heap),m6=eDo k6 3 a5->X base j6 o6->WldAt o6 m6 n6->∃(p6:Wld)(q6:WA),(n1=n1/\0=0/\41=41/\wldCells m6 n6=wldCells p6 q6)/\Lb o6/\WldAt o6 p6 q6/\WRight p6/\∀(r6:Wld)(s6:WA)(t6:Heap),r6=eDo p6 4 a5->X base o6 t6->WldAt t6 r6 s6->∃(u6:Wld)(v6:WA),(41=41/\wldCells r6 s6=wldCells u6 v6/\105=105/\w17=w17)/\Lb t6/\WldAt t6 u6 v6/\Live u6/\∀(w6:Wld)(x6:WA)(y6:Heap),w6=drainF 200 u6->X base t6 y6->WldAt y6 w6 x6->∃(z6:NI)(a7:Nat),z6 a7 [A (wldCells w6 x6).toArray] y6/\∀(b7:Nat)(c7:Int)(d7:O)(e7 f7:Nat)(g7:O)(h7 i7:Nat)(j7:O)(k7 l7:Nat)(m7:Int)(n7:O)(o7 p7:Nat)(q7 r7:Int)(s7:Bool)(t7:O)(u7 v7:Nat)(w7:Int)(x7:O)(y7 z7:Nat)(a8:O)(b8 c8:Nat)(d8:Bool)(e8:O)(f8 g8:Nat)(h8:O)(i8 j8:Nat)(k8:Heap),X base H k8->z6 b7 [A #[I Z c7,S d7 e7 f7,S g7 h7 i7,S j7 k7 l7,I Z m7,S n7 o7 p7,I Z q7,I Z r7,B s7,S t7 u7 v7,I Z w7,S x7 y7 z7,S a8 b8 c8,B d8,S e8 f8 g8,S h8 i8 j8]] k8->∃(l8:Wld)(m8:WA),(n1=n1/\0=0/\41=41/\ [I Z c7,S d7 e7 f7,S g7 h7 i7,S j7 k7 l7,I Z m7,S n7 o7 p7,I Z q7,I Z r7,B s7,S t7 u7 v7,I Z w7,S x7 y7 z7,S a8 b8 c8,B d8,S e8 f8 g8,S h8 i8 j8]=[I Z
 (Rls.id (Conf.first (Wld.c l8))),S (WA.fa m8) (WA.fl m8) (WA.fc m8),S (WA.ra m8) (WA.rl m8) (WA.rc m8),S (WA.wa m8) (WA.wl m8) (WA.wc m8),I Z (Conf.bud (Wld.c l8)),S (WA.la m8) (WA.ll m8) (WA.lc m8),I Z (Ldr.now (Hed.l (Wld.h l8))),I Z (Ldr.goal (Hed.l (Wld.h l8))),B (Ldr.back (Hed.l (Wld.h l8))),S (WA.ka m8) (WA.kl m8) (WA.kc m8),I Z (Ldr.nx (Hed.l (Wld.h l8))),S (WA.sa m8) (WA.sl m8) (WA.sc m8),S (WA.ta m8) (WA.tl m8) (WA.tc m8),B (Hed.up (Wld.h l8)),S (WA.na m8) (WA.nl m8) (WA.nc m8),S (WA.ma m8) (WA.ml m8) (WA.mc m8)])/\Lb k8/\WldAt k8 l8 m8/\WRight l8/\∀(n8:Wld)(o8:WA)(p8:Heap),n8=eDo l8 7 a5->X base k8 p8->WldAt p8 n8 o8->(okB (wHap l8 (hEnd 7 a5))=true->w16=w16/\∃q8:Nat,q8<b7/\z6 q8 [A (wldCells n8 o8).toArray] p8)/\(okB (wHap l8 (hEnd 7 a5))=false->∃(q8:Wld)(r8:WA),(n1=n1/\0=0/\41=41/\wldCells n8 o8=wldCells q8 r8)/\Lb p8/\WldAt p8 q8 r8/\WRight q8/\∀(s8:Wld)(t8:WA)(u8:Heap),s8=eDo q8 8 a5->X base p8 u8->WldAt u8 s8 t8->∃(v8:Wld)(w8:WA),(41=41/\wldCells s8 t8=wldCells v8 w8/\105=105/\w17=w17)/\Lb u8/\WldAt u8 v8 w8/\Live v8/\∀(x8:Wld)(y8:WA)(z8:Heap),x8=drainF 200 v8->X base u8 z8->WldAt z8 x8 y8->∀a9:Int,a9=W Z (a5+1)->w16=w16/\∃b9:Nat,b9<z4/\x4 b9 [I Z a9,A (wldCells x8 y8).toArray] z8))/\(¬a5<(↑(WA.nl v4):Int)->∃(k6:NI)(l6:Nat),k6 l6 [I Z 0,I Z 0,A #[I Z b5,S c5 d5 e5,S f5 g5 h5,S i5 j5 k5,I Z l5,S m5 n5 o5,I Z p5,I Z q5,B r5,S s5 t5 u5,I Z v5,S w5 x5 y5,S z5 a6 b6,B c6,S d6 e6 f6,S g6 h6 i6]] j6/\∀(m6:Nat)(n6 o6 p6:Int)(q6:O)(r6 s6:Nat)(t6:O)(u6 v6:Nat)(w6:O)(x6 y6:Nat)(z6:Int)(a7:O)(b7 c7:Nat)(d7 e7:Int)(f7:Bool)(g7:O)(h7 i7:Nat)(j7:Int)(k7:O)(l7 m7:Nat)(n7:O)(o7 p7:Nat)(q7:Bool)(r7:O)(s7 t7:Nat)(u7:O)(v7 w7:Nat)(x7:Heap),X base H x7->k6 m6 [I Z n6,I Z o6,A #[I Z p6,S q6 r6 s6,S t6 u6 v6,S w6 x6 y6,I Z z6,S a7 b7 c7,I Z d7,I Z e7,B f7,S g7 h7 i7,I Z j7,S k7 l7 m7,S n7 o7 p7,B q7,S r7 s7 t7,S u7 v7 w7]] x7->(o6<(t5:Int)->∃y7 z7,s5=some (D y7 z7 none)/\0<=o6/\o6<(t5:Int)/\∃(a8 b8:Int)(c8:Bool),(C x7 y7 (z7+N o6*3)=some (I Z a8)/\C x7 y7 (z7+N o6*3+1)=some (I Z b8)/\C x7 y7 (z7+N o6*3+2)=some (B c8)/\True)/\∀d8:Nat,(a8=3->∀e8:Int,e8=W Z (n6+1)->∀f8:Int,f8=W Z (o6+1)->w16=w16/\∃g8:Nat,g8<m6/\k6 g8 [I Z e8,I Z f8,A #[I Z p6,S q6 r6 s6,S t6 u6 v6,S w6 x6 y6,I Z z6,S a7 b7 c7,I Z d7,I Z e7,B f7,S g7 h7 i7,I Z j7,S k7 l7 m7,S n7 o7 p7,B q7,S r7 s7 t7,S u7 v7 w7]] x7)/\(¬a8=3->∀e8:Int,e8=W Z (o6+1)->w16=w16/\∃f8:Nat,f8<m6/\k6 f8 [I Z n6,I Z e8,A #[I Z p6,S q6 r6 s6,S t6 u6 v6,S w6 x6 y6,I Z z6,S a7 b7 c7,I Z d7,I Z e7,B f7,S g7 h7 i7,I Z j7,S k7 l7 m7,S n7 o7 p7,B q7,S r7 s7 t7,S u7 v7 w7]] x7))/\(¬o6<(t5:Int)->(bud<n6->∃(y7:Wld)(z7:WA),(n1=n1/\0=0/\41=41/\ [I Z p6,S q6 r6 s6,S t6 u6 v6,S w6 x6 y6,I Z z6,S a7 b7 c7,I Z d7,I Z e7,B f7,S g7 h7 i7,I Z j7,S k7 l7 m7,S n7 o7 p7,B q7,S r7 s7 t7,S u7 v7 w7]=wldCells y7 z7)/\Lb x7/\WldAt x7 y7 z7/\WRight y7/\∀(a8:Wld)(b8:WA)(c8:Heap),a8=eDo y7 5 0->X base x7 c8->WldAt c8 a8 b8->∃(d8:Wld)(e8:WA),(n1=n1/\0=0/\41=41/\wldCells a8 b8=wldCells d8 e8)/\Lb c8/\WldAt c8 d8 e8/\WRight d8/\∀(f8:Wld)(g8:WA)(h8:Heap),f8=eDo d8 6 0->X base c8 h8->WldAt h8 f8 g8->∀i8:Int,i8=W Z (i3+1)->w16=w16/\∃j8:Nat,j8<h3/\f3 j8 [I Z i8,A (wldCells f8 g8).toArray] h8)/\(¬bud<n6->∃(y7:Wld)(z7:WA),(n1=n1/\0=0/\41=41/\ [I Z p6,S q6 r6 s6,S t6 u6 v6,S w6 x6 y6,I Z z6,S a7 b7 c7,I Z d7,I Z e7,B f7,S g7 h7 i7,I Z j7,S k7 l7 m7,S n7 o7 p7,B q7,S r7 s7 t7,S u7 v7 w7]=wldCells y7 z7)/\Lb x7/\WldAt x7 y7 z7/\WRight y7/\∀(a8:Wld)(b8:WA)(c8:Heap),a8=eDo y7 6 0->X base x7 c8->WldAt c8 a8 b8->∀d8:Int,d8=W Z (i3+1)->w16=w16/\∃e8:Nat,e8<h3/\f3 e8 [I Z d8,A (wldCells a8 b8).toArray] c8))))) [J a false 28 [I Z id,S fa fl fc,S ra rl rc,S wa wl wc,I Z bud],J n1 false 41 (wldCells u4 v4),J p1 false 105 w17])/\(¬i3<e3->∃s4:Prop,((180<d4->w14=w14/\SubH r4 r4/\s4)/\(¬180<d4->(30000<(f4:Int)->w14=w14/\SubH r4 r4/\s4)/\(¬30000<(f4:Int)->Y Tryz.prog 62 [S l4 m4 n4,Value.func (Fn.func 63) #[] #[]] r4 fun t4 u4=>∃v4,t4=B v4/\(X base r4 u4->w14=w14/\SubH r4 u4/\(s4↔v4=true)))))/\(s4->K (B true) [] r4)/\(¬s4->Y Tryz.prog 64 [A #[S e4 f4 g4,S h4 i4 j4]] r4 fun t4 u4=>∃v4 w4 x4 y4 z4 a5,(fun w13:LL=>∃b5 c5 d5 e5,t4=T #[A #[S v4 w4 x4,S y4 z4 a5],S b5 c5 d5,I Z e5]/\(X base r4 u4->∀f5:Nat,(160<(c5:Int)->K (B true) [] u4)/\(¬160<(c5:Int)->∃(g5:NI)(h5:Nat),g5 h5 [B false,I Z 0,A #[I Z j3,S k3 l3 m3,S n3 o3 p3,S q3 r3 s3,I Z t3,S u3 v3 w3,I Z x3,I Z y3,B z3,S a4 b4 c4,I Z d4,S e4 f4 g4,S h4 i4 j4,B k4,S l4 m4 n4,S o4 p4 q4]] u4/\∀(i5:Nat)(j5:Bool)(k5 l5:Int)(m5:O)(n5 o5:Nat)(p5:O)(q5 r5:Nat)(s5:O)(t5 u5:Nat)(v5:Int)(w5:O)(x5 y5:Nat)(z5 a6:Int)(b6:Bool)(c6:O)(d6 e6:Nat)(f6:Int)(g6:O)(h6 i6:Nat)(j6:O)(k6 l6:Nat)(m6:Bool)(n6:O)(o6 p6:Nat)(q6:O)(r6 s6:Nat)(t6:Heap),(fun w12:LB=>X base H t6->g5 i5 [B j5,I Z k5,A #[I Z l5,S m5 n5 o5,S p5 q5 r5,S s5 t5 u5,I Z v5,S w5 x5 y5,I Z z5,I Z a6,B b6,S c6 d6 e6,I Z f6,S g6 h6 i6,S j6 k6 l6,B m6,S n6 o6 p6,S q6 r6 s6]] t6->(k5<(m4:Int)->∃u6 v6,l4=some (D u6 v6 none)/\0<=k5/\k5<(m4:Int)/\∃(w6:O)(x6 y6:Nat)(z6 a7:Int)(b7:Bool)(c7:Int)(d7:O)(e7 f7:Nat)(g7:Bool)(h7:O)(i7 j7:Nat)(k7:O)(l7 m7:Nat)(n7:Bool),(C t6 u6 (v6+N k5*10)=some (S w6 x6 y6)/\C t6 u6 (v6+N k5*10+1)=some (I Z z6)/\C t6 u6 (v6+N k5*10+2)
 =some (I Z a7)/\C t6 u6 (v6+N k5*10+3)=some (B b7)/\C t6 u6 (v6+N k5*10+4)=some (I Z c7)/\C t6 u6 (v6+N k5*10+5)=some (S d7 e7 f7)/\C t6 u6 (v6+N k5*10+6)=some (B g7)/\C t6 u6 (v6+N k5*10+7)=some (S h7 i7 j7)/\C t6 u6 (v6+N k5*10+8)=some (S k7 l7 m7)/\C t6 u6 (v6+N k5*10+9)=some (B n7)/\True)/\∀o7:Nat,Y Tryz.prog 64 [A #[S h7 i7 j7,S k7 l7 m7]] t6 fun p7 q7=>∃r7 s7 t7 u7 v7 w7 x7 y7 z7 a8,p7=T #[A #[S r7 s7 t7,S u7 v7 w7],S x7 y7 z7,I Z a8]/\(X base t6 q7->∀b8:Nat,(160<(y7:Int)->K (B true) [] q7)/\(¬160<(y7:Int)->∀c8:Int,c8=W Z (k5+1)->w13=w13/\∃d8:Nat,d8<i5/\g5 d8 [B j5,I Z c8,A #[I Z l5,S m5 n5 o5,S p5 q5 r5,S s5 t5 u5,I Z v5,S w5 x5 y5,I Z z5,I Z a6,B b6,S c6 d6 e6,I Z f6,S g6 h6 i6,S j6 k6 l6,B m6,S n6 o6 p6,S q6 r6 s6]] q7)))/\(¬k5<(m4:Int)->∃u6:Prop,((a6=0->true=true/\∀v6:Heap,X 0 t6 v6->v6 n1=some (boxKB 41 [I Z l5,S m5 n5 o5,S p5 q5 r5,S s5 t5 u5,I Z v5,S w5 x5 y5,I Z z5,I Z a6,B b6,S c6 d6 e6,I Z f6,S g6 h6 i6,S j6 k6 l6,B m6,S n6 o6 p6,S q6 r6 s6])/\True->Y Tryz.prog 62 [S n6 o6 p6,Value.func (Fn.func 65) #[] #[P (some (D n1 0 none))]] v6 fun w6 x6=>∃y6,w6=B y6/\∀z6,X base t6 z6->(∀(a7:Nat)(b7:KB),x6 a7=some b7->(∀c7:Bx,c7∈ [J n1 false 41 [I Z l5,S m5 n5 o5,S p5 q5 r5,S s5 t5 u5,I Z v5,S w5 x5 y5,I Z z5,I Z a6,B b6,S c6 d6 e6,I Z f6,S g6 h6 i6,S j6 k6 l6,B m6,S n6 o6 p6,S q6 r6 s6]]->a7≠Bx.b c7)->z6 a7=some b7)->w12=w12/\SubH t6 z6/\(u6↔y6=false))/\(¬a6=0->w12=w12/\SubH t6 t6/\¬u6))/\K (B (@decide u6 (Classical.propDecidable u6))) [] t6)) [J a false 28 [I Z id,S fa fl fc,S ra rl rc,S wa wl wc,I Z bud],J n1 false 41 [I Z l5,S m5 n5 o5,S p5 q5 r5,S s5 t5 u5,I Z v5,S w5 x5 y5,I Z z5,I Z a6,B b6,S c6 d6 e6,I Z f6,S g6 h6 i6,S j6 k6 l6,B m6,S n6 o6 p6,S q6 r6 s6],J p1 false 105 w17,J f5 false 35 [S v4 w4 x4,S y4 z4 a5]]))) [[I Z id,S fa fl fc,S ra rl rc,S wa wl wc,I Z bud],w17,[S v4 w4 x4,S y4 z4 a5]]))) [J a false 28 [I Z id,S fa fl fc,S ra rl rc,S wa wl wc,I Z bud],J n1 false 41 [I Z j3,S
 k3 l3 m3,S n3 o3 p3,S q3 r3 s3,I Z t3,S u3 v3 w3,I Z x3,I Z y3,B z3,S a4 b4 c4,I Z d4,S e4 f4 g4,S h4 i4 j4,B k4,S l4 m4 n4,S o4 p4 q4],J p1 false 105 w17]))) [J a false 28 [I Z id,S fa fl fc,S ra rl rc,S wa wl wc,I Z bud],J n1 false 41 [I Z d,S e g h,S i j k,S l m n,I Z o,S p q r,I Z s,I Z t,B u,S v w x,I Z y,S z a1 b1,S c1 d1 e1,B f1,S g1 h1 i1,S j1 k1 l1]]) [[I Z id,S fa fl fc,S ra rl rc,S wa wl wc,I Z bud],w17]) [Value.func (Fn.func 60) #[] #[P (some (D n1 0 none))]])):=by kernel_rfl
open Go Go.Proofs
theorem vk59(now goal nx:Int)(back:Bool)(la ka:O)(ll lc kl kc:Nat)(xa:O)(xn xc:Nat)(base:Nat)(H:Heap)(K:KT):
 (fV TryzMutsK Tryz.f59 base H [.v (A #[S la ll lc,I Z now,I Z goal,B back,S ka kl kc,I Z nx]),.v (S xa xn xc)] [] K)=(
 ∀a:Nat,K (B true) [] H):=by kernel_rfl
open Go Go.Proofs
theorem vk45f(id bud:Int)(fa ra wa:O)(fl fc rl rc wl wc:Nat)(ha:O)(hl hc:Nat)(base:Nat)(H:Heap)(K:KT):
 (fV TryzMutsK Tryz.f45 base H [.v (A #[I Z id,S fa fl fc,S ra rl rc,S wa wl wc,I Z bud]),.v (S ha hl hc),.v (.func (.func 59) #[] #[])] [] K)=(
 (fun w10:LL=>∀a b:Nat,Y Tryz.prog 26 [A #[I Z id,S fa fl fc,S ra rl rc,S wa wl wc,I Z bud]] H fun c d=>∃(e:Int)(g:O)(h i:Nat)(j:O)(k l:Nat)(m:O)(n o:Nat)(p:Int)(q:O)(r s:Nat)(t u:Int)(v:Bool)(w:O)(x y:Nat)(z:Int)(a1:O)(b1 c1:Nat)(d1:O)(e1 f1:Nat)(g1:Bool)(h1:O)(i1 j1:Nat)(k1:O)(l1 m1:Nat),(fun w9:AV=>∃n1,c=T #[A w9,I Z n1]/\(X base H d->∀o1:Nat,(¬n1=0->K (T #[A w9,B true]) [] d)/\(¬¬n1=0->(0<=if 90<(hl:Int) then 90 else(hl:Int))/\(if 90<(hl:Int) then 90 else(hl:Int))<=(hc:Int)/\∃(p1:NI)(q1:Nat),p1 q1 [B false,I Z 0,A #[I Z 0,S none 0 0,S none 0 0,S none 0 0,I Z 0,S none 0 0,I Z 0,I Z 0,B false,S none 0 0,I Z 0,S none 0 0,S none 0 0,B false,S none 0 0,S none 0 0],A w9] d/\∀(r1:Nat)(s1:Bool)(t1 u1:Int)(v1:O)(w1 x1:Nat)(y1:O)(z1 a2:Nat)(b2:O)(c2 d2:Nat)(e2:Int)(f2:O)(g2 h2:Nat)(i2 j2:Int)(k2:Bool)(l2:O)(m2 n2:Nat)(o2:Int)(p2:O)(q2 r2:Nat)(s2:O)(t2 u2:Nat)(v2:Bool)(w2:O)(x2 y2:Nat)(z2:O)(a3 b3:Nat)(c3:Int)(d3:O)(e3 f3:Nat)(g3:O)(h3 i3:Nat)(j3:O)(k3 l3:Nat)(m3:Int)(n3:O)(o3 p3:Nat)(q3 r3:Int)(s3:Bool)(t3:O)(u3 v3:Nat)(w3:Int)(x3:O)(y3 z3:Nat)(a4:O)(b4 c4:Nat)(d4:Bool)(e4:O)(f4 g4:Nat)(h4:O)(i4 j4:Nat)(k4:Heap),(fun w8:AV=>X base H k4->p1 r1 [B s1,I Z t1,A #[I Z u1,S v1 w1 x1,S y1 z1 a2,S b2 c2 d2,I Z e2,S f2 g2 h2,I Z i2,I Z j2,B k2,S l2 m2 n2,I Z o2,S p2 q2 r2,S s2 t2 u2,B v2,S w2 x2 y2,S z2 a3 b3],A w8] k4->(t1<(↑(N (if 90<(hl:Int) then 90 else(hl:Int))):Int)->∃l4 m4,ha=some (D l4 m4 none)/\0<=t1/\t1<(↑(N (if 90<(hl:Int) then 90 else(hl:Int))):Int)/\∃(n4 o4 p4:Int)(q4:Bool)(r4:O)(s4 t4:Nat),(C k4 l4 (m4+N t1*5)=some (I Z n4)/\C k4 l4 (m4+N t1*5+1)=some (I Z o4)/\C k4 l4 (m4+N t1*5+2)=some (I Z p4)/\C k4 l4 (m4+N t1*5+3)=some (B q4)/\C k4 l4 (m4+N t1*5+4)=some (S r4 s4 t4)/\True)/\∀u4:Nat,Y Tryz.prog 27 [A w8,A #[I Z n4,I Z o4,I Z p4,B q4,S r4 s4 t4]] k4 fun v4 w4=>∃x4 y4 z4 a5 b5 c5 d5 e5 f5 g5 h5 i5 j5 k5 l5 m5 n5 o5 p5 q5 r5 s5 t5 u5
 v5 w5 x5 y5 z5 a6 b6 c6 d6 e6 f6,v4=T #[A #[I Z x4,S y4 z4 a5,S b5 c5 d5,S e5 f5 g5,I Z h5,S i5 j5 k5,I Z l5,I Z m5,B n5,S o5 p5 q5,I Z r5,S s5 t5 u5,S v5 w5 x5,B y5,S z5 a6 b6,S c6 d6 e6],I Z f6]/\(X base k4 w4->∀g6:Nat,(f6=0->Y Tryz.prog 133 [A #[I Z x4,S y4 z4 a5,S b5 c5 d5,S e5 f5 g5,I Z h5,S i5 j5 k5,I Z l5,I Z m5,B n5,S o5 p5 q5,I Z r5,S s5 t5 u5,S v5 w5 x5,B y5,S z5 a6 b6,S c6 d6 e6]] w4 fun h6 i6=>∃j6 k6 l6 m6 n6 o6 p6 q6 r6 s6 t6 u6 v6 w6,h6=T #[A #[S j6 k6 l6,I Z m6,I Z n6,B o6,S p6 q6 r6,I Z s6],S t6 u6 v6,B w6]/\(X base w4 i6->∀x6:Nat,(fun w7:LB=>∃y6:Prop,((w6=false->w7=w7/\SubH i6 i6/\y6)/\(¬w6=false->Y Tryz.prog 59 [A #[S j6 k6 l6,I Z m6,I Z n6,B o6,S p6 q6 r6,I Z s6],S t6 u6 v6] i6 fun z6 a7=>∃b7,z6=B b7/\(X base i6 a7->w7=w7/\SubH i6 a7/\(y6↔b7=false))))/\(y6->K (T #[A #[I Z x4,S y4 z4 a5,S b5 c5 d5,S e5 f5 g5,I Z h5,S i5 j5 k5,I Z l5,I Z m5,B n5,S o5 p5 q5,I Z r5,S s5 t5 u5,S v5 w5 x5,B y5,S z5 a6 b6,S c6 d6 e6],B false]) [] i6)/\(¬y6->∀z6:Int,z6=W Z (t1+1)->w10=w10/\∃a7:Nat,a7<r1/\p1 a7 [B s1,I Z z6,A #[I Z u1,S v1 w1 x1,S y1 z1 a2,S b2 c2 d2,I Z e2,S f2 g2 h2,I Z i2,I Z j2,B k2,S l2 m2 n2,I Z o2,S p2 q2 r2,S s2 t2 u2,B v2,S w2 x2 y2,S z2 a3 b3],A #[I Z x4,S y4 z4 a5,S b5 c5 d5,S e5 f5 g5,I Z h5,S i5 j5 k5,I Z l5,I Z m5,B n5,S o5 p5 q5,I Z r5,S s5 t5 u5,S v5 w5 x5,B y5,S z5 a6 b6,S c6 d6 e6]] i6)) [J a false 28 [I Z id,S fa fl fc,S ra rl rc,S wa wl wc,I Z bud],J b false 41 [I Z u1,S v1 w1 x1,S y1 z1 a2,S b2 c2 d2,I Z e2,S f2 g2 h2,I Z i2,I Z j2,B k2,S l2 m2 n2,I Z o2,S p2 q2 r2,S s2 t2 u2,B v2,S w2 x2 y2,S z2 a3 b3],J o1 false 41 [I Z x4,S y4 z4 a5,S b5 c5 d5,S e5 f5 g5,I Z h5,S i5 j5 k5,I Z l5,I Z m5,B n5,S o5 p5 q5,I Z r5,S s5 t5 u5,S v5 w5 x5,B y5,S z5 a6 b6,S c6 d6 e6],J u4 false 62 [I Z n4,I Z o4,I Z p4,B q4,S r4 s4 t4],J g6 false 41 [I Z x4,S y4 z4 a5,S b5 c5 d5,S e5 f5 g5,I Z h5,S i5 j5 k5,I Z l5,I Z m5,B n5,S o5 p5 q5,I Z r5,S s5 t5 u5,S v5 w5 x5,B y5,S z5 a6 b6,S c6 d6 e6],J x6 false 32 [S j6 k6 l6,I Z m6,I Z n6,B o6,S p6 q6
 r6,I Z s6]]))/\(¬f6=0->∀h6:Int,h6=W Z (t1+1)->w10=w10/\∃i6:Nat,i6<r1/\p1 i6 [B s1,I Z h6,A #[I Z u1,S v1 w1 x1,S y1 z1 a2,S b2 c2 d2,I Z e2,S f2 g2 h2,I Z i2,I Z j2,B k2,S l2 m2 n2,I Z o2,S p2 q2 r2,S s2 t2 u2,B v2,S w2 x2 y2,S z2 a3 b3],A w8] w4)))/\(¬t1<(↑(N (if 90<(hl:Int) then 90 else(hl:Int))):Int)->Y Tryz.prog 134 [A w8] k4 fun l4 m4=>∃n4,l4=B n4/\(X base k4 m4->K (T #[A w8,B n4]) [] m4))) #[I Z c3,S d3 e3 f3,S g3 h3 i3,S j3 k3 l3,I Z m3,S n3 o3 p3,I Z q3,I Z r3,B s3,S t3 u3 v3,I Z w3,S x3 y3 z3,S a4 b4 c4,B d4,S e4 f4 g4,S h4 i4 j4]))) #[I Z e,S g h i,S j k l,S m n o,I Z p,S q r s,I Z t,I Z u,B v,S w x y,I Z z,S a1 b1 c1,S d1 e1 f1,B g1,S h1 i1 j1,S k1 l1 m1]) [[I Z id,S fa fl fc,S ra rl rc,S wa wl wc,I Z bud]]):=by kernel_rfl
open Go Go.Proofs
noncomputable def TryzMutsN:Muts:=⟨TryzListK,TryzSum,false⟩
theorem TryzvcN{f:FuncId}{fn:Func}(hf: Tryz.prog.funcs[f]?=some fn)(hok:okFn fn=true){args:List Value}(hargs:Nat.ble args.length fn.ntmps=true){H:Heap}(Q:Value->Heap->Prop){sv:List SV}(hsv:args.map SV.v=sv)
  {F:Nat->(Value->List (List Value)->Heap->Prop)->Prop} (hv:∀base K,funV ⟨Tryz.prog,fn.ntmps,TryzMutsN,base,H⟩ (bodyOf fn) fn.results.toList sv [] K=F base K)
  (h:∀base,(∀b k,H b=some k->b<base)->F base (fun v _ H'=>Q v H')):Spec Tryz.prog f args H Q:=
 spec_of (muts:= TryzMutsN) (TryzsumK false) hf (body_some hok) rfl Tryzmixed (ops_ok hok) (Nat.le_of_ble_eq_true hargs) fun base hb=>by
  rw[hsv,hv base]
  exact h base hb
open Go Go.Proofs
theorem vk133(id bud:Int)(fa ra wa:O)(fl fc rl rc wl wc:Nat)(now goal nx:Int)(back:Bool)(la ka:O)(ll lc kl kc:Nat)(sa ta:O)(sl sc tl tc:Nat)(up:Bool)(na ma:O)(nl nc ml mc:Nat)(base:Nat)(H:Heap)(K:KT):
 (fV TryzMutsN Tryz.f133 base H [.v (A #[I Z id,S fa fl fc,S ra rl rc,S wa wl wc,I Z bud,S la ll lc,I Z now,I Z goal,B back,S ka kl kc,I Z nx,S sa sl sc,S ta tl tc,B up,S na nl nc,S ma ml mc])] [] K)=(
 ∀a b:Nat,Y Tryz.prog 64 [A #[S sa sl sc,S ta tl tc]] H fun c d=>∃e g h i j k l m n o,c=T #[A #[S e g h,S i j k],S l m n,I Z o]/\(X base H d->∀p:Nat,Y Tryz.prog 66 [A #[I Z id,S fa fl fc,S ra rl rc,S wa wl wc,I Z bud],S l m n] d fun q r=>∃s t u v w x y z a1 b1,(fun w6:AV=>(fun w5:LL=>∃c1,q=T #[A #[S s t u,I Z v,I Z w,B x,S y z a1,I Z b1],I Z c1]/\(X base d r->∀d1:Nat,∃(e1:NI)(f1:Nat),e1 f1 [S none 0 0,B false,S none 0 0,I Z 0,A #[S none 0 0,I Z 0,I Z 0,B false,S none 0 0,I Z 0]] r/\∀(g1:Nat)(h1:O)(i1 j1:Nat)(k1:Bool)(l1:O)(m1 n1:Nat)(o1:Int)(p1:O)(q1 r1:Nat)(s1 t1:Int)(u1:Bool)(v1:O)(w1 x1:Nat)(y1:Int)(z1:Heap),(fun w4:AV=>X base H z1->e1 g1 [S h1 i1 j1,B k1,S l1 m1 n1,I Z o1,A w4] z1->(o1<(nl:Int)->∃a2 b2,na=some (D a2 b2 none)/\0<=o1/\o1<(nl:Int)/\∃(c2:O)(d2 e2:Nat)(f2 g2:Int)(h2:Bool)(i2:Int)(j2:O)(k2 l2:Nat)(m2:Bool)(n2:O)(o2 p2:Nat)(q2:O)(r2 s2:Nat)(t2:Bool),(C z1 a2 (b2+N o1*10)=some (S c2 d2 e2)/\C z1 a2 (b2+N o1*10+1)=some (I Z f2)/\C z1 a2 (b2+N o1*10+2)=some (I Z g2)/\C z1 a2 (b2+N o1*10+3)=some (B h2)/\C z1 a2 (b2+N o1*10+4)=some (I Z i2)/\C z1 a2 (b2+N o1*10+5)=some (S j2 k2 l2)/\C z1 a2 (b2+N o1*10+6)=some (B m2)/\C z1 a2 (b2+N o1*10+7)=some (S n2 o2 p2)/\C z1 a2 (b2+N o1*10+8)=some (S q2 r2 s2)/\C z1 a2 (b2+N o1*10+9)=some (B t2)/\True)/\∀u2:Nat,Y Tryz.prog 64 [A #[S n2 o2 p2,S q2 r2 s2]] z1 fun v2 w2=>∃x2 y2 z2 a3 b3 c3 d3 e3 f3 g3,v2=T #[A #[S x2 y2 z2,S a3 b3 c3],S d3 e3 f3,I Z g3]/\(X base z1 w2->∀h3:Nat,Y Tryz.prog 67 [A #[I Z id,S fa fl fc],S d3 e3 f3] w2 fun i3 j3=>∃k3 l3 m3 n3 o3 p3 q3 r3 s3 t3 u3 v3,i3=T #[A #[S k3 l3 m3,I Z n3,I Z o3,B p3,I Z q3,S r3 s3 t3,B u3],I Z v3]/\(X base w2 j3->∀w3:Nat,(¬g3=0->K (T w6) [] j3)/\(¬¬g3=0->(¬v3=0->K (T w6) [] j3)/\(¬¬v3=0->∀x3:Nat,∃y3:List Value,Row base j3 46 7 l1 m1 n1 y3/\(m1+1)*88<=140737488355328/\m1+1<=9223372036854775807/\∀(z3:O)(a4:Nat)(b4:Heap),Grew base j3 b4 l1 n1 z3 a4 (m1+
 1)->Row base b4 46 7 z3 (m1+1) a4 (y3++[S k3 l3 m3,I Z n3,I Z o3,B p3,I Z q3,S r3 s3 t3,B u3])->∀c4:Int,c4=W Z (o1+1)->w5=w5/\∃d4:Nat,d4<g1/\e1 d4 [S h1 i1 j1,B k1,S z3 (m1+1) a4,I Z c4,A w4] b4)))))/\(¬o1<(nl:Int)->(o=0->K (T #[A #[S s t u,I Z v,I Z w,B x,S y z a1,I Z b1],S l1 m1 n1,B (decide (c1=0))]) [] z1)/\(¬o=0->K (T #[A #[S s t u,I Z v,I Z w,B x,S y z a1,I Z b1],S l1 m1 n1,B false]) [] z1))) #[S p1 q1 r1,I Z s1,I Z t1,B u1,S v1 w1 x1,I Z y1])) [[I Z id,S fa fl fc,S ra rl rc,S wa wl wc,I Z bud,S la ll lc,I Z now,I Z goal,B back,S ka kl kc,I Z nx,S sa sl sc,S ta tl tc,B up,S na nl nc,S ma ml mc],[S e g h,S i j k],[S s t u,I Z v,I Z w,B x,S y z a1,I Z b1]]) #[A #[S s t u,I Z v,I Z w,B x,S y z a1,I Z b1],S none 0 0,B false])):=by kernel_rfl
open Go Go.Proofs
theorem vk134(id bud:Int)(fa ra wa:O)(fl fc rl rc wl wc:Nat)(now goal nx:Int)(back:Bool)(la ka:O)(ll lc kl kc:Nat)(sa ta:O)(sl sc tl tc:Nat)(up:Bool)(na ma:O)(nl nc ml mc:Nat)(base:Nat)(H:Heap)(K:KT):
 (fV TryzMutsK Tryz.f134 base H [.v (A #[I Z id,S fa fl fc,S ra rl rc,S wa wl wc,I Z bud,S la ll lc,I Z now,I Z goal,B back,S ka kl kc,I Z nx,S sa sl sc,S ta tl tc,B up,S na nl nc,S ma ml mc])] [] K)=(
 (fun w5:LV=>∀a:Nat,Y Tryz.prog 133 w5 H fun b c=>∃d e g h i j k l m n o p q r,b=T #[A #[S d e g,I Z h,I Z i,B j,S k l m,I Z n],S o p q,B r]/\(X base H c->∀s:Nat,Y Tryz.prog 17 w5 c fun t u=>∃v w x y z a1 b1 c1 d1 e1,(fun w4:LL=>∃f1,t=T #[A #[S v w x,I Z y,I Z z,B a1,S b1 c1 d1,I Z e1],I Z f1]/\(X base c u->∀g1:Nat,(fun w3:LB=>∃h1:Prop,((r=false->w3=w3/\SubH u u/\h1)/\(¬r=false->(¬f1=0->w3=w3/\SubH u u/\h1)/\(¬¬f1=0->Y Tryz.prog 36 [A #[S d e g,I Z h,I Z i,B j,S k l m,I Z n],A #[S v w x,I Z y,I Z z,B a1,S b1 c1 d1,I Z e1]] u fun i1 j1=>∃k1,i1=B k1/\(X base u j1->w3=w3/\SubH u j1/\(h1↔k1=false)))))/\(h1->K (B false) [] u)/\(¬h1->∃(i1:NI)(j1:Nat),i1 j1 [B false,I Z 0] u/\∀(k1:Nat)(l1:Bool)(m1:Int)(n1:Heap),X base H n1->i1 k1 [B l1,I Z m1] n1->(m1<(p:Int)->∃o1 p1,o=some (D o1 p1 none)/\0<=m1/\m1<(p:Int)/\∃(q1:O)(r1 s1:Nat)(t1 u1:Int)(v1:Bool)(w1:Int)(x1:O)(y1 z1:Nat)(a2:Bool),(C n1 o1 (p1+N m1*7)=some (S q1 r1 s1)/\C n1 o1 (p1+N m1*7+1)=some (I Z t1)/\C n1 o1 (p1+N m1*7+2)=some (I Z u1)/\C n1 o1 (p1+N m1*7+3)=some (B v1)/\C n1 o1 (p1+N m1*7+4)=some (I Z w1)/\C n1 o1 (p1+N m1*7+5)=some (S x1 y1 z1)/\C n1 o1 (p1+N m1*7+6)=some (B a2)/\True)/\∀b2:Nat,Y Tryz.prog 18 [A #[I Z id,S fa fl fc,S ra rl rc,S wa wl wc,I Z bud,S la ll lc,I Z now,I Z goal,B back,S ka kl kc,I Z nx,S sa sl sc,S ta tl tc,B up,S na nl nc,S ma ml mc],I Z m1] n1 fun c2 d2=>∃e2 f2 g2 h2 i2 j2 k2 l2 m2 n2 o2 p2,c2=T #[A #[S e2 f2 g2,I Z h2,I Z i2,B j2,I Z k2,S l2 m2 n2,B o2],I Z p2]/\(X base n1 d2->∀q2:Nat,(fun w2:LB=>∃r2:Prop,((¬p2=0->w2=w2/\SubH d2 d2/\r2)/\(¬¬p2=0->Y Tryz.prog 38 [A #[S q1 r1 s1,I Z t1,I Z u1,B v1,I Z w1,S x1 y1 z1,B a2],A #[S e2 f2 g2,I Z h2,I Z i2,B j2,I Z k2,S l2 m2 n2,B o2]] d2 fun s2 t2=>∃u2,s2=B u2/\(X base d2 t2->w2=w2/\SubH d2 t2/\(r2↔u2=false))))/\(r2->K (B false) [] d2)/\(¬r2->∀s2:Int,s2=W Z (m1+1)->w4=w4/\∃t2:Nat,t2<k1/\i1 t2 [B l1,I Z s2] d2)) [J a false 41 [I Z id,S fa fl fc,S ra rl rc,S wa wl
 wc,I Z bud,S la ll lc,I Z now,I Z goal,B back,S ka kl kc,I Z nx,S sa sl sc,S ta tl tc,B up,S na nl nc,S ma ml mc],J s false 32 [S d e g,I Z h,I Z i,B j,S k l m,I Z n],J g1 false 32 [S v w x,I Z y,I Z z,B a1,S b1 c1 d1,I Z e1],J b2 false 46 [S q1 r1 s1,I Z t1,I Z u1,B v1,I Z w1,S x1 y1 z1,B a2],J q2 false 46 [S e2 f2 g2,I Z h2,I Z i2,B j2,I Z k2,S l2 m2 n2,B o2]]))/\(¬m1<(p:Int)->K (B true) [] n1))) [J a false 41 [I Z id,S fa fl fc,S ra rl rc,S wa wl wc,I Z bud,S la ll lc,I Z now,I Z goal,B back,S ka kl kc,I Z nx,S sa sl sc,S ta tl tc,B up,S na nl nc,S ma ml mc],J s false 32 [S d e g,I Z h,I Z i,B j,S k l m,I Z n],J g1 false 32 [S v w x,I Z y,I Z z,B a1,S b1 c1 d1,I Z e1]])) [[I Z id,S fa fl fc,S ra rl rc,S wa wl wc,I Z bud,S la ll lc,I Z now,I Z goal,B back,S ka kl kc,I Z nx,S sa sl sc,S ta tl tc,B up,S na nl nc,S ma ml mc],[S d e g,I Z h,I Z i,B j,S k l m,I Z n],[S v w x,I Z y,I Z z,B a1,S b1 c1 d1,I Z e1]])) [A #[I Z id,S fa fl fc,S ra rl rc,S wa wl wc,I Z bud,S la ll lc,I Z now,I Z goal,B back,S ka kl kc,I Z nx,S sa sl sc,S ta tl tc,B up,S na nl nc,S ma ml mc]]):=by kernel_rfl
open Go Go.Proofs
theorem Sl.nodeD{H H':Heap}{a:O}{n:Nat}{xs:List Nod}(h:Nods H a n xs)(e:Ext H H'){k:Int}(h0:0<=k)(h1:k<n){F:O->Nat->Nat->O->Nat->Nat->Prop}
  (hF:∀x q,xs[k.toNat]?=some x->NodAt H x q->F q.ua q.ul q.uc q.va q.vl q.vc):
  ∃(b o:Nat),a=some ⟨b,o,none⟩/\0<=k/\k<n/\∃(a2:O)(n7 c2:Nat)(a3:O)(n8 c3:Nat),
   (H'.cell b (o+k.toNat*10+7)=some (.slice a2 n7 c2)/\H'.cell b (o+k.toNat*10+7+1)=some (.slice a3 n8 c3)/\True)/\F a2 n7 c2 a3 n8 c3:=by
 obtain⟨b,o,r,x,ha,hx,hr,hc⟩:=h.get h0 h1
 obtain⟨q,rfl,hq⟩:=hr
 have g:∀j v,(nodCells x q)[j]?=some v->H'.cell b (o+k.toNat*10+j)=some v:=fun j v hj=>Heap.cell_next e (hc j v hj)
 exact⟨b,o,ha,h0,h1,_,_,_,_,_,_,⟨g 7 _ rfl,g 8 _ rfl,trivial⟩,hF x q hx hq⟩
def stoL(w:Wld):Except Int Ldr:=if wldErr w≠0 then .error (wldErr w) else ledReplay w.c (dskRecs w.h.d)
def stoA(w:Wld)(k:Int):Except Int Agt:=if wldErr w≠0 then .error (wldErr w) else if k<0 then .error 5 else match w.n[k.toNat]? with
 |none=> .error 5
 |some n=>agtReplay w.c.first (dskRecs n.d)
theorem lgErr_zero{d:Dsk}{up:Bool}(h:lgErr d up=0):dskErr d=0:=by
 unfold lgErr at h
 split at h
 ·omega
 ·omega
theorem nodsErr_mem{f:Rls} :∀ {ns:List Nod} {k:Nat} {n:Nod},nodsErr f ns=0->ns[k]?=some n->nodErr f n=0
 | [],_,_,_,h=>by simp at h
 |x::q,k,n,h0,h=>by
  unfold nodsErr at h0
  split at h0
  ·omega
  ·cases k with
   |zero=>simp at h;subst h;omega
   |succ k=>exact nodsErr_mem h0 (by simpa using h)
theorem wldErr_disks{w:Wld}(h:wldErr w=0):dskErr w.h.d=0/\∀(k:Nat)(n:Nod),w.n[k]?=some n->dskErr n.d=0:=by
 have key:hedErr w.c w.h=0/\nodsErr w.c.first w.n=0:=by
  unfold wldErr at h
  split at h
  ·omega
  ·split at h
   ·omega
   ·split at h
    ·omega
    ·split at h
     ·omega
     ·split at h
      ·omega
      ·exact⟨by omega,h⟩
 refine⟨?_,fun k n hn=> ?_⟩
 ·have:=key.1
  unfold hedErr at this
  rw[logOf_lg] at this
  by_cases hz:lgErr w.h.d w.h.up=0
  ·exact lgErr_zero hz
  ·rw[if_pos hz] at this;exact absurd this hz
 ·have:=nodsErr_mem key.2 hn
  unfold nodErr at this
  rw[logOf_lg] at this
  by_cases hz:lgErr n.d n.up=0
  ·exact lgErr_zero hz
  ·rw[if_pos hz] at this;exact absurd this hz
section
variable {H : Heap} (hL : Lb H)
include hL
theorem cStoryLeader{w:Wld}{p:WA}(hw:WldAt H w p):Spec Tryz.prog 17 [wldArg w p] H fun v H'=>∃la ll lc ka kl kc,v= .tuple #[ldrArg (okLd (stoL w)) la ll lc ka kl kc,i64 (errOf (stoL w))]/\LdrAt H' (okLd (stoL w)) la ll ka kl:=by
 refine TryzvcJ Tryz.func17 (by kernel_rfl) (by kernel_rfl) _ rfl (fun base K=>vx17 w.c.first.id w.c.bud p.fa p.ra p.wa p.fl p.fc p.rl p.rc p.wl p.wc w.h.l.now w.h.l.goal w.h.l.nx w.h.l.back p.la p.ka p.ll p.lc p.kl p.kc p.sa p.ta p.sl p.sc p.tl p.tc w.h.up p.na p.ma p.nl p.nc p.ml p.mc base H K) fun base hb=>fun b b'=> ?_
 refine(cCheck hL hw).int1 fun H1 e1 hN1=>⟨fun h=> ?_,fun h=> ?_⟩
 ·have e:stoL w= .error (wldErr w):=by unfold stoL;rw[if_pos h]
  rw[e]
  exact⟨none,0,0,none,0,0,rfl,⟨Sl.nil,Sl.nil⟩⟩
 have h:=Decidable.not_not.1 h
 have e:stoL w=ledReplay w.c (dskRecs w.h.d):=by unfold stoL;rw[if_neg (by omega)]
 rw[e]
 refine(cRecover (hL.ext e1) (hw.dsk.ext e1)).mono fun v H2 e2 hv=> ?_
 obtain⟨a1,n1,c1,a2,n2,c2,a3,n3,c3,G,rows,hv,hD,hS⟩:=hv
 refine⟨_,_,_,_,_,_,_,_,_,_,hv,fun hN2=>fun b2=> ?_⟩
 have hR:=hS.sl RRec.mono (by omega) hN2
 rw[if_pos (wldErr_disks h).1] at hR
 refine(cReplayL (hw.cfg.ext (Ext.trans e1 e2)) hR).ldr fun la ll lc ka kl kc H3 e3 hN3 hLd=> ?_
 exact⟨la,ll,lc,ka,kl,kc,rfl,hLd⟩
theorem cStoryAgent{w:Wld}{p:WA}(hw:WldAt H w p)(k:Int):Spec Tryz.prog 18 [wldArg w p,.int .i64 k] H fun v H'=>∃a n c ga gn gc,v= .tuple #[agtArg (okA (stoA w k)) a n c ga gn gc,i64 (errOf (stoA w k))]/\Pins H' a n (okA (stoA w k)).lock/\Pins H' ga gn (okA (stoA w k)).goal.lock:=by
 refine TryzvcJ Tryz.func18 (by kernel_rfl) (by kernel_rfl) _ rfl (fun base K=>vx18 w.c.first.id w.c.bud p.fa p.ra p.wa p.fl p.fc p.rl p.rc p.wl p.wc w.h.l.now w.h.l.goal w.h.l.nx w.h.l.back p.la p.ka p.ll p.lc p.kl p.kc p.sa p.ta p.sl p.sc p.tl p.tc w.h.up p.na p.ma p.nl p.nc p.ml p.mc k base H K) fun base hb=>fun b b'=> ?_
 have hnl:=hw.nod.len
 refine(cCheck hL hw).int1 fun H1 e1 hN1=>⟨fun h=> ?_,fun h=> ?_⟩
 ·have e:stoA w k= .error (wldErr w):=by unfold stoA;rw[if_pos h]
  rw[e]
  exact⟨none,0,0,none,0,0,rfl,Sl.nil,Sl.nil⟩
 have h:=Decidable.not_not.1 h
 refine⟨k<0∨(p.nl:Int)<=k,⟨fun h0=>⟨rfl,subH,.inl h0⟩,fun h0=>⟨rfl,subH,⟨fun h=>h.resolve_left h0,fun h=> .inr h⟩⟩⟩,fun h2=> ?_,fun h2=> ?_⟩
 ·have e:stoA w k= .error 5:=by
   unfold stoA
   rw[if_neg (by omega)]
   by_cases h0:k<0
   ·rw[if_pos h0]
   ·rw[if_neg h0,List.getElem?_eq_none (by omega)]
  rw[e]
  exact⟨none,0,0,none,0,0,rfl,Sl.nil,Sl.nil⟩
 ·refine hw.nod.nodeD e1 (by omega) (by omega) fun x q hx hq=> ?_
  have e:stoA w k=agtReplay w.c.first (dskRecs x.d):=by
   unfold stoA
   rw[if_neg (by omega),if_neg (by omega),hx]
  rw[e]
  refine(cRecover (hL.ext e1) (hq.dsk.ext e1)).mono fun v H2 e2 hv=> ?_
  obtain⟨a1,n1,c1,a2,n2,c2,a3,n3,c3,G,rows,hv,hD,hS⟩:=hv
  refine⟨_,_,_,_,_,_,_,_,_,_,hv,fun hN2=>fun b2=> ?_⟩
  have hR:=hS.sl RRec.mono (by omega) hN2
  rw[if_pos ((wldErr_disks h).2 _ x hx)] at hR
  refine(cReplay (hw.cfg.pins.ext' (Ext.trans e1 e2)) hR).agt fun ya yl yc za zl zc H3 e3 hN3 hA hB=> ?_
  exact⟨ya,yl,yc,za,zl,zc,rfl,hA,hB⟩
end
open Go Go.Proofs
theorem vk26(id bud:Int)(fa ra wa:O)(fl fc rl rc wl wc:Nat)(base:Nat)(H:Heap)(K:KT):
 (fV TryzMutsK Tryz.f26 base H [.v (A #[I Z id,S fa fl fc,S ra rl rc,S wa wl wc,I Z bud])] [] K)=(
 (fun w6:LV=>∀a b:Nat,Y Tryz.prog 86 w6 H fun c d=>∃e g h i j k l m n o,(fun w5:LL=>∃p,c=T #[A #[S e g h,I Z i,I Z j,B k,S l m n,I Z o],I Z p]/\(X base H d->∀q:Nat,(¬p=0->K (T #[A #[I Z 0,S none 0 0,S none 0 0,S none 0 0,I Z 0,S none 0 0,I Z 0,I Z 0,B false,S none 0 0,I Z 0,S none 0 0,S none 0 0,B false,S none 0 0,S none 0 0],I Z p]) [] d)/\(¬¬p=0->(Y Tryz.prog 87 w6 d fun r s=>∃t u v w x y z a1 b1 c1 d1,r=A #[I Z t,S u v w,S x y z,S a1 b1 c1,I Z d1]/\(X base d s->∀e1:Nat,Y Tryz.prog 88 w6 s fun f1 g1=>∃h1,f1=I Z h1/\(X base s g1->∃(i1:NI)(j1:Nat),i1 j1 [I Z 0,A #[I Z t,S u v w,S x y z,S a1 b1 c1,I Z d1,S e g h,I Z i,I Z j,B k,S l m n,I Z o,S none 0 0,S none 0 0,B true,S none 0 0,S none 0 0]] g1/\∀(k1:Nat)(l1 m1:Int)(n1:O)(o1 p1:Nat)(q1:O)(r1 s1:Nat)(t1:O)(u1 v1:Nat)(w1:Int)(x1:O)(y1 z1:Nat)(a2 b2:Int)(c2:Bool)(d2:O)(e2 f2:Nat)(g2:Int)(h2:O)(i2 j2:Nat)(k2:O)(l2 m2:Nat)(n2:Bool)(o2:O)(p2 q2:Nat)(r2:O)(s2 t2:Nat)(u2:Heap),(fun w3:AV=>X base H u2->i1 k1 [I Z l1,A w3] u2->(l1<h1->Y Tryz.prog 89 [A #[I Z id,S fa fl fc]] u2 fun v2 w2=>∃x2 y2 z2 a3 b3 c3 d3 e3 f3 g3 h3 i3,v2=T #[A #[S x2 y2 z2,I Z a3,I Z b3,B c3,I Z d3,S e3 f3 g3,B h3],I Z i3]/\(X base u2 w2->∀j3 k3:Nat,∃l3:List Value,Row base w2 58 10 o2 p2 q2 l3/\(p2+1)*144<=140737488355328/\p2+1<=9223372036854775807/\∀(m3:O)(n3:Nat)(o3:Heap),Grew base w2 o3 o2 q2 m3 n3 (p2+1)->Row base o3 58 10 m3 (p2+1) n3 (l3++[S x2 y2 z2,I Z a3,I Z b3,B c3,I Z d3,S e3 f3 g3,B h3,S none 0 0,S none 0 0,B true])->∀p3:Int,p3=W Z (l1+1)->w5=w5/\∃q3:Nat,q3<k1/\i1 q3 [I Z p3,A #[I Z m1,S n1 o1 p1,S q1 r1 s1,S t1 u1 v1,I Z w1,S x1 y1 z1,I Z a2,I Z b2,B c2,S d2 e2 f2,I Z g2,S h2 i2 j2,S k2 l2 m2,B n2,S m3 (p2+1) n3,S r2 s2 t2]] o3))/\(¬l1<h1->K (T #[A w3,I Z 0]) [] u2)) #[I Z m1,S n1 o1 p1,S q1 r1 s1,S t1 u1 v1,I Z w1,S x1 y1 z1,I Z a2,I Z b2,B c2,S d2 e2 f2,I Z g2,S h2 i2 j2,S k2 l2 m2,B n2,S o2 p2 q2,S r2 s2 t2])))/\∀r:Nat,Y Tryz.prog 87 w6 d fun s t=>∃u v w x y z a1 b1 c1 d1 e1,s=
 A #[I Z u,S v w x,S y z a1,S b1 c1 d1,I Z e1]/\(X base d t->Y Tryz.prog 88 w6 t fun f1 g1=>∃h1,f1=I Z h1/\(X base t g1->∃(i1:NI)(j1:Nat),i1 j1 [I Z 0,A #[I Z u,S v w x,S y z a1,S b1 c1 d1,I Z e1,S e g h,I Z i,I Z j,B k,S l m n,I Z o,S none 0 0,S none 0 0,B true,S none 0 0,S none 0 0]] g1/\∀(k1:Nat)(l1 m1:Int)(n1:O)(o1 p1:Nat)(q1:O)(r1 s1:Nat)(t1:O)(u1 v1:Nat)(w1:Int)(x1:O)(y1 z1:Nat)(a2 b2:Int)(c2:Bool)(d2:O)(e2 f2:Nat)(g2:Int)(h2:O)(i2 j2:Nat)(k2:O)(l2 m2:Nat)(n2:Bool)(o2:O)(p2 q2:Nat)(r2:O)(s2 t2:Nat)(u2:Heap),(fun w4:AV=>X base H u2->i1 k1 [I Z l1,A w4] u2->(l1<h1->Y Tryz.prog 89 [A #[I Z id,S fa fl fc]] u2 fun v2 w2=>∃x2 y2 z2 a3 b3 c3 d3 e3 f3 g3 h3 i3,v2=T #[A #[S x2 y2 z2,I Z a3,I Z b3,B c3,I Z d3,S e3 f3 g3,B h3],I Z i3]/\(X base u2 w2->∀j3 k3:Nat,∃l3:List Value,Row base w2 58 10 o2 p2 q2 l3/\(p2+1)*144<=140737488355328/\p2+1<=9223372036854775807/\∀(m3:O)(n3:Nat)(o3:Heap),Grew base w2 o3 o2 q2 m3 n3 (p2+1)->Row base o3 58 10 m3 (p2+1) n3 (l3++[S x2 y2 z2,I Z a3,I Z b3,B c3,I Z d3,S e3 f3 g3,B h3,S none 0 0,S none 0 0,B true])->∀p3:Int,p3=W Z (l1+1)->w5=w5/\∃q3:Nat,q3<k1/\i1 q3 [I Z p3,A #[I Z m1,S n1 o1 p1,S q1 r1 s1,S t1 u1 v1,I Z w1,S x1 y1 z1,I Z a2,I Z b2,B c2,S d2 e2 f2,I Z g2,S h2 i2 j2,S k2 l2 m2,B n2,S m3 (p2+1) n3,S r2 s2 t2]] o3))/\(¬l1<h1->K (T #[A w4,I Z 0]) [] u2)) #[I Z m1,S n1 o1 p1,S q1 r1 s1,S t1 u1 v1,I Z w1,S x1 y1 z1,I Z a2,I Z b2,B c2,S d2 e2 f2,I Z g2,S h2 i2 j2,S k2 l2 m2,B n2,S o2 p2 q2,S r2 s2 t2]))))) [[I Z id,S fa fl fc,S ra rl rc,S wa wl wc,I Z bud],[I Z 0,S none 0 0,S none 0 0,S none 0 0,I Z 0,S none 0 0,I Z 0,I Z 0,B false,S none 0 0,I Z 0,S none 0 0,S none 0 0,B false,S none 0 0,S none 0 0],[S e g h,I Z i,I Z j,B k,S l m n,I Z o]]) [A #[I Z id,S fa fl fc,S ra rl rc,S wa wl wc,I Z bud]]):=by kernel_rfl
theorem vk74(e:Int)(base:Nat)(H:Heap)(K:KT):
 (fV TryzMutsK Tryz.f74 base H [.v (I Z e)] [] K)=(
 K (B (decide ¬e=0)) [] H):=by kernel_rfl
theorem vk98a(a:O)(l c:Nat)(base:Nat)(H:Heap)(K:KT):
 (fV TryzMutsK Tryz.f98 base H [.v (S a l c),.v (.func (.func 74) #[] #[])] [] K)=(
 ∃(b:NI)(d:Nat),b d [I Z 0,I Z 0] H/\∀(e:Nat)(g h:Int)(i:Heap),X base H i->b e [I Z g,I Z h] i->(h<(l:Int)->∃j k,a=some (D j k none)/\0<=h/\h<(l:Int)/\∃m,C i j (k+N h*1)=some (I Z m)/\Y Tryz.prog 74 [I Z m] i fun n o=>∃p,n=B p/\(X base i o->(p=true->K (I Z h) [] o)/\(p=false->∀q:Int,q=W Z (h+1)->∃r:Nat,r<e/\b r [I Z g,I Z q] o)))/\(¬h<(l:Int)->K (I Z (-1)) [] i)):=by kernel_rfl
theorem vk73a(a:O)(l c:Nat)(base:Nat)(H:Heap)(K:KT):
 (fV TryzMutsK Tryz.f73 base H [.v (S a l c),.v (.func (.func 74) #[] #[])] [] K)=(
 Y Tryz.prog 98 [S a l c,Value.func (Fn.func 74) #[] #[]] H fun b d=>∃e,b=I Z e/\(X base H d->K (B (decide (0<=e))) [] d)):=by kernel_rfl
theorem vk20(base:Nat)(H:Heap)(K:KT):
 (fV TryzMutsK Tryz.f20 base H [] [] K)=(
 Y Tryz.prog 71 [] H fun a b=>∃c d e g h i j k l m n,a=A #[I Z c,S d e g,S h i j,S k l m,I Z n]/\(X base H b->Y Tryz.prog 26 [A #[I Z c,S d e g,S h i j,S k l m,I Z n]] b fun o p=>∃(q:Int)(r:O)(s t:Nat)(u:O)(v w:Nat)(x:O)(y z:Nat)(a1:Int)(b1:O)(c1 d1:Nat)(e1 f1:Int)(g1:Bool)(h1:O)(i1 j1:Nat)(k1:Int)(l1:O)(m1 n1:Nat)(o1:O)(p1 q1:Nat)(r1:Bool)(s1:O)(t1 u1:Nat)(v1:O)(w1 x1:Nat),(fun w6:AV=>∃y1,o=T #[A w6,I Z y1]/\(X base b p->∀z1:Nat,Y Tryz.prog 72 [] p fun a2 b2=>∃c2 d2 e2 f2,a2=A #[I Z c2,S d2 e2 f2]/\(X base p b2->∀(g2:Nat)(h2:Heap),X base b2 h2->b2 g2=none->h2 g2=some (boxKB 62 [I Z 1,I Z 0,I Z 0,B false,S d2 e2 f2,I Z 2,I Z 0,I Z 2,B false,S none 0 0,I Z 3,I Z 1,I Z 0,B false,S none 0 0,I Z 9,I Z 0,I Z 0,B false,S none 0 0,I Z 7,I Z 1,I Z 0,B false,S none 0 0,I Z 12,I Z 1,I Z 0,B false,S none 0 0,I Z 12,I Z (-1),I Z 0,B false,S none 0 0])->Y Tryz.prog 39 [A w6,S (some (D g2 0 none)) 7 7] h2 fun i2 j2=>∃k2 l2 m2 n2 o2 p2 q2 r2 s2 t2 u2 v2 w2 x2 y2 z2 a3 b3 c3 d3 e3 f3 g3 h3 i3 j3 k3 l3 m3 n3 o3 p3 q3 r3 s3 t3 u3 v3,i2=T #[A #[I Z k2,S l2 m2 n2,S o2 p2 q2,S r2 s2 t2,I Z u2,S v2 w2 x2,I Z y2,I Z z2,B a3,S b3 c3 d3,I Z e3,S f3 g3 h3,S i3 j3 k3,B l3,S m3 n3 o3,S p3 q3 r3],S s3 t3 u3,I Z v3]/\(X base h2 j2->Y Tryz.prog 17 [A #[I Z k2,S l2 m2 n2,S o2 p2 q2,S r2 s2 t2,I Z u2,S v2 w2 x2,I Z y2,I Z z2,B a3,S b3 c3 d3,I Z e3,S f3 g3 h3,S i3 j3 k3,B l3,S m3 n3 o3,S p3 q3 r3]] j2 fun w3 x3=>∃y3 z3 a4 b4 c4 d4 e4 f4 g4 h4 i4,w3=T #[A #[S y3 z3 a4,I Z b4,I Z c4,B d4,S e4 f4 g4,I Z h4],I Z i4]/\(X base j2 x3->∀j4:Nat,Y Tryz.prog 18 [A #[I Z k2,S l2 m2 n2,S o2 p2 q2,S r2 s2 t2,I Z u2,S v2 w2 x2,I Z y2,I Z z2,B a3,S b3 c3 d3,I Z e3,S f3 g3 h3,S i3 j3 k3,B l3,S m3 n3 o3,S p3 q3 r3],I Z 1] x3 fun k4 l4=>∃m4 n4 o4 p4 q4 r4 s4 t4 u4 v4 w4 x4,k4=T #[A #[S m4 n4 o4,I Z p4,I Z q4,B r4,I Z s4,S t4 u4 v4,B w4],I Z x4]/\(X base x3 l4->∀y4:Nat,(fun w5:LB=>∃z4:Prop,((y1=0->(v3=0->(i4=0->(x4=0->Y Tryz.prog 73 [S s3 t3 u3,Value.func (Fn.func 74) #[] #[]] l4
 fun a5 b5=>∃c5,a5=B c5/\(X base l4 b5->(c5=false->(c4=2->∃d5 e5,e4=some (D d5 e5 none)/\Int.ofNat 0<=1/\1<(f4:Int)/\∃f5,C b5 d5 (e5+1*3)=some (I Z f5)/\(f5=1->(r4=true->(q4=1->Y Tryz.prog 75 [S m4 n4 o4,I Z 1] b5 fun g5 h5=>∃i5,g5=I Z i5/\(X base b5 h5->(i5=2->Y Tryz.prog 75 [S m4 n4 o4,I Z 2] h5 fun j5 k5=>∃l5,j5=I Z l5/\(X base h5 k5->w5=w5/\SubH l4 k5/\(z4↔l5=0)))/\(¬i5=2->w5=w5/\SubH l4 h5/\¬z4)))/\(¬q4=1->w5=w5/\SubH l4 b5/\¬z4))/\(r4=false->w5=w5/\SubH l4 b5/\¬z4))/\(¬f5=1->w5=w5/\SubH l4 b5/\¬z4))/\(¬c4=2->w5=w5/\SubH l4 b5/\¬z4))/\(¬c5=false->w5=w5/\SubH l4 b5/\¬z4)))/\(¬x4=0->w5=w5/\SubH l4 l4/\¬z4))/\(¬i4=0->w5=w5/\SubH l4 l4/\¬z4))/\(¬v3=0->w5=w5/\SubH l4 l4/\¬z4))/\(¬y1=0->w5=w5/\SubH l4 l4/\¬z4))/\K (B (@decide z4 (Classical.propDecidable z4))) [] l4) [J z1 false 41 [I Z k2,S l2 m2 n2,S o2 p2 q2,S r2 s2 t2,I Z u2,S v2 w2 x2,I Z y2,I Z z2,B a3,S b3 c3 d3,I Z e3,S f3 g3 h3,S i3 j3 k3,B l3,S m3 n3 o3,S p3 q3 r3],J j4 false 32 [S y3 z3 a4,I Z b4,I Z c4,B d4,S e4 f4 g4,I Z h4],J y4 false 46 [S m4 n4 o4,I Z p4,I Z q4,B r4,I Z s4,S t4 u4 v4,B w4]])))))) #[I Z q,S r s t,S u v w,S x y z,I Z a1,S b1 c1 d1,I Z e1,I Z f1,B g1,S h1 i1 j1,I Z k1,S l1 m1 n1,S o1 p1 q1,B r1,S s1 t1 u1,S v1 w1 x1])):=by kernel_rfl
open Go Go.Proofs
def newW(c:Conf):Wld:=if cfgErr c=0 then freshWld c else noWld
theorem conf_sizes{c:Conf}(h:cfgErr c=0):(c.first.lock.length<=100000/\c.rules.length<=100000/\c.waves.length<=100000/\∀x∈c.waves,x.length<=100000)/\1<=agentsOf c.waves/\agentsOf c.waves<=6:=by
 obtain⟨c1,c2,c3,c4,c5,c6,c7⟩:=cfgErr_zero h
 obtain⟨b1,b2,b3⟩:=brokenErr_zero.1 c5
 obtain⟨w1,w2⟩:=waves_small c7
 have w3:=(waveCheck_zero c7)
 have r:=relErr_zero c1
 refine⟨⟨by omega,by omega,by omega,fun x hx=>by have:=w2 x hx;omega⟩,w3.1,w3.2.1⟩
theorem cNewW{H:Heap}{c:Conf}{fa ra wa:O}{fl fc rl rc wl wc:Nat}(hc:CfgAt H c fa fl ra rl wa wl):
  Spec Tryz.prog 26 [cfgArg c fa fl fc ra rl rc wa wl wc] H fun v H'=>∃p',v= .tuple #[wldArg (newW c) p',i64 (cfgErr c)]/\WldAt H' (newW c) p':=by
 refine TryzvcK Tryz.func26 (by kernel_rfl) (by kernel_rfl) _ rfl (fun base K=>vk26 c.first.id c.bud fa ra wa fl fc rl rc wl wc base H K) fun base hb=>fun b b'=> ?_
 have hNL:=cNewL (fc:=fc) (rc:=rc) (wc:=wc) hc
 by_cases h:cfgErr c=0
 case neg=>
  have hE:newW c=noWld:=by unfold newW;rw[if_neg h]
  rw[hE]
  refine hNL.ldr fun la ll lc ka kl kc H1 e1 hN1 hA=>fun b1=>⟨fun h=> ?_,fun h2=>absurd h h2⟩
  exact⟨noWA,rfl,WldAt.zero⟩
 case pos=>
  have hE:newW c=freshWld c:=by unfold newW;rw[if_pos h]
  rw[hE,h]
  rw[if_pos h,h] at hNL
  refine hNL.ldr fun la ll lc ka kl kc H1 e1 hN1 hA=>fun b1=>⟨fun h2=>absurd rfl h2,fun _=> ?_⟩
  obtain⟨⟨s1,s2,s3,s4⟩,g1,g2⟩:=conf_sizes h
  refine⟨?_,fun b2=> ?_⟩
  all_goals
   refine Spec.cfg1 (cConfigC (hc.ext e1) (by rw[←hc.pins.len];exact s1) (by rw[←hc.rules.len];exact s2) (by rw[←hc.waves.len];exact s3) s4) fun fa' fl' fc' ra' rl' rc' wa' wl' wc' H2 e2 hN2 hC=> ?_
   first
    |refine fun(b3:Nat)=>(cAgents ((hc.ext e1).ext e2)).int1 fun H3 e3 hN3=> ?_
    |refine(cAgents ((hc.ext e1).ext e2)).int1 fun H3 e3 hN3=> ?_
   have hq:relErr c.first=0:=(cfgErr_zero h).1
   obtain⟨N,hNn⟩:∃N:Nat,N=(agentsOf c.waves).toNat:=⟨_,rfl⟩
   have hP:Parts H3 ⟨c,⟨newLdr c,dsk0,true⟩,[],[]⟩ ⟨fa',fl',fc',ra',rl',rc',wa',wl',wc',la,ll,lc,ka,kl,kc,none,0,0,none,0,0,none,0,0,none,0,0⟩:=⟨hC.ext e3,(hA.ext e2).ext e3,DskAt.zero,Sl.nil,Nat.le_refl 0⟩
   refine⟨fun m vs H'=>∃(k:Nat)(a:O)(ca:Nat)(rows:List (List Value))(G:Heap),vs=[.int .i64 k,wldArg ⟨c,⟨newLdr c,dsk0,true⟩,List.replicate k (freshNod c.first),[]⟩ ⟨fa',fl',fc',ra',rl',rc',wa',wl',wc',la,ll,lc,ka,kl,kc,none,0,0,none,0,0,a,k,ca,none,0,0⟩]/\m=N-k/\k<=N/\OwnSl RNod 10 58 base G H' a k ca rows (List.replicate k (freshNod c.first))/\Ext H3 G,N,⟨0,none,0,[],H3,rfl,rfl,by omega,OwnSl.zero (Ext.refl _),Ext.refl _⟩,?_⟩
   intro m n12 n13 a9 n14 c5 a10 n15 c6 a11 n16 c7 n17 a12 n18 c8 n19 n20 b3 a13 n21 c9 n22 a14 n23 c10 a15 n24 c11 b4 a16 n25 c12 a17 n26 c13 H' hNx hI
   obtain⟨k,a,ca,rows,G,hvs,rfl,hkN,hO,eG⟩:=hI
   simp only[List.cons.injEq,Value.slice.injEq,Value.int.injEq,true_and,Value.agg.injEq,Array.mk.injEq,Value.bool.injEq,and_true] at hvs
   obtain⟨rfl,rfl,⟨rfl,rfl,rfl⟩,⟨rfl,rfl,rfl⟩,⟨rfl,rfl,rfl⟩,rfl,⟨rfl,rfl,rfl⟩,rfl,rfl,rfl,⟨rfl,rfl,rfl⟩,rfl,⟨rfl,rfl,rfl⟩,⟨rfl,rfl,rfl⟩,rfl,⟨rfl,rfl,rfl⟩,rfl,rfl,rfl⟩:=hvs
   obtain⟨k,hk⟩:∃k,k=n25:=⟨_,rfl⟩
   subst hk
   refine⟨fun hlt=> ?_,fun hge=> ?_⟩
   ·have hpG:Pins G fa fl c.first.lock:=(((hc.pins.ext' e1).ext' e2).ext' e3).ext' eG
    have hcN:=cNew (c:=fc) (r:=c.first) hpG
    rw[if_pos hq,hq] at hcN
    refine(hcN.grown hO.sub).mono fun v H4 e4 hv=> ?_
    obtain⟨G1,g1,xa,xl,xc,ga,gl,gc,rfl,q1,q2⟩:=hv
    have hO':=hO.grown RNod.mono g1
    refine⟨_,_,_,_,_,_,_,_,_,_,_,_,rfl,fun hN4=>fun b7 b8=>⟨rows.flatten,hO'.row,by omega,by omega,fun a' c' H5 hg hr r hrr=>⟨rfl,N-(k+1),by omega,k+1,a',c',rows++[nodCells (freshNod c.first) ⟨xa,xl,xc,ga,gl,gc,none,0,0,none,0,0⟩],G1,?_,rfl,by omega,?_,Ext.trans eG g1.ext⟩⟩⟩
    ·rw[hrr,wrap_small (by omega) (by omega)];rfl
    ·have hrep:List.replicate (k+1) (freshNod c.first)=List.replicate k (freshNod c.first)++[freshNod c.first]:=List.replicate_succ'
     rw[hrep]
     refine hO'.grew hg (rows':=[nodCells (freshNod c.first) ⟨xa,xl,xc,ga,gl,gc,none,0,0,none,0,0⟩]) (ys:=[freshNod c.first]) (by rw[List.flatten_singleton];exact hr) (by simp) ⟨⟨_,rfl,q1,q2,DskAt.zero⟩,trivial⟩
   ·have hkk:k=N:=by omega
    subst hkk
    have hP':=(hP.ext eG).ext hO.sub
    refine⟨⟨a9,n14,c5,a10,n15,c6,a11,n16,c7,a12,n18,c8,a13,n21,c9,none,0,0,none,0,0,a16,_,c12,none,0,0⟩,rfl,⟨hP'.cfg,hP'.ldr,hP'.dsk,?_,hP'.mail⟩⟩
    show Nods H' _ _ (List.replicate (agentsOf c.waves).toNat (freshNod c.first))
    rw[←hNn]
    exact hO.sl RNod.mono (by omega)
def errIdx(f:Int->Bool):Int->List Int->Int
 |_,[]=> -1
 |i,x::r=>if f x=true then i else errIdx f (i+1) r
theorem errIdx_any(f:Int->Bool):∀(l:List Int)(i:Int),0<=i->(0<=errIdx f i l↔l.any f=true)
 | [],i,_=>by simp[errIdx]
 |x::r,i,h=>by
  unfold errIdx
  split
  ·rename_i e;simp[h,e]
  ·rename_i e;rw[errIdx_any f r (i+1) (by omega)];simp[e]
theorem cNon{H:Heap}(e:Int):Spec Tryz.prog 74 [.int .i64 e] H fun v _=>v= .bool (decide (¬e=0)):=by
 refine TryzvcK Tryz.func74 (by kernel_rfl) (by kernel_rfl) _ rfl (fun base K=>vk74 e base H K) fun base hb=> ?_
 rfl
theorem drop_errs{xs:List Int}{k:Nat}{x:Int}(h:xs[k]?=some x):xs.drop k=x::xs.drop (k+1):=by
 obtain⟨hk,h⟩:=List.getElem?_eq_some_iff.1 h
 rw[List.drop_eq_getElem_cons hk,h]
theorem cAnyNon{H:Heap}{a:O}{l c:Nat}{xs:List Int}(hx:Sl RInt 1 H a l xs):Spec Tryz.prog 73 [.slice a l c,.func (.func 74) #[] #[]] H fun v _=>v= .bool (xs.any fun e=>decide (¬e=0)):=by
 have h98:Spec Tryz.prog 98 [.slice a l c,.func (.func 74) #[] #[]] H fun v _=>v=i64 (errIdx (fun e=>decide (¬e=0)) 0 xs):=by
  refine TryzvcK Tryz.func98 (by kernel_rfl) (by kernel_rfl) _ rfl (fun base K=>vk98a a l c base H K) fun base hb=> ?_
  have hl:=hx.len
  have hle:=hx.le
  refine⟨fun m vs _=>∃(d:Int)(k:Nat),vs=[i64 d,i64 k]/\m=l-k/\k<=l/\errIdx (fun e=>decide (¬e=0)) k (xs.drop k)=errIdx (fun e=>decide (¬e=0)) 0 xs,l,⟨0,0,rfl,rfl,by omega,rfl⟩,fun m d n H' hN hI=> ?_⟩
  obtain⟨d',k,hvs,rfl,hk,hI⟩:=hI
  obtain⟨rfl,rfl⟩:d=d'/\n=(k:Int):=by simpa using hvs
  refine⟨fun hlt=> ?_,fun hge=> ?_⟩
  ·obtain⟨b,o,r,x,ha,hxk,hr,hcell⟩:=hx.get (k:=(k:Int)) (by omega) hlt
   obtain rfl:=hr
   refine⟨b,o,ha,by omega,hlt,_,Heap.cell_next hN.ext (hcell 0 _ rfl),?_⟩
   have hx2:xs[k]?=some x:=by simpa using hxk
   have hdr:=drop_errs hx2
   rw[hdr,errIdx] at hI
   refine(cNon x).bool1 fun H2 e2 _=>⟨fun he=> ?_,fun he=>fun r hr=>⟨l-(k+1),by omega,d,k+1,?_,rfl,by omega,?_⟩⟩
   ·rw[if_pos he] at hI
    rw[hI]
   ·rw[hr,wrap_in (by omega) (by omega)];rfl
   ·rw[if_neg (by rw[he];simp)] at hI
    exact hI
  ·have hkk:k=l:=by omega
   rw[List.drop_eq_nil_of_le (by omega)] at hI
   rw[←hI];rfl
 refine TryzvcK Tryz.func73 (by kernel_rfl) (by kernel_rfl) _ rfl (fun base K=>vk73a a l c base H K) fun base hb=> ?_
 refine h98.int1 fun H1 e1 hN1=> ?_
 have:=errIdx_any (fun e=>decide (¬e=0)) xs 0 (by omega)
 show Value.bool _=Value.bool _
 congr 1
 cases hq:(xs.any fun e=>decide (¬e=0)) with
 |true=>exact decide_eq_true (this.2 hq)
 |false=>exact decide_eq_false fun h0=>by rw[this.1 h0] at hq;cases hq
open Go Go.Proofs
theorem ragt_mono:RAgt.Mono:=fun H H' r x e h=>by
 obtain⟨a,n,c,ga,gn,gc,rfl,h1,h2⟩:=h
 exact⟨a,n,c,ga,gn,gc,rfl,h1.ext' e,h2.ext' e⟩
theorem Logs.sto{w:Wld}{L:Ldr}{A:List Agt}(h:Logs w L A):stoL w= .ok L/\∀(k:Nat)(a:Agt),A[k]?=some a->stoA w k= .ok a:=by
 have h0:=h.ok
 refine⟨by unfold stoL;rw[if_neg (by omega)];exact h.hl,fun k a ha=> ?_⟩
 have hk:=(List.getElem?_eq_some_iff.1 ha).1
 have hl:=h.alen
 obtain⟨n,hn⟩:∃n,w.n[k]?=some n:=⟨_,List.getElem?_eq_getElem (by omega)⟩
 unfold stoA
 rw[if_neg (by omega),if_neg (by omega),Int.toNat_natCast,hn]
 exact(h.nd k n a hn ha).2.1
theorem right_n{H:Heap}{w:Wld}{p:WA}(hw:WldAt H w p)(hR:WRight w):(p.nl:Int)<=6:=by
 have h1:=hw.nod.len
 have h2:=hR.len
 have h3:=(waveCheck_zero (cfgErr_zero hR.cfg).2.2.2.2.2.2).2.1
 omega
theorem cAll{H:Heap}(hL:Lb H){w:Wld}{p:WA}(hw:WldAt H w p){L:Ldr}{A:List Agt}(hg:Logs w L A):
  Spec Tryz.prog 133 [wldArg w p] H fun v H'=>∃la ll lc ka kl kc xa xn xc,v= .tuple #[ldrArg L la ll lc ka kl kc,.slice xa xn xc,.bool true]/\LdrAt H' L la ll ka kl/\Sl RAgt 7 H' xa xn A:=by
 refine TryzvcN Tryz.func133 (by kernel_rfl) (by kernel_rfl) _ rfl (fun base K=>vk133 w.c.first.id w.c.bud p.fa p.ra p.wa p.fl p.fc p.rl p.rc p.wl p.wc w.h.l.now w.h.l.goal w.h.l.nx w.h.l.back p.la p.ka p.ll p.lc p.kl p.kc p.sa p.ta p.sl p.sc p.tl p.tc w.h.up p.na p.ma p.nl p.nc p.ml p.mc base H K) fun base hb=>fun b b1=> ?_
 have hR:=wldErr_zero.1 hg.ok
 refine(cRecover hL hw.dsk).mono fun v H1 e1 hv=> ?_
 obtain⟨a1,n1,c1,a2,n2,c2,a3,n3,c3,G0,rows0,rfl,hD,hS⟩:=hv
 refine⟨_,_,_,_,_,_,_,_,_,_,rfl,fun hN1=>fun b2=> ?_⟩
 have hz:=(wldErr_disks hg.ok).1
 have hRs:=hS.sl RRec.mono (by omega) hN1
 rw[if_pos hz] at hRs
 rw[hz]
 have hrep:=cReplayL (fc:=p.fc) (rc:=p.rc) (wc:=p.wc) (k:=c3) (hw.cfg.ext e1) hRs
 rw[hg.hl] at hrep
 refine hrep.ldr fun la ll lc ka kl kc H2 e2 hN2 hLd=>fun b4=> ?_
 have hL2:=(hL.ext e1).ext e2
 have hw2:=(hw.ext e1).ext e2
 have hnl:=hw.nod.len
 have hal:=hg.alen
 have h6:=right_n hw hR
 refine⟨fun m vs H'=>∃(d:Bool)(xa:O)(i xc:Nat)(rows:List (List Value))(G:Heap),vs=[.slice none 0 0,.bool d,.slice xa i xc,.int .i64 i,.agg #[.slice none 0 0,.int .i64 0,.int .i64 0,.bool false,.slice none 0 0,.int .i64 0]]/\m=p.nl-i/\i<=p.nl/\OwnSl RAgt 7 46 base G H' xa i xc rows (A.take i)/\Ext H2 G,p.nl,⟨false,none,0,0,[],H2,rfl,rfl,by omega,OwnSl.zero (Ext.refl _),Ext.refl _⟩,?_⟩
 intro m a7 n10 c5 b5 a8 n11 c6 n12 a9 n13 c7 n14 n15 b6 a10 n16 c8 n17 H' hNx hI
 obtain⟨d,xa,i,xc,rows,G,hvs,rfl,hi,hO,eG⟩:=hI
 simp only[List.cons.injEq,Value.slice.injEq,Value.int.injEq,true_and,Value.agg.injEq,Array.mk.injEq,Value.bool.injEq,and_true] at hvs
 obtain⟨⟨rfl,rfl,rfl⟩,rfl,⟨rfl,rfl,rfl⟩,rfl,⟨rfl,rfl,rfl⟩,rfl,rfl,rfl,⟨rfl,rfl,rfl⟩,rfl⟩:=hvs
 obtain⟨i,hi2⟩:∃i,i=n11:=⟨_,rfl⟩
 subst hi2
 refine⟨fun hlt=> ?_,fun hge=> ?_⟩
 ·have hin:i<p.nl:=by omega
  obtain⟨b7,o7,r7,x7,ha7,hx7,⟨q7,rfl,hq7⟩,hc7⟩:=(hw2.ext eG).nod.get (k:=(i:Int)) (by omega) hlt
  have c7':∀j v,(nodCells x7 q7)[j]?=some v->H'.cell b7 (o7+(i:Int).toNat*10+j)=some v:=fun j v hj=>Heap.cell_next hO.sub (hc7 j v hj)
  refine⟨b7,o7,ha7,by omega,hlt,_,_,_,_,_,_,_,_,_,_,_,_,_,_,_,_,_,_,⟨c7' 0 _ rfl,c7' 1 _ rfl,c7' 2 _ rfl,c7' 3 _ rfl,c7' 4 _ rfl,c7' 5 _ rfl,c7' 6 _ rfl,c7' 7 _ rfl,c7' 8 _ rfl,c7' 9 _ rfl,trivial⟩,fun b11=> ?_⟩
  rw[Int.toNat_natCast] at hx7
  obtain⟨a,ha⟩:∃a,A[i]?=some a:=⟨_,List.getElem?_eq_getElem (by omega)⟩
  obtain⟨f1,f2,f3⟩:=hg.nd i x7 a hx7 ha
  have hz1:=(wldErr_disks hg.ok).2 i x7 hx7
  refine((cRecover (hL2.ext eG) hq7.dsk).grown hO.sub).mono fun v H3 e3 hv=> ?_
  obtain⟨G1,g1,y1,m1,k1,y2,m2,k2,y3,m3,k3,Gx,rowsx,rfl,hD1,hS1⟩:=hv
  refine⟨_,_,_,_,_,_,_,_,_,_,rfl,fun hN3=>fun b12=> ?_⟩
  have hN1':Vg.Next base G G1:=⟨g1.ext,fun z kz hz hn=>hN3.fresh z kz (g1.sub z kz hz) (g1.away z kz hz hn)⟩
  have hR1:=hS1.sl RRec.mono (by omega) hN1'
  rw[if_pos hz1] at hR1
  rw[hz1]
  have hrp:=cReplay (c:=p.fc) (c':=k3) (((hw2.ext eG).ext g1.ext).cfg.pins) hR1
  rw[f2] at hrp
  refine(hrp.grown g1.sub).mono fun v H4 e4 hv=> ?_
  obtain⟨G2,g2,ya,yl,yc,za,zl,zc,rfl,hp,hq⟩:=hv
  refine⟨_,_,_,_,_,_,_,_,_,_,_,_,rfl,fun hN4=>fun b15=>⟨fun h=>absurd rfl h,fun _=>⟨fun h=>absurd rfl h,fun _=>fun b16=> ?_⟩⟩⟩
  have hO':=hO.grown ragt_mono (g1.trans g2)
  refine⟨rows.flatten,hO'.row,by omega,by omega,fun a' c' H5 hgr hr r hrr=>⟨rfl,p.nl-(i+1),by omega,b5,a',i+1,c',rows++[[.slice ya yl yc,i64 a.at_,i64 a.try_,.bool a.going,i64 a.goal.id,.slice za zl zc,.bool a.good]],G2,?_,rfl,by omega,?_,Ext.trans eG (g1.trans g2).ext⟩⟩
  ·rw[hrr,wrap_in (by omega) (by omega)];rfl
  ·rw[take_at ha]
   exact hO'.grew hgr (rows':=[[.slice ya yl yc,i64 a.at_,i64 a.try_,.bool a.going,i64 a.goal.id,.slice za zl zc,.bool a.good]]) (ys:=[a]) (by rw[List.flatten_singleton];exact hr) (by simp) ⟨⟨_,_,_,_,_,_,rfl,hp,hq⟩,trivial⟩
 ·have hip:i=p.nl:=by omega
  have hs:=hO.sl ragt_mono (by omega)
  rw[List.take_of_length_le (by omega)] at hs
  exact⟨fun _=>⟨la,ll,lc,ka,kl,kc,a8,i,c6,rfl,(hLd.ext eG).ext hO.sub,hs⟩,fun h=>absurd rfl h⟩
theorem cLogs{H:Heap}(hL:Lb H){w:Wld}{p:WA}(hw:WldAt H w p){L:Ldr}{A:List Agt}(hg:Logs w L A):Spec Tryz.prog 134 [wldArg w p] H fun v _=>v= .bool true:=by
 refine TryzvcK Tryz.func134 (by kernel_rfl) (by kernel_rfl) _ rfl (fun base K=>vk134 w.c.first.id w.c.bud p.fa p.ra p.wa p.fl p.fc p.rl p.rc p.wl p.wc w.h.l.now w.h.l.goal w.h.l.nx w.h.l.back p.la p.ka p.ll p.lc p.kl p.kc p.sa p.ta p.sl p.sc p.tl p.tc w.h.up p.na p.ma p.nl p.nc p.ml p.mc base H K) fun base hb=>fun b=> ?_
 obtain⟨st1,st2⟩:=hg.sto
 refine(cAll hL hw hg).mono fun v H1 e1 hv=> ?_
 obtain⟨la,ll,lc,ka,kl,kc,xa,xn,xc,rfl,hLd,hA⟩:=hv
 refine⟨_,_,_,_,_,_,_,_,_,_,_,_,_,_,rfl,fun hN1=>fun b3=> ?_⟩
 have hSL:=cStoryLeader (hL.ext e1) (hw.ext e1)
 rw[st1] at hSL
 refine hSL.ldr fun la2 ll2 lc2 ka2 kl2 kc2 H2 e2 hN2 hA2=>fun b5=> ?_
 refine⟨False,⟨fun h=>(by cases h),fun _=>⟨fun h=>absurd rfl h,fun _=>(cLdrSame (hLd.ext e2) hA2).bool1 fun H3 e3 hN3=>⟨rfl,e3,⟨fun h=>h.elim,fun h=> ?_⟩⟩⟩⟩,fun h=>h.elim,fun _=> ?_⟩
 ·exact of_decide_eq_false h rfl
 have hAl:=hA.len
 have hAle:=hA.le
 refine⟨fun m vs H'=>∃(d:Bool)(i:Nat),vs=[.bool d,i64 i]/\m=xn-i/\i<=xn/\Ext H2 H',xn,⟨false,0,rfl,rfl,by omega,Ext.refl _⟩,fun m d n H' hN' hI=> ?_⟩
 obtain⟨d',i,hvs,rfl,hi,eH⟩:=hI
 obtain⟨rfl,rfl⟩:d=d'/\n=(i:Int):=by simpa using hvs
 refine⟨fun hlt=> ?_,fun hge=>rfl⟩
 obtain⟨b7,o7,r7,x7,ha7,hx7,⟨ya,yn,yc,za,zn,zc,rfl,hp7,hq7⟩,hc7⟩:=(Sl.ext ragt_mono (Sl.ext ragt_mono hA e2) eH).get (k:=(i:Int)) (by omega) hlt
 refine⟨b7,o7,ha7,by omega,hlt,_,_,_,_,_,_,_,_,_,_,_,⟨hc7 0 _ rfl,hc7 1 _ rfl,hc7 2 _ rfl,hc7 3 _ rfl,hc7 4 _ rfl,hc7 5 _ rfl,hc7 6 _ rfl,trivial⟩,fun b10=> ?_⟩
 rw[Int.toNat_natCast] at hx7
 have hSA:=cStoryAgent (((hL.ext e1).ext e2).ext eH) (((hw.ext e1).ext e2).ext eH) (i:Int)
 rw[st2 i x7 hx7] at hSA
 refine hSA.agt fun ua ul uc va vl vc H3 e3 hN3 hp hq=>fun b13=>⟨False,⟨fun h=>absurd rfl h,fun _=>(cAgtSame (hp7.ext' e3) (hq7.ext' e3) hp hq).bool1 fun H4 e4 hN4=>⟨rfl,e4,⟨fun h=>h.elim,fun h=> ?_⟩⟩⟩,fun h=>h.elim,fun _=>fun r hr=>⟨rfl,xn-(i+1),by omega,d,i+1,?_,rfl,by omega,Ext.trans eH e3⟩⟩
 ·exact of_decide_eq_false h rfl
 ·rw[hr,wrap_in (by omega) (by omega)];rfl
open Go Go.Proofs
theorem rhap_mono:RHap.Mono:=fun H H' r x e h=>by
 obtain⟨a,l,c,rfl,hp⟩:=h
 exact⟨a,l,c,rfl,hp.ext' e⟩
theorem RHap.mono:RHap.Mono:=rhap_mono
open Go Go.Proofs
set_option maxHeartbeats 1000000 in
theorem cPlayedf{H:Heap}(hL:Lb H){c:Conf}{fa ra wa:O}{fl fc rl rc wl wc:Nat}(hc:CfgAt H c fa fl ra rl wa wl){l:List Hap}{a:O}{n cc:Nat}(hx:Haps H a n l)(hcap:n<=cc)
  (hok:∀ {H':Heap} {w:Wld} {L:Ldr} {A:List Agt} {la ka xa:O} {ll lc kl kc xn xc:Nat},Ext H H'->Sto c w L A->LdrAt H' L la ll ka kl->Sl RAgt 7 H' xa xn A->Spec Tryz.prog 59 [ldrArg L la ll lc ka kl kc,.slice xa xn xc] H' fun v _=>v= .bool true):
  Spec Tryz.prog 45 [cfgArg c fa fl fc ra rl rc wa wl wc,.slice a n cc,.func (.func 59) #[] #[]] H fun v H'=>∃p w,v= .tuple #[wldArg w p,.bool true]/\WldAt H' w p/\w=(if cfgErr c=0 then playW c l else noWld):=by
 refine TryzvcK Tryz.func45 (by kernel_rfl) (by kernel_rfl) _ rfl (fun base K=>vk45f c.first.id c.bud fa ra wa fl fc rl rc wl wc a n cc base H K) fun base hb=>fun b b1=> ?_
 have hNW:=cNewW (fc:=fc) (rc:=rc) (wc:=wc) hc
 by_cases h:cfgErr c=0
 case neg=>
  rw[show newW c=noWld from by unfold newW;rw[if_neg h]] at hNW
  exact hNW.wldE fun p H1 e1 hN1 hw=>fun b4=>⟨fun _=>⟨p,noWld,rfl,hw,by rw[if_neg h]⟩,fun h2=>absurd h h2⟩
 rw[h,show newW c=freshWld c from by unfold newW;rw[if_pos h]] at hNW
 refine hNW.wldE fun p0 Hs e0 hN0 hw0=>fun b4=>⟨fun h2=>absurd rfl h2,fun _=> ?_⟩
 have hln:=hx.len
 have hnle:=hx.le
 generalize hNN:(if 90<(n:Int) then(90:Int) else(n:Int))=NN
 have hNb:0<=NN/\NN<=(n:Int):=by rw[←hNN];split<;>omega
 have hN90:l.take NN.toNat=l.take 90:=by
  by_cases h9:90<(n:Int)
  ·rw[if_pos h9] at hNN;rw[←hNN];rfl
  ·rw[if_neg h9] at hNN;rw[←hNN,List.take_of_length_le (by omega),List.take_of_length_le (by omega)]
 obtain⟨N,rfl⟩:∃N:Nat,NN=N:=⟨NN.toNat,by omega⟩
 rw[Int.toNat_natCast] at hN90
 have hx0:=Sl.ext RHap.mono hx e0
 have hL0:=hL.ext e0
 refine⟨by omega,by omega,fun m vs H'=>∃(d:Bool)(i:Nat)(y:Wld)(q:WA)(L:Ldr)(A:List Agt),vs=[.bool d,i64 i,wldArg noWld noWA,wldArg y q]/\m=N-i/\i<=N/\WldAt H' y q/\Sto c y L A/\(wRunFrom (freshWld c) (l.take N)).1=(wRunFrom y ((l.take N).drop i)).1/\Ext Hs H',N,⟨false,0,freshWld c,p0,_,_,rfl,rfl,by omega,hw0,Sto.fresh h,rfl,Ext.refl _⟩,?_⟩
 intro m d n15 n10 a11 l11 c11 a12 l12 c12 a13 l13 c13 n14 a15 l15 c15 n16 n17 b18 a19 l19 c19 n1A a1B l1B c1B a1C l1C c1C b1D a1E l1E c1E a1F l1F c1F n20 a21 l21 c21 a22 l22 c22 a23 l23 c23 n24 a25 l25 c25 n26 n27 b28 a29 l29 c29 n2A a2B l2B c2B a2C l2C c2C b2D a2E l2E c2E a2F l2F c2F H' hNx hI
 obtain⟨d',i,y,q,L0,A0,hvs,rfl,hi,hwy,hS,hrun,eH⟩:=hI
 simp only[List.cons.injEq,Value.slice.injEq,Value.int.injEq,true_and,Value.agg.injEq,Array.mk.injEq,Value.bool.injEq,and_true] at hvs
 obtain⟨rfl,rfl,⟨rfl,⟨rfl,rfl,rfl⟩,⟨rfl,rfl,rfl⟩,⟨rfl,rfl,rfl⟩,rfl,⟨rfl,rfl,rfl⟩,rfl,rfl,rfl,⟨rfl,rfl,rfl⟩,rfl,⟨rfl,rfl,rfl⟩,⟨rfl,rfl,rfl⟩,rfl,⟨rfl,rfl,rfl⟩,rfl,rfl,rfl⟩,rfl,⟨rfl,rfl,rfl⟩,⟨rfl,rfl,rfl⟩,⟨rfl,rfl,rfl⟩,rfl,⟨rfl,rfl,rfl⟩,rfl,rfl,rfl,⟨rfl,rfl,rfl⟩,rfl,⟨rfl,rfl,rfl⟩,⟨rfl,rfl,rfl⟩,rfl,⟨rfl,rfl,rfl⟩,rfl,rfl,rfl⟩:=hvs
 have hRy:=hS.right
 have nxt:∀ {r:Int},r=IntKind.wrap .i64 ((i:Int)+1)->r=((i+1:Nat):Int):=fun hr=>by rw[hr,wrap_in (by omega) (by omega)];rfl
 refine⟨fun hlt=> ?_,fun hge=> ?_⟩
 ·have hin:i<N:=by have:=hlt;rw[Int.toNat_natCast] at this;omega
  obtain⟨b8,o8,r8,x,ha,hxi,⟨ax,lx,cx,rfl,hpx⟩,hc8⟩:=(Sl.ext RHap.mono hx0 eH).get (k:=(i:Int)) (by omega) (by omega)
  have hdrop:(l.take N).drop i=x::(l.take N).drop (i+1):=by
   rw[Int.toNat_natCast] at hxi
   exact drop_at (by rw[List.getElem?_take,if_pos hin];exact hxi)
  rw[hdrop] at hrun
  refine⟨b8,o8,ha,by omega,hlt,_,_,_,_,_,_,_,⟨hc8 0 _ rfl,hc8 1 _ rfl,hc8 2 _ rfl,hc8 3 _ rfl,hc8 4 _ rfl,trivial⟩,fun b10=> ?_⟩
  have hDo:=cDo (c:=cx) (hL0.ext eH) hwy hpx
  rw[show wDo y x=wHap y x from by unfold wDo;rw[if_neg (by rw[wldErr_zero.2 hRy];simp)]] at hDo
  cases hh:wHap y x with
  |error e=>
   rw[hh] at hDo
   rw[wRun_err hh] at hrun
   exact hDo.wldE fun p1 H1 e1 hN1 hw1=>fun b13=>⟨fun h0=>absurd h0 (wHap_err hh),fun _=>fun r hr=>⟨rfl,N-(i+1),by omega,d,i+1,y,q,L0,A0,by rw[nxt hr],rfl,by omega,hwy.ext e1,hS,hrun,Ext.trans eH e1⟩⟩
  |ok z=>
   have hDo':Spec Tryz.prog 27 [wldArg y q,hapArg x ax lx cx] H' fun v H''=>∃p',v= .tuple #[wldArg z p',i64 0]/\WldAt H'' z p':=by rw[hh] at hDo;exact hDo
   rw[wRun_ok hh] at hrun
   obtain⟨L',A',hS'⟩:=hS.hap hh
   refine hDo'.wldE fun p1 H1 e1 hN1 hw1=>fun b13=>⟨fun _=> ?_,fun h0=>absurd rfl h0⟩
   refine(cAll ((hL0.ext eH).ext e1) hw1 hS'.logs).mono fun v H3 e3 hv=> ?_
   obtain⟨la,ll,lc,ka,kl,kc,xa,xn,xc,rfl,hLd,hA⟩:=hv
   refine⟨_,_,_,_,_,_,_,_,_,_,_,_,_,_,rfl,fun hN3=>fun b18=>⟨False,⟨fun h=>(by cases h),fun _=>(hok (Ext.trans e0 (Ext.trans eH (Ext.trans e1 e3))) hS' hLd hA).bool1 fun H4 e4 hN4=>⟨rfl,e4,by simp⟩⟩,fun h=>h.elim,fun _=>fun r hr=>⟨rfl,N-(i+1),by omega,d,i+1,z,p1,L',A',by rw[nxt hr],rfl,by omega,hw1.ext e3,hS',hrun,Ext.trans eH (Ext.trans e1 e3)⟩⟩⟩
 ·have hip:i=N:=by have:=hge;rw[Int.toNat_natCast] at this;omega
  refine(cLogs (hL0.ext eH) hwy hS.logs).bool1 fun H1 e1 hN1=>⟨q,y,rfl,hwy.ext e1,?_⟩
  rw[if_pos h]
  rw[List.drop_eq_nil_of_le (by rw[List.length_take];omega)] at hrun
  unfold playW
  rw[←hN90,hrun]
  rfl
end Go.Vg
