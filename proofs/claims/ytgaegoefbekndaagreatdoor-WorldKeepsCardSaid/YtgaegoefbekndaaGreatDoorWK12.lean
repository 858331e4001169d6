/- What is proved here: a part of the proof of laws of this seat: what a contract is, how it comes of a condition, contracts of the functions that are reached, the plain laws. -/
import Derived.Test.YtgaegoefbekndaaGreatDoorWK11
import Derived.Test.YtgaegoefbekndaaGreatDoorCards
import Derived.Test.YtgaegoefbekndaaGreatDoorTie
import Derived.Deep.DeepHandedRow
import Derived.JoinedCond
import Derived.Lay
import Derived.MakeChecks
import Derived.SevenTiedAt
import Derived.Stop.LaidErr
set_option linter.unusedSimpArgs false
set_option linter.unusedVariables false
set_option maxRecDepth 100000
namespace Go.Vg
open Go Go.Proofs
def LeadOut(base b:Nat)(H:Heap)(f:SV->List Bx->Heap->Prop)(own1:List Bx):Value->List (List Value)->Heap->Prop:=fun v css H'=>
 ∃n:Int,v= .int .i64 n/\∃i1:Int,∃a2:O,∃l2:Nat,∃c2:Nat,∃a3:O,∃l3:Nat,∃c3:Nat,∃a4:O,∃l4:Nat,∃c4:Nat,∃i5:Int,∃a6:O,∃l6:Nat,∃c6:Nat,∃i7:Int,∃i8:Int,∃b9:Bool,∃a10:O,∃l10:Nat,∃c10:Nat,∃i11:Int,∃a12:O,∃l12:Nat,∃c12:Nat,∃a13:O,∃l13:Nat,∃c13:Nat,∃b14:Bool,∃a15:O,∃l15:Nat,∃c15:Nat,∃a16:O,∃l16:Nat,∃c16:Nat,css=[[.int .i64 i1,.slice a2 l2 c2,.slice a3 l3 c3,.slice a4 l4 c4,.int .i64 i5,.slice a6 l6 c6,.int .i64 i7,.int .i64 i8,.bool b9,.slice a10 l10 c10,.int .i64 i11,.slice a12 l12 c12,.slice a13 l13 c13,.bool b14,.slice a15 l15 c15,.slice a16 l16 c16]]/\(Vg.Next base H H'->f (.v (.int .i64 n)) (⟨b,false,41,[.int .i64 i1,.slice a2 l2 c2,.slice a3 l3 c3,.slice a4 l4 c4,.int .i64 i5,.slice a6 l6 c6,.int .i64 i7,.int .i64 i8,.bool b9,.slice a10 l10 c10,.int .i64 i11,.slice a12 l12 c12,.slice a13 l13 c13,.bool b14,.slice a15 l15 c15,.slice a16 l16 c16]⟩::own1) H')
section
variable {base : Nat} {H0 G H : Heap} {w : Wld} {p : WA} {rows : List (List Value)} {x : Hap} {a : O} {l c b : Nat} {f : SV->List Bx->Heap->Prop}
theorem happ_lead(h:HapPre base G H w p rows x a l)
  (hf:∀e w' p' G' rows' H' own1,RunPost (wHap w x) base G H w p e w' p' G' rows' H'->f (.v (.int .i64 e)) (⟨b,false,41,wldCells w' p'⟩::own1) H') {r:Recd} (hE:wHap w x=wLead w r) {qa:O} {ql qc:Nat} (hq:Pins G qa ql r.rel.lock) (own1:List Bx):
  SpecO Tryz.prog 176 [.pointer (some ⟨b,0,none⟩),recArg r qa ql qc] [⟨b,false,41,wldCells w p⟩] H (LeadOut base b H f own1):=by
 refine((cLeads h.lb h.own.parts hq b).grown h.sub).mono fun v css H2 e2 hv=> ?_
 obtain⟨G2,g2,p2,rfl,hcss,hP2,n1,n2,n3,n4⟩:=hv
 exact⟨_,rfl,wld16 hcss fun hN2=>hf _ _ p2 G2 rows H2 _ ⟨(h.start.grown g2).be hP2 n1 n2 n3 n4,by rw[hE],by rw[hE]⟩⟩
theorem happ_in(h:HapPre base G H w p rows x a l)
  (hf:∀e w' p' G' rows' H' own1,RunPost (wHap w x) base G H w p e w' p' G' rows' H'->f (.v (.int .i64 e)) (⟨b,false,41,wldCells w' p'⟩::own1) H'):
  codeI ⟨Tryz.prog,Tryz.f91.ntmps,⟨TryzListT,TryzSumT,true⟩,base,H0⟩ Tryz.f91 [.loc 0 0,.v (hapArg x a l c)] [⟨b,false,41,wldCells w p⟩] H f:=by
 rw[vx91]
 have g0:Grown G H G H:=⟨Ext.refl _,h.sub,Ext.refl _,fun y k h1 h2=>(by rw[h1] at h2;cases h2)⟩
 have out:∀ {R:Except Int Wld},wHap w x=R->∀e w' p' G' rows' H' own1,RunPost R base G H w p e w' p' G' rows' H'->f (.v (.int .i64 e)) (⟨b,false,41,wldCells w' p'⟩::own1) H':=fun{R} hR e w' p' G' rows' H' own1 hP=>hf _ _ _ _ _ _ _ (hR▸hP)
 have bad:∀ {e:Int},wHap w x= .error e->∀ {G1 H1:Heap},Grown G H G1 H1->∀own1,f (.v (.int .i64 e)) (⟨b,false,41,wldCells w p⟩::own1) H1:=fun{e} he {G1 H1} g own1=>out he e w p G1 rows H1 own1 ⟨h.start.grown g,rfl,rfl⟩
 have good:∀ {w':Wld},wHap w x= .ok w'->∀ {p':WA} {G1 H1:Heap} {rows1:List (List Value)},OwnPost base G H p w' p' G1 rows1 H1->∀own1,f (.v (.int .i64 0)) (⟨b,false,41,wldCells w' p'⟩::own1) H1:=fun{w'} he {p' G1 H1 rows1} g own1=>out he 0 w' p' G1 rows1 H1 own1 ⟨g,rfl,rfl⟩
 have hl:=h.own.len
 have hR:=wldErr_zero.1 h.ok
 have hll:w.h.l.rels.length<=100000:=hR.sizes.2.1.1
 have hrl:=h.own.parts.ldr.rels.len
 refine fun b1=>⟨x.kind=9∨x.kind=10,⟨fun h9=>⟨rfl,subH,⟨fun _=>h9,fun _=> .inl h9⟩⟩,fun h9=>⟨rfl,subH,⟨fun h=>h.resolve_left h9,.inr⟩⟩⟩,fun hφ=> ?_,fun hφ=>⟨fun h11=> ?_,fun h11=> ?_⟩⟩
 ·exact⟨w,p,G,rows,x,a,l,c,⟨rfl,rfl,rfl,rfl⟩,h,rfl,fun e w' p' G' rows' H' hP=>out (by unfold wHap;rw[if_pos hφ]) _ _ _ _ _ _ _ hP⟩
 ·have hE:wHap w x=if takeErr w.m x.num≠0 then .error (takeErr w.m x.num) else .ok { w with m:=left w.m x.num false } :=by
   unfold wHap;rw[if_neg hφ,if_pos h11]
  refine⟨?_,fun b2=> ?_⟩
  all_goals
   refine((cTakeR (c:=p.mc) h.own.parts.mail x.num false).grown h.sub).mono fun v H1 e1 hv=> ?_
   obtain⟨G1,g1,ta,tn,tc,la,ln,lc,rfl,hM,hQ,hRm⟩:=hv
   refine⟨_,_,_,_,_,_,_,_,_,_,_,_,rfl,fun hN1=> ?_⟩
   try intro b4
   refine⟨fun ht=> ?_,fun ht=> ?_⟩
   ·rw[if_pos ht] at hM
    rw[if_neg (by omega)] at hE
    have hP:=h.own.parts.ext g1.ext
    exact out hE _ { w with m:=left w.m x.num false } { p with ma:=ta,ml:=tn,mc:=tc } G1 rows H1 _ ⟨(h.start.grown g1).be ⟨hP.cfg,hP.ldr,hP.dsk,hM,hRm⟩ rfl rfl rfl rfl,ht,rfl⟩
   ·rw[if_pos ht] at hE
    exact bad hE g1 _
 ·refine⟨x.kind=1∨x.kind=2∨x.kind=5∨x.kind=6,⟨fun h1=>⟨rfl,subH,⟨fun _=>h1,fun _=> .inl h1⟩⟩,fun h1=>⟨fun h2=>⟨rfl,subH,⟨fun _=>h2,fun _=> .inr (.inl h2)⟩⟩,fun h2=>⟨fun h3=>⟨rfl,subH,⟨fun _=>h3,fun _=> .inr (.inr (.inl h3))⟩⟩,fun h3=>⟨rfl,subH,⟨fun h=>((h.resolve_left h1).resolve_left h2).resolve_left h3,fun h=> .inr (.inr (.inr h))⟩⟩⟩⟩⟩,fun hk=>⟨fun hu=> ?_,fun hu r hr b2=> ?_⟩,fun hk=> ?_⟩
  ·exact bad (by unfold wHap;rw[if_neg hφ,if_neg h11,if_pos hk,if_pos hu]) g0 _
  ·have hE:wHap w x=wLead w (hapRec w x):=by unfold wHap;rw[if_neg hφ,if_neg h11,if_pos hk,if_neg hu]
   have hr':r=(w.h.l.rels.length:Int)+1:=by rw[hr,wrap_in (by omega) (by omega)];omega
   have lead:∀own1,(x.kind=1->SpecO Tryz.prog 176 [.pointer (some ⟨b,0,none⟩),.agg #[.int .i64 4,.int .i64 0,.int .i64 0,.int .i64 0,.bool false,.int .i64 r,.slice a l c]] [⟨b,false,41,wldCells w p⟩] H (LeadOut base b H f own1))/\
     (x.kind=2->SpecO Tryz.prog 176 [.pointer (some ⟨b,0,none⟩),.agg #[.int .i64 5,.int .i64 0,.int .i64 0,.int .i64 x.num,.bool false,.int .i64 0,.slice none 0 0]] [⟨b,false,41,wldCells w p⟩] H (LeadOut base b H f own1))/\
     (x.kind=5->SpecO Tryz.prog 176 [.pointer (some ⟨b,0,none⟩),.agg #[.int .i64 8,.int .i64 0,.int .i64 0,.int .i64 0,.bool false,.int .i64 0,.slice none 0 0]] [⟨b,false,41,wldCells w p⟩] H (LeadOut base b H f own1))/\
     (x.kind=6->SpecO Tryz.prog 176 [.pointer (some ⟨b,0,none⟩),.agg #[.int .i64 9,.int .i64 0,.int .i64 0,.int .i64 0,.bool false,.int .i64 0,.slice none 0 0]] [⟨b,false,41,wldCells w p⟩] H (LeadOut base b H f own1)):=by
    intro own1
    refine⟨fun k=> ?_,fun k=> ?_,fun k=> ?_,fun k=> ?_⟩
    ·rw[hr']
     exact happ_lead h hf (r:=⟨4,0,0,0,false,⟨w.h.l.rels.length+1,x.lock⟩⟩) (by rw[hE];unfold hapRec;rw[if_pos k]) h.lock own1
    ·exact happ_lead h hf (r:=⟨5,0,0,x.num,false,⟨0,[]⟩⟩) (by rw[hE];unfold hapRec;rw[if_neg (by omega),if_pos k]) Sl.nil own1
    ·exact happ_lead h hf (r:=⟨8,0,0,0,false,⟨0,[]⟩⟩) (by rw[hE];unfold hapRec;rw[if_neg (by omega),if_neg (by omega),if_pos k]) Sl.nil own1
    ·exact happ_lead h hf (r:=⟨9,0,0,0,false,⟨0,[]⟩⟩) (by rw[hE];unfold hapRec;rw[if_neg (by omega),if_neg (by omega),if_neg (by omega)]) Sl.nil own1
   clear hE hr hr'
   refine⟨⟨_,rfl,⟨⟨_,rfl,⟨⟨_,rfl,⟨_,rfl,?_⟩⟩,⟨_,rfl,⟨_,rfl,?_⟩⟩⟩⟩,⟨_,rfl,⟨⟨_,rfl,⟨_,rfl,?_⟩⟩,⟨_,rfl,⟨_,rfl,?_⟩⟩⟩⟩,⟨_,rfl,⟨⟨_,rfl,⟨_,rfl,?_⟩⟩,⟨_,rfl,⟨_,rfl,?_⟩⟩⟩⟩⟩⟩,⟨_,rfl,⟨⟨_,rfl,⟨⟨_,rfl,⟨_,rfl,?_⟩⟩,⟨_,rfl,⟨_,rfl,?_⟩⟩⟩⟩,⟨_,rfl,⟨⟨_,rfl,⟨_,rfl,?_⟩⟩,⟨_,rfl,⟨_,rfl,?_⟩⟩⟩⟩,⟨_,rfl,⟨⟨_,rfl,⟨_,rfl,?_⟩⟩,⟨_,rfl,⟨_,rfl,?_⟩⟩⟩⟩⟩⟩,⟨_,rfl,⟨⟨_,rfl,⟨⟨_,rfl,⟨_,rfl,?_⟩⟩,⟨_,rfl,⟨_,rfl,?_⟩⟩⟩⟩,⟨_,rfl,⟨⟨_,rfl,⟨_,rfl,?_⟩⟩,⟨_,rfl,⟨_,rfl,?_⟩⟩⟩⟩,⟨_,rfl,⟨⟨_,rfl,⟨_,rfl,?_⟩⟩,⟨_,rfl,⟨_,rfl,?_⟩⟩⟩⟩⟩⟩,⟨_,rfl,⟨⟨_,rfl,⟨⟨_,rfl,⟨_,rfl,?_⟩⟩,⟨_,rfl,⟨_,rfl,?_⟩⟩⟩⟩,⟨_,rfl,⟨⟨_,rfl,⟨_,rfl,?_⟩⟩,⟨_,rfl,⟨_,rfl,?_⟩⟩⟩⟩,⟨_,rfl,⟨⟨_,rfl,⟨_,rfl,?_⟩⟩,⟨_,rfl,⟨_,rfl,?_⟩⟩⟩⟩⟩⟩⟩
   all_goals
    rcases hk with k|k|k|k
    ·exact⟨_,_,_,_,_,_,_,_,_,true,by rw[k];rfl,(lead _).1 k⟩
    ·exact⟨_,_,_,_,_,_,_,_,_,true,by rw[k];rfl,(lead _).2.1 k⟩
    ·exact⟨_,_,_,_,_,_,_,_,_,true,by rw[k];rfl,(lead _).2.2.1 k⟩
    ·exact⟨_,_,_,_,_,_,_,_,_,true,by rw[k];rfl,(lead _).2.2.2 k⟩
  ·refine⟨x.kind=3∨x.kind=4∨x.kind=7∨x.kind=8∨x.kind=12∨x.kind=13,⟨fun h1=>⟨rfl,subH,by constructor<;>intro _<;>omega⟩,fun h1=>⟨fun h2=>⟨rfl,subH,by constructor<;>intro _<;>omega⟩,fun h2=>⟨fun h3=>⟨rfl,subH,by constructor<;>intro _<;>omega⟩,fun h3=>⟨fun h4=>⟨rfl,subH,by constructor<;>intro _<;>omega⟩,fun h4=>⟨fun h5=>⟨rfl,subH,by constructor<;>intro _<;>omega⟩,fun h5=>⟨rfl,subH,by constructor<;>intro _<;>omega⟩⟩⟩⟩⟩⟩,fun hk2=> ?_,fun hk2=> ?_⟩
   ·have hK:¬(x.kind<1∨13<x.kind):=by omega
    refine⟨fun hle=> ?_,fun hle=> ?_⟩
    ·exact bad (by unfold wHap;rw[if_neg hφ,if_neg h11,if_neg hk,if_neg hK,if_pos (by omega)]) g0 _
    ·have hW:¬(x.agent<0/\x.kind≠12/\x.kind≠13)->wHap w x=if x.kind=3∨x.kind=4 then(if w.h.up=false then .error 7 else wTell w x) else
       if x.kind=12∨x.kind=13 then wPower w x else
       match w.n[x.agent.toNat]? with
       |none=> .error 5
       |some n=>
        if n.up=false then .error 7 else
        if x.kind=7 then wStep w x n else
        if n.a.going=true∨n.a.try_=0 then .error 7 else .ok (wReport w x.agent.toNat):=fun hneg=>by
      unfold wHap;rw[if_neg hφ,if_neg h11,if_neg hk,if_neg hK,if_neg (by omega)];rfl
     refine⟨fun hneg=>⟨fun h12=>⟨fun h13=> ?_,fun h13=> ?_⟩,fun h12=> ?_⟩,fun hneg=> ?_⟩
     ·exact bad (by unfold wHap;rw[if_neg hφ,if_neg h11,if_neg hk,if_neg hK,if_pos (by omega)]) g0 _
     all_goals
      have hW:=hW (by omega)
      refine⟨x.kind=3∨x.kind=4,⟨fun h1=>⟨rfl,subH,by constructor<;>intro _<;>omega⟩,fun h1=>⟨rfl,subH,by constructor<;>intro _<;>omega⟩⟩,fun h34=> ?_,fun h34=> ?_⟩
      ·rw[if_pos h34] at hW
       refine⟨fun hu=> ?_,fun hu=> ?_⟩
       ·rw[if_pos hu] at hW
        exact bad hW g0 _
       ·rw[if_neg hu] at hW
        refine((cTell h.lb h.own.parts (a:=a) (l:=l) (c:=c) b).grown h.sub).mono fun v css H2 e2 hv=> ?_
        obtain⟨G2,g2,p2,rfl,hcss,hP2,n1,n2,n3,n4⟩:=hv
        exact⟨_,rfl,wld16 hcss fun hN2=>out hW _ _ p2 G2 rows H2 _ ⟨(h.start.grown g2).be hP2 n1 n2 n3 n4,rfl,rfl⟩⟩
      ·rw[if_neg h34] at hW
       refine⟨x.kind=12∨x.kind=13,⟨fun h1=>⟨rfl,subH,by constructor<;>intro _<;>omega⟩,fun h1=>⟨rfl,subH,by constructor<;>intro _<;>omega⟩⟩,fun hpw=> ?_,fun hpw=> ?_⟩
       ·rw[if_pos hpw] at hW
        exact⟨w,p,G,rows,x,a,l,c,⟨rfl,rfl,rfl,rfl⟩,h,by omega,fun e w' p' G' rows' H' hP=>out hW _ _ _ _ _ _ _ hP⟩
       ·rw[if_neg hpw] at hW
        have h0:0<=x.agent:=by omega
        obtain⟨n,hnn⟩:∃n,w.n[x.agent.toNat]?=some n:=⟨_,List.getElem?_eq_getElem (by omega)⟩
        rw[hnn] at hW
        dsimp only at hW
        obtain⟨y,kb,q,hna,hyb,hnc,hyk,hfree,hkl,hroom,hrow,hnod,hcell⟩:=h.own.node hnn
        have cc:∀j v,(nodCells n q)[j]?=some v->H.cell y (0+x.agent.toNat*10+j)=some v:=fun j v hj=>by rw[Nat.zero_add];exact hcell j v hj
        refine⟨y,0,hna,h0,by omega,_,_,_,_,_,_,_,_,_,_,_,_,_,_,_,_,_,_,⟨cc 0 _ rfl,cc 1 _ rfl,cc 2 _ rfl,cc 3 _ rfl,cc 4 _ rfl,cc 5 _ rfl,cc 6 _ rfl,cc 7 _ rfl,cc 8 _ rfl,cc 9 _ rfl,trivial⟩,fun b6=>⟨fun hu=> ?_,fun hu=>⟨fun h7=> ?_,fun h7=> ?_⟩⟩⟩
        ·rw[if_pos hu] at hW
         exact bad hW g0 _
        ·rw[if_neg hu,if_pos h7] at hW
         have hA:wStepAt w x=wStep w x n:=by unfold wStepAt;rw[hnn]
         exact⟨w,p,G,rows,x,a,l,c,⟨rfl,rfl,rfl,rfl⟩,h,⟨h0,by omega⟩,fun e w' p' G' rows' H' hP=>out (hW.trans hA.symm) _ _ _ _ _ _ _ hP⟩
        ·rw[if_neg hu,if_neg h7] at hW
         refine⟨n.a.going=true∨n.a.try_=0,⟨fun hg=>⟨rfl,subH,.inl hg⟩,fun hg=>⟨rfl,subH,⟨fun hh=>hh.resolve_left (by rw[hg];simp),.inr⟩⟩⟩,fun hg=> ?_,fun hg=> ?_⟩
         ·rw[if_pos hg] at hW
          exact bad hW g0 _
         ·rw[if_neg hg] at hW
          refine(cReport h.sub h.own.parts h.own.at_.nod h0 (by omega) b).mono fun v css H2 e2 hv=> ?_
          obtain⟨G2,g2,p2,rfl,hcss,hP2,n1,n2,n3,n4⟩:=hv
          exact⟨rfl,wld16 hcss fun hN2=>good hW ((h.start.grown g2).be hP2 n1 n2 n3 n4) _⟩
   ·exact bad (by unfold wHap;rw[if_neg hφ,if_neg h11,if_neg hk,if_pos (by omega)]) g0 _
end
noncomputable def TryzInH:InlFn:=inlOf Tryz.prog TryzListT [(91,Tryz.f91)] TryzSumT
theorem TryzinH(j:Bool):InlOk Tryz.prog ⟨TryzListT,TryzInH,j⟩:=inl_ok (TryzsumTT true) Tryzmixed fun p hp=>by
 simp only[List.mem_cons,List.not_mem_nil,or_false] at hp
 subst hp
 exact⟨Tryz.func91,body_some (by kernel_rfl),ops_ok (by kernel_rfl),by decide⟩
noncomputable def TryzSumH:InlFn:=fun base H0 g pre own H f=>
 if g=91 then genC wHap (fun w _=>w=w) base pre own H f
 else TryzSum base H0 g pre own H f
theorem TryzsumH(j:Bool):InlOk Tryz.prog ⟨TryzListK,TryzSumH,j⟩:=by
 intro base H0 g pre own H f p hp
 unfold TryzSumH at hp
 dsimp only at hp
 split at hp
 ·rename_i e;subst e
  refine⟨by show TryzListK.contains 91=true;decide,fun h C w0 own0 w hb _ hw _=>genC_ok (TryzinH true) (fun{base H0 G H w p rows x a l c b f} h1 _ hf=>⟨_,rfl,happ_in h1 hf⟩) hp h C w0 own0 w hb hw⟩
 ·exact TryzsumK j base H0 g pre own H f p hp
noncomputable def TryzMutsH:Muts:=⟨TryzListK,TryzSumH,true⟩
theorem TryzvcH{f:FuncId}{fn:Func}(hf: Tryz.prog.funcs[f]?=some fn)(hok:okFn fn=true){args:List Value}(hargs:Nat.ble args.length fn.ntmps=true){H:Heap}(Q:Value->Heap->Prop){sv:List SV}(hsv:args.map SV.v=sv)
  {F:Nat->(Value->List (List Value)->Heap->Prop)->Prop} (hv:∀base K,funV ⟨Tryz.prog,fn.ntmps,TryzMutsH,base,H⟩ (bodyOf fn) fn.results.toList sv [] K=F base K)
  (h:∀base,(∀b k,H b=some k->b<base)->F base (fun v _ H'=>Q v H')):Spec Tryz.prog f args H Q:=
 spec_of (muts:= TryzMutsH) (TryzsumH true) hf (body_some hok) rfl Tryzmixed (ops_ok hok) (Nat.le_of_ble_eq_true hargs) fun base hb=>by
  rw[hsv,hv base]
  exact h base hb
open Go Go.Proofs
open Go.Value renaming int → I, slice → S, bool → B, agg → A, tuple → T, pointer → P, string → Str
open Go.IntKind renaming i64 → Z, wrap → W
open Go.Addr renaming mk → D
open Go.Vg.Bx renaming mk → J
open Go.Vg renaming Next → X, Spec → Y, SpecO → YO
open Go.Vg.Heap renaming cell → C
open Int renaming toNat → N
theorem vx27(id bud:Int)(fa ra wa:O)(fl fc rl rc wl wc:Nat)(now goal nx:Int)(back:Bool)(la ka:O)(ll lc kl kc:Nat)(sa ta:O)(sl sc tl tc:Nat)(up:Bool)(na ma:O)(nl nc ml mc:Nat)(hk hg hn:Int)(hgd:Bool)(ha:O)(hl hc:Nat)(base:Nat)(H:Heap)(K:KT):
 (fV TryzMutsH Tryz.f27 base H [.v (A #[I Z id,S fa fl fc,S ra rl rc,S wa wl wc,I Z bud,S la ll lc,I Z now,I Z goal,B back,S ka kl kc,I Z nx,S sa sl sc,S ta tl tc,B up,S na nl nc,S ma ml mc]),.v (A #[I Z hk,I Z hg,I Z hn,B hgd,S ha hl hc])] [] K)=(
 (fun w3:AV=>(fun w2:LV=>∀a b c:Nat,Y Tryz.prog 31 w2 H fun d e=>∃g,d=I Z g/\(X base H e->(¬g=0->K (T #[A w3,I Z g]) [] e)/\(¬¬g=0->Y Tryz.prog 90 w2 e fun h i=>∃j k l m n o p q r s t u v w x y z a1 b1 c1 d1 e1 f1 g1 h1 i1 j1 k1 l1 m1 n1 o1 p1 q1,h=A #[I Z j,S k l m,S n o p,S q r s,I Z t,S u v w,I Z x,I Z y,B z,S a1 b1 c1,I Z d1,S e1 f1 g1,S h1 i1 j1,B k1,S l1 m1 n1,S o1 p1 q1]/\(X base e i->∃(r1:Wld)(s1:WA)(t1:Heap)(u1:List (List Value))(v1:Hap)(w1:O)(x1 y1:Nat),(41=41/\ [I Z j,S k l m,S n o p,S q r s,I Z t,S u v w,I Z x,I Z y,B z,S a1 b1 c1,I Z d1,S e1 f1 g1,S h1 i1 j1,B k1,S l1 m1 n1,S o1 p1 q1]=wldCells r1 s1/\A #[I Z hk,I Z hg,I Z hn,B hgd,S ha hl hc]=A #[I Z (Hap.kind v1),I Z (Hap.agent v1),I Z (Hap.num v1),B (Hap.good v1),S w1 x1 y1]/\true=true)/\HapPre base t1 i r1 s1 u1 v1 w1 x1/\r1=r1/\∀(z1:Int)(a2:Wld)(b2:WA)(c2:Heap)(d2:List (List Value))(e2:Heap),RunPost (wHap r1 v1) base t1 i r1 s1 z1 a2 b2 c2 d2 e2->(¬z1=0->K (T #[A w3,I Z z1]) [] e2)/\(¬¬z1=0->K (T #[A (wldCells a2 b2).toArray,I Z 0]) [] e2))))) [A #[I Z id,S fa fl fc,S ra rl rc,S wa wl wc,I Z bud,S la ll lc,I Z now,I Z goal,B back,S ka kl kc,I Z nx,S sa sl sc,S ta tl tc,B up,S na nl nc,S ma ml mc]]) #[I Z 0,S none 0 0,S none 0 0,S none 0 0,I Z 0,S none 0 0,I Z 0,I Z 0,B false,S none 0 0,I Z 0,S none 0 0,S none 0 0,B false,S none 0 0,S none 0 0]):=by kernel_rfl
theorem vx39(id bud:Int)(fa ra wa:O)(fl fc rl rc wl wc:Nat)(now goal nx:Int)(back:Bool)(la ka:O)(ll lc kl kc:Nat)(sa ta:O)(sl sc tl tc:Nat)(up:Bool)(na ma:O)(nl nc ml mc:Nat)(ha:O)(hl hc:Nat)(base:Nat)(H:Heap)(K:KT):
 (fV TryzMutsH Tryz.f39 base H [.v (A #[I Z id,S fa fl fc,S ra rl rc,S wa wl wc,I Z bud,S la ll lc,I Z now,I Z goal,B back,S ka kl kc,I Z nx,S sa sl sc,S ta tl tc,B up,S na nl nc,S ma ml mc]),.v (S ha hl hc)] [] K)=(
 (fun w8:LV=>(fun w7:LL=>∀a b:Nat,Y Tryz.prog 31 w8 H fun c d=>∃e,c=I Z e/\(X base H d->(¬e=0->K (T #[A #[I Z 0,S none 0 0,S none 0 0,S none 0 0,I Z 0,S none 0 0,I Z 0,I Z 0,B false,S none 0 0,I Z 0,S none 0 0,S none 0 0,B false,S none 0 0,S none 0 0],S none 0 0,I Z e]) [] d)/\(¬¬e=0->(150<(hl:Int)->K (T #[A #[I Z 0,S none 0 0,S none 0 0,S none 0 0,I Z 0,S none 0 0,I Z 0,I Z 0,B false,S none 0 0,I Z 0,S none 0 0,S none 0 0,B false,S none 0 0,S none 0 0],S none 0 0,I Z 2]) [] d)/\(¬150<(hl:Int)->Y Tryz.prog 90 w8 d fun g h=>∃(i:Int)(j:O)(k l:Nat)(m:O)(n o:Nat)(p:O)(q r:Nat)(s:Int)(t:O)(u v:Nat)(w x:Int)(y:Bool)(z:O)(a1 b1:Nat)(c1:Int)(d1:O)(e1 f1:Nat)(g1:O)(h1 i1:Nat)(j1:Bool)(k1:O)(l1 m1:Nat)(n1:O)(o1 p1:Nat),(fun w6:AV=>g=A w6/\(X base d h->∃(q1:NI)(r1:Nat),q1 r1 [S none 0 0,I Z 0,A w6] h/\∀(s1:Nat)(t1:O)(u1 v1:Nat)(w1 x1:Int)(y1:O)(z1 a2:Nat)(b2:O)(c2 d2:Nat)(e2:O)(f2 g2:Nat)(h2:Int)(i2:O)(j2 k2:Nat)(l2 m2:Int)(n2:Bool)(o2:O)(p2 q2:Nat)(r2:Int)(s2:O)(t2 u2:Nat)(v2:O)(w2 x2:Nat)(y2:Bool)(z2:O)(a3 b3:Nat)(c3:O)(d3 e3:Nat)(f3:Heap),(fun w5:AV=>X base H f3->q1 s1 [S t1 u1 v1,I Z w1,A w5] f3->(w1<(hl:Int)->∃g3 h3,ha=some (D g3 h3 none)/\0<=w1/\w1<(hl:Int)/\∃(i3 j3 k3:Int)(l3:Bool)(m3:O)(n3 o3:Nat),(C f3 g3 (h3+N w1*5)=some (I Z i3)/\C f3 g3 (h3+N w1*5+1)=some (I Z j3)/\C f3 g3 (h3+N w1*5+2)=some (I Z k3)/\C f3 g3 (h3+N w1*5+3)=some (B l3)/\C f3 g3 (h3+N w1*5+4)=some (S m3 n3 o3)/\True)/\∀p3:Nat,Y Tryz.prog 90 [A w5] f3 fun q3 r3=>∃s3 t3 u3 v3 w3 x3 y3 z3 a4 b4 c4 d4 e4 f4 g4 h4 i4 j4 k4 l4 m4 n4 o4 p4 q4 r4 s4 t4 u4 v4 w4 x4 y4 z4,q3=A #[I Z s3,S t3 u3 v3,S w3 x3 y3,S z3 a4 b4,I Z c4,S d4 e4 f4,I Z g4,I Z h4,B i4,S j4 k4 l4,I Z m4,S n4 o4 p4,S q4 r4 s4,B t4,S u4 v4 w4,S x4 y4 z4]/\(X base f3 r3->∀a5:Nat,∃(b5:Wld)(c5:WA)(d5:Heap)(e5:List (List Value))(f5:Hap)(g5:O)(h5 i5:Nat),(41=41/\ [I Z s3,S t3 u3 v3,S w3 x3 y3,S z3 a4 b4,I Z c4,S d4 e4 f4,I Z g4,I Z h4,B i4,S j4
 k4 l4,I Z m4,S n4 o4 p4,S q4 r4 s4,B t4,S u4 v4 w4,S x4 y4 z4]=wldCells b5 c5/\A #[I Z i3,I Z j3,I Z k3,B l3,S m3 n3 o3]=A #[I Z (Hap.kind f5),I Z (Hap.agent f5),I Z (Hap.num f5),B (Hap.good f5),S g5 h5 i5]/\true=true)/\HapPre base d5 r3 b5 c5 e5 f5 g5 h5/\b5=b5/\∀(j5:Int)(k5:Wld)(l5:WA)(m5:Heap)(n5:List (List Value))(o5:Heap),RunPost (wHap b5 f5) base d5 r3 b5 c5 j5 k5 l5 m5 n5 o5->(j5=0->∀p5:Nat,∃q5:List Value,Row base o5 42 1 t1 u1 v1 q5/\(u1+1)*8<=140737488355328/\u1+1<=9223372036854775807/\∀(r5:O)(s5:Nat)(t5:Heap),Grew base o5 t5 t1 v1 r5 s5 (u1+1)->Row base t5 42 1 r5 (u1+1) s5 (q5++[I Z j5])->∀u5:Int,u5=W Z (w1+1)->w7=w7/\∃v5:Nat,v5<s1/\q1 v5 [S r5 (u1+1) s5,I Z u5,A (wldCells k5 l5).toArray] t5)/\(¬j5=0->∀p5:Nat,∃q5:List Value,Row base o5 42 1 t1 u1 v1 q5/\(u1+1)*8<=140737488355328/\u1+1<=9223372036854775807/\∀(r5:O)(s5:Nat)(t5:Heap),Grew base o5 t5 t1 v1 r5 s5 (u1+1)->Row base t5 42 1 r5 (u1+1) s5 (q5++
 [I Z j5])->∀u5:Int,u5=W Z (w1+1)->w7=w7/\∃v5:Nat,v5<s1/\q1 v5 [S r5 (u1+1) s5,I Z u5,A w5] t5)))/\(¬w1<(hl:Int)->K (T #[A w5,S t1 u1 v1,I Z 0]) [] f3)) #[I Z x1,S y1 z1 a2,S b2 c2 d2,S e2 f2 g2,I Z h2,S i2 j2 k2,I Z l2,I Z m2,B n2,S o2 p2 q2,I Z r2,S s2 t2 u2,S v2 w2 x2,B y2,S z2 a3 b3,S c3 d3 e3])) #[I Z i,S j k l,S m n o,S p q r,I Z s,S t u v,I Z w,I Z x,B y,S z a1 b1,I Z c1,S d1 e1 f1,S g1 h1 i1,B j1,S k1 l1 m1,S n1 o1 p1])))) [[I Z 0,S none 0 0,S none 0 0,S none 0 0,I Z 0,S none 0 0,I Z 0,I Z 0,B false,S none 0 0,I Z 0,S none 0 0,S none 0 0,B false,S none 0 0,S none 0 0]]) [A #[I Z id,S fa fl fc,S ra rl rc,S wa wl wc,I Z bud,S la ll lc,I Z now,I Z goal,B back,S ka kl kc,I Z nx,S sa sl sc,S ta tl tc,B up,S na nl nc,S ma ml mc]]):=by kernel_rfl
open Go Go.Proofs
def noWld:Wld:=⟨⟨⟨0,[]⟩,[],[],0⟩,⟨noLdr,dsk0,false⟩,[],[]⟩
def noWA:WA:=⟨none,0,0,none,0,0,none,0,0,none,0,0,none,0,0,none,0,0,none,0,0,none,0,0,none,0,0⟩
def okW:Except Int Wld->Wld
 | .ok w=>w
 | .error _=>noWld
theorem WldAt.zero{H:Heap} :WldAt H noWld noWA:=⟨⟨Sl.nil,Sl.nil,Sl.nil⟩,⟨Sl.nil,Sl.nil⟩,DskAt.zero,Sl.nil,Sl.nil⟩
theorem wTell_err{w:Wld}{x:Hap}{e:Int}(h:wTell w x= .error e):e≠0:=by
 unfold wTell at h
 split at h
 ·rename_i hn;injection h with h;exact h▸hn
 ·split at h
  ·split at h
   ·injection h with h;omega
   ·split at h
    ·injection h with h;omega
    ·cases h
  ·split at h
   ·rename_i hl;injection h with h;exact h▸wLead_err hl
   ·cases h
theorem wStep_err{w:Wld}{x:Hap}{n:Nod}{e:Int}(h:wStep w x n= .error e):e≠0:=by
 unfold wStep at h
 split at h
 ·injection h with h;omega
 ·split at h
  ·rename_i hn;injection h with h;exact h▸hn
  ·split at h
   ·exact wDoes_err h
   ·split at h
    ·rename_i hl;injection h with h;exact h▸wDoes_err hl
    ·cases h
theorem wPower_err{w:Wld}{x:Hap}{e:Int}(h:wPower w x= .error e):e≠0:=by
 unfold wPower at h
 split at h
 ·split at h
  ·injection h with h;omega
  ·split at h
   ·rename_i hn;injection h with h;exact h▸hn
   ·split at h
    ·rename_i hl;injection h with h;exact h▸ledReplay_err hl
    ·cases h
 ·split at h
  ·injection h with h;omega
  ·split at h
   ·injection h with h;omega
   ·split at h
    ·rename_i hn;injection h with h;exact h▸hn
    ·split at h
     ·rename_i hl;injection h with h;exact h▸agtReplay_err hl
     ·cases h
theorem wHear_err{w:Wld}{x:Hap}{e:Int}(h:wHear w x= .error e):e≠0:=by
 unfold wHear at h
 split at h
 ·rename_i hn;injection h with h;exact h▸hn
 ·split at h
  ·injection h with h;omega
  ·split at h
   ·injection h with h;omega
   ·dsimp only at h
    split at h
    ·cases h
    ·split at h<;>cases h
theorem wHap_err{w:Wld}{x:Hap}{e:Int}(h:wHap w x= .error e):e≠0:=by
 unfold wHap at h
 split at h
 ·exact wHear_err h
 ·split at h
  ·split at h
   ·rename_i hn;injection h with h;exact h▸hn
   ·cases h
  ·split at h
   ·split at h
    ·injection h with h;omega
    ·exact wLead_err h
   ·split at h
    ·injection h with h;omega
    ·split at h
     ·injection h with h;omega
     ·split at h
      ·split at h
       ·injection h with h;omega
       ·exact wTell_err h
      ·split at h
       ·exact wPower_err h
       ·split at h
        ·injection h with h;omega
        ·split at h
         ·injection h with h;omega
         ·split at h
          ·exact wStep_err h
          ·split at h
           ·injection h with h;omega
           ·cases h
theorem OwnW.shut{base:Nat}{G H:Heap}{w:Wld}{p:WA}{rows:List (List Value)}(h:OwnW base G H w p rows):
  ∃G2,WldAt G2 w p/\Ext G2 H/\Ext G G2/\∀x k,G2 x=some k->G x=some k∨(p.nc≠0/\p.na=some ⟨x,0,none⟩):=by
 by_cases hc:p.nc=0
 ·have hnl:p.nl=0:=by have:=h.nod.row.2.1;omega
  have hn:w.n=[]:=List.length_eq_zero_iff.1 (by have:=(h.nod.rlen (by omega)).2;omega)
  refine⟨G,⟨h.parts.cfg,h.parts.ldr,h.parts.dsk,?_,h.parts.mail⟩,h.nod.sub,Ext.refl _,fun x k hx=> .inl hx⟩
  have hO:OwnSl RNod 10 58 base G G p.na p.nl p.nc rows w.n:=⟨⟨h.nod.row.1,h.nod.row.2.1,h.nod.row.2.2.1,.inl ⟨hnl,hc⟩⟩,h.nod.wid,h.nod.all,Ext.refl _,fun h=>absurd hc h⟩
  exact hO.sl RNod.mono (by omega)
 ·obtain⟨g,k,hg,hk⟩:=h.nod.block hc
  have hcl:=h.nod.clear hc g hg
  let G2:Heap:=fun x=>if x=g then H g else G x
  have e1:Ext G G2:=fun x kx hx=>by
   have:x≠g:=fun e=>by rw[e,hcl] at hx;cases hx
   simp only[G2,if_neg this];exact hx
  have e2:Ext G2 H:=fun x kx hx=>by
   by_cases e:x=g
   ·subst e;simp only[G2,if_true] at hx;exact hx
   ·simp only[G2,if_neg e] at hx;exact h.nod.sub x kx hx
  have hO:OwnSl RNod 10 58 base G G2 p.na p.nl p.nc rows w.n:=by
   obtain⟨r1,r2,r3,r4⟩:=h.nod.row
   refine⟨⟨r1,r2,r3,r4.imp id fun⟨g',k',h1,h2,h3,h4⟩=>⟨g',k',h1,h2,?_,h4⟩⟩,h.nod.wid,h.nod.all,e1,h.nod.clear⟩
   have:g'=g:=by rw[hg] at h1;simp at h1;exact h1.symm
   subst this
   simp only[G2,if_true];exact h3
  have hp:=h.parts.ext e1
  refine⟨G2,⟨hp.cfg,hp.ldr,hp.dsk,hO.sl RNod.mono (by omega),hp.mail⟩,e2,e1,fun x kx hx=> ?_⟩
  by_cases e:x=g
  ·subst e;exact .inr ⟨hc,hg⟩
  ·simp only[G2,if_neg e] at hx;exact .inl hx
theorem cDoM{H:Heap}(hL:Lb H){w:Wld}{p:WA}(hw:WldAt H w p){x:Hap}{a:O}{l c:Nat}(hx:Pins H a l x.lock):
  Spec Tryz.prog 27 [wldArg w p,hapArg x a l c] H fun v H'=>∃p',v= .tuple #[wldArg (okW (wDo w x)) p',i64 (errOf (wDo w x))]/\WldAt H' (okW (wDo w x)) p'/\p'.ml<=p'.mc:=by
 refine TryzvcH Tryz.func27 (by kernel_rfl) (by kernel_rfl) _ rfl (fun base K=>vx27 w.c.first.id w.c.bud p.fa p.ra p.wa p.fl p.fc p.rl p.rc p.wl p.wc w.h.l.now w.h.l.goal w.h.l.nx w.h.l.back p.la p.ka p.ll p.lc p.kl p.kc p.sa p.ta p.sl p.sc p.tl p.tc w.h.up p.na p.ma p.nl p.nc p.ml p.mc x.kind x.agent x.num x.good a l c base H K) fun base hb=>fun b b' b''=> ?_
 refine(cCheck hL hw).int1 fun H1 e1 hN1=>⟨fun he=> ?_,fun he=> ?_⟩
 ·have hE:wDo w x= .error (wldErr w):=by unfold wDo;rw[if_pos he]
  rw[hE]
  exact⟨noWA,rfl,WldAt.zero,Nat.le_refl 0⟩
 ·have he:=Decidable.not_not.1 he
  have hR:=wldErr_zero.1 he
  have hE:wDo w x=wHap w x:=by unfold wDo;rw[if_neg (by omega)]
  rw[hE]
  refine(cCopyW (hw.ext e1) hR).mono fun v H2 e2 hv=> ?_
  obtain⟨p',G,rows,rfl,eG,hN⟩:=hv
  refine⟨_,_,_,_,_,_,_,_,_,_,_,_,_,_,_,_,_,_,_,_,_,_,_,_,_,_,_,_,_,_,_,_,_,_,rfl,fun hN2=>⟨w,p',G,rows,x,a,l,c,⟨rfl,rfl,rfl,rfl⟩,⟨(hL.ext e1).ext eG,he,hN.own hN2,(hx.ext' e1).ext' eG⟩,rfl,fun e w' p'' G' rows' H' hP=> ?_⟩⟩
  obtain⟨hO,rfl,rfl⟩:=hP
  cases hh:wHap w x with
  |error e=>
   rw[hh] at hO
   exact⟨fun _=>⟨noWA,rfl,WldAt.zero,Nat.le_refl 0⟩,fun h0=>absurd (fun e0=>wHap_err hh e0) h0⟩
  |ok y=>
   rw[hh] at hO
   exact⟨fun h0=>absurd rfl h0,fun _=>⟨p'',rfl,hO.own.at_,hO.own.parts.room⟩⟩
abbrev Haps(H:Heap)(a:O)(n:Nat)(l:List Hap):Prop:=Sl RHap 5 H a n l
def ranW(w:Wld)(l:List Hap):Wld:=if runErr w l=0 then(wRunFrom w l).1 else noWld
def ranS(w:Wld)(l:List Hap):List Int:=if runErr w l=0 then(wRunFrom w l).2 else []
structure RunI(base:Nat)(H:Heap)(w:Wld)(l:List Hap)(k:Nat)(a:O)(c:Nat)(y:Wld)(q:WA)(said:List Int)(G0 H':Heap):Prop where
 le:k<=l.length
 row:Row base H' 42 1 a k c (said.map i64)
 at_:WldAt G0 y q
 right:WRight y
 from_:Ext H G0
 sub:Ext G0 H'
 apart:Apart G0 a c
 run:wRunFrom w l=((wRunFrom y (l.drop k)).1,said++(wRunFrom y (l.drop k)).2)
set_option maxHeartbeats 1000000 in
theorem cRun{H:Heap}(hL:Lb H){w:Wld}{p:WA}(hw:WldAt H w p){l:List Hap}{a:O}{n c:Nat}(hx:Haps H a n l):
  Spec Tryz.prog 39 [wldArg w p,.slice a n c] H fun v H'=>∃p' s sn sc,v= .tuple #[wldArg (ranW w l) p',.slice s sn sc,i64 (runErr w l)]/\WldAt H' (ranW w l) p'/\Sl RInt 1 H' s sn (ranS w l)/\sn<=sc:=by
 refine TryzvcH Tryz.func39 (by kernel_rfl) (by kernel_rfl) _ rfl (fun base K=>vx39 w.c.first.id w.c.bud p.fa p.ra p.wa p.fl p.fc p.rl p.rc p.wl p.wc w.h.l.now w.h.l.goal w.h.l.nx w.h.l.back p.la p.ka p.ll p.lc p.kl p.kc p.sa p.ta p.sl p.sc p.tl p.tc w.h.up p.na p.ma p.nl p.nc p.ml p.mc a n c base H K) fun base hb=>fun b b'=> ?_
 have hln:=hx.len
 refine(cCheck hL hw).int1 fun H1 e1 hN1=>⟨fun he=> ?_,fun he=> ?_⟩
 ·have hE:runErr w l=wldErr w:=by unfold runErr;rw[if_pos he]
  unfold ranW ranS
  rw[hE,if_neg he,if_neg he]
  exact⟨noWA,none,0,0,rfl,WldAt.zero,Sl.nil,Nat.le_refl _⟩
 ·have he:=Decidable.not_not.1 he
  have hR:=wldErr_zero.1 he
  refine⟨fun h5=> ?_,fun h5=> ?_⟩
  ·have hE:runErr w l=2:=by unfold runErr;rw[if_neg (by omega),if_pos (by omega)]
   unfold ranW ranS
   rw[hE,if_neg (by omega),if_neg (by omega)]
   exact⟨noWA,none,0,0,rfl,WldAt.zero,Sl.nil,Nat.le_refl _⟩
  ·have hE:runErr w l=0:=by unfold runErr;rw[if_neg (by omega),if_neg (by omega)]
   unfold ranW ranS
   rw[hE,if_pos rfl,if_pos rfl]
   refine(cCopyW (hw.ext e1) hR).mono fun v H2 e2 hv=> ?_
   obtain⟨p',G,rows,rfl,eG,hN⟩:=hv
   refine⟨_,_,_,_,_,_,_,_,_,_,_,_,_,_,_,_,_,_,_,_,_,_,_,_,_,_,_,_,_,_,_,_,_,_,rfl,fun hN2=> ?_⟩
   obtain⟨G2,hW2,eG2,eGG,hG2⟩:=(hN.own hN2).shut
   refine⟨fun m vs H'=>∃(k:Nat)(a:O)(c:Nat)(y:Wld)(q:WA)(said:List Int)(G0:Heap),vs=[.slice a k c,.int .i64 k,wldArg y q]/\m=l.length-k/\RunI base H w l k a c y q said G0 H',l.length,⟨0,none,0,w,p',[],G2,rfl,rfl,⟨Nat.zero_le _,Row.zero,hW2,hR,Ext.trans e1 (Ext.trans eG eGG),eG2,Apart.none,rfl⟩⟩,?_⟩
   intro m a1 n1 c1 n14 n15 a10 n16 c9 a11 n17 c10 a12 n18 c11 n19 a13 n20 c12 n21 n22 bb a14 n23 c13 n24 a15 n25 c14 a16 n26 c15 bb2 a17 n27 c16 a18 n28 c17 H' hNx hI
   obtain⟨k,a0,c0,y,q,said,G0,hvs,rfl,hI⟩:=hI
   simp only[List.cons.injEq,Value.slice.injEq,Value.int.injEq,true_and,Value.agg.injEq,Array.mk.injEq,Value.bool.injEq,and_true] at hvs
   obtain⟨⟨rfl,rfl,rfl⟩,rfl,rfl,⟨rfl,rfl,rfl⟩,⟨rfl,rfl,rfl⟩,⟨rfl,rfl,rfl⟩,rfl,⟨rfl,rfl,rfl⟩,rfl,rfl,rfl,⟨rfl,rfl,rfl⟩,rfl,⟨rfl,rfl,rfl⟩,⟨rfl,rfl,rfl⟩,rfl,⟨rfl,rfl,rfl⟩,rfl,rfl,rfl⟩:=hvs
   obtain⟨k,hk⟩:∃k,k=n1:=⟨_,rfl⟩
   subst hk
   refine⟨fun hlt=> ?_,fun hge=> ?_⟩
   ·have hkl:k<l.length:=by omega
    obtain⟨b3,o,r,x,ha,hxk,⟨ax,lx,cx,rfl,hpx⟩,hcell⟩:=hx.get (k:=(k:Int)) (by omega) (by omega)
    have cc:∀j v,(hapCells x ax lx cx)[j]?=some v->H'.cell b3 (o+(k:Int).toNat*5+j)=some v:=fun j v hj=>Heap.cell_next hNx.ext (hcell j v hj)
    refine⟨b3,o,ha,by omega,by omega,_,_,_,_,_,_,_,⟨cc 0 _ rfl,cc 1 _ rfl,cc 2 _ rfl,cc 3 _ rfl,cc 4 _ rfl,trivial⟩,fun b5=> ?_⟩
    refine((cCopyW hI.at_ hI.right).grown hI.sub).mono fun v H3 e3 hv=> ?_
    obtain⟨G1,g1,p2,Gc,rows2,rfl,eGc,hNew⟩:=hv
    refine⟨_,_,_,_,_,_,_,_,_,_,_,_,_,_,_,_,_,_,_,_,_,_,_,_,_,_,_,_,_,_,_,_,_,_,rfl,fun hN3=>fun b8=> ?_⟩
    have hN01:Vg.Next base G0 G1:=⟨g1.ext,fun z kz hz hn=>hN3.fresh z kz (g1.sub z kz hz) (g1.away z kz hz hn)⟩
    have hown:=(hNew.own hN01).ext g1.sub
    refine⟨y,p2,Gc,rows2,x,ax,lx,cx,⟨rfl,rfl,rfl,rfl⟩,⟨(hL.ext hI.from_).ext eGc,wldErr_zero.2 hI.right,hown,(hpx.ext' hI.from_).ext' eGc⟩,rfl,fun e w' p3 G' rows' H4 hP=> ?_⟩
    obtain⟨hO,rfl,rfl⟩:=hP
    have hnot:∀g kg,H' g=some kg->(p2.nc=0∨p2.na≠some ⟨g,0,none⟩):=fun g kg hg=>by
     by_cases hc:p2.nc=0
     ·exact .inl hc
     ·refine .inr fun e=> ?_
      obtain⟨r1,r2,r3,r4⟩:=hNew.row
      rcases r4 with⟨_,h0⟩|⟨g',k',q1,q2,q3,_⟩
      ·exact hc h0
      ·rw[e] at q1
       simp only[Option.some.injEq,Addr.mk.injEq,and_true] at q1
       subst q1
       rw[g1.away _ _ q3 q2] at hg;cases hg
    have eH4:Ext H' H4:=fun z kz hz=>hO.keep z kz (e3 z kz hz) (hnot z kz hz)
    have hrow:=hI.row.ext eH4
    have hdrop:l.drop k=x::l.drop (k+1):=by
     have:=List.drop_eq_getElem_cons hkl
     rw[this]
     congr 1
     have h2:=(List.getElem?_eq_some_iff.1 hxk).2
     simpa using h2
    have hrun:=hI.run
    rw[hdrop] at hrun
    have step:∀ {y':Wld} {q':WA} {G2:Heap} (_:WldAt G2 y' q')(_:WRight y')(_:Ext H G2)(_:Ext G2 H4)(_:Apart G2 a1 c1)(_:wRunFrom w l=((wRunFrom y' (l.drop (k+1))).1,(said++[errOf (wHap y x)])++(wRunFrom y' (l.drop (k+1))).2)),
      ∃(xs:List Value),Row base H4 42 1 a1 k c1 xs/\(k+1)*8<=140737488355328/\k+1<=9223372036854775807/\∀(a':O)(c':Nat)(H5:Heap),Grew base H4 H5 a1 c1 a' c' (k+1)->Row base H5 42 1 a' (k+1) c' (xs++[.int .i64 (errOf (wHap y x))])->∀(r:Int),r=IntKind.wrap .i64 ((k:Int)+1)->
       ∃m':Nat,m'<l.length-k/\∃(k2:Nat)(a:O)(c:Nat)(y2:Wld)(q:WA)(said:List Int)(G0:Heap),([.slice a' (k+1) c',.int .i64 r,wldArg y' q']:List Value)=[.slice a k2 c,.int .i64 k2,wldArg y2 q]/\m'=l.length-k2/\RunI base H w l k2 a c y2 q said G0 H5:=by
     intro y' q' G2 h1 h2 h3 h4 h5' h6
     refine⟨said.map i64,hrow,by omega,by omega,fun a' c' H5 hg hr r hrr=>⟨l.length-(k+1),by omega,k+1,a',c',y',q',said++[errOf (wHap y x)],G2,?_,rfl,?_⟩⟩
     ·rw[hrr,wrap_small (by omega) (by omega)];rfl
     ·obtain⟨f1,f2⟩:=h5'.grew h4 hg
      exact⟨by omega,by rw[List.map_append];exact hr,h1,h2,h3,f1,f2,h6⟩
    cases hh:wHap y x with
    |error e=>
     have hz:=wHap_err hh
     rw[hh] at hO step
     refine⟨fun h0=>absurd h0 hz,fun _=>fun b9=> ?_⟩
     obtain⟨xs,s1,s2,s3,s4⟩:=step hI.at_ hI.right hI.from_ (Ext.trans hI.sub eH4) hI.apart (by rw[hrun];simp only[wRunFrom,hh,List.append_assoc,List.singleton_append,errOf])
     exact⟨xs,s1,s2,s3,fun a' c' H5 hg hr r hrr=>⟨rfl,s4 a' c' H5 hg hr r hrr⟩⟩
    |ok y'=>
     rw[hh] at hO step
     refine⟨fun _=>fun b9=> ?_,fun h0=>absurd rfl h0⟩
     obtain⟨G2,k1,k2,k3,k4⟩:=hO.own.shut
     have hap:Apart G2 a1 c1:=fun hc z kz hz ha=>by
      obtain⟨r1,r2,r3,r4⟩:=hI.row
      rcases r4 with⟨_,h0⟩|⟨g',k',q1,q2,q3,_⟩
      ·exact hc h0
      ·rw[ha] at q1
       simp only[Option.some.injEq,Addr.mk.injEq,and_true] at q1
       subst q1
       have hG0:G0 z=none:=by
        cases hg:G0 z with
        |none=>rfl
        |some kg=>exact absurd ha (hI.apart hc z kg hg)
       have hG1:Gc z=none:=by
        cases hg:Gc z with
        |none=>rfl
        |some kg=>have:=g1.away z kg (hNew.sub z kg hg) hG0;rw[q3] at this;cases this
       rcases k4 z kz hz with h1|⟨h1,h2⟩
       ·have:=hO.away z kz h1 hG1
        rw[e3 z _ q3] at this;cases this
       ·rcases hnot z _ q3 with h3|h3
        ·exact h1 (hO.same.2.2.trans h3)
        ·exact h3 (hO.same.1.symm.trans h2)
     obtain⟨xs,s1,s2,s3,s4⟩:=step k1 (hI.right.hap hh).ok (Ext.trans hI.from_ (Ext.trans eGc (Ext.trans hO.ext k3))) k2 hap (by rw[hrun];simp only[wRunFrom,hh,List.append_assoc,List.singleton_append,errOf,orSame])
     exact⟨xs,s1,s2,s3,fun a' c' H5 hg hr r hrr=>⟨rfl,s4 a' c' H5 hg hr r hrr⟩⟩
   ·have hkl:k=l.length:=by have:=hI.le;omega
    have hrun:=hI.run
    rw[List.drop_eq_nil_of_le (by omega)] at hrun
    simp only[wRunFrom,List.append_nil] at hrun
    rw[hrun]
    exact⟨q,a1,k,c1,rfl,hI.at_.ext hI.sub,ints_of_row hI.row,hI.row.2.1⟩
open Go Go.Proofs
def newW(c:Conf):Wld:=if cfgErr c=0 then freshWld c else noWld
theorem conf_sizes{c:Conf}(h:cfgErr c=0):(c.first.lock.length<=100000/\c.rules.length<=100000/\c.waves.length<=100000/\∀x∈c.waves,x.length<=100000)/\1<=agentsOf c.waves/\agentsOf c.waves<=6:=by
 obtain⟨c1,c2,c3,c4,c5,c6,c7⟩:=cfgErr_zero h
 obtain⟨b1,b2,b3⟩:=brokenErr_zero.1 c5
 obtain⟨w1,w2⟩:=waves_small c7
 have w3:=(waveCheck_zero c7)
 have r:=relErr_zero c1
 refine⟨⟨by omega,by omega,by omega,fun x hx=>by have:=w2 x hx;omega⟩,w3.1,w3.2.1⟩
theorem cNewW{H:Heap}{c:Conf}{fa ra wa:O}{fl fc rl rc wl wc:Nat}(hc:CfgAt H c fa fl ra rl wa wl):
  Spec Tryz.prog 26 [cfgArg c fa fl fc ra rl rc wa wl wc] H fun v H'=>∃p',v= .tuple #[wldArg (newW c) p',i64 (cfgErr c)]/\WldAt H' (newW c) p':=by
 refine TryzvcK Tryz.func26 (by kernel_rfl) (by kernel_rfl) _ rfl (fun base K=>vk26 c.first.id c.bud fa ra wa fl fc rl rc wl wc base H K) fun base hb=>fun b b'=> ?_
 have hNL:=cNewL (fc:=fc) (rc:=rc) (wc:=wc) hc
 by_cases h:cfgErr c=0
 case neg=>
  have hE:newW c=noWld:=by unfold newW;rw[if_neg h]
  rw[hE]
  refine hNL.ldr fun la ll lc ka kl kc H1 e1 hN1 hA=>fun b1=>⟨fun h=> ?_,fun h2=>absurd h h2⟩
  exact⟨noWA,rfl,WldAt.zero⟩
 case pos=>
  have hE:newW c=freshWld c:=by unfold newW;rw[if_pos h]
  rw[hE,h]
  rw[if_pos h,h] at hNL
  refine hNL.ldr fun la ll lc ka kl kc H1 e1 hN1 hA=>fun b1=>⟨fun h2=>absurd rfl h2,fun _=> ?_⟩
  obtain⟨⟨s1,s2,s3,s4⟩,g1,g2⟩:=conf_sizes h
  refine⟨?_,fun b2=> ?_⟩
  all_goals
   refine Spec.cfg1 (cConfigC (hc.ext e1) (by rw[←hc.pins.len];exact s1) (by rw[←hc.rules.len];exact s2) (by rw[←hc.waves.len];exact s3) s4) fun fa' fl' fc' ra' rl' rc' wa' wl' wc' H2 e2 hN2 hC=> ?_
   first
    |refine fun(b3:Nat)=>(cAgents ((hc.ext e1).ext e2)).int1 fun H3 e3 hN3=> ?_
    |refine(cAgents ((hc.ext e1).ext e2)).int1 fun H3 e3 hN3=> ?_
   have hq:relErr c.first=0:=(cfgErr_zero h).1
   obtain⟨N,hNn⟩:∃N:Nat,N=(agentsOf c.waves).toNat:=⟨_,rfl⟩
   have hP:Parts H3 ⟨c,⟨newLdr c,dsk0,true⟩,[],[]⟩ ⟨fa',fl',fc',ra',rl',rc',wa',wl',wc',la,ll,lc,ka,kl,kc,none,0,0,none,0,0,none,0,0,none,0,0⟩:=⟨hC.ext e3,(hA.ext e2).ext e3,DskAt.zero,Sl.nil,Nat.le_refl 0⟩
   refine⟨fun m vs H'=>∃(k:Nat)(a:O)(ca:Nat)(rows:List (List Value))(G:Heap),vs=[.int .i64 k,wldArg ⟨c,⟨newLdr c,dsk0,true⟩,List.replicate k (freshNod c.first),[]⟩ ⟨fa',fl',fc',ra',rl',rc',wa',wl',wc',la,ll,lc,ka,kl,kc,none,0,0,none,0,0,a,k,ca,none,0,0⟩]/\m=N-k/\k<=N/\OwnSl RNod 10 58 base G H' a k ca rows (List.replicate k (freshNod c.first))/\Ext H3 G,N,⟨0,none,0,[],H3,rfl,rfl,by omega,OwnSl.zero (Ext.refl _),Ext.refl _⟩,?_⟩
   intro m n12 n13 a9 n14 c5 a10 n15 c6 a11 n16 c7 n17 a12 n18 c8 n19 n20 b3 a13 n21 c9 n22 a14 n23 c10 a15 n24 c11 b4 a16 n25 c12 a17 n26 c13 H' hNx hI
   obtain⟨k,a,ca,rows,G,hvs,rfl,hkN,hO,eG⟩:=hI
   simp only[List.cons.injEq,Value.slice.injEq,Value.int.injEq,true_and,Value.agg.injEq,Array.mk.injEq,Value.bool.injEq,and_true] at hvs
   obtain⟨rfl,rfl,⟨rfl,rfl,rfl⟩,⟨rfl,rfl,rfl⟩,⟨rfl,rfl,rfl⟩,rfl,⟨rfl,rfl,rfl⟩,rfl,rfl,rfl,⟨rfl,rfl,rfl⟩,rfl,⟨rfl,rfl,rfl⟩,⟨rfl,rfl,rfl⟩,rfl,⟨rfl,rfl,rfl⟩,rfl,rfl,rfl⟩:=hvs
   obtain⟨k,hk⟩:∃k,k=n25:=⟨_,rfl⟩
   subst hk
   refine⟨fun hlt=> ?_,fun hge=> ?_⟩
   ·have hpG:Pins G fa fl c.first.lock:=(((hc.pins.ext' e1).ext' e2).ext' e3).ext' eG
    have hcN:=cNew (c:=fc) (r:=c.first) hpG
    rw[if_pos hq,hq] at hcN
    refine(hcN.grown hO.sub).mono fun v H4 e4 hv=> ?_
    obtain⟨G1,g1,xa,xl,xc,ga,gl,gc,rfl,q1,q2⟩:=hv
    have hO':=hO.grown RNod.mono g1
    refine⟨_,_,_,_,_,_,_,_,_,_,_,_,rfl,fun hN4=>fun b7 b8=>⟨rows.flatten,hO'.row,by omega,by omega,fun a' c' H5 hg hr r hrr=>⟨rfl,N-(k+1),by omega,k+1,a',c',rows++[nodCells (freshNod c.first) ⟨xa,xl,xc,ga,gl,gc,none,0,0,none,0,0⟩],G1,?_,rfl,by omega,?_,Ext.trans eG g1.ext⟩⟩⟩
    ·rw[hrr,wrap_small (by omega) (by omega)];rfl
    ·have hrep:List.replicate (k+1) (freshNod c.first)=List.replicate k (freshNod c.first)++[freshNod c.first]:=List.replicate_succ'
     rw[hrep]
     refine hO'.grew hg (rows':=[nodCells (freshNod c.first) ⟨xa,xl,xc,ga,gl,gc,none,0,0,none,0,0⟩]) (ys:=[freshNod c.first]) (by rw[List.flatten_singleton];exact hr) (by simp) ⟨⟨_,rfl,q1,q2,DskAt.zero⟩,trivial⟩
   ·have hkk:k=N:=by omega
    subst hkk
    have hP':=(hP.ext eG).ext hO.sub
    refine⟨⟨a9,n14,c5,a10,n15,c6,a11,n16,c7,a12,n18,c8,a13,n21,c9,none,0,0,none,0,0,a16,_,c12,none,0,0⟩,rfl,⟨hP'.cfg,hP'.ldr,hP'.dsk,?_,hP'.mail⟩⟩
    show Nods H' _ _ (List.replicate (agentsOf c.waves).toNat (freshNod c.first))
    rw[←hNn]
    exact hO.sl RNod.mono (by omega)
def errIdx(f:Int->Bool):Int->List Int->Int
 |_,[]=> -1
 |i,x::r=>if f x=true then i else errIdx f (i+1) r
theorem errIdx_any(f:Int->Bool):∀(l:List Int)(i:Int),0<=i->(0<=errIdx f i l↔l.any f=true)
 | [],i,_=>by simp[errIdx]
 |x::r,i,h=>by
  unfold errIdx
  split
  ·rename_i e;simp[h,e]
  ·rename_i e;rw[errIdx_any f r (i+1) (by omega)];simp[e]
theorem drop_errs{xs:List Int}{k:Nat}{x:Int}(h:xs[k]?=some x):xs.drop k=x::xs.drop (k+1):=by
 obtain⟨hk,h⟩:=List.getElem?_eq_some_iff.1 h
 rw[List.drop_eq_getElem_cons hk,h]
open Go Go.Proofs
theorem true_bool:Value.bool (@decide True (Classical.propDecidable True))= .bool true:=by simp
theorem Spec.wldE{P:Program}{f:FuncId}{args:List Value}{H:Heap}{w:Wld}{e:Int}(h:Spec P f args H fun v H'=>∃p,v= .tuple #[wldArg w p,i64 e]/\WldAt H' w p){base:Nat}
  {G:Int->O->Nat->Nat->O->Nat->Nat->O->Nat->Nat->Int->O->Nat->Nat->Int->Int->Bool->O->Nat->Nat->Int->O->Nat->Nat->O->Nat->Nat->Bool->O->Nat->Nat->O->Nat->Nat->Int->Heap->Prop} (hG:∀(p:WA) H',Ext H H'->Vg.Next base H H'->WldAt H' w p->G w.c.first.id p.fa p.fl p.fc p.ra p.rl p.rc p.wa p.wl p.wc w.c.bud p.la p.ll p.lc w.h.l.now w.h.l.goal w.h.l.back p.ka p.kl p.kc w.h.l.nx p.sa p.sl p.sc p.ta p.tl p.tc w.h.up p.na p.nl p.nc p.ma p.ml p.mc e H'):
  Spec P f args H fun v H'=>∃(n1:Int)(a2:O)(l2 c2:Nat)(a3:O)(l3 c3:Nat)(a4:O)(l4 c4:Nat)(n5:Int)(a6:O)(l6 c6:Nat)(n7:Int)(n8:Int)(b9:Bool)(a10:O)(l10 c10:Nat)(n11:Int)(a12:O)(l12 c12:Nat)(a13:O)(l13 c13:Nat)(b14:Bool)(a15:O)(l15 c15:Nat)(a16:O)(l16 c16:Nat)(e1:Int),v= .tuple #[.agg #[.int .i64 n1,.slice a2 l2 c2,.slice a3 l3 c3,.slice a4 l4 c4,.int .i64 n5,.slice a6 l6 c6,.int .i64 n7,.int .i64 n8,.bool b9,.slice a10 l10 c10,.int .i64 n11,.slice a12 l12 c12,.slice a13 l13 c13,.bool b14,.slice a15 l15 c15,.slice a16 l16 c16],.int .i64 e1]/\(Vg.Next base H H'->G n1 a2 l2 c2 a3 l3 c3 a4 l4 c4 n5 a6 l6 c6 n7 n8 b9 a10 l10 c10 n11 a12 l12 c12 a13 l13 c13 b14 a15 l15 c15 a16 l16 c16 e1 H'):=
 h.mono fun v H' ex hv=>by
  obtain⟨p,rfl,h1⟩:=hv
  exact⟨_,_,_,_,_,_,_,_,_,_,_,_,_,_,_,_,_,_,_,_,_,_,_,_,_,_,_,_,_,_,_,_,_,_,_,rfl,fun hN=>hG p H' ex hN h1⟩
theorem Spec.wldR{P:Program}{f:FuncId}{args:List Value}{H:Heap}{w:Wld}{e:Int}{l:List Int}(h:Spec P f args H fun v H'=>∃p s sn sc,v= .tuple #[wldArg w p,.slice s sn sc,i64 e]/\WldAt H' w p/\Sl RInt 1 H' s sn l/\sn<=sc){base:Nat}
  {G:Int->O->Nat->Nat->O->Nat->Nat->O->Nat->Nat->Int->O->Nat->Nat->Int->Int->Bool->O->Nat->Nat->Int->O->Nat->Nat->O->Nat->Nat->Bool->O->Nat->Nat->O->Nat->Nat->O->Nat->Nat->Int->Heap->Prop} (hG:∀(p:WA) s sn sc H',Ext H H'->Vg.Next base H H'->WldAt H' w p->Sl RInt 1 H' s sn l->sn<=sc->G w.c.first.id p.fa p.fl p.fc p.ra p.rl p.rc p.wa p.wl p.wc w.c.bud p.la p.ll p.lc w.h.l.now w.h.l.goal w.h.l.back p.ka p.kl p.kc w.h.l.nx p.sa p.sl p.sc p.ta p.tl p.tc w.h.up p.na p.nl p.nc p.ma p.ml p.mc s sn sc e H'):
  Spec P f args H fun v H'=>∃(n1:Int)(a2:O)(l2 c2:Nat)(a3:O)(l3 c3:Nat)(a4:O)(l4 c4:Nat)(n5:Int)(a6:O)(l6 c6:Nat)(n7:Int)(n8:Int)(b9:Bool)(a10:O)(l10 c10:Nat)(n11:Int)(a12:O)(l12 c12:Nat)(a13:O)(l13 c13:Nat)(b14:Bool)(a15:O)(l15 c15:Nat)(a16:O)(l16 c16:Nat)(a17:O)(l17 c17:Nat)(e1:Int),v= .tuple #[.agg #[.int .i64 n1,.slice a2 l2 c2,.slice a3 l3 c3,.slice a4 l4 c4,.int .i64 n5,.slice a6 l6 c6,.int .i64 n7,.int .i64 n8,.bool b9,.slice a10 l10 c10,.int .i64 n11,.slice a12 l12 c12,.slice a13 l13 c13,.bool b14,.slice a15 l15 c15,.slice a16 l16 c16],.slice a17 l17 c17,.int .i64 e1]/\(Vg.Next base H H'->G n1 a2 l2 c2 a3 l3 c3 a4 l4 c4 n5 a6 l6 c6 n7 n8 b9 a10 l10 c10 n11 a12 l12 c12 a13 l13 c13 b14 a15 l15 c15 a16 l16 c16 a17 l17 c17 e1 H'):=
 h.mono fun v H' ex hv=>by
  obtain⟨p,s,sn,sc,rfl,h1,h2,h3⟩:=hv
  exact⟨_,_,_,_,_,_,_,_,_,_,_,_,_,_,_,_,_,_,_,_,_,_,_,_,_,_,_,_,_,_,_,_,_,_,_,_,_,_,rfl,fun hN=>hG p s sn sc H' ex hN h1 h2 h3⟩
open Go Go.Proofs
theorem Spec.hap1{P:Program}{f:FuncId}{args:List Value}{H:Heap}{x:Hap}{a:O}{l c:Nat}(h:Spec P f args H fun v _=>v=hapArg x a l c){base:Nat}{G:Int->Int->Int->Bool->O->Nat->Nat->Heap->Prop}
  (hG:∀H',Ext H H'->Vg.Next base H H'->G x.kind x.agent x.num x.good a l c H'):
  Spec P f args H fun v H'=>∃(n n1 n2:Int)(b:Bool)(a:O)(n3 c:Nat),v= .agg #[.int .i64 n,.int .i64 n1,.int .i64 n2,.bool b,.slice a n3 c]/\(Vg.Next base H H'->G n n1 n2 b a n3 c H'):=
 h.mono fun v H' e hv=>⟨_,_,_,_,_,_,_,hv,fun hN=>hG H' e hN⟩
theorem cOf{H:Heap}(kind k:Int):Spec Tryz.prog 95 [.int .i64 kind,.int .i64 k] H fun v _=>v=hapArg (hOf kind k) none 0 0:=by
 refine TryzvcK Tryz.func95 (by kernel_rfl) (by kernel_rfl) _ rfl (fun base K=>vk95 kind k base H K) fun base hb=>fun b=> ?_
 rfl
def rowsH(l:List Hap):List (List Value):=l.map fun x=>hapCells x none 0 0
theorem rowsH_all{H:Heap} :∀ {l:List Hap},(∀x∈l,x.lock=[])->AllR RHap H (rowsH l) l
 | [],_=>trivial
 |x::q,h=>⟨⟨none,0,0,rfl,by rw[h x (by simp)];exact Sl.nil⟩,rowsH_all fun y hy=>h y (by simp[hy])⟩
theorem haps_of{H:Heap}{g n:Nat}{l:List Hap}(h:H g=some (boxKB 62 (rowsH l).flatten))(hl:∀x∈l,x.lock=[])(hn:l.length=n)(hle:(n:Int)<=9223372036854775807):Haps H (some ⟨g,0,none⟩) n l:=
 sl_of_rows h (by intro r hr;obtain⟨x,_,rfl⟩:=List.mem_map.1 hr;rfl) (rowsH_all hl) (by unfold rowsH;rw[List.length_map,hn]) hle
theorem cGo1{H:Heap}{b:Nat}(hb:H b=some (boxKB 141 [.func (.func 95) #[] #[]]))(k:Int):Spec Tryz.prog 96 [.int .i64 k,.pointer (some ⟨b,0,none⟩)] H fun v H'=>∃g,v= .slice (some ⟨g,0,none⟩) 6 6/\g≠b/\H' g=some (boxKB 62 (rowsH (roll1 k)).flatten):=by
 refine Spec.lend hb ?_
 refine TryzvcLO Tryz.func96 (by kernel_rfl) (own:=[⟨b,false,141,[.func (.func 95) #[] #[]]⟩]) (args:=[.v (.int .i64 k),.loc 0 0]) (by kernel_rfl) (by intro s hs;simp at hs;rcases hs with rfl|rfl<;>simp[SV.wf]) _ (fun base K=>vk96 b k base (hideB b H) K) fun base hbase hown=> ?_
 refine(cOf 3 k).hap1 fun H1 e1 hN1=>(cOf 9 0).hap1 fun H2 e2 hN2=>(cOf 7 k).hap1 fun H3 e3 hN3=>(cOf 7 k).hap1 fun H4 e4 hN4=>(cOf 7 k).hap1 fun H5 e5 hN5=>(cOf 9 0).hap1 fun H6 e6 hN6=>fun g H7 hN7 hgn hg=> ?_
 have h1:=hN7.fresh g _ hg hgn
 have h2:=hown _ List.mem_cons_self
 have hgb:g≠b:=by
  have h2:b<base:=h2
  omega
 refine⟨rfl,g,rfl,hgb,?_⟩
 unfold showB
 rw[if_neg hgb]
 exact hg
theorem cNonR{H:Heap}(e:Int):Spec Tryz.prog 99 [.int .i64 e] H fun v _=>v= .bool (decide (¬e=0)):=by
 refine TryzvcK Tryz.func99 (by kernel_rfl) (by kernel_rfl) _ rfl (fun base K=>vk99 e base H K) fun base hb=> ?_
 rfl
theorem cNonS{H:Heap}(e:Int):Spec Tryz.prog 100 [.int .i64 e] H fun v _=>v= .bool (decide (¬e=0)):=by
 refine TryzvcK Tryz.func100 (by kernel_rfl) (by kernel_rfl) _ rfl (fun base K=>vk100 e base H K) fun base hb=> ?_
 rfl
theorem cIdxR{H:Heap}{a:O}{l c:Nat}{xs:List Int}(hx:Sl RInt 1 H a l xs):Spec Tryz.prog 98 [.slice a l c,.func (.func 99) #[] #[]] H fun v _=>v=i64 (errIdx (fun e=>decide (¬e=0)) 0 xs):=by
 refine TryzvcK Tryz.func98 (by kernel_rfl) (by kernel_rfl) _ rfl (fun base K=>vk98b a l c base H K) fun base hb=> ?_
 have hl:=hx.len
 have hle:=hx.le
 refine⟨fun m vs _=>∃(d:Int)(k:Nat),vs=[i64 d,i64 k]/\m=l-k/\k<=l/\errIdx (fun e=>decide (¬e=0)) k (xs.drop k)=errIdx (fun e=>decide (¬e=0)) 0 xs,l,⟨0,0,rfl,rfl,by omega,rfl⟩,fun m d n H' hN hI=> ?_⟩
 obtain⟨d',k,hvs,rfl,hk,hI⟩:=hI
 obtain⟨rfl,rfl⟩:d=d'/\n=(k:Int):=by simpa using hvs
 refine⟨fun hlt=> ?_,fun hge=> ?_⟩
 ·obtain⟨b,o,r,x,ha,hxk,hr,hcell⟩:=hx.get (k:=(k:Int)) (by omega) hlt
  obtain rfl:=hr
  refine⟨b,o,ha,by omega,hlt,_,Heap.cell_next hN.ext (hcell 0 _ rfl),?_⟩
  have hx2:xs[k]?=some x:=by simpa using hxk
  have hdr:=drop_errs hx2
  rw[hdr,errIdx] at hI
  refine(cNonR x).bool1 fun H2 e2 _=>⟨fun he=> ?_,fun he=>fun r hr=>⟨l-(k+1),by omega,d,k+1,?_,rfl,by omega,?_⟩⟩
  ·rw[if_pos he] at hI
   rw[hI]
  ·rw[hr,wrap_in (by omega) (by omega)];rfl
  ·rw[if_neg (by rw[he];simp)] at hI
   exact hI
 ·have hkk:k=l:=by omega
  rw[List.drop_eq_nil_of_le (by omega)] at hI
  rw[←hI];rfl
theorem cIdxS{H:Heap}{a:O}{l c:Nat}{xs:List Int}(hx:Sl RInt 1 H a l xs):Spec Tryz.prog 98 [.slice a l c,.func (.func 100) #[] #[]] H fun v _=>v=i64 (errIdx (fun e=>decide (¬e=0)) 0 xs):=by
 refine TryzvcK Tryz.func98 (by kernel_rfl) (by kernel_rfl) _ rfl (fun base K=>vk98c a l c base H K) fun base hb=> ?_
 have hl:=hx.len
 have hle:=hx.le
 refine⟨fun m vs _=>∃(d:Int)(k:Nat),vs=[i64 d,i64 k]/\m=l-k/\k<=l/\errIdx (fun e=>decide (¬e=0)) k (xs.drop k)=errIdx (fun e=>decide (¬e=0)) 0 xs,l,⟨0,0,rfl,rfl,by omega,rfl⟩,fun m d n H' hN hI=> ?_⟩
 obtain⟨d',k,hvs,rfl,hk,hI⟩:=hI
 obtain⟨rfl,rfl⟩:d=d'/\n=(k:Int):=by simpa using hvs
 refine⟨fun hlt=> ?_,fun hge=> ?_⟩
 ·obtain⟨b,o,r,x,ha,hxk,hr,hcell⟩:=hx.get (k:=(k:Int)) (by omega) hlt
  obtain rfl:=hr
  refine⟨b,o,ha,by omega,hlt,_,Heap.cell_next hN.ext (hcell 0 _ rfl),?_⟩
  have hx2:xs[k]?=some x:=by simpa using hxk
  have hdr:=drop_errs hx2
  rw[hdr,errIdx] at hI
  refine(cNonS x).bool1 fun H2 e2 _=>⟨fun he=> ?_,fun he=>fun r hr=>⟨l-(k+1),by omega,d,k+1,?_,rfl,by omega,?_⟩⟩
  ·rw[if_pos he] at hI
   rw[hI]
  ·rw[hr,wrap_in (by omega) (by omega)];rfl
  ·rw[if_neg (by rw[he];simp)] at hI
   exact hI
 ·have hkk:k=l:=by omega
  rw[List.drop_eq_nil_of_le (by omega)] at hI
  rw[←hI];rfl
theorem cAnyNonS{H:Heap}{a:O}{l c:Nat}{xs:List Int}(hx:Sl RInt 1 H a l xs):Spec Tryz.prog 73 [.slice a l c,.func (.func 100) #[] #[]] H fun v _=>v= .bool (xs.any fun e=>decide (¬e=0)):=by
 refine TryzvcK Tryz.func73 (by kernel_rfl) (by kernel_rfl) _ rfl (fun base K=>vk73b a l c base H K) fun base hb=> ?_
 refine(cIdxS hx).int1 fun H1 e1 hN1=> ?_
 have:=errIdx_any (fun e=>decide (¬e=0)) xs 0 (by omega)
 show Value.bool _=Value.bool _
 congr 1
 cases hq:(xs.any fun e=>decide (¬e=0)) with
 |true=>exact decide_eq_true (this.2 hq)
 |false=>exact decide_eq_false fun h0=>by rw[this.1 h0] at hq;cases hq
def partS:List (List Hap):=[[⟨1,0,0,false,s2.lock⟩,⟨2,0,2,false,[]⟩,hOf 3 0],roll1 1,roll1 0,roll1 2,[hOf 6 0]]
theorem part_flat:partS.flatten=rollS:=rfl
theorem roll_idx:errIdx (fun e=>decide (¬e=0)) 0 rollE=2:=by decide+kernel
theorem roll_any:(((rollE.drop 3).take 19).any fun e=>decide (¬e=0))=false:=by decide+kernel
theorem cRolled{H:Heap}(hL:Lb H):Spec Tryz.prog 30 [] H fun v _=>v= .bool true:=by
 refine TryzvcL Tryz.func30 (by kernel_rfl) (by kernel_rfl) _ rfl (fun base K=>vk30 base H K) fun base hb=>fun b=> ?_
 refine cSmall.mono fun v H1 e1 hv=> ?_
 obtain⟨a,n,c,a1,n1,c1,a2,n2,c2,rfl,hC⟩:=hv
 refine⟨_,_,_,_,_,_,_,_,_,_,_,rfl,fun hN1=> ?_⟩
 have hNW:=cNewW (fc:=c) (rc:=c1) (wc:=c2) hC
 rw[cS_ok,show newW cS=freshWld cS from by unfold newW;rw[if_pos cS_ok]] at hNW
 refine hNW.wldE fun p H2 e2 hN2 hW=>fun b2=> ?_
 refine cSecond.mono fun v H3 e3 hv=> ?_
 obtain⟨sa,sn,sc,rfl,hS⟩:=hv
 refine⟨_,_,_,_,rfl,fun hN3=> ?_⟩
 have hL:=((hL.ext e1).ext e2).ext e3
 have hW:=hW.ext e3
 refine(cOf 3 0).hap1 fun H4 e4 hN4=> ?_
 have hL:=hL.ext e4
 have hW:=hW.ext e4
 have hS:=hS.ext' e4
 refine⟨?l1,?r1⟩
 case' l1=>
  intro g Hx11 hNx11 hgn11 hg
  have hL:=hL.ext hNx11.ext
  have hW:=hW.ext hNx11.ext
  have hS:=hS.ext' hNx11.ext
  refine⟨rfl,fun Hl12 hl12 hk12=>(cGo1 hk12.1 1).mono fun v Hm12 em12 hv=> ?_⟩
  obtain⟨q1,rfl,hbq1,hq1⟩:=hv
  refine⟨_,_,_,rfl,fun Hx12 hNx12 hkeep12=> ?_⟩
  have hq1:=hkeep12 q1 _ hq1 (by intro x hx;simp only[List.mem_singleton] at hx;subst hx;exact hbq1)
  have hL:=hL.ext hNx12.ext
  have hW:=hW.ext hNx12.ext
  have hS:=hS.ext' hNx12.ext
  have hg:=hNx12.ext _ _ hg
  refine⟨rfl,fun Hl13 hl13 hk13=>(cGo1 hk13.1 0).mono fun v Hm13 em13 hv=> ?_⟩
  obtain⟨q0,rfl,hbq0,hq0⟩:=hv
  refine⟨_,_,_,rfl,fun Hx13 hNx13 hkeep13=> ?_⟩
  have hq0:=hkeep13 q0 _ hq0 (by intro x hx;simp only[List.mem_singleton] at hx;subst hx;exact hbq0)
  have hL:=hL.ext hNx13.ext
  have hW:=hW.ext hNx13.ext
  have hS:=hS.ext' hNx13.ext
  have hg:=hNx13.ext _ _ hg
  have hq1:=hNx13.ext _ _ hq1
  refine⟨rfl,fun Hl14 hl14 hk14=>(cGo1 hk14.1 2).mono fun v Hm14 em14 hv=> ?_⟩
  obtain⟨q2,rfl,hbq2,hq2⟩:=hv
  refine⟨_,_,_,rfl,fun Hx14 hNx14 hkeep14=> ?_⟩
  have hq2:=hkeep14 q2 _ hq2 (by intro x hx;simp only[List.mem_singleton] at hx;subst hx;exact hbq2)
  have hL:=hL.ext hNx14.ext
  have hW:=hW.ext hNx14.ext
  have hS:=hS.ext' hNx14.ext
  have hg:=hNx14.ext _ _ hg
  have hq1:=hNx14.ext _ _ hq1
  have hq0:=hNx14.ext _ _ hq0
  refine(cOf 6 0).hap1 fun Hx15 ex15 hNx15=> ?_
  have hL:=hL.ext ex15
  have hW:=hW.ext ex15
  have hS:=hS.ext' ex15
  have hg:=ex15 _ _ hg
  have hq1:=ex15 _ _ hq1
  have hq0:=ex15 _ _ hq0
  have hq2:=ex15 _ _ hq2
  intro g1 Hx16 hNx16 hgn16 hg1
  have hL:=hL.ext hNx16.ext
  have hW:=hW.ext hNx16.ext
  have hS:=hS.ext' hNx16.ext
  have hg:=hNx16.ext _ _ hg
  have hq1:=hNx16.ext _ _ hq1
  have hq0:=hNx16.ext _ _ hq0
  have hq2:=hNx16.ext _ _ hq2
  intro g2 Hx17 hNx17 hgn17 hg2
  have hL:=hL.ext hNx17.ext
  have hW:=hW.ext hNx17.ext
  have hS:=hS.ext' hNx17.ext
  have hg:=hNx17.ext _ _ hg
  have hq1:=hNx17.ext _ _ hq1
  have hq0:=hNx17.ext _ _ hq0
  have hq2:=hNx17.ext _ _ hq2
  have hg1:=hNx17.ext _ _ hg1
 case' r1=>
  refine⟨rfl,fun Hl18 hl18 hk18=>(cGo1 hk18.1 1).mono fun v Hm18 em18 hv=> ?_⟩
  obtain⟨q1,rfl,hbq1,hq1⟩:=hv
  refine⟨_,_,_,rfl,fun Hx18 hNx18 hkeep18=> ?_⟩
  have hq1:=hkeep18 q1 _ hq1 (by intro x hx;simp only[List.mem_singleton] at hx;subst hx;exact hbq1)
  have hL:=hL.ext hNx18.ext
  have hW:=hW.ext hNx18.ext
  have hS:=hS.ext' hNx18.ext
  refine⟨?l2,?r2⟩
  case' l2=>
   intro g Hx19 hNx19 hgn19 hg
   have hL:=hL.ext hNx19.ext
   have hW:=hW.ext hNx19.ext
   have hS:=hS.ext' hNx19.ext
   have hq1:=hNx19.ext _ _ hq1
   refine⟨rfl,fun Hl20 hl20 hk20=>(cGo1 hk20.1 0).mono fun v Hm20 em20 hv=> ?_⟩
   obtain⟨q0,rfl,hbq0,hq0⟩:=hv
   refine⟨_,_,_,rfl,fun Hx20 hNx20 hkeep20=> ?_⟩
   have hq0:=hkeep20 q0 _ hq0 (by intro x hx;simp only[List.mem_singleton] at hx;subst hx;exact hbq0)
   have hL:=hL.ext hNx20.ext
   have hW:=hW.ext hNx20.ext
   have hS:=hS.ext' hNx20.ext
   have hq1:=hNx20.ext _ _ hq1
   have hg:=hNx20.ext _ _ hg
   refine⟨rfl,fun Hl21 hl21 hk21=>(cGo1 hk21.1 2).mono fun v Hm21 em21 hv=> ?_⟩
   obtain⟨q2,rfl,hbq2,hq2⟩:=hv
   refine⟨_,_,_,rfl,fun Hx21 hNx21 hkeep21=> ?_⟩
   have hq2:=hkeep21 q2 _ hq2 (by intro x hx;simp only[List.mem_singleton] at hx;subst hx;exact hbq2)
   have hL:=hL.ext hNx21.ext
   have hW:=hW.ext hNx21.ext
   have hS:=hS.ext' hNx21.ext
   have hq1:=hNx21.ext _ _ hq1
   have hg:=hNx21.ext _ _ hg
   have hq0:=hNx21.ext _ _ hq0
   refine(cOf 6 0).hap1 fun Hx22 ex22 hNx22=> ?_
   have hL:=hL.ext ex22
   have hW:=hW.ext ex22
   have hS:=hS.ext' ex22
   have hq1:=ex22 _ _ hq1
   have hg:=ex22 _ _ hg
   have hq0:=ex22 _ _ hq0
   have hq2:=ex22 _ _ hq2
   intro g1 Hx23 hNx23 hgn23 hg1
   have hL:=hL.ext hNx23.ext
   have hW:=hW.ext hNx23.ext
   have hS:=hS.ext' hNx23.ext
   have hq1:=hNx23.ext _ _ hq1
   have hg:=hNx23.ext _ _ hg
   have hq0:=hNx23.ext _ _ hq0
   have hq2:=hNx23.ext _ _ hq2
   intro g2 Hx24 hNx24 hgn24 hg2
   have hL:=hL.ext hNx24.ext
   have hW:=hW.ext hNx24.ext
   have hS:=hS.ext' hNx24.ext
   have hq1:=hNx24.ext _ _ hq1
   have hg:=hNx24.ext _ _ hg
   have hq0:=hNx24.ext _ _ hq0
   have hq2:=hNx24.ext _ _ hq2
   have hg1:=hNx24.ext _ _ hg1
  case' r2=>
   refine⟨rfl,fun Hl25 hl25 hk25=>(cGo1 hk25.1 0).mono fun v Hm25 em25 hv=> ?_⟩
   obtain⟨q0,rfl,hbq0,hq0⟩:=hv
   refine⟨_,_,_,rfl,fun Hx25 hNx25 hkeep25=> ?_⟩
   have hq0:=hkeep25 q0 _ hq0 (by intro x hx;simp only[List.mem_singleton] at hx;subst hx;exact hbq0)
   have hL:=hL.ext hNx25.ext
   have hW:=hW.ext hNx25.ext
   have hS:=hS.ext' hNx25.ext
   have hq1:=hNx25.ext _ _ hq1
   refine⟨?l3,?r3⟩
   case' l3=>
    intro g Hx26 hNx26 hgn26 hg
    have hL:=hL.ext hNx26.ext
    have hW:=hW.ext hNx26.ext
    have hS:=hS.ext' hNx26.ext
    have hq1:=hNx26.ext _ _ hq1
    have hq0:=hNx26.ext _ _ hq0
    refine⟨rfl,fun Hl27 hl27 hk27=>(cGo1 hk27.1 2).mono fun v Hm27 em27 hv=> ?_⟩
    obtain⟨q2,rfl,hbq2,hq2⟩:=hv
    refine⟨_,_,_,rfl,fun Hx27 hNx27 hkeep27=> ?_⟩
    have hq2:=hkeep27 q2 _ hq2 (by intro x hx;simp only[List.mem_singleton] at hx;subst hx;exact hbq2)
    have hL:=hL.ext hNx27.ext
    have hW:=hW.ext hNx27.ext
    have hS:=hS.ext' hNx27.ext
    have hq1:=hNx27.ext _ _ hq1
    have hq0:=hNx27.ext _ _ hq0
    have hg:=hNx27.ext _ _ hg
    refine(cOf 6 0).hap1 fun Hx28 ex28 hNx28=> ?_
    have hL:=hL.ext ex28
    have hW:=hW.ext ex28
    have hS:=hS.ext' ex28
    have hq1:=ex28 _ _ hq1
    have hq0:=ex28 _ _ hq0
    have hg:=ex28 _ _ hg
    have hq2:=ex28 _ _ hq2
    intro g1 Hx29 hNx29 hgn29 hg1
    have hL:=hL.ext hNx29.ext
    have hW:=hW.ext hNx29.ext
    have hS:=hS.ext' hNx29.ext
    have hq1:=hNx29.ext _ _ hq1
    have hq0:=hNx29.ext _ _ hq0
    have hg:=hNx29.ext _ _ hg
    have hq2:=hNx29.ext _ _ hq2
    intro g2 Hx30 hNx30 hgn30 hg2
    have hL:=hL.ext hNx30.ext
    have hW:=hW.ext hNx30.ext
    have hS:=hS.ext' hNx30.ext
    have hq1:=hNx30.ext _ _ hq1
    have hq0:=hNx30.ext _ _ hq0
    have hg:=hNx30.ext _ _ hg
    have hq2:=hNx30.ext _ _ hq2
    have hg1:=hNx30.ext _ _ hg1
   case' r3=>
    refine⟨rfl,fun Hl31 hl31 hk31=>(cGo1 hk31.1 2).mono fun v Hm31 em31 hv=> ?_⟩
    obtain⟨q2,rfl,hbq2,hq2⟩:=hv
    refine⟨_,_,_,rfl,fun Hx31 hNx31 hkeep31=> ?_⟩
    have hq2:=hkeep31 q2 _ hq2 (by intro x hx;simp only[List.mem_singleton] at hx;subst hx;exact hbq2)
    have hL:=hL.ext hNx31.ext
    have hW:=hW.ext hNx31.ext
    have hS:=hS.ext' hNx31.ext
    have hq1:=hNx31.ext _ _ hq1
    have hq0:=hNx31.ext _ _ hq0
    refine⟨?l4,?r4⟩
    case' l4=>
     intro g Hx32 hNx32 hgn32 hg
     have hL:=hL.ext hNx32.ext
     have hW:=hW.ext hNx32.ext
     have hS:=hS.ext' hNx32.ext
     have hq1:=hNx32.ext _ _ hq1
     have hq0:=hNx32.ext _ _ hq0
     have hq2:=hNx32.ext _ _ hq2
     refine(cOf 6 0).hap1 fun Hx33 ex33 hNx33=> ?_
     have hL:=hL.ext ex33
     have hW:=hW.ext ex33
     have hS:=hS.ext' ex33
     have hq1:=ex33 _ _ hq1
     have hq0:=ex33 _ _ hq0
     have hq2:=ex33 _ _ hq2
     have hg:=ex33 _ _ hg
     intro g1 Hx34 hNx34 hgn34 hg1
     have hL:=hL.ext hNx34.ext
     have hW:=hW.ext hNx34.ext
     have hS:=hS.ext' hNx34.ext
     have hq1:=hNx34.ext _ _ hq1
     have hq0:=hNx34.ext _ _ hq0
     have hq2:=hNx34.ext _ _ hq2
     have hg:=hNx34.ext _ _ hg
     intro g2 Hx35 hNx35 hgn35 hg2
     have hL:=hL.ext hNx35.ext
     have hW:=hW.ext hNx35.ext
     have hS:=hS.ext' hNx35.ext
     have hq1:=hNx35.ext _ _ hq1
     have hq0:=hNx35.ext _ _ hq0
     have hq2:=hNx35.ext _ _ hq2
     have hg:=hNx35.ext _ _ hg
     have hg1:=hNx35.ext _ _ hg1
    case' r4=>
     refine(cOf 6 0).hap1 fun Hx36 ex36 hNx36=> ?_
     have hL:=hL.ext ex36
     have hW:=hW.ext ex36
     have hS:=hS.ext' ex36
     have hq1:=ex36 _ _ hq1
     have hq0:=ex36 _ _ hq0
     have hq2:=ex36 _ _ hq2
     refine⟨?l5,?r5⟩
     case' l5=>
      intro g Hx37 hNx37 hgn37 hg
      have hL:=hL.ext hNx37.ext
      have hW:=hW.ext hNx37.ext
      have hS:=hS.ext' hNx37.ext
      have hq1:=hNx37.ext _ _ hq1
      have hq0:=hNx37.ext _ _ hq0
      have hq2:=hNx37.ext _ _ hq2
      intro g1 Hx38 hNx38 hgn38 hg1
      have hL:=hL.ext hNx38.ext
      have hW:=hW.ext hNx38.ext
      have hS:=hS.ext' hNx38.ext
      have hq1:=hNx38.ext _ _ hq1
      have hq0:=hNx38.ext _ _ hq0
      have hq2:=hNx38.ext _ _ hq2
      have hg:=hNx38.ext _ _ hg
      intro g2 Hx39 hNx39 hgn39 hg2
      have hL:=hL.ext hNx39.ext
      have hW:=hW.ext hNx39.ext
      have hS:=hS.ext' hNx39.ext
      have hq1:=hNx39.ext _ _ hq1
      have hq0:=hNx39.ext _ _ hq0
      have hq2:=hNx39.ext _ _ hq2
      have hg:=hNx39.ext _ _ hg
      have hg1:=hNx39.ext _ _ hg1
     case' r5=>
      intro g1 Hx40 hNx40 hgn40 hg1
      have hL:=hL.ext hNx40.ext
      have hW:=hW.ext hNx40.ext
      have hS:=hS.ext' hNx40.ext
      have hq1:=hNx40.ext _ _ hq1
      have hq0:=hNx40.ext _ _ hq0
      have hq2:=hNx40.ext _ _ hq2
      intro g Hx41 hNx41 hgn41 hg
      have hL:=hL.ext hNx41.ext
      have hW:=hW.ext hNx41.ext
      have hS:=hS.ext' hNx41.ext
      have hq1:=hNx41.ext _ _ hq1
      have hq0:=hNx41.ext _ _ hq0
      have hq2:=hNx41.ext _ _ hq2
      have hg1:=hNx41.ext _ _ hg1
      intro g2 Hx42 hNx42 hgn42 hg2
      have hL:=hL.ext hNx42.ext
      have hW:=hW.ext hNx42.ext
      have hS:=hS.ext' hNx42.ext
      have hq1:=hNx42.ext _ _ hq1
      have hq0:=hNx42.ext _ _ hq0
      have hq2:=hNx42.ext _ _ hq2
      have hg1:=hNx42.ext _ _ hg1
      have hg:=hNx42.ext _ _ hg
 all_goals
  have hP:Sl (RSl RHap 5) 1 _ (some ⟨g2,0,none⟩) 5 partS:=sl_of_rows (rs:=[[.slice (some ⟨g,0,none⟩) 3 3],[.slice (some ⟨q1,0,none⟩) 6 6],[.slice (some ⟨q0,0,none⟩) 6 6],[.slice (some ⟨q2,0,none⟩) 6 6],[.slice (some ⟨g1,0,none⟩) 1 1]]) hg2 (by simp) ⟨⟨_,_,_,rfl,sl_of_rows (rs:=[hapCells ⟨1,0,0,false,s2.lock⟩ sa sn sc,hapCells ⟨2,0,2,false,[]⟩ none 0 0,hapCells (hOf 3 0) none 0 0]) hg (by simp) ⟨⟨_,_,_,rfl,hS⟩,⟨_,_,_,rfl,Sl.nil⟩,⟨_,_,_,rfl,Sl.nil⟩,trivial⟩ rfl (by decide)⟩,⟨_,_,_,rfl,haps_of hq1 (by decide) rfl (by decide)⟩,⟨_,_,_,rfl,haps_of hq0 (by decide) rfl (by decide)⟩,⟨_,_,_,rfl,haps_of hq2 (by decide) rfl (by decide)⟩,⟨_,_,_,rfl,haps_of (l:=[hOf 6 0]) hg1 (by decide) rfl (by decide)⟩,trivial⟩ rfl (by decide)
  refine(cConcatH (c:=5) hP (by omega) (by decide)).mono fun v H6 e6 hv=> ?_
  obtain⟨ra,rn,rc,rfl,_,hR⟩:=hv
  refine⟨_,_,_,rfl,fun hN6=> ?_⟩
  rw[part_flat] at hR
  have hRun:=cRun (c:=rc) (hL.ext e6) (hW.ext e6) hR
  rw[rolled_run,show ranW (freshWld cS) rollS=(wRunFrom (freshWld cS) rollS).1 from by unfold ranW;rw[if_pos rolled_run],show ranS (freshWld cS) rollS=rollE from by unfold ranS;rw[if_pos rolled_run];exact rolled_rel.2] at hRun
  obtain⟨nd,r1,r2,r3,r4,r5⟩:=rolled_end
  generalize (wRunFrom (freshWld cS) rollS).1=w at*
  refine hRun.wldR fun p2 s sn2 sc2 H7 e7 hN7 hW7 hSaid hcap=> ?_
  have h22:sn2=22:=by have:=hSaid.len;rw[←this];rfl
  subst h22
  refine(cIdxR (c:=sc2) hSaid).int1 fun H8 e8 hN8=> ?_
  rw[roll_idx]
  have hW8:=hW7.ext e8
  have hSaid8:=Sl.ext RInt.mono hSaid e8
  refine⟨True,⟨fun _=>⟨fun _=>⟨fun _=>⟨fun _=> ?_,fun h=>absurd rfl h⟩,fun h=>absurd rfl h⟩,fun h=>absurd rfl h⟩,fun h=>absurd rfl h⟩,true_bool⟩
  obtain⟨b3,o3,rr,xx,ha3,hx3,hr3,hc3⟩:=hSaid8.get (k:=2) (by decide) (by decide)
  obtain rfl:xx=7:=by
   have hx3:rollE[2]?=some xx:=hx3
   exact(Option.some.inj hx3).symm
  obtain rfl:=hr3
  refine⟨b3,o3,ha3,by decide,by decide,7,hc3 0 _ rfl,fun _=>⟨by decide,by decide,hcap,fun a' ha'=> ?_⟩,fun h=>absurd rfl h⟩
  have hDrop:=hSaid8.sub (l:=3) (m:=19) (a':=a') (by decide) (fun _=>ha' (by omega))
  refine(cAnyNonS (c:=sc2-3) hDrop).bool1 fun H9 e9 hN9=> ?_
  rw[roll_any]
  have hml:p2.ml=0:=by have:=hW7.mail.len;rw[r3] at this;simpa using this.symm
  have hnl:=hW7.nod.len
  have h2n:=(List.getElem?_eq_some_iff.1 r4).1
  obtain⟨b4,o4,rr4,x4,ha4,hx4,⟨q4,rfl,hq4⟩,hc4⟩:=(hW8.ext e9).nod.get (k:=2) (by decide) (by omega)
  obtain rfl:x4=nd:=by
   have hx4:w.n[2]?=some x4:=hx4
   rw[r4] at hx4;exact(Option.some.inj hx4).symm
  exact⟨fun _=>⟨fun _=>⟨fun _=>⟨fun _=>⟨b4,o4,ha4,by decide,by omega,_,hc4 1 _ rfl,rfl,e9,⟨fun _=>r5,fun _=>trivial⟩⟩,fun h=>absurd (by omega) h⟩,fun h=>absurd r2 h⟩,fun h=>absurd r1 h⟩,fun h=>absurd rfl h⟩
open Go Go.Proofs
theorem wDo_ok{w y:Wld}{x:Hap}(h:wDo w x= .ok y):WRight w/\wHap w x= .ok y:=by
 unfold wDo at h
 split at h
 ·cases h
 ·rename_i h0
  exact⟨wldErr_zero.1 (Decidable.not_not.1 h0),h⟩
theorem wDo_err{w:Wld}{x:Hap}{e:Int}(h:wDo w x= .error e):e≠0:=by
 unfold wDo at h
 split at h
 ·rename_i h0;injection h with h;omega
 ·exact wHap_err h
theorem mailsCheck_40{ms:List Mail}(h:mailsCheck ms=0):ms.length<=40:=(mailsCheck_zero h).1
theorem cWorldKeeps{H:Heap}(hL:Lb H){w:Wld}{p:WA}(hw:WldAt H w p){x:Hap}{a:O}{l c:Nat}(hx:Pins H a l x.lock):
  Spec Tryz.prog 8 [wldArg w p,hapArg x a l c] H fun v _=>v= .bool true:=by
 refine TryzvcP Tryz.func8 (by kernel_rfl) (by kernel_rfl) _ rfl (fun base K=>vk8 w.c.first.id w.c.bud p.fa p.ra p.wa p.fl p.fc p.rl p.rc p.wl p.wc w.h.l.now w.h.l.goal w.h.l.nx w.h.l.back p.la p.ka p.ll p.lc p.kl p.kc p.sa p.ta p.sl p.sc p.tl p.tc w.h.up p.na p.ma p.nl p.nc p.ml p.mc x.kind x.agent x.num x.good a l c base H K) fun base hb=>fun b b1=> ?_
 have hD:=cDoM (c:=c) hL hw hx
 cases hd:wDo w x with
 |error e=>
  rw[hd] at hD
  refine hD.mono fun v H1 e1 hv=> ?_
  obtain⟨p1,rfl,hw1,hr1⟩:=hv
  refine⟨_,_,_,_,_,_,_,_,_,_,_,_,_,_,_,_,_,_,_,_,_,_,_,_,_,_,_,_,_,_,_,_,_,_,_,rfl,fun hN1=>fun b3=> ?_⟩
  exact⟨True,(cRolled (hL.ext e1)).bool1 fun H2 e2 hN2=>⟨fun h=>(by cases h),fun _=>⟨rfl,e2,⟨fun _=>wDo_err hd,fun _=>trivial⟩⟩⟩,fun _=>(cRolled (hL.ext e1)).bool1 fun _ _ _=>rfl,fun h=>absurd trivial h⟩
 |ok y=>
  rw[hd,show okW (Except.ok (ε:=Int) y)=y from rfl] at hD
  obtain⟨hR,hy⟩:=wDo_ok hd
  have hE:=hR.hap hy
  refine hD.mono fun v H1 e1 hv=> ?_
  obtain⟨p1,rfl,hw1,hr1⟩:=hv
  have hw1:WldAt H1 y p1:=hw1
  refine⟨_,_,_,_,_,_,_,_,_,_,_,_,_,_,_,_,_,_,_,_,_,_,_,_,_,_,_,_,_,_,_,_,_,_,_,rfl,fun hN1=>fun b3=> ?_⟩
  refine⟨False,(cRolled (hL.ext e1)).bool1 fun H2 e2 hN2=>⟨fun h=>(by cases h),fun _=>⟨rfl,e2,⟨fun h=>h.elim,fun h=>absurd rfl h⟩⟩⟩,fun h=>h.elim,fun _=> ?_⟩
  refine(cCheck (hL.ext e1) hw1).int1 fun H2 e2 hN2=>⟨fun h=>absurd (wldErr_zero.2 hE.ok) h,fun _=> ?_⟩
  have E2:=Ext.trans e1 e2
  have hM40:=mailsCheck_40 hR.mail
  have hml:=hw.mail.len
  have hMail:(x.kind=9∨x.kind=10∨x.kind=11)->(0<=x.num/\x.num<p.ml)/\∃b o a' n' c',p.ma=some ⟨b,o,none⟩/\∀j v,(mailVal (took w.m x.num) a' n' c')[j]?=some v->H2.cell b (o+x.num.toNat*6+j)=some v:=fun h=>by
   obtain⟨t1,t2,t3,t4⟩:=took_mem (hap_take h hy)
   obtain⟨b,o,r,m,ha,hm,⟨a',n',c',rfl,hp⟩,hc⟩:=(hw.ext E2).mail.get t2 (by omega)
   have hm2:took w.m x.num=m:=by rw[took,List.getD_eq_getElem?_getD,hm];rfl
   rw[hm2]
   exact⟨⟨t2,by omega⟩,b,o,a',n',c',ha,hc⟩
  refine⟨x.kind=9∨x.kind=10∨x.kind=11,⟨fun h=>⟨rfl,subH,.inl h⟩,fun h1=>⟨fun h=>⟨rfl,subH,.inr (.inl h)⟩,fun h2=>⟨rfl,subH,⟨fun h=>by omega,fun h=> .inr (.inr h)⟩⟩⟩⟩,fun vs=>∃n:Int,vs=[i64 n]/\(x.kind≠11->hapWho w x=n∨(n<0/\hapWho w x<0)),?_,?_⟩
  ·refine⟨1<=x.kind/\x.kind<=6,⟨fun h=>⟨rfl,subH,by omega⟩,fun h1=>⟨fun h=>⟨rfl,subH,by omega⟩,fun h2=>⟨fun h=>⟨rfl,subH,by omega⟩,fun h3=>⟨fun h=>⟨rfl,subH,by omega⟩,fun h4=>⟨fun h=>⟨rfl,subH,by omega⟩,fun h5=>⟨rfl,subH,by omega⟩⟩⟩⟩⟩⟩,fun h16=>⟨rfl,subH,-1,rfl,fun _=> .inl (by unfold hapWho;rw[if_pos h16])⟩,fun h16=> ?_⟩
   refine⟨(x.kind=9∨x.kind=10∨x.kind=11)/\(took w.m x.num).rep=true,⟨fun h=> ?_,fun h=>⟨rfl,subH,fun h2=>h h2.1⟩⟩,fun h=>⟨rfl,subH,-1,rfl,fun h11=> .inl (by unfold hapWho;rw[if_neg h16,if_pos (by omega),if_pos h.2])⟩,fun h=>⟨fun hm=> ?_,fun hm=>⟨rfl,subH,x.agent,rfl,fun h11=> ?_⟩⟩⟩
   ·obtain⟨⟨t1,t2⟩,b,o,a',n',c',ha,hc⟩:=hMail h
    exact⟨b,o,ha,t1,t2,_,hc 2 _ rfl,rfl,subH,⟨fun h2=>h2.2,fun h2=>⟨h,h2⟩⟩⟩
   ·obtain⟨⟨t1,t2⟩,b,o,a',n',c',ha,hc⟩:=hMail hm
    refine⟨b,o,ha,t1,t2,_,hc 0 _ rfl,rfl,subH,_,rfl,fun h11=> .inl ?_⟩
    unfold hapWho
    rw[if_neg h16,if_pos (by omega),if_neg (fun h2=>h ⟨hm,h2⟩)]
   ·unfold hapWho
    rw[if_neg h16,if_neg (by omega)]
    by_cases hg:x.agent<0
    ·rw[if_pos hg];exact .inr ⟨hg,by omega⟩
    ·rw[if_neg hg];exact .inl rfl
  rintro n16 ⟨n,hn,hwho⟩
  have hnn:n16=n:=by simpa using hn
  subst hnn
  have hHead:(0<=n16∨x.kind=11)->y.h=w.h:=fun h=>by
   by_cases h11:x.kind=11
   ·exact(hap_lose h11 hy).1
   ·have:=hwho h11
    exact hE.head (by omega)
  have hNode:∀i:Nat,((i:Int)≠n16∨x.kind=11)->y.n[i]?=w.n[i]?:=fun i h=>by
   by_cases h11:x.kind=11
   ·rw[(hap_lose h11 hy).2]
   ·have:=hwho h11
    exact hE.node i (by omega)
  refine⟨False,⟨fun h0=> ?_,fun _=>⟨fun h0=> ?_,fun _=>⟨rfl,subH,id⟩⟩⟩,fun h=>h.elim,fun _=> ?_⟩
  ·skip
   have hh:=hHead (.inl h0)
   refine⟨_,neqBool,fun hb=>absurd hb (by rw[hh];simp),fun _=>(cLdrSame (hw.ext E2).ldr (hw1.ext e2).ldr).bool1 fun H3 e3 hN3=>⟨fun hb=>absurd hb (by rw[hh];simp),fun _=>(cDiskSame ((hw.ext E2).ext e3).dsk ((hw1.ext e2).ext e3).dsk).bool1 fun H4 e4 hN4=>⟨rfl,Ext.trans e3 e4,⟨fun h=>h.elim,fun hb=>absurd hb (by rw[hh];simp)⟩⟩⟩⟩
  ·skip
   have hh:=hHead (.inr h0)
   refine⟨_,neqBool,fun hb=>absurd hb (by rw[hh];simp),fun _=>(cLdrSame (hw.ext E2).ldr (hw1.ext e2).ldr).bool1 fun H3 e3 hN3=>⟨fun hb=>absurd hb (by rw[hh];simp),fun _=>(cDiskSame ((hw.ext E2).ext e3).dsk ((hw1.ext e2).ext e3).dsk).bool1 fun H4 e4 hN4=>⟨rfl,Ext.trans e3 e4,⟨fun h=>h.elim,fun hb=>absurd hb (by rw[hh];simp)⟩⟩⟩⟩
  have hnl:=hw.nod.len
  have hnl1:=hw1.nod.len
  have hle:=hw.nod.le
  have hyn:=hE.len
  refine⟨fun m vs H'=>∃k:Nat,vs=[.bool false,i64 k]/\m=p.nl-k/\k<=p.nl/\Ext H2 H',p.nl,⟨0,rfl,by omega,by omega,Ext.refl _⟩,fun m b5 n17 H' hN' hI=> ?_⟩
  obtain⟨k,hvs,hm,hk,e3⟩:=hI
  obtain⟨rfl,rfl⟩:b5=false/\n17=(k:Int):=by simpa using hvs
  have hw':=(hw.ext E2).ext e3
  have hw1':=(hw1.ext e2).ext e3
  refine⟨fun hlt=> ?_,fun hge=> ?_⟩
  ·have hlt1:(k:Int)<p1.nl:=by omega
   have h0:(0:Int)<=(k:Int):=by omega
   obtain⟨bw,ow,rw1,x1,haw,hx1,⟨q1,rfl,hq1⟩,hcw⟩:=hw'.nod.get h0 hlt
   obtain⟨by1,oy,ry1,x2,hay,hx2,⟨q2,rfl,hq2⟩,hcy⟩:=hw1'.nod.get h0 hlt1
   rw[Int.toNat_natCast] at hx1 hx2
   refine⟨fun vs=>∃q1 q2,vs=[nodArg x1 q1,nodArg x2 q2]/\NodAt H' x1 q1/\NodAt H' x2 q2,?_,?_⟩
   ·repeat'
     first
     |exact⟨rfl,subH,q1,q2,rfl,hq1,hq2⟩
     |refine fun _=> ?_
     |refine⟨bw,ow,haw,h0,hlt,?_⟩
     |refine⟨by1,oy,hay,h0,hlt1,?_⟩
     |refine⟨_,_,_,_,_,_,_,_,_,_,_,_,_,_,_,_,_,_,⟨hcw 0 _ rfl,hcw 1 _ rfl,hcw 2 _ rfl,hcw 3 _ rfl,hcw 4 _ rfl,hcw 5 _ rfl,hcw 6 _ rfl,hcw 7 _ rfl,hcw 8 _ rfl,hcw 9 _ rfl,trivial⟩,?_⟩
     |refine⟨_,_,_,_,_,_,_,_,_,_,_,_,_,_,_,_,_,_,⟨hcy 0 _ rfl,hcy 1 _ rfl,hcy 2 _ rfl,hcy 3 _ rfl,hcy 4 _ rfl,hcy 5 _ rfl,hcy 6 _ rfl,hcy 7 _ rfl,hcy 8 _ rfl,hcy 9 _ rfl,trivial⟩,?_⟩
     |refine⟨?_,?_⟩
   ·rintro b6 b7 a18 n18 c9 n19 n20 b8 n21 a19 n22 c10 b9 a20 n23 c11 a21 n24 c12 b10 a22 n25 c13 n26 n27 b11 n28 a23 n29 c14 b12 a24 n30 c15 a25 n31 c16 b13 ⟨r1,r2,hp,hq1,hq2⟩
    simp only[List.cons.injEq,Value.slice.injEq,Value.int.injEq,true_and,Value.agg.injEq,Array.mk.injEq,Value.bool.injEq,and_true] at hp
    obtain⟨⟨⟨rfl,rfl,rfl⟩,rfl,rfl,rfl,rfl,⟨rfl,rfl,rfl⟩,rfl,⟨rfl,rfl,rfl⟩,⟨rfl,rfl,rfl⟩,rfl⟩,⟨⟨rfl,rfl,rfl⟩,rfl,rfl,rfl,rfl,⟨rfl,rfl,rfl⟩,rfl,⟨rfl,rfl,rfl⟩,⟨rfl,rfl,rfl⟩,rfl⟩⟩:=hp
    have hsame:(¬(k:Int)=n16∨x.kind=11)->x1=x2:=fun h=>by
     have:=hNode k h
     rw[hx1,hx2] at this
     exact(Option.some.inj this).symm
    refine⟨False,⟨fun h=> ?_,fun h=>⟨fun h11=> ?_,fun h11=>⟨rfl,subH,id⟩⟩⟩,fun h=>h.elim,fun _=>fun r hr=> ?_⟩
    ·skip
     obtain rfl:=hsame (.inl h)
     refine⟨_,neqBool,fun hb=>absurd hb (by simp),fun _=>(cAgtSame hq1.lock hq1.goal hq2.lock hq2.goal).bool1 fun H3 e3 hN3=>⟨fun hb=>absurd hb (by simp),fun _=>(cDiskSame (hq1.dsk.ext e3) (hq2.dsk.ext e3)).bool1 fun H4 e4 hN4=>⟨rfl,Ext.trans e3 e4,⟨fun h=>h.elim,fun hb=>absurd hb (by simp)⟩⟩⟩⟩
    ·skip
     obtain rfl:=hsame (.inr h11)
     refine⟨_,neqBool,fun hb=>absurd hb (by simp),fun _=>(cAgtSame hq1.lock hq1.goal hq2.lock hq2.goal).bool1 fun H3 e3 hN3=>⟨fun hb=>absurd hb (by simp),fun _=>(cDiskSame (hq1.dsk.ext e3) (hq2.dsk.ext e3)).bool1 fun H4 e4 hN4=>⟨rfl,Ext.trans e3 e4,⟨fun h=>h.elim,fun hb=>absurd hb (by simp)⟩⟩⟩⟩
    ·rw[wrap_in (by omega) (by omega)] at hr
     subst hr
     exact⟨rfl,p.nl-(k+1),by omega,k+1,rfl,rfl,by omega,e3⟩
  ·refine(cCloneMails hw'.mail (by omega)).mono fun v H5 e5 hv=> ?_
   obtain⟨a5,n5,c5,rs,rfl,hF,hwid,hA⟩:=hv
   refine⟨a5,n5,c5,rfl,fun hN5=> ?_⟩
   have hO:OwnSl RMail 6 74 base H' H5 a5 n5 c5 rs w.m:=⟨hF.row hN5,hwid,hA,e5,fun hc g hg=>by
    rcases hF.2.2.2 with⟨_,h0⟩|⟨g',kg,q1,q2,_⟩
    ·exact absurd h0 hc
    ·rw[hg] at q1;simp at q1;subst q1;exact q2⟩
   obtain⟨_,hn5⟩:=hO.rlen (by omega)
   have e13:Ext H1 H':=Ext.trans e2 e3
   refine⟨(x.kind=9∨x.kind=10∨x.kind=11)/\¬x.kind=10,⟨fun h=>⟨rfl,subH,⟨fun h2=>h2.2,fun h2=>⟨h,h2⟩⟩⟩,fun h=>⟨rfl,subH,fun h2=>h h2.1⟩⟩,fun h=>fun r hr=> ?_,fun h=> ?_⟩
   ·obtain⟨⟨t1,t2⟩,_⟩:=hMail h.1
    rw[wrap_in (by omega) (by omega)] at hr
    refine⟨rs.flatten,x.num.toNat,x.num.toNat+1,by omega,by omega,by omega,by omega,by omega,hO.row,allOne_rows RMail.one hA,fun H6 hG hR6=> ?_⟩
    rw[flat_takeR x.num.toNat hwid,flat_dropR (x.num.toNat+1) hwid,←List.flatten_append] at hR6
    have hO6:=hO.regrew hG hR6 (fun r hr=>by
     rcases List.mem_append.1 hr with hr|hr
     ·exact hwid r (List.mem_of_mem_take hr)
     ·exact hwid r (List.mem_of_mem_drop hr)) (AllR.append (hA.drop (x.num.toNat+1)) (hA.take x.num.toNat))
    have hL6:=hO6.sl RMail.mono (by omega)
    have eX:Ext H1 H6:=Ext.trans e13 hO6.sub
    have hl6:=hE.mail
    rw[show hapLeft w x=w.m.take x.num.toNat++w.m.drop (x.num.toNat+1) from by unfold hapLeft;rw[if_pos (by omega),left,if_neg (by simp)]] at hl6
    generalize w.m.take x.num.toNat++w.m.drop (x.num.toNat+1)=l6 at hl6 hL6
    have hNl:=hL6.len
    have hyl:=hw1.mail.len
    have hyle:=hw1.mail.le
    have hlen:l6.length<=y.m.length/\y.m.length<=l6.length+1:=by
     rcases hl6 with h|⟨m,h⟩
     ·rw[h];omega
     ·rw[h,List.length_append];simp
    have htk:y.m.take l6.length=l6:=by
     rcases hl6 with h|⟨m,h⟩
     ·rw[h,List.take_length]
     ·rw[h,List.take_left]
    refine⟨True,fun r hr=> ?_,true_bool⟩
    rw[wrap_in (by omega) (by omega)] at hr
    refine⟨fun h1=>⟨fun h2=> ?_,fun h2=>absurd (by omega) h2⟩,fun h1=>absurd (by omega) h1⟩
    refine⟨by omega,by omega,?_⟩
    rw[Int.toNat_natCast]
    have hpre:=(Sl.ext RMail.mono hw1.mail eX).sub (l:=0) (m:=x.num.toNat+(n5-(x.num.toNat+1))) (a':=p1.ma) (by omega) (fun _=>by cases p1.ma<;>simp[Addr.add])
    refine(cSame hpre hL6).bool1 fun H7 e7 hN7=>⟨rfl,e7,?_⟩
    rw[←hNl,List.drop_zero,htk]
    simp
   ·have hL6:=hO.sl RMail.mono (by omega)
    have eX:Ext H1 H5:=Ext.trans e13 e5
    have hl6:=hE.mail
    rw[show hapLeft w x=w.m from by unfold hapLeft;rw[if_neg (by omega)]] at hl6
    generalize w.m=l6 at hl6 hL6
    have hNl:=hL6.len
    have hyl:=hw1.mail.len
    have hyle:=hw1.mail.le
    have hlen:l6.length<=y.m.length/\y.m.length<=l6.length+1:=by
     rcases hl6 with h|⟨m,h⟩
     ·rw[h];omega
     ·rw[h,List.length_append];simp
    have htk:y.m.take l6.length=l6:=by
     rcases hl6 with h|⟨m,h⟩
     ·rw[h,List.take_length]
     ·rw[h,List.take_left]
    refine⟨True,fun r hr=> ?_,true_bool⟩
    rw[wrap_in (by omega) (by omega)] at hr
    refine⟨fun h1=>⟨fun h2=> ?_,fun h2=>absurd (by omega) h2⟩,fun h1=>absurd (by omega) h1⟩
    refine⟨by omega,by omega,?_⟩
    rw[Int.toNat_natCast]
    have hpre:=(Sl.ext RMail.mono hw1.mail eX).sub (l:=0) (m:=n5) (a':=p1.ma) (by omega) (fun _=>by cases p1.ma<;>simp[Addr.add])
    refine(cSame hpre hL6).bool1 fun H7 e7 hN7=>⟨rfl,e7,?_⟩
    rw[←hNl,List.drop_zero,htk]
    simp
end Go.Vg
namespace Go.Proofs.YtgaegoefbekndaaGreatDoor
open Go Go.Proofs Go.Vg
theorem noHandle{W:World}(h:laidMetH Tryz.prog Rows.storySaysRow.laid W):laidMet Tryz.prog Rows.storySaysRow.laid W:=by
 rw[MakeChecks.laidMetH_plain _ _ _ (by kernel_rfl)] at h
 exact h
theorem var_heap{P:Program}{W:World}{name:String}{g:Nat}{cs:Array Value}(hg:P.globalNamed name=some g)(h:W.var? P name=some cs):∃t fr,W.heap[g]?=some (.cells cs t fr):=by
 unfold World.var? at h
 rw[hg] at h
 simp only[Option.bind_some] at h
 split at h
 ·rename_i c t fr hc
  obtain rfl:=Option.some.inj h
  exact⟨t,fr,hc⟩
 ·cases h
theorem sentinel_row(u:TypeId)(h: Tryz.prog.typeName? 3 u=some ("*"++ "errors.errorString")):u= 334:=
 typeName_ptr_named (nm:= "errors.errorString") (by kernel_rfl) (by kernel_rfl) (by decide) u h
theorem lb_of_laid{W:World}(hL0:laidMetH Tryz.prog Rows.storySaysRow.laid W)(hsh:W.ShapedOpen Tryz.prog):Lb (heapOf W):=by
 have hL:laidMet Tryz.prog Rows.storySaysRow.laid W:=noHandle hL0
 have h3:=hL.tail.tail
 have h5:=h3.tail.tail
 have h6:=h5.tail
 have hT:=Lib.tabIs_of_head (k:= .u64) (zs:=Lib.pow10Tab) (g:= 5) (t:= 328) (e:= 301) (n:=20) (by kernel_rfl) (by kernel_rfl) Tryz.underlying328 Tryz.underlying301 (by kernel_rfl) (by kernel_rfl) h3
 have hstar: "*"++ "errors.errorString"= "*errors.errorString":=by decide
 obtain⟨ar,sr,hvr,-,-,-⟩:=laid_sentinel (g:= 2) h5 (by kernel_rfl) (by kernel_rfl) Tryz.underlying263 (fun u h=>sentinel_row u (by rw[hstar];exact h)) Tryz.underlying334 Tryz.underlying336 rfl rfl Tryz.underlying9 (by kernel_rfl) (by kernel_rfl)
 obtain⟨aq,sq,hvs,-,-,-⟩:=laid_sentinel (g:= 1) h6 (by kernel_rfl) (by kernel_rfl) Tryz.underlying263 (fun u h=>sentinel_row u (by rw[hstar];exact h)) Tryz.underlying334 Tryz.underlying336 rfl rfl Tryz.underlying9 (by kernel_rfl) (by kernel_rfl)
 obtain⟨m,hm⟩:=Go.Proofs.cell_of_shapedOpen_int (zero:= #[.int .i64 0]) (g:= 0) (t:= 3) hsh (of_decide_eq_true (by kernel_rfl)) (by kernel_rfl) rfl (by kernel_rfl) (by kernel_rfl) Tryz.underlying3
 refine⟨⟨m,(heapOf_cell hm).2⟩,?_,?_,?_⟩
 ·obtain⟨t,fr,h⟩:=var_heap (g:= 1) (by kernel_rfl) hvs
  exact⟨_,_,by unfold Heap.cell heapOf;rw[h];rfl⟩
 ·obtain⟨t,fr,h⟩:=var_heap (g:= 2) (by kernel_rfl) hvr
  exact⟨_,_,by unfold Heap.cell heapOf;rw[h];rfl⟩
 ·obtain⟨t,fr,h⟩:=var_heap (g:= 5) (by kernel_rfl) hT
  refine⟨_,by unfold heapOf;rw[h],by simp,fun j z hj=> ?_⟩
  simp[hj]
theorem laidOutT:laidOutB Tryz.pinned.checked.prog=true:=by kernel_rfl
theorem mapsRowedT:mapsRowed Tryz.pinned.checked.prog=true:=by kernel_rfl
theorem heardT: Tryz.pinned.checked.prog.stopsHeard=true:=by kernel_rfl
theorem keysT: Tryz.pinned.checked.prog.plainKeys=Rows.storySaysRow.plainKeys:=by kernel_rfl
theorem mainT: Tryz.pinned.checked.prog.mainIs=some (Rows.storySaysCard.stood.harness.1,Rows.storySaysCard.stood.harness.2.toList):=by kernel_rfl
noncomputable def laidWorld (os:Os):World:=World.laidAll Tryz.prog os Rows.storySaysRow.laid
theorem laid_os(os:Os):(laidWorld os).os=os:=World.laidAll_os _ _ _
theorem laid_met(os:Os)(args:Array Value):laidMetH Tryz.prog Rows.storySaysRow.laid ((laidWorld os).forCall (fun _ _=>0) ⟨#[],args,[]⟩).memory:=by
 rw[MakeChecks.laidMetH_plain _ _ _ (by kernel_rfl)]
 exact laidMet_laidAll _ (by kernel_rfl) (by kernel_rfl)
end Go.Proofs.YtgaegoefbekndaaGreatDoor
