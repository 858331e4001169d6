/- What is proved here: a part of the proof of laws of this seat: what a contract is, how it comes of a condition, contracts of the functions that are reached, the plain laws. -/
import Derived.Test.YtgaegoefbekndaaGreatDoorSE9
set_option linter.unusedSimpArgs false
set_option linter.unusedVariables false
set_option maxRecDepth 100000
namespace Go.Vg
open Go Go.Proofs
theorem SpecO.frame{P:Program}{f:FuncId}{args:List Value}{own:List Bx}{G H:Heap}{Q:Value->List (List Value)->Heap->Prop}(h:SpecO P f args own G Q)(e:Ext G H):
  SpecO P f args own H fun v css H'=>∃G',Ext G G'/\Ext G' H'/\Ext H H'/\(∀x k,G' x=some k->G x=none->H x=none)/\Q v css G':=fun w hw hb=>by
 have hid:∀x∈own,G x.b=none:=fun x hx=>by
  cases hg:G x.b with
  |none=>rfl
  |some k=>have:=hb.hid x hx;rw[e _ k hg] at this;cases this
 refine(h w (hw.sub e) ⟨hb.ok,hid,hb.apart⟩).mono fun en w' he=> ?_
 obtain⟨v,css,G',h1,h2,hB,hs,hbx,hN,hQ⟩:=he
 have hnew:∀x k,G' x=some k->G x=none->H x=none:=fun x k hx hn=>by
  have h0:=hN.fresh x k hx hn
  cases hh:H x with
  |none=>rfl
  |some k'=>have:=hw.lt hh;omega
 have hown:∀x k,H x=some k->x∉own.map Bx.b:=fun x k hx hm=>by
  obtain⟨y,hy,rfl⟩:=List.mem_map.1 hm
  rw[hb.hid y hy] at hx;cases hx
 have hsetb:∀y∈setAll own css,y.b∈own.map Bx.b:=by
  have key:∀(xs:List Bx)(cs:List (List Value)),∀y∈setAll xs cs,y.b∈xs.map Bx.b:=by
   intro xs
   induction xs with
   |nil=>intro cs y hy;cases cs<;>cases hy
   |cons x r ih=>
    intro cs y hy
    cases cs with
    |nil=>cases hy
    |cons c cs=>
     rcases List.mem_cons.1 hy with rfl|hy
     ·simp[Bx.set]
     ·exact List.mem_cons_of_mem _ (ih cs y hy)
  exact key own css
 refine⟨v,css,H.plus G',h1,h2,hB,fun x k hx=> ?_,⟨hbx.ok,fun y hy=> ?_,hbx.apart⟩,⟨plus_left,fun x k hx hn=> ?_⟩,G',hN.ext,plus_right fun x k hx k' hh=> ?_,plus_left,hnew,hQ⟩
 ·unfold Heap.plus at hx
  cases hh:H x with
  |some k'=>
   rw[hh] at hx
   obtain rfl:=Option.some.inj hx
   rw[hB.block x (hw.lt hh) (hown x _ hh)]
   exact hw x _ hh
  |none=>rw[hh] at hx;exact hs x k hx
 ·have h3:=hbx.hid y hy
  obtain⟨z,hz,hzy⟩:=List.mem_map.1 (hsetb y hy)
  have h4:=hb.hid z hz
  rw[hzy] at h4
  unfold Heap.plus
  rw[h4];exact h3
 ·unfold Heap.plus at hx
  rw[hn] at hx
  cases hg:G x with
  |none=>exact hN.fresh x k hx hg
  |some k'=>rw[e x k' hg] at hn;cases hn
 ·cases hg:G x with
  |none=>rw[hnew x k hx hg] at hh;cases hh
  |some k0=>
   have a1:=hN.ext x k0 hg
   have a2:=e x k0 hg
   rw[hx] at a1
   rw[hh] at a2
   rw[Option.some.inj a2,←Option.some.inj a1]
def lookB(own:List Bx)(x:Nat):Option KB:=(own.find? fun y=>y.b==x).map fun y=>boxKB y.ty y.cs
def seenBy(own:List Bx)(a:Nat)(H:Heap):Heap:=fun x=>if x=a then none else match H x with|some k=>some k|none=>lookB own x
def unseen(own:List Bx)(H:Heap):Heap:=fun x=>match lookB own x with|some _=>none|none=>H x
theorem lookB_mem{own:List Bx}{x:Nat}{k:KB}(h:lookB own x=some k):∃y∈own,y.b=x/\k=boxKB y.ty y.cs:=by
 unfold lookB at h
 cases hf:own.find? (fun y=>y.b==x) with
 |none=>rw[hf] at h;cases h
 |some y=>
  rw[hf] at h
  have:=List.find?_some hf
  exact⟨y,List.mem_of_find?_eq_some hf,by simpa using this,(Option.some.inj h).symm⟩
theorem lookB_none{own:List Bx}{x:Nat}(h:lookB own x=none):∀y∈own,y.b≠x:=fun y hy e=>by
 unfold lookB at h
 rw[Option.map_eq_none_iff,List.find?_eq_none] at h
 exact h y hy (by simpa using e)
theorem lookB_of{own:List Bx}(hn:(own.map Bx.b).Nodup){y:Bx}(hy:y∈own):lookB own y.b=some (boxKB y.ty y.cs):=by
 cases h:lookB own y.b with
 |none=>exact absurd rfl (lookB_none h y hy)
 |some k=>
  obtain⟨z,hz,hzb,rfl⟩:=lookB_mem h
  have:z=y:=by
   have key:∀(l:List Bx),(l.map Bx.b).Nodup->z∈l->y∈l->z=y:=by
    intro l
    induction l with
    |nil=>intro _ h;cases h
    |cons x r ih=>
     intro hn hz hy
     rw[List.map_cons,List.nodup_cons] at hn
     rcases List.mem_cons.1 hz with e1|hz
     ·rcases List.mem_cons.1 hy with e2|hy
      ·rw[e1,e2]
      ·exact absurd (List.mem_map_of_mem (f:=Bx.b) hy) (by rw[←hzb,e1];exact hn.1)
     ·rcases List.mem_cons.1 hy with e2|hy
      ·exact absurd (List.mem_map_of_mem (f:=Bx.b) hz) (by rw[hzb,e2];exact hn.1)
      ·exact ih hn.2 hz hy
   exact key own hn hz hy
  rw[this]
theorem seenBy_ext{own:List Bx}{a:Nat}{H:Heap}(h:H a=none):Ext H (seenBy own a H):=fun x k hx=>by
 unfold seenBy
 rw[if_neg (fun e=>by rw[e,h] at hx;cases hx),hx]
theorem unseen_sub{own:List Bx}{H:Heap} :Ext (unseen own H) H:=fun x k h=>by
 unfold unseen at h
 split at h
 ·cases h
 ·exact h
theorem box_sees{y:Bx}{w:World}(h:y.ok w)(hm:y.map=false):(boxKB y.ty y.cs).sees w.heap[y.b]?:=by
 unfold Bx.ok at h
 rw[hm] at h
 exact⟨_,_,h,by simp[boxKB],fun _=>rfl,fun j v hj=>by simpa[boxKB] using hj⟩
theorem sees_box{y:Bx}{w:World}(h:(boxKB y.ty y.cs).sees w.heap[y.b]?)(hm:y.map=false):y.ok w:=by
 obtain⟨cur,fr,h1,h2,h3,h4⟩:=h
 unfold Bx.ok
 rw[hm]
 show w.heap[y.b]?=some (.cells y.cs.toArray y.ty (0,0))
 rw[h1,h3 rfl]
 have e:cur=y.cs.toArray:=by
  apply Array.ext
  ·rw[h2];simp[boxKB]
  ·intro j hj1 hj2
   have:=h4 j (y.cs[j]'(by simpa using hj2)) (by simp[boxKB])
   rw[Array.getElem?_eq_getElem hj1] at this
   simpa using Option.some.inj this
 rw[e];rfl
def patchW(own:List Bx)(w0 w:World):World:= { w0 with heap:=Array.ofFn (n:=w0.heap.size) fun k=>if own.any (fun y=>y.b==k.val) then(w.heap[k.val]?).getD w0.heap[k] else w0.heap[k] }
theorem patch_size{own:List Bx}{w0 w:World} :(patchW own w0 w).heap.size=w0.heap.size:=by simp[patchW]
theorem patch_other{own:List Bx}{w0 w:World}{k:Nat}(h:∀y∈own,y.b≠k):(patchW own w0 w).heap[k]?=w0.heap[k]?:=by
 have hf:own.any (fun y=>y.b==k)=false:=by
  rw[List.any_eq_false];intro y hy;simpa using h y hy
 rcases Nat.lt_or_ge k w0.heap.size with hk|hk
 ·rw[Array.getElem?_eq_getElem (by rw[patch_size];exact hk),Array.getElem?_eq_getElem hk]
  simp only[patchW,Array.getElem_ofFn,hf,Bool.false_eq_true,if_false]
  rfl
 ·rw[Array.getElem?_eq_none (by rw[patch_size];exact hk),Array.getElem?_eq_none hk]
theorem patch_box{own:List Bx}{w0 w:World}{k:Nat}{y:Bx}(hy:y∈own)(hb:y.b=k)(hk:k<w0.heap.size)(hle:w0.heap.size<=w.heap.size):(patchW own w0 w).heap[k]?=w.heap[k]?:=by
 have hf:own.any (fun y=>y.b==k)=true:=List.any_eq_true.2 ⟨y,hy,by simpa using hb⟩
 rw[Array.getElem?_eq_getElem (by rw[patch_size];exact hk),Array.getElem?_eq_getElem (Nat.lt_of_lt_of_le hk hle)]
 simp only[patchW,Array.getElem_ofFn,hf,if_true]
 rw[Array.getElem?_eq_getElem (Nat.lt_of_lt_of_le hk hle)];rfl
theorem local_run{P:Program}{muts:Muts}(hin:InlOk P muts){C:Cfg}{w0:World}{own0:List Nat}{own:List Bx}{H:Heap}{w:World}(hw:StW C w0 own0 own H w){i:Nat}{X:Bx}(hX:own[i]?=some X)(hm:∀y∈own,y.map=false)
  {g:FuncId} {pre:List SV} (hwf:∀s∈pre,SV.wf 1 s) {R:Nat->Prop} (hR:∀y∈own,¬R y.b) {post:Value->List Value->Heap->Prop}
  (h:∀H0,∃q,muts.inl C.base H0 g pre [X] (seenBy own X.b H) (fun s own1 H1=>∃cs',own1[0]?=some (X.set cs')/\(∀x k,seenBy own X.b H x=some k->¬R x->H1 x=some k)/\post (s.val own1) cs' H1)=some q/\q):
  Calls P g (pre.map (SV.val [X])).toArray w fun e w'=>∃v cs' H1,e= .returned v/\post v cs' H1/\(∀x k,seenBy own X.b H x=some k->¬R x->H1 x=some k)/\H1 X.b=none/\StW C w0 own0 (own.set i (X.set cs')) (unseen own H1) w':=by
 have hXm:=List.mem_of_getElem? hX
 have hle:w0.heap.size<=w.heap.size:=hw.below.size
 have hHX:H X.b=none:=hw.boxes.hid X hXm
 have hC0:∀y∈own,C.H0 y.b=none:=fun y hy=>by
  cases hc:C.H0 y.b with
  |none=>rfl
  |some k=>have:=hw.boxes.hid y hy;rw[hw.next.ext _ k hc] at this;cases this
 let H0p:Heap:=fun x=>match C.H0 x with|some k=>some k|none=>if x<C.base/\x≠X.b then lookB own x else none
 obtain⟨q,hq,hqq⟩:=h H0p
 obtain⟨_,hcall⟩:=hin _ _ _ _ _ _ _ _ hq
 let C':Cfg:= { C with H0:=H0p }
 have hH0p:∀x k,H0p x=some k->C.H0 x=some k∨(C.H0 x=none/\x<C.base/\x≠X.b/\lookB own x=some k):=fun x k hx=>by
  simp only[H0p] at hx
  cases hc:C.H0 x with
  |some k'=>rw[hc] at hx;exact .inl hx
  |none=>
   rw[hc] at hx
   simp only at hx
   split at hx
   ·rename_i hcond;exact .inr ⟨rfl,hcond.1,hcond.2,hx⟩
   ·cases hx
 have hseen:Sees (seenBy own X.b H) w:=fun x k hx=>by
  unfold seenBy at hx
  split at hx
  ·cases hx
  ·split at hx
   ·rename_i k' hk
    obtain rfl:=Option.some.inj hx
    exact hw.sees x _ hk
   ·obtain⟨y,hy,rfl,rfl⟩:=lookB_mem hx
    exact box_sees (hw.boxes.ok y hy) (hm y hy)
 have hst:StW C' (patchW own w0 w) own0 [X] (seenBy own X.b H) w:=by
  refine⟨hseen,⟨fun y hy=> ?_,fun y hy=> ?_,by simp⟩,fun y hy=> ?_,⟨hw.below.os,hw.below.tape,hw.below.output,by rw[patch_size];exact hle,fun k hk hn=> ?_⟩,⟨fun x k hx=> ?_,fun x k hx hn=> ?_⟩,?_,fun x k hx=> ?_⟩
  ·obtain rfl:y=X:=by simpa using hy
   exact hw.boxes.ok _ hXm
  ·obtain rfl:y=X:=by simpa using hy
   unfold seenBy;rw[if_pos rfl]
  ·obtain rfl:y=X:=by simpa using hy
   exact hw.locs _ hXm
  ·rw[patch_size] at hk
   by_cases hb:∃y∈own,y.b=k
   ·obtain⟨y,hy,hyb⟩:=hb
    rw[patch_box hy hyb hk hle]
   ·rw[patch_other fun y hy e=>hb ⟨y,hy,e⟩]
    exact hw.below.block k hk hn
  ·rcases hH0p x k hx with hx|⟨hc,hlt,hne,hx⟩
   ·exact seenBy_ext hHX x k (hw.next.ext x k hx)
   ·unfold seenBy
    rw[if_neg hne]
    obtain⟨y,hy,rfl,rfl⟩:=lookB_mem hx
    rw[hw.boxes.hid y hy];exact hx
  ·have hn':C.H0 x=none:=by
    cases hc:C.H0 x with
    |none=>rfl
    |some k'=>have hn:H0p x=none:=hn;simp only[H0p,hc] at hn;cases hn
   unfold seenBy at hx
   split at hx
   ·cases hx
   ·rename_i hne
    split at hx
    ·rename_i k' hk
     exact hw.next.fresh x _ hk hn'
    ·rcases Nat.lt_or_ge x C.base with hlt|hge
     ·have hn:H0p x=none:=hn
      simp only[H0p,hn',if_pos (And.intro hlt hne)] at hn
      rw[hn] at hx;cases hx
     ·exact hge
  ·show C.base=_
   rw[patch_size];exact hw.base
  ·rcases hH0p x k hx with hx|⟨hc,hlt,hne,hx⟩
   ·have hno:∀y∈own,y.b≠x:=fun y hy e=>by rw[←e,hC0 y hy] at hx;cases hx
    rw[patch_other hno]
    exact hw.seen0 x k hx
   ·obtain⟨y,hy,rfl,rfl⟩:=lookB_mem hx
    rw[patch_box hy rfl (by rw[←hw.base];exact hlt) hle]
    exact box_sees (hw.boxes.ok y hy) (hm y hy)
 refine(hcall hqq C' (patchW own w0 w) own0 w rfl rfl hst hwf).mono fun e w' he=> ?_
 obtain⟨v,own1,H1,rfl,hf,hext,hw'⟩:=he
 obtain⟨cs',h0,hkeep,hpost⟩:=hf
 have h0m:=List.mem_of_getElem? h0
 have hH1X:H1 X.b=none:=by simpa[Bx.set] using hw'.boxes.hid _ h0m
 refine⟨v,cs',H1,rfl,hpost,hkeep,hH1X,?_⟩
 have hXl:=(List.getElem?_eq_some_iff.1 hX).1
 have hmem:∀y∈own.set i (X.set cs'),y=X.set cs'∨(y∈own/\y.b≠X.b):=fun y hy=>by
  obtain⟨j,hj⟩:=List.mem_iff_getElem?.1 hy
  rw[List.getElem?_set] at hj
  split at hj
  ·rename_i e
   subst e
   first|rw[if_pos hXl] at hj|skip
   exact .inl (Option.some.inj hj).symm
  ·rename_i hne
   have hym:=List.mem_of_getElem? hj
   refine .inr ⟨hym,fun e=>hne ?_⟩
   have hnd:=hw.boxes.apart
   have hj1:(own.map Bx.b)[j]?=some X.b:=by rw[List.getElem?_map,hj];simp[e]
   have hi1:(own.map Bx.b)[i]?=some X.b:=by rw[List.getElem?_map,hX];rfl
   obtain⟨hjl,hj2⟩:=List.getElem?_eq_some_iff.1 hj1
   obtain⟨hil,hi2⟩:=List.getElem?_eq_some_iff.1 hi1
   have hpw:=List.pairwise_iff_getElem.1 hnd
   rcases Nat.lt_trichotomy i j with c|c|c
   ·exact absurd (hi2.trans hj2.symm) (hpw i j hil hjl c)
   ·exact c
   ·exact absurd (hj2.trans hi2.symm) (hpw j i hjl hil c)
 have hbs:(own.set i (X.set cs')).map Bx.b=own.map Bx.b:=by
  apply List.ext_getElem?
  intro j
  rw[List.getElem?_map,List.getElem?_set,List.getElem?_map]
  split
  ·rename_i e
   subst e
   first|rw[if_pos hXl]|skip
   rw[hX];rfl
  ·rfl
 refine⟨fun x k hx=>hw'.sees x k (unseen_sub x k hx),⟨fun y hy=> ?_,fun y hy=> ?_,by rw[hbs];exact hw.boxes.apart⟩,fun y hy=> ?_,⟨hw'.below.os,hw'.below.tape,hw'.below.output,by have:=hw'.below.size;rw[patch_size] at this;exact this,fun k hk hn=> ?_⟩,⟨fun x k hx=> ?_,fun x k hx hn=> ?_⟩,hw.base,hw.seen0⟩
 ·rcases hmem y hy with rfl|⟨hy,hne⟩
  ·exact hw'.boxes.ok _ h0m
  ·have h1:seenBy own X.b H y.b=some (boxKB y.ty y.cs):=by
    unfold seenBy
    rw[if_neg hne,hw.boxes.hid y hy]
    exact lookB_of hw.boxes.apart hy
   exact sees_box (hw'.sees _ _ (hkeep _ _ h1 (hR y hy))) (hm y hy)
 ·have hy':∃z∈own,z.b=y.b:=by
   rcases hmem y hy with rfl|⟨hy,_⟩
   ·exact⟨X,hXm,rfl⟩
   ·exact⟨y,hy,rfl⟩
  obtain⟨z,hz,hzy⟩:=hy'
  unfold unseen
  rw[←hzy,lookB_of hw.boxes.apart hz]
 ·rcases hmem y hy with rfl|⟨hy,_⟩
  ·exact hw.locs X hXm
  ·exact hw.locs y hy
 ·have h1:=hw'.below.block k (by rw[patch_size];exact hk) hn
  rw[h1]
  by_cases hb:∃y∈own,y.b=k
  ·obtain⟨y,hy,hyb⟩:=hb
   rw[patch_box hy hyb hk hle]
   exact hw.below.block k hk hn
  ·rw[patch_other fun y hy e=>hb ⟨y,hy,e⟩]
 ·have hno:lookB own x=none:=by
   cases hl:lookB own x with
   |none=>rfl
   |some k'=>
    obtain⟨y,hy,rfl,_⟩:=lookB_mem hl
    rw[hC0 y hy] at hx;cases hx
  unfold unseen
  rw[hno]
  refine hw'.next.ext x k ?_
  show H0p x=some k
  simp only[H0p,hx]
 ·unfold unseen at hx
  split at hx
  ·cases hx
  ·rename_i hl
   refine hw'.next.fresh x k hx ?_
   show H0p x=none
   simp only[H0p,hn,hl,ite_self]
theorem local_run0{P:Program}{muts:Muts}(hin:InlOk P muts){C:Cfg}{w0:World}{own0:List Nat}{own:List Bx}{H:Heap}{w:World}(hw:StW C w0 own0 own H w)(hm:∀y∈own,y.map=false)
  {g:FuncId} {pre:List SV} (hwf:∀s∈pre,SV.wf 0 s) {R:Nat->Prop} (hR:∀y∈own,¬R y.b) {post:Value->Heap->Prop}
  (h:∀H0,∃q,muts.inl C.base H0 g pre [] (seenBy own w.heap.size H) (fun s own1 H1=>(∀x k,seenBy own w.heap.size H x=some k->¬R x->H1 x=some k)/\post (s.val own1) H1)=some q/\q):
  Calls P g (pre.map (SV.val [])).toArray w fun e w'=>∃v H1,e= .returned v/\post v H1/\(∀x k,seenBy own w.heap.size H x=some k->¬R x->H1 x=some k)/\StW C w0 own0 own (unseen own H1) w':=by
 have hle:w0.heap.size<=w.heap.size:=hw.below.size
 have hlt:∀y∈own,y.b≠w.heap.size:=fun y hy e=>by have:=Bx.ok_lt (hw.boxes.ok y hy);omega
 have hHX:H w.heap.size=none:=by
  cases hh:H w.heap.size with
  |none=>rfl
  |some k=>have:=hw.sees.lt hh;omega
 have hC0:∀y∈own,C.H0 y.b=none:=fun y hy=>by
  cases hc:C.H0 y.b with
  |none=>rfl
  |some k=>have:=hw.boxes.hid y hy;rw[hw.next.ext _ k hc] at this;cases this
 let H0p:Heap:=fun x=>match C.H0 x with|some k=>some k|none=>if x<C.base then lookB own x else none
 obtain⟨q,hq,hqq⟩:=h H0p
 obtain⟨_,hcall⟩:=hin _ _ _ _ _ _ _ _ hq
 let C':Cfg:= { C with H0:=H0p }
 have hH0p:∀x k,H0p x=some k->C.H0 x=some k∨(C.H0 x=none/\x<C.base/\lookB own x=some k):=fun x k hx=>by
  simp only[H0p] at hx
  cases hc:C.H0 x with
  |some k'=>rw[hc] at hx;exact .inl hx
  |none=>
   rw[hc] at hx
   simp only at hx
   split at hx
   ·rename_i hcond;exact .inr ⟨rfl,hcond,hx⟩
   ·cases hx
 have hseen:Sees (seenBy own w.heap.size H) w:=fun x k hx=>by
  unfold seenBy at hx
  split at hx
  ·cases hx
  ·split at hx
   ·rename_i k' hk
    obtain rfl:=Option.some.inj hx
    exact hw.sees x _ hk
   ·obtain⟨y,hy,rfl,rfl⟩:=lookB_mem hx
    exact box_sees (hw.boxes.ok y hy) (hm y hy)
 have hst:StW C' (patchW own w0 w) own0 [] (seenBy own w.heap.size H) w:=by
  refine⟨hseen,⟨fun y hy=>(by cases hy),fun y hy=>(by cases hy),by simp⟩,fun y hy=>(by cases hy),⟨hw.below.os,hw.below.tape,hw.below.output,by rw[patch_size];exact hle,fun k hk hn=> ?_⟩,⟨fun x k hx=> ?_,fun x k hx hn=> ?_⟩,?_,fun x k hx=> ?_⟩
  ·rw[patch_size] at hk
   by_cases hb:∃y∈own,y.b=k
   ·obtain⟨y,hy,hyb⟩:=hb
    rw[patch_box hy hyb hk hle]
   ·rw[patch_other fun y hy e=>hb ⟨y,hy,e⟩]
    exact hw.below.block k hk hn
  ·rcases hH0p x k hx with hx|⟨hc,hlt',hx⟩
   ·exact seenBy_ext hHX x k (hw.next.ext x k hx)
   ·unfold seenBy
    obtain⟨y,hy,rfl,rfl⟩:=lookB_mem hx
    rw[if_neg (hlt y hy),hw.boxes.hid y hy];exact hx
  ·have hn':C.H0 x=none:=by
    cases hc:C.H0 x with
    |none=>rfl
    |some k'=>have hn:H0p x=none:=hn;simp only[H0p,hc] at hn;cases hn
   unfold seenBy at hx
   split at hx
   ·cases hx
   ·split at hx
    ·rename_i k' hk
     exact hw.next.fresh x _ hk hn'
    ·rcases Nat.lt_or_ge x C.base with hlt'|hge
     ·have hn:H0p x=none:=hn
      simp only[H0p,hn',if_pos hlt'] at hn
      rw[hn] at hx;cases hx
     ·exact hge
  ·show C.base=_
   rw[patch_size];exact hw.base
  ·rcases hH0p x k hx with hx|⟨hc,hlt',hx⟩
   ·have hno:∀y∈own,y.b≠x:=fun y hy e=>by rw[←e,hC0 y hy] at hx;cases hx
    rw[patch_other hno]
    exact hw.seen0 x k hx
   ·obtain⟨y,hy,rfl,rfl⟩:=lookB_mem hx
    rw[patch_box hy rfl (by rw[←hw.base];exact hlt') hle]
    exact box_sees (hw.boxes.ok y hy) (hm y hy)
 refine(hcall hqq C' (patchW own w0 w) own0 w rfl rfl hst hwf).mono fun e w' he=> ?_
 obtain⟨v,own1,H1,rfl,hf,hext,hw'⟩:=he
 obtain⟨hkeep,hpost⟩:=hf
 refine⟨v,H1,rfl,hpost,hkeep,fun x k hx=>hw'.sees x k (unseen_sub x k hx),⟨fun y hy=> ?_,fun y hy=> ?_,hw.boxes.apart⟩,hw.locs,⟨hw'.below.os,hw'.below.tape,hw'.below.output,by have:=hw'.below.size;rw[patch_size] at this;exact this,fun k hk hn=> ?_⟩,⟨fun x k hx=> ?_,fun x k hx hn=> ?_⟩,hw.base,hw.seen0⟩
 ·have h1:seenBy own w.heap.size H y.b=some (boxKB y.ty y.cs):=by
   unfold seenBy
   rw[if_neg (hlt y hy),hw.boxes.hid y hy]
   exact lookB_of hw.boxes.apart hy
  exact sees_box (hw'.sees _ _ (hkeep _ _ h1 (hR y hy))) (hm y hy)
 ·unfold unseen
  rw[lookB_of hw.boxes.apart hy]
 ·have h1:=hw'.below.block k (by rw[patch_size];exact hk) hn
  rw[h1]
  by_cases hb:∃y∈own,y.b=k
  ·obtain⟨y,hy,hyb⟩:=hb
   rw[patch_box hy hyb hk hle]
   exact hw.below.block k hk hn
  ·rw[patch_other fun y hy e=>hb ⟨y,hy,e⟩]
 ·have hno:lookB own x=none:=by
   cases hl:lookB own x with
   |none=>rfl
   |some k'=>
    obtain⟨y,hy,rfl,_⟩:=lookB_mem hl
    rw[hC0 y hy] at hx;cases hx
  unfold unseen
  rw[hno]
  refine hw'.next.ext x k ?_
  show H0p x=some k
  simp only[H0p,hx]
 ·unfold unseen at hx
  split at hx
  ·cases hx
  ·rename_i hl
   refine hw'.next.fresh x k hx ?_
   show H0p x=none
   simp only[H0p,hn,hl,ite_self]
theorem unseen_keep{own:List Bx}{H H1:Heap}{a:Nat}(hid:∀y∈own,H y.b=none)(ha:H a=none){x:Nat}{k:KB}(hx:H x=some k)(h:seenBy own a H x=some k->H1 x=some k):unseen own H1 x=some k:=by
 unfold unseen
 cases hl:lookB own x with
 |some k'=>
  obtain⟨y,hy,rfl,_⟩:=lookB_mem hl
  rw[hid y hy] at hx;cases hx
 |none=>exact h (seenBy_ext ha x k hx)
open Go Go.Proofs
structure Parts(H:Heap)(w:Wld)(p:WA):Prop where
 cfg:CfgAt H w.c p.fa p.fl p.ra p.rl p.wa p.wl
 ldr:LdrAt H w.h.l p.la p.ll p.ka p.kl
 dsk:DskAt H w.h.d p.sa p.sl p.sc p.ta p.tl p.tc
 mail:Mails H p.ma p.ml w.m
 room:p.ml<=p.mc
theorem Parts.ext{H H':Heap}{w:Wld}{p:WA}(h:Parts H w p)(e:Ext H H'):Parts H' w p:=⟨h.cfg.ext e,h.ldr.ext e,h.dsk.ext e,Sl.ext RMail.mono h.mail e,h.room⟩
def Out(w:Wld)(p:WA)(x:Except Int Wld)(v:Value)(css:List (List Value))(G':Heap):Prop:=
 ∃p':WA,v=i64 (errOf x)/\css=[wldCells (orSame w x) p']/\Parts G' (orSame w x) p'/\p'.na=p.na/\p'.nl=p.nl/\p'.nc=p.nc/\(orSame w x).n=w.n
def POut(w:Wld)(p:WA)(y:Wld)(v:Value)(css:List (List Value))(G':Heap):Prop:=
 ∃p':WA,v= .tuple #[]/\css=[wldCells y p']/\Parts G' y p'/\p'.na=p.na/\p'.nl=p.nl/\p'.nc=p.nc/\y.n=w.n
theorem Out.bad{w:Wld}{p:WA}{G':Heap}{x:Except Int Wld}{e:Int}(hx:x= .error e)(h:Parts G' w p):Out w p x (i64 e) [wldCells w p] G':=by
 subst hx
 exact⟨p,rfl,rfl,h,rfl,rfl,rfl,rfl⟩
theorem wld16{css:List (List Value)}{w:Wld}{p:WA}(hc:css=[wldCells w p]){F:Int->O->Nat->Nat->O->Nat->Nat->O->Nat->Nat->Int->O->Nat->Nat->Int->Int->Bool->O->Nat->Nat->Int->O->Nat->Nat->O->Nat->Nat->Bool->O->Nat->Nat->O->Nat->Nat->Prop}(h:F w.c.first.id p.fa p.fl p.fc p.ra p.rl p.rc p.wa p.wl p.wc w.c.bud p.la p.ll p.lc w.h.l.now w.h.l.goal w.h.l.back p.ka p.kl p.kc w.h.l.nx p.sa p.sl p.sc p.ta p.tl p.tc w.h.up p.na p.nl p.nc p.ma p.ml p.mc):
  ∃i1:Int,∃a2:O,∃l2:Nat,∃c2:Nat,∃a3:O,∃l3:Nat,∃c3:Nat,∃a4:O,∃l4:Nat,∃c4:Nat,∃i5:Int,∃a6:O,∃l6:Nat,∃c6:Nat,∃i7:Int,∃i8:Int,∃b9:Bool,∃a10:O,∃l10:Nat,∃c10:Nat,∃i11:Int,∃a12:O,∃l12:Nat,∃c12:Nat,∃a13:O,∃l13:Nat,∃c13:Nat,∃b14:Bool,∃a15:O,∃l15:Nat,∃c15:Nat,∃a16:O,∃l16:Nat,∃c16:Nat,css=[[.int .i64 i1,.slice a2 l2 c2,.slice a3 l3 c3,.slice a4 l4 c4,.int .i64 i5,.slice a6 l6 c6,.int .i64 i7,.int .i64 i8,.bool b9,.slice a10 l10 c10,.int .i64 i11,.slice a12 l12 c12,.slice a13 l13 c13,.bool b14,.slice a15 l15 c15,.slice a16 l16 c16]]/\F i1 a2 l2 c2 a3 l3 c3 a4 l4 c4 i5 a6 l6 c6 i7 i8 b9 a10 l10 c10 i11 a12 l12 c12 a13 l13 c13 b14 a15 l15 c15 a16 l16 c16:=
 ⟨_,_,_,_,_,_,_,_,_,_,_,_,_,_,_,_,_,_,_,_,_,_,_,_,_,_,_,_,_,_,_,_,_,_,hc,h⟩
theorem dskPut_err{d:Dsk}{r:Recd}{e:Int}(h:dskPut d r= .error e):e≠0:=by
 rintro rfl
 unfold dskPut at h
 split at h
 ·split at h
  ·split at h
   ·cases h
   ·cases h
  ·rename_i h1;injection h with h;exact h1 h
 ·rename_i h1;injection h with h;exact h1 h
theorem dskSync_err{d:Dsk}{e:Int}(h:dskSync d= .error e):e≠0:=by
 rintro rfl
 unfold dskSync at h
 split at h
 ·split at h
  ·cases h
  ·rename_i h1;injection h with h;exact h1 h
 ·rename_i h1;injection h with h;exact h1 h
theorem dskSafe_err{d:Dsk}{r:Recd}{e:Int}(h:dskSafe d r= .error e):e≠0:=by
 unfold dskSafe at h
 cases hp:dskPut d r with
 |error e'=>
  rw[hp] at h
  injection h with h
  exact h▸dskPut_err hp
 |ok x=>rw[hp] at h;exact dskSync_err h
theorem wLead_err{w:Wld}{r:Recd}{e:Int}(h:wLead w r= .error e):e≠0:=by
 unfold wLead at h
 split at h
 ·rename_i hn;injection h with h;exact h▸hn
 ·cases hd:dskSafe w.h.d r with
  |error e'=>
   rw[hd] at h
   injection h with h
   exact h▸dskSafe_err hd
  |ok d=>rw[hd] at h;cases h
theorem Spec.dskS{P:Program}{f:FuncId}{args:List Value}{H:Heap}{d:Dsk}{e:Int}(h:Spec P f args H fun v H'=>∃sa sl sc ta tl tc,v= .tuple #[dskArg sa sl sc ta tl tc,i64 e]/\DskAt H' d sa sl sc ta tl tc){base:Nat}{G:O->Nat->Nat->O->Nat->Nat->Int->Heap->Prop}
  (hG:∀sa sn sc wa wn wc H',Ext H H'->Vg.Next base H H'->DskAt H' d sa sn sc wa wn wc->G sa sn sc wa wn wc e H'):
  Spec P f args H fun v H'=>∃(sa:O)(sn sc:Nat)(wa:O)(wn wc:Nat)(e:Int),v= .tuple #[.agg #[.slice sa sn sc,.slice wa wn wc],.int .i64 e]/\(Vg.Next base H H'->G sa sn sc wa wn wc e H'):=
 h.mono fun v H' ex hv=>by
  obtain⟨sa,sn,sc,wa,wn,wc,h1,h2⟩:=hv
  exact⟨_,_,_,_,_,_,_,h1,fun hN=>hG _ _ _ _ _ _ H' ex hN h2⟩
section
variable {H : Heap} (hL : Lb H)
include hL
theorem cSafe{sa ta qa:O}{sl sc tl tc ql qc:Nat}{d:Dsk}{r:Recd}(hd:DskAt H d sa sl sc ta tl tc)(hr:Pins H qa ql r.rel.lock):Spec Tryz.prog 219 [dskArg sa sl sc ta tl tc,recArg r qa ql qc] H fun v H'=>∃sa sl sc ta tl tc,v= .tuple #[dskArg sa sl sc ta tl tc,i64 (errOf (dskSafe d r))]/\DskAt H' (dskGet (dskSafe d r)) sa sl sc ta tl tc:=by
 refine TryzvcJ Tryz.func219 (by kernel_rfl) (by kernel_rfl) _ rfl (fun base K=>vx219 sa ta sl sc tl tc r.kind r.agent r.try_ r.num r.rel.id r.good qa ql qc base H K) fun base hb=>fun b b' b''=> ?_
 refine(cPut hL hd hr).dsk fun a n c a1 n1 c1 H1 e1 hN1 hD=>⟨fun h=> ?_,fun h=> ?_⟩
 ·cases hp:dskPut d r with
  |ok x=>rw[hp] at h;exact absurd rfl h
  |error e=>
   have:dskSafe d r= .error e:=by unfold dskSafe;rw[hp]
   rw[this]
   exact⟨none,0,0,none,0,0,rfl,DskAt.zero⟩
 ·cases hp:dskPut d r with
  |error e=>rw[hp] at h;exact absurd (Decidable.not_not.1 h) (dskPut_err hp)
  |ok x=>
   rw[hp] at hD
   have:dskSafe d r=dskSync x:=by unfold dskSafe;rw[hp]
   rw[this]
   refine(cSync (hL.ext e1) (DskAt.ext hD newOf_ext)).dsk fun a2 n2 c2 a3 n3 c3 H2 e2 hN2 hD2=> ?_
   exact⟨_,_,_,_,_,_,rfl,hD2.ext newOf_ext⟩
theorem cLeads{w:Wld}{p:WA}(hw:Parts H w p){r:Recd}{qa:O}{ql qc:Nat}(hr:Pins H qa ql r.rel.lock)(b:Nat):SpecO Tryz.prog 176 [.pointer (some ⟨b,0,none⟩),recArg r qa ql qc] [⟨b,false,41,wldCells w p⟩] H (Out w p (wLead w r)):=by
 refine TryzvcO Tryz.func176 (by kernel_rfl) (own:=[⟨b,false,41,wldCells w p⟩]) (args:=[.loc 0 0,.v (recArg r qa ql qc)]) (by kernel_rfl) (by intro s hs;simp at hs;rcases hs with rfl|rfl<;>simp[SV.wf]) _ (fun base K=>vx176 b w.c.first.id w.c.bud p.fa p.ra p.wa p.fl p.fc p.rl p.rc p.wl p.wc w.h.l.now w.h.l.goal w.h.l.nx w.h.l.back p.la p.ka p.ll p.lc p.kl p.kc p.sa p.ta p.sl p.sc p.tl p.tc w.h.up p.na p.ma p.nl p.nc p.ml p.mc r.kind r.agent r.try_ r.num r.rel.id r.good qa ql qc base H K) fun base hb=>fun b1=> ?_
 have bad:∀ {H':Heap},Ext H H'->ledErr w.c w.h.l r≠0->Out w p (wLead w r) (i64 (ledErr w.c w.h.l r)) [wldCells w p] H':=fun e h=>Out.bad (by unfold wLead;rw[if_pos h]) (hw.ext e)
 have good:∀ {H1 H2:Heap} (e1:Ext H H1)(e2:Ext H1 H2) {la ka:O} {ll lc kl kc:Nat} {sa ta:O} {sl sc tl tc:Nat},ledErr w.c w.h.l r=0->LdrAt H1 (ledV w.c w.h.l r) la ll ka kl->DskAt H2 (dskGet (dskSafe w.h.d r)) sa sl sc ta tl tc->
   (errOf (dskSafe w.h.d r)=0->Out w p (wLead w r) (i64 (errOf (dskSafe w.h.d r))) [[.int .i64 w.c.first.id,.slice p.fa p.fl p.fc,.slice p.ra p.rl p.rc,.slice p.wa p.wl p.wc,.int .i64 w.c.bud,.slice la ll lc,.int .i64 (ledV w.c w.h.l r).now,.int .i64 (ledV w.c w.h.l r).goal,.bool (ledV w.c w.h.l r).back,.slice ka kl kc,.int .i64 (ledV w.c w.h.l r).nx,.slice sa sl sc,.slice ta tl tc,.bool w.h.up,.slice p.na p.nl p.nc,.slice p.ma p.ml p.mc]] H2)/\
   (¬errOf (dskSafe w.h.d r)=0->Out w p (wLead w r) (i64 (errOf (dskSafe w.h.d r))) [wldCells w p] H2):=by
  intro H1 H2 e1 e2 la ka ll lc kl kc sa ta sl sc tl tc h hA hD
  have hV:ledV w.c w.h.l r=ledNext w.h.l r:=by unfold ledV;rw[if_pos h]
  rw[hV] at hA⊢
  cases hd:dskSafe w.h.d r with
  |error e=>
   have hX:wLead w r= .error e:=by unfold wLead;rw[if_neg (by omega),hd]
   refine⟨fun h0=>absurd h0 (dskSafe_err hd),fun _=> ?_⟩
   exact Out.bad hX (hw.ext (Ext.trans e1 e2))
  |ok d=>
   have hX:wLead w r= .ok { w with h:=⟨ledNext w.h.l r,d,w.h.up⟩ } :=by unfold wLead;rw[if_neg (by omega),hd]
   refine⟨fun _=> ?_,fun h0=>absurd rfl h0⟩
   rw[hd] at hD
   rw[hX]
   exact⟨{ p with la:=la,ll:=ll,lc:=lc,ka:=ka,kl:=kl,kc:=kc,sa:=sa,sl:=sl,sc:=sc,ta:=ta,tl:=tl,tc:=tc },rfl,rfl,⟨(hw.ext (Ext.trans e1 e2)).cfg,hA.ext e2,hD,(hw.ext (Ext.trans e1 e2)).mail,hw.room⟩,rfl,rfl,rfl,rfl⟩
 refine⟨?_,fun b2=> ?_⟩
 ·refine(cNextL hw.cfg hw.ldr hr).ldr fun la ll lc ka kl kc H1 e1 hN1 hA=>fun b3=>⟨fun h=>bad e1 h,fun h=>⟨?_,fun b4=> ?_⟩⟩
  ·refine Spec.dskS (cSafe (hL.ext e1) (hw.dsk.ext e1) (hr.ext' e1)) fun sa sl sc ta tl tc H2 e2 hN2 hD=>fun b5=> ?_
   obtain⟨g1,g2⟩:=good e1 e2 (lc:=lc) (kc:=kc) (Decidable.not_not.1 h) hA hD
   exact⟨fun h0=>⟨g1 h0,g1 h0⟩,g2⟩
  ·refine Spec.dskS (cSafe (hL.ext e1) (hw.dsk.ext e1) (hr.ext' e1)) fun sa sl sc ta tl tc H2 e2 hN2 hD=> ?_
   obtain⟨g1,g2⟩:=good e1 e2 (lc:=lc) (kc:=kc) (Decidable.not_not.1 h) hA hD
   exact⟨fun h0=>⟨g1 h0,g1 h0⟩,g2⟩
 ·refine(cNextL hw.cfg hw.ldr hr).ldr fun la ll lc ka kl kc H1 e1 hN1 hA=>⟨fun h=>bad e1 h,fun h=>⟨?_,fun b4=> ?_⟩⟩
  ·refine Spec.dskS (cSafe (hL.ext e1) (hw.dsk.ext e1) (hr.ext' e1)) fun sa sl sc ta tl tc H2 e2 hN2 hD=>fun b5=> ?_
   obtain⟨g1,g2⟩:=good e1 e2 (lc:=lc) (kc:=kc) (Decidable.not_not.1 h) hA hD
   exact⟨fun h0=>⟨g1 h0,g1 h0⟩,g2⟩
  ·refine Spec.dskS (cSafe (hL.ext e1) (hw.dsk.ext e1) (hr.ext' e1)) fun sa sl sc ta tl tc H2 e2 hN2 hD=> ?_
   obtain⟨g1,g2⟩:=good e1 e2 (lc:=lc) (kc:=kc) (Decidable.not_not.1 h) hA hD
   exact⟨fun h0=>⟨g1 h0,g1 h0⟩,g2⟩
end
theorem cPost{H:Heap}{w:Wld}{p:WA}(hw:Parts H w p){m:Mail}{a:O}{l c:Nat}(hm:Pins H a l m.rel.lock)(b:Nat):SpecO Tryz.prog 221 [.pointer (some ⟨b,0,none⟩),mailArg m a l c] [⟨b,false,41,wldCells w p⟩] H (POut w p (wPost w m)):=by
 refine TryzvcO Tryz.func221 (by kernel_rfl) (own:=[⟨b,false,41,wldCells w p⟩]) (args:=[.loc 0 0,.v (mailArg m a l c)]) (by kernel_rfl) (by intro s hs;simp at hs;rcases hs with rfl|rfl<;>simp[SV.wf]) _ (fun base K=>vx221 b w.c.first.id w.c.bud p.fa p.ra p.wa p.fl p.fc p.rl p.rc p.wl p.wc w.h.l.now w.h.l.goal w.h.l.nx w.h.l.back p.la p.ka p.ll p.lc p.kl p.kc p.sa p.ta p.sl p.sc p.tl p.tc w.h.up p.na p.ma p.nl p.nc p.ml p.mc m.agent m.try_ m.rel.id m.rep m.good a l c base H K) fun base hb=>fun b1=> ?_
 refine(cSend hw.mail m hm).sl2 fun a1 n1 c1 H1 e1 hN1 hS=>⟨fun h=> ?_,fun h=> ?_⟩
 ·rw[if_pos h] at hS
  have hX:wPost w m= { w with m:=sent w.m m } :=by unfold wPost;rw[if_pos h]
  rw[hX]
  exact⟨{ p with ma:=a1,ml:=n1,mc:=c1 },rfl,rfl,⟨(hw.ext e1).cfg,(hw.ext e1).ldr,(hw.ext e1).dsk,hS.2,hS.1⟩,rfl,rfl,rfl,rfl⟩
 ·have hX:wPost w m=w:=by unfold wPost;rw[if_neg h]
  rw[hX]
  exact⟨p,rfl,rfl,hw.ext e1,rfl,rfl,rfl,rfl⟩
structure Grown(G H G' H':Heap):Prop where
 ext:Ext G G'
 sub:Ext G' H'
 keep:Ext H H'
 away:∀x k,G' x=some k->G x=none->H x=none
theorem Grown.trans{G H G' H' G'' H'':Heap}(h:Grown G H G' H')(k:Grown G' H' G'' H''):Grown G H G'' H'':=⟨Ext.trans h.ext k.ext,k.sub,Ext.trans h.keep k.keep,fun x y hx hn=>by
 cases hg:G' x with
 |some z=>exact h.away x z hg hn
 |none=>
  have h1:=k.away x y hx hg
  cases hh:H x with
  |none=>rfl
  |some z=>rw[h.keep x z hh] at h1;cases h1⟩
theorem SpecO.grown{P:Program}{f:FuncId}{args:List Value}{own:List Bx}{G H:Heap}{Q:Value->List (List Value)->Heap->Prop}(h:SpecO P f args own G Q)(e:Ext G H):
  SpecO P f args own H fun v css H'=>∃G',Grown G H G' H'/\Q v css G':=(h.frame e).mono fun v css H' _ ⟨G',h1,h2,h3,h4,h5⟩=>⟨G',⟨h1,h2,h3,h4⟩,h5⟩
theorem Spec.grown{P:Program}{f:FuncId}{args:List Value}{G H:Heap}{Q:Value->Heap->Prop}(h:Spec P f args G Q)(e:Ext G H):
  Spec P f args H fun v H'=>∃G',Grown G H G' H'/\Q v G':=(h.frame e).mono fun v H' e' ⟨G',h1,h2,h4,h5⟩=>⟨G',⟨h1,h2,e',h4⟩,h5⟩
theorem Sl.nodeA{H H':Heap}{a:O}{n:Nat}{xs:List Nod}(h:Nods H a n xs)(e:Ext H H'){k:Int}(h0:0<=k)(h1:k<n){F:O->Nat->Nat->Int->Int->Bool->Int->O->Nat->Nat->Bool->Prop}
  (hF:∀x q,xs[k.toNat]?=some x->NodAt H x q->F q.xa q.xl q.xc x.a.at_ x.a.try_ x.a.going x.a.goal.id q.ga q.gl q.gc x.a.good):
  ∃(b o:Nat),a=some ⟨b,o,none⟩/\0<=k/\k<n/\∃(a:O)(n2 c:Nat)(n3 n4:Int)(b2:Bool)(n5:Int)(a1:O)(n6 c1:Nat)(b3:Bool),
   (H'.cell b (o+k.toNat*10)=some (.slice a n2 c)/\H'.cell b (o+k.toNat*10+1)=some (.int .i64 n3)/\H'.cell b (o+k.toNat*10+2)=some (.int .i64 n4)/\H'.cell b (o+k.toNat*10+3)=some (.bool b2)/\H'.cell b (o+k.toNat*10+4)=some (.int .i64 n5)/\H'.cell b (o+k.toNat*10+5)=some (.slice a1 n6 c1)/\H'.cell b (o+k.toNat*10+6)=some (.bool b3)/\True)/\F a n2 c n3 n4 b2 n5 a1 n6 c1 b3:=by
 obtain⟨b,o,r,x,ha,hx,hr,hc⟩:=h.get h0 h1
 obtain⟨q,rfl,hq⟩:=hr
 have g:∀j v,(nodCells x q)[j]?=some v->H'.cell b (o+k.toNat*10+j)=some v:=fun j v hj=>Heap.cell_next e (hc j v hj)
 exact⟨b,o,ha,h0,h1,_,_,_,_,_,_,_,_,_,_,_,⟨g 0 _ rfl,g 1 _ rfl,g 2 _ rfl,g 3 _ rfl,g 4 _ rfl,g 5 _ rfl,g 6 _ rfl,trivial⟩,hF x q hx hq⟩
theorem cReport{G H:Heap}(e:Ext G H){w:Wld}{p:WA}(hw:Parts G w p)(hn:Nods H p.na p.nl w.n){k:Int}(h0:0<=k)(h1:k<p.nl)(b:Nat):SpecO Tryz.prog 180 [.pointer (some ⟨b,0,none⟩),.int .i64 k] [⟨b,false,41,wldCells w p⟩] H fun v css H'=>∃G',Grown G H G' H'/\POut w p (wReport w k.toNat) v css G':=by
 refine TryzvcO Tryz.func180 (by kernel_rfl) (own:=[⟨b,false,41,wldCells w p⟩]) (args:=[.loc 0 0,.v (.int .i64 k)]) (by kernel_rfl) (by intro s hs;simp at hs;rcases hs with rfl|rfl<;>simp[SV.wf]) _ (fun base K=>vx180 b w.c.first.id w.c.bud p.fa p.ra p.wa p.fl p.fc p.rl p.rc p.wl p.wc w.h.l.now w.h.l.goal w.h.l.nx w.h.l.back p.la p.ka p.ll p.lc p.kl p.kc p.sa p.ta p.sl p.sc p.tl p.tc w.h.up p.na p.ma p.nl p.nc p.ml p.mc k base H K) fun base hb=> ?_
 refine hn.nodeA (Ext.refl _) h0 h1 fun x q hx hq=>fun b1=> ?_
 have hX:wReport w k.toNat=wPost w (repMail k.toNat x.a):=by unfold wReport;rw[hx]
 have hm:repMail k.toNat x.a=⟨k,x.a.try_,true,x.a.good,⟨0,[]⟩⟩:=by unfold repMail;rw[Int.toNat_of_nonneg h0]
 rw[hX,hm]
 refine((cPost hw (m:=⟨k,x.a.try_,true,x.a.good,⟨0,[]⟩⟩) (a:=none) (l:=0) (c:=0) Sl.nil b).grown e).mono fun v css H1 e1 hv=> ?_
 obtain⟨G',hG,p',hv,hcss,hP,n1,n2,n3,n4⟩:=hv
 exact⟨hv,wld16 hcss fun _=>⟨G',hG,p',hv▸rfl,rfl,hP,n1,n2,n3,n4⟩⟩
section
variable {H : Heap} (hL : Lb H)
include hL
theorem cTell{w:Wld}{p:WA}(hw:Parts H w p){x:Hap}{a:O}{l c:Nat}(b:Nat):SpecO Tryz.prog 177 [.pointer (some ⟨b,0,none⟩),.agg #[.int .i64 x.kind,.int .i64 x.agent,.int .i64 x.num,.bool x.good,.slice a l c]] [⟨b,false,41,wldCells w p⟩] H (Out w p (wTell w x)):=by
 refine TryzvcO Tryz.func177 (by kernel_rfl) (own:=[⟨b,false,41,wldCells w p⟩]) (args:=[.loc 0 0,.v (.agg #[.int .i64 x.kind,.int .i64 x.agent,.int .i64 x.num,.bool x.good,.slice a l c])]) (by kernel_rfl) (by intro s hs;simp at hs;rcases hs with rfl|rfl<;>simp[SV.wf]) _ (fun base K=>vx177 b w.c.first.id w.c.bud p.fa p.ra p.wa p.fl p.fc p.rl p.rc p.wl p.wc w.h.l.now w.h.l.goal w.h.l.nx w.h.l.back p.la p.ka p.ll p.lc p.kl p.kc p.sa p.ta p.sl p.sc p.tl p.tc w.h.up p.na p.ma p.nl p.nc p.ml p.mc x.kind x.agent x.num x.good a l c base H K) fun base hb=>fun b1=> ?_
 have hkl:=hw.ldr.ags.len
 have posted:∀ {y:Wld} {p1:WA} {H1:Heap} (m:Mail) {qa:O} {ql qc:Nat},Parts H1 y p1->Pins H1 qa ql m.rel.lock->p1.na=p.na/\p1.nl=p.nl/\p1.nc=p.nc->y.n=w.n->wTell w x= .ok (wPost y m)->
   SpecO Tryz.prog 221 [.pointer (some ⟨b,0,none⟩),mailArg m qa ql qc] [⟨b,false,41,wldCells y p1⟩] H1 fun v css H'=>v= .tuple #[]/\Out w p (wTell w x) (i64 0) css H':=by
  intro y p1 H1 m qa ql qc hy hq hp1 hyn hT
  refine(cPost hy hq b).mono fun v css H2 e2 hv=> ?_
  obtain⟨p',hv,hcss,hP,n1,n2,n3,n4⟩:=hv
  rw[hT]
  exact⟨hv,p',rfl,hcss,hP,n1.trans hp1.1,n2.trans hp1.2.1,n3.trans hp1.2.2,n4.trans hyn⟩
 have tail:∀ {H1:Heap} (e1:Ext H H1) {qa:O} {ql:Nat},turnErr w.c w.h.l x.agent=0->Pins H1 qa ql (turnRel w.c w.h.l x.agent).lock->∀a1,w.h.l.ags[x.agent.toNat]?=some a1->x.kind=4->
   (¬a1.st=1->Out w p (wTell w x) (i64 7) [wldCells w p] H1)/\((a1.back !=w.h.l.back)=true->Out w p (wTell w x) (i64 7) [wldCells w p] H1)/\(a1.st=1->¬(a1.back !=w.h.l.back)=true->wTell w x= .ok (wPost w ⟨x.agent,a1.try_,false,false,turnRel w.c w.h.l x.agent⟩)):=by
  intro H1 e1 qa ql hT hq a1 ha hk
  have hE:wTell w x=if a1.st≠1∨a1.back≠w.h.l.back then .error 7 else .ok (wPost w ⟨x.agent,a1.try_,false,false,turnRel w.c w.h.l x.agent⟩):=by
   unfold wTell
   rw[if_neg (by omega),if_pos hk,ha]
  refine⟨fun h=>Out.bad (by rw[hE,if_pos (.inl h)]) (hw.ext e1),fun h=>Out.bad (by rw[hE,if_pos (.inr (by simpa using h))]) (hw.ext e1),fun h1 h2=>by rw[hE,if_neg (by rintro(h|h);exact h h1;exact h2 (by simpa using h))]⟩
 have bad:∀ {H1:Heap} (e1:Ext H H1),¬turnErr w.c w.h.l x.agent=0->Out w p (wTell w x) (i64 (turnErr w.c w.h.l x.agent)) [wldCells w p] H1:=fun e1 h=>Out.bad (by unfold wTell;rw[if_pos h]) (hw.ext e1)
 have rng:turnErr w.c w.h.l x.agent=0->0<=x.agent/\x.agent<p.kl/\∃a1,w.h.l.ags[x.agent.toNat]?=some a1:=fun h=>by
  obtain⟨_,h1,h2,_⟩:=turnErr_zero h
  exact⟨h1,by omega,_,List.getElem?_eq_getElem (by omega)⟩
 refine⟨(cTurnL hw.cfg hw.ldr x.agent).turn fun qa ql qc H1 e1 hN1 hq=>fun b3=>⟨fun h=>bad e1 h,fun h=> ?_⟩,fun b2=>(cTurnL hw.cfg hw.ldr x.agent).turn fun qa ql qc H1 e1 hN1 hq=>⟨fun h=>bad e1 h,fun h=> ?_⟩⟩
 all_goals
  have hT:=Decidable.not_not.1 h
  obtain⟨k0,k1,_,_⟩:=rng hT
  refine⟨fun hk=>hw.ldr.ags.kn e1 k0 k1 fun a2 ha2=>fun b4=> ?_,fun hk=> ?_⟩
  ·obtain⟨t1,t2,t3⟩:=tail e1 hT hq a2 ha2 hk
   refine⟨t1,fun h1=>⟨_,neqBool,t2,fun h2=> ?_⟩⟩
   have hE:=t3 (Decidable.not_not.1 h1) h2
   refine(posted ⟨x.agent,a2.try_,false,false,turnRel w.c w.h.l x.agent⟩ (hw.ext e1) hq ⟨rfl,rfl,rfl⟩ rfl hE).mono fun v css H2 e2 hv=> ?_
   obtain⟨hv,hO⟩:=hv
   have hO':=hO
   obtain⟨p',_,hcss,_⟩:=hO
   rw[hcss] at hO'
   exact⟨hv,wld16 hcss fun _=>hO'⟩
  ·have hLd:=cLeads (hL.ext e1) (hw.ext e1) (r:=⟨6,x.agent,w.h.l.nx,0,false,⟨0,[]⟩⟩) (qa:=none) (ql:=0) (qc:=0) Sl.nil b
   cases hl:wLead w ⟨6,x.agent,w.h.l.nx,0,false,⟨0,[]⟩⟩ with
   |error e=>
    rw[hl] at hLd
    refine hLd.mono fun v css H2 e2 hv=> ?_
    obtain⟨p1,rfl,hcss,hP,n1,n2,n3,n4⟩:=hv
    have hE:wTell w x= .error e:=by unfold wTell;rw[if_neg (by omega),if_neg hk,hl]
    refine⟨_,rfl,wld16 hcss fun hN2=>⟨fun h0=> ?_,fun h0=>absurd (Decidable.not_not.1 h0) (wLead_err hl)⟩⟩
    rw[hE]
    exact⟨p1,rfl,rfl,hP,n1,n2,n3,rfl⟩
   |ok y=>
    rw[hl] at hLd
    refine hLd.mono fun v css H2 e2 hv=> ?_
    obtain⟨p1,rfl,hcss,hP,n1,n2,n3,n4⟩:=hv
    have hE:wTell w x= .ok (wPost y ⟨x.agent,w.h.l.nx,false,false,turnRel w.c w.h.l x.agent⟩):=by unfold wTell;rw[if_neg (by omega),if_neg hk,hl]
    refine⟨_,rfl,wld16 hcss fun hN2=>⟨fun h0=>absurd rfl h0,fun h0=> ?_⟩⟩
    refine(posted (y:=y) (p1:=p1) ⟨x.agent,w.h.l.nx,false,false,turnRel w.c w.h.l x.agent⟩ hP (hq.ext' e2) ⟨n1,n2,n3⟩ n4 hE).mono fun v css H3 e3 hv=> ?_
    obtain⟨hv,hO⟩:=hv
    have hO':=hO
    obtain⟨p',_,hcss,_⟩:=hO
    rw[hcss] at hO'
    exact⟨hv,wld16 hcss fun _=>hO'⟩
end
open Go
theorem AllR.set{α:Type}{R:Rep α}{H:Heap}{r:List Value}{x:α}(h:R H r x):∀ {rs:List (List Value)} {xs:List α} {k:Nat},AllR R H rs xs->AllR R H (rs.set k r) (xs.set k x)
 | [],[],_,_=>trivial
 |_::_,_::_,0,k=>⟨h,k.2⟩
 |_::_,_::_,_+1,k=>⟨k.1,AllR.set h k.2⟩
theorem rows_setk{sz:Nat}{rows:List (List Value)}{k:Nat}{r:List Value}(hr:rows[k]?=some r)(hw:∀x∈rows,x.length=sz){off:Nat}{vs:List Value}(ho:off+vs.length<=sz):
  setRange rows.flatten (k*sz+off) vs=(rows.set k (setRange r off vs)).flatten:=by
 obtain⟨hk,hrk⟩:=List.getElem?_eq_some_iff.1 hr
 have hsplit:rows=rows.take k++r::rows.drop (k+1):=by
  rw[←hrk,←List.drop_eq_getElem_cons hk,List.take_append_drop]
 have hw1:∀x∈rows.take k,x.length=sz:=fun x hx=>hw x (List.mem_of_mem_take hx)
 have hlen:(rows.take k).length=k:=by rw[List.length_take];omega
 have h1:=rows_set (sz:=sz) (rs:=rows.take k) (r:=r) (ss:=rows.drop (k+1)) hw1 (hw r (List.mem_of_getElem? hr)) (k:=off) (vs:=vs) ho
 rw[hlen,←hsplit] at h1
 rw[h1,List.set_eq_take_append_cons_drop,if_pos hk]
section
variable {α : Type} {R : Rep α} {sz : Nat} {e : TypeId} {base : Nat} {G H H' : Heap} {a : O} {n c : Nat} {rows : List (List Value)} {xs : List α}
theorem OwnSl.put(h:OwnSl R sz e base G H a n c rows xs){k:Nat}{r:List Value}(hr:rows[k]?=some r){off o:Nat}{vs:List Value}(ho:off+vs.length<=sz)(hoo:o=k*sz+off){b:Nat}{kb:KB}(ha:a=some ⟨b,0,none⟩)(hc:c≠0)(hb:H b=some kb)
  (hu:Upd H b o kb vs H') {y:α} (hy:R G (setRange r off vs) y):OwnSl R sz e base G H' a n c (rows.set k (setRange r off vs)) (xs.set k y):=by
 subst hoo
 have hk:=(List.getElem?_eq_some_iff.1 hr).1
 have hle:k*sz+off+vs.length<=rows.flatten.length:=by
  rw[flat_wid h.wid]
  have:(k+1)*sz<=rows.length*sz:=Nat.mul_le_mul_right _ hk
  rw[Nat.succ_mul] at this;omega
 refine⟨?_,fun x hx=> ?_,AllR.set hy h.all,fun x kx hx=> ?_,h.clear⟩
 ·rw[←rows_setk hr h.wid ho]
  exact h.row.upd ha hc hb hle hu
 ·rcases List.mem_or_eq_of_mem_set hx with hx|rfl
  ·exact h.wid x hx
  ·rw[setRange_length];exact h.wid r (List.mem_of_getElem? hr)
 ·rw[hu.there x (fun e=>by rw[e,h.clear hc b ha] at hx;cases hx)]
  exact h.sub x kx hx
end
theorem setRange_full{r vs:List Value}(h:r.length=vs.length):setRange r 0 vs=vs:=by
 rw[setRange_eq _ _ _ (by omega)]
 simp[h]
open Go Go.Proofs
structure OwnW(base:Nat)(G H:Heap)(w:Wld)(p:WA)(rows:List (List Value)):Prop where
 parts:Parts G w p
 nod:OwnSl RNod 10 58 base G H p.na p.nl p.nc rows w.n
theorem OwnW.at_{base:Nat}{G H:Heap}{w:Wld}{p:WA}{rows:List (List Value)}(h:OwnW base G H w p rows):WldAt H w p:=
 ⟨(h.parts.ext h.nod.sub).cfg,(h.parts.ext h.nod.sub).ldr,(h.parts.ext h.nod.sub).dsk,h.nod.sl RNod.mono (by omega),(h.parts.ext h.nod.sub).mail⟩
theorem OwnW.ext{base:Nat}{G H H':Heap}{w:Wld}{p:WA}{rows:List (List Value)}(h:OwnW base G H w p rows)(e:Ext H H'):OwnW base G H' w p rows:=⟨h.parts,h.nod.ext e⟩
theorem OwnW.grown{base:Nat}{G H G' H':Heap}{w:Wld}{p:WA}{rows:List (List Value)}(h:OwnW base G H w p rows)(g:Grown G H G' H'):OwnW base G' H' w p rows:=
 ⟨h.parts.ext g.ext,h.nod.row.ext g.keep,h.nod.wid,h.nod.all.mono RNod.mono g.ext,g.sub,fun hc b hb=>by
  cases hg:G' b with
  |none=>rfl
  |some k=>
   have h1:=g.away b k hg (h.nod.clear hc b hb)
   obtain⟨b',k',h2,h3⟩:=h.nod.block hc
   rw[hb] at h2;simp at h2;subst h2
   rw[h1] at h3;cases h3⟩
theorem OwnW.be{base:Nat}{G H:Heap}{w w':Wld}{p p':WA}{rows:List (List Value)}(h:OwnW base G H w p rows)(hp:Parts G w' p')(h1:p'.na=p.na)(h2:p'.nl=p.nl)(h3:p'.nc=p.nc)(hn:w'.n=w.n):OwnW base G H w' p' rows:=
 ⟨hp,by rw[h1,h2,h3,hn];exact h.nod⟩
abbrev hapArg(x:Hap)(a:O)(l c:Nat):Value:= .agg #[.int .i64 x.kind,.int .i64 x.agent,.int .i64 x.num,.bool x.good,.slice a l c]
structure HapPre(base:Nat)(G H:Heap)(w:Wld)(p:WA)(rows:List (List Value))(x:Hap)(a:O)(l:Nat):Prop where
 lb:Lb G
 ok:wldErr w=0
 own:OwnW base G H w p rows
 lock:Pins G a l x.lock
structure OwnPost(base:Nat)(G H:Heap)(p:WA)(w':Wld)(p':WA)(G':Heap)(rows':List (List Value))(H':Heap):Prop where
 ext:Ext G G'
 away:∀y k,G' y=some k->G y=none->H y=none
 own:OwnW base G' H' w' p' rows'
 keep:∀y k,H y=some k->(p.nc=0∨p.na≠some ⟨y,0,none⟩)->H' y=some k
 still:∀y,H y≠none->H' y≠none
 same:p'.na=p.na/\p'.nl=p.nl/\p'.nc=p.nc
theorem OwnPost.start{base:Nat}{G H:Heap}{w:Wld}{p:WA}{rows:List (List Value)}(h:OwnW base G H w p rows):OwnPost base G H p w p G rows H:=⟨Ext.refl _,fun y k h1 h2=>(by rw[h1] at h2;cases h2),h,fun _ _ h _=>h,fun _ h=>h,rfl,rfl,rfl⟩
theorem OwnPost.grown{base:Nat}{G H:Heap}{p:WA}{w:Wld}{p':WA}{G' H' G'' H'':Heap}{rows:List (List Value)}(h:OwnPost base G H p w p' G' rows H')(g:Grown G' H' G'' H''):OwnPost base G H p w p' G'' rows H'':=
 ⟨Ext.trans h.ext g.ext,fun y k hy hn=>by
  cases hg:G' y with
  |some z=>exact h.away y z hg hn
  |none=>
   have h1:=g.away y k hy hg
   cases hh:H y with
   |none=>rfl
   |some z=>exact absurd h1 (h.still y (by rw[hh];simp)),h.own.grown g,fun y k hy hc=>g.keep y k (h.keep y k hy hc),fun y hy=>by
  have h1:=h.still y hy
  cases hh:H' y with
  |none=>exact absurd hh h1
  |some k=>rw[g.keep y k hh];simp,h.same⟩
theorem OwnPost.be{base:Nat}{G H:Heap}{p:WA}{w w':Wld}{p' p'':WA}{G' H':Heap}{rows:List (List Value)}(h:OwnPost base G H p w p' G' rows H')(hp:Parts G' w' p'')(h1:p''.na=p'.na)(h2:p''.nl=p'.nl)(h3:p''.nc=p'.nc)(hn:w'.n=w.n):OwnPost base G H p w' p'' G' rows H':=
 ⟨h.ext,h.away,h.own.be hp h1 h2 h3 hn,h.keep,h.still,h1.trans h.same.1,h2.trans h.same.2.1,h3.trans h.same.2.2⟩
theorem RNod.setA{G:Heap}{x:Nod}{q:NA}(h:NodAt G x q){a:Agt}{xa ga:O}{xl xc gl gc:Nat}(h1:Pins G xa xl a.lock)(h2:Pins G ga gl a.goal.lock):
  RNod G (setRange (nodCells x q) 0 [.slice xa xl xc,.int .i64 a.at_,.int .i64 a.try_,.bool a.going,.int .i64 a.goal.id,.slice ga gl gc,.bool a.good]) { x with a:=a } :=
 ⟨{ q with xa:=xa,xl:=xl,xc:=xc,ga:=ga,gl:=gl,gc:=gc },rfl,h1,h2,h.dsk⟩
theorem RNod.setD{G:Heap}{x:Nod}{q:NA}(h:NodAt G x q){d:Dsk}{ua va:O}{ul uc vl vc:Nat}(h1:DskAt G d ua ul uc va vl vc):
  RNod G (setRange (nodCells x q) 7 [.slice ua ul uc,.slice va vl vc]) { x with d:=d } :=
 ⟨{ q with ua:=ua,ul:=ul,uc:=uc,va:=va,vl:=vl,vc:=vc },rfl,h.lock,h.goal,h1⟩
theorem OwnW.node{base:Nat}{G H:Heap}{w:Wld}{p:WA}{rows:List (List Value)}(h:OwnW base G H w p rows){k:Nat}{n:Nod}(hn:w.n[k]?=some n):
  ∃(b:Nat)(kb:KB)(q:NA),p.na=some ⟨b,0,none⟩/\base<=b/\p.nc≠0/\H b=some kb/\kb.free=true/\k<p.nl/\k*10+10<=kb.size/\rows[k]?=some (nodCells n q)/\NodAt G n q/\∀j v,(nodCells n q)[j]?=some v->H.cell b (k*10+j)=some v:=by
 obtain⟨r1,r2⟩:=h.nod.rlen (by omega)
 have hk:=(List.getElem?_eq_some_iff.1 hn).1
 obtain⟨b,kb,h1,h2,h3,h4,h5,h6,h7⟩:=h.nod.row.block (by omega)
 have hrow:rows[k]?=some (rows[k]'(by omega)):=List.getElem?_eq_getElem (by omega)
 obtain⟨q,hq,hat⟩:=h.nod.all.get hrow hn
 have hle:p.nl<=p.nc:=h.nod.row.2.1
 refine⟨b,kb,q,h1,h2,h3,h4,h5,by omega,by rw[h6];omega,by rw[hrow,hq],hat,fun j v hj=> ?_⟩
 have hjl:=(List.getElem?_eq_some_iff.1 hj).1
 have hj10:j<10:=by simpa using hjl
 unfold Heap.cell
 rw[h4]
 refine h7 _ _ ?_
 have hs:rows=rows.take k++nodCells n q::rows.drop (k+1):=by
  rw[←hq,←List.drop_eq_getElem_cons (by omega),List.take_append_drop]
 have hl:(rows.take k).flatten.length=k*10:=by
  rw[flat_wid (sz:=10) fun r hr=>h.nod.wid r (List.mem_of_mem_take hr),List.length_take]
  congr 1;omega
 rw[hs,List.flatten_append,List.getElem?_append_right (by omega),hl,show k*10+j-k*10=j from by omega,List.flatten_cons,List.getElem?_append_left (by simpa using hjl)]
 exact hj
theorem OwnPost.put{base:Nat}{G H:Heap}{p:WA}{w:Wld}{p':WA}{G' H' H'':Heap}{rows:List (List Value)}(h:OwnPost base G H p w p' G' rows H'){k:Nat}{r:List Value}(hr:rows[k]?=some r){off o:Nat}{vs:List Value}(ho:off+vs.length<=10)(hoo:o=k*10+off){b:Nat}{kb:KB}(ha:p'.na=some ⟨b,0,none⟩)(hc:p'.nc≠0)(hb:H' b=some kb)
  (hu:Upd H' b o kb vs H'') {y:Nod} (hy:RNod G' (setRange r off vs) y):OwnPost base G H p { w with n:=w.n.set k y } p' G' (rows.set k (setRange r off vs)) H'':=by
 have hO:=h.own.nod.put hr ho hoo ha hc hb hu hy
 refine⟨h.ext,h.away,⟨⟨h.own.parts.cfg,h.own.parts.ldr,h.own.parts.dsk,h.own.parts.mail,h.own.parts.room⟩,hO⟩,fun x k hx hxc=> ?_,fun x hx=> ?_,h.same⟩
 ·have hne:x≠b:=fun e=>by
   subst e
   rcases hxc with h0|h0
   ·exact hc (h.same.2.2.trans h0)
   ·exact h0 (h.same.1.symm.trans ha)
  rw[hu.there x hne];exact h.keep x k hx hxc
 ·by_cases e:x=b
  ·subst e;rw[hu.here];simp
  ·rw[hu.there x e];exact h.still x hx
open Go Go.Proofs
open Go.Value renaming int → I, slice → S, bool → B, agg → A, tuple → T, pointer → P, string → Str
open Go.IntKind renaming i64 → Z, wrap → W
open Go.Addr renaming mk → D
open Go.Vg.Bx renaming mk → J
open Go.Vg renaming Next → X, Spec → Y, SpecO → YO
open Go.Vg.Heap renaming cell → C
open Int renaming toNat → N
theorem vx218(g o:Nat)(kd ag rt n rid:Int)(rg:Bool)(qa:O)(ql qc:Nat)(base:Nat)(H0:Heap)(H:Heap)(f:SV->List Bx->Heap->Prop):
 (codeI ⟨Tryz.prog,Tryz.f218.ntmps,⟨TryzListK,TryzSum,true⟩,base,H0⟩ Tryz.f218 [.v (.pointer (some ⟨g,o,none⟩)),.v (A #[I Z kd,I Z ag,I Z rt,I Z n,B rg,I Z rid,S qa ql qc])] [] H f)=(
 ∀a:Nat,∃(b:O)(c d:Nat)(e h:Int)(i:Bool)(j:Int)(k:O)(l m:Nat)(p:Bool),(fun w8:LV=>(C H g o=some (S b c d)/\C H g (o+1)=some (I Z e)/\C H g (o+2)=some (I Z h)/\C H g (o+3)=some (B i)/\C H g (o+4)=some (I Z j)/\C H g (o+5)=some (S k l m)/\C H g (o+6)=some (B p)/\True)/\(Y Tryz.prog 145 w8 H fun q r=>∃s t u v w x y z a1 b1 c1 d1,q=T #[A #[S s t u,I Z v,I Z w,B x,I Z y,S z a1 b1,B c1],I Z d1]/\(X base H r->∀e1:Nat,(¬d1=0->f (SV.v (I Z d1)) [J a false 126 [I Z kd,I Z ag,I Z rt,I Z n,B rg,I Z rid,S qa ql qc],J e1 false 46 [S s t u,I Z v,I Z w,B x,I Z y,S z a1 b1,B c1]] r)/\(¬¬d1=0->∃(f1:O)(g1 h1:Nat)(i1:O)(j1 k1:Nat),(fun w4:LV=>(C r g (o+7)=some (S f1 g1 h1)/\C r g (o+7+1)=some (S i1 j1 k1)/\True)/\(Y Tryz.prog 219 w4 r fun l1 m1=>∃n1 o1 p1 q1 r1 s1 t1,l1=T #[A #[S n1 o1 p1,S q1 r1 s1],I Z t1]/\(X base r m1->∀u1:Nat,(fun w2:LB=>(t1=0->(∃v1:KB,m1 g=some v1/\KB.free v1=true/\base<=g/\o+7<=KB.size v1/\∀w1:Heap,Upd m1 g o v1 [S s t u,I Z v,I Z w,B x,I Z y,S z a1 b1,B c1] w1->∃x1:KB,w1 g=some x1/\KB.free x1=true/\base<=g/\o+7+2<=KB.size x1/\∀y1:Heap,Upd w1 g (o+7) x1 [S n1 o1 p1,S q1 r1 s1] y1->f (SV.v (I Z t1)) w2 y1)/\∃v1:KB,m1 g=some v1/\KB.free v1=true/\base<=g/\o+7<=KB.size v1/\∀w1:Heap,Upd m1 g o v1 [S s t u,I Z v,I Z w,B x,I Z y,S z a1 b1,B c1] w1->∃x1:KB,w1 g=some x1/\KB.free x1=true/\base<=g/\o+7+2<=KB.size x1/\∀y1:Heap,Upd w1 g (o+7) x1 [S n1 o1 p1,S q1 r1 s1] y1->f (SV.v (I Z t1)) w2 y1)/\(¬t1=0->f (SV.v (I Z t1)) w2 m1)) [J a false 126 [I Z kd,I Z ag,I Z rt,I Z n,B rg,I Z rid,S qa ql qc],J e1 false 46 [S s t u,I Z v,I Z w,B x,I Z y,S z a1 b1,B c1],J u1 false 35 [S n1 o1 p1,S q1 r1 s1]]))/\∀l1:Nat,Y Tryz.prog 219 w4 r fun m1 n1=>∃o1 p1 q1 r1 s1 t1,(fun w3:LB=>∃u1,m1=T #[A #[S o1 p1 q1,S r1 s1 t1],I Z u1]/\(X base r n1->(u1=0->(∃v1:KB,n1 g=some v1/\KB.free v1=true/\base<=g/\o+7<=KB.size v1/\∀w1:Heap,Upd n1 g o v1 [S s t u,I Z v,I Z w,B x,I Z y,S z a1 b1,B c1] w1->∃x1:KB,w1 g=some
 x1/\KB.free x1=true/\base<=g/\o+7+2<=KB.size x1/\∀y1:Heap,Upd w1 g (o+7) x1 [S o1 p1 q1,S r1 s1 t1] y1->f (SV.v (I Z u1)) w3 y1)/\∃v1:KB,n1 g=some v1/\KB.free v1=true/\base<=g/\o+7<=KB.size v1/\∀w1:Heap,Upd n1 g o v1 [S s t u,I Z v,I Z w,B x,I Z y,S z a1 b1,B c1] w1->∃x1:KB,w1 g=some x1/\KB.free x1=true/\base<=g/\o+7+2<=KB.size x1/\∀y1:Heap,Upd w1 g (o+7) x1 [S o1 p1 q1,S r1 s1 t1] y1->f (SV.v (I Z u1)) w3 y1)/\(¬u1=0->f (SV.v (I Z u1)) w3 n1))) [J a false 126 [I Z kd,I Z ag,I Z rt,I Z n,B rg,I Z rid,S qa ql qc],J e1 false 46 [S s t u,I Z v,I Z w,B x,I Z y,S z a1 b1,B c1],J l1 false 35 [S o1 p1 q1,S r1 s1 t1]]) [A #[S f1 g1 h1,S i1 j1 k1],A #[I Z kd,I Z ag,I Z rt,I Z n,B rg,I Z rid,S qa ql qc]])))/\∀q:Nat,Y Tryz.prog 145 w8 H fun r s=>∃t u v w x y z a1 b1 c1 d1 e1,r=T #[A #[S t u v,I Z w,I Z x,B y,I Z z,S a1 b1 c1,B d1],I Z e1]/\(X base H s->(¬e1=0->f (SV.v (I Z e1)) [J a false 126 [I Z kd,I Z ag,I Z rt,I Z n,B rg,I Z rid,S qa ql qc],J q false 46 [S t u v,I Z w,I Z x,B y,I Z z,S a1 b1 c1,B d1]] s)/\(¬¬e1=0->∃(f1:O)(g1 h1:Nat)(i1:O)(j1 k1:Nat),(fun w7:LV=>(C s g (o+7)=some (S f1 g1 h1)/\C s g (o+7+1)=some (S i1 j1 k1)/\True)/\(Y Tryz.prog 219 w7 s fun l1 m1=>∃n1 o1 p1 q1 r1 s1 t1,l1=T #[A #[S n1 o1 p1,S q1 r1 s1],I Z t1]/\(X base s m1->∀u1:Nat,(fun w5:LB=>(t1=0->(∃v1:KB,m1 g=some v1/\KB.free v1=true/\base<=g/\o+7<=KB.size v1/\∀w1:Heap,Upd m1 g o v1 [S t u v,I Z w,I Z x,B y,I Z z,S a1 b1 c1,B d1] w1->∃x1:KB,w1 g=some x1/\KB.free x1=true/\base<=g/\o+7+2<=KB.size x1/\∀y1:Heap,Upd w1 g (o+7) x1 [S n1 o1 p1,S q1 r1 s1] y1->f (SV.v (I Z t1)) w5 y1)/\∃v1:KB,m1 g=some v1/\KB.free v1=true/\base<=g/\o+7<=KB.size v1/\∀w1:Heap,Upd m1 g o v1 [S t u v,I Z w,I Z x,B y,I Z z,S a1 b1 c1,B d1] w1->∃x1:KB,w1 g=some x1/\KB.free x1=true/\base<=g/\o+7+2<=KB.size x1/\∀y1:Heap,Upd w1 g (o+7) x1 [S n1 o1 p1,S q1 r1 s1] y1->f (SV.v (I Z t1)) w5 y1)/\(¬t1=0->f (SV.v (I Z t1)) w5 m1)) [J a false 126 [I Z kd,I Z ag,I Z rt,I Z n,B rg,I
 Z rid,S qa ql qc],J q false 46 [S t u v,I Z w,I Z x,B y,I Z z,S a1 b1 c1,B d1],J u1 false 35 [S n1 o1 p1,S q1 r1 s1]]))/\∀l1:Nat,Y Tryz.prog 219 w7 s fun m1 n1=>∃o1 p1 q1 r1 s1 t1,(fun w6:LB=>∃u1,m1=T #[A #[S o1 p1 q1,S r1 s1 t1],I Z u1]/\(X base s n1->(u1=0->(∃v1:KB,n1 g=some v1/\KB.free v1=true/\base<=g/\o+7<=KB.size v1/\∀w1:Heap,Upd n1 g o v1 [S t u v,I Z w,I Z x,B y,I Z z,S a1 b1 c1,B d1] w1->∃x1:KB,w1 g=some x1/\KB.free x1=true/\base<=g/\o+7+2<=KB.size x1/\∀y1:Heap,Upd w1 g (o+7) x1 [S o1 p1 q1,S r1 s1 t1] y1->f (SV.v (I Z u1)) w6 y1)/\∃v1:KB,n1 g=some v1/\KB.free v1=true/\base<=g/\o+7<=KB.size v1/\∀w1:Heap,Upd n1 g o v1 [S t u v,I Z w,I Z x,B y,I Z z,S a1 b1 c1,B d1] w1->∃x1:KB,w1 g=some x1/\KB.free x1=true/\base<=g/\o+7+2<=KB.size x1/\∀y1:Heap,Upd w1 g (o+7) x1 [S o1 p1 q1,S r1 s1 t1] y1->f (SV.v (I Z u1)) w6 y1)/\(¬u1=0->f (SV.v (I Z u1)) w6 n1))) [J a false 126 [I Z kd,I Z ag,I Z rt,I Z n,B rg,I Z rid,S qa ql qc],J q false 46 [S t u v,I Z w,I Z x,B y,I Z z,S a1 b1 c1,B d1],J l1 false 35 [S o1 p1 q1,S r1 s1 t1]]) [A #[S f1 g1 h1,S i1 j1 k1],A #[I Z kd,I Z ag,I Z rt,I Z n,B rg,I Z rid,S qa ql qc]]))) [A #[S b c d,I Z e,I Z h,B i,I Z j,S k l m,B p],A #[I Z kd,I Z ag,I Z rt,I Z n,B rg,I Z rid,S qa ql qc]]):=by kernel_rfl
open Go Go.Proofs
def nodOr(n:Nod):Except Int Nod->Nod
 | .ok y=>y
 | .error _=>n
structure DoesPre(base:Nat)(G H:Heap)(n:Nod)(q:NA)(r:Recd)(qa:O)(ql b o:Nat)(kb:KB):Prop where
 lb:Lb G
 sub:Ext G H
 clear:G b=none
 nod:NodAt G n q
 rel:Pins G qa ql r.rel.lock
 at_:H b=some kb
 free:kb.free=true
 own:base<=b
 room:o+10<=kb.size
 cells:∀j v,(nodCells n q)[j]?=some v->kb.cells (o+j)=some v
structure DoesPost(G H:Heap)(n:Nod)(q:NA)(r:Recd)(b o:Nat)(kb:KB)(e:Int)(n':Nod)(q':NA)(kb':KB)(G' H':Heap):Prop where
 ext:Ext G G'
 sub:Ext G' H'
 away:∀x k,G' x=some k->G x=none->H x=none
 nod:NodAt G' n' q'
 at_:H' b=some kb'
 ty:kb'.ty=kb.ty
 size:kb'.size=kb.size
 free:kb'.free=true
 cells:∀j v,(nodCells n' q')[j]?=some v->kb'.cells (o+j)=some v
 rest:∀j,(j<o∨o+10<=j)->kb'.cells j=kb.cells j
 keep:∀x k,x≠b->H x=some k->H' x=some k
 err:e=errOf (nDoes n r)
 res:n'=nodOr n (nDoes n r)
theorem node_upd{kc:Nat->Option Value}{o:Nat}{A D x:List Value}(hA:A.length=7)(hD:D.length=2)(hx:x.length=10)(h9:∀v,x[9]?=some v->kc (o+9)=some v)(hA':x.take 7=A)(hD':(x.drop 7).take 2=D):∀j v,x[j]?=some v->updCells (updCells kc o A) (o+7) D (o+j)=some v:=fun j v hj=>by
 have hjl:=(List.getElem?_eq_some_iff.1 hj).1
 unfold updCells
 by_cases h1:j<7
 ·rw[if_neg (by omega),if_pos (by omega),show o+j-o=j from by omega,←hA',List.getElem?_take,if_pos h1]
  exact hj
 by_cases h2:j<9
 ·rw[if_pos (by omega),show o+j-(o+7)=j-7 from by omega,←hD',List.getElem?_take,if_pos (by omega),List.getElem?_drop,show 7+(j-7)=j from by omega]
  exact hj
 ·obtain rfl:j=9:=by omega
  rw[if_neg (by omega),if_neg (by omega)]
  exact h9 v hj
theorem does_in{base:Nat}{H0 G H:Heap}{n:Nod}{q:NA}{r:Recd}{qa:O}{ql qc b o:Nat}{kb:KB}(h:DoesPre base G H n q r qa ql b o kb){f:SV->List Bx->Heap->Prop}
  (hf:∀e n' q' kb' G' H' own1,DoesPost G H n q r b o kb e n' q' kb' G' H'->f (.v (.int .i64 e)) own1 H'):
  codeI ⟨Tryz.prog,Tryz.f218.ntmps,⟨TryzListK,TryzSum,true⟩,base,H0⟩ Tryz.f218 [.v (.pointer (some ⟨b,o,none⟩)),.v (recArg r qa ql qc)] [] H f:=by
 rw[vx218]
 have c:∀j v,(nodCells n q)[j]?=some v->H.cell b (o+j)=some v:=fun j v hj=>by unfold Heap.cell;rw[h.at_];exact h.cells j v hj
 have still:∀ {G1 H1:Heap},Grown G H G1 H1->DoesPost G H n q r b o kb (errOf (nDoes n r)) n q kb G1 H1∨ ∃y,nDoes n r= .ok y:=fun{G1 H1} g=>by
  cases hd:nDoes n r with
  |ok y=>exact .inr ⟨y,rfl⟩
  |error e=>exact .inl ⟨g.ext,g.sub,g.away,h.nod.ext g.ext,g.keep _ _ h.at_,rfl,rfl,h.free,h.cells,fun _ _=>rfl,fun x k _ hx=>g.keep x k hx,by rw[hd],by rw[hd];rfl⟩
 have out:∀ {G2 H2:Heap},Grown G H G2 H2->G2 b=none:=fun{G2 H2} g=>by
  cases hg:G2 b with
  |none=>rfl
  |some k=>have:=g.away b k hg h.clear;rw[h.at_] at this;cases this
 refine fun b1=>⟨_,_,_,_,_,_,_,_,_,_,_,⟨c 0 _ rfl,c 1 _ rfl,c 2 _ rfl,c 3 _ rfl,c 4 _ rfl,c 5 _ rfl,c 6 _ rfl,trivial⟩,?_,fun b3=> ?_⟩
 all_goals
  refine((cNext (r:=r) h.nod.lock h.nod.goal h.rel).grown h.sub).mono fun v H1 e1 hv=> ?_
  obtain⟨G1,g1,a1,n1,c1,ga1,gn1,gc1,rfl,p1,p2⟩:=hv
  refine⟨_,_,_,_,_,_,_,_,_,_,_,_,rfl,fun hN1=> ?_⟩
  try intro b5
  refine⟨fun he=> ?_,fun he=> ?_⟩
  ·have hX:nDoes n r= .error (nextErr n.a r):=by unfold nDoes;rw[if_pos he]
   rcases still g1 with hp|⟨y,hy⟩
   ·rw[hX] at hp;exact hf _ _ _ _ _ _ _ hp
   ·rw[hX] at hy;cases hy
  ·have he:=Decidable.not_not.1 he
   have hV:nextV n.a r=agtNext n.a r:=by unfold nextV;rw[if_pos he]
   rw[hV] at p1 p2⊢
   have c':∀j v,(nodCells n q)[j]?=some v->H1.cell b (o+j)=some v:=fun j v hj=>Heap.cell_next g1.keep (c j v hj)
   refine⟨_,_,_,_,_,_,⟨c' 7 _ rfl,c' 8 _ rfl,trivial⟩,?_,fun b6=> ?_⟩
   all_goals
    refine((cSafe (h.lb.ext g1.ext) (h.nod.dsk.ext g1.ext) (h.rel.ext' g1.ext)).grown g1.sub).mono fun v H2 e2 hv=> ?_
    obtain⟨G2,g2,sa,sl,sc,ta,tl,tc,rfl,hD⟩:=hv
    have g12:=g1.trans g2
    refine⟨_,_,_,_,_,_,_,rfl,fun hN2=> ?_⟩
    try intro b7
    refine⟨fun h0=> ?_,fun h0=> ?_⟩
    ·cases hd:dskSafe n.d r with
     |error e=>rw[hd] at h0;exact absurd h0 (dskSafe_err hd)
     |ok d=>
      rw[hd] at hD
      have hX:nDoes n r= .ok ⟨agtNext n.a r,d,n.up⟩:=by unfold nDoes;rw[if_neg (by omega),hd]
      have fin:∀own1,∃(k:KB),H2 b=some k/\KB.free k=true/\base<=b/\o+7<=KB.size k/\∀(H':Heap),Upd H2 b o k [.slice a1 n1 c1,.int .i64 (agtNext n.a r).at_,.int .i64 (agtNext n.a r).try_,.bool (agtNext n.a r).going,.int .i64 (agtNext n.a r).goal.id,.slice ga1 gn1 gc1,.bool (agtNext n.a r).good] H'->
        ∃(k:KB),H' b=some k/\KB.free k=true/\base<=b/\o+7+2<=KB.size k/\∀(H'_2:Heap),Upd H' b (o+7) k [.slice sa sl sc,.slice ta tl tc] H'_2->f (SV.v (.int .i64 (errOf (Except.ok (ε:=Int) d)))) own1 H'_2:=fun own1=>by
       refine⟨kb,g12.keep _ _ h.at_,h.free,h.own,by have:=h.room;omega,fun H3 hu3=>⟨_,hu3.here,h.free,h.own,by have:=h.room;show o+7+2<=kb.size;omega,fun H4 hu4=> ?_⟩⟩
       refine hf _ ⟨agtNext n.a r,d,n.up⟩ { q with xa:=a1,xl:=n1,xc:=c1,ga:=ga1,gl:=gn1,gc:=gc1,ua:=sa,ul:=sl,uc:=sc,va:=ta,vl:=tl,vc:=tc } _ G2 H4 own1 ⟨g12.ext,fun x k hx=> ?_,g12.away,⟨p1.ext' g2.ext,p2.ext' g2.ext,hD⟩,hu4.here,rfl,rfl,h.free,?_,fun j hj=> ?_,fun x k hne hx=> ?_,by rw[hX];rfl,by rw[hX];rfl⟩
       ·have hne:x≠b:=fun e=>by rw[e,out g12] at hx;cases hx
        rw[hu4.there x hne,hu3.there x hne];exact g12.sub x k hx
       ·exact node_upd rfl rfl rfl (fun v hv=>h.cells 9 v hv) rfl rfl
       ·show updCells (updCells kb.cells o _) (o+7) _ j=kb.cells j
        unfold updCells
        simp only[List.length_cons,List.length_nil]
        rw[if_neg (by omega),if_neg (by omega)]
       ·rw[hu4.there x hne,hu3.there x hne];exact g12.keep x k hx
      exact⟨fin _,fin _⟩
    ·cases hd:dskSafe n.d r with
     |ok d=>rw[hd] at h0;exact absurd rfl h0
     |error e=>
      have hX:nDoes n r= .error e:=by unfold nDoes;rw[if_neg (by omega),hd]
      rcases still g12 with hp|⟨y,hy⟩
      ·rw[hX] at hp;exact hf _ _ _ _ _ _ _ hp
      ·rw[hX] at hy;cases hy
def noMaps(own:List Bx):Bool:=own.all fun y=> !y.map
def doesP(base:Nat)(own:List Bx)(H:Heap)(f:SV->List Bx->Heap->Prop)(b o:Nat)(v:Value):Prop:=
 ∃(G:Heap)(n:Nod)(q:NA)(r:Recd)(qa:O)(ql qc:Nat)(kb:KB),(v=recArg r qa ql qc/\noMaps own=true)/\DoesPre base G H n q r qa ql b o kb/\
  ∀(e:Int)(n':Nod)(q':NA)(kb':KB)(G' H':Heap),DoesPost G H n q r b o kb e n' q' kb' G' H'->f (.v (.int .i64 e)) own H'
noncomputable def TryzInS:InlFn:=inlOf Tryz.prog TryzListK [(218,Tryz.f218)] TryzSum
theorem TryzinS(j:Bool):InlOk Tryz.prog ⟨TryzListK,TryzInS,j⟩:=inl_ok (TryzsumK true) Tryzmixed fun p hp=>by
 simp only[List.mem_cons,List.not_mem_nil,or_false] at hp
 subst hp
 exact⟨Tryz.func218,body_some (by kernel_rfl),ops_ok (by kernel_rfl),by decide⟩
noncomputable def TryzSumS:InlFn:=fun base H0 g pre own H f=>
 if g=218 then(match pre with
  | [.v (.pointer (some ⟨b,o,none⟩)),.v v]=>some (doesP base own H f b o v)
  |_=>none)
 else TryzSum base H0 g pre own H f
theorem TryzsumS(j:Bool):InlOk Tryz.prog ⟨TryzListK,TryzSumS,j⟩:=by
 intro base H0 g pre own H f p hp
 unfold TryzSumS at hp
 dsimp only at hp
 split at hp
 ·rename_i e
  subst e
  split at hp
  ·rename_i b o v
   obtain rfl:=Option.some.inj hp
   refine⟨by show TryzListK.contains 218=true;decide,fun h C w0 own0 w hbase hH0 hw hwf=> ?_⟩
   subst hbase hH0
   obtain⟨G,n,q,r,qa,ql,qc,kb,⟨rfl,hnm⟩,hpre,hf⟩:=h
   have hm:∀y∈own,y.map=false:=fun y hy=>by
    have:=List.all_eq_true.1 hnm y hy
    simpa using this
   have hid:=hw.boxes.hid
   have hfr:H w.heap.size=none:=by
    cases hh:H w.heap.size with
    |none=>rfl
    |some k=>have:=hw.sees.lt hh;omega
   have hbox:∀y∈own,y.b≠b:=fun y hy e=>by have:=hid y hy;rw[e,hpre.at_] at this;cases this
   have hpre':DoesPre C.base G (seenBy own w.heap.size H) n q r qa ql b o kb:=⟨hpre.lb,Ext.trans hpre.sub (seenBy_ext hfr),hpre.clear,hpre.nod,hpre.rel,seenBy_ext hfr _ _ hpre.at_,hpre.free,hpre.own,hpre.room,hpre.cells⟩
   have hrun:=local_run0 (TryzinS true) hw hm (g:=218) (pre:=[.v (.pointer (some ⟨b,o,none⟩)),.v (recArg r qa ql qc)]) (by intro s hs;simp at hs;rcases hs with rfl|rfl<;>trivial) (R:=fun x=>x=b) (fun y hy=>hbox y hy)
    (post:=fun v H1=>∃(e:Int)(n':Nod)(q':NA)(kb':KB)(G':Heap),v= .int .i64 e/\DoesPost G (seenBy own w.heap.size H) n q r b o kb e n' q' kb' G' H1) (fun H0=>by
     refine⟨_,rfl,?_⟩
     refine does_in hpre' fun e n' q' kb' G' H1 own1 hp=>⟨fun x k hx hne=>hp.keep x k hne hx,e,n',q',kb',G',rfl,hp⟩)
   refine hrun.mono fun e w' he=> ?_
   obtain⟨v,H1,rfl,⟨e,n',q',kb',G',rfl,hp⟩,hkeep,hst⟩:=he
   refine⟨_,own,unseen own H1,rfl,hf e n' q' kb' G' _ ⟨hp.ext,fun x k hx=> ?_,fun x k hx hn=> ?_,hp.nod,?_,hp.ty,hp.size,hp.free,hp.cells,hp.rest,fun x k hne hx=>unseen_keep hid hfr hx fun hs=>hkeep x k hs hne,hp.err,hp.res⟩,OwnExt.refl _,hst⟩
   ·unfold unseen
    cases hl:lookB own x with
    |none=>exact hp.sub x k hx
    |some k'=>
     exfalso
     obtain⟨y,hy,rfl,_⟩:=lookB_mem hl
     cases hg:G y.b with
     |some k2=>have:=hpre.sub _ _ hg;rw[hid y hy] at this;cases this
     |none=>
      have h1:=hp.away _ _ hx hg
      unfold seenBy at h1
      rw[if_neg (fun e=>by have:=Bx.ok_lt (hw.boxes.ok y hy);omega),hid y hy] at h1
      rw[hl] at h1;cases h1
   ·have h1:=hp.away x k hx hn
    unfold seenBy at h1
    split at h1
    ·rename_i e;rw[e];exact hfr
    ·split at h1
     ·cases h1
     ·rename_i hh;exact hh
   ·unfold unseen
    cases hl:lookB own b with
    |none=>exact hp.at_
    |some k'=>
     exfalso
     obtain⟨y,hy,hyb,_⟩:=lookB_mem hl
     exact hbox y hy hyb
  ·cases hp
 ·exact TryzsumK j base H0 g pre own H f p hp
open Go Go.Proofs
theorem vx174(b:Nat)(id bud:Int)(fa ra wa:O)(fl fc rl rc wl wc:Nat)(now goal nx:Int)(back:Bool)(la ka:O)(ll lc kl kc:Nat)(sa ta:O)(sl sc tl tc:Nat)(up:Bool)(na ma:O)(nl nc ml mc:Nat)(hk hg hn:Int)(hgd:Bool)(ha:O)(hl hc:Nat)(base:Nat)(H0:Heap)(H:Heap)(f:SV->List Bx->Heap->Prop):
 (codeI ⟨Tryz.prog,Tryz.f174.ntmps,⟨TryzListK,TryzSumS,true⟩,base,H0⟩ Tryz.f174 [.loc 0 0,.v (A #[I Z hk,I Z hg,I Z hn,B hgd,S ha hl hc])] [⟨b,false,41,[I Z id,S fa fl fc,S ra rl rc,S wa wl wc,I Z bud,S la ll lc,I Z now,I Z goal,B back,S ka kl kc,I Z nx,S sa sl sc,S ta tl tc,B up,S na nl nc,S ma ml mc]⟩] H f)=(
 (fun w13:LV=>(fun w12:LV=>∀a:Nat,(Y Tryz.prog 175 [S ma ml mc,I Z hn,B (decide (hk=10))] H fun c d=>∃e g h,(fun w6:LV=>∃i j k l m n o p q,c=T #[S e g h,A #[I Z i,I Z j,B k,B l,I Z m,S n o p],I Z q]/\(X base H d->∀r:Nat,(fun w5:LB=>(fun w4:LB=>(¬q=0->f (SV.v (I Z q)) w4 d)/\(¬¬q=0->∃s t,na=some (D s t none)/\0<=i/\i<(nl:Int)/\∃u:Prop,((k=true->(up=false->w4=w4/\SubH d d/\u)/\(¬up=false->(k=false->∃v,C d s (t+N i*10+9)=some (B v)/\w4=w4/\SubH d d/\(u↔v=false))/\(¬k=false->w4=w4/\SubH d d/\¬u)))/\(k=false->(k=false->∃v,C d s (t+N i*10+9)=some (B v)/\w4=w4/\SubH d d/\(u↔v=false))/\(¬k=false->w4=w4/\SubH d d/\¬u)))/\(u->f (SV.v (I Z 7)) w4 d)/\(¬u->(k=true->YO Tryz.prog 176 [P (some (D b 0 none)),A #[I Z 7,I Z i,I Z j,I Z 0,B l,I Z 0,S none 0 0]] [J b false 41 w6] d fun v w x=>∃y,v=I Z y/\∃(z:Int)(a1:O)(b1 c1:Nat)(d1:O)(e1 f1:Nat)(g1:O)(h1 i1:Nat)(j1:Int)(k1:O)(l1 m1:Nat)(n1 o1:Int)(p1:Bool)(q1:O)(r1 s1:Nat)(t1:Int)(u1:O)(v1 w1:Nat)(x1:O)(y1 z1:Nat)(a2:Bool)(b2:O)(c2 d2:Nat)(e2:O)(f2 g2:Nat),(fun w2:LV=>w=[w2]/\(X base d x->f (SV.v (I Z 0)) [J b false 41 w2,J a false 62 w12,J r false 74 [I Z i,I Z j,B k,B l,I Z m,S n o p]] x)) [I Z z,S a1 b1 c1,S d1 e1 f1,S g1 h1 i1,I Z j1,S k1 l1 m1,I Z n1,I Z o1,B p1,S q1 r1 s1,I Z t1,S u1 v1 w1,S x1 y1 z1,B a2,S b2 c2 d2,S e2 f2 g2])/\(k=false->∃v,C d s (t+N i*10+2)=some (I Z v)/\(j=v->∃w,C d s (t+N i*10+3)=some (B w)/\(w=false->YO Tryz.prog 180 [P (some (D b 0 none)),I Z i] [J b false 41 w6] d fun x y z=>x=T #[]/\∃(a1:Int)(b1:O)(c1 d1:Nat)(e1:O)(f1 g1:Nat)(h1:O)(i1 j1:Nat)(k1:Int)(l1:O)(m1 n1:Nat)(o1 p1:Int)(q1:Bool)(r1:O)(s1 t1:Nat)(u1:Int)(v1:O)(w1 x1:Nat)(y1:O)(z1 a2:Nat)(b2:Bool)(c2:O)(d2 e2:Nat)(f2:O)(g2 h2:Nat),(fun w3:LV=>y=[w3]/\(X base d z->f (SV.v (I Z 0)) [J b false 41 w3,J a false 62 w12,J r false 74 [I Z i,I Z j,B k,B l,I Z m,S n o p]] z)) [I Z a1,S b1 c1 d1,S e1 f1 g1,S h1 i1 j1,I Z k1,S l1 m1 n1,I Z o1,I Z p1,B q1,S r1
 s1 t1,I Z u1,S v1 w1 x1,S y1 z1 a2,B b2,S c2 d2 e2,S f2 g2 h2])/\(¬w=false->∃(x:Heap)(y:Nod)(z:NA)(a1:Recd)(b1:O)(c1 d1:Nat)(e1:KB),(A #[I Z 1,I Z 0,I Z j,I Z 0,B false,I Z m,S n o p]=A #[I Z (Recd.kind a1),I Z (Recd.agent a1),I Z (Recd.try_ a1),I Z (Recd.num a1),B (Recd.good a1),I Z (Rls.id (Recd.rel a1)),S b1 c1 d1]/\true=true)/\DoesPre base x d y z a1 b1 c1 s (t+N i*10) e1/\∀(f1:Int)(g1:Nod)(h1:NA)(i1:KB)(j1 k1:Heap),DoesPost x d y z a1 s (t+N i*10) e1 f1 g1 h1 i1 j1 k1->f (SV.v (I Z 0)) w5 k1))/\(¬j=v->∃(w:Heap)(x:Nod)(y:NA)(z:Recd)(a1:O)(b1 c1:Nat)(d1:KB),(A #[I Z 1,I Z 0,I Z j,I Z 0,B false,I Z m,S n o p]=A #[I Z (Recd.kind z),I Z (Recd.agent z),I Z (Recd.try_ z),I Z (Recd.num z),B (Recd.good z),I Z (Rls.id (Recd.rel z)),S a1 b1 c1]/\true=true)/\DoesPre base w d x y z a1 b1 s (t+N i*10) d1/\∀(e1:Int)(f1:Nod)(g1:NA)(h1:KB)(i1 j1:Heap),DoesPost w d x y z s (t+N i*10) d1 e1 f1 g1 h1 i1 j1->f (SV.v (I Z 0)) w5 j1))))) [J b false 41 w13,J a false 62 w12,J r false 74 [I Z i,I Z j,B k,B l,I Z m,S n o p]]) [J b false 41 w6,J a false 62 w12,J r false 74 [I Z i,I Z j,B k,B l,I Z m,S n o p]])) [I Z id,S fa fl fc,S ra rl rc,S wa wl wc,I Z bud,S la ll lc,I Z now,I Z goal,B back,S ka kl kc,I Z nx,S sa sl sc,S ta tl tc,B up,S na nl nc,S e g h])/\∀c:Nat,Y Tryz.prog 175 [S ma ml mc,I Z hn,B (decide (hk=10))] H fun d e=>∃g h i,(fun w11:LV=>∃j k l m n o p q,(fun w10:LB=>(fun w9:LB=>∃r,d=T #[S g h i,A #[I Z j,I Z k,B l,B m,I Z n,S o p q],I Z r]/\(X base H e->(¬r=0->f (SV.v (I Z r)) w9 e)/\(¬¬r=0->∃s t,na=some (D s t none)/\0<=j/\j<(nl:Int)/\∃u:Prop,((l=true->(up=false->w9=w9/\SubH e e/\u)/\(¬up=false->(l=false->∃v,C e s (t+N j*10+9)=some (B v)/\w9=w9/\SubH e e/\(u↔v=false))/\(¬l=false->w9=w9/\SubH e e/\¬u)))/\(l=false->(l=false->∃v,C e s (t+N j*10+9)=some (B v)/\w9=w9/\SubH e e/\(u↔v=false))/\(¬l=false->w9=w9/\SubH e e/\¬u)))/\(u->f (SV.v (I Z 7)) w9 e)/\(¬u->(l=true->YO Tryz.prog 176 [P (some (D b 0 none)),A
 #[I Z 7,I Z j,I Z k,I Z 0,B m,I Z 0,S none 0 0]] [J b false 41 w11] e fun v w x=>∃y,v=I Z y/\∃(z:Int)(a1:O)(b1 c1:Nat)(d1:O)(e1 f1:Nat)(g1:O)(h1 i1:Nat)(j1:Int)(k1:O)(l1 m1:Nat)(n1 o1:Int)(p1:Bool)(q1:O)(r1 s1:Nat)(t1:Int)(u1:O)(v1 w1:Nat)(x1:O)(y1 z1:Nat)(a2:Bool)(b2:O)(c2 d2:Nat)(e2:O)(f2 g2:Nat),(fun w7:LV=>w=[w7]/\(X base e x->f (SV.v (I Z 0)) [J b false 41 w7,J a false 62 w12,J c false 74 [I Z j,I Z k,B l,B m,I Z n,S o p q]] x)) [I Z z,S a1 b1 c1,S d1 e1 f1,S g1 h1 i1,I Z j1,S k1 l1 m1,I Z n1,I Z o1,B p1,S q1 r1 s1,I Z t1,S u1 v1 w1,S x1 y1 z1,B a2,S b2 c2 d2,S e2 f2 g2])/\(l=false->∃v,C e s (t+N j*10+2)=some (I Z v)/\(k=v->∃w,C e s (t+N j*10+3)=some (B w)/\(w=false->YO Tryz.prog 180 [P (some (D b 0 none)),I Z j] [J b false 41 w11] e fun x y z=>x=T #[]/\∃(a1:Int)(b1:O)(c1 d1:Nat)(e1:O)(f1 g1:Nat)(h1:O)(i1 j1:Nat)(k1:Int)(l1:O)(m1 n1:Nat)(o1 p1:Int)(q1:Bool)(r1:O)(s1 t1:Nat)(u1:Int)(v1:O)(w1 x1:Nat)(y1:O)(z1 a2:Nat)(b2:Bool)(c2:O)(d2 e2:Nat)(f2:O)(g2 h2:Nat),(fun w8:LV=>y=[w8]/\(X base e z->f (SV.v (I Z 0)) [J b false 41 w8,J a false 62 w12,J c false 74 [I Z j,I Z k,B l,B m,I Z n,S o p q]] z)) [I Z a1,S b1 c1 d1,S e1 f1 g1,S h1 i1 j1,I Z k1,S l1 m1 n1,I Z o1,I Z p1,B q1,S r1 s1 t1,I Z u1,S v1 w1 x1,S y1 z1 a2,B b2,S c2 d2 e2,S f2 g2 h2])/\(¬w=false->∃(x:Heap)(y:Nod)(z:NA)(a1:Recd)(b1:O)(c1 d1:Nat)(e1:KB),(A #[I Z 1,I Z 0,I Z k,I Z 0,B false,I Z n,S o p q]=A #[I Z (Recd.kind a1),I Z (Recd.agent a1),I Z (Recd.try_ a1),I Z (Recd.num a1),B (Recd.good a1),I Z (Rls.id (Recd.rel a1)),S b1 c1 d1]/\true=true)/\DoesPre base x e y z a1 b1 c1 s (t+N j*10) e1/\∀(f1:Int)(g1:Nod)(h1:NA)(i1:KB)(j1 k1:Heap),DoesPost x e y z a1 s (t+N j*10) e1 f1 g1 h1 i1 j1 k1->f (SV.v (I Z 0)) w10 k1))/\(¬k=v->∃(w:Heap)(x:Nod)(y:NA)(z:Recd)(a1:O)(b1 c1:Nat)(d1:KB),(A #[I Z 1,I Z 0,I Z k,I Z 0,B false,I Z n,S o p q]=A #[I Z (Recd.kind z),I Z (Recd.agent z),I Z (Recd.try_ z),I Z (Recd.num z),B
 (Recd.good z),I Z (Rls.id (Recd.rel z)),S a1 b1 c1]/\true=true)/\DoesPre base w e x y z a1 b1 s (t+N j*10) d1/\∀(e1:Int)(f1:Nod)(g1:NA)(h1:KB)(i1 j1:Heap),DoesPost w e x y z s (t+N j*10) d1 e1 f1 g1 h1 i1 j1->f (SV.v (I Z 0)) w10 j1)))))) [J b false 41 w13,J a false 62 w12,J c false 74 [I Z j,I Z k,B l,B m,I Z n,S o p q]]) [J b false 41 w11,J a false 62 w12,J c false 74 [I Z j,I Z k,B l,B m,I Z n,S o p q]]) [I Z id,S fa fl fc,S ra rl rc,S wa wl wc,I Z bud,S la ll lc,I Z now,I Z goal,B back,S ka kl kc,I Z nx,S sa sl sc,S ta tl tc,B up,S na nl nc,S g h i]) [I Z hk,I Z hg,I Z hn,B hgd,S ha hl hc]) [I Z id,S fa fl fc,S ra rl rc,S wa wl wc,I Z bud,S la ll lc,I Z now,I Z goal,B back,S ka kl kc,I Z nx,S sa sl sc,S ta tl tc,B up,S na nl nc,S ma ml mc]):=by kernel_rfl
theorem vx179(b:Nat)(id bud:Int)(fa ra wa:O)(fl fc rl rc wl wc:Nat)(now goal nx:Int)(back:Bool)(la ka:O)(ll lc kl kc:Nat)(sa ta:O)(sl sc tl tc:Nat)(up:Bool)(na ma:O)(nl nc ml mc:Nat)(hk hg hn:Int)(hgd:Bool)(ha:O)(hl hc:Nat)(base:Nat)(H0:Heap)(H:Heap)(f:SV->List Bx->Heap->Prop):
 (codeI ⟨Tryz.prog,Tryz.f179.ntmps,⟨TryzListK,TryzSumS,true⟩,base,H0⟩ Tryz.f179 [.loc 0 0,.v (A #[I Z hk,I Z hg,I Z hn,B hgd,S ha hl hc])] [⟨b,false,41,[I Z id,S fa fl fc,S ra rl rc,S wa wl wc,I Z bud,S la ll lc,I Z now,I Z goal,B back,S ka kl kc,I Z nx,S sa sl sc,S ta tl tc,B up,S na nl nc,S ma ml mc]⟩] H f)=(
 (fun w5:LV=>∀a:Nat,(fun w4:LB=>∃c d,na=some (D c d none)/\0<=hg/\hg<(nl:Int)/\∃e,C H c (d+N hg*10+3)=some (B e)/\(e=false->f (SV.v (I Z 7)) w4 H)/\(¬e=false->∃(g:O)(h i:Nat)(j k:Int)(l:Bool)(m:Int)(n:O)(o p:Nat)(q:Bool),(C H c (d+N hg*10)=some (S g h i)/\C H c (d+N hg*10+1)=some (I Z j)/\C H c (d+N hg*10+2)=some (I Z k)/\C H c (d+N hg*10+3)=some (B l)/\C H c (d+N hg*10+4)=some (I Z m)/\C H c (d+N hg*10+5)=some (S n o p)/\C H c (d+N hg*10+6)=some (B q)/\True)/\Y Tryz.prog 203 [A #[S g h i,I Z j,I Z k,B l,I Z m,S n o p,B q]] H fun r s=>∃t u v w,r=T #[S t u v,I Z w]/\(X base H s->(¬w=0->f (SV.v (I Z w)) w4 s)/\(¬¬w=0->(0<(u:Int)->∃x,C s c (d+N hg*10+2)=some (I Z x)/\∃(y:Heap)(z:Nod)(a1:NA)(b1:Recd)(c1:O)(d1 e1:Nat)(f1:KB),(A #[I Z 2,I Z 0,I Z x,I Z 0,B false,I Z 0,S none 0 0]=A #[I Z (Recd.kind b1),I Z (Recd.agent b1),I Z (Recd.try_ b1),I Z (Recd.num b1),B (Recd.good b1),I Z (Rls.id (Recd.rel b1)),S c1 d1 e1]/\true=true)/\DoesPre base y s z a1 b1 c1 d1 c (d+N hg*10) f1/\∀(g1:Int)(h1:Nod)(i1:NA)(j1:KB)(k1 l1:Heap),DoesPost y s z a1 b1 c (d+N hg*10) f1 g1 h1 i1 j1 k1 l1->f (SV.v (I Z g1)) w4 l1)/\(¬0<(u:Int)->∃x,C s c (d+N hg*10+2)=some (I Z x)/\∃(y:Heap)(z:Nod)(a1:NA)(b1:Recd)(c1:O)(d1 e1:Nat)(f1:KB),(A #[I Z 3,I Z 0,I Z x,I Z 0,B hgd,I Z 0,S none 0 0]=A #[I Z (Recd.kind b1),I Z (Recd.agent b1),I Z (Recd.try_ b1),I Z (Recd.num b1),B (Recd.good b1),I Z (Rls.id (Recd.rel b1)),S c1 d1 e1]/\true=true)/\DoesPre base y s z a1 b1 c1 d1 c (d+N hg*10) f1/\∀(g1:Int)(h1:Nod)(i1:NA)(j1:KB)(k1 l1:Heap),DoesPost y s z a1 b1 c (d+N hg*10) f1 g1 h1 i1 j1 k1 l1->(¬g1=0->f (SV.v (I Z g1)) w4 l1)/\(¬¬g1=0->YO Tryz.prog 180 [P (some (D b 0 none)),I Z hg] [J b false 41 w5] l1 fun m1 n1 o1=>m1=T #[]/\∃(p1:Int)(q1:O)(r1 s1:Nat)(t1:O)(u1 v1:Nat)(w1:O)(x1 y1:Nat)(z1:Int)(a2:O)(b2 c2:Nat)(d2 e2:Int)(f2:Bool)(g2:O)(h2 i2:Nat)(j2:Int)(k2:O)(l2 m2:Nat)
 (n2:O) (o2 p2:Nat) (q2:Bool) (r2:O) (s2 t2:Nat) (u2:O) (v2 w2:Nat),(fun w3:LV=>n1=[w3]/\(X base l1 o1->f (SV.v (I Z 0)) [J b false 41 w3,J a false 62 [I Z hk,I Z hg,I Z hn,B hgd,S ha hl hc]] o1)) [I Z p1,S q1 r1 s1,S t1 u1 v1,S w1 x1 y1,I Z z1,S a2 b2 c2,I Z d2,I Z e2,B f2,S g2 h2 i2,I Z j2,S k2 l2 m2,S n2 o2 p2,B q2,S r2 s2 t2,S u2 v2 w2])))))) [J b false 41 w5,J a false 62 [I Z hk,I Z hg,I Z hn,B hgd,S ha hl hc]]) [I Z id,S fa fl fc,S ra rl rc,S wa wl wc,I Z bud,S la ll lc,I Z now,I Z goal,B back,S ka kl kc,I Z nx,S sa sl sc,S ta tl tc,B up,S na nl nc,S ma ml mc]):=by kernel_rfl
theorem vx178(b:Nat)(id bud:Int)(fa ra wa:O)(fl fc rl rc wl wc:Nat)(now goal nx:Int)(back:Bool)(la ka:O)(ll lc kl kc:Nat)(sa ta:O)(sl sc tl tc:Nat)(up:Bool)(na ma:O)(nl nc ml mc:Nat)(hk hg hn:Int)(hgd:Bool)(ha:O)(hl hc:Nat)(base:Nat)(H0:Heap)(H:Heap)(f:SV->List Bx->Heap->Prop):
 (codeI ⟨Tryz.prog,Tryz.f178.ntmps,⟨TryzListK,TryzSumS,true⟩,base,H0⟩ Tryz.f178 [.loc 0 0,.v (A #[I Z hk,I Z hg,I Z hn,B hgd,S ha hl hc])] [⟨b,false,41,[I Z id,S fa fl fc,S ra rl rc,S wa wl wc,I Z bud,S la ll lc,I Z now,I Z goal,B back,S ka kl kc,I Z nx,S sa sl sc,S ta tl tc,B up,S na nl nc,S ma ml mc]⟩] H f)=(
 (fun w7:AV=>(fun w6:LV=>(fun w5:LV=>∀a:Nat,(fun w4:LB=>(hg<0->∃c,RunsTo Tryz.prog (binRun BinOp.eql 4 (Operand.tmp 24) (Operand.tmp 27) (B up) (B (decide (hk=13)))) (B c)/\(c=true->f (SV.v (I Z 7)) w4 H)/\(¬c=true->Y Tryz.prog 64 [A #[S sa sl sc,S ta tl tc]] H fun d e=>∃g h i j k l m n o p,d=T #[A #[S g h i,S j k l],S m n o,I Z p]/\(X base H e->∀q:Nat,(¬p=0->f (SV.v (I Z p)) [J b false 41 w5,J a false 62 w6,J q false 35 [S g h i,S j k l]] e)/\(¬¬p=0->(hk=12->Y Tryz.prog 66 [A w7,S none 0 0] e fun r s=>∃t u v w x y z a1 b1 c1 d1,r=T #[A #[S t u v,I Z w,I Z x,B y,S z a1 b1,I Z c1],I Z d1]/\(X base e s->∀e1:Nat,(d1=0->f (SV.v (I Z d1)) [J b false 41 [I Z id,S fa fl fc,S ra rl rc,S wa wl wc,I Z bud,S t u v,I Z w,I Z x,B y,S z a1 b1,I Z c1,S sa sl sc,S ta tl tc,B (decide (up=false)),S na nl nc,S ma ml mc],J a false 62 w6,J q false 35 [S sa sl sc,S ta tl tc],J e1 false 32 [S t u v,I Z w,I Z x,B y,S z a1 b1,I Z c1]] s)/\(¬d1=0->f (SV.v (I Z d1)) [J b false 41 w5,J a false 62 w6,J q false 35 [S sa sl sc,S ta tl tc],J e1 false 32 [S t u v,I Z w,I Z x,B y,S z a1 b1,I Z c1]] s)))/\(¬hk=12->Y Tryz.prog 66 [A w7,S m n o] e fun r s=>∃t u v w x y z a1 b1 c1 d1,r=T #[A #[S t u v,I Z w,I Z x,B y,S z a1 b1,I Z c1],I Z d1]/\(X base e s->∀e1:Nat,(d1=0->f (SV.v (I Z d1)) [J b false 41 [I Z id,S fa fl fc,S ra rl rc,S wa wl wc,I Z bud,S t u v,I Z w,I Z x,B y,S z a1 b1,I Z c1,S g h i,S j k l,B (decide (up=false)),S na nl nc,S ma ml mc],J a false 62 w6,J q false 35 [S g h i,S j k l],J e1 false 32 [S t u v,I Z w,I Z x,B y,S z a1 b1,I Z c1]] s)/\(¬d1=0->f (SV.v (I Z d1)) [J b false 41 w5,J a false 62 w6,J q false 35 [S g h i,S j k l],J e1 false 32 [S t u v,I Z w,I Z x,B y,S z a1 b1,I Z c1]] s)))))))/\(¬hg<0->∃c d,na=some (D c d none)/\0<=hg/\hg<(nl:Int)/\∃e,C H c (d+N hg*10+9)=some (B e)/\∃g,RunsTo Tryz.prog (binRun BinOp.eql 4 (Operand.tmp 80) (Operand.tmp 83) (B e) (B (decide (hk=13)))) (B g)/\(g=true->f (SV.v (I Z 7)) w4 H)/\(¬g=true->∃(h:O)(i j:Nat)(k:O)
 (l m:Nat),(C H c (d+N hg*10+7)=some (S h i j)/\C H c (d+N hg*10+7+1)=some (S k l m)/\True)/\Y Tryz.prog 64 [A #[S h i j,S k l m]] H fun n o=>∃p q r s t u v w x y,n=T #[A #[S p q r,S s t u],S v w x,I Z y]/\(X base H o->∀z:Nat,(¬y=0->f (SV.v (I Z y)) [J b false 41 w5,J a false 62 w6,J z false 35 [S p q r,S s t u]] o)/\(¬¬y=0->(hk=12->∃(a1:O)(b1 c1:Nat)(d1:O)(e1 f1:Nat),(C o c (d+N hg*10+7)=some (S a1 b1 c1)/\C o c (d+N hg*10+7+1)=some (S d1 e1 f1)/\True)/\Y Tryz.prog 67 [A #[I Z id,S fa fl fc],S none 0 0] o fun g1 h1=>∃i1 j1 k1 l1 m1 n1 o1 p1 q1 r1 s1 t1,g1=T #[A #[S i1 j1 k1,I Z l1,I Z m1,B n1,I Z o1,S p1 q1 r1,B s1],I Z t1]/\(X base o h1->∀u1:Nat,(fun w2:LB=>(t1=0->∃v1,C h1 c (d+N hg*10+9)=some (B v1)/\∃w1:KB,h1 c=some w1/\KB.free w1=true/\base<=c/\d+N hg*10+10<=KB.size w1/\∀x1:Heap,Upd h1 c (d+N hg*10) w1 [S i1 j1 k1,I Z l1,I Z m1,B n1,I Z o1,S p1 q1 r1,B s1,S a1 b1 c1,S d1 e1 f1,B (decide (v1=false))] x1->f (SV.v (I Z t1)) w2 x1)/\(¬t1=0->f (SV.v (I Z t1)) w2 h1)) [J b false 41 w5,J a false 62 w6,J z false 35 [S a1 b1 c1,S d1 e1 f1],J u1 false 46 [S i1 j1 k1,I Z l1,I Z m1,B n1,I Z o1,S p1 q1 r1,B s1]]))/\(¬hk=12->Y Tryz.prog 67 [A #[I Z id,S fa fl fc],S v w x] o fun a1 b1=>∃c1 d1 e1 f1 g1 h1 i1 j1 k1 l1 m1 n1,a1=T #[A #[S c1 d1 e1,I Z f1,I Z g1,B h1,I Z i1,S j1 k1 l1,B m1],I Z n1]/\(X base o b1->∀o1:Nat,(fun w3:LB=>(n1=0->∃p1,C b1 c (d+N hg*10+9)=some (B p1)/\∃q1:KB,b1 c=some q1/\KB.free q1=true/\base<=c/\d+N hg*10+10<=KB.size q1/\∀r1:Heap,Upd b1 c (d+N hg*10) q1 [S c1 d1 e1,I Z f1,I Z g1,B h1,I Z i1,S j1 k1 l1,B m1,S p q r,S s t u,B (decide (p1=false))] r1->f (SV.v (I Z n1)) w3 r1)/\(¬n1=0->f (SV.v (I Z n1)) w3 b1)) [J b false 41 w5,J a false 62 w6,J z false 35 [S p q r,S s t u],J o1 false 46 [S c1 d1 e1,I Z f1,I Z g1,B h1,I Z i1,S j1 k1 l1,B m1]]))))))) [J b false 41 w5,J a false 62 w6]) [I Z id,S fa fl fc,S ra rl rc,S wa wl wc,I Z bud,S la ll lc,I Z now,I Z goal,B back,S
 ka kl kc,I Z nx,S sa sl sc,S ta tl tc,B up,S na nl nc,S ma ml mc]) [I Z hk,I Z hg,I Z hn,B hgd,S ha hl hc]) #[I Z id,S fa fl fc,S ra rl rc,S wa wl wc,I Z bud]):=by kernel_rfl
open Go Go.Proofs
theorem vx164(a:O)(l c:Nat)(base:Nat)(H:Heap)(K:KT):
 (fV TryzMutsJ Tryz.f164 base H [.v (S a l c)] [] K)=(
 ∃b,RunsTo Tryz.prog (binRun BinOp.eql 25 (Operand.tmp 3) (Operand.const (S none 0 0)) (S a l c) (S none 0 0)) (B b)/\(b=true->K (S none 0 0) [] H)/\(¬b=true->∀(d:Nat)(e:Heap),X base H e->H d=none->e d=some (boxKB 152 [])->∃g h:List Value,Row base e 152 4 (some (D d 0 none)) 0 0 g/\List.length h=l*4/\allOne h=true/\(l=0∨∃i j,a=some (D i j none)/\cellsAt e i j 0 h)/\(0+l)*32<=140737488355328/\0+l<=9223372036854775807/\∀(i:O)(j:Nat)(k:Heap),Grew base e k (some (D d 0 none)) 0 i j (0+l)->Row base k 152 4 i (0+l) j (g++h)->K (S i (0+l) j) [] k)):=by kernel_rfl
theorem vx165(a:O)(l c:Nat)(base:Nat)(H:Heap)(K:KT):
 (fV TryzMutsJ Tryz.f165 base H [.v (S a l c)] [] K)=(
 ∃b,RunsTo Tryz.prog (binRun BinOp.eql 26 (Operand.tmp 3) (Operand.const (S none 0 0)) (S a l c) (S none 0 0)) (B b)/\(b=true->K (S none 0 0) [] H)/\(¬b=true->∀(d:Nat)(e:Heap),X base H e->H d=none->e d=some (boxKB 97 [])->∃g h:List Value,Row base e 97 1 (some (D d 0 none)) 0 0 g/\List.length h=l*1/\allOne h=true/\(l=0∨∃i j,a=some (D i j none)/\cellsAt e i j 0 h)/\(0+l)*24<=140737488355328/\0+l<=9223372036854775807/\∀(i:O)(j:Nat)(k:Heap),Grew base e k (some (D d 0 none)) 0 i j (0+l)->Row base k 97 1 i (0+l) j (g++h)->K (S i (0+l) j) [] k)):=by kernel_rfl
theorem vx166(a:O)(l c:Nat)(base:Nat)(H:Heap)(K:KT):
 (fV TryzMutsJ Tryz.f166 base H [.v (S a l c)] [] K)=(
 ∃b,RunsTo Tryz.prog (binRun BinOp.eql 97 (Operand.tmp 3) (Operand.const (S none 0 0)) (S a l c) (S none 0 0)) (B b)/\(b=true->K (S none 0 0) [] H)/\(¬b=true->∀(d:Nat)(e:Heap),X base H e->H d=none->e d=some (boxKB 3 [])->∃g h:List Value,Row base e 3 1 (some (D d 0 none)) 0 0 g/\List.length h=l*1/\allOne h=true/\(l=0∨∃i j,a=some (D i j none)/\cellsAt e i j 0 h)/\(0+l)*8<=140737488355328/\0+l<=9223372036854775807/\∀(i:O)(j:Nat)(k:Heap),Grew base e k (some (D d 0 none)) 0 i j (0+l)->Row base k 3 1 i (0+l) j (g++h)->K (S i (0+l) j) [] k)):=by kernel_rfl
theorem vx171(a:O)(l c:Nat)(base:Nat)(H:Heap)(K:KT):
 (fV TryzMutsJ Tryz.f171 base H [.v (S a l c)] [] K)=(
 ∃b,RunsTo Tryz.prog (binRun BinOp.eql 38 (Operand.tmp 3) (Operand.const (S none 0 0)) (S a l c) (S none 0 0)) (B b)/\(b=true->K (S none 0 0) [] H)/\(¬b=true->∀(d:Nat)(e:Heap),X base H e->H d=none->e d=some (boxKB 58 [])->∃g h:List Value,Row base e 58 10 (some (D d 0 none)) 0 0 g/\List.length h=l*10/\allOne h=true/\(l=0∨∃i j,a=some (D i j none)/\cellsAt e i j 0 h)/\(0+l)*144<=140737488355328/\0+l<=9223372036854775807/\∀(i:O)(j:Nat)(k:Heap),Grew base e k (some (D d 0 none)) 0 i j (0+l)->Row base k 58 10 i (0+l) j (g++h)->K (S i (0+l) j) [] k)):=by kernel_rfl
theorem vx87(id bud:Int)(fa ra wa:O)(fl fc rl rc wl wc:Nat)(base:Nat)(H:Heap)(K:KT):
 (fV TryzMutsJ Tryz.f87 base H [.v (A #[I Z id,S fa fl fc,S ra rl rc,S wa wl wc,I Z bud])] [] K)=(
 ∀a b:Nat,Y Tryz.prog 163 [S fa fl fc] H fun c d=>∃e g h,c=S e g h/\(X base H d->Y Tryz.prog 164 [S ra rl rc] d fun i j=>∃k l m,i=S k l m/\(X base d j->Y Tryz.prog 165 [S wa wl wc] j fun n o=>∃p q r,(fun w1:LL=>n=S p q r/\(X base j o->∃(s:LI)(t:LM),s [I Z 0] o/\∀(u:Int)(v:Heap),X base H v->s [I Z u] v->(u<(q:Int)->∃w x,p=some (D w x none)/\0<=u/\u<(q:Int)/\∃y z a1,C v w (x+N u*1)=some (S y z a1)/\Y Tryz.prog 166 [S y z a1] v fun b1 c1=>∃d1 e1 f1,b1=S d1 e1 f1/\(X base v c1->∃g1 h1,p=some (D g1 h1 none)/\0<=u/\u<(q:Int)/\∃i1:KB,c1 g1=some i1/\KB.free i1=true/\base<=g1/\h1+N u*1+1<=KB.size i1/\∀j1:Heap,Upd c1 g1 (h1+N u*1) i1 [S d1 e1 f1] j1->∀k1:Int,k1=W Z (u+1)->w1=w1/\s [I Z k1] j1/\t [I Z k1]<t [I Z u]))/\(¬u<(q:Int)->K (A #[I Z id,S e g h,S k l m,S p q r,I Z bud]) [] v))) [[I Z id,S e g h,S k l m,S p q r,I Z bud],[I Z 0,S none 0 0,S none 0 0,S none 0 0,I Z 0]]))):=by kernel_rfl
theorem vx168(sa ta:O)(sl sc tl tc:Nat)(base:Nat)(H:Heap)(K:KT):
 (fV TryzMutsJ Tryz.f168 base H [.v (A #[S sa sl sc,S ta tl tc])] [] K)=(
 ∀a b:Nat,Y Tryz.prog 169 [S sa sl sc] H fun c d=>∃e g h,c=S e g h/\(X base H d->Y Tryz.prog 169 [S ta tl tc] d fun i j=>∃k l m,i=S k l m/\(X base d j->K (A #[S e g h,S k l m]) [] j))):=by kernel_rfl
open Go Go.Proofs
theorem cCloneRules{H:Heap}{a:O}{l c:Nat}{xs:List Rule}(hx:Rules H a l xs)(hl:l<=100000):Spec Tryz.prog 164 [.slice a l c] H fun v H'=>∃a n c,v= .slice a n c/\Fresh H H' 152 4 a n c (xs.flatMap ruleCells):=by
 refine TryzvcJ Tryz.func164 (by kernel_rfl) (by kernel_rfl) _ rfl (fun base K=>vx164 a l c base H K) fun base hb=>⟨_,eqNil Tryz.underlying25,fun h=> ?_,fun h=> ?_⟩
 ·obtain rfl:a=none:=by cases a<;>simp at h⊢
  obtain⟨_,rfl⟩:=hx.addr_nil
  exact⟨none,0,0,rfl,Fresh.zero⟩
 ·intro g H1 hN1 _ hg
  obtain⟨h1,h2,h3⟩:=hx.copied ruleCells_len (fun _=>rfl) hN1.ext
  exact⟨[],_,Row.zero,h1,h2,h3,by omega,by omega,fun a3 c3 H3 hG hR=>⟨_,_,_,rfl,hR.fresh hb⟩⟩
theorem cCloneInts{H:Heap}{a:O}{l c:Nat}{xs:List Int}(hx:Sl RInt 1 H a l xs)(hl:l<=100000):Spec Tryz.prog 166 [.slice a l c] H fun v H'=>∃a n c,v= .slice a n c/\Fresh H H' 3 1 a n c (xs.flatMap fun x=>[i64 x]):=by
 refine TryzvcJ Tryz.func166 (by kernel_rfl) (by kernel_rfl) _ rfl (fun base K=>vx166 a l c base H K) fun base hb=>⟨_,eqNil Tryz.underlying97,fun h=> ?_,fun h=> ?_⟩
 ·obtain rfl:a=none:=by cases a<;>simp at h⊢
  obtain⟨_,rfl⟩:=hx.addr_nil
  exact⟨none,0,0,rfl,Fresh.zero⟩
 ·intro g H1 hN1 _ hg
  have hx':Sl (REnc fun x:Int=>[i64 x]) 1 H a l xs:=hx
  obtain⟨h1,h2,h3⟩:=hx'.copied (fun x=>show([i64 x]:List Value).length=1 from rfl) (fun x=>show allOne [i64 x]=true from rfl) hN1.ext
  exact⟨[],_,Row.zero,h1,h2,h3,by omega,by omega,fun a3 c3 H3 hG hR=>⟨_,_,_,rfl,hR.fresh hb⟩⟩
theorem rsl_one{α:Type}{R:Rep α}{sz:Nat}{H:Heap}{r:List Value}{x:List α}(h:RSl R sz H r x):allOne r=true:=by
 obtain⟨a,n,c,rfl,_⟩:=h;rfl
theorem rsl_len{α:Type}{R:Rep α}{sz:Nat}{H:Heap}{r:List Value}{x:List α}(h:RSl R sz H r x):r.length=1:=by
 obtain⟨a,n,c,rfl,_⟩:=h;rfl
theorem cCloneWaves{H:Heap}{a:O}{l c:Nat}{ms:List (List Int)}(hx:Waves H a l ms)(hl:l<=100000):Spec Tryz.prog 165 [.slice a l c] H fun v H'=>∃a n c rs,v= .slice a n c/\Fresh H H' 97 1 a n c rs.flatten/\(∀r∈rs,r.length=1)/\AllR (RSl RInt 1) H rs ms:=by
 refine TryzvcJ Tryz.func165 (by kernel_rfl) (by kernel_rfl) _ rfl (fun base K=>vx165 a l c base H K) fun base hb=>⟨_,eqNil Tryz.underlying26,fun h=> ?_,fun h=> ?_⟩
 ·obtain rfl:a=none:=by cases a<;>simp at h⊢
  obtain⟨_,rfl⟩:=hx.addr_nil
  exact⟨none,0,0,[],rfl,Fresh.zero,by simp,trivial⟩
 ·intro g H1 hN1 _ hg
  obtain⟨rs,h1,h2,h3,h4⟩:=hx.rows rsl_len
  exact⟨[],_,Row.zero,h3,allOne_rows rsl_one h2,h4.imp id (fun⟨b,o,hb,hc⟩=>⟨b,o,hb,cellsAt_ext hN1.ext hc⟩),by omega,by omega,fun a3 c3 H3 hG hR=>⟨_,_,_,rs,rfl,hR.fresh hb,h1,h2⟩⟩
theorem RNod.len{H:Heap}{r:List Value}{x:Nod}(h:RNod H r x):r.length=10:=by obtain⟨q,rfl,_⟩:=h;rfl
theorem RNod.one{H:Heap}{r:List Value}{x:Nod}(h:RNod H r x):allOne r=true:=by obtain⟨q,rfl,_⟩:=h;rfl
theorem cCloneNods{H:Heap}{a:O}{l c:Nat}{ms:List Nod}(hx:Nods H a l ms)(hl:l<=100000):Spec Tryz.prog 171 [.slice a l c] H fun v H'=>∃a n c rs,v= .slice a n c/\Fresh H H' 58 10 a n c rs.flatten/\(∀r∈rs,r.length=10)/\AllR RNod H rs ms:=by
 refine TryzvcJ Tryz.func171 (by kernel_rfl) (by kernel_rfl) _ rfl (fun base K=>vx171 a l c base H K) fun base hb=>⟨_,eqNil Tryz.underlying38,fun h=> ?_,fun h=> ?_⟩
 ·obtain rfl:a=none:=by cases a<;>simp at h⊢
  obtain⟨_,rfl⟩:=hx.addr_nil
  exact⟨none,0,0,[],rfl,Fresh.zero,by simp,trivial⟩
 ·intro g H1 hN1 _ hg
  obtain⟨rs,h1,h2,h3,h4⟩:=hx.rows RNod.len
  exact⟨[],_,Row.zero,h3,allOne_rows RNod.one h2,h4.imp id (fun⟨b,o,hb,hc⟩=>⟨b,o,hb,cellsAt_ext hN1.ext hc⟩),by omega,by omega,fun a3 c3 H3 hG hR=>⟨_,_,_,rs,rfl,hR.fresh hb,h1,h2⟩⟩
theorem cOwnDisk{H:Heap}{sa ta:O}{sl sc tl tc:Nat}{d:Dsk}(hd:DskAt H d sa sl sc ta tl tc)(h1:sl<=100000)(h2:tl<=100000):Spec Tryz.prog 168 [dskArg sa sl sc ta tl tc] H fun v H'=>∃sa sl sc ta tl tc,v=dskArg sa sl sc ta tl tc/\DskAt (newOf H H') d sa sl sc ta tl tc:=by
 refine TryzvcJ Tryz.func168 (by kernel_rfl) (by kernel_rfl) _ rfl (fun base K=>vx168 sa ta sl sc tl tc base H K) fun base hb=>fun b b'=> ?_
 refine(cCloneB hd.safe h1).mono fun v H1 e1 hv=> ?_
 obtain⟨a1,n1,c1,rfl,hF1⟩:=hv
 refine⟨a1,n1,c1,rfl,fun hN1=> ?_⟩
 refine(cCloneB (hd.wait.ext' e1) h2).mono fun v H2 e2 hv=> ?_
 obtain⟨a2,n2,c2,rfl,hF2⟩:=hv
 refine⟨a2,n2,c2,rfl,fun hN2=> ?_⟩
 exact⟨a1,n1,c1,a2,n2,c2,rfl,hF1.bytes.ext' (newOf_right e2),hF2.bytes.ext' (newOf_mono e1),hF1.le,hF2.le⟩
open Go Go.Proofs
theorem Fresh.ints{H H':Heap}{a:O}{n c:Nat}{xs:List Int}(h:Fresh H H' 3 1 a n c (xs.flatMap fun x=>[i64 x])):Sl RInt 1 (newOf H H') a n xs:=h.sl_new (sz:=1) (enc:=fun x:Int=>[i64 x]) (fun _=>rfl) (by decide)
theorem cConfigC{H:Heap}{c:Conf}{fa ra wa:O}{fl fc rl rc wl wc:Nat}(hc:CfgAt H c fa fl ra rl wa wl)(h1:fl<=100000)(h2:rl<=100000)(h3:wl<=100000)(h4:∀x∈c.waves,x.length<=100000):
  Spec Tryz.prog 87 [cfgArg c fa fl fc ra rl rc wa wl wc] H fun v H'=>∃fa fl fc ra rl rc wa wl wc,v=cfgArg c fa fl fc ra rl rc wa wl wc/\CfgAt H' c fa fl ra rl wa wl:=by
 refine TryzvcJ Tryz.func87 (by kernel_rfl) (by kernel_rfl) _ rfl (fun base K=>vx87 c.first.id c.bud fa ra wa fl fc rl rc wl wc base H K) fun base hb=>fun b b'=> ?_
 refine(cCloneJ hc.pins h1).mono fun v H1 e1 hv=> ?_
 obtain⟨a1,n1,c1,rfl,hF1⟩:=hv
 refine⟨a1,n1,c1,rfl,fun hN1=> ?_⟩
 refine(cCloneRules (hc.ext e1).rules h2).mono fun v H2 e2 hv=> ?_
 obtain⟨a2,n2,c2,rfl,hF2⟩:=hv
 refine⟨a2,n2,c2,rfl,fun hN2=> ?_⟩
 refine(cCloneWaves (hc.ext (Ext.trans e1 e2)).waves h3).mono fun v H3 e3 hv=> ?_
 obtain⟨a3,n3,c3,rs,rfl,hF3,hw3,hA3⟩:=hv
 refine⟨a3,n3,c3,rfl,fun hN3=> ?_⟩
 have hO3:OwnSl (RSl RInt 1) 1 97 base H2 H3 a3 n3 c3 rs c.waves:=⟨hF3.row hN3,hw3,hA3,hN3.ext,fun hc0 g hg=>by
  rcases hF3.2.2.2 with⟨_,h0⟩|⟨g',k',q1,q2,_⟩
  ·exact absurd h0 hc0
  ·rw[hg] at q1;simp at q1;subst q1;exact q2⟩
 have hP:Pins H2 a1 n1 c.first.lock:=hF1.pins.ext' e2
 have hR:Rules H2 a2 n2 c.rules:=Sl.ext REnc.mono (hF2.sl_new ruleCells_len (by omega)) newOf_ext
 refine⟨fun vs H'=>∃(k:Nat)(G:Heap)(rows:List (List Value)),vs=[i64 k]/\k<=n3/\Ext H2 G/\OwnSl (RSl RInt 1) 1 97 base G H' a3 n3 c3 rows c.waves,upTo n3 0,⟨0,H2,rs,rfl,by omega,Ext.refl _,hO3⟩,fun n4 H4 hN4 hI=> ?_⟩
 obtain⟨k,G,rows,hvs,hk,hG,hO⟩:=hI
 obtain rfl:n4=(k:Int):=by simpa using hvs
 obtain⟨r1,r2⟩:=hO.rlen (by omega)
 have hle:(n3:Int)<=9223372036854775807:=(hO.sl (RSl.mono RInt.mono) (by omega)).le
 refine⟨fun hlt=>(hO.sl (RSl.mono RInt.mono) (by omega)).slice (Ext.refl _) (by omega) hlt fun x a' n' c' hx hS=> ?_,fun hge=> ?_⟩
 ·rw[Int.toNat_natCast] at hx
  refine(cCloneInts (c:=c') hS (by rw[←hS.len];exact h4 x (List.mem_of_getElem? hx))).mono fun v H5 e5 hv=> ?_
  obtain⟨a5,n5,c5,rfl,hF5⟩:=hv
  refine⟨a5,n5,c5,rfl,fun hN5=> ?_⟩
  obtain⟨g,kb,hab,hbb,hc0,hHb,hfree,hsz,_⟩:=hO.row.block (by omega)
  have hnc:=hO.row.2.1
  refine⟨g,0,hab,by omega,hlt,kb,e5 _ _ hHb,hfree,hbb,by rw[hsz,Int.toNat_natCast];omega,fun H6 hu=> ?_⟩
  rintro r rfl
  rw[wrap_in (by omega) (by omega)]
  have hOg:=hO.grow (RSl.mono RInt.mono) e5
  have hrow:rows[k]?=some (rows[k]'(by omega)):=List.getElem?_eq_getElem (by omega)
  have hlen1:(rows[k]'(by omega)).length=1:=hO.wid _ (List.getElem_mem _)
  have hnew:RSl RInt 1 (G.plus (newOf H4 H5)) (setRange (rows[k]'(by omega)) 0 [.slice a5 n5 c5]) x:=by
   rw[setRange_full (by rw[hlen1];rfl)]
   exact⟨a5,n5,c5,rfl,Sl.ext RInt.mono hF5.ints (new_in_grow hO.sub)⟩
  have hO6:=hOg.put (o:=0+Int.toNat (k:Int)*1) hrow (off:=0) (vs:=[.slice a5 n5 c5]) (by simp) (by rw[Int.toNat_natCast];omega) hab hc0 (e5 _ _ hHb) hu hnew
  rw[set_self hx] at hO6
  exact⟨rfl,⟨k+1,_,_,rfl,by omega,Ext.trans hG plus_left,hO6⟩,by simp[upTo];omega⟩
 ·exact⟨_,_,_,_,_,_,_,_,_,rfl,(hP.ext' hG).ext' hO.sub,Sl.ext REnc.mono hR (Ext.trans hG hO.sub),hO.sl (RSl.mono RInt.mono) (by omega)⟩
open Go Go.Proofs
theorem vx90(id bud:Int)(fa ra wa:O)(fl fc rl rc wl wc:Nat)(now goal nx:Int)(back:Bool)(la ka:O)(ll lc kl kc:Nat)(sa ta:O)(sl sc tl tc:Nat)(up:Bool)(na ma:O)(nl nc ml mc:Nat)(base:Nat)(H:Heap)(K:KT):
 (fV TryzMutsK Tryz.f90 base H [.v (A #[I Z id,S fa fl fc,S ra rl rc,S wa wl wc,I Z bud,S la ll lc,I Z now,I Z goal,B back,S ka kl kc,I Z nx,S sa sl sc,S ta tl tc,B up,S na nl nc,S ma ml mc])] [] K)=(
 ∀a b:Nat,Y Tryz.prog 87 [A #[I Z id,S fa fl fc,S ra rl rc,S wa wl wc,I Z bud]] H fun c d=>∃e g h i j k l m n o p,c=A #[I Z e,S g h i,S j k l,S m n o,I Z p]/\(X base H d->Y Tryz.prog 170 [A #[S la ll lc,I Z now,I Z goal,B back,S ka kl kc,I Z nx]] d fun q r=>∃s t u v w x y z a1 b1,q=A #[S s t u,I Z v,I Z w,B x,S y z a1,I Z b1]/\(X base d r->Y Tryz.prog 168 [A #[S sa sl sc,S ta tl tc]] r fun c1 d1=>∃e1 f1 g1 h1 i1 j1,c1=A #[S e1 f1 g1,S h1 i1 j1]/\(X base r d1->Y Tryz.prog 171 [S na nl nc] d1 fun k1 l1=>∃m1 n1 o1,k1=S m1 n1 o1/\(X base d1 l1->Y Tryz.prog 172 [S ma ml mc] l1 fun p1 q1=>∃r1 s1 t1,(fun w6:LL=>p1=S r1 s1 t1/\(X base l1 q1->∃(u1:NI)(v1:Nat),u1 v1 [I Z 0] q1/\∀(w1:Nat)(x1:Int)(y1:Heap),X base H y1->u1 w1 [I Z x1] y1->(x1<(n1:Int)->∃z1 a2,m1=some (D z1 a2 none)/\0<=x1/\x1<(n1:Int)/\∃(b2:O)(c2 d2:Nat)(e2 f2:Int)(g2:Bool)(h2:Int)(i2:O)(j2 k2:Nat)(l2:Bool),(fun w5:LV=>∃(m2:O)(n2 o2:Nat)(p2:O)(q2 r2:Nat),(fun w4:LV=>∃s2:Bool,(C y1 z1 (a2+N x1*10)=some (S b2 c2 d2)/\C y1 z1 (a2+N x1*10+1)=some (I Z e2)/\C y1 z1 (a2+N x1*10+2)=some (I Z f2)/\C y1 z1 (a2+N x1*10+3)=some (B g2)/\C y1 z1 (a2+N x1*10+4)=some (I Z h2)/\C y1 z1 (a2+N x1*10+5)=some (S i2 j2 k2)/\C y1 z1 (a2+N x1*10+6)=some (B l2)/\C y1 z1 (a2+N x1*10+7)=some (S m2 n2 o2)/\C y1 z1 (a2+N x1*10+8)=some (S p2 q2 r2)/\C y1 z1 (a2+N x1*10+9)=some (B s2)/\True)/\∀t2:Nat,(Y Tryz.prog 173 w5 y1 fun u2 v2=>∃w2 x2 y2 z2 a3 b3 c3 d3 e3 f3 g3,u2=A #[S w2 x2 y2,I Z z2,I Z a3,B b3,I Z c3,S d3 e3 f3,B g3]/\(X base y1 v2->Y Tryz.prog 168 w4 v2 fun h3 i3=>∃j3 k3 l3 m3 n3 o3,h3=A #[S j3 k3 l3,S m3 n3 o3]/\(X base v2 i3->∃p3 q3,m1=some (D p3 q3 none)/\0<=x1/\x1<(n1:Int)/\∃r3:KB,i3 p3=some r3/\KB.free r3=true/\base<=p3/\q3+N x1*10+7<=KB.size r3/\∀s3:Heap,Upd i3 p3 (q3+N x1*10) r3 [S w2 x2 y2,I Z z2,I Z a3,B b3,I Z c3,S d3 e3 f3,B g3] s3->∃t3 u3,m1=some (D t3 u3 none)/\0<=x1/\x1<(n1:Int)/\∃v3:KB,s3 t3=some
 v3/\KB.free v3=true/\base<=t3/\u3+N x1*10+7+2<=KB.size v3/\∀w3:Heap,Upd s3 t3 (u3+N x1*10+7) v3 [S j3 k3 l3,S m3 n3 o3] w3->∀x3:Int,x3=W Z (x1+1)->w6=w6/\∃y3:Nat,y3<w1/\u1 y3 [I Z x3] w3)))/\Y Tryz.prog 173 w5 y1 fun u2 v2=>∃w2 x2 y2 z2 a3 b3 c3 d3 e3 f3 g3,u2=A #[S w2 x2 y2,I Z z2,I Z a3,B b3,I Z c3,S d3 e3 f3,B g3]/\(X base y1 v2->(Y Tryz.prog 168 w4 v2 fun h3 i3=>∃j3 k3 l3 m3 n3 o3,h3=A #[S j3 k3 l3,S m3 n3 o3]/\(X base v2 i3->∃p3 q3,m1=some (D p3 q3 none)/\0<=x1/\x1<(n1:Int)/\∃r3:KB,i3 p3=some r3/\KB.free r3=true/\base<=p3/\q3+N x1*10+7<=KB.size r3/\∀s3:Heap,Upd i3 p3 (q3+N x1*10) r3 [S w2 x2 y2,I Z z2,I Z a3,B b3,I Z c3,S d3 e3 f3,B g3] s3->∃t3 u3,m1=some (D t3 u3 none)/\0<=x1/\x1<(n1:Int)/\∃v3:KB,s3 t3=some v3/\KB.free v3=true/\base<=t3/\u3+N x1*10+7+2<=KB.size v3/\∀w3:Heap,Upd s3 t3 (u3+N x1*10+7) v3 [S j3 k3 l3,S m3 n3 o3] w3->∀x3:Int,x3=W Z (x1+1)->w6=w6/\∃y3:Nat,y3<w1/\u1 y3 [I Z x3] w3))/\Y Tryz.prog 168 w4 v2 fun h3 i3=>∃j3 k3 l3 m3 n3 o3,h3=A #[S j3 k3 l3,S m3 n3 o3]/\(X base v2 i3->∃p3 q3,m1=some (D p3 q3 none)/\0<=x1/\x1<(n1:Int)/\(∃r3:KB,i3 p3=some r3/\KB.free r3=true/\base<=p3/\q3+N x1*10+7<=KB.size r3/\∀s3:Heap,Upd i3 p3 (q3+N x1*10) r3 [S w2 x2 y2,I Z z2,I Z a3,B b3,I Z c3,S d3 e3 f3,B g3] s3->∃t3 u3,m1=some (D t3 u3 none)/\0<=x1/\x1<(n1:Int)/\∃v3:KB,s3 t3=some v3/\KB.free v3=true/\base<=t3/\u3+N x1*10+7+2<=KB.size v3/\∀w3:Heap,Upd s3 t3 (u3+N x1*10+7) v3 [S j3 k3 l3,S m3 n3 o3] w3->∀x3:Int,x3=W Z (x1+1)->w6=w6/\∃y3:Nat,y3<w1/\u1 y3 [I Z x3] w3)/\∃r3:KB,i3 p3=some r3/\KB.free r3=true/\base<=p3/\q3+N x1*10+7<=KB.size r3/\∀s3:Heap,Upd i3 p3 (q3+N x1*10) r3 [S w2 x2 y2,I Z z2,I Z a3,B b3,I Z c3,S d3 e3 f3,B g3] s3->∃t3 u3,m1=some (D t3 u3 none)/\0<=x1/\x1<(n1:Int)/\∃v3:KB,s3 t3=some v3/\KB.free v3=true/\base<=t3/\u3+N x1*10+7+2<=KB.size v3/\∀w3:Heap,Upd s3 t3 (u3+N x1*10+7) v3 [S j3 k3 l3,S m3 n3 o3] w3->∀
 x3:Int,x3=W Z (x1+1)->w6=w6/\∃y3:Nat,y3<w1/\u1 y3 [I Z x3] w3))) [A #[S m2 n2 o2,S p2 q2 r2]]) [A #[S b2 c2 d2,I Z e2,I Z f2,B g2,I Z h2,S i2 j2 k2,B l2]])/\(¬x1<(n1:Int)->K (A #[I Z e,S g h i,S j k l,S m n o,I Z p,S s t u,I Z v,I Z w,B x,S y z a1,I Z b1,S e1 f1 g1,S h1 i1 j1,B up,S m1 n1 o1,S r1 s1 t1]) [] y1))) [[I Z e,S g h i,S j k l,S m n o,I Z p,S s t u,I Z v,I Z w,B x,S y z a1,I Z b1,S e1 f1 g1,S h1 i1 j1,B up,S m1 n1 o1,S r1 s1 t1],[I Z 0,S none 0 0,S none 0 0,S none 0 0,I Z 0,S none 0 0,I Z 0,I Z 0,B false,S none 0 0,I Z 0,S none 0 0,S none 0 0,B false,S none 0 0,S none 0 0]]))))):=by kernel_rfl
open Go
theorem SInv.kn{c:Conf}{L:Ldr}{A:List Agt}{M:List Mail}(h:SInv c L A M){k:Nat}{a:Agt}(ha:A[k]?=some a):∃b,L.ags[k]?=some b/\AInv L b a:=by
 have hk:k<L.ags.length:=by rw[←h.len];exact(List.getElem?_eq_some_iff.1 ha).1
 exact⟨_,List.getElem?_eq_getElem hk,(h.agt k a _ ha (List.getElem?_eq_getElem hk)).1⟩
theorem tgt_rel{c:Conf}{L:Ldr}(f:LFacts c L):L.rels[(L.now-1).toNat]?=some (tgt L true)/\(L.goal≠0->L.rels[(L.goal-1).toNat]?=some (tgt L false)):=by
 have h1:=f.now
 have h2:=f.goal
 refine⟨?_,fun h=> ?_⟩
 ·rw[tgt_true,List.getElem?_eq_getElem (show(L.now-1).toNat<L.rels.length by omega)];rfl
 ·rw[tgt_false,List.getElem?_eq_getElem (show(L.goal-1).toNat<L.rels.length by omega)];rfl
theorem story_rests{c:Conf}{L:Ldr}{A:List Agt}{M:List Mail}(h:SInv c L A M)(hg:L.goal=0){a:Agt}(ha:a∈A):a.going=false/\a.at_=L.now/\∃r,L.rels[(L.now-1).toNat]?=some r/\a.lock=r.lock:=by
 have f:=ldr_facts h.led
 obtain⟨k,hk⟩:=List.getElem?_of_mem ha
 obtain⟨b,hb,hI⟩:=h.kn hk
 have h0:b.st=0:=Decidable.byContradiction fun e=>((f.kn k b hb).2.2.2.2.1 e).1 hg
 obtain⟨_,e1,e2,e3⟩:=hI.idle h0
 have:=(f.tgt true (.inl rfl)).2.1
 exact⟨e1,by rw[e2,this];rfl,_,(tgt_rel f).1,e3⟩
open Go
theorem wRun_ok{w y:Wld}{x:Hap}{q:List Hap}(h:wHap w x= .ok y):wRunFrom w (x::q)=((wRunFrom y q).1,0::(wRunFrom y q).2):=by
 conv=>lhs;unfold wRunFrom
 rw[h]
theorem wRun_err{w:Wld}{e:Int}{x:Hap}{q:List Hap}(h:wHap w x= .error e):wRunFrom w (x::q)=((wRunFrom w q).1,e::(wRunFrom w q).2):=by
 conv=>lhs;unfold wRunFrom
 rw[h]
theorem WRight.run:∀ {l:List Hap} {w:Wld},WRight w->WRight (wRunFrom w l).1
 | [],w,h=>h
 |x::q,w,h=>by
  cases hx:wHap w x with
  |ok y=>rw[wRun_ok hx];exact WRight.run (h.hap hx).ok
  |error e=>rw[wRun_err hx];exact WRight.run h
end Go.Vg
