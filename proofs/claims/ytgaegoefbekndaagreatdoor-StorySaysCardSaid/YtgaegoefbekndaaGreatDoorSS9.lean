/- What is proved here: a part of the proof of laws of this seat: what a contract is, how it comes of a condition, contracts of the functions that are reached, the plain laws. -/
import Derived.Test.YtgaegoefbekndaaGreatDoorSS8
set_option linter.unusedSimpArgs false
set_option linter.unusedVariables false
set_option maxRecDepth 100000
namespace Go.Vg
open Go Go.Proofs
section
variable {base : Nat} {G H H' : Heap} {l : Ldr} {la la' ka : O} {ll lc lc' kl kc : Nat} {rows : List (List Value)}
theorem OwnL.push(h:OwnL base G H l la ll lc ka kl kc rows){r:Rls}{a:O}{n c nn:Nat}(hp:Pins G a n r.lock)(hg:Rg r.id)(hn:nn=ll+1)(hG:Grew base H H' la lc la' lc' nn)(hR:Row base H' 24 2 la' nn lc' (rows.flatten++[i64 r.id,.slice a n c])):
  LdrAt H' { l with rels:=l.rels++[r] } la' nn ka kl:=by
 have h1:=h.rels.grew (rows':=[[i64 r.id,.slice a n c]]) (ys:=[r]) hG (by simpa using hR) (by simp) ⟨⟨a,n,c,rfl,hp,hg⟩,trivial⟩
 exact⟨h1.sl RRl.mono (by omega),kns_row (h.ags.stay hG h.apart).1⟩
theorem OwnL.put(h:OwnL base G H l la ll lc ka kl kc rows){k:Nat}{p q:Kn}(hp:l.ags[k]?=some p){f o:Nat}{vs:List Value}(hf:f+vs.length<=3)(hq:setRange (knCells p) f vs=knCells q){b:Nat}{kb:KB}(hka:ka=some ⟨b,0,none⟩)(hkc:kc≠0)(hb:H b=some kb)(ho:o=k*3+f)(hu:Upd H b o kb vs H'):
  OwnL base G H' { l with ags:=l.ags.set k q } la ll lc ka kl kc rows:=by
 refine⟨h.rels.other hu (fun w e=>h.apart w hkc (by rw[e,hka])) (h.clear hkc b hka),?_,h.apart,h.clear⟩
 have hl:=(kns_row h.ags).len
 have hkl:=(List.getElem?_eq_some_iff.1 hp).1
 have h1:=h.ags.upd hka hkc hb (o:=o) (vs:=vs) (by rw[h.ags.1,ho];omega) hu
 rw[ho,flat_field knCells_len hf hq hp] at h1
 exact h1
theorem OwnL.ag(h:OwnL base G H l la ll lc ka kl kc rows){k:Nat}{p:Kn}(hp:l.ags[k]?=some p):
  ∃(b:Nat)(kb:KB),ka=some ⟨b,0,none⟩/\base<=b/\kc≠0/\H b=some kb/\kb.free=true/\kb.size=kc*3/\k<kl/\kl<=kc/\∀(j:Nat)(v:Value),(knCells p)[j]?=some v->H.cell b (0+k*3+j)=some v:=by
 have hl:=(kns_row h.ags).len
 have hkl:=(List.getElem?_eq_some_iff.1 hp).1
 obtain⟨b,kb,h1,h2,h3,h4,h5,h6,_⟩:=h.ags.block (by omega)
 have hR:=h.ags
 rw[List.flatMap_def] at hR
 obtain⟨b',hb',hc⟩:=hR.at (i:=k) (r:=knCells p) (fun r hr=>by obtain⟨x,_,rfl⟩:=List.mem_map.1 hr;rfl) (by simp;omega) (by rw[List.getElem?_map,hp];rfl)
 obtain rfl:b=b':=by rw[h1] at hb';simpa using hb'
 exact⟨b,kb,h1,h2,h3,h4,h5,h6,by omega,hR.2.1,hc⟩
theorem OwnL.as{x y:Ldr}(h:OwnL base G H x la ll lc ka kl kc rows)(hr:x.rels=y.rels)(ha:x.ags=y.ags):OwnL base G H y la ll lc ka kl kc rows:=⟨hr▸h.rels,ha▸h.ags,h.apart,h.clear⟩
theorem LdrAt.as{x y:Ldr}(h:LdrAt H x la ll ka kl)(hr:x.rels=y.rels)(ha:x.ags=y.ags):LdrAt H y la ll ka kl:=⟨hr▸h.rels,ha▸h.ags⟩
end
theorem rec_zero{r:Recd}(h:recErr r=0):(1<=r.kind/\r.kind<=9)/\¬recForm r/\¬recRange r/\(r.kind=1∨r.kind=4->relErr r.rel=0):=by
 unfold recErr at h
 split at h
 ·omega
 ·split at h
  ·omega
  ·split at h
   ·omega
   ·rename_i h1 h2 h3
    refine⟨by omega,h2,h3,fun hk=> ?_⟩
    rw[if_pos hk] at h;exact h
def clr(a:Kn):Kn:=⟨0,a.try_,false⟩
theorem clr_at{xs:List Kn}{i:Nat}{m:Kn}(hm:xs[i]?=some m):((xs.take i).map clr++xs.drop i).set i (clr m)=(xs.take (i+1)).map clr++xs.drop (i+1):=by
 have hi:=(List.getElem?_eq_some_iff.1 hm).1
 rw[drop_at hm,take_at hm,List.set_append_right _ _ (by simp;omega)]
 simp[Nat.min_eq_left (Nat.le_of_lt hi)]
theorem clr_get{xs:List Kn}{i:Nat}{m:Kn}(hm:xs[i]?=some m):((xs.take i).map clr++xs.drop i)[i]?=some m:=by
 have hi:=(List.getElem?_eq_some_iff.1 hm).1
 rw[List.getElem?_append_right (by simp;omega)]
 simp[Nat.min_eq_left (Nat.le_of_lt hi),hm]
section
variable {H : Heap} {c : Conf} {fa ra wa qa : O} {fl fc rl rc wl wc ql qc : Nat} {l : Ldr} {la ka : O} {ll lc kl kc : Nat} {r : Recd}
theorem cNextL2(hc:CfgAt H c fa fl ra rl wa wl)(h:LdrAt H l la ll ka kl)(hr:Pins H qa ql r.rel.lock):
  Spec Tryz.prog 144 [cfgArg c fa fl fc ra rl rc wa wl wc,ldrArg l la ll lc ka kl kc,recArg r qa ql qc] H fun v H'=>∃la ll lc ka kl kc,v= .tuple #[ldrArg (ledV c l r) la ll lc ka kl kc,i64 (ledErr c l r)]/\LdrAt H' (ledV c l r) la ll ka kl/\ll<=lc:=by
 refine TryzvcJ Tryz.func144 (by kernel_rfl) (by kernel_rfl) _ rfl (fun base K=>vc79 c.first.id c.bud fa ra wa fl fc rl rc wl wc la ka ll lc kl kc l.now l.goal l.nx l.back r.kind r.agent r.try_ r.num r.rel.id r.good qa ql qc base H K) fun base hb=> ?_
 have bad:∀ {e:Int} {H':Heap},ledErr c l r=e->e≠0->∃la ll lc ka kl kc,Value.tuple #[.agg #[.slice none 0 0,.int .i64 0,.int .i64 0,.bool false,.slice none 0 0,.int .i64 0],.int .i64 e]= .tuple #[ldrArg (ledV c l r) la ll lc ka kl kc,i64 (ledErr c l r)]/\LdrAt H' (ledV c l r) la ll ka kl/\ll<=lc:=fun he h0=>by
  have:ledV c l r=noLdr:=by rw[ledV,if_neg (by omega)]
  rw[this,he];exact⟨none,0,0,none,0,0,rfl,⟨Sl.nil,Sl.nil⟩,by omega⟩
 have good:∀ {X:Ldr} {H':Heap} {la ll lc ka kl kc},ledErr c l r=0->ledNext l r=X->LdrAt H' X la ll ka kl->ll<=lc->∃la' ll' lc' ka' kl' kc',Value.tuple #[ldrArg X la ll lc ka kl kc,.int .i64 0]= .tuple #[ldrArg (ledV c l r) la' ll' lc' ka' kl' kc',i64 (ledErr c l r)]/\LdrAt H' (ledV c l r) la' ll' ka' kl'/\ll'<=lc':=fun he hX hA hle=>by
  have:ledV c l r=ledNext l r:=by rw[ledV,if_pos he]
  rw[this,he,hX];exact⟨_,_,_,_,_,_,rfl,hA,hle⟩
 intro b b1 b2 b3
 refine(cLdrCheck hc h).int1 fun H1 e1 _=>⟨fun q=>bad (by rw[ledErr,if_pos q]) q,fun q=> ?_⟩
 have q0:ldrErr c l=0:=Decidable.not_not.1 q
 obtain⟨g1,g2,g3,g4,g5,g6,g7⟩:=ldrErr_zero.1 q0
 unfold ldrRange at g5
 have h6:=ags_six q0
 have hlk:=rel_lock g4
 have hkl:=h.ags.len
 have hll:=h.rels.len
 refine(cRecCheck (hr.ext' e1)).int1 fun H2 e2 _=> ?_
 have E2:=e1.trans e2
 refine(cCopyL (h.ext E2) (by omega) (by omega) (fun m hm=>by have:=(hlk m hm).2;omega)).mono fun v H3 e3 hv=> ?_
 obtain⟨la',ll',lc',ka',kl',kc',G,rows,rfl,hNew⟩:=hv
 refine⟨la',ll',lc',_,_,_,ka',kl',kc',_,rfl,fun hN3=> ?_⟩
 have E3:=E2.trans e3
 have hO:=hNew.own hN3
 have hll':=hO.at_.rels.len
 have hkl':=hO.at_.ags.len
 refine⟨fun q2=>⟨fun _=>bad (by rw[ledErr,if_neg q,if_pos q2]) q2,fun w=>absurd q2 w⟩,fun q2=> ?_⟩
 have q20:recErr r=0:=Decidable.not_not.1 q2
 have E:∀ {P:Int},ledKind c l r=P->ledErr c l r=P:=fun he=>by rw[ledErr,if_neg q,if_neg q2,he]
 obtain⟨z1,z2,z3,z4⟩:=rec_zero q20
 have hra:0<=r.agent:=by unfold recRange at z3;omega
 refine⟨fun k4=> ?_,fun k4=>⟨fun k5=> ?_,fun k5=> ?_⟩⟩
 ·have hr0:relErr r.rel=0:=z4 (.inr k4)
  intro b4 b5
  refine⟨fun w=>⟨fun _=>bad (E (by rw[ledKind,if_pos k4,if_pos (by omega)])) (by decide),fun w=>absurd (by decide) w⟩,fun w=> ?_⟩
  rintro _ rfl
  rw[wrap_in (by omega) (by omega)]
  refine⟨fun w2=>⟨fun _=>bad (E (by rw[ledKind,if_pos k4,if_neg (by omega),if_pos (by omega)])) (by decide),fun w=>absurd (by decide) w⟩,fun w2=> ?_⟩
  refine(cBroken (hr.ext' E3) (hc.ext E3).rules).int2 fun H4 e4 _=>⟨fun w3=>⟨fun _=>bad (E (by rw[ledKind,if_pos k4,if_neg (by omega),if_neg (by omega),if_pos w3])) w3,fun w=>absurd w3 w⟩,fun w3=>⟨fun w4=>⟨fun _=>bad (E (by rw[ledKind,if_pos k4,if_neg (by omega),if_neg (by omega),if_neg w3,if_pos w4])) (by decide),fun w=>absurd (by decide) w⟩,fun w4=> ?_⟩⟩
  have hE0:ledErr c l r=0:=E (by rw[ledKind,if_pos k4,if_neg (by omega),if_neg (by omega),if_neg w3,if_neg w4])
  have hrl:=hr.len
  have hr12:=(relErr_zero hr0).2.2
  refine(cCloneJ (hr.ext' (E3.trans e4)) (by omega)).mono fun v H5 e5 hv=> ?_
  obtain⟨a5,n5,c5,rfl,hF⟩:=hv
  refine⟨a5,n5,c5,rfl,fun hN5 g H6 hN6 _ hg=> ?_⟩
  have hO6:=((hO.rels.ext e4).grow RRl.mono e5).ext hN6.ext
  have hP:Pins (G.plus (newOf H4 H5)) a5 n5 r.rel.lock:=Sl.ext REnc.mono (hF.sl_new pinCells_len (by omega)) (new_in_grow (hO.rels.sub.trans e4))
  have hOL:OwnL base (G.plus (newOf H4 H5)) H6 l la' ll' lc' ka' kl' kc' rows:=⟨hO6,((hO.ags.ext e4).ext e5).ext hN6.ext,hO.apart,fun w g hg=>by
   obtain⟨kb,hkb⟩:∃kb,H4 g=some kb:=by
    rcases(hO.ags.ext e4).2.2.2 with⟨_,h0⟩|⟨g',k',u1,_,u3,_⟩
    ·exact absurd h0 w
    ·rw[hg] at u1;simp at u1;subst u1;exact⟨k',u3⟩
   unfold Heap.plus newOf
   rw[hO.clear w g hg,hkb]⟩
  refine⟨rows.flatten,[i64 r.rel.id,.slice a5 n5 c5],hO6.row,rfl,rfl,.inr ⟨g,0,rfl,box_cellsAt hg⟩,by omega,by omega,fun a7 c7 H7 hG hR7=>⟨fun w=>absurd rfl w,fun _=> ?_⟩⟩
  exact good (X:= { l with rels:=l.rels++[r.rel] }) hE0 (by rw[ledNext,if_pos k4]) (hOL.push hP (rg_id hr0) rfl hG hR7) hR7.2.1
 ·refine⟨fun w=>⟨fun _=>bad (E (by rw[ledKind,if_neg k4,if_pos k5,if_pos w])) (by decide),fun w=>absurd (by decide) w⟩,fun w=>⟨fun w2=>⟨fun _=>bad (E (by rw[ledKind,if_neg k4,if_pos k5,if_neg w,if_pos (by omega)])) (by decide),fun w=>absurd (by decide) w⟩,fun w2=>⟨fun w3=>⟨fun _=>bad (E (by rw[ledKind,if_neg k4,if_pos k5,if_neg w,if_neg (by omega),if_pos w3])) (by decide),fun w=>absurd (by decide) w⟩,fun w3=>⟨fun w=>absurd rfl w,fun _=> ?_⟩⟩⟩⟩
  exact good (X:= { l with goal:=r.num }) (E (by rw[ledKind,if_neg k4,if_pos k5,if_neg w,if_neg (by omega),if_neg w3])) (by rw[ledNext,if_neg k4,if_pos k5]) (hO.at_.as rfl rfl) hO.rels.row.2.1
 refine⟨r.kind=6∨r.kind=7,⟨fun w=>⟨rfl,fun _ _ h=>h,.inl w⟩,fun w=>⟨rfl,fun _ _ h=>h,by omega⟩⟩,fun k67=> ?_,fun k67=>⟨fun k8=> ?_,fun k8=>⟨fun k9=> ?_,fun k9=> ?_⟩⟩⟩
 ·intro b4 b5
  refine⟨fun w=>⟨fun _=>bad (E (by rw[ledKind,if_neg k4,if_neg k5,if_pos k67,if_pos (by omega)])) (by decide),fun w=>absurd (by decide) w⟩,fun w=> ?_⟩
  obtain⟨p,hp⟩:∃p,l.ags[r.agent.toNat]?=some p:=⟨_,List.getElem?_eq_getElem (by omega)⟩
  obtain⟨b6,kb,t1,t2,t3,t4,t5,t6,t7,t8,t9⟩:=hO.ag hp
  refine⟨b6,0,t1,hra,by omega,fun k7=> ?_,fun k7=> ?_⟩
  ·refine⟨p.st,t9 0 _ rfl,fun w2=>⟨fun _=>bad (E (by rw[ledKind,if_neg k4,if_neg k5,if_pos k67,if_neg (by omega),if_pos k7,hp];exact if_pos (.inl w2))) (by decide),fun w=>absurd (by decide) w⟩,fun w2=>⟨p.try_,t9 1 _ rfl,fun w3=>⟨fun _=>bad (E (by rw[ledKind,if_neg k4,if_neg k5,if_pos k67,if_neg (by omega),if_pos k7,hp];exact if_pos (.inr w3))) (by decide),fun w=>absurd (by decide) w⟩,fun w3=> ?_⟩⟩
   have hE0:ledErr c l r=0:=E (by rw[ledKind,if_neg k4,if_neg k5,if_pos k67,if_neg (by omega),if_pos k7,hp];exact if_neg (by rintro(x|x);exact w2 x;exact w3 x))
   have hNX:ledNext l r= { l with ags:=l.ags.set r.agent.toNat (got r p) } :=by rw[ledNext,if_neg k4,if_neg k5,if_neg (by omega),if_pos k7,hp]
   refine⟨kb,t4,t5,t2,by omega,fun H4 hu=> ?_⟩
   have hO4:=hO.put (q:=⟨3,p.try_,p.back⟩) hp (f:=0) (by simp) rfl t1 t3 t4 (by omega) hu
   refine⟨fun hgd=> ?_,fun hgd=>⟨fun w=>absurd rfl w,fun _=>good (X:= { l with ags:=l.ags.set r.agent.toNat (got r p) }) hE0 hNX (hO4.at_.as rfl (by simp[got,hgd])) hO4.rels.row.2.1⟩⟩
   refine⟨_,hu.here,t5,t2,by show _<=kb.size;omega,fun H5 hu2=> ?_⟩
   have hp5:(l.ags.set r.agent.toNat ⟨3,p.try_,p.back⟩)[r.agent.toNat]?=some ⟨3,p.try_,p.back⟩:=by rw[List.getElem?_set_self (by omega)]
   have hO5:=hO4.put (q:=⟨2,p.try_,p.back⟩) hp5 (f:=0) (by simp) rfl t1 t3 hu.here (by omega) hu2
   exact⟨fun w=>absurd rfl w,fun _=>good (X:= { l with ags:=l.ags.set r.agent.toNat (got r p) }) hE0 hNX (hO5.at_.as rfl (by simp[got,hgd])) hO5.rels.row.2.1⟩
  ·have k6:r.kind=6:=by omega
   have lateE:(l.goal=0∨r.try_≠l.nx∨turnOf c l r.agent=false)->ledErr c l r=7:=fun w=>E (by rw[ledKind,if_neg k4,if_neg k5,if_pos k67,if_neg (by omega),if_neg k7,if_pos w])
   refine⟨fun w2=>⟨fun _=>bad (lateE (.inl w2)) (by decide),fun w=>absurd (by decide) w⟩,fun w2=>⟨fun w3=>⟨fun _=>bad (lateE (.inr (.inl w3))) (by decide),fun w=>absurd (by decide) w⟩,fun w3=> ?_⟩⟩
   have w3':r.try_=l.nx:=Decidable.not_not.1 w3
   refine(cTurn (hc.ext E3) hO.at_ h6.1 hra (by omega)).bool1 fun H4 e4 _=>⟨fun w4=>⟨fun _=>bad (lateE (.inr (.inr w4))) (by decide),fun w=>absurd (by decide) w⟩,fun w4=> ?_⟩
   refine⟨kb,e4 _ _ t4,t5,t2,by omega,fun H5 hu=> ?_⟩
   rintro _ rfl
   rw[wrap_in (by omega) (by omega)]
   have hO5:=(hO.ext e4).put (q:=⟨1,r.try_,l.back⟩) hp (f:=0) (by simp) rfl t1 t3 (e4 _ _ t4) (by omega) hu
   refine⟨fun w=>absurd rfl w,fun _=>good (X:= { l with ags:=l.ags.set r.agent.toNat ⟨1,r.try_,l.back⟩,nx:=l.nx+1 }) (E (by rw[ledKind,if_neg k4,if_neg k5,if_pos k67,if_neg (by omega),if_neg k7,if_neg (by rintro(x|x|x);exact w2 x;exact w3 x;exact w4 x)])) (by rw[ledNext,if_neg k4,if_neg k5,if_pos k6]) (hO5.at_.as rfl rfl) hO5.rels.row.2.1⟩
 ·refine⟨l.goal=0∨l.back=true,⟨fun w=>⟨rfl,fun _ _ h=>h,.inl w⟩,fun w=>⟨rfl,fun _ _ h=>h,⟨fun x=>x.resolve_left w,.inr⟩⟩⟩,fun w=>⟨fun _=>bad (E (by rw[ledKind,if_neg k4,if_neg k5,if_neg k67,if_pos k8,if_pos w])) (by decide),fun w=>absurd (by decide) w⟩,fun w=> ?_⟩
  rw[q20]
  exact⟨fun w=>absurd rfl w,fun _=>good (X:= { l with back:=true }) (E (by rw[ledKind,if_neg k4,if_neg k5,if_neg k67,if_pos k8,if_neg w])) (by rw[ledNext,if_neg k4,if_neg k5,if_neg (by omega),if_neg (by omega),if_pos k8]) (hO.at_.as rfl rfl) hO.rels.row.2.1⟩
 ·intro b4
  refine⟨fun w=>⟨fun _=>bad (E (by rw[ledKind,if_neg k4,if_neg k5,if_neg k67,if_neg k8,if_pos k9,if_pos (.inl w)])) (by decide),fun w=>absurd (by decide) w⟩,fun w=> ?_⟩
  refine(cOver (hc.ext E3) hO.at_ h6.1).bool1 fun H4 e4 _=>⟨fun w2=>⟨fun _=>bad (E (by rw[ledKind,if_neg k4,if_neg k5,if_neg k67,if_neg k8,if_pos k9,if_pos (.inr w2)])) (by decide),fun w=>absurd (by decide) w⟩,fun w2=> ?_⟩
  have hE0:ledErr c l r=0:=E (by rw[ledKind,if_neg k4,if_neg k5,if_neg k67,if_neg k8,if_pos k9,if_neg (by rintro(x|x);exact w x;exact w2 x)])
  have hNX:ledNext l r= { l with now:=(if l.back=false then l.goal else l.now),goal:=0,back:=false,ags:=l.ags.map fun a=>⟨0,a.try_,false⟩ } :=by rw[ledNext,if_neg k4,if_neg k5,if_neg (by omega),if_neg (by omega),if_neg k8]
  refine⟨fun w3=> ?_,fun w3=> ?_⟩
  all_goals
   refine⟨fun vs Hc=>∃i:Nat,vs=[i64 i]/\i<=kl'/\OwnL base G Hc { l with ags:=(l.ags.take i).map clr++l.ags.drop i } la' ll' lc' ka' kl' kc' rows,upTo kl' 0,⟨0,rfl,by omega,(hO.ext e4).as rfl rfl⟩,fun m H5 hN5 hI=> ?_⟩
   obtain⟨i,hvs,hi,hOi⟩:=hI
   obtain rfl:m=(i:Int):=by simpa using hvs
   refine⟨fun hlt=> ?_,fun hge=> ?_⟩
   ·obtain⟨p,hp⟩:∃p,l.ags[i]?=some p:=⟨_,List.getElem?_eq_getElem (by omega)⟩
    obtain⟨b6,kb,t1,t2,t3,t4,t5,t6,t7,t8,t9⟩:=hOi.ag (clr_get hp)
    refine⟨b6,0,t1,by omega,hlt,p.st,p.try_,p.back,⟨t9 0 _ rfl,t9 1 _ rfl,t9 2 _ rfl,trivial⟩,fun b7=>⟨b6,0,t1,by omega,hlt,kb,t4,t5,t2,by rw[Int.toNat_natCast];omega,fun H6 hu=> ?_⟩⟩
    rw[Int.toNat_natCast] at hu
    rintro _ rfl
    rw[wrap_in (by omega) (by omega)]
    have hO6:=hOi.put (q:=clr p) (clr_get hp) (f:=0) (by simp) rfl t1 t3 t4 (by omega) hu
    exact⟨rfl,⟨i+1,rfl,by omega,hO6.as rfl (clr_at hp)⟩,by simp[upTo];omega⟩
   ·refine⟨fun w=>absurd rfl w,fun _=> ?_⟩
    rw[List.take_of_length_le (by omega),List.drop_eq_nil_of_le (by omega),List.append_nil] at hOi
    first
    |exact good (X:= { l with now:=l.goal,goal:=0,back:=false,ags:=l.ags.map clr }) hE0 (by rw[hNX,if_pos w3];rfl) (hOi.at_.as rfl rfl) hOi.rels.row.2.1
    |exact good (X:= { l with now:=l.now,goal:=0,back:=false,ags:=l.ags.map clr }) hE0 (by rw[hNX,if_neg w3];rfl) (hOi.at_.as rfl rfl) hOi.rels.row.2.1
 ·exact⟨fun _=>bad (E (by rw[ledKind,if_neg k4,if_neg k5,if_neg k67,if_neg k8,if_neg k9])) (by decide),fun w=>absurd (by decide) w⟩
theorem cNextL(hc:CfgAt H c fa fl ra rl wa wl)(h:LdrAt H l la ll ka kl)(hr:Pins H qa ql r.rel.lock):
  Spec Tryz.prog 144 [cfgArg c fa fl fc ra rl rc wa wl wc,ldrArg l la ll lc ka kl kc,recArg r qa ql qc] H fun v H'=>∃la ll lc ka kl kc,v= .tuple #[ldrArg (ledV c l r) la ll lc ka kl kc,i64 (ledErr c l r)]/\LdrAt H' (ledV c l r) la ll ka kl:=
 (cNextL2 hc h hr).mono fun v H' _ ⟨la,ll,lc,ka,kl,kc,h1,h2,_⟩=>⟨la,ll,lc,ka,kl,kc,h1,h2⟩
end
open Go Go.Proofs
abbrev QL(c:Conf)(l:Ldr)(r:Recd)(v:Value)(H':Heap):Prop:=∃la ll lc ka kl kc,v= .tuple #[ldrArg (ledV c l r) la ll lc ka kl kc,i64 (ledErr c l r)]/\LdrAt H' (ledV c l r) la ll ka kl
theorem cBadL{H:Heap}(e:Int):Spec Tryz.prog 154 [.int .i64 e] H fun v H'=>∃la ll lc ka kl kc,v= .tuple #[ldrArg noLdr la ll lc ka kl kc,i64 e]/\LdrAt H' noLdr la ll ka kl:=by
 refine TryzvcJ Tryz.func154 (by kernel_rfl) (by kernel_rfl) _ rfl (fun base K=>vc137 e base H K) fun base hb=> ?_
 intro b
 exact⟨none,0,0,none,0,0,rfl,Sl.nil,Sl.nil⟩
section
variable {H : Heap} {c : Conf} {fa ra wa qa : O} {fl fc rl rc wl wc ql qc : Nat} {l : Ldr} {la ka : O} {ll lc kl kc : Nat} {r : Recd}
theorem badQ{base:Nat}{e:Int}{H':Heap}(he:ledErr c l r=e)(h0:e≠0):Spec Tryz.prog 154 [.int .i64 e] H' fun v H''=>∃(la:O)(ll lc:Nat)(n2 n3:Int)(b:Bool)(ka:O)(kl kc:Nat)(n6 n7:Int),v= .tuple #[.agg #[.slice la ll lc,.int .i64 n2,.int .i64 n3,.bool b,.slice ka kl kc,.int .i64 n6],.int .i64 n7]/\(Vg.Next base H' H''->
  QL c l r (.tuple #[.agg #[.slice la ll lc,.int .i64 n2,.int .i64 n3,.bool b,.slice ka kl kc,.int .i64 n6],.int .i64 n7]) H''):=by
 have:ledV c l r=noLdr:=by rw[ledV,if_neg (by omega)]
 unfold QL
 rw[this,he]
 exact(cBadL e).ldr fun la ll lc ka kl kc H'' _ _ hA=>⟨_,_,_,_,_,_,rfl,hA⟩
theorem goodQ{X:Ldr}{H':Heap}{la ka:O}{ll lc kl kc:Nat}(he:ledErr c l r=0)(hX:ledNext l r=X)(hA:LdrAt H' X la ll ka kl):QL c l r (.tuple #[ldrArg X la ll lc ka kl kc,.int .i64 0]) H':=by
 have:ledV c l r=ledNext l r:=by rw[ledV,if_pos he]
 unfold QL
 rw[this,he,hX];exact⟨_,_,_,_,_,_,rfl,hA⟩
theorem tail87{base:Nat}(hb:∀b k,H b=some k->b<base)(hc:CfgAt H c fa fl ra rl wa wl)(h:LdrAt H l la ll ka kl)(hr:Pins H qa ql r.rel.lock)(q0:ldrErr c l=0)(q20:recErr r=0)
  {Hw:Heap} {xa va:O} {xc vc:Nat} {rows:List (List Value)} (e:Ext H Hw) (hO:OwnL base H Hw l xa (0+ll) xc va (0+kl) vc rows) (b b1 b2 b3:Nat):
  vt87_2 c.first.id c.bud fa ra wa fl fc rl rc wl wc la ka ll lc kl kc l.now l.goal l.nx l.back r.kind r.agent r.try_ r.num r.rel.id r.good qa ql qc base H (fun v _ H'=>QL c l r v H') Hw xa xc va vc/\vt87_1 c.first.id c.bud fa ra wa fl fc rl rc wl wc la ka ll lc kl kc l.now l.goal l.nx l.back r.kind r.agent r.try_ r.num r.rel.id r.good qa ql qc base H (fun v _ H'=>QL c l r v H') Hw xa xc va vc b b1 b2 b3:=by
 have q:¬ldrErr c l≠0:=by omega
 have q2:¬recErr r≠0:=by omega
 obtain⟨g1,g2,g3,g4,g5,g6,g7⟩:=ldrErr_zero.1 q0
 unfold ldrRange at g5
 have h6:=ags_six q0
 have hkl:=h.ags.len
 have hll:=h.rels.len
 have E:∀ {P:Int},ledKind c l r=P->ledErr c l r=P:=fun he=>by rw[ledErr,if_neg q,if_neg q2,he]
 obtain⟨z1,z2,z3,z4⟩:=rec_zero q20
 have hra:0<=r.agent:=by unfold recRange at z3;omega
 have hcw:=hc.ext e
 have t4:¬r.kind=4->¬r.kind=5->(r.kind=6∨r.kind=7)->vt87_4 c.first.id c.bud fa ra wa fl fc rl rc wl wc la ka ll lc kl kc l.now l.goal l.nx l.back r.kind r.agent r.try_ r.num r.rel.id r.good qa ql qc base H (fun v _ H'=>QL c l r v H') va Hw b b1 xa xc vc b2 b3:=fun k4 k5 k67=>by
  intro w
  obtain⟨p,hp⟩:∃p,l.ags[r.agent.toNat]?=some p:=⟨_,List.getElem?_eq_getElem (by omega)⟩
  obtain⟨b6,kb,t1,t2,t3,t4,t5,t6,t7,t8,t9⟩:=hO.ag hp
  refine⟨b6,0,t1,hra,by omega,p.st,p.try_,p.back,⟨t9 0 _ rfl,t9 1 _ rfl,t9 2 _ rfl,trivial⟩,fun b6'=>⟨fun k6=> ?_,fun k6=> ?_⟩⟩
  ·have lateE:(l.goal=0∨r.try_≠l.nx∨turnOf c l r.agent=false)->ledErr c l r=7:=fun w=>E (by rw[ledKind,if_neg k4,if_neg k5,if_pos k67,if_neg (by omega),if_neg (by omega),if_pos w])
   refine⟨l.goal=0∨r.try_≠l.nx∨turnOf c l r.agent=false,⟨fun x=>⟨rfl,fun _ _ h=>h,.inl x⟩,fun x=>⟨fun y=>⟨rfl,fun _ _ h=>h,.inr (.inl y)⟩,fun y=> ?_⟩⟩,fun x=>badQ (lateE x) (by decide),fun x=> ?_⟩
   ·exact(cRefTurn hcw hO.at_ q0 hra (by omega)).bool1 fun H4 e4 _=>⟨rfl,e4,⟨fun z=>(z.resolve_left x).resolve_left y,fun z=> .inr (.inr z)⟩⟩
   ·have w3':r.try_=l.nx:=by
     by_cases w3:r.try_=l.nx
     ·exact w3
     ·exact absurd (.inr (.inl w3)) x
    rintro _ rfl
    rw[wrap_in (by omega) (by omega)]
    refine⟨b6,0,t1,hra,by omega,kb,t4,t5,t2,by omega,fun H5 hu=> ?_⟩
    have hO5:=hO.put (q:=⟨1,l.nx,l.back⟩) hp (f:=0) (by simp) rfl t1 t3 t4 (by omega) hu
    exact goodQ (X:= { l with ags:=l.ags.set r.agent.toNat ⟨1,r.try_,l.back⟩,nx:=l.nx+1 }) (E (by rw[ledKind,if_neg k4,if_neg k5,if_pos k67,if_neg (by omega),if_neg (by omega),if_neg x])) (by rw[ledNext,if_neg k4,if_neg k5,if_pos k6]) (hO5.at_.as rfl (by rw[w3']))
  ·have k7:r.kind=7:=by omega
   have hE:ledErr c l r=if p.st≠1∨r.try_≠p.try_ then 7 else 0:=E (by rw[ledKind,if_neg k4,if_neg k5,if_pos k67,if_neg (by omega),if_pos k7,hp])
   refine⟨p.st≠1∨r.try_≠p.try_,⟨fun x=>⟨rfl,fun _ _ h=>h,.inl x⟩,fun x=>⟨rfl,fun _ _ h=>h,by omega⟩⟩,fun x=>badQ (by rw[hE,if_pos x]) (by decide),fun x=> ?_⟩
   intro b7
   refine⟨_,rfl,_,rfl,(if r.good=true then 2 else 3),true,by cases r.good<;>rfl,b6,0,t1,hra,by omega,kb,t4,t5,t2,by omega,fun H5 hu=> ?_⟩
   have hO5:=hO.put (q:=got r p) hp (f:=0) (by simp) rfl t1 t3 t4 (by omega) hu
   exact goodQ (X:= { l with ags:=l.ags.set r.agent.toNat (got r p) }) (by rw[hE,if_neg x]) (by rw[ledNext,if_neg k4,if_neg k5,if_neg k6,if_pos k7,hp]) hO5.at_
 have t5:¬r.kind=4->¬r.kind=5->¬(r.kind=6∨r.kind=7)->vt87_5 c.first.id c.bud fa ra wa fl fc rl rc wl wc la ka ll lc kl kc l.now l.goal l.nx l.back r.kind r.agent r.try_ r.num r.rel.id r.good qa ql qc base H (fun v _ H'=>QL c l r v H') b b1 xa xc va vc b2 b3 Hw:=fun k4 k5 k67=>by
  intro k8
  refine⟨l.goal=0∨l.back=true,⟨fun w=>⟨rfl,fun _ _ h=>h,.inr w⟩,fun w=>⟨rfl,fun _ _ h=>h,⟨fun x=>x.resolve_right (by rw[w];simp),.inl⟩⟩⟩,fun w=>badQ (E (by rw[ledKind,if_neg k4,if_neg k5,if_neg k67,if_pos k8,if_pos w])) (by decide),fun w=> ?_⟩
  exact goodQ (X:= { l with back:=true }) (E (by rw[ledKind,if_neg k4,if_neg k5,if_neg k67,if_pos k8,if_neg w])) (by rw[ledNext,if_neg k4,if_neg k5,if_neg (by omega),if_neg (by omega),if_pos k8]) (hO.at_.as rfl rfl)
 have t3:¬r.kind=4->¬r.kind=5->¬(r.kind=6∨r.kind=7)->vt87_3 c.first.id c.bud fa ra wa fl fc rl rc wl wc la ka ll lc kl kc l.now l.goal l.nx l.back r.kind r.agent r.try_ r.num r.rel.id r.good qa ql qc base H (fun v _ H'=>QL c l r v H') b b1 xa xc va vc b2 b3 Hw:=fun k4 k5 k67=>by
  intro k8
  refine⟨fun k9=> ?_,fun k9=>badQ (E (by rw[ledKind,if_neg k4,if_neg k5,if_neg k67,if_neg k8,if_neg k9])) (by decide)⟩
  refine⟨l.goal=0∨overOf c l=false,⟨fun w=>⟨rfl,fun _ _ h=>h,.inl w⟩,fun w=>(cRefOver hcw hO.at_ q0).bool1 fun H4 e4 _=>⟨rfl,e4,⟨fun x=>x.resolve_left w,.inr⟩⟩⟩,fun w=>badQ (E (by rw[ledKind,if_neg k4,if_neg k5,if_neg k67,if_neg k8,if_pos k9,if_pos w])) (by decide),fun w=> ?_⟩
  have hE0:ledErr c l r=0:=E (by rw[ledKind,if_neg k4,if_neg k5,if_neg k67,if_neg k8,if_pos k9,if_neg w])
  have hNX:ledNext l r= { l with now:=(if l.back=false then l.goal else l.now),goal:=0,back:=false,ags:=l.ags.map fun a=>⟨0,a.try_,false⟩ } :=by rw[ledNext,if_neg k4,if_neg k5,if_neg (by omega),if_neg (by omega),if_neg k8]
  refine⟨fun w3=> ?_,fun w3=> ?_⟩
  all_goals
   refine⟨fun vs Hc=>∃i:Nat,vs=[i64 i]/\i<=kl/\OwnL base H Hc { l with ags:=(l.ags.take i).map clr++l.ags.drop i } xa (0+ll) xc va (0+kl) vc rows,upTo kl 0,⟨0,rfl,by omega,hO.as rfl rfl⟩,fun m H5 hN5 hI=> ?_⟩
   obtain⟨i,hvs,hi,hOi⟩:=hI
   obtain rfl:m=(i:Int):=by simpa using hvs
   refine⟨fun hlt=> ?_,fun hge=> ?_⟩
   ·obtain⟨p,hp⟩:∃p,l.ags[i]?=some p:=⟨_,List.getElem?_eq_getElem (by omega)⟩
    obtain⟨b6,kb,t1,t2,t3,t4,t5,t6,t7,t8,t9⟩:=hOi.ag (clr_get hp)
    refine⟨b6,0,t1,by omega,hlt,?_,?_⟩
    all_goals
     refine⟨kb,t4,t5,t2,by rw[Int.toNat_natCast];omega,fun H6 hu=>⟨b6,0,t1,by omega,hlt,_,hu.here,t5,t2,by rw[Int.toNat_natCast];show _<=kb.size;omega,fun H7 hu2=> ?_⟩⟩
     rw[Int.toNat_natCast] at hu hu2
     rintro _ rfl
     rw[wrap_in (by omega) (by omega)]
     have hO6:=hOi.put (q:=⟨0,p.try_,p.back⟩) (clr_get hp) (f:=0) (by simp) rfl t1 t3 t4 (by omega) hu
     have hlen:=(List.getElem?_eq_some_iff.1 (clr_get hp)).1
     have hO7:=hO6.put (p:=⟨0,p.try_,p.back⟩) (q:=clr p) (k:=i) (by rw[List.getElem?_set_self hlen]) (f:=2) (by simp) rfl t1 t3 hu.here (by omega) hu2
     exact⟨rfl,⟨i+1,rfl,by omega,hO7.as rfl (by rw[←clr_at hp];simp)⟩,by simp[upTo];omega⟩
   ·rw[List.take_of_length_le (by omega),List.drop_eq_nil_of_le (by omega),List.append_nil] at hOi
    first
    |exact goodQ (X:= { l with now:=l.goal,goal:=0,back:=false,ags:=l.ags.map clr }) hE0 (by rw[hNX,if_pos w3];rfl) (hOi.at_.as rfl rfl)
    |exact goodQ (X:= { l with now:=l.now,goal:=0,back:=false,ags:=l.ags.map clr }) hE0 (by rw[hNX,if_neg w3];rfl) (hOi.at_.as rfl rfl)
 refine⟨?_,?_⟩
 ·intro k4
  have hr0:relErr r.rel=0:=z4 (.inr k4)
  refine(cRefBroken (hr.ext' e) hcw.rules).int2 fun H4 e4 _=>⟨fun w=>badQ (E (by rw[ledKind,if_pos k4,if_pos (by omega)])) (by decide),fun w=> ?_⟩
  rintro _ rfl
  rw[wrap_in (by omega) (by omega)]
  have hbe:brokenErr r.rel.lock c.rules=0:=by
   have h1:=(brokenErr_zero.1 (cfgErr_zero g1).2.2.2.2.1)
   exact brokenErr_zero.2 ⟨(relErr_zero hr0).2,h1.2⟩
  refine⟨fun w2=>badQ (E (by rw[ledKind,if_pos k4,if_neg (by omega),if_pos (by omega)])) (by decide),fun w2=>⟨fun w4=>badQ (E (by rw[ledKind,if_pos k4,if_neg (by omega),if_neg (by omega),if_neg (by omega),if_pos w4])) (by decide),fun w4=>fun b5=> ?_⟩⟩
  have hE0:ledErr c l r=0:=E (by rw[ledKind,if_pos k4,if_neg (by omega),if_neg (by omega),if_neg (by omega),if_neg w4])
  have hO4:=hO.ext e4
  refine⟨rows.flatten,hO4.rels.row,by omega,by omega,fun a7 c7 H7 hG hR7=> ?_⟩
  exact goodQ (X:= { l with rels:=l.rels++[r.rel] }) hE0 (by rw[ledNext,if_pos k4]) (hO4.push hr (rg_id hr0) rfl hG hR7)
 ·intro k4
  refine⟨fun k5=> ?_,fun k5=> ?_⟩
  ·refine⟨fun w=>badQ (E (by rw[ledKind,if_neg k4,if_pos k5,if_pos (by omega)])) (by decide),fun w=>⟨fun w2=>badQ (E (by rw[ledKind,if_neg k4,if_pos k5,if_neg (by omega),if_pos (by omega)])) (by decide),fun w2=>⟨fun w3=>badQ (E (by rw[ledKind,if_neg k4,if_pos k5,if_neg (by omega),if_neg (by omega),if_pos w3])) (by decide),fun w3=> ?_⟩⟩⟩
   exact goodQ (X:= { l with goal:=r.num }) (E (by rw[ledKind,if_neg k4,if_pos k5,if_neg (by omega),if_neg (by omega),if_neg w3])) (by rw[ledNext,if_neg k4,if_pos k5]) (hO.at_.as rfl rfl)
  ·have who:(r.kind=6∨r.kind=7)->((0+kl:Nat):Int)<=r.agent->ledErr c l r=5:=fun k67 w=>E (by rw[ledKind,if_neg k4,if_neg k5,if_pos k67,if_pos (by omega)])
   refine⟨fun k6=>⟨fun _=>⟨fun w=>badQ (who (.inl k6) w) (by decide),t4 k4 k5 (.inl k6)⟩,fun w=>absurd k6 w⟩,fun k6=>⟨fun k7=>⟨fun w=>badQ (who (.inr k7) w) (by decide),t4 k4 k5 (.inr k7)⟩,fun k7=>⟨t5 k4 k5 (by omega),t3 k4 k5 (by omega)⟩⟩⟩
theorem cRefNextL(hc:CfgAt H c fa fl ra rl wa wl)(h:LdrAt H l la ll ka kl)(hr:Pins H qa ql r.rel.lock):
  Spec Tryz.prog 83 [cfgArg c fa fl fc ra rl rc wa wl wc,ldrArg l la ll lc ka kl kc,recArg r qa ql qc] H fun v H'=>QL c l r v H':=by
 refine TryzvcJ Tryz.func83 (by kernel_rfl) (by kernel_rfl) _ rfl (fun base K=>vc87 c.first.id c.bud fa ra wa fl fc rl rc wl wc la ka ll lc kl kc l.now l.goal l.nx l.back r.kind r.agent r.try_ r.num r.rel.id r.good qa ql qc base H K) fun base hb=> ?_
 intro b b1 b2 b3
 refine(cRefLdrCheck hc h).int1 fun H1 e1 _=>⟨fun q=>badQ (by rw[ledErr,if_pos q]) q,fun q=> ?_⟩
 refine(cRefRecCheck (hr.ext' e1)).int1 fun H2 e2 _=>⟨fun q2=>badQ (by rw[ledErr,if_neg q,if_pos q2]) q2,fun q2=> ?_⟩
 have q0:ldrErr c l=0:=Decidable.not_not.1 q
 have q20:recErr r=0:=Decidable.not_not.1 q2
 have hkl:=h.ags.len
 have hll:=h.rels.len
 have h6:=ags_six q0
 have hl6:=(ldrErr_zero.1 q0).2.2.1
 obtain⟨rs,s1,s2,s3,s4⟩:=h.rels.rows RRl.len
 have hbase:∀ {e:TypeId} {sz n c:Nat} {a:O} {xs:List Value} {Hz:Heap},Row base Hz e sz a n c xs->c≠0->∀g,a=some ⟨g,0,none⟩->H g=none:=fun hR hc' g hg=>by
  rcases hR.2.2.2 with⟨_,h0⟩|⟨g',k',u1,u2,_⟩
  ·exact absurd h0 hc'
  ·rw[hg] at u1;simp at u1;subst u1
   cases hH:H g with
   |none=>rfl
   |some k=>have:=hb g k hH;omega
 have app1:∀ {Ha:Heap} {g:Nat} {Z:O->Nat->Heap->Prop},Ext H Ha->(∀a' c' Hb,Ext H Hb->Row base Hb 24 2 a' (0+ll) c' rs.flatten->Z a' c' Hb)->∃(xs cells:List Value),Row base Ha 24 2 (some ⟨g,0,none⟩) 0 0 xs/\cells.length=ll*2/\allOne cells=true/\(ll=0∨ ∃(b o:Nat),la=some ⟨b,o,none⟩/\cellsAt Ha b o 0 cells)/\(0+ll)*32<=140737488355328/\0+ll<=9223372036854775807/\
   ∀(a':O)(c':Nat)(Hb:Heap),Grew base Ha Hb (some ⟨g,0,none⟩) 0 a' c' (0+ll)->Row base Hb 24 2 a' (0+ll) c' (xs++cells)->Z a' c' Hb:=fun e hZ=>
  ⟨[],rs.flatten,Row.zero,s3,allOne_rows RRl.one s2,s4.imp id (fun⟨b,o,hb,hc⟩=>⟨b,o,hb,cellsAt_ext e hc⟩),by omega,by omega,fun a' c' Hb hG hR=>hZ a' c' Hb (fun x k hx=>hG.keep x k (e x k hx) (.inl rfl)) hR⟩
 have app2:∀ {Hc:Heap} {g xc:Nat} {xa:O} {Z:O->Nat->Heap->Prop},Ext H Hc->Row base Hc 24 2 xa (0+ll) xc rs.flatten->(∀a' c' Hd,Ext H Hd->OwnL base H Hd l xa (0+ll) xc a' (0+kl) c' rs->Z a' c' Hd)->∃(xs cells:List Value),Row base Hc 95 3 (some ⟨g,0,none⟩) 0 0 xs/\cells.length=kl*3/\allOne cells=true/\(kl=0∨ ∃(b o:Nat),ka=some ⟨b,o,none⟩/\cellsAt Hc b o 0 cells)/\(0+kl)*24<=140737488355328/\0+kl<=9223372036854775807/\
   ∀(a':O)(c':Nat)(Hd:Heap),Grew base Hc Hd (some ⟨g,0,none⟩) 0 a' c' (0+kl)->Row base Hd 95 3 a' (0+kl) c' (xs++cells)->Z a' c' Hd:=fun e hX hZ=>by
  obtain⟨hc1,hc2⟩:=h.ags.cells knCells_len e
  refine⟨[],l.ags.flatMap knCells,Row.zero,hc1,allOne_flat knCells_one _,hc2,by omega,by omega,fun a' c' Hd hG hR=> ?_⟩
  have eD:Ext H Hd:=fun x k hx=>hG.keep x k (e x k hx) (.inl rfl)
  have hXd:=(hX.stay hG (fun w=>absurd rfl w))
  exact hZ a' c' Hd eD ⟨⟨hXd.1,s1,s2,eD,hbase hXd.1⟩,hR,fun w1 w2 e=>hXd.2 w2 w1 e.symm,hbase hR⟩
 have eX:=e1.trans e2
 repeat' (first
  |(refine app1 eX fun xa xc Hb eb hR0=> ?_;have eX:=eb;have hR:=hR0)
  |exact app2 eX hR fun va vc Hd ed hO=>tail87 hb hc h hr q0 q20 ed hO b b1 b2 b3
  |(intro g Hx hN _ _;have eX:=Ext.trans eX hN.ext;try have hR:=Row.ext hR hN.ext)
  |refine⟨?_,?_⟩)
end
open Go Go.Proofs
section
variable {H : Heap} {c : Conf} {fa ra wa : O} {fl fc rl rc wl wc : Nat}
theorem cReplayL{a:O}{n k:Nat}{rs:List Recd}(hc:CfgAt H c fa fl ra rl wa wl)(hr:Recs H a n rs):
  Spec Tryz.prog 66 [cfgArg c fa fl fc ra rl rc wa wl wc,.slice a n k] H fun v H'=>∃la ll lc ka kl kc,v= .tuple #[ldrArg (okLd (ledReplay c rs)) la ll lc ka kl kc,i64 (errOf (ledReplay c rs))]/\LdrAt H' (okLd (ledReplay c rs)) la ll ka kl:=by
 refine TryzvcJ Tryz.func66 (by kernel_rfl) (by kernel_rfl) _ rfl (fun base K=>vc89 c.first.id c.bud fa ra wa fl fc rl rc wl wc a n k base H K) fun base hb=> ?_
 have hrl:=hr.len
 have bad:∀ {e:Int} {H':Heap},ledReplay c rs= .error e->∃la ll lc ka kl kc,Value.tuple #[.agg #[.slice none 0 0,.int .i64 0,.int .i64 0,.bool false,.slice none 0 0,.int .i64 0],.int .i64 e]= .tuple #[ldrArg (okLd (ledReplay c rs)) la ll lc ka kl kc,i64 (errOf (ledReplay c rs))]/\LdrAt H' (okLd (ledReplay c rs)) la ll ka kl:=fun he=>by
  rw[he];exact⟨none,0,0,none,0,0,rfl,Sl.nil,Sl.nil⟩
 intro b b'
 refine(cNewL hc).ldr fun la1 ll1 lc1 ka1 kl1 kc1 H1 e1 _ hA1=>fun b2=>⟨fun h=>bad (by rw[ledReplay,if_pos h]),fun h=>⟨fun h200=>bad (by rw[ledReplay,if_neg h,if_pos (by omega)]),fun h200=> ?_⟩⟩
 rw[if_pos (Decidable.not_not.1 h)] at hA1⊢
 have hW:ledReplay c rs=ledFrom c (newLdr c) rs:=by rw[ledReplay,if_neg h,if_neg (by omega)]
 rw[hW] at bad⊢
 refine⟨fun vs Hc=>∃(y:Ldr)(la:O)(ll lc:Nat)(ka:O)(kl kc:Nat)(d e:Int)(w:Value)(i:Nat),vs=[i64 d,i64 e,i64 i,w,ldrArg y la ll lc ka kl kc]/\LdrAt Hc y la ll ka kl/\i<=n/\ledFrom c y (rs.drop i)=ledFrom c (newLdr c) rs,upTo n 2,
  ⟨newLdr c,la1,ll1,lc1,ka1,kl1,kc1,0,_,_,0,rfl,hA1,by omega,rfl⟩,fun d e m a6 n8 c3 n9 n10 b0 a7 n11 c4 n12 a8 n13 c5 n14 n15 b4 a9 n16 c6 n17 H' hN hI=> ?_⟩
 obtain⟨y,ya,yn,yc,yka,ykn,ykc,d',e',w,i,hvs,hA,hi,hI⟩:=hI
 obtain⟨rfl,rfl,rfl,rfl,⟨rfl,rfl,rfl⟩,rfl,rfl,rfl,⟨rfl,rfl,rfl⟩,rfl⟩:d=d'/\e=e'/\m=(i:Int)/\Value.agg #[.slice a6 n8 c3,.int .i64 n9,.int .i64 n10,.bool b0,.slice a7 n11 c4,.int .i64 n12]=w/\(a8=ya/\n13=yn/\c5=yc)/\n14=y.now/\n15=y.goal/\b4=y.back/\(a9=yka/\n16=ykn/\c6=ykc)/\n17=y.nx:=by simpa using hvs
 refine⟨fun hlt=>hr.recd hN.ext (by omega) hlt fun r ra rn rc hm hq=>fun b8=> ?_,fun hge=> ?_⟩
 ·rw[Int.toNat_natCast] at hm
  rw[drop_at hm,ledFrom] at hI
  refine(cNextL (hc.ext hN.ext) hA (hq.ext' hN.ext)).ldr fun la2 ll2 lc2 ka2 kl2 kc2 H2 e2 _ hA2=>⟨fun h=> ?_,fun h=> ?_⟩
  ·rw[if_neg h] at hI
   exact bad hI.symm
  ·have h0:ledErr c y r=0:=Decidable.not_not.1 h
   rw[if_pos h0] at hI
   have hV:ledV c y r=ledNext y r:=by rw[ledV,if_pos h0]
   rw[hV] at hA2⊢
   rintro q rfl
   rw[wrap_in (by omega) (by omega)]
   exact⟨rfl,⟨ledNext y r,la2,ll2,lc2,ka2,kl2,kc2,_,_,_,i+1,rfl,hA2,by omega,hI⟩,by simp[upTo];omega⟩
 ·rw[drop_all hrl (by omega),ledFrom] at hI
  rw[←hI]
  exact⟨_,_,_,_,_,_,rfl,hA⟩
theorem cRefReplayL{a:O}{n k:Nat}{rs:List Recd}(hc:CfgAt H c fa fl ra rl wa wl)(hr:Recs H a n rs):
  Spec Tryz.prog 24 [cfgArg c fa fl fc ra rl rc wa wl wc,.slice a n k] H fun v H'=>∃la ll lc ka kl kc,v= .tuple #[ldrArg (okLd (ledReplay c rs)) la ll lc ka kl kc,i64 (errOf (ledReplay c rs))]/\LdrAt H' (okLd (ledReplay c rs)) la ll ka kl:=by
 refine TryzvcJ Tryz.func24 (by kernel_rfl) (by kernel_rfl) _ rfl (fun base K=>vc90 c.first.id c.bud fa ra wa fl fc rl rc wl wc a n k base H K) fun base hb=> ?_
 have hrl:=hr.len
 have bad:∀ {e:Int} {H':Heap},ledReplay c rs= .error e->∃la ll lc ka kl kc,Value.tuple #[.agg #[.slice none 0 0,.int .i64 0,.int .i64 0,.bool false,.slice none 0 0,.int .i64 0],.int .i64 e]= .tuple #[ldrArg (okLd (ledReplay c rs)) la ll lc ka kl kc,i64 (errOf (ledReplay c rs))]/\LdrAt H' (okLd (ledReplay c rs)) la ll ka kl:=fun he=>by
  rw[he];exact⟨none,0,0,none,0,0,rfl,Sl.nil,Sl.nil⟩
 intro b b'
 refine(cRefConfig hc).int1 fun H0 e0 _=>⟨fun h=>bad (by rw[ledReplay,if_pos h]),fun h=>⟨fun h200=>bad (by rw[ledReplay,if_neg h,if_pos (by omega)]),fun h200=> ?_⟩⟩
 refine(cFreshL (hc.ext e0) (Decidable.not_not.1 h)).ldr1 fun la1 ll1 lc1 ka1 kl1 kc1 H1 e1 _ hA1=>fun b2=> ?_
 have hW:ledReplay c rs=ledFrom c (newLdr c) rs:=by rw[ledReplay,if_neg h,if_neg (by omega)]
 rw[hW] at bad⊢
 refine⟨fun vs Hc=>∃(y:Ldr)(la:O)(ll lc:Nat)(ka:O)(kl kc:Nat)(d:Int)(w:Value)(i:Nat),vs=[i64 d,i64 i,w,ldrArg y la ll lc ka kl kc]/\LdrAt Hc y la ll ka kl/\i<=n/\ledFrom c y (rs.drop i)=ledFrom c (newLdr c) rs,upTo n 1,
  ⟨newLdr c,la1,ll1,lc1,ka1,kl1,kc1,0,_,0,rfl,hA1,by omega,rfl⟩,fun d m a6 n8 c3 n9 n10 b0 a7 n11 c4 n12 a8 n13 c5 n14 n15 b4 a9 n16 c6 n17 H' hN hI=> ?_⟩
 obtain⟨y,ya,yn,yc,yka,ykn,ykc,d',w,i,hvs,hA,hi,hI⟩:=hI
 obtain⟨rfl,rfl,rfl,⟨rfl,rfl,rfl⟩,rfl,rfl,rfl,⟨rfl,rfl,rfl⟩,rfl⟩:d=d'/\m=(i:Int)/\Value.agg #[.slice a6 n8 c3,.int .i64 n9,.int .i64 n10,.bool b0,.slice a7 n11 c4,.int .i64 n12]=w/\(a8=ya/\n13=yn/\c5=yc)/\n14=y.now/\n15=y.goal/\b4=y.back/\(a9=yka/\n16=ykn/\c6=ykc)/\n17=y.nx:=by simpa using hvs
 refine⟨fun hlt=>hr.recd hN.ext (by omega) hlt fun r ra rn rc hm hq=>fun b8=> ?_,fun hge=> ?_⟩
 ·rw[Int.toNat_natCast] at hm
  rw[drop_at hm,ledFrom] at hI
  refine(cRefNextL (hc.ext hN.ext) hA (hq.ext' hN.ext)).ldr fun la2 ll2 lc2 ka2 kl2 kc2 H2 e2 _ hA2=>fun b9=>⟨fun h=> ?_,fun h=> ?_⟩
  ·rw[if_neg h] at hI
   exact bad hI.symm
  ·have h0:ledErr c y r=0:=Decidable.not_not.1 h
   rw[if_pos h0] at hI
   have hV:ledV c y r=ledNext y r:=by rw[ledV,if_pos h0]
   rw[hV] at hA2⊢
   rintro q rfl
   rw[wrap_in (by omega) (by omega)]
   exact⟨rfl,⟨ledNext y r,la2,ll2,lc2,ka2,kl2,kc2,_,_,i+1,rfl,hA2,by omega,hI⟩,by simp[upTo];omega⟩
 ·rw[drop_all hrl (by omega),ledFrom] at hI
  rw[←hI]
  exact⟨_,_,_,_,_,_,rfl,hA⟩
end
theorem sl_of_rows{α:Type}{R:Rep α}{sz:Nat}{H:Heap}{g:Nat}{ty:TypeId}{rs:List (List Value)}{xs:List α}{n:Nat}(h:H g=some (boxKB ty rs.flatten))(hw:∀r∈rs,r.length=sz)(ha:AllR R H rs xs)(hn:rs.length=n)(hle:(n:Int)<=9223372036854775807):Sl R sz H (some ⟨g,0,none⟩) n xs:=
 Sl.of_has (rows:=rs) (Has.of_box h rfl hw hn hle) ha.len fun i r x hr hx=>ha.get hr hx
def cS:Conf:=⟨⟨1,[⟨1,1⟩]⟩,[⟨1,2,2,1⟩],[[1],[0,2]],0⟩
def s2:Rls:=⟨2,[⟨1,2⟩,⟨2,1⟩]⟩
def s3:Rls:=⟨3,[⟨1,2⟩]⟩
def q1:Recd:=⟨4,0,0,0,false,s2⟩
def q2:Recd:=⟨5,0,0,2,false,⟨0,[]⟩⟩
def q3:Recd:=⟨6,1,1,0,false,⟨0,[]⟩⟩
def q4:Recd:=⟨7,1,1,0,false,⟨0,[]⟩⟩
def u1:Recd:=⟨6,0,2,0,false,⟨0,[]⟩⟩
def u2:Recd:=⟨8,0,0,0,false,⟨0,[]⟩⟩
def u3:Recd:=⟨4,0,0,0,false,s3⟩
theorem cSmall{H:Heap} :Spec Tryz.prog 71 [] H fun v H'=>∃a n c a1 n1 c1 a2 n2 c2,v=cfgArg cS a n c a1 n1 c1 a2 n2 c2/\CfgAt H' cS a n a1 n1 a2 n2:=by
 refine TryzvcJ Tryz.func71 (by kernel_rfl) (by kernel_rfl) _ rfl (fun base K=>vc128 base H K) fun base hb=> ?_
 intro b g H1 hN1 _ hg g1 H2 hN2 _ hg1 g2 H3 hN3 _ hg2 g3 H4 hN4 _ hg3 g4 H5 hN5 _ hg4
 have e5:=hN5.ext
 have e45:=Ext.trans hN4.ext hN5.ext
 have e35:=Ext.trans hN3.ext e45
 have e25:=Ext.trans hN2.ext e35
 refine⟨_,_,_,_,_,_,_,_,_,rfl,?_,?_,?_⟩
 ·exact sl_of_boxE pinCells_len (xs:=[⟨1,1⟩]) (e25 _ _ hg) rfl (by decide)
 ·exact sl_of_boxE ruleCells_len (xs:=[⟨1,2,2,1⟩]) (e35 _ _ hg1) rfl (by decide)
 ·refine sl_of_rows (rs:=[[.slice (some ⟨g2,0,none⟩) 1 1],[.slice (some ⟨g3,0,none⟩) 2 2]]) hg4 (by simp) ⟨⟨_,_,_,rfl,?_⟩,⟨_,_,_,rfl,?_⟩,trivial⟩ rfl (by decide)
  ·exact ints_of_box (xs:=[1]) (e45 _ _ hg2) rfl (by decide)
  ·exact ints_of_box (xs:=[0,2]) (e5 _ _ hg3) rfl (by decide)
theorem Spec.turn{P:Program}{f:FuncId}{args:List Value}{H:Heap}{t:Bool}{x:Rls}{e:Int}(h:Spec P f args H fun v H'=>∃a n c',v= .tuple #[.bool t,.agg #[.int .i64 x.id,.slice a n c'],i64 e]/\Pins H' a n x.lock){base:Nat}
  {G:Bool->Int->O->Nat->Nat->Int->Heap->Prop} (hG:∀a n c H',Ext H H'->Next base H H'->Pins H' a n x.lock->G t x.id a n c e H'):
  Spec P f args H fun v H'=>∃(t:Bool)(id:Int)(a:O)(n c:Nat)(e:Int),v= .tuple #[.bool t,.agg #[.int .i64 id,.slice a n c],.int .i64 e]/\(Next base H H'->G t id a n c e H'):=
 h.mono fun v H' ex hv=>by
  obtain⟨a,n,c,h1,h2⟩:=hv
  exact⟨_,_,a,n,c,_,h1,fun hN=>hG a n c H' ex hN h2⟩
open Go Go.Proofs
theorem form_parts{c:Conf}{l:Ldr}(h:¬ldrForm c l):l.goal≠l.now/\¬(l.goal=0/\l.back=true)/\(l.ags.length:Int)=agentsOf c.waves/\l.rels[0]?=some c.first:=by
 refine⟨fun q=>h (.inl q),fun q=>h (.inr (.inl q)),?_,?_⟩
 ·by_cases q:(l.ags.length:Int)=agentsOf c.waves
  ·exact q
  ·exact absurd (.inr (.inr (.inl q))) h
 ·by_cases q:l.rels[0]?=some c.first
  ·exact q
  ·exact absurd (.inr (.inr (.inr q))) h
theorem form_of{c:Conf}{l:Ldr}(h1:l.goal≠l.now)(h2:¬(l.goal=0/\l.back=true))(h3:(l.ags.length:Int)=agentsOf c.waves)(h4:l.rels[0]?=some c.first):¬ldrForm c l:=by
 rintro(q|q|q|q)
 ·exact h1 q
 ·exact h2 q
 ·exact q h3
 ·exact q h4
theorem new_ok{c:Conf}(h:cfgErr c=0):ldrErr c (newLdr c)=0:=by
 obtain⟨z1,z2,z3,z4,z5,z6,z7⟩:=cfgErr_zero h
 have hag:=(agents_same z7).2
 refine ldrErr_zero.2 ⟨h,by simp[newLdr],by simp[newLdr],?_,?_,?_,?_⟩
 ·refine relsErr_zero.2 fun j r hj=> ?_
  cases j with
  |zero=>simp[newLdr] at hj;subst hj;exact⟨z5,z6,by rw[z2];rfl⟩
  |succ j=>simp[newLdr] at hj
 ·unfold ldrRange newLdr;simp
 ·refine form_of (by simp[newLdr]) (by simp[newLdr]) ?_ rfl
  simp[newLdr];omega
 ·refine knErr_zero.2 fun a ha=> ?_
  simp[newLdr] at ha
  obtain⟨_,rfl⟩:=ha
  exact⟨by unfold badKn newLdr;simp,by unfold oddKn newLdr;simp⟩
theorem led_zero{c:Conf}{l:Ldr}{r:Recd}(h:ledErr c l r=0):ldrErr c l=0/\recErr r=0/\ledKind c l r=0:=by
 unfold ledErr at h
 split at h
 ·omega
 ·split at h
  ·omega
  ·exact⟨by omega,by omega,h⟩
theorem led_cases{c:Conf}{l:Ldr}{r:Recd}(h:ledKind c l r=0):(r.kind=4/\l.rels.length≠6/\r.rel.id=l.rels.length+1/\brokenErr r.rel.lock c.rules=0/\broken r.rel.lock c.rules<0)∨
  (r.kind=5/\l.goal=0/\r.num<=l.rels.length/\r.num≠l.now)∨(r.kind=6/\r.agent<l.ags.length/\l.goal≠0/\r.try_=l.nx/\turnOf c l r.agent=true)∨
  (r.kind=7/\r.agent<l.ags.length/\∃a,l.ags[r.agent.toNat]?=some a/\a.st=1/\r.try_=a.try_)∨(r.kind=8/\l.goal≠0/\l.back=false)∨(r.kind=9/\l.goal≠0/\overOf c l=true):=by
 unfold ledKind at h
 by_cases k4:r.kind=4
 ·rw[if_pos k4] at h
  split at h
  ·omega
  ·split at h
   ·omega
   ·split at h
    ·omega
    ·split at h
     ·omega
     ·exact .inl ⟨k4,by assumption,by omega,by omega,by omega⟩
 ·rw[if_neg k4] at h
  by_cases k5:r.kind=5
  ·rw[if_pos k5] at h
   split at h
   ·omega
   ·split at h
    ·omega
    ·split at h
     ·omega
     ·exact .inr (.inl ⟨k5,by omega,by omega,by assumption⟩)
  ·rw[if_neg k5] at h
   by_cases k67:r.kind=6∨r.kind=7
   ·rw[if_pos k67] at h
    split at h
    ·omega
    ·by_cases k7:r.kind=7
     ·rw[if_pos k7] at h
      cases ha:l.ags[r.agent.toNat]? with
      |none=>rw[ha] at h;simp at h
      |some a=>
       rw[ha] at h
       simp only at h
       split at h
       ·omega
       ·exact .inr (.inr (.inr (.inl ⟨k7,by omega,a,rfl,by omega,by omega⟩)))
     ·rw[if_neg k7] at h
      split at h
      ·omega
      ·rename_i w
       refine .inr (.inr (.inl ⟨by omega,by omega,fun q=>w (.inl q),?_,?_⟩))
       ·by_cases q:r.try_=l.nx
        ·exact q
        ·exact absurd (.inr (.inl q)) w
       ·cases q:turnOf c l r.agent with
        |true=>rfl
        |false=>exact absurd (.inr (.inr q)) w
   ·rw[if_neg k67] at h
    by_cases k8:r.kind=8
    ·rw[if_pos k8] at h
     split at h
     ·omega
     ·rename_i w
      refine .inr (.inr (.inr (.inr (.inl ⟨k8,fun q=>w (.inl q),?_⟩))))
      cases q:l.back with
      |false=>rfl
      |true=>exact absurd (.inr q) w
    ·rw[if_neg k8] at h
     by_cases k9:r.kind=9
     ·rw[if_pos k9] at h
      split at h
      ·omega
      ·rename_i w
       refine .inr (.inr (.inr (.inr (.inr ⟨k9,fun q=>w (.inl q),?_⟩))))
       cases q:overOf c l with
       |true=>rfl
       |false=>exact absurd (.inr q) w
     ·rw[if_neg k9] at h;omega
theorem kn_mem_set{xs:List Kn}{k:Nat}{x a:Kn}(h:a∈xs.set k x):a=x∨a∈xs:=by
 rcases List.mem_or_eq_of_mem_set h with h|h
 ·exact .inr h
 ·exact .inl h
theorem led_ok{c:Conf}{l:Ldr}{r:Recd}(h:ledErr c l r=0):ldrErr c (ledNext l r)=0:=by
 obtain⟨h1,h2,h3⟩:=led_zero h
 obtain⟨g1,g2,g3,g4,g5,g6,g7⟩:=ldrErr_zero.1 h1
 obtain⟨z1,z2,z3,z4⟩:=rec_zero h2
 obtain⟨f1,f2,f3,f4⟩:=form_parts g6
 have hkn:=knErr_zero.1 g7
 have g5':=g5
 unfold ldrRange at g5'
 unfold recRange at z3
 rcases led_cases h3 with⟨k,w1,w2,w3,w4⟩|⟨k,w1,w2,w3⟩|⟨k,w1,w2,w3,w4⟩|⟨k,w1,a,w2,w3,w4⟩|⟨k,w1,w2⟩|⟨k,w1,w2⟩
 ·have e:ledNext l r= { l with rels:=l.rels++[r.rel] } :=by rw[ledNext,if_pos k]
  rw[e]
  refine ldrErr_zero.2 ⟨g1,by simp,by simp;omega,relsErr_zero.2 fun j x hj=> ?_,by unfold ldrRange;simp;omega,form_of f1 f2 f3 ?_,g7⟩
  ·rcases Nat.lt_or_ge j l.rels.length with hl|hl
   ·rw[List.getElem?_append_left hl] at hj
    exact relsErr_zero.1 g4 j x hj
   ·rw[List.getElem?_append_right hl] at hj
    cases hjl:j-l.rels.length with
    |zero=>rw[hjl] at hj;simp at hj;subst hj;exact⟨w3,w4,by rw[w2];omega⟩
    |succ m=>rw[hjl] at hj;simp at hj
  ·simp only;rw[List.getElem?_append_left (by omega)];exact f4
 ·have e:ledNext l r= { l with goal:=r.num } :=by rw[ledNext,if_neg (by omega),if_pos k]
  rw[e]
  refine ldrErr_zero.2 ⟨g1,g2,g3,g4,by unfold ldrRange;simp only;omega,form_of w3 (fun q=>by simp only at q;omega) f3 f4,knErr_zero.2 fun a ha=> ?_⟩
  obtain⟨x1,x2⟩:=hkn a ha
  refine⟨x1,?_⟩
  unfold oddKn at x2⊢
  simp only
  rintro(⟨y1,_⟩|y)
  ·exact x2 (.inl ⟨y1,.inl w1⟩)
  ·exact x2 (.inr y)
 ·have e:ledNext l r= { l with ags:=l.ags.set r.agent.toNat ⟨1,r.try_,l.back⟩,nx:=l.nx+1 } :=by rw[ledNext,if_neg (by omega),if_neg (by omega),if_pos k]
  rw[e]
  refine ldrErr_zero.2 ⟨g1,g2,g3,g4,by unfold ldrRange;simp only;omega,form_of f1 f2 (by simpa using f3) f4,knErr_zero.2 fun a ha=> ?_⟩
  rcases kn_mem_set ha with rfl|ha
  ·refine⟨by unfold badKn;simp only;omega,?_⟩
   unfold oddKn
   simp only
   rintro(⟨_,y|y⟩|⟨y1,y|y⟩)
   ·exact w2 y
   ·omega
   ·rw[y] at y1;cases y1
   ·omega
  ·obtain⟨x1,x2⟩:=hkn a ha
   exact⟨by unfold badKn at x1⊢;simp only;omega,x2⟩
 ·have e:ledNext l r= { l with ags:=l.ags.set r.agent.toNat (got r a) } :=by rw[ledNext,if_neg (by omega),if_neg (by omega),if_neg (by omega),if_pos k,w2]
  rw[e]
  refine ldrErr_zero.2 ⟨g1,g2,g3,g4,g5,form_of f1 f2 (by simpa using f3) f4,knErr_zero.2 fun b hb=> ?_⟩
  rcases kn_mem_set hb with rfl|hb
  ·obtain⟨x1,x2⟩:=hkn a (List.mem_of_getElem? w2)
   have hst:(got r a).st=2∨(got r a).st=3:=by unfold got;by_cases hg:r.good=true<;>simp[hg]
   have ht:(got r a).try_=a.try_:=rfl
   have hbk:(got r a).back=a.back:=rfl
   refine⟨by unfold badKn at x1⊢;rw[ht];simp only;omega,?_⟩
   unfold oddKn at x2⊢
   rw[ht,hbk]
   simp only
   rintro(⟨_,y⟩|⟨y1,y|y⟩)
   ·exact x2 (.inl ⟨by omega,y⟩)
   ·exact x2 (.inr ⟨y1,.inl y⟩)
   ·omega
  ·exact hkn b hb
 ·have e:ledNext l r= { l with back:=true } :=by rw[ledNext,if_neg (by omega),if_neg (by omega),if_neg (by omega),if_neg (by omega),if_pos k]
  rw[e]
  refine ldrErr_zero.2 ⟨g1,g2,g3,g4,g5,form_of f1 (fun q=>w1 q.1) f3 f4,knErr_zero.2 fun a ha=> ?_⟩
  obtain⟨x1,x2⟩:=hkn a ha
  refine⟨x1,?_⟩
  unfold oddKn at x2⊢
  simp only
  rintro(y|⟨y1,_⟩)
  ·exact x2 (.inl y)
  ·exact x2 (.inr ⟨y1,.inl w2⟩)
 ·have e:ledNext l r= { l with now:=(if l.back=false then l.goal else l.now),goal:=0,back:=false,ags:=l.ags.map fun a=>⟨0,a.try_,false⟩ } :=by rw[ledNext,if_neg (by omega),if_neg (by omega),if_neg (by omega),if_neg (by omega),if_neg (by omega)]
  rw[e]
  have hn:1<=(if l.back=false then l.goal else l.now)/\(if l.back=false then l.goal else l.now)<=l.rels.length:=by split<;>omega
  refine ldrErr_zero.2 ⟨g1,g2,g3,g4,by unfold ldrRange;simp only;omega,form_of (by simp only;omega) (by simp) (by simpa using f3) f4,knErr_zero.2 fun b hb=> ?_⟩
  obtain⟨a,ha,rfl⟩:=List.mem_map.1 hb
  obtain⟨x1,x2⟩:=hkn a ha
  exact⟨by unfold badKn at x1⊢;simp only;omega,by unfold oddKn;simp⟩
open Go
structure Nod where
 a:Agt
 d:Dsk
 up:Bool
 deriving DecidableEq
structure Hed where
 l:Ldr
 d:Dsk
 up:Bool
 deriving DecidableEq
structure Wld where
 c:Conf
 h:Hed
 n:List Nod
 m:List Mail
structure Hap where
 kind:Int
 agent:Int
 num:Int
 good:Bool
 lock:List Pin
def logOf(d:Dsk)(up:Bool):Except Int (List Recd):=
 if dskErr d≠0 then .error (dskErr d) else if up=true/\d.wait≠[] then .error 4 else .ok (if up=true then dskRecs d else [])
def hedErr(c:Conf)(h:Hed):Int:=
 match logOf h.d h.up with
 | .error e=>e
 | .ok l=>match ledReplay c l with
  | .error e=>e
  | .ok x=>if x=h.l then 0 else 4
def nodErr(f:Rls)(n:Nod):Int:=
 match logOf n.d n.up with
 | .error e=>e
 | .ok l=>match agtReplay f l with
  | .error e=>e
  | .ok x=>if x=n.a then 0 else 4
def nodsErr(f:Rls):List Nod->Int
 | []=>0
 |n::q=>if nodErr f n≠0 then nodErr f n else nodsErr f q
def farMail(k:Int)(l:List Mail):Bool:=l.any fun m=>decide (k<=m.agent)
def wldErr(w:Wld):Int:=
 if cfgErr w.c≠0 then cfgErr w.c else
 if(w.n.length:Int)≠agentsOf w.c.waves then 4 else
 if mailsCheck w.m≠0 then mailsCheck w.m else
 if farMail w.n.length w.m=true then 5 else
 if hedErr w.c w.h≠0 then hedErr w.c w.h else nodsErr w.c.first w.n
def dskSafe(d:Dsk)(r:Recd):Except Int Dsk:=
 match dskPut d r with
 | .error e=> .error e
 | .ok x=>dskSync x
def wLead(w:Wld)(r:Recd):Except Int Wld:=
 if ledErr w.c w.h.l r≠0 then .error (ledErr w.c w.h.l r) else
 match dskSafe w.h.d r with
 | .error e=> .error e
 | .ok d=> .ok { w with h:=⟨ledNext w.h.l r,d,w.h.up⟩ }
def nDoes(n:Nod)(r:Recd):Except Int Nod:=
 if nextErr n.a r≠0 then .error (nextErr n.a r) else
 match dskSafe n.d r with
 | .error e=> .error e
 | .ok d=> .ok ⟨agtNext n.a r,d,n.up⟩
def wDoes(w:Wld)(k:Nat)(r:Recd):Except Int Wld:=
 match w.n[k]? with
 |none=> .error 5
 |some n=>match nDoes n r with
  | .error e=> .error e
  | .ok n'=> .ok { w with n:=w.n.set k n' }
def wPost(w:Wld)(m:Mail):Wld:=if sendErr w.m m=0 then{ w with m:=sent w.m m } else w
def repMail(k:Nat)(a:Agt):Mail:=⟨k,a.try_,true,a.good,⟨0,[]⟩⟩
def wReport(w:Wld)(k:Nat):Wld:=
 match w.n[k]? with
 |none=>w
 |some n=>wPost w (repMail k n.a)
def wTell(w:Wld)(x:Hap):Except Int Wld:=
 if turnErr w.c w.h.l x.agent≠0 then .error (turnErr w.c w.h.l x.agent) else
 if x.kind=4 then
  (match w.h.l.ags[x.agent.toNat]? with
   |none=> .error 5
   |some a=>if a.st≠1∨a.back≠w.h.l.back then .error 7 else .ok (wPost w ⟨x.agent,a.try_,false,false,turnRel w.c w.h.l x.agent⟩))
 else match wLead w ⟨6,x.agent,w.h.l.nx,0,false,⟨0,[]⟩⟩ with
  | .error e=> .error e
  | .ok y=> .ok (wPost y ⟨x.agent,w.h.l.nx,false,false,turnRel w.c w.h.l x.agent⟩)
def wStep(w:Wld)(x:Hap)(n:Nod):Except Int Wld:=
 if n.a.going=false then .error 7 else
 if agtErr n.a≠0 then .error (agtErr n.a) else
 if agtLeft n.a≠[] then wDoes w x.agent.toNat ⟨2,0,n.a.try_,0,false,⟨0,[]⟩⟩ else
 match wDoes w x.agent.toNat ⟨3,0,n.a.try_,0,x.good,⟨0,[]⟩⟩ with
 | .error e=> .error e
 | .ok y=> .ok (wReport y x.agent.toNat)
def orSame(w:Wld):Except Int Wld->Wld
 | .ok y=>y
 | .error _=>w
def wHear(w:Wld)(x:Hap):Except Int Wld:=
 if takeErr w.m x.num≠0 then .error (takeErr w.m x.num) else
 match w.n[(took w.m x.num).agent.toNat]? with
 |none=> .error 5
 |some n=>
  if((took w.m x.num).rep=true/\w.h.up=false)∨((took w.m x.num).rep=false/\n.up=false) then .error 7 else
  let w1:Wld:= { w with m:=left w.m x.num (decide (x.kind=10)) }
  if(took w.m x.num).rep=true then .ok (orSame w1 (wLead w1 ⟨7,(took w.m x.num).agent,(took w.m x.num).try_,0,(took w.m x.num).good,⟨0,[]⟩⟩)) else
  if(took w.m x.num).try_=n.a.try_/\n.a.going=false then .ok (wReport w1 (took w.m x.num).agent.toNat) else
  .ok (orSame w1 (wDoes w1 (took w.m x.num).agent.toNat ⟨1,0,(took w.m x.num).try_,0,false,(took w.m x.num).rel⟩))
def wPower(w:Wld)(x:Hap):Except Int Wld:=
 if x.agent<0 then
  (if w.h.up=decide (x.kind=13) then .error 7 else
   if dskErr w.h.d≠0 then .error (dskErr w.h.d) else
   match ledReplay w.c (if x.kind=12 then [] else dskRecs w.h.d) with
   | .error e=> .error e
   | .ok s=> .ok { w with h:=⟨s,if x.kind=12 then w.h.d else dskBack w.h.d,!w.h.up⟩ })
 else match w.n[x.agent.toNat]? with
  |none=> .error 5
  |some n=>
   if n.up=decide (x.kind=13) then .error 7 else
   if dskErr n.d≠0 then .error (dskErr n.d) else
   match agtReplay w.c.first (if x.kind=12 then [] else dskRecs n.d) with
   | .error e=> .error e
   | .ok s=> .ok { w with n:=w.n.set x.agent.toNat ⟨s,if x.kind=12 then n.d else dskBack n.d,!n.up⟩ }
def hapRec(w:Wld)(x:Hap):Recd:=
 if x.kind=1 then⟨4,0,0,0,false,⟨w.h.l.rels.length+1,x.lock⟩⟩ else
 if x.kind=2 then⟨5,0,0,x.num,false,⟨0,[]⟩⟩ else
 if x.kind=5 then⟨8,0,0,0,false,⟨0,[]⟩⟩ else⟨9,0,0,0,false,⟨0,[]⟩⟩
def wHap(w:Wld)(x:Hap):Except Int Wld:=
 if x.kind=9∨x.kind=10 then wHear w x else
 if x.kind=11 then(if takeErr w.m x.num≠0 then .error (takeErr w.m x.num) else .ok { w with m:=left w.m x.num false }) else
 if x.kind=1∨x.kind=2∨x.kind=5∨x.kind=6 then(if w.h.up=false then .error 7 else wLead w (hapRec w x)) else
 if x.kind<1∨13<x.kind then .error 4 else
 if(w.n.length:Int)<=x.agent∨(x.agent<0/\x.kind≠12/\x.kind≠13) then .error 5 else
 if x.kind=3∨x.kind=4 then(if w.h.up=false then .error 7 else wTell w x) else
 if x.kind=12∨x.kind=13 then wPower w x else
 match w.n[x.agent.toNat]? with
 |none=> .error 5
 |some n=>
  if n.up=false then .error 7 else
  if x.kind=7 then wStep w x n else
  if n.a.going=true∨n.a.try_=0 then .error 7 else .ok (wReport w x.agent.toNat)
def wRunFrom:Wld->List Hap->Wld×List Int
 |w,[]=>(w,[])
 |w,x::q=>match wHap w x with
  | .ok y=>((wRunFrom y q).1,0::(wRunFrom y q).2)
  | .error e=>((wRunFrom w q).1,e::(wRunFrom w q).2)
def runErr(w:Wld)(l:List Hap):Int:=if wldErr w≠0 then wldErr w else if 150<l.length then 2 else 0
def freshNod(f:Rls):Nod:=⟨newAgt f,dsk0,true⟩
def freshWld(c:Conf):Wld:=⟨c,⟨newLdr c,dsk0,true⟩,List.replicate (agentsOf c.waves).toNat (freshNod c.first),[]⟩
structure DOk(d:Dsk)(rs:List Recd):Prop where
 eq:d=⟨recsText rs,[]⟩
 recs:∀r∈rs,recErr r=0
 many:rs.length<=200
 size:(recsText rs).length<=60000
theorem DOk.nil:DOk dsk0 []:=⟨rfl,by simp,by simp,by simp[recsText]⟩
theorem DOk.err{d:Dsk}{rs:List Recd}(h:DOk d rs):dskErr d=0/\dskRecs d=rs/\dskBack d=d/\d.wait=[]:=by
 obtain⟨rfl,h1,h2,h3⟩:=h
 obtain⟨a,b,c⟩:=dsk_again h1 h2 h3
 exact⟨a,b,c,rfl⟩
theorem dok_of{d:Dsk}(h:dskErr d=0)(hw:d.wait=[]):DOk d (dskRecs d):=by
 obtain⟨h1,h2,h3⟩:=dskErr_zero h
 obtain⟨i1,i2,i3,i4,i5⟩:=linesF_ok (most:=200) d.safe.length (s:=d.safe) (k:=0) (Nat.le_refl _) (by omega)
 have h5:=i5 h3
 rw[h5,List.take_of_length_le (Nat.le_refl _)] at i4
 have hr:dskRecs d=(linesF 200 0 d.safe).1:=by
  unfold dskRecs dskMore
  rw[hw,linesF_nil];simp
 rw[hr]
 refine⟨?_,i1,by omega,by rw[←i4];exact h1⟩
 cases d with
 |mk s w=>subst hw;simp only at i4;rw[←i4]
theorem dok_back{d:Dsk}(h:dskErr d=0):DOk (dskBack d) (dskRecs d):=by
 obtain⟨h1,h2,h3⟩:=dskErr_zero h
 obtain⟨i1,i2,i3,i4,i5⟩:=linesF_ok (most:=200) d.safe.length (s:=d.safe) (k:=0) (Nat.le_refl _) (by omega)
 have h5:=i5 h3
 rw[h5,List.take_of_length_le (Nat.le_refl _)] at i4
 obtain⟨j1,j2,j3,j4,j5⟩:=linesF_ok (most:=200-(linesF 200 0 d.safe).1.length) d.wait.length (s:=d.wait) (k:=0) (Nat.le_refl _) (by omega)
 have e:dskBack d=⟨recsText (dskRecs d),[]⟩:=by
  unfold dskBack dskRecs
  rw[recsText_app,←i4]
  unfold dskMore
  rw[j4]
 have el:(recsText (dskRecs d)).length<=60000:=by
  unfold dskRecs
  rw[recsText_app,←i4]
  unfold dskMore
  rw[←j4,List.length_append,List.length_take]
  omega
 refine⟨e,fun r hr=> ?_,?_,el⟩
 ·unfold dskRecs dskMore at hr
  rcases List.mem_append.1 hr with hr|hr
  ·exact i1 r hr
  ·exact j1 r hr
 ·unfold dskRecs dskMore
  rw[List.length_append];omega
theorem dskErr_many{rs:List Recd}(h:∀r∈rs,recErr r=0)(hn:200<rs.length)(hl:(recsText rs).length<=60000):dskErr ⟨recsText rs,[]⟩=2:=by
 unfold dskErr
 dsimp only
 rw[if_neg (by omega),if_neg (by simp)]
 have key:∀(qs:List Recd)(k:Nat),(∀r∈qs,recErr r=0)->k<=200->200<k+qs.length->(linesF 200 k (recsText qs)).2.2=2:=by
  intro qs
  induction qs with
  |nil=>intro k _ h1 h2;simp at h2;omega
  |cons q t ih=>
   intro k hq h1 h2
   rw[recsText_cons]
   by_cases hk:k=200
   ·subst hk
    rw[linesF_many recText_line (recRead_text (hq q (by simp)))]
   ·rw[linesF_more recText_line (recRead_text (hq q (by simp))) hk]
    exact ih (k+1) (fun x hx=>hq x (by simp[hx])) (by omega) (by simp at h2;omega)
 exact key rs 0 h (by omega) (by omega)
theorem dskSafe_ok{d x:Dsk}{rs:List Recd}{r:Recd}(h:DOk d rs)(hx:dskSafe d r= .ok x):DOk x (rs++[r]):=by
 unfold dskSafe at hx
 cases hp:dskPut d r with
 |error e=>rw[hp] at hx;cases hx
 |ok y=>
  rw[hp] at hx
  obtain⟨p1,p2,p3,rfl⟩:=dskPut_ok hp
  obtain⟨rfl,h1,h2,h3⟩:=h
  simp only[List.nil_append,List.length_nil,Nat.add_zero] at p3 hx
  have e1:recsText rs++(recText r++[10])=recsText (rs++[r]):=by rw[recsText_app];simp[recsText]
  unfold dskSync at hx
  dsimp only at hx
  rw[e1] at hx
  split at hx
  ·split at hx
   ·rename_i hz
    obtain rfl:=Except.ok.inj hx
    have hl:(recsText (rs++[r])).length<=60000:=(dskErr_zero hz).1
    refine⟨rfl,fun q hq=> ?_,?_,hl⟩
    ·rcases List.mem_append.1 hq with hq|hq
     ·exact h1 q hq
     ·simp at hq;subst hq;exact p2
    ·by_cases hn:(rs++[r]).length<=200
     ·exact hn
     ·exfalso
      have hall:∀q∈rs++[r],recErr q=0:=fun q hq=>by
       rcases List.mem_append.1 hq with hq|hq
       ·exact h1 q hq
       ·simp at hq;subst hq;exact p2
      have:=dskErr_many hall (by omega) hl
      rw[this] at hz;cases hz
   ·cases hx
  ·cases hx
theorem dskSafe_room{d:Dsk}{rs:List Recd}{r:Recd}(h:DOk d rs)(hr:recErr r=0)(hn:rs.length<200)(hl:(recsText rs).length<=59000):∃x,dskSafe d r= .ok x/\DOk x (rs++[r]):=by
 have e0:=h.err
 obtain⟨rfl,h1,h2,h3⟩:=h
 have hlen:=recText_len hr
 have e1:recsText rs++(recText r++[10])=recsText (rs++[r]):=by rw[recsText_app];simp[recsText]
 have hall:∀q∈rs++[r],recErr q=0:=fun q hq=>by
  rcases List.mem_append.1 hq with hq|hq
  ·exact h1 q hq
  ·simp at hq;subst hq;exact hr
 have hl2:(recsText (rs++[r])).length<=60000:=by rw[←e1];simp;omega
 have hx:dskSafe ⟨recsText rs,[]⟩ r= .ok ⟨recsText (rs++[r]),[]⟩:=by
  unfold dskSafe dskPut
  rw[if_pos e0.1,if_pos hr]
  dsimp only
  rw[if_neg (by simp;omega)]
  dsimp only
  unfold dskSync
  dsimp only
  have hz:dskErr ⟨recsText rs,[]++(recText r++[10])⟩=0:=dskErr_recs h1 (by omega) (by simp;omega)
  rw[if_pos hz,List.nil_append,e1,if_pos (dskErr_recs hall (by simp;omega) (by simpa using hl2))]
 exact⟨_,hx,rfl,hall,by simp;omega,hl2⟩
open Go
structure LFacts(c:Conf)(L:Ldr):Prop where
 now:1<=L.now/\L.now<=L.rels.length
 goal:0<=L.goal/\L.goal<=L.rels.length
 many:1<=L.rels.length/\L.rels.length<=6
 ids:∀(j:Nat)(r:Rls),L.rels[j]?=some r->r.id=j+1/\Lk r.lock/\r.lock.length<=12
 ne:L.goal≠L.now
 home:L.goal=0->L.back=false
 kn:∀(k:Nat)(b:Kn),L.ags[k]?=some b->0<=b.st/\b.st<=3/\0<=b.try_/\b.try_<L.nx/\(b.st≠0->L.goal≠0/\b.try_≠0)/\(b.back=true->L.back=true/\b.st≠0)
 nx:1<=L.nx/\L.nx<=201
theorem ldr_facts{c:Conf}{L:Ldr}(h:ldrErr c L=0):LFacts c L:=by
 obtain⟨g1,g2,g3,g4,g5,g6,g7⟩:=ldrErr_zero.1 h
 obtain⟨f1,f2,f3,f4⟩:=form_parts g6
 have hkn:=knErr_zero.1 g7
 unfold ldrRange at g5
 refine⟨by omega,by omega,⟨g2,g3⟩,fun j r hj=> ?_,f1,fun h0=> ?_,fun k b hb=> ?_,by omega⟩
 ·have h1:=relsErr_zero.1 g4 j r hj
  have h2:=rel_lock g4 r (List.mem_of_getElem? hj)
  exact⟨by omega,h2.1,h2.2⟩
 ·cases hb:L.back with
  |false=>rfl
  |true=>exact absurd ⟨h0,hb⟩ f2
 ·obtain⟨x1,x2⟩:=hkn b (List.mem_of_getElem? hb)
  unfold badKn at x1
  unfold oddKn at x2
  refine⟨by omega,by omega,by omega,by omega,fun hs=>⟨fun h0=>x2 (.inl ⟨hs,.inl h0⟩),fun h0=>x2 (.inl ⟨hs,.inr h0⟩)⟩,fun hb=>⟨?_,fun h0=>x2 (.inr ⟨hb,.inr h0⟩)⟩⟩
  cases hl:L.back with
  |true=>rfl
  |false=>exact absurd (.inr ⟨hb,.inl hl⟩) x2
theorem next_zero{a:Agt}{r:Recd}(h:nextErr a r=0):agtErr a=0/\recErr r=0/\((r.kind=1/\a.try_<r.try_)∨((r.kind=2∨r.kind=3)/\a.going=true/\r.try_=a.try_/\(r.kind=2->agtLeft a≠[])/\(r.kind=3->agtLeft a=[]))):=by
 unfold nextErr at h
 split at h
 ·omega
 ·split at h
  ·omega
  ·refine⟨by omega,by omega,?_⟩
   split at h
   ·rename_i k
    split at h
    ·omega
    ·exact .inl ⟨k,by omega⟩
   ·split at h
    ·omega
    ·rename_i k1 k2
     split at h
     ·omega
     ·rename_i k3
      refine .inr ⟨by omega,?_,?_,fun k hl=> ?_,fun k=> ?_⟩
      ·cases hg:a.going with
       |true=>rfl
       |false=>exact absurd (.inl hg) k3
      ·exact Decidable.byContradiction fun e=>k3 (.inr (.inl e))
      ·exact k3 (.inr (.inr (.inl ⟨k,hl⟩)))
      ·exact Decidable.byContradiction fun e=>k3 (.inr (.inr (.inr ⟨k,e⟩)))
theorem agtErr_of{a:Agt}(h1:Lk a.lock/\a.lock.length<=12)(h2:1<=a.at_/\a.at_<=6)(h3:0<=a.try_/\a.try_<=200)(h4:a.going=true->a.try_≠0/\a.good=false/\relErr a.goal=0)(h5:a.going=false->noRel a.goal):agtErr a=0:=by
 unfold agtErr
 rw[if_neg (by rw[lockCheck_zero.2 h1];omega),if_neg (by omega)]
 cases hg:a.going with
 |true=>
  obtain⟨x,y,z⟩:=h4 hg
  rw[if_pos rfl,if_neg (by rintro(e|e);exact x e;rw[y] at e;cases e),z]
 |false=>rw[if_neg (by simp),if_pos (h5 hg)]
theorem left_step{a:Agt}(h:agtErr a=0)(hg:a.going=true){o:Step}{q:List Step}(hl:agtLeft a=o::q):(Lk (applied a.lock o)/\(applied a.lock o).length<=12)/\agtLeft ⟨applied a.lock o,a.at_,a.try_,a.going,a.goal,a.good⟩=q/\∀p∈applied a.lock o,p∈a.lock∨p∈a.goal.lock:=by
 obtain⟨⟨z1,z2⟩,_⟩:=agtErr_zero h
 obtain⟨y1,y2⟩:=agt_goal h
 have hd:diffs a.lock a.goal.lock=o::q:=by unfold agtLeft at hl;rw[if_pos hg] at hl;exact hl
 have hok:=diffs_mem z1 y1 (hd▸List.mem_cons_self:o∈diffs a.lock a.goal.lock)
 refine⟨⟨(hok.applied z1 y1).1,(diffs_fits z1 y1 z2 y2 hd).2⟩,?_,fun p hp=> ?_⟩
 ·unfold agtLeft;rw[if_pos hg];exact diffs_step z1 y1 hd
 ·unfold applied at hp
  split at hp
  ·left
   unfold del at hp
   exact(List.mem_filter.1 hp).1
  ·rename_i k
   rcases up_mem hp with rfl|hp
   ·right
    have hv:=hok.ver
    have hne:find a.goal.lock o.name≠0:=by rcases hok.kind with e|e|e<;>omega
    obtain⟨q',hq,e1,e2⟩:=find_pos hne
    have:q'=⟨o.name,o.ver⟩:=by cases q';simp_all
    rw[←this];exact hq
   ·exact .inl hp
theorem next_ok{a:Agt}{r:Recd}(h:nextErr a r=0):agtErr (agtNext a r)=0:=by
 obtain⟨h1,h2,h3⟩:=next_zero h
 obtain⟨z1,z2,z3,z4,z5,z6,z7⟩:=agtErr_zero h1
 obtain⟨y1,y2,y3,y4⟩:=rec_zero h2
 unfold recRange at y3
 rcases h3 with⟨k,ht⟩|⟨k,hg,ht,hl2,hl3⟩
 ·unfold agtNext
  rw[if_pos k]
  exact agtErr_of z1 ⟨z2,z3⟩ ⟨by simp only;omega,by simp only;omega⟩ (fun _=>⟨by simp only;omega,rfl,y4 (.inl k)⟩) (fun e=>by cases e)
 ·rcases k with k|k
  ·obtain⟨o,q,hl⟩:=List.exists_cons_of_ne_nil (hl2 k)
   unfold agtNext
   rw[if_neg (by omega),if_pos k,hl]
   exact agtErr_of (left_step h1 hg hl).1 ⟨z2,z3⟩ ⟨z4,z5⟩ z6 z7
  ·unfold agtNext
   rw[if_neg (by omega),if_neg (by omega)]
   have hid:=(relErr_zero (z6 hg).2.2).1
   exact agtErr_of z1 hid ⟨z4,z5⟩ (fun e=>by cases e) (fun _=>by simp[noRel])
theorem set_self{α:Type}{xs:List α}{k:Nat}{x:α}(h:xs[k]?=some x):xs.set k x=xs:=by
 obtain⟨hk,rfl⟩:=List.getElem?_eq_some_iff.1 h
 exact List.set_getElem_self hk
open Go
theorem ledFrom_snoc{c:Conf}{r:Recd}{L:Ldr} :∀ {rs:List Recd} {l:Ldr},ledFrom c l rs= .ok L->ledErr c L r=0->ledFrom c l (rs++[r])= .ok (ledNext L r)
 | [],l,h,hr=>by
  obtain rfl:=Except.ok.inj (show Except.ok l=Except.ok L from h)
  show ledFrom c l [r]=_
  unfold ledFrom;rw[if_pos hr];rfl
 |q::rs,l,h,hr=>by
  show ledFrom c l (q::(rs++[r]))=_
  unfold ledFrom at h⊢
  split at h
  ·rename_i hq;rw[if_pos hq];exact ledFrom_snoc h hr
  ·cases h
theorem ledReplay_snoc{c:Conf}{rs:List Recd}{r:Recd}{L:Ldr}(h:ledReplay c rs= .ok L)(hr:ledErr c L r=0)(hn:(rs++[r]).length<=200):ledReplay c (rs++[r])= .ok (ledNext L r):=by
 unfold ledReplay at h⊢
 split at h
 ·cases h
 ·rename_i hc
  rw[if_neg hc]
  split at h
  ·cases h
  ·rw[if_neg (by omega)];exact ledFrom_snoc h hr
theorem ledFrom_ok{c:Conf}{L:Ldr} :∀ {rs:List Recd} {l:Ldr},ldrErr c l=0->ledFrom c l rs= .ok L->ldrErr c L=0
 | [],l,h,e=>by obtain rfl:=Except.ok.inj (show Except.ok l=Except.ok L from e);exact h
 |q::rs,l,h,e=>by
  unfold ledFrom at e
  split at e
  ·rename_i hq;exact ledFrom_ok (led_ok hq) e
  ·cases e
theorem ledReplay_ok{c:Conf}{rs:List Recd}{L:Ldr}(h:ledReplay c rs= .ok L):cfgErr c=0/\ldrErr c L=0:=by
 unfold ledReplay at h
 split at h
 ·cases h
 ·rename_i hc
  split at h
  ·cases h
  ·exact⟨by omega,ledFrom_ok (new_ok (by omega)) h⟩
theorem replayFrom_snoc{r:Recd}{A:Agt} :∀ {rs:List Recd} {a:Agt},replayFrom a rs= .ok A->nextErr A r=0->replayFrom a (rs++[r])= .ok (agtNext A r)
 | [],l,h,hr=>by
  obtain rfl:=Except.ok.inj (show Except.ok l=Except.ok A from h)
  show replayFrom l [r]=_
  unfold replayFrom;rw[if_pos hr];rfl
 |q::rs,l,h,hr=>by
  show replayFrom l (q::(rs++[r]))=_
  unfold replayFrom at h⊢
  split at h
  ·rename_i hq;rw[if_pos hq];exact replayFrom_snoc h hr
  ·cases h
theorem agtReplay_snoc{f:Rls}{rs:List Recd}{r:Recd}{A:Agt}(h:agtReplay f rs= .ok A)(hr:nextErr A r=0)(hn:(rs++[r]).length<=200):agtReplay f (rs++[r])= .ok (agtNext A r):=by
 unfold agtReplay at h⊢
 split at h
 ·cases h
 ·rename_i hc
  rw[if_neg hc]
  split at h
  ·cases h
  ·rw[if_neg (by omega)];exact replayFrom_snoc h hr
theorem newAgt_ok{f:Rls}(h:relErr f=0):agtErr (newAgt f)=0:=by
 obtain⟨h1,h2⟩:=relErr_zero h
 exact agtErr_of h2 h1 ⟨Int.le_refl _,by unfold newAgt;simp⟩ (fun e=>by cases e) (fun _=>by simp[newAgt,noRel])
theorem replayFrom_ok{A:Agt} :∀ {rs:List Recd} {a:Agt},agtErr a=0->replayFrom a rs= .ok A->agtErr A=0
 | [],l,h,e=>by obtain rfl:=Except.ok.inj (show Except.ok l=Except.ok A from e);exact h
 |q::rs,l,h,e=>by
  unfold replayFrom at e
  split at e
  ·rename_i hq;exact replayFrom_ok (next_ok hq) e
  ·cases e
theorem agtReplay_ok{f:Rls}{rs:List Recd}{A:Agt}(h:agtReplay f rs= .ok A):relErr f=0/\agtErr A=0:=by
 unfold agtReplay at h
 split at h
 ·cases h
 ·rename_i hc
  split at h
  ·cases h
  ·exact⟨by omega,replayFrom_ok (newAgt_ok (by omega)) h⟩
def mailOk(m:Mail):Prop:=¬badWho m/\¬badForm m/\(m.rep=false->relErr m.rel=0)
theorem mailsFrom_iff:∀ {l:List Mail},mailsFrom l=0↔ ∀m∈l,mailOk m
 | []=>by simp[mailsFrom]
 |x::q=>by
  unfold mailsFrom
  constructor
  ·intro h
   split at h
   ·omega
   ·split at h
    ·omega
    ·rename_i h1 h2
     split at h
     ·rename_i h3
      intro m hm
      rcases List.mem_cons.1 hm with rfl|hm
      ·exact⟨h1,h2,fun e=>by rw[h3] at e;cases e⟩
      ·exact mailsFrom_iff.1 h m hm
     ·split at h
      ·omega
      ·rename_i h3 h4
       intro m hm
       rcases List.mem_cons.1 hm with rfl|hm
       ·exact⟨h1,h2,fun _=>by omega⟩
       ·exact mailsFrom_iff.1 h m hm
  ·intro h
   obtain⟨h1,h2,h3⟩:=h x List.mem_cons_self
   have h4:=mailsFrom_iff.2 fun m hm=>h m (List.mem_cons_of_mem _ hm)
   rw[if_neg h1,if_neg h2]
   split
   ·exact h4
   ·rename_i h5
    rw[if_neg (by rw[h3 (by simpa using h5)];omega)]
    exact h4
theorem mailsCheck_iff{l:List Mail} :mailsCheck l=0↔l.length<=40/\∀m∈l,mailOk m:=by
 unfold mailsCheck
 constructor
 ·intro h
  split at h
  ·omega
  ·exact⟨by omega,mailsFrom_iff.1 h⟩
 ·rintro⟨h1,h2⟩
  rw[if_neg (by omega)];exact mailsFrom_iff.2 h2
theorem sentOk{l:List Mail}{m:Mail}(h:sendErr l m=0):mailsCheck (sent l m)=0/\mailOk m:=by
 unfold sendErr at h
 split at h
 ·rename_i h0
  obtain⟨a1,a2⟩:=mailsCheck_iff.1 h0
  obtain⟨b1,b2⟩:=mailsCheck_iff.1 h
  refine⟨?_,b2 m (by simp)⟩
  unfold sent
  split
  ·refine mailsCheck_iff.2 ⟨by simp;omega,fun x hx=> ?_⟩
   rcases List.mem_append.1 hx with hx|hx
   ·exact a2 x hx
   ·exact b2 x hx
  ·exact h0
 ·omega
theorem sent_mem{l:List Mail}{m x:Mail}(h:x∈sent l m):x∈l∨x=m:=by
 unfold sent at h
 split at h
 ·rcases List.mem_append.1 h with h|h
  ·exact .inl h
  ·exact .inr (by simpa using h)
 ·exact .inl h
theorem left_mem{l:List Mail}{k:Int}{tw:Bool}{x:Mail}(h:x∈left l k tw):x∈l:=by
 unfold left at h
 split at h
 ·exact h
 ·rcases List.mem_append.1 h with h|h
  ·exact List.mem_of_mem_take h
  ·exact List.mem_of_mem_drop h
theorem left_len{l:List Mail}{k:Int}{tw:Bool} :(left l k tw).length<=l.length:=by
 unfold left
 split
 ·exact Nat.le_refl _
 ·rw[List.length_append,List.length_take,List.length_drop];omega
theorem left_ok{l:List Mail}{k:Int}{tw:Bool}(h:mailsCheck l=0):mailsCheck (left l k tw)=0:=by
 obtain⟨a1,a2⟩:=mailsCheck_iff.1 h
 have:=left_len (l:=l) (k:=k) (tw:=tw)
 exact mailsCheck_iff.2 ⟨by omega,fun x hx=>a2 x (left_mem hx)⟩
theorem took_mem{l:List Mail}{k:Int}(h:takeErr l k=0):took l k∈l/\0<=k/\k<l.length/\mailsCheck l=0:=by
 unfold takeErr at h
 split at h
 ·rename_i h0
  split at h
  ·omega
  ·refine⟨?_,by omega,by omega,h0⟩
   unfold took
   have hk:k.toNat<l.length:=by omega
   rw[List.getD_eq_getElem?_getD,List.getElem?_eq_getElem hk]
   exact List.getElem_mem hk
 ·omega
theorem nodsErr_zero{f:Rls} :∀ {l:List Nod},nodsErr f l=0↔ ∀n∈l,nodErr f n=0
 | []=>by simp[nodsErr]
 |x::q=>by
  unfold nodsErr
  constructor
  ·intro h
   split at h
   ·omega
   ·intro n hn
    rcases List.mem_cons.1 hn with rfl|hn
    ·omega
    ·exact nodsErr_zero.1 h n hn
  ·intro h
   rw[if_neg (by rw[h x List.mem_cons_self];omega)]
   exact nodsErr_zero.2 fun n hn=>h n (List.mem_cons_of_mem _ hn)
theorem farMail_false{k:Int}{l:List Mail} :farMail k l=false↔ ∀m∈l,m.agent<k:=by
 unfold farMail
 rw[List.any_eq_false]
 simp
theorem turnErr_zero{c:Conf}{l:Ldr}{k:Int}(h:turnErr c l k=0):ldrErr c l=0/\0<=k/\k<l.ags.length/\l.goal≠0:=by
 unfold turnErr at h
 split at h
 ·omega
 ·split at h
  ·omega
  ·split at h
   ·omega
   ·exact⟨by omega,by omega,by omega,by assumption⟩
open Go
theorem logOf_zero{d:Dsk}{up:Bool}{l:List Recd} :logOf d up= .ok l↔dskErr d=0/\(up=true->d.wait=[])/\l=if up=true then dskRecs d else []:=by
 unfold logOf
 constructor
 ·intro h
  split at h
  ·cases h
  ·split at h
   ·cases h
   ·rename_i h1 h2
    refine⟨by omega,fun e=>Decidable.byContradiction fun e2=>h2 ⟨e,e2⟩,(Except.ok.inj h).symm⟩
 ·rintro⟨h1,h2,rfl⟩
  rw[if_neg (by omega),if_neg (fun e=>e.2 (h2 e.1))]
structure HOk(c:Conf)(h:Hed):Prop where
 disk:dskErr h.d=0
 dry:h.up=true->h.d.wait=[]
 log:ledReplay c (if h.up=true then dskRecs h.d else [])= .ok h.l
structure NOk(f:Rls)(n:Nod):Prop where
 disk:dskErr n.d=0
 dry:n.up=true->n.d.wait=[]
 log:agtReplay f (if n.up=true then dskRecs n.d else [])= .ok n.a
theorem logOf_err{d:Dsk}{up:Bool}{e:Int}(h:logOf d up= .error e):e≠0:=by
 unfold logOf at h
 split at h
 ·rename_i h0;injection h with h;omega
 ·split at h
  ·injection h with h;omega
  ·cases h
theorem ledFrom_err{c:Conf}{e:Int} :∀ {rs:List Recd} {l:Ldr},ledFrom c l rs= .error e->e≠0
 | [],l,h=>by cases h
 |r::q,l,h=>by
  unfold ledFrom at h
  split at h
  ·exact ledFrom_err h
  ·rename_i h0;injection h with h;omega
theorem ledReplay_err{c:Conf}{rs:List Recd}{e:Int}(h:ledReplay c rs= .error e):e≠0:=by
 unfold ledReplay at h
 split at h
 ·rename_i h0;injection h with h;omega
 ·split at h
  ·injection h with h;omega
  ·exact ledFrom_err h
theorem replayFrom_err{e:Int} :∀ {rs:List Recd} {l:Agt},replayFrom l rs= .error e->e≠0
 | [],l,h=>by cases h
 |r::q,l,h=>by
  unfold replayFrom at h
  split at h
  ·exact replayFrom_err h
  ·rename_i h0;injection h with h;omega
theorem agtReplay_err{f:Rls}{rs:List Recd}{e:Int}(h:agtReplay f rs= .error e):e≠0:=by
 unfold agtReplay at h
 split at h
 ·rename_i h0;injection h with h;omega
 ·split at h
  ·injection h with h;omega
  ·exact replayFrom_err h
theorem hedErr_zero{c:Conf}{h:Hed} :hedErr c h=0↔HOk c h:=by
 unfold hedErr
 constructor
 ·intro e
  split at e
  ·rename_i x hx;exact absurd e (logOf_err hx)
  ·rename_i l hl
   obtain⟨h1,h2,rfl⟩:=logOf_zero.1 hl
   split at e
   ·rename_i x hx;exact absurd e (ledReplay_err hx)
   ·rename_i x hx
    split at e
    ·rename_i he;exact⟨h1,h2,by rw[hx,he]⟩
    ·cases e
 ·rintro⟨h1,h2,h3⟩
  rw[logOf_zero.2 ⟨h1,h2,rfl⟩]
  dsimp only
  rw[h3]
  dsimp only
  rw[if_pos rfl]
theorem nodErr_zero{f:Rls}{n:Nod} :nodErr f n=0↔NOk f n:=by
 unfold nodErr
 constructor
 ·intro e
  split at e
  ·rename_i x hx;exact absurd e (logOf_err hx)
  ·rename_i l hl
   obtain⟨h1,h2,rfl⟩:=logOf_zero.1 hl
   split at e
   ·rename_i x hx;exact absurd e (agtReplay_err hx)
   ·rename_i x hx
    split at e
    ·rename_i he;exact⟨h1,h2,by rw[hx,he]⟩
    ·cases e
 ·rintro⟨h1,h2,h3⟩
  rw[logOf_zero.2 ⟨h1,h2,rfl⟩]
  dsimp only
  rw[h3]
  dsimp only
  rw[if_pos rfl]
structure WRight(w:Wld):Prop where
 cfg:cfgErr w.c=0
 len:(w.n.length:Int)=agentsOf w.c.waves
 mail:mailsCheck w.m=0
 who:∀m∈w.m,m.agent<w.n.length
 head:HOk w.c w.h
 node:∀n∈w.n,NOk w.c.first n
theorem wldErr_zero{w:Wld} :wldErr w=0↔WRight w:=by
 unfold wldErr
 constructor
 ·intro h
  split at h
  ·omega
  ·split at h
   ·omega
   ·split at h
    ·omega
    ·split at h
     ·omega
     ·split at h
      ·omega
      ·rename_i h1 h2 h3 h4 h5
       exact⟨by omega,by omega,by omega,farMail_false.1 (by simpa using h4),hedErr_zero.1 (by omega),fun n hn=>nodErr_zero.1 (nodsErr_zero.1 h n hn)⟩
 ·rintro⟨h1,h2,h3,h4,h5,h6⟩
  rw[if_neg (by omega),if_neg (by omega),if_neg (by omega),if_neg (by rw[farMail_false.2 h4];simp),if_neg (by rw[hedErr_zero.2 h5];omega)]
  exact nodsErr_zero.2 fun n hn=>nodErr_zero.2 (h6 n hn)
theorem HOk.lead{c:Conf}{h:Hed}(k:HOk c h)(hu:h.up=true){r:Recd}(hr:ledErr c h.l r=0){d:Dsk}(hd:dskSafe h.d r= .ok d):HOk c ⟨ledNext h.l r,d,h.up⟩:=by
 have hD:=dskSafe_ok (dok_of k.disk (k.dry hu)) hd
 obtain⟨e1,e2,e3,e4⟩:=hD.err
 have hl:=k.log
 rw[if_pos hu] at hl
 refine⟨e1,fun _=>e4,?_⟩
 dsimp only
 rw[if_pos hu,e2]
 exact ledReplay_snoc hl hr hD.many
theorem NOk.does{f:Rls}{n n':Nod}(k:NOk f n)(hu:n.up=true){r:Recd}(hd:nDoes n r= .ok n'):NOk f n'/\n'.up=true/\n'.a=agtNext n.a r/\nextErr n.a r=0/\dskRecs n'.d=dskRecs n.d++[r]:=by
 unfold nDoes at hd
 split at hd
 ·cases hd
 ·rename_i hr
  split at hd
  ·cases hd
  ·rename_i d hd'
   obtain rfl:=Except.ok.inj hd
   have hD:=dskSafe_ok (dok_of k.disk (k.dry hu)) hd'
   obtain⟨e1,e2,e3,e4⟩:=hD.err
   have hl:=k.log
   rw[if_pos hu] at hl
   refine⟨⟨e1,fun _=>e4,?_⟩,hu,rfl,by omega,e2⟩
   dsimp only
   rw[if_pos hu,e2]
   exact agtReplay_snoc hl (by omega) hD.many
theorem HOk.power{c:Conf}{h:Hed}(k:HOk c h){kind:Int}(hk:kind=12∨kind=13)(hu:¬h.up=decide (kind=13)){s:Ldr}(hs:ledReplay c (if kind=12 then [] else dskRecs h.d)= .ok s):HOk c ⟨s,if kind=12 then h.d else dskBack h.d,!h.up⟩:=by
 rcases hk with rfl|rfl
 ·have hup:h.up=true:=by simpa using hu
  simp only[if_pos] at hs⊢
  exact⟨k.disk,fun e=>(by rw[hup] at e;cases e),by simp only[hup];exact hs⟩
 ·have hup:h.up=false:=by simpa using hu
  have hD:=dok_back k.disk
  obtain⟨e1,e2,e3,e4⟩:=hD.err
  rw[if_neg (by omega)] at hs⊢
  exact⟨e1,fun _=>e4,by simp only[hup,Bool.not_false,if_true];rw[e2];exact hs⟩
theorem NOk.power{f:Rls}{n:Nod}(k:NOk f n){kind:Int}(hk:kind=12∨kind=13)(hu:¬n.up=decide (kind=13)){s:Agt}(hs:agtReplay f (if kind=12 then [] else dskRecs n.d)= .ok s):NOk f ⟨s,if kind=12 then n.d else dskBack n.d,!n.up⟩:=by
 rcases hk with rfl|rfl
 ·have hup:n.up=true:=by simpa using hu
  simp only[if_pos] at hs⊢
  exact⟨k.disk,fun e=>(by rw[hup] at e;cases e),by simp only[hup];exact hs⟩
 ·have hup:n.up=false:=by simpa using hu
  have hD:=dok_back k.disk
  obtain⟨e1,e2,e3,e4⟩:=hD.err
  rw[if_neg (by omega)] at hs⊢
  exact⟨e1,fun _=>e4,by simp only[hup,Bool.not_false,if_true];rw[e2];exact hs⟩
structure Eff(w y:Wld)(who:Int)(l:List Mail):Prop where
 c:y.c=w.c
 ok:WRight y
 head:0<=who->y.h=w.h
 len:y.n.length=w.n.length
 node:∀i:Nat,(i:Int)≠who->y.n[i]?=w.n[i]?
 mail:y.m=l∨ ∃m,y.m=l++[m]
theorem WRight.less{w:Wld}(h:WRight w){k:Int}{tw:Bool} :WRight { w with m:=left w.m k tw } :=
 ⟨h.cfg,h.len,left_ok h.mail,fun m hm=>h.who m (left_mem hm),h.head,h.node⟩
theorem wLead_ok{w y:Wld}{r:Recd}(hy:wLead w r= .ok y):ledErr w.c w.h.l r=0/\∃d,dskSafe w.h.d r= .ok d/\y= { w with h:=⟨ledNext w.h.l r,d,w.h.up⟩ } :=by
 unfold wLead at hy
 split at hy
 ·cases hy
 ·rename_i he
  split at hy
  ·cases hy
  ·rename_i d hd
   exact⟨by omega,d,hd,(Except.ok.inj hy).symm⟩
theorem WRight.lead{w y:Wld}(h:WRight w)(hu:w.h.up=true){r:Recd}(hy:wLead w r= .ok y):Eff w y (-1) w.m:=by
 obtain⟨he,d,hd,rfl⟩:=wLead_ok hy
 exact⟨rfl,⟨h.cfg,h.len,h.mail,h.who,h.head.lead hu he hd,h.node⟩,fun e=>by omega,rfl,fun i _=>rfl,.inl rfl⟩
theorem wDoes_ok{w y:Wld}{k:Nat}{r:Recd}(hy:wDoes w k r= .ok y):∃n n',w.n[k]?=some n/\nDoes n r= .ok n'/\y= { w with n:=w.n.set k n' } :=by
 unfold wDoes at hy
 split at hy
 ·cases hy
 ·rename_i n hn
  split at hy
  ·cases hy
  ·rename_i n' hn'
   exact⟨n,n',hn,hn',(Except.ok.inj hy).symm⟩
theorem WRight.set{w:Wld}(h:WRight w){k:Nat}{n':Nod}(hn:NOk w.c.first n'):Eff w { w with n:=w.n.set k n' } k w.m:=
 ⟨rfl,⟨h.cfg,by simp[h.len],h.mail,fun m hm=>by simpa using h.who m hm,h.head,fun n hn'=>by
  rcases List.mem_or_eq_of_mem_set hn' with hx|rfl
  ·exact h.node n hx
  ·exact hn⟩,fun _=>rfl,by simp,fun i hi=>by
   show(w.n.set k n')[i]?=_
   rw[List.getElem?_set,if_neg (by omega)],.inl rfl⟩
theorem WRight.does{w y:Wld}(h:WRight w){k:Nat}{r:Recd}{n:Nod}(hn:w.n[k]?=some n)(hu:n.up=true)(hy:wDoes w k r= .ok y):Eff w y k w.m/\∃n',y.n[k]?=some n'/\n'.up=true/\n'.a=agtNext n.a r/\nextErr n.a r=0:=by
 obtain⟨m,n',hm,hn',rfl⟩:=wDoes_ok hy
 obtain rfl:n=m:=by rw[hn] at hm;exact Option.some.inj hm
 obtain⟨d1,d2,d3,d4,d5⟩:=(h.node n (List.mem_of_getElem? hn)).does hu hn'
 refine⟨h.set d1,n',?_,d2,d3,d4⟩
 show(w.n.set k n')[k]?=_
 rw[List.getElem?_set,if_pos rfl,if_pos (List.getElem?_eq_some_iff.1 hn).1]
theorem Eff.post{w y:Wld}{who:Int}{m:Mail}{l:List Mail}(h:Eff w y who l)(hm:m.agent<w.n.length)(hl:y.m=l):Eff w (wPost y m) who l:=by
 subst hl
 unfold wPost
 split
 ·rename_i he
  refine⟨h.c,⟨h.ok.cfg,h.ok.len,(sentOk he).1,fun x hx=> ?_,h.ok.head,h.ok.node⟩,h.head,h.len,h.node,?_⟩
  ·have hx:x∈sent y.m m:=hx
   rcases sent_mem hx with hx|rfl
   ·exact h.ok.who x hx
   ·have:=h.len
    show x.agent<(y.n.length:Int)
    omega
  ·show sent y.m m=y.m∨_
   unfold sent
   split
   ·exact .inr ⟨m,rfl⟩
   ·exact .inl rfl
 ·exact h
theorem WRight.same{w:Wld}(h:WRight w)(who:Int):Eff w w who w.m:=⟨rfl,h,fun _=>rfl,rfl,fun _ _=>rfl,.inl rfl⟩
def hapWho(w:Wld)(x:Hap):Int:=
 if 1<=x.kind/\x.kind<=6 then-1 else
 if x.kind=9∨x.kind=10 then(if(took w.m x.num).rep=true then-1 else(took w.m x.num).agent) else
 if x.agent<0 then-1 else x.agent
def hapLeft(w:Wld)(x:Hap):List Mail:=if x.kind=9∨x.kind=11 then left w.m x.num false else w.m
theorem Eff.trans{w z y:Wld}{who:Int}{l:List Mail}(h:Eff z y who l)(e:z.c=w.c/\z.h=w.h/\z.n=w.n):Eff w y who l:=
 ⟨h.c.trans e.1,h.ok,fun k=>(h.head k).trans e.2.1,by rw[h.len,e.2.2],fun i hi=>by rw[h.node i hi,e.2.2],h.mail⟩
theorem WRight.hap{w y:Wld}(h:WRight w){x:Hap}(hy:wHap w x= .ok y):Eff w y (hapWho w x) (hapLeft w x):=by
 unfold wHap at hy
 split at hy
 ·rename_i hk
  have hwho:hapWho w x=if(took w.m x.num).rep=true then-1 else(took w.m x.num).agent:=by
   unfold hapWho;rw[if_neg (by omega),if_pos hk]
  have hleft:hapLeft w x=left w.m x.num (decide (x.kind=10)):=by
   unfold hapLeft
   rcases hk with k|k
   ·rw[if_pos (.inl k)];simp[k]
   ·rw[if_neg (by omega)];simp[k,left]
  rw[hwho,hleft]
  unfold wHear at hy
  split at hy
  ·cases hy
  ·rename_i ht
   obtain⟨t1,t2,t3,t4⟩:=took_mem (Decidable.not_not.1 ht)
   obtain⟨o1,o2,o3⟩:=(mailsCheck_iff.1 t4).2 _ t1
   have hw:=h.who _ t1
   generalize took w.m x.num=m at*
   unfold badWho at o1
   have hL:=h.less (k:=x.num) (tw:=decide (x.kind=10))
   split at hy
   ·cases hy
   ·rename_i n hn
    split at hy
    ·cases hy
    ·rename_i hup
     dsimp only at hy
     split at hy
     ·rename_i hr
      have hu:w.h.up=true:=by
       cases hu:w.h.up with
       |true=>rfl
       |false=>exact absurd (.inl ⟨hr,hu⟩) hup
      rw[if_pos hr]
      obtain rfl:=Except.ok.inj hy
      cases hl:wLead { w with m:=left w.m x.num (decide (x.kind=10)) } ⟨7,m.agent,m.try_,0,m.good,⟨0,[]⟩⟩ with
      |error e=>exact Eff.trans (hL.same _) ⟨rfl,rfl,rfl⟩
      |ok z=>exact Eff.trans (hL.lead hu hl) ⟨rfl,rfl,rfl⟩
     ·rename_i hr
      rw[if_neg hr]
      have hr:m.rep=false:=by simpa using hr
      have hu:n.up=true:=by
       cases hu:n.up with
       |true=>rfl
       |false=>exact absurd (.inr ⟨hr,hu⟩) hup
      have hk:((m.agent.toNat:Nat):Int)=m.agent:=by omega
      split at hy
      ·obtain rfl:=Except.ok.inj hy
       have hn':(({ w with m:=left w.m x.num (decide (x.kind=10)) } :Wld).n)[m.agent.toNat]?=some n:=hn
       unfold wReport
       rw[hn']
       exact Eff.trans ((hL.same _).post (by simp only[repMail];omega) rfl) ⟨rfl,rfl,rfl⟩
      ·obtain rfl:=Except.ok.inj hy
       cases hl:wDoes { w with m:=left w.m x.num (decide (x.kind=10)) } m.agent.toNat ⟨1,0,m.try_,0,false,m.rel⟩ with
       |error e=>exact Eff.trans (hL.same _) ⟨rfl,rfl,rfl⟩
       |ok z=>
        have:=(hL.does hn hu hl).1
        rw[hk] at this
        exact Eff.trans this ⟨rfl,rfl,rfl⟩
 ·rename_i hk
  split at hy
  ·rename_i k11
   split at hy
   ·cases hy
   ·obtain rfl:=Except.ok.inj hy
    have hleft:hapLeft w x=left w.m x.num false:=by unfold hapLeft;rw[if_pos (.inr k11)]
    rw[hleft]
    exact Eff.trans (h.less.same _) ⟨rfl,rfl,rfl⟩
  ·rename_i k11
   have hleft:hapLeft w x=w.m:=by unfold hapLeft;rw[if_neg (by omega)]
   rw[hleft]
   split at hy
   ·rename_i hk2
    have hwho:hapWho w x= -1:=by unfold hapWho;rw[if_pos (by omega)]
    rw[hwho]
    split at hy
    ·cases hy
    ·rename_i hu;exact h.lead (by simpa using hu) hy
   ·rename_i hk2
    split at hy
    ·cases hy
    ·rename_i hk3
     split at hy
     ·cases hy
     ·rename_i hwho0
      split at hy
      ·rename_i hk4
       have hwho:hapWho w x= -1:=by unfold hapWho;rw[if_pos (by omega)]
       rw[hwho]
       split at hy
       ·cases hy
       ·rename_i hu
        have hu:w.h.up=true:=by simpa using hu
        unfold wTell at hy
        split at hy
        ·cases hy
        ·rename_i ht
         split at hy
         ·split at hy
          ·cases hy
          ·split at hy
           ·cases hy
           ·obtain rfl:=Except.ok.inj hy
            exact(h.same _).post (by simp only;omega) rfl
         ·split at hy
          ·cases hy
          ·rename_i z hz
           obtain rfl:=Except.ok.inj hy
           exact(h.lead hu hz).post (by simp only;omega) (by obtain⟨he,d,hd,rfl⟩:=wLead_ok hz;rfl)
      ·rename_i hk4
       have hwho:hapWho w x=if x.agent<0 then-1 else x.agent:=by unfold hapWho;rw[if_neg (by omega),if_neg hk]
       split at hy
       ·rename_i hk5
        unfold wPower at hy
        split at hy
        ·rename_i hneg
         rw[hwho,if_pos hneg]
         split at hy
         ·cases hy
         ·rename_i hu
          split at hy
          ·cases hy
          ·split at hy
           ·cases hy
           ·rename_i s hs
            obtain rfl:=Except.ok.inj hy
            exact⟨rfl,⟨h.cfg,h.len,h.mail,h.who,h.head.power hk5 hu hs,h.node⟩,fun e=>by omega,rfl,fun i _=>rfl,.inl rfl⟩
        ·rename_i hneg
         rw[hwho,if_neg hneg]
         have hka:((x.agent.toNat:Nat):Int)=x.agent:=by omega
         split at hy
         ·cases hy
         ·rename_i n hn
          split at hy
          ·cases hy
          ·rename_i hu
           split at hy
           ·cases hy
           ·split at hy
            ·cases hy
            ·rename_i s hs
             obtain rfl:=Except.ok.inj hy
             have:=h.set (k:=x.agent.toNat) ((h.node n (List.mem_of_getElem? hn)).power hk5 hu hs)
             rw[hka] at this
             exact this
       ·rename_i hk5
        rw[hwho,if_neg (by omega)]
        have hka:((x.agent.toNat:Nat):Int)=x.agent:=by omega
        split at hy
        ·cases hy
        ·rename_i n hn
         split at hy
         ·cases hy
         ·rename_i hu
          have hu:n.up=true:=by simpa using hu
          split at hy
          ·unfold wStep at hy
           split at hy
           ·cases hy
           ·split at hy
            ·cases hy
            ·split at hy
             ·have:=(h.does hn hu hy).1
              rw[hka] at this
              exact this
             ·split at hy
              ·cases hy
              ·rename_i z hz
               obtain rfl:=Except.ok.inj hy
               obtain⟨e1,n',e2,e3,e4,e5⟩:=h.does hn hu hz
               rw[hka] at e1
               have hzm:z.m=w.m:=by obtain⟨m0,n0,hm0,hn0,rfl⟩:=wDoes_ok hz;rfl
               unfold wReport
               rw[e2]
               exact e1.post (by simp only[repMail];omega) hzm
          ·split at hy
           ·cases hy
           ·obtain rfl:=Except.ok.inj hy
            unfold wReport
            rw[hn]
            exact(h.same _).post (by simp only[repMail];omega) rfl
open Go Go.Proofs
theorem neqBool{xo yo:Operand}{a b:Bool} :RunsTo Tryz.prog (binRun .neq 4 xo yo (.bool a) (.bool b)) (.bool (a !=b)):=by
 intro w
 have hg:(eqGuard .neq 4 xo yo (.bool a) (.bool b)).run Tryz.prog w= .ok () w:=by simp[eqGuard]
 simp only[binRun,Sem.run_bind,hg,Result.andThen_ok]
 have:=run_equal_bool w 4 a b Tryz.underlying4
 simp[binOp,this]
 cases a<;>cases b<;>rfl
open Go Go.Proofs
open Go.Value renaming int → I, slice → S, bool → B, agg → A, tuple → T, pointer → P, string → Str
open Go.IntKind renaming i64 → Z, wrap → W
open Go.Addr renaming mk → D
open Go.Vg.Bx renaming mk → J
open Go.Vg renaming Next → X, Spec → Y, SpecO → YO
open Go.Vg.Heap renaming cell → C
open Int renaming toNat → N
theorem vc67(a ga:O)(l c gl gc:Nat)(at_ tr gid:Int)(go gd:Bool)(base:Nat)(H:Heap)(K:KT):
 (fV TryzMutsJ Tryz.f233 base H [.v (A #[S a l c,I Z at_,I Z tr,B go,I Z gid,S ga gl gc,B gd])] [] K)=(
 ∀b:Nat,(fun w1:LB=>Y Tryz.prog 140 [S a l c] H fun d e=>∃g,d=I Z g/\(X base H e->(¬g=0->K (I Z g) [] e)/\(¬¬g=0->∃h:Prop,((at_<1->w1=w1/\SubH e e/\h)/\(¬at_<1->(6<at_->w1=w1/\SubH e e/\h)/\(¬6<at_->(tr<0->w1=w1/\SubH e e/\h)/\(¬tr<0->w1=w1/\SubH e e/\(h↔200<tr)))))/\(h->K (I Z 3) [] e)/\(¬h->(go=true->∃i:Prop,((tr=0->w1=w1/\SubH e e/\i)/\(¬tr=0->w1=w1/\SubH e e/\(i↔gd=true)))/\(i->K (I Z 4) [] e)/\(¬i->Y Tryz.prog 167 [A #[I Z gid,S ga gl gc]] e fun j k=>∃m,j=I Z m/\(X base e k->K (I Z m) [] k)))/\(go=false->∃i:Prop,((¬gid=0->w1=w1/\SubH e e/\i)/\(¬¬gid=0->w1=w1/\SubH e e/\(i↔0<(gl:Int))))/\(i->K (I Z 4) [] e)/\(¬i->K (I Z 0) [] e)))))) [J b false 46 [S a l c,I Z at_,I Z tr,B go,I Z gid,S ga gl gc,B gd]]):=by kernel_rfl
theorem vc73(a ga:O)(l c gl gc:Nat)(at_ tr gid:Int)(go gd:Bool)(base:Nat)(H:Heap)(K:KT):
 (fV TryzMutsJ Tryz.f161 base H [.v (A #[S a l c,I Z at_,I Z tr,B go,I Z gid,S ga gl gc,B gd])] [] K)=(
 ∀b:Nat,(fun w1:LB=>Y Tryz.prog 159 [S a l c] H fun d e=>∃g,d=I Z g/\(X base H e->(¬g=0->K (I Z g) [] e)/\(¬¬g=0->∃h:Prop,(Y Tryz.prog 92 [I Z at_,I Z 1,I Z 6] e fun i j=>∃k,i=B k/\(X base e j->(k=false->w1=w1/\SubH e j/\h)/\(¬k=false->Y Tryz.prog 92 [I Z tr,I Z 0,I Z 200] j fun m n=>∃o,m=B o/\(X base j n->w1=w1/\SubH e n/\(h↔o=false)))))/\(h->K (I Z 3) [] e)/\(¬h->(go=false->∃i:Prop,((¬gid=0->w1=w1/\SubH e e/\i)/\(¬¬gid=0->w1=w1/\SubH e e/\(i↔¬(gl:Int)=0)))/\(i->K (I Z 4) [] e)/\(¬i->K (I Z 0) [] e))/\(¬go=false->∃i:Prop,((gd=true->w1=w1/\SubH e e/\i)/\(gd=false->w1=w1/\SubH e e/\(i↔tr<1)))/\(i->K (I Z 4) [] e)/\(¬i->Y Tryz.prog 84 [A #[I Z gid,S ga gl gc]] e fun j k=>∃m,j=I Z m/\(X base e k->K (I Z m) [] k))))))) [J b false 46 [S a l c,I Z at_,I Z tr,B go,I Z gid,S ga gl gc,B gd]]):=by kernel_rfl
theorem vc125(a ga:O)(l c gl gc:Nat)(at_ tr gid:Int)(go gd:Bool)(base:Nat)(H:Heap)(K:KT):
 (fV TryzMutsJ Tryz.f173 base H [.v (A #[S a l c,I Z at_,I Z tr,B go,I Z gid,S ga gl gc,B gd])] [] K)=(
 ∀b d:Nat,Y Tryz.prog 163 [S a l c] H fun e g=>∃h i j,e=S h i j/\(X base H g->Y Tryz.prog 163 [S ga gl gc] g fun k m=>∃n o p,k=S n o p/\(X base g m->K (A #[S h i j,I Z at_,I Z tr,B go,I Z gid,S n o p,B gd]) [] m))):=by kernel_rfl
theorem vc70(a ga:O)(l c gl gc:Nat)(at_ tr gid:Int)(go gd:Bool)(base:Nat)(H:Heap)(K:KT):
 (fV TryzMutsJ Tryz.f203 base H [.v (A #[S a l c,I Z at_,I Z tr,B go,I Z gid,S ga gl gc,B gd])] [] K)=(
 ∀b:Nat,Y Tryz.prog 233 [A #[S a l c,I Z at_,I Z tr,B go,I Z gid,S ga gl gc,B gd]] H fun d e=>∃g,d=I Z g/\(X base H e->(¬g=0->K (T #[S none 0 0,I Z g]) [] e)/\(¬¬g=0->(go=false->K (T #[S none 0 0,I Z 0]) [] e)/\(¬go=false->Y Tryz.prog 57 [S a l c,S ga gl gc] e fun h i=>∃j k m n,h=T #[S j k m,I Z n]/\(X base e i->K (T #[S j k m,I Z n]) [] i))))):=by kernel_rfl
theorem vc71(id:Int)(a:O)(l c:Nat)(base:Nat)(H:Heap)(K:KT):
 (fV TryzMutsJ Tryz.f89 base H [.v (A #[I Z id,S a l c])] [] K)=(
 ∀b d:Nat,Y Tryz.prog 167 [A #[I Z id,S a l c]] H fun e g=>∃h,e=I Z h/\(X base H g->(¬h=0->K (T #[A #[S none 0 0,I Z 0,I Z 0,B false,I Z 0,S none 0 0,B false],I Z h]) [] g)/\(¬¬h=0->Y Tryz.prog 163 [S a l c] g fun i j=>∃k m n,i=S k m n/\(X base g j->K (T #[A #[S k m n,I Z id,I Z 0,B false,I Z 0,S none 0 0,B true],I Z 0]) [] j)))):=by kernel_rfl
theorem vc75(a ga a' ga':O)(l c gl gc l' c' gl' gc':Nat)(at_ tr gid at_' tr' gid':Int)(go gd go' gd':Bool)(base:Nat)(H:Heap)(K:KT):
 (fV TryzMutsJ Tryz.f38 base H [.v (A #[S a l c,I Z at_,I Z tr,B go,I Z gid,S ga gl gc,B gd]),.v (A #[S a' l' c',I Z at_',I Z tr',B go',I Z gid',S ga' gl' gc',B gd'])] [] K)=(
 ∀b d:Nat,(fun w1:LB=>∃e:Prop,(Y Tryz.prog 47 [S a l c,S a' l' c'] H fun g h=>∃i,g=B i/\(X base H h->(i=true->(at_=at_'->(tr=tr'->∃j,RunsTo Tryz.prog (binRun BinOp.eql 4 (Operand.tmp 26) (Operand.tmp 28) (B go) (B go')) (B j)/\(j=true->∃k,RunsTo Tryz.prog (binRun BinOp.eql 4 (Operand.tmp 33) (Operand.tmp 35) (B gd) (B gd')) (B k)/\(k=true->Y Tryz.prog 56 [A #[I Z gid,S ga gl gc],A #[I Z gid',S ga' gl' gc']] h fun m n=>∃o,m=B o/\(X base h n->w1=w1/\SubH H n/\(e↔o=true)))/\(¬k=true->w1=w1/\SubH H h/\¬e))/\(¬j=true->w1=w1/\SubH H h/\¬e))/\(¬tr=tr'->w1=w1/\SubH H h/\¬e))/\(¬at_=at_'->w1=w1/\SubH H h/\¬e))/\(i=false->w1=w1/\SubH H h/\¬e)))/\K (B (@decide e (Classical.propDecidable e))) [] H) [J b false 46 [S a l c,I Z at_,I Z tr,B go,I Z gid,S ga gl gc,B gd],J d false 46 [S a' l' c',I Z at_',I Z tr',B go',I Z gid',S ga' gl' gc',B gd']]):=by kernel_rfl
theorem vc66(a ga a' ga':O)(l c gl gc l' c' gl' gc':Nat)(at_ tr gid at_' tr' gid':Int)(go gd go' gd':Bool)(base:Nat)(H:Heap)(K:KT):
 (fV TryzMutsJ Tryz.f22 base H [.v (A #[S a l c,I Z at_,I Z tr,B go,I Z gid,S ga gl gc,B gd]),.v (A #[S a' l' c',I Z at_',I Z tr',B go',I Z gid',S ga' gl' gc',B gd'])] [] K)=(
 ∀b d:Nat,(fun w1:LB=>∃e:Prop,(Y Tryz.prog 47 [S a l c,S a' l' c'] H fun g h=>∃i,g=B i/\(X base H h->(i=true->(at_=at_'->(tr=tr'->∃j,RunsTo Tryz.prog (binRun BinOp.eql 4 (Operand.tmp 26) (Operand.tmp 28) (B go) (B go')) (B j)/\(j=true->Y Tryz.prog 77 [A #[I Z gid,S ga gl gc],A #[I Z gid',S ga' gl' gc']] h fun k m=>∃n,k=B n/\(X base h m->(n=true->∃o,RunsTo Tryz.prog (binRun BinOp.eql 4 (Operand.tmp 40) (Operand.tmp 42) (B gd) (B gd')) (B o)/\w1=w1/\SubH H m/\(e↔o=true))/\(n=false->w1=w1/\SubH H m/\¬e)))/\(¬j=true->w1=w1/\SubH H h/\¬e))/\(¬tr=tr'->w1=w1/\SubH H h/\¬e))/\(¬at_=at_'->w1=w1/\SubH H h/\¬e))/\(i=false->w1=w1/\SubH H h/\¬e)))/\K (B (@decide e (Classical.propDecidable e))) [] H) [J b false 46 [S a l c,I Z at_,I Z tr,B go,I Z gid,S ga gl gc,B gd],J d false 46 [S a' l' c',I Z at_',I Z tr',B go',I Z gid',S ga' gl' gc',B gd']]):=by kernel_rfl
theorem vc126(e:Int)(base:Nat)(H:Heap)(K:KT):
 (fV TryzMutsJ Tryz.f160 base H [.v (I Z e)] [] K)=(
 ∀a:Nat,K (T #[A #[S none 0 0,I Z 0,I Z 0,B false,I Z 0,S none 0 0,B false],I Z e]) [] H):=by kernel_rfl
theorem vc69(a ga ra:O)(l c gl gc rl rc:Nat)(at_ tr gid kd ag tr' n id:Int)(go gd gd':Bool)(base:Nat)(H:Heap)(K:KT):
 (fV TryzMutsJ Tryz.f145 base H [.v (A #[S a l c,I Z at_,I Z tr,B go,I Z gid,S ga gl gc,B gd]),.v (A #[I Z kd,I Z ag,I Z tr',I Z n,B gd',I Z id,S ra rl rc])] [] K)=(
 (fun w5:LV=>(fun w4:AV=>(fun w3:AV=>∀b d e:Nat,Y Tryz.prog 203 w5 H fun g h=>∃i j k m,g=T #[S i j k,I Z m]/\(X base H h->(¬m=0->K (T #[A #[S none 0 0,I Z 0,I Z 0,B false,I Z 0,S none 0 0,B false],I Z m]) [] h)/\(¬¬m=0->Y Tryz.prog 198 [A #[I Z kd,I Z ag,I Z tr',I Z n,B gd',I Z id,S ra rl rc]] h fun o p=>∃q,o=I Z q/\(X base h p->(¬q=0->K (T #[A #[S none 0 0,I Z 0,I Z 0,B false,I Z 0,S none 0 0,B false],I Z q]) [] p)/\(¬¬q=0->Y Tryz.prog 173 w5 p fun r s=>∃t u v w x y z,(fun w2:AV=>∃a1 b1 c1 d1,(fun w1:LB=>r=A #[S t u v,I Z w,I Z x,B y,I Z z,S a1 b1 c1,B d1]/\(X base p s->(kd=1->(tr'<=x->K (T w3) [] s)/\(¬tr'<=x->Y Tryz.prog 163 [S ra rl rc] s fun e1 f1=>∃g1 h1 i1,e1=S g1 h1 i1/\(X base s f1->K (T #[A #[S t u v,I Z w,I Z tr',B true,I Z id,S g1 h1 i1,B false],I Z 0]) [] f1)))/\(¬kd=1->(kd=2->(kd=2->∃e1:Prop,((y=false->w1=w1/\SubH s s/\e1)/\(¬y=false->(¬tr'=x->w1=w1/\SubH s s/\e1)/\(¬¬tr'=x->∃f1,RunsTo Tryz.prog (binRun BinOp.neq 4 (Operand.tmp 68) (Operand.tmp 71) (B (decide (0<(j:Int)))) (B (decide (kd=2)))) (B f1)/\w1=w1/\SubH s s/\(e1↔f1=true))))/\(e1->K (T w3) [] s)/\(¬e1->(kd=2->∃f1 g1,i=some (D f1 g1 none)/\Int.ofNat 0<=0/\0<(j:Int)/\∃h1 i1 j1:Int,(C s f1 (g1+0*3)=some (I Z h1)/\C s f1 (g1+0*3+1)=some (I Z i1)/\C s f1 (g1+0*3+2)=some (I Z j1)/\True)/\Y Tryz.prog 204 [S t u v,A #[I Z h1,I Z i1,I Z j1]] s fun k1 l1=>∃m1 n1 o1 p1,k1=T #[S m1 n1 o1,I Z p1]/\(X base s l1->K (T #[A #[S m1 n1 o1,I Z w,I Z x,B y,I Z z,S a1 b1 c1,B d1],I Z p1]) [] l1))/\(¬kd=2->K (T w2) [] s/\K (T w2) [] s/\K (T w2) [] s/\K (T w2) [] s)))/\(¬kd=2->K (T w4) [] s))/\(¬kd=2->(kd=3->∃e1:Prop,((y=false->w1=w1/\SubH s s/\e1)/\(¬y=false->(¬tr'=x->w1=w1/\SubH s s/\e1)/\(¬¬tr'=x->∃f1,RunsTo Tryz.prog (binRun BinOp.neq 4 (Operand.tmp 68) (Operand.tmp 71) (B (decide (0<(j:Int)))) (B (decide (kd=2)))) (B f1)/\w1=w1/\SubH s s/\(e1↔f1=true))))/\(e1->K (T w3) [] s)/\(¬e1->(kd=2->∃f1 g1,i=some (D f1 g1 none)/\Int.ofNat 0<=0/\0<(j:Int)/\∃h1 i1 j1:Int,(C s f1
 (g1+0*3)=some (I Z h1)/\C s f1 (g1+0*3+1)=some (I Z i1)/\C s f1 (g1+0*3+2)=some (I Z j1)/\True)/\Y Tryz.prog 204 [S t u v,A #[I Z h1,I Z i1,I Z j1]] s fun k1 l1=>∃m1 n1 o1 p1,k1=T #[S m1 n1 o1,I Z p1]/\(X base s l1->K (T #[A #[S m1 n1 o1,I Z w,I Z x,B y,I Z z,S a1 b1 c1,B d1],I Z p1]) [] l1))/\(¬kd=2->K (T w2) [] s/\K (T w2) [] s/\K (T w2) [] s/\K (T w2) [] s)))/\(¬kd=3->K (T w4) [] s))))) [J b false 46 [S t u v,I Z w,I Z x,B y,I Z z,S a1 b1 c1,B d1],J d false 126 [I Z kd,I Z ag,I Z tr',I Z n,B gd',I Z id,S ra rl rc],J e false 46 [S none 0 0,I Z 0,I Z 0,B false,I Z 0,S none 0 0,B false]]) #[A #[S t u v,I Z z,I Z x,B false,I Z 0,S none 0 0,B gd'],I Z 0]))))) #[A #[S none 0 0,I Z 0,I Z 0,B false,I Z 0,S none 0 0,B false],I Z 7]) #[A #[S none 0 0,I Z 0,I Z 0,B false,I Z 0,S none 0 0,B false],I Z 4]) [A #[S a l c,I Z at_,I Z tr,B go,I Z gid,S ga gl gc,B gd]]):=by kernel_rfl
theorem vc72(a ga ra:O)(l c gl gc rl rc:Nat)(at_ tr gid kd ag tr' n id:Int)(go gd gd':Bool)(base:Nat)(H:Heap)(K:KT):
 (fV TryzMutsJ Tryz.f85 base H [.v (A #[S a l c,I Z at_,I Z tr,B go,I Z gid,S ga gl gc,B gd]),.v (A #[I Z kd,I Z ag,I Z tr',I Z n,B gd',I Z id,S ra rl rc])] [] K)=(
 ∀b d e:Nat,(fun w7:LB=>Y Tryz.prog 161 [A #[S a l c,I Z at_,I Z tr,B go,I Z gid,S ga gl gc,B gd]] H fun g h=>∃i,g=I Z i/\(X base H h->(¬i=0->Y Tryz.prog 160 [I Z i] h fun j k=>∃(m:O)(o p:Nat)(q r:Int)(s:Bool)(t:Int)(u:O)(v w:Nat)(x:Bool)(y:Int),(fun w1:AV=>j=T w1/\(X base h k->K (T w1) [] k)) #[A #[S m o p,I Z q,I Z r,B s,I Z t,S u v w,B x],I Z y])/\(¬¬i=0->Y Tryz.prog 156 [A #[I Z kd,I Z ag,I Z tr',I Z n,B gd',I Z id,S ra rl rc]] h fun j k=>∃m,j=I Z m/\(X base h k->(¬m=0->Y Tryz.prog 160 [I Z m] k fun o p=>∃(q:O)(r s:Nat)(t u:Int)(v:Bool)(w:Int)(x:O)(y z:Nat)(a1:Bool)(b1:Int),(fun w2:AV=>o=T w2/\(X base k p->K (T w2) [] p)) #[A #[S q r s,I Z t,I Z u,B v,I Z w,S x y z,B a1],I Z b1])/\(¬¬m=0->(kd=1->(tr'<=tr->Y Tryz.prog 160 [I Z 7] k fun o p=>∃(q:O)(r s:Nat)(t u:Int)(v:Bool)(w:Int)(x:O)(y z:Nat)(a1:Bool)(b1:Int),(fun w3:AV=>o=T w3/\(X base k p->K (T w3) [] p)) #[A #[S q r s,I Z t,I Z u,B v,I Z w,S x y z,B a1],I Z b1])/\(¬tr'<=tr->K (T #[A #[S a l c,I Z at_,I Z tr',B true,I Z id,S ra rl rc,B false],I Z 0]) [] k))/\(¬kd=1->(3<kd->Y Tryz.prog 160 [I Z 4] k fun o p=>∃(q:O)(r s:Nat)(t u:Int)(v:Bool)(w:Int)(x:O)(y z:Nat)(a1:Bool)(b1:Int),(fun w4:AV=>o=T w4/\(X base k p->K (T w4) [] p)) #[A #[S q r s,I Z t,I Z u,B v,I Z w,S x y z,B a1],I Z b1])/\(¬3<kd->∃o:Prop,((go=false->w7=w7/\SubH k k/\o)/\(¬go=false->w7=w7/\SubH k k/\(o↔¬tr=tr')))/\(o->Y Tryz.prog 160 [I Z 7] k fun p q=>∃(r:O)(s t:Nat)(u v:Int)(w:Bool)(x:Int)(y:O)(z a1:Nat)(b1:Bool)(c1:Int),(fun w5:AV=>p=T w5/\(X base k q->K (T w5) [] q)) #[A #[S r s t,I Z u,I Z v,B w,I Z x,S y z a1,B b1],I Z c1])/\(¬o->Y Tryz.prog 128 [S a l c,S ga gl gc] k fun p q=>∃r s t u,p=T #[S r s t,I Z u]/\(X base k q->∃v:Prop,((kd=2->w7=w7/\SubH q q/\(v↔0<(s:Int)))/\(¬kd=2->w7=w7/\SubH q q/\¬v))/\(v->∃w x,r=some (D w x none)/\Int.ofNat 0<=0/\0<(s:Int)/\∃y z a1:Int,(C q w (x+0*3)=some (I Z y)/\C q w (x+0*3+1)=some (I Z z)/\C q w (x+0*3+2)=some (I Z a1)/\True)/\Y
 Tryz.prog 162 [S a l c,A #[I Z y,I Z z,I Z a1]] q fun b1 c1=>∃d1 e1 f1 g1,b1=T #[S d1 e1 f1,I Z g1]/\(X base q c1->K (T #[A #[S d1 e1 f1,I Z at_,I Z tr,B go,I Z gid,S ga gl gc,B gd],I Z 0]) [] c1))/\(¬v->∃w:Prop,((kd=3->w7=w7/\SubH q q/\(w↔(s:Int)=0))/\(¬kd=3->w7=w7/\SubH q q/\¬w))/\(w->K (T #[A #[S a l c,I Z gid,I Z tr,B false,I Z 0,S none 0 0,B gd'],I Z 0]) [] q)/\(¬w->Y Tryz.prog 160 [I Z 7] q fun x y=>∃(z:O)(a1 b1:Nat)(c1 d1:Int)(e1:Bool)(f1:Int)(g1:O)(h1 i1:Nat)(j1:Bool)(k1:Int),(fun w6:AV=>x=T w6/\(X base q y->K (T w6) [] y)) #[A #[S z a1 b1,I Z c1,I Z d1,B e1,I Z f1,S g1 h1 i1,B j1],I Z k1]))))))))))) [J b false 46 [S a l c,I Z at_,I Z tr,B go,I Z gid,S ga gl gc,B gd],J d false 126 [I Z kd,I Z ag,I Z tr',I Z n,B gd',I Z id,S ra rl rc],J e false 46 [S none 0 0,I Z 0,I Z 0,B false,I Z 0,S none 0 0,B false]]):=by kernel_rfl
theorem vc63(id:Int)(a a':O)(l c l' c':Nat)(base:Nat)(H:Heap)(K:KT):
 (fV TryzMutsJ Tryz.f67 base H [.v (A #[I Z id,S a l c]),.v (S a' l' c')] [] K)=(
 (fun w7:AV=>∀b d:Nat,Y Tryz.prog 89 [A #[I Z id,S a l c]] H fun e g=>∃h i j k m n o p q r s t,e=T #[A #[S h i j,I Z k,I Z m,B n,I Z o,S p q r,B s],I Z t]/\(X base H g->∀u:Nat,(¬t=0->K (T #[A w7,I Z t]) [] g)/\(¬¬t=0->(200<(l':Int)->K (T #[A w7,I Z 2]) [] g)/\(¬200<(l':Int)->∃(v:LI)(w:LM),v [I Z 0,I Z t,I Z 0,A w7,A #[S h i j,I Z k,I Z m,B n,I Z o,S p q r,B s]] g/\∀(x y z:Int)(a1:O)(b1 c1:Nat)(d1 e1:Int)(f1:Bool)(g1:Int)(h1:O)(i1 j1:Nat)(k1:Bool)(l1:O)(m1 n1:Nat)(o1 p1:Int)(q1:Bool)(r1:Int)(s1:O)(t1 u1:Nat)(v1:Bool)(w1:Heap),(fun w6:AV=>(fun w5:AV=>X base H w1->v [I Z x,I Z y,I Z z,A w6,A w5] w1->(z<(l':Int)->∃x1 y1,a'=some (D x1 y1 none)/\0<=z/\z<(l':Int)/\∃(z1 a2 b2 c2:Int)(d2:Bool)(e2:Int)(f2:O)(g2 h2:Nat),(C w1 x1 (y1+N z*7)=some (I Z z1)/\C w1 x1 (y1+N z*7+1)=some (I Z a2)/\C w1 x1 (y1+N z*7+2)=some (I Z b2)/\C w1 x1 (y1+N z*7+3)=some (I Z c2)/\C w1 x1 (y1+N z*7+4)=some (B d2)/\C w1 x1 (y1+N z*7+5)=some (I Z e2)/\C w1 x1 (y1+N z*7+6)=some (S f2 g2 h2)/\True)/\∀i2:Nat,Y Tryz.prog 145 [A w5,A #[I Z z1,I Z a2,I Z b2,I Z c2,B d2,I Z e2,S f2 g2 h2]] w1 fun j2 k2=>∃(l2:O)(m2 n2:Nat)(o2 p2:Int)(q2:Bool)(r2:Int)(s2:O)(t2 u2:Nat)(v2:Bool),(fun w4:AV=>∃w2,j2=T #[A w4,I Z w2]/\(X base w1 k2->(¬w2=0->K (T #[A w7,I Z w2]) [] k2)/\(¬¬w2=0->∀x2:Int,(fun w3:LV=>x2=W Z (z+1)->[[I Z id,S a l c]]=[[I Z id,S a l c]]/\v w3 k2/\w w3<w [I Z x,I Z y,I Z z,A w6,A w5]) [I Z x,I Z w2,I Z x2,A w6,A w4]))) #[S l2 m2 n2,I Z o2,I Z p2,B q2,I Z r2,S s2 t2 u2,B v2])/\(¬z<(l':Int)->K (T #[A w5,I Z 0]) [] w1)) #[S l1 m1 n1,I Z o1,I Z p1,B q1,I Z r1,S s1 t1 u1,B v1]) #[S a1 b1 c1,I Z d1,I Z e1,B f1,I Z g1,S h1 i1 j1,B k1])))) #[S none 0 0,I Z 0,I Z 0,B false,I Z 0,S none 0 0,B false]):=by kernel_rfl
theorem vc64(id:Int)(a a':O)(l c l' c':Nat)(base:Nat)(H:Heap)(K:KT):
 (fV TryzMutsJ Tryz.f25 base H [.v (A #[I Z id,S a l c]),.v (S a' l' c')] [] K)=(
 (fun w5:AV=>∀b d:Nat,Y Tryz.prog 84 [A #[I Z id,S a l c]] H fun e g=>∃h,e=I Z h/\(X base H g->(¬h=0->K (T #[A w5,I Z h]) [] g)/\(¬¬h=0->(200<(l':Int)->K (T #[A w5,I Z 2]) [] g)/\(¬200<(l':Int)->∀i:Nat,∃(j:LI)(k:LM),j [I Z 0,I Z 0,A w5,A #[S a l c,I Z id,I Z 0,B false,I Z 0,S none 0 0,B true]] g/\∀(m n:Int)(o:O)(p q:Nat)(r s:Int)(t:Bool)(u:Int)(v:O)(w x:Nat)(y:Bool)(z:O)(a1 b1:Nat)(c1 d1:Int)(e1:Bool)(f1:Int)(g1:O)(h1 i1:Nat)(j1:Bool)(k1:Heap),(fun w4:AV=>(fun w3:AV=>X base H k1->j [I Z m,I Z n,A w4,A w3] k1->(n<(l':Int)->∃l1 m1,a'=some (D l1 m1 none)/\0<=n/\n<(l':Int)/\∃(n1 o1 p1 q1:Int)(r1:Bool)(s1:Int)(t1:O)(u1 v1:Nat),(C k1 l1 (m1+N n*7)=some (I Z n1)/\C k1 l1 (m1+N n*7+1)=some (I Z o1)/\C k1 l1 (m1+N n*7+2)=some (I Z p1)/\C k1 l1 (m1+N n*7+3)=some (I Z q1)/\C k1 l1 (m1+N n*7+4)=some (B r1)/\C k1 l1 (m1+N n*7+5)=some (I Z s1)/\C k1 l1 (m1+N n*7+6)=some (S t1 u1 v1)/\True)/\∀w1:Nat,Y Tryz.prog 85 [A w3,A #[I Z n1,I Z o1,I Z p1,I Z q1,B r1,I Z s1,S t1 u1 v1]] k1 fun x1 y1=>∃(z1:O)(a2 b2:Nat)(c2 d2:Int)(e2:Bool)(f2:Int)(g2:O)(h2 i2:Nat)(j2:Bool),(fun w2:AV=>∃k2,x1=T #[A w2,I Z k2]/\(X base k1 y1->∀l2:Nat,(¬k2=0->K (T #[A w5,I Z k2]) [] y1)/\(¬¬k2=0->∀m2:Int,(fun w1:LV=>m2=W Z (n+1)->[[I Z id,S a l c]]=[[I Z id,S a l c]]/\j w1 y1/\k w1<k [I Z m,I Z n,A w4,A w3]) [I Z m,I Z m2,A w4,A w2]))) #[S z1 a2 b2,I Z c2,I Z d2,B e2,I Z f2,S g2 h2 i2,B j2])/\(¬n<(l':Int)->K (T #[A w3,I Z 0]) [] k1)) #[S z a1 b1,I Z c1,I Z d1,B e1,I Z f1,S g1 h1 i1,B j1]) #[S o p q,I Z r,I Z s,B t,I Z u,S v w x,B y])))) #[S none 0 0,I Z 0,I Z 0,B false,I Z 0,S none 0 0,B false]):=by kernel_rfl
end Go.Vg
