/- What is proved here: a part of the proof of laws of this seat: what a contract is, how it comes of a condition, contracts of the functions that are reached, the plain laws. -/
import Derived.Test.YtgaegoefbekndaaGreatDoorWK3
import Derived.Laws.Externs
import Derived.Lib.Overlaps
set_option linter.unusedSimpArgs false
set_option linter.unusedVariables false
set_option maxRecDepth 100000
namespace Go.Vg
open Go Go.Proofs
theorem Row.cellsAt{base:Nat}{H:Heap}{e:TypeId}{sz:Nat}{g n c:Nat}{xs:List Value}(h:Row base H e sz (some ⟨g,0,none⟩) n c xs){k:Nat}(hk:k<=xs.length)(hn:0<n):cellsAt H g k 0 (xs.drop k):=by
 obtain⟨b,kb,ha,_,_,hH,_,_,hc⟩:=h.block hn
 obtain rfl:g=b:=by simpa using ha
 refine cellsAt_of _ 0 fun j v hj=> ?_
 rw[List.getElem?_drop] at hj
 unfold Heap.cell
 rw[hH]
 have:=hc _ v hj
 rw[Nat.zero_add];exact this
theorem box_cellsAt{H:Heap}{g:Nat}{e:TypeId}{cs:List Value}(h:H g=some (boxKB e cs)):Vg.cellsAt H g 0 0 cs:=
 cellsAt_of _ 0 fun j v hj=>by unfold Heap.cell;rw[h];simpa[boxKB] using hj
theorem allOne_mem{xs:List Value} :allOne xs=true↔ ∀v∈xs,v.oneCell'=true:=by
 induction xs with
 |nil=>simp[allOne]
 |cons x r ih=>simp[allOne,ih]
theorem allOne_drop{xs:List Value}(h:allOne xs=true)(k:Nat):allOne (xs.drop k)=true:=allOne_mem.2 fun v hv=>allOne_mem.1 h v (List.mem_of_mem_drop hv)
theorem Row.past{base:Nat}{H H':Heap}{e:TypeId}{sz:Nat}{a:O}{n c b o:Nat}{k:KB}{xs vs:List Value}(h:Row base H e sz a n c xs)(ha:a=some ⟨b,0,none⟩)(hc:c≠0)(hk:H b=some k)(ho:xs.length<=o)(hu:Upd H b o k vs H'):Row base H' e sz a n c xs:=by
 obtain⟨h1,h2,h3,h4⟩:=h
 rcases h4 with⟨_,h5⟩|⟨g,k',hg,hbg,hH,h6,h7,h8,h9⟩
 ·exact absurd h5 hc
 ·rw[ha] at hg
  simp only[Option.some.injEq,Addr.mk.injEq,and_true] at hg
  subst hg
  rw[hk] at hH
  obtain rfl:=Option.some.inj hH
  refine⟨h1,h2,h3,.inr ⟨b,_,ha,hbg,hu.here,h6,h7,h8,fun j v hv=> ?_⟩⟩
  have hj:=(List.getElem?_eq_some_iff.1 hv).1
  simp only[updCells]
  rw[if_neg (by omega)]
  exact h9 j v hv
theorem Grew.refl{base:Nat}{H:Heap}{a:O}{c nn:Nat} :Grew base H H a c a c nn:=
 ⟨fun _ _ h _=>h,fun x k h h'=>by(rw[h] at h';cases h'),fun hc _ _=> .inr ⟨rfl,hc⟩,fun _=>⟨rfl,rfl⟩⟩
theorem Grew.upd{base:Nat}{H H' H'':Heap}{a:O}{c nn b o:Nat}{k:KB}{vs:List Value}(h:Grew base H H' a c a c nn)(ha:a=some ⟨b,0,none⟩)(hc:c≠0)(hk:H' b=some k)(hu:Upd H' b o k vs H''):Grew base H H'' a c a c nn:=
 ⟨fun x kx hx hne=>by
  have hb:x≠b:=fun e=>by
   subst e
   rcases hne with hne|hne
   ·exact hc hne
   ·exact hne ha
  rw[hu.there x hb];exact h.keep x kx hx hne,fun x kx hx hn=>by
  by_cases e:x=b
  ·subst e;exact h.fresh x k hk hn
  ·rw[hu.there x e] at hx;exact h.fresh x kx hx hn,h.place,h.room⟩
def delF(base sz:Nat)(e:TypeId)(bytes:Nat)(z:List Value)(own:List Bx)(H:Heap)(f:SV->List Bx->Heap->Prop)(a:O)(n c:Nat)(i j:Int):Prop:=
 0<=i/\i<=j/\j<=(↑n:Int)/\(↑n:Int)<=(↑c:Int)/\∀(a':O),(i<(↑n:Int)->a'=Option.map (fun(ad:Addr)=>Addr.add ad (Int.toNat i*sz)) a)->(i=j->f (SV.v (Value.slice a n c)) own H)/\(¬i=j->0<=i/\
 i<=(↑c:Int)/\0<=j/\j<=(↑n:Int)/\n<=c/\∀(a':O),(j<(↑c:Int)->a'=Option.map (fun(ad:Addr)=>Addr.add ad (Int.toNat j*sz)) a)->∃(xs:List Value),∃(cells:List Value),Row base H e sz a (Int.toNat
 i) c xs/\List.length cells=(n-Int.toNat j)*sz/\allOne cells=true/\(n-Int.toNat j=0∨ ∃(b:Nat),∃(o:Nat),a'=some (Addr.mk b o none)/\cellsAt H b o 0 cells)/\(Int.toNat i+(n-Int.toNat j))*bytes<=
 140737488355328/\Int.toNat i+(n-Int.toNat j)<=9223372036854775807/\∀(a':O)(c':Nat)(H':Heap),Grew base H H' a c a' c' (Int.toNat i+(n-Int.toNat j))->Row base H' e sz a' (Int.toNat i+(n-Int.toNat j)) c' (xs++cells)->0<=(↑(Int.toNat
 i+(n-Int.toNat j)):Int)/\(↑(Int.toNat i+(n-Int.toNat j)):Int)<=(↑n:Int)/\(↑n:Int)<=(↑c':Int)/\∀(a'_1:O),((↑(Int.toNat i+(n-Int.toNat j)):Int)<(↑c':Int)->a'_1=Option.map (fun(ad:Addr)
 =>Addr.add ad (Int.toNat (↑(Int.toNat i+(n-Int.toNat j)):Int)*sz)) a')->(Int.toNat (↑n:Int)-Int.toNat (↑(Int.toNat i+(n-Int.toNat j)):Int)=0->f (SV.v (Value.slice a' (Int.toNat i+(n-Int.toNat j)) c')) own H')
 /\(Int.toNat (↑n:Int)-Int.toNat (↑(Int.toNat i+(n-Int.toNat j)):Int)≠0->∃(b:Nat),∃(o:Nat),∃(k:KB),a'_1=some (Addr.mk b o none)/\H' b=some k/\KB.free k=true/\base<=b/\o+(Int.toNat (↑n:Int)-
 Int.toNat (↑(Int.toNat i+(n-Int.toNat j)):Int))*sz<=KB.size k/\∀(H'_1:Heap),Upd H' b o k (List.flatten (List.replicate (Int.toNat (↑n:Int)-Int.toNat (↑(Int.toNat i+(n-Int.toNat j)):Int)) z)) H'_1->f (SV.v (Value.slice a' (Int.toNat i+(n-Int.toNat j)) c')) own H'_1))
def delP(base sz:Nat)(e:TypeId)(own:List Bx)(H:Heap)(f:SV->List Bx->Heap->Prop)(a:O)(n c:Nat)(i j:Int):Prop:=
 ∃(xs:List Value)(k m:Nat),i=(k:Int)/\j=(m:Int)/\k<=m/\m<=n/\n<=1000000/\Row base H e sz a n c xs/\allOne xs=true/\
  ∀H',Grew base H H' a c a c (k+(n-m))->Row base H' e sz a (k+(n-m)) c (xs.take (k*sz)++xs.drop (m*sz))->f (.v (.slice a (k+(n-m)) c)) own H'
theorem del_sum{base sz:Nat}{e:TypeId}{bytes:Nat}(hb:bytes<=100000){z:List Value}{own:List Bx}{H:Heap}{f:SV->List Bx->Heap->Prop}{a:O}{n c:Nat}{i j:Int}(h:delP base sz e own H f a n c i j):delF base sz e bytes z own H f a n c i j:=by
 obtain⟨xs,k,m,rfl,rfl,hkm,hmn,hn6,hR,h1,h⟩:=h
 have hnc:=hR.2.1
 have hxl:=hR.1
 have hmx:=hR.2.2.1
 simp only[maxLen] at hmx
 unfold delF
 simp only[Int.toNat_natCast]
 refine⟨by omega,by omega,by omega,by omega,fun a1 ha1=>⟨fun hkm2=> ?_,fun hne=>⟨by omega,by omega,by omega,by omega,by omega,fun a2 ha2=> ?_⟩⟩⟩
 ·obtain rfl:k=m:=by omega
  have:=h H Grew.refl (by rw[List.take_append_drop,show k+(n-k)=n from by omega];exact hR)
  rw[show k+(n-k)=n from by omega] at this
  exact this
 have hn0:0<n:=by omega
 obtain⟨b,kb,ha,hbase,hc0,hHb,hfree,hsz,hcl⟩:=hR.block hn0
 subst ha
 have hms:m*sz<=n*sz:=Nat.mul_le_mul_right _ hmn
 have hby:(k+(n-m))*bytes<=1000000*100000:=Nat.mul_le_mul (by omega) hb
 refine⟨xs.take (k*sz),xs.drop (m*sz),hR.short (by omega),by rw[List.length_drop,hxl,Nat.sub_mul],allOne_drop h1 _,?_,by omega,by omega,fun a3 c3 H3 hG hR3=> ?_⟩
 ·by_cases hz:n-m=0
  ·exact .inl hz
  ·refine .inr ⟨b,m*sz,?_,hR.cellsAt (by omega) hn0⟩
   rw[ha2 (by omega)];simp[addr_add]
 ·obtain⟨rfl,rfl⟩:=hG.room (by omega)
  have hlt:k+(n-m)<n:=by omega
  refine⟨by omega,by omega,by omega,fun a4 ha4=>⟨fun hz=>by omega,fun _=> ?_⟩⟩
  have hR3b:=hR3.2.2.2
  rcases hR3b with⟨_,h0⟩|⟨g,kg,hg,hgb,hHg,_,hgs,hgf,_⟩
  ·exact absurd h0 hc0
  obtain rfl:b=g:=by simpa using hg
  refine⟨b,(k+(n-m))*sz,kg,?_,hHg,hgf,hbase,?_,fun H4 hu=> ?_⟩
  ·rw[ha4 (by omega)];simp[addr_add]
  ·rw[hgs,←Nat.add_mul];exact Nat.mul_le_mul_right _ (by omega)
  ·exact h H4 (hG.upd rfl hc0 hHg hu) (hR3.past rfl hc0 hHg (by rw[hR3.1];exact Nat.le_refl _) hu)
def insP(base:Nat)(own:List Bx)(H:Heap)(f:SV->List Bx->Heap->Prop)(a:O)(n c:Nat)(i:Int)(g:Nat):Prop:=
 ∃(xs cells:List Value)(k:Nat),i=(k:Int)/\k<=n/\n<=1000000/\Row base H 91 2 a n c xs/\allOne xs=true/\cells.length=2/\allOne cells=true/\H g=some (boxKB 91 cells)/\(c≠0->a≠some ⟨g,0,none⟩)/\
  ∀a' c' H',Grew base H H' a c a' c' (n+1)->Row base H' 91 2 a' (n+1) c' (xs.take (k*2)++cells++xs.drop (k*2))->f (.v (.slice a' (n+1) c')) own H'
theorem overlaps_apart{H:Heap}{g b o lb cb:Nat}{k kg:KB}(hg:H g=some kg)(hgf:kg.free=true)(hb:H b=some k)(hks:k.size≠0)(hne:g≠b):
  ExtRuns Tryz.prog H 258 [.slice (some ⟨g,0,none⟩) 1 1,.slice (some ⟨b,o,none⟩) lb cb] (.bool false):=fun w hw=>by
 obtain⟨cg,frg,hcg,hsg,hfg,_⟩:=hw g _ hg
 obtain rfl:=hfg hgf
 obtain⟨cb',frb,hcb,hsb,_,_⟩:=hw b _ hb
 have h48:∀w,(Go.sizeOf 91).run Tryz.prog w= .ok 2 w:=fun w=>by have z:= Tryz.sizeOf91;exact z w
 rw[run_callFunc_extern Tryz.func258 (by kernel_rfl) (by kernel_rfl) (by kernel_rfl) (e:=Extern.SlicesOverlaps.overlaps #[22,22] #[4]) (by kernel_rfl)]
 rw[Lib.run_overlaps_apart w 22 4 91 Tryz.underlying22 2 h48 ⟨g,0,none⟩ ⟨b,o,none⟩ 1 1 lb cb hne kg.ty k.ty cg.size cb'.size (by simp[World.shape?,hcg]) (by simp[World.shape?,hcb]) (by omega) (by simp[World.frozen?,hcg]) (by simp[World.frozen?,hcg])]
 rfl
theorem ins_list{xs cells zs:List Value}{k n:Nat}(hk:k<=n)(hx:xs.length=n*2)(hc:cells.length=2)(hz:zs.length=(n+1-k)*2):
  setRange (setRange (xs.take (k*2)++zs) (k*2) cells) ((k+1)*2) (xs.drop (k*2))=xs.take (k*2)++cells++xs.drop (k*2):=by
 have e1:(xs.take (k*2)).length=k*2:=by rw[List.length_take];omega
 have h1:setRange (xs.take (k*2)++zs) (k*2) cells=xs.take (k*2)++setRange zs 0 cells:=by
  have:=setRange_app (xs:=xs.take (k*2)) (vs:=cells) (ys:=zs) (o:=0) (by omega)
  rw[e1,Nat.add_zero] at this
  exact this
 have h2:setRange zs 0 cells=cells++zs.drop 2:=by
  rw[setRange_eq _ _ _ (by omega)];simp[hc]
 rw[h1,h2,←List.append_assoc]
 have h3:=setRange_app (xs:=xs.take (k*2)++cells) (vs:=xs.drop (k*2)) (ys:=zs.drop 2) (o:=0) (by simp;omega)
 rw[show(xs.take (k*2)++cells).length+0=(k+1)*2 from by simp;omega] at h3
 rw[h3,setRange_whole (by simp;omega)]
theorem ins_sum{base:Nat}{H0:Heap}{own:List Bx}{H:Heap}{f:SV->List Bx->Heap->Prop}{a:O}{n c:Nat}{i:Int}{g:Nat}(h:insP base own H f a n c i g):
  codeI ⟨Tryz.prog,Tryz.f235.ntmps,⟨TryzList,TryzIn2,true⟩,base,H0⟩ Tryz.f235 [.v (.slice a n c),.v (.int .i64 i),.v (.slice (some ⟨g,0,none⟩) 1 1)] own H f:=by
 rw[vcI122]
 obtain⟨xs,cells,k,rfl,hk,hn6,hR,hx1,hcl,hc1,hg,hga,h⟩:=h
 have hnc:=hR.2.1
 have hxl:=hR.1
 have hcm:=hR.2.2.1
 simp only[maxLen] at hcm
 have hgc:=box_cellsAt hg
 simp only[Int.toNat_natCast]
 refine⟨by omega,by omega,hnc,fun a1 _=>⟨fun h=>absurd h (by decide),fun _=>⟨fun hkn=> ?_,fun hkn=> ?_⟩⟩⟩
 ·obtain rfl:k=n:=by omega
  refine⟨xs,cells,hR,by omega,hc1,.inr ⟨g,0,rfl,hgc⟩,by omega,by omega,fun a2 c2 H2 hG hR2=>h a2 c2 H2 hG ?_⟩
  rw[List.take_of_length_le (by omega),List.drop_eq_nil_of_le (by omega),List.append_nil]
  exact hR2
 rintro r rfl
 rw[wrap_in (by omega) (by omega)]
 have hn0:0<n:=by omega
 obtain⟨b,kb,ha,hbase,hc0,hHb,hfree,hsz,hcell⟩:=hR.block hn0
 subst ha
 have hgb:g≠b:=fun e=>hga hc0 (by rw[e])
 refine⟨fun hroom=> ?_,fun hroom=> ?_⟩
 ·refine⟨by omega,by omega,?_⟩
  rintro r rfl
  rw[wrap_in (by omega) (by omega)]
  rintro r rfl
  rw[wrap_in (by omega) (by omega)]
  refine⟨xs.take (k*2),n+1-k,by omega,by omega,by omega,hR.short hk,by omega,by omega,fun g1 c1 H1 hN1 hg1 hR1=> ?_⟩
  have e1:k+(n+1-k)=n+1:=by omega
  rw[e1] at hR1⊢
  have hne1:g1≠g:=fun e=>by rw[e,hg] at hg1;cases hg1
  have hne2:g1≠b:=fun e=>by rw[e,hHb] at hg1;cases hg1
  refine⟨by omega,by omega,hR1.2.1,fun a2 ha2=>⟨fun h=>by omega,fun _=> ?_⟩⟩
  obtain⟨b1,k1,hb1,hbs1,hc10,hH1,hf1,hs1,_⟩:=hR1.block (by omega)
  obtain rfl:g1=b1:=by simpa using hb1
  have hc1n:=hR1.2.1
  refine⟨cells,g,0,g1,k*2,k1,by omega,hc1,rfl,cellsAt_ext hN1.ext hgc,by rw[ha2 (by omega)];simp[addr_add],hH1,hf1,hbs1,by rw[hs1];omega,fun H2 hu2=> ?_⟩
  rintro r rfl
  try rw[wrap_in (by omega) (by omega)]
  have hR2:=hR1.upd rfl hc10 hH1 (o:=k*2) (vs:=cells) (by rw[hR1.1];omega) hu2
  refine⟨by omega,by omega,by omega,fun a3 ha3=>⟨by omega,by omega,hnc,fun a4 ha4=>⟨fun h=>by omega,fun _=> ?_⟩⟩⟩
  have hHb2:H2 b=some kb:=by rw[hu2.there b (fun e=>hne2 e.symm)];exact hN1.ext b kb hHb
  have hRb2:Row base H2 91 2 (some ⟨b,0,none⟩) n c xs:=⟨hxl,hnc,hR.2.2.1,.inr ⟨b,kb,rfl,hbase,hHb2,by
   rcases hR.2.2.2 with⟨h0,_⟩|⟨b',kb',hb',_,hH',hty,_⟩
   ·omega
   ·obtain rfl:b=b':=by simpa using hb'
    rw[hHb] at hH';cases hH';exact hty,hsz,hfree,hcell⟩⟩
  obtain⟨b2,k2,hb2,_,_,hH2,hf2,hs2,_⟩:=hR2.block (by omega)
  obtain rfl:g1=b2:=by simpa using hb2
  refine⟨xs.drop (k*2),b,k*2,g1,(k+1)*2,k2,by rw[List.length_drop];omega,allOne_drop hx1 _,by rw[ha4 (by omega)];simp[addr_add],hRb2.cellsAt (by omega) hn0,by rw[ha3 (by omega)];simp[addr_add];try omega,hH2,hf2,hbs1,by rw[hs2,List.length_drop];omega,fun H3 hu3=> ?_⟩
  have hR3:=hR2.upd rfl hc10 hH2 (o:=(k+1)*2) (vs:=xs.drop (k*2)) (by rw[hR2.1,List.length_drop];omega) hu3
  rw[ins_list hk hxl hcl (by simp)] at hR3
  refine h _ _ H3 ⟨fun x kx hx _=> ?_,fun x kx hx hn=> ?_,fun _ x hx=> ?_,fun h=>by omega⟩ hR3
  ·have hne:x≠g1:=fun e=>by rw[e,hg1] at hx;cases hx
   rw[hu3.there x hne,hu2.there x hne];exact hN1.ext x kx hx
  ·by_cases e:x=g1
   ·subst e;exact hbs1
   ·rw[hu3.there x e,hu2.there x e] at hx;exact hN1.fresh x kx hx hn
  ·obtain rfl:g1=x:=by simpa using hx
   exact .inl hg1
 ·rintro r rfl
  rw[wrap_in (by omega) (by omega)]
  refine⟨by omega,by omega,?_⟩
  rintro r rfl
  rw[show Int.toNat ((n:Int)+1)=n+1 from by omega,show Int.toNat ((k:Int)+1)=k+1 from by omega]
  refine⟨by omega,by omega,by omega,fun a2 ha2=> ?_⟩
  obtain rfl:a2=some ⟨b,(k+1)*2,none⟩:=by rw[ha2 (by omega)];simp[addr_add]
  refine⟨overlaps_apart hg rfl hHb (by omega) hgb,?_⟩
  rintro r rfl
  rw[show Int.toNat ((k:Int)+1)=k+1 from by omega]
  refine⟨by omega,by omega,by omega,fun a3 ha3=>⟨by omega,by omega,by omega,fun a4 ha4=>⟨fun h=>by omega,fun _=> ?_⟩⟩⟩
  have hm:min (n+1-k) (n+1-(k+1))=n-k:=by omega
  refine⟨xs.drop (k*2),b,k*2,b,(k+1)*2,kb,by rw[List.length_drop,hm];omega,allOne_drop hx1 _,by rw[ha4 (by omega)];simp[addr_add],hR.cellsAt (by omega) hn0,by rw[ha3 (by omega)];simp[addr_add],hHb,hfree,hbase,by rw[hsz,List.length_drop];omega,fun H3 hu3=>⟨by omega,by omega,by omega,fun a5 ha5=>⟨fun h=>by omega,fun _=> ?_⟩⟩⟩
  have hm1:min 1 (n+1-k)=1:=by omega
  refine⟨cells,g,0,b,k*2,_,by rw[hm1];omega,hc1,rfl,box_cellsAt (by rw[hu3.there g hgb];exact hg),by rw[ha5 (by omega)];simp[addr_add],hu3.here,hfree,hbase,by show k*2+cells.length<=kb.size;rw[hsz];omega,fun H4 hu4=> ?_⟩
  refine h _ _ H4 (Grew.upd (Grew.upd Grew.refl rfl hc0 hHb hu3) rfl hc0 hu3.here hu4) ⟨by simp;omega,by omega,hR.2.2.1,.inr ⟨b,_,rfl,hbase,hu4.here,?_,hsz,hfree,fun j v hj=> ?_⟩⟩
  ·rcases hR.2.2.2 with⟨h0,_⟩|⟨b',kb',hb',_,hH',hty,_⟩
   ·omega
   ·obtain rfl:b=b':=by simpa using hb'
    rw[hHb] at hH';cases hH';exact hty
  ·simp only[updCells,hcl,List.length_drop,hxl]
   rw[List.append_assoc] at hj
   by_cases c1:j<k*2
   ·rw[List.getElem?_append_left (by simp;omega),List.getElem?_take,if_pos c1] at hj
    rw[if_neg (by omega),if_neg (by omega)]
    exact hcell j v hj
   ·rw[List.getElem?_append_right (by simp;omega),show j-(xs.take (k*2)).length=j-k*2 from by simp;omega] at hj
    by_cases c2:j<(k+1)*2
    ·rw[List.getElem?_append_left (by omega)] at hj
     rw[if_pos (by omega)];exact hj
    ·rw[List.getElem?_append_right (by omega)] at hj
     have hlt:=(List.getElem?_eq_some_iff.1 hj).1
     rw[List.length_drop] at hlt
     rw[if_neg (by omega),if_pos (by omega),show j-(k+1)*2=j-k*2-cells.length from by omega]
     exact hj
open Go Go.Proofs Go.RowKit Go.Shelf
set_option maxHeartbeats 1000000 in
theorem str_run{w:World}{b g cap:Nat}{p:Value}{cur:Array Value}{fz:Nat×Nat}{l:List UInt8}(hbk:w.heap[b]?=some (.cells #[p,.slice (some ⟨g,0,none⟩) l.length cap] 311 (0,0)))(h0:l≠[])
  (hg:w.heap[g]?=some (.cells cur 5 fz)) (hn:l.length<=cap) (hcm:cap<=maxLen) (hcs:cur.size=cap) (hc:∀(j:Nat)(x:UInt8),l[j]?=some x->w.cell? ⟨g,j,none⟩=some (.int .u8 x.toNat)):
  Calls Tryz.prog 285 #[.pointer (some ⟨b,0,none⟩)] w fun e w'=>e= .returned (.string ⟨l.toArray⟩)/\w'=w.drew.freeze ⟨g,0,none⟩ l.length:=by
 have hl0:l.length≠0:=by simpa using h0
 have c1:w.drew.cell? ⟨b,1,none⟩=some (.slice (some ⟨g,0,none⟩) l.length cap):=by
  have:w.drew.heap[b]?=some (.cells #[p,.slice (some ⟨g,0,none⟩) l.length cap] 311 (0,0)):=hbk
  rw[Lib.cell_of_heap this];rfl
 have hSD:(Builtin.unsafeSliceData_ #[33] 333 #[.slice (some ⟨g,0,none⟩) l.length cap]).run Tryz.prog w.drew= .ok (.pointer (some ⟨g,0,none⟩)) w.drew:=
  Lib.run_unsafeSliceData_row _ _ _ _ _ _ (by omega)
 have hUS:(Builtin.unsafeString_ #[333,3] 9 #[.pointer (some ⟨g,0,none⟩),.int .i64 l.length]).run Tryz.prog w.drew= .ok (.string ⟨l.toArray⟩) (w.drew.freeze ⟨g,0,none⟩ l.length):=by
  refine Lib.run_unsafeString_row w.drew 333 3 9 5 Tryz.underlying333 (by kernel_rfl) g cur.size (by have hg':w.drew.heap[g]?=some (.cells cur 5 fz):=hg;simp[World.shape?,hg']) l h0 (by omega) (by unfold maxLen at hcm;omega) ?_
  intro j x hx
  have:=hc j x hx
  simpa[addr_add] using this
 go_enter Tryz.func285,Tryz.ntmps285
 go_wp2
 go_region
 all_goals (go_wp2;go_ret;exact⟨rfl,rfl⟩)
def strP(base:Nat)(own:List Bx)(H:Heap)(f:SV->List Bx->Heap->Prop)(i:Nat):Prop:=
 match own[i]? with
 |some ⟨b,false,ty,[p,.slice a n c]⟩=>ty= 311/\0<n/\
  ∃l:List UInt8,Row base H 5 1 a n c (u8s l)/\∀H',(∀x k,H x=some k->a≠some ⟨x,0,none⟩->H' x=some k)->(∀x k,H' x=some k->H x=some k)->f (.v (.string ⟨l.toArray⟩)) own H'
 |_=>False
noncomputable def TryzSum:InlFn:=fun base H0 g pre own H f=>
 if g= 285 then(match pre with
  | [.loc i 0]=>some (strP base own H f i)
  |_=>none)
 else if g= 235 then(match pre with
  | [.v (.slice a n c),.v (.int .i64 i),.v (.slice (some ⟨g',0,none⟩) 1 1)]=>some (insP base own H f a n c i g')
  |_=>none)
 else if g= 236 then(match pre with
  | [.v (.slice a n c),.v (.int .i64 i),.v (.int .i64 j)]=>some (delP base 2 91 own H f a n c i j)
  |_=>none)
 else if g= 43 then(match pre with
  | [.v (.slice a n c),.v (.int .i64 i),.v (.int .i64 j)]=>some (delP base 6 74 own H f a n c i j)
  |_=>none)
 else TryzIn3 base H0 g pre own H f
theorem freeze_heap(w:World)(g n:Nat){k:Nat}(hk:k≠g):(w.drew.freeze ⟨g,0,none⟩ n).heap[k]?=w.heap[k]?:=by
 unfold World.freeze
 split
 ·rfl
 ·show(w.heap.modify g _)[k]?=_
  rw[Array.getElem?_modify,if_neg (fun e=>hk e.symm)]
theorem freeze_size(w:World)(g n:Nat):(w.drew.freeze ⟨g,0,none⟩ n).heap.size=w.heap.size:=by
 unfold World.freeze
 split
 ·rfl
 ·show(w.heap.modify g _).size=_
  simp
theorem freeze_os(w:World)(g n:Nat):(w.drew.freeze ⟨g,0,none⟩ n).os=w.os/\(w.drew.freeze ⟨g,0,none⟩ n).tape=w.tape/\(w.drew.freeze ⟨g,0,none⟩ n).output=w.output:=by
 unfold World.freeze
 split<;>exact⟨rfl,rfl,rfl⟩
theorem in3_at{g:FuncId}{fn:Func}(hl:lookFn g TryzFs=some fn){pre:List SV}(hn:pre.length<=fn.ntmps){base:Nat}{H0:Heap}{own:List Bx}{H:Heap}{f:SV->List Bx->Heap->Prop} :
  TryzIn3 base H0 g pre own H f=some (codeI ⟨Tryz.prog,fn.ntmps,⟨TryzList,TryzIn2,true⟩,base,H0⟩ fn pre own H f):=by
 unfold TryzIn3 inlOf
 rw[hl]
 dsimp only
 rw[if_pos hn]
theorem Tryzsum(j:Bool):InlOk Tryz.prog ⟨TryzList,TryzSum,j⟩:=by
 have key:∀base H0 g pre own H f p q,TryzIn3 base H0 g pre own H f=some q->(p->q)->TryzList.contains g=true/\(p->∀(C:Cfg)(w0:World)(own0:List Nat)(w:World),C.base=base->C.H0=H0->StW C w0 own0 own H w->(∀s∈pre,SV.wf own.length s)->
   Calls Tryz.prog g (pre.map (SV.val own)).toArray w fun e w'=>∃v own' H',e= .returned v/\f (.v v) own' H'/\OwnExt own own'/\StW C w0 own0 own' H' w'):=fun base H0 g pre own H f p q hq hpq=>by
  obtain⟨h1,h2⟩:= Tryzin3 j base H0 g pre own H f q hq
  exact⟨h1,fun hp=>h2 (hpq hp)⟩
 intro base H0 g pre own H f p hp
 unfold TryzSum at hp
 dsimp only at hp
 split at hp
 ·rename_i e
  subst e
  split at hp
  ·rename_i i
   obtain rfl:=Option.some.inj hp
   refine⟨by show TryzList.contains 285=true;decide,fun h C w0 own0 w hbase hH0 hw hwf=> ?_⟩
   subst hbase hH0
   unfold strP at h
   split at h
   ·rename_i b ty p a n c hx
    obtain⟨rfl,hn,l,hR,hf⟩:=h
    have hbk:w.heap[b]?=some (.cells #[p,.slice a n c] 311 (0,0)):=hw.boxes.ok _ (List.mem_of_getElem? hx)
    obtain⟨h1,h2,h3,h4⟩:=hR
    obtain rfl:l.length=n:=by simpa[u8s] using h1
    rcases h4 with⟨h0,_⟩|⟨g,k,rfl,hgb,hH,hty,hksz,hfree,hcl⟩
    ·omega
    obtain⟨cur,fr,hcu,hsz,_,hcell⟩:=hw.sees g _ hH
    rw[hty] at hcu
    have hbn:boxNo own i=b:=box_no hx
    have hargs:(([SV.loc i 0]:List SV).map (SV.val own)).toArray= #[.pointer (some ⟨b,0,none⟩)]:=by simp[SV.val,hbn]
    rw[hargs]
    refine(str_run hbk (by intro e;subst e;simp at hn) hcu h2 h3 (by rw[hsz,hksz,Nat.mul_one]) (fun j x hj=>hw.sees.cell ?_)).mono fun e w' ⟨he,hw'⟩=> ?_
    ·unfold Heap.cell;rw[hH];exact hcl j _ (by simp[u8s,hj])
    have hbx:∀y∈own,y.b≠g:=fun y hy e=>by
     have:=hw.boxes.hid y hy
     rw[e,hH] at this;cases this
    obtain⟨o1,o2,o3⟩:=freeze_os w g l.length
    refine⟨_,own,fun x=>if x=g then none else H x,he,hf _ (fun x k hk hne=> ?_) (fun x k hk=> ?_),OwnExt.refl _,?_⟩
    ·have:x≠g:=fun e=>hne (by rw[e])
     simp only[if_neg this];exact hk
    ·split at hk
     ·cases hk
     ·exact hk
    ·have hblock:∀k,k≠g->w'.heap[k]?=w.heap[k]?:=fun k hk=>by rw[hw'];exact freeze_heap w g _ hk
     refine⟨fun x k hk=> ?_,⟨fun y hy=>Bx.ok_same (hw.boxes.ok y hy) (hblock _ (hbx y hy)),fun y hy=> ?_,hw.boxes.apart⟩,hw.locs,hw.step (by rw[hw'];exact o1) (by rw[hw'];exact o2) (by rw[hw'];exact o3) (by rw[hw',freeze_size];exact Nat.le_refl _) fun k hk hk'=>hblock k (by omega),⟨fun x k hk=> ?_,fun x k hk hn=> ?_⟩,hw.base,hw.seen0⟩
     ·split at hk
      ·cases hk
      ·rename_i hne
       rw[hblock x hne];exact hw.sees x k hk
     ·split
      ·rfl
      ·exact hw.boxes.hid y hy
     ·have:=hw.h0_lt hk
      rw[if_neg (by omega)]
      exact hw.next.ext x k hk
     ·split at hk
      ·cases hk
      ·exact hw.next.fresh x k hk hn
   ·exact h.elim
  ·cases hp
 ·split at hp
  ·rename_i e
   subst e
   split at hp
   ·obtain rfl:=Option.some.inj hp
    exact key _ _ _ _ _ _ _ _ _ (in3_at (fn:= Tryz.f235) (by rfl) (Nat.le_of_ble_eq_true (by kernel_rfl))) ins_sum
   ·cases hp
  ·split at hp
   ·rename_i e
    subst e
    split at hp
    ·obtain rfl:=Option.some.inj hp
     exact key _ _ _ _ _ _ _ _ _ (in3_at (fn:= Tryz.f236) (by rfl) (Nat.le_of_ble_eq_true (by kernel_rfl))) fun h=>by
      show codeI ⟨Tryz.prog,Tryz.f236.ntmps,⟨TryzList,TryzIn2,true⟩,base,H0⟩ Tryz.f236 _ own H f
      rw[vcI123]
      exact del_sum (bytes:=16) (by omega) h
    ·cases hp
   ·split at hp
    ·rename_i e
     subst e
     split at hp
     ·obtain rfl:=Option.some.inj hp
      exact key _ _ _ _ _ _ _ _ _ (in3_at (fn:= Tryz.f43) (by rfl) (Nat.le_of_ble_eq_true (by kernel_rfl))) fun h=>by
       show codeI ⟨Tryz.prog,Tryz.f43.ntmps,⟨TryzList,TryzIn2,true⟩,base,H0⟩ Tryz.f43 _ own H f
       rw[vcI53]
       exact del_sum (bytes:=56) (by omega) h
     ·cases hp
    ·exact Tryzin3 j base H0 g pre own H f p hp
noncomputable def TryzMutsJ:Muts:=⟨TryzList,TryzSum,true⟩
theorem TryzvcJ{f:FuncId}{fn:Func}(hf: Tryz.prog.funcs[f]?=some fn)(hok:okFn fn=true){args:List Value}(hargs:Nat.ble args.length fn.ntmps=true){H:Heap}(Q:Value->Heap->Prop){sv:List SV}(hsv:args.map SV.v=sv)
  {F:Nat->(Value->List (List Value)->Heap->Prop)->Prop} (hv:∀base K,funV ⟨Tryz.prog,fn.ntmps,TryzMutsJ,base,H⟩ (bodyOf fn) fn.results.toList sv [] K=F base K)
  (h:∀base,(∀b k,H b=some k->b<base)->F base (fun v _ H'=>Q v H')):Spec Tryz.prog f args H Q:=
 spec_of (muts:= TryzMutsJ) (Tryzsum true) hf (body_some hok) rfl Tryzmixed (ops_ok hok) (Nat.le_of_ble_eq_true hargs) fun base hb=>by
  rw[hsv,hv base]
  exact h base hb
theorem cCopyCheck{H:Heap}{b:Nat}{p:O}{v:Value}(hp:p=none∨p=some ⟨b,0,none⟩):SpecO Tryz.prog 298 [.pointer (some ⟨b,0,none⟩)] [⟨b,false,311,[.pointer p,v]⟩] H
  fun r css H'=>r= .tuple #[]/\css=[[.pointer (some ⟨b,0,none⟩),v]]/\H'=H:=fun w hw hb=>by
 have hbk:w.heap[b]?=some (.cells #[.pointer p,v] 311 (0,0)):=hb.ok _ List.mem_cons_self
 have hbn:H b=none:=hb.hid _ List.mem_cons_self
 have hlt:b<w.heap.size:=by
  rcases Nat.lt_or_ge b w.heap.size with h|h
  ·exact h
  ·simp[Array.getElem?_eq_none h] at hbk
 have hX:Builder.X72 Tryz.prog Tryz.lays156_ren:= { sizeBuilder:=by kernel_rfl,liesBuilder:=by kernel_rfl }
 rcases hp with rfl|rfl
 ·refine(Any.Builder_copyCheck_fresh { Tryz.lays156 with } hX b w (by rw[Lib.cell_of_heap hbk];rfl) (by simp[World.shape?,hbk];rfl) (by simp[World.frozen?,hbk])).mono fun e w' ⟨he,hw'⟩=> ?_
  have hblock:∀k,k≠b->w'.heap[k]?=w.heap[k]?:=fun k hk=>by
   rw[hw']
   simp[World.setCell,Array.getElem?_modify,Ne.symm hk]
  have hnew:w'.heap[b]?=some (.cells #[.pointer (some ⟨b,0,none⟩),v] 311 (0,0)):=by
   rw[hw']
   simp[World.setCell,Array.getElem?_modify,hbk]
  have hsz:w'.heap.size=w.heap.size:=by rw[hw'];simp[World.setCell]
  refine⟨_,[[.pointer (some ⟨b,0,none⟩),v]],H,he,rfl,⟨by rw[hw'];rfl,by rw[hw'];rfl,by rw[hw'];rfl,by omega,fun k _ hk=>hblock k (by simpa using hk)⟩,fun x k hx=> ?_,⟨fun y hy=> ?_,fun y hy=> ?_,by simp[setAll]⟩,⟨fun _ _ h=>h,fun x k h h'=>(by rw[h] at h';cases h')⟩,rfl,rfl,rfl⟩
  ·rw[hblock x (fun e=>by rw[e,hbn] at hx;cases hx)];exact hw x k hx
  ·obtain rfl:y=⟨b,false,311,[.pointer (some ⟨b,0,none⟩),v]⟩:=by simpa[setAll,Bx.set] using hy
   exact hnew
  ·obtain rfl:y=⟨b,false,311,[.pointer (some ⟨b,0,none⟩),v]⟩:=by simpa[setAll,Bx.set] using hy
   exact hbn
 ·refine(Any.Builder_copyCheck_used { Tryz.lays156 with } hX b w (by rw[Lib.cell_of_heap hbk];rfl)).mono fun e w' ⟨he,hw'⟩=> ?_
  subst hw'
  exact⟨_,[[.pointer (some ⟨b,0,none⟩),v]],H,he,rfl,BelowX.refl _ _,hw,hb,⟨fun _ _ h=>h,fun x k h h'=>(by rw[h] at h';cases h')⟩,rfl,rfl,rfl⟩
open Go Go.Proofs
def TryzListK:List FuncId:=1000000:: TryzList
theorem contK{g:FuncId}(h: TryzList.contains g=true): TryzListK.contains g=true:=by
 unfold TryzListK
 rw[List.contains_cons,h,Bool.or_true]
theorem TryzsumK(j:Bool):InlOk Tryz.prog ⟨TryzListK,TryzSum,j⟩:=fun base H0 g pre own H f p hp=>by
 obtain⟨h1,h2⟩:= Tryzsum j base H0 g pre own H f p hp
 exact⟨contK h1,h2⟩
noncomputable def TryzMutsK:Muts:=⟨TryzListK,TryzSum,true⟩
theorem TryzvcK{f:FuncId}{fn:Func}(hf: Tryz.prog.funcs[f]?=some fn)(hok:okFn fn=true){args:List Value}(hargs:Nat.ble args.length fn.ntmps=true){H:Heap}(Q:Value->Heap->Prop){sv:List SV}(hsv:args.map SV.v=sv)
  {F:Nat->(Value->List (List Value)->Heap->Prop)->Prop} (hv:∀base K,funV ⟨Tryz.prog,fn.ntmps,TryzMutsK,base,H⟩ (bodyOf fn) fn.results.toList sv [] K=F base K)
  (h:∀base,(∀b k,H b=some k->b<base)->F base (fun v _ H'=>Q v H')):Spec Tryz.prog f args H Q:=
 spec_of (muts:= TryzMutsK) (TryzsumK true) hf (body_some hok) rfl Tryzmixed (ops_ok hok) (Nat.le_of_ble_eq_true hargs) fun base hb=>by
  rw[hsv,hv base]
  exact h base hb
open Go Go.Proofs
def TryzListP:List FuncId:=1000003:: TryzListK
theorem TryzsumP(j:Bool):InlOk Tryz.prog ⟨TryzListP,TryzSum,j⟩:=fun base H0 g pre own H f p hp=>by
 obtain⟨h1,h2⟩:= TryzsumK j base H0 g pre own H f p hp
 refine⟨?_,h2⟩
 have h1: TryzListK.contains g=true:=h1
 show TryzListP.contains g=true
 unfold TryzListP
 rw[List.contains_cons,h1,Bool.or_true]
noncomputable def TryzMutsP:Muts:=⟨TryzListP,TryzSum,true⟩
theorem TryzvcP{f:FuncId}{fn:Func}(hf: Tryz.prog.funcs[f]?=some fn)(hok:okFn fn=true){args:List Value}(hargs:Nat.ble args.length fn.ntmps=true){H:Heap}(Q:Value->Heap->Prop){sv:List SV}(hsv:args.map SV.v=sv)
  {F:Nat->(Value->List (List Value)->Heap->Prop)->Prop} (hv:∀base K,funV ⟨Tryz.prog,fn.ntmps,TryzMutsP,base,H⟩ (bodyOf fn) fn.results.toList sv [] K=F base K)
  (h:∀base,(∀b k,H b=some k->b<base)->F base (fun v _ H'=>Q v H')):Spec Tryz.prog f args H Q:=
 spec_of (muts:= TryzMutsP) (TryzsumP true) hf (body_some hok) rfl Tryzmixed (ops_ok hok) (Nat.le_of_ble_eq_true hargs) fun base hb=>by
  rw[hsv,hv base]
  exact h base hb
open Go Go.Proofs
open Go.Value renaming int → I, slice → S, bool → B, agg → A, tuple → T, pointer → P, string → Str
open Go.IntKind renaming i64 → Z, wrap → W
open Go.Addr renaming mk → D
open Go.Vg.Bx renaming mk → J
open Go.Vg renaming Next → X, Spec → Y, SpecO → YO
open Go.Vg.Heap renaming cell → C
open Int renaming toNat → N
theorem vk8(id bud:Int)(fa ra wa:O)(fl fc rl rc wl wc:Nat)(now goal nx:Int)(back:Bool)(la ka:O)(ll lc kl kc:Nat)(sa ta:O)(sl sc tl tc:Nat)(up:Bool)(na ma:O)(nl nc ml mc:Nat)(hk hg hn:Int)(hgd:Bool)(ha:O)(hl hc:Nat)(base:Nat)(H:Heap)(K:KT):
 (fV TryzMutsP Tryz.f8 base H [.v (A #[I Z id,S fa fl fc,S ra rl rc,S wa wl wc,I Z bud,S la ll lc,I Z now,I Z goal,B back,S ka kl kc,I Z nx,S sa sl sc,S ta tl tc,B up,S na nl nc,S ma ml mc]),.v (A #[I Z hk,I Z hg,I Z hn,B hgd,S ha hl hc])] [] K)=(
 ∀a b:Nat,Y Tryz.prog 27 [A #[I Z id,S fa fl fc,S ra rl rc,S wa wl wc,I Z bud,S la ll lc,I Z now,I Z goal,B back,S ka kl kc,I Z nx,S sa sl sc,S ta tl tc,B up,S na nl nc,S ma ml mc],A #[I Z hk,I Z hg,I Z hn,B hgd,S ha hl hc]] H fun c d=>∃e g h i j k l m n o p q r s t u v w x y z,(fun w12:LV=>∃a1 b1 c1 d1 e1 f1,(fun w11:LV=>∃g1 h1 i1 j1 k1 l1 m1,(fun w10:LL=>∃n1,c=T #[A #[I Z e,S g h i,S j k l,S m n o,I Z p,S q r s,I Z t,I Z u,B v,S w x y,I Z z,S a1 b1 c1,S d1 e1 f1,B g1,S h1 i1 j1,S k1 l1 m1],I Z n1]/\(X base H d->∀o1:Nat,(fun w9:LB=>∃p1:Prop,(Y Tryz.prog 30 [] d fun q1 r1=>∃s1,q1=B s1/\(X base d r1->(s1=false->w9=w9/\SubH d r1/\p1)/\(¬s1=false->w9=w9/\SubH d r1/\(p1↔¬n1=0))))/\(p1->Y Tryz.prog 30 [] d fun q1 r1=>∃s1,q1=B s1/\(X base d r1->K (B s1) [] r1))/\(¬p1->Y Tryz.prog 31 [A #[I Z e,S g h i,S j k l,S m n o,I Z p,S q r s,I Z t,I Z u,B v,S w x y,I Z z,S a1 b1 c1,S d1 e1 f1,B g1,S h1 i1 j1,S k1 l1 m1]] d fun q1 r1=>∃s1,q1=I Z s1/\(X base d r1->(¬s1=0->K (B false) [] r1)/\(¬¬s1=0->∃t1:Prop,((hk=9->w9=w9/\SubH r1 r1/\t1)/\(¬hk=9->(hk=10->w9=w9/\SubH r1 r1/\t1)/\(¬hk=10->w9=w9/\SubH r1 r1/\(t1↔hk=11))))/\∃u1:List Value->Prop,(∃v1:Prop,((hk=1->w9=w9/\SubH r1 r1/\v1)/\(¬hk=1->(hk=2->w9=w9/\SubH r1 r1/\v1)/\(¬hk=2->(hk=3->w9=w9/\SubH r1 r1/\v1)/\(¬hk=3->(hk=4->w9=w9/\SubH r1 r1/\v1)/\(¬hk=4->(hk=5->w9=w9/\SubH r1 r1/\v1)/\(¬hk=5->w9=w9/\SubH r1 r1/\(v1↔hk=6)))))))/\(v1->w9=w9/\SubH r1 r1/\u1 [I Z (-1)])/\(¬v1->∃w1:Prop,((t1->∃x1 y1,ma=some (D x1 y1 none)/\0<=hn/\hn<(ml:Int)/\∃z1,C r1 x1 (y1+N hn*6+2)=some (B z1)/\w9=w9/\SubH r1 r1/\(w1↔z1=true))/\(¬t1->w9=w9/\SubH r1 r1/\¬w1))/\(w1->w9=w9/\SubH r1 r1/\u1 [I Z (-1)])/\(¬w1->(t1->∃x1 y1,ma=some (D x1 y1 none)/\0<=hn/\hn<(ml:Int)/\∃z1,C r1 x1 (y1+N hn*6)=some (I Z z1)/\w9=w9/\SubH r1 r1/\u1 [I Z z1])/\(¬t1->w9=w9/\SubH r1 r1/\u1 [I Z hg]))))/\∀v1:Int,u1 [I Z v1]->∃w1:Prop,((0<=v1->∃x1,RunsTo Tryz.prog (binRun BinOp.neq 4 (Operand.tmp 105) (Operand.tmp 108) (B up) (B g1)) (B x1)/\(x1=true->w9
 =w9/\SubH r1 r1/\w1)/\(¬x1=true->Y Tryz.prog 36 w12 r1 fun y1 z1=>∃a2,y1=B a2/\(X base r1 z1->(a2=false->w9=w9/\SubH r1 z1/\w1)/\(¬a2=false->Y Tryz.prog 37 w11 z1 fun b2 c2=>∃d2,b2=B d2/\(X base z1 c2->w9=w9/\SubH r1 c2/\(w1↔d2=false))))))/\(¬0<=v1->(hk=11->∃x1,RunsTo Tryz.prog (binRun BinOp.neq 4 (Operand.tmp 105) (Operand.tmp 108) (B up) (B g1)) (B x1)/\(x1=true->w9=w9/\SubH r1 r1/\w1)/\(¬x1=true->Y Tryz.prog 36 w12 r1 fun y1 z1=>∃a2,y1=B a2/\(X base r1 z1->(a2=false->w9=w9/\SubH r1 z1/\w1)/\(¬a2=false->Y Tryz.prog 37 w11 z1 fun b2 c2=>∃d2,b2=B d2/\(X base z1 c2->w9=w9/\SubH r1 c2/\(w1↔d2=false))))))/\(¬hk=11->w9=w9/\SubH r1 r1/\¬w1)))/\(w1->K (B false) [] r1)/\(¬w1->∃(x1:NI)(y1:Nat),x1 y1 [B false,I Z 0] r1/\∀(z1:Nat)(a2:Bool)(b2:Int)(c2:Heap),X base H c2->x1 z1 [B a2,I Z b2] c2->(b2<(nl:Int)->∃d2:List Value->Prop,(∃e2 f2,na=some (D e2 f2 none)/\0<=b2/\b2<(nl:Int)/\∃(g2:O)(h2 i2:Nat)(j2 k2:Int)(l2:Bool)(m2:Int)(n2:O)(o2 p2:Nat)(q2:Bool)(r2:O)(s2 t2:Nat)(u2:O)(v2 w2:Nat)(x2:Bool),(fun w5:AV=>(C c2 e2 (f2+N b2*10)=some (S g2 h2 i2)/\C c2 e2 (f2+N b2*10+1)=some (I Z j2)/\C c2 e2 (f2+N b2*10+2)=some (I Z k2)/\C c2 e2 (f2+N b2*10+3)=some (B l2)/\C c2 e2 (f2+N b2*10+4)=some (I Z m2)/\C c2 e2 (f2+N b2*10+5)=some (S n2 o2 p2)/\C c2 e2 (f2+N b2*10+6)=some (B q2)/\C c2 e2 (f2+N b2*10+7)=some (S r2 s2 t2)/\C c2 e2 (f2+N b2*10+8)=some (S u2 v2 w2)/\C c2 e2 (f2+N b2*10+9)=some (B x2)/\True)/\(∃y2 z2,h1=some (D y2 z2 none)/\0<=b2/\b2<(i1:Int)/\(∃(a3:O)(b3 c3:Nat)(d3 e3:Int)(f3:Bool)(g3:Int)(h3:O)(i3 j3:Nat)(k3:Bool)(l3:O)(m3 n3:Nat)(o3:O)(p3 q3:Nat)(r3:Bool),(fun w4:LV=>(C c2 y2 (z2+N b2*10)=some (S a3 b3 c3)/\C c2 y2 (z2+N b2*10+1)=some (I Z d3)/\C c2 y2 (z2+N b2*10+2)=some (I Z e3)/\C c2 y2 (z2+N b2*10+3)=some (B f3)/\C c2 y2 (z2+N b2*10+4)=some (I Z g3)/\C c2 y2 (z2+N b2*10+5)=some (S h3 i3 j3)/\C c2 y2 (z2+N b2*10+6)=
 some (B k3)/\C c2 y2 (z2+N b2*10+7)=some (S l3 m3 n3)/\C c2 y2 (z2+N b2*10+8)=some (S o3 p3 q3)/\C c2 y2 (z2+N b2*10+9)=some (B r3)/\True)/\(∀s3 t3:Nat,w9=w9/\SubH c2 c2/\d2 w4)/\∀s3 t3:Nat,w9=w9/\SubH c2 c2/\d2 w4) [A w5,A #[S a3 b3 c3,I Z d3,I Z e3,B f3,I Z g3,S h3 i3 j3,B k3,S l3 m3 n3,S o3 p3 q3,B r3]])/\(∀a3:Nat,(∃(b3:O)(c3 d3:Nat)(e3 f3:Int)(g3:Bool)(h3:Int)(i3:O)(j3 k3:Nat)(l3:Bool)(m3:O)(n3 o3:Nat)(p3:O)(q3 r3:Nat)(s3:Bool),(C c2 y2 (z2+N b2*10)=some (S b3 c3 d3)/\C c2 y2 (z2+N b2*10+1)=some (I Z e3)/\C c2 y2 (z2+N b2*10+2)=some (I Z f3)/\C c2 y2 (z2+N b2*10+3)=some (B g3)/\C c2 y2 (z2+N b2*10+4)=some (I Z h3)/\C c2 y2 (z2+N b2*10+5)=some (S i3 j3 k3)/\C c2 y2 (z2+N b2*10+6)=some (B l3)/\C c2 y2 (z2+N b2*10+7)=some (S m3 n3 o3)/\C c2 y2 (z2+N b2*10+8)=some (S p3 q3 r3)/\C c2 y2 (z2+N b2*10+9)=some (B s3)/\True)/\∀t3:Nat,w9=w9/\SubH c2 c2/\d2 [A w5,A #[S b3 c3 d3,I Z e3,I Z f3,B g3,I Z h3,S i3 j3 k3,B l3,S m3 n3 o3,S p3 q3 r3,B s3]])/\∀b3:Nat,(∃(c3:O)(d3 e3:Nat)(f3 g3:Int)(h3:Bool)(i3:Int)(j3:O)(k3 l3:Nat)(m3:Bool)(n3:O)(o3 p3:Nat)(q3:O)(r3 s3:Nat)(t3:Bool),(C c2 y2 (z2+N b2*10)=some (S c3 d3 e3)/\C c2 y2 (z2+N b2*10+1)=some (I Z f3)/\C c2 y2 (z2+N b2*10+2)=some (I Z g3)/\C c2 y2 (z2+N b2*10+3)=some (B h3)/\C c2 y2 (z2+N b2*10+4)=some (I Z i3)/\C c2 y2 (z2+N b2*10+5)=some (S j3 k3 l3)/\C c2 y2 (z2+N b2*10+6)=some (B m3)/\C c2 y2 (z2+N b2*10+7)=some (S n3 o3 p3)/\C c2 y2 (z2+N b2*10+8)=some (S q3 r3 s3)/\C c2 y2 (z2+N b2*10+9)=some (B t3)/\True)/\w9=w9/\SubH c2 c2/\d2 [A w5,A #[S c3 d3 e3,I Z f3,I Z g3,B h3,I Z i3,S j3 k3 l3,B m3,S n3 o3 p3,S q3 r3 s3,B t3]])/\∃(c3:O)(d3 e3:Nat)(f3 g3:Int)(h3:Bool)(i3:Int)(j3:O)(k3 l3:Nat)(m3:Bool)(n3:O)(o3 p3:Nat)(q3:O)(r3 s3:Nat)(t3:Bool),(C c2 y2 (z2+N b2*10)=some (S c3 d3 e3)/\C c2 y2 (z2+N b2*10+1)=some (I Z f3)/\C c2 y2
 (z2+N b2*10+2)=some (I Z g3)/\C c2 y2 (z2+N b2*10+3)=some (B h3)/\C c2 y2 (z2+N b2*10+4)=some (I Z i3)/\C c2 y2 (z2+N b2*10+5)=some (S j3 k3 l3)/\C c2 y2 (z2+N b2*10+6)=some (B m3)/\C c2 y2 (z2+N b2*10+7)=some (S n3 o3 p3)/\C c2 y2 (z2+N b2*10+8)=some (S q3 r3 s3)/\C c2 y2 (z2+N b2*10+9)=some (B t3)/\True)/\w9=w9/\SubH c2 c2/\d2 [A w5,A #[S c3 d3 e3,I Z f3,I Z g3,B h3,I Z i3,S j3 k3 l3,B m3,S n3 o3 p3,S q3 r3 s3,B t3]])/\∀a3:Nat,(∃(b3:O)(c3 d3:Nat)(e3 f3:Int)(g3:Bool)(h3:Int)(i3:O)(j3 k3:Nat)(l3:Bool)(m3:O)(n3 o3:Nat)(p3:O)(q3 r3:Nat)(s3:Bool),(C c2 y2 (z2+N b2*10)=some (S b3 c3 d3)/\C c2 y2 (z2+N b2*10+1)=some (I Z e3)/\C c2 y2 (z2+N b2*10+2)=some (I Z f3)/\C c2 y2 (z2+N b2*10+3)=some (B g3)/\C c2 y2 (z2+N b2*10+4)=some (I Z h3)/\C c2 y2 (z2+N b2*10+5)=some (S i3 j3 k3)/\C c2 y2 (z2+N b2*10+6)=some (B l3)/\C c2 y2 (z2+N b2*10+7)=some (S m3 n3 o3)/\C c2 y2 (z2+N b2*10+8)=some (S p3 q3 r3)/\C c2 y2 (z2+N b2*10+9)=some (B s3)/\True)/\∀t3:Nat,w9=w9/\SubH c2 c2/\d2 [A w5,A #[S b3 c3 d3,I Z e3,I Z f3,B g3,I Z h3,S i3 j3 k3,B l3,S m3 n3 o3,S p3 q3 r3,B s3]])/\∀b3:Nat,(∃(c3:O)(d3 e3:Nat)(f3 g3:Int)(h3:Bool)(i3:Int)(j3:O)(k3 l3:Nat)(m3:Bool)(n3:O)(o3 p3:Nat)(q3:O)(r3 s3:Nat)(t3:Bool),(C c2 y2 (z2+N b2*10)=some (S c3 d3 e3)/\C c2 y2 (z2+N b2*10+1)=some (I Z f3)/\C c2 y2 (z2+N b2*10+2)=some (I Z g3)/\C c2 y2 (z2+N b2*10+3)=some (B h3)/\C c2 y2 (z2+N b2*10+4)=some (I Z i3)/\C c2 y2 (z2+N b2*10+5)=some (S j3 k3 l3)/\C c2 y2 (z2+N b2*10+6)=some (B m3)/\C c2 y2 (z2+N b2*10+7)=some (S n3 o3 p3)/\C c2 y2 (z2+N b2*10+8)=some (S q3 r3 s3)/\C c2 y2 (z2+N b2*10+9)=some (B t3)/\True)/\w9=w9/\SubH c2 c2/\d2 [A w5,A #[S c3 d3 e3,I Z f3,I Z g3,B h3,I Z i3,S j3 k3 l3,B m3,S n3 o3 p3,S q3 r3 s3,B t3]])/\∃(c3:O)(d3 e3:Nat)(f3 g3:Int)(h3:Bool)(i3:Int)(j3:O)(k3 l3:Nat)
 (m3:Bool) (n3:O) (o3 p3:Nat) (q3:O) (r3 s3:Nat) (t3:Bool),(C c2 y2 (z2+N b2*10)=some (S c3 d3 e3)/\C c2 y2 (z2+N b2*10+1)=some (I Z f3)/\C c2 y2 (z2+N b2*10+2)=some (I Z g3)/\C c2 y2 (z2+N b2*10+3)=some (B h3)/\C c2 y2 (z2+N b2*10+4)=some (I Z i3)/\C c2 y2 (z2+N b2*10+5)=some (S j3 k3 l3)/\C c2 y2 (z2+N b2*10+6)=some (B m3)/\C c2 y2 (z2+N b2*10+7)=some (S n3 o3 p3)/\C c2 y2 (z2+N b2*10+8)=some (S q3 r3 s3)/\C c2 y2 (z2+N b2*10+9)=some (B t3)/\True)/\w9=w9/\SubH c2 c2/\d2 [A w5,A #[S c3 d3 e3,I Z f3,I Z g3,B h3,I Z i3,S j3 k3 l3,B m3,S n3 o3 p3,S q3 r3 s3,B t3]])/\(∀y2:Nat,(∃z2 a3,h1=some (D z2 a3 none)/\0<=b2/\b2<(i1:Int)/\(∃(b3:O)(c3 d3:Nat)(e3 f3:Int)(g3:Bool)(h3:Int)(i3:O)(j3 k3:Nat)(l3:Bool)(m3:O)(n3 o3:Nat)(p3:O)(q3 r3:Nat)(s3:Bool),(C c2 z2 (a3+N b2*10)=some (S b3 c3 d3)/\C c2 z2 (a3+N b2*10+1)=some (I Z e3)/\C c2 z2 (a3+N b2*10+2)=some (I Z f3)/\C c2 z2 (a3+N b2*10+3)=some (B g3)/\C c2 z2 (a3+N b2*10+4)=some (I Z h3)/\C c2 z2 (a3+N b2*10+5)=some (S i3 j3 k3)/\C c2 z2 (a3+N b2*10+6)=some (B l3)/\C c2 z2 (a3+N b2*10+7)=some (S m3 n3 o3)/\C c2 z2 (a3+N b2*10+8)=some (S p3 q3 r3)/\C c2 z2 (a3+N b2*10+9)=some (B s3)/\True)/\∀t3:Nat,w9=w9/\SubH c2 c2/\d2 [A w5,A #[S b3 c3 d3,I Z e3,I Z f3,B g3,I Z h3,S i3 j3 k3,B l3,S m3 n3 o3,S p3 q3 r3,B s3]])/\∀b3:Nat,(∃(c3:O)(d3 e3:Nat)(f3 g3:Int)(h3:Bool)(i3:Int)(j3:O)(k3 l3:Nat)(m3:Bool)(n3:O)(o3 p3:Nat)(q3:O)(r3 s3:Nat)(t3:Bool),(C c2 z2 (a3+N b2*10)=some (S c3 d3 e3)/\C c2 z2 (a3+N b2*10+1)=some (I Z f3)/\C c2 z2 (a3+N b2*10+2)=some (I Z g3)/\C c2 z2 (a3+N b2*10+3)=some (B h3)/\C c2 z2 (a3+N b2*10+4)=some (I Z i3)/\C c2 z2 (a3+N b2*10+5)=some (S j3 k3 l3)/\C c2 z2 (a3+N b2*10+6)=some (B m3)/\C c2 z2 (a3+N b2*10+7)=some (S n3 o3 p3)/\C c2 z2 (a3+N b2*10+8)=some (S q3 r3 s3)/\C c2 z2 (a3+N b2*10+9)
 =some (B t3)/\True)/\w9=w9/\SubH c2 c2/\d2 [A w5,A #[S c3 d3 e3,I Z f3,I Z g3,B h3,I Z i3,S j3 k3 l3,B m3,S n3 o3 p3,S q3 r3 s3,B t3]])/\∃(c3:O)(d3 e3:Nat)(f3 g3:Int)(h3:Bool)(i3:Int)(j3:O)(k3 l3:Nat)(m3:Bool)(n3:O)(o3 p3:Nat)(q3:O)(r3 s3:Nat)(t3:Bool),(C c2 z2 (a3+N b2*10)=some (S c3 d3 e3)/\C c2 z2 (a3+N b2*10+1)=some (I Z f3)/\C c2 z2 (a3+N b2*10+2)=some (I Z g3)/\C c2 z2 (a3+N b2*10+3)=some (B h3)/\C c2 z2 (a3+N b2*10+4)=some (I Z i3)/\C c2 z2 (a3+N b2*10+5)=some (S j3 k3 l3)/\C c2 z2 (a3+N b2*10+6)=some (B m3)/\C c2 z2 (a3+N b2*10+7)=some (S n3 o3 p3)/\C c2 z2 (a3+N b2*10+8)=some (S q3 r3 s3)/\C c2 z2 (a3+N b2*10+9)=some (B t3)/\True)/\w9=w9/\SubH c2 c2/\d2 [A w5,A #[S c3 d3 e3,I Z f3,I Z g3,B h3,I Z i3,S j3 k3 l3,B m3,S n3 o3 p3,S q3 r3 s3,B t3]])/\∀z2:Nat,(∃a3 b3,h1=some (D a3 b3 none)/\0<=b2/\b2<(i1:Int)/\(∃(c3:O)(d3 e3:Nat)(f3 g3:Int)(h3:Bool)(i3:Int)(j3:O)(k3 l3:Nat)(m3:Bool)(n3:O)(o3 p3:Nat)(q3:O)(r3 s3:Nat)(t3:Bool),(C c2 a3 (b3+N b2*10)=some (S c3 d3 e3)/\C c2 a3 (b3+N b2*10+1)=some (I Z f3)/\C c2 a3 (b3+N b2*10+2)=some (I Z g3)/\C c2 a3 (b3+N b2*10+3)=some (B h3)/\C c2 a3 (b3+N b2*10+4)=some (I Z i3)/\C c2 a3 (b3+N b2*10+5)=some (S j3 k3 l3)/\C c2 a3 (b3+N b2*10+6)=some (B m3)/\C c2 a3 (b3+N b2*10+7)=some (S n3 o3 p3)/\C c2 a3 (b3+N b2*10+8)=some (S q3 r3 s3)/\C c2 a3 (b3+N b2*10+9)=some (B t3)/\True)/\w9=w9/\SubH c2 c2/\d2 [A w5,A #[S c3 d3 e3,I Z f3,I Z g3,B h3,I Z i3,S j3 k3 l3,B m3,S n3 o3 p3,S q3 r3 s3,B t3]])/\∃(c3:O)(d3 e3:Nat)(f3 g3:Int)(h3:Bool)(i3:Int)(j3:O)(k3 l3:Nat)(m3:Bool)(n3:O)(o3 p3:Nat)(q3:O)(r3 s3:Nat)(t3:Bool),(C c2 a3 (b3+N b2*10)=some (S c3 d3 e3)/\C c2 a3 (b3+N b2*10+1)=some (I Z f3)/\C c2 a3 (b3+N b2*10+2)=some (I Z g3)/\C c2 a3 (b3+N b2*10+3)=some (B h3)/\C c2 a3 (b3+N b2*10+4)=some (I Z i3)/\C c2 a3 (b3+N b2*10+5)=
 some (S j3 k3 l3)/\C c2 a3 (b3+N b2*10+6)=some (B m3)/\C c2 a3 (b3+N b2*10+7)=some (S n3 o3 p3)/\C c2 a3 (b3+N b2*10+8)=some (S q3 r3 s3)/\C c2 a3 (b3+N b2*10+9)=some (B t3)/\True)/\w9=w9/\SubH c2 c2/\d2 [A w5,A #[S c3 d3 e3,I Z f3,I Z g3,B h3,I Z i3,S j3 k3 l3,B m3,S n3 o3 p3,S q3 r3 s3,B t3]])/\∃a3 b3,h1=some (D a3 b3 none)/\0<=b2/\b2<(i1:Int)/\∃(c3:O)(d3 e3:Nat)(f3 g3:Int)(h3:Bool)(i3:Int)(j3:O)(k3 l3:Nat)(m3:Bool)(n3:O)(o3 p3:Nat)(q3:O)(r3 s3:Nat)(t3:Bool),(C c2 a3 (b3+N b2*10)=some (S c3 d3 e3)/\C c2 a3 (b3+N b2*10+1)=some (I Z f3)/\C c2 a3 (b3+N b2*10+2)=some (I Z g3)/\C c2 a3 (b3+N b2*10+3)=some (B h3)/\C c2 a3 (b3+N b2*10+4)=some (I Z i3)/\C c2 a3 (b3+N b2*10+5)=some (S j3 k3 l3)/\C c2 a3 (b3+N b2*10+6)=some (B m3)/\C c2 a3 (b3+N b2*10+7)=some (S n3 o3 p3)/\C c2 a3 (b3+N b2*10+8)=some (S q3 r3 s3)/\C c2 a3 (b3+N b2*10+9)=some (B t3)/\True)/\w9=w9/\SubH c2 c2/\d2 [A w5,A #[S c3 d3 e3,I Z f3,I Z g3,B h3,I Z i3,S j3 k3 l3,B m3,S n3 o3 p3,S q3 r3 s3,B t3]])/\∀y2:Nat,(∃z2 a3,h1=some (D z2 a3 none)/\0<=b2/\b2<(i1:Int)/\(∃(b3:O)(c3 d3:Nat)(e3 f3:Int)(g3:Bool)(h3:Int)(i3:O)(j3 k3:Nat)(l3:Bool)(m3:O)(n3 o3:Nat)(p3:O)(q3 r3:Nat)(s3:Bool),(C c2 z2 (a3+N b2*10)=some (S b3 c3 d3)/\C c2 z2 (a3+N b2*10+1)=some (I Z e3)/\C c2 z2 (a3+N b2*10+2)=some (I Z f3)/\C c2 z2 (a3+N b2*10+3)=some (B g3)/\C c2 z2 (a3+N b2*10+4)=some (I Z h3)/\C c2 z2 (a3+N b2*10+5)=some (S i3 j3 k3)/\C c2 z2 (a3+N b2*10+6)=some (B l3)/\C c2 z2 (a3+N b2*10+7)=some (S m3 n3 o3)/\C c2 z2 (a3+N b2*10+8)=some (S p3 q3 r3)/\C c2 z2 (a3+N b2*10+9)=some (B s3)/\True)/\∀t3:Nat,w9=w9/\SubH c2 c2/\d2 [A w5,A #[S b3 c3 d3,I Z e3,I Z f3,B g3,I Z h3,S i3 j3 k3,B l3,S m3 n3 o3,S p3 q3 r3,B s3]])/\∀b3:Nat,(∃(c3:O)(d3 e3:Nat)(f3 g3:Int)(h3:Bool)(i3:Int)(j3:O)(k3 l3:Nat)(m3:Bool)(n3:O)(o3 p3:Nat)(q3:O)(r3 s3:Nat)
 (t3:Bool),(C c2 z2 (a3+N b2*10)=some (S c3 d3 e3)/\C c2 z2 (a3+N b2*10+1)=some (I Z f3)/\C c2 z2 (a3+N b2*10+2)=some (I Z g3)/\C c2 z2 (a3+N b2*10+3)=some (B h3)/\C c2 z2 (a3+N b2*10+4)=some (I Z i3)/\C c2 z2 (a3+N b2*10+5)=some (S j3 k3 l3)/\C c2 z2 (a3+N b2*10+6)=some (B m3)/\C c2 z2 (a3+N b2*10+7)=some (S n3 o3 p3)/\C c2 z2 (a3+N b2*10+8)=some (S q3 r3 s3)/\C c2 z2 (a3+N b2*10+9)=some (B t3)/\True)/\w9=w9/\SubH c2 c2/\d2 [A w5,A #[S c3 d3 e3,I Z f3,I Z g3,B h3,I Z i3,S j3 k3 l3,B m3,S n3 o3 p3,S q3 r3 s3,B t3]])/\∃(c3:O)(d3 e3:Nat)(f3 g3:Int)(h3:Bool)(i3:Int)(j3:O)(k3 l3:Nat)(m3:Bool)(n3:O)(o3 p3:Nat)(q3:O)(r3 s3:Nat)(t3:Bool),(C c2 z2 (a3+N b2*10)=some (S c3 d3 e3)/\C c2 z2 (a3+N b2*10+1)=some (I Z f3)/\C c2 z2 (a3+N b2*10+2)=some (I Z g3)/\C c2 z2 (a3+N b2*10+3)=some (B h3)/\C c2 z2 (a3+N b2*10+4)=some (I Z i3)/\C c2 z2 (a3+N b2*10+5)=some (S j3 k3 l3)/\C c2 z2 (a3+N b2*10+6)=some (B m3)/\C c2 z2 (a3+N b2*10+7)=some (S n3 o3 p3)/\C c2 z2 (a3+N b2*10+8)=some (S q3 r3 s3)/\C c2 z2 (a3+N b2*10+9)=some (B t3)/\True)/\w9=w9/\SubH c2 c2/\d2 [A w5,A #[S c3 d3 e3,I Z f3,I Z g3,B h3,I Z i3,S j3 k3 l3,B m3,S n3 o3 p3,S q3 r3 s3,B t3]])/\∀z2:Nat,(∃a3 b3,h1=some (D a3 b3 none)/\0<=b2/\b2<(i1:Int)/\(∃(c3:O)(d3 e3:Nat)(f3 g3:Int)(h3:Bool)(i3:Int)(j3:O)(k3 l3:Nat)(m3:Bool)(n3:O)(o3 p3:Nat)(q3:O)(r3 s3:Nat)(t3:Bool),(C c2 a3 (b3+N b2*10)=some (S c3 d3 e3)/\C c2 a3 (b3+N b2*10+1)=some (I Z f3)/\C c2 a3 (b3+N b2*10+2)=some (I Z g3)/\C c2 a3 (b3+N b2*10+3)=some (B h3)/\C c2 a3 (b3+N b2*10+4)=some (I Z i3)/\C c2 a3 (b3+N b2*10+5)=some (S j3 k3 l3)/\C c2 a3 (b3+N b2*10+6)=some (B m3)/\C c2 a3 (b3+N b2*10+7)=some (S n3 o3 p3)/\C c2 a3 (b3+N b2*10+8)=some (S q3 r3 s3)/\C c2 a3 (b3+N b2*10+9)=some (B t3)/\True)/\w9=w9/\SubH c2 c2/\d2 [A w5,A #[S c3 d3 e3,I Z
 f3,I Z g3,B h3,I Z i3,S j3 k3 l3,B m3,S n3 o3 p3,S q3 r3 s3,B t3]])/\∃(c3:O)(d3 e3:Nat)(f3 g3:Int)(h3:Bool)(i3:Int)(j3:O)(k3 l3:Nat)(m3:Bool)(n3:O)(o3 p3:Nat)(q3:O)(r3 s3:Nat)(t3:Bool),(C c2 a3 (b3+N b2*10)=some (S c3 d3 e3)/\C c2 a3 (b3+N b2*10+1)=some (I Z f3)/\C c2 a3 (b3+N b2*10+2)=some (I Z g3)/\C c2 a3 (b3+N b2*10+3)=some (B h3)/\C c2 a3 (b3+N b2*10+4)=some (I Z i3)/\C c2 a3 (b3+N b2*10+5)=some (S j3 k3 l3)/\C c2 a3 (b3+N b2*10+6)=some (B m3)/\C c2 a3 (b3+N b2*10+7)=some (S n3 o3 p3)/\C c2 a3 (b3+N b2*10+8)=some (S q3 r3 s3)/\C c2 a3 (b3+N b2*10+9)=some (B t3)/\True)/\w9=w9/\SubH c2 c2/\d2 [A w5,A #[S c3 d3 e3,I Z f3,I Z g3,B h3,I Z i3,S j3 k3 l3,B m3,S n3 o3 p3,S q3 r3 s3,B t3]])/\∃a3 b3,h1=some (D a3 b3 none)/\0<=b2/\b2<(i1:Int)/\∃(c3:O)(d3 e3:Nat)(f3 g3:Int)(h3:Bool)(i3:Int)(j3:O)(k3 l3:Nat)(m3:Bool)(n3:O)(o3 p3:Nat)(q3:O)(r3 s3:Nat)(t3:Bool),(C c2 a3 (b3+N b2*10)=some (S c3 d3 e3)/\C c2 a3 (b3+N b2*10+1)=some (I Z f3)/\C c2 a3 (b3+N b2*10+2)=some (I Z g3)/\C c2 a3 (b3+N b2*10+3)=some (B h3)/\C c2 a3 (b3+N b2*10+4)=some (I Z i3)/\C c2 a3 (b3+N b2*10+5)=some (S j3 k3 l3)/\C c2 a3 (b3+N b2*10+6)=some (B m3)/\C c2 a3 (b3+N b2*10+7)=some (S n3 o3 p3)/\C c2 a3 (b3+N b2*10+8)=some (S q3 r3 s3)/\C c2 a3 (b3+N b2*10+9)=some (B t3)/\True)/\w9=w9/\SubH c2 c2/\d2 [A w5,A #[S c3 d3 e3,I Z f3,I Z g3,B h3,I Z i3,S j3 k3 l3,B m3,S n3 o3 p3,S q3 r3 s3,B t3]]) #[S g2 h2 i2,I Z j2,I Z k2,B l2,I Z m2,S n2 o2 p2,B q2,S r2 s2 t2,S u2 v2 w2,B x2])/\∀(e2 f2:Nat)(g2:O)(h2 i2:Nat)(j2 k2:Int)(l2:Bool)(m2:Int)(n2:O)(o2 p2:Nat)(q2:Bool)(r2:O)(s2 t2:Nat)(u2:O)(v2 w2:Nat)(x2:Bool)(y2:O)(z2 a3:Nat)(b3 c3:Int)(d3:Bool)(e3:Int)(f3:O)(g3 h3:Nat)(i3:Bool)(j3:O)(k3 l3:Nat)(m3:O)(n3 o3:Nat)(p3:Bool),(fun w8:LV=>(fun w7:LV=>(fun w6:LB=>d2 [A #[S g2 h2 i2,I Z j2,I Z k2,B l2,I Z m2,S n2 o2 p2,B q2,S r2 s2 t2,S u2
 v2 w2,B x2],A #[S y2 z2 a3,I Z b3,I Z c3,B d3,I Z e3,S f3 g3 h3,B i3,S j3 k3 l3,S m3 n3 o3,B p3]]->∃q3:Prop,((¬b2=v1->∃r3,RunsTo Tryz.prog (binRun BinOp.neq 4 (Operand.tmp 155) (Operand.tmp 157) (B x2) (B p3)) (B r3)/\(r3=true->w6=w6/\SubH c2 c2/\q3)/\(¬r3=true->Y Tryz.prog 38 w7 c2 fun s3 t3=>∃u3,s3=B u3/\(X base c2 t3->(u3=false->w6=w6/\SubH c2 t3/\q3)/\(¬u3=false->Y Tryz.prog 37 w8 t3 fun v3 w3=>∃x3,v3=B x3/\(X base t3 w3->w6=w6/\SubH c2 w3/\(q3↔x3=false))))))/\(¬¬b2=v1->(hk=11->∃r3,RunsTo Tryz.prog (binRun BinOp.neq 4 (Operand.tmp 155) (Operand.tmp 157) (B x2) (B p3)) (B r3)/\(r3=true->w6=w6/\SubH c2 c2/\q3)/\(¬r3=true->Y Tryz.prog 38 w7 c2 fun s3 t3=>∃u3,s3=B u3/\(X base c2 t3->(u3=false->w6=w6/\SubH c2 t3/\q3)/\(¬u3=false->Y Tryz.prog 37 w8 t3 fun v3 w3=>∃x3,v3=B x3/\(X base t3 w3->w6=w6/\SubH c2 w3/\(q3↔x3=false))))))/\(¬hk=11->w6=w6/\SubH c2 c2/\¬q3)))/\(q3->K (B false) [] c2)/\(¬q3->∀r3:Int,r3=W Z (b2+1)->w10=w10/\∃s3:Nat,s3<z1/\x1 s3 [B a2,I Z r3] c2)) [J a false 41 [I Z id,S fa fl fc,S ra rl rc,S wa wl wc,I Z bud,S la ll lc,I Z now,I Z goal,B back,S ka kl kc,I Z nx,S sa sl sc,S ta tl tc,B up,S na nl nc,S ma ml mc],J b false 62 [I Z hk,I Z hg,I Z hn,B hgd,S ha hl hc],J o1 false 41 [I Z e,S g h i,S j k l,S m n o,I Z p,S q r s,I Z t,I Z u,B v,S w x y,I Z z,S a1 b1 c1,S d1 e1 f1,B g1,S h1 i1 j1,S k1 l1 m1],J e2 false 58 [S g2 h2 i2,I Z j2,I Z k2,B l2,I Z m2,S n2 o2 p2,B q2,S r2 s2 t2,S u2 v2 w2,B x2],J f2 false 58 [S y2 z2 a3,I Z b3,I Z c3,B d3,I Z e3,S f3 g3 h3,B i3,S j3 k3 l3,S m3 n3 o3,B p3]]) [A #[S g2 h2 i2,I Z j2,I Z k2,B l2,I Z m2,S n2 o2 p2,B q2],A #[S y2 z2 a3,I Z b3,I Z c3,B d3,I Z e3,S f3 g3 h3,B i3]]) [A #[S r2 s2 t2,S u2 v2 w2],A #[S j3 k3 l3,S m3 n3 o3]])/\(¬b2<(nl:Int)->Y Tryz.prog 42 [S ma ml mc] c2 fun d2 e2=>∃f2 g2 h2,d2=S f2 g2 h2/\(X base c2 e2->∃i2:Prop,((t1->w9=w9/\SubH e2 e2/\(i2↔¬hk=10))/\(¬t1->w9=w9/\SubH e2 e2/\¬i2))/\(i2->∀j2:Int,j2=W Z (hn+1)->∃(k2:List Value)(l2 m2:Nat),hn=(l2:Int)/\j2=(m2:Int)/\l2<=m2/\m2<=
 g2/\g2<=1000000/\Row base e2 74 6 f2 g2 h2 k2/\allOne k2=true/\∀n2:Heap,Grew base e2 n2 f2 h2 f2 h2 (l2+(g2-m2))->Row base n2 74 6 f2 (l2+(g2-m2)) h2 (List.take (l2*6) k2++List.drop (m2*6) k2)->∃o2:Prop,(∀p2:Int,p2=W Z ((↑(l2+(g2-m2)):Int)+1)->((l1:Int)<=p2->((↑(l2+(g2-m2)):Int)<=(l1:Int)->0<=(↑(l2+(g2-m2)):Int)/\(↑(l2+(g2-m2)):Int)<=(m1:Int)/\Y Tryz.prog 44 [S k1 (N (↑(l2+(g2-m2)):Int)) m1,S f2 (l2+(g2-m2)) h2] n2 fun q2 r2=>∃s2,q2=B s2/\(X base n2 r2->w9=w9/\SubH n2 r2/\(o2↔s2=true)))/\(¬(↑(l2+(g2-m2)):Int)<=(l1:Int)->w9=w9/\SubH n2 n2/\¬o2))/\(¬(l1:Int)<=p2->w9=w9/\SubH n2 n2/\¬o2))/\K (B (@decide o2 (Classical.propDecidable o2))) [] n2)/\(¬i2->∃j2:Prop,(∀k2:Int,k2=W Z ((g2:Int)+1)->((l1:Int)<=k2->((g2:Int)<=(l1:Int)->0<=(g2:Int)/\(g2:Int)<=(m1:Int)/\Y Tryz.prog 44 [S k1 (N (g2:Int)) m1,S f2 g2 h2] e2 fun l2 m2=>∃n2,l2=B n2/\(X base e2 m2->w9=w9/\SubH e2 m2/\(j2↔n2=true)))/\(¬(g2:Int)<=(l1:Int)->w9=w9/\SubH e2 e2/\¬j2))/\(¬(l1:Int)<=k2->w9=w9/\SubH e2 e2/\¬j2))/\K (B (@decide j2 (Classical.propDecidable j2))) [] e2)))))))) [J a false 41 [I Z id,S fa fl fc,S ra rl rc,S wa wl wc,I Z bud,S la ll lc,I Z now,I Z goal,B back,S ka kl kc,I Z nx,S sa sl sc,S ta tl tc,B up,S na nl nc,S ma ml mc],J b false 62 [I Z hk,I Z hg,I Z hn,B hgd,S ha hl hc],J o1 false 41 [I Z e,S g h i,S j k l,S m n o,I Z p,S q r s,I Z t,I Z u,B v,S w x y,I Z z,S a1 b1 c1,S d1 e1 f1,B g1,S h1 i1 j1,S k1 l1 m1]])) [[I Z id,S fa fl fc,S ra rl rc,S wa wl wc,I Z bud,S la ll lc,I Z now,I Z goal,B back,S ka kl kc,I Z nx,S sa sl sc,S ta tl tc,B up,S na nl nc,S ma ml mc],[I Z hk,I Z hg,I Z hn,B hgd,S ha hl hc],[I Z e,S g h i,S j k l,S m n o,I Z p,S q r s,I Z t,I Z u,B v,S w x y,I Z z,S a1 b1 c1,S d1 e1 f1,B g1,S h1 i1 j1,S k1 l1 m1]]) [A #[S sa sl sc,S ta tl tc],A #[S a1 b1 c1,S d1 e1 f1]]) [A #[S la ll lc,I Z now,I Z goal,B back,S ka kl kc,I Z nx],A #[S q r s,I Z t,I Z u,B v,S w x y,I Z z]]):=by kernel_rfl
open Go Go.Proofs
def TryzListL:List FuncId:=1000002:: TryzListK
theorem TryzsumL(j:Bool):InlOk Tryz.prog ⟨TryzListL,TryzSum,j⟩:=fun base H0 g pre own H f p hp=>by
 obtain⟨h1,h2⟩:= TryzsumK j base H0 g pre own H f p hp
 refine⟨?_,h2⟩
 have h1: TryzListK.contains g=true:=h1
 show TryzListL.contains g=true
 unfold TryzListL
 rw[List.contains_cons,h1,Bool.or_true]
noncomputable def TryzMutsL:Muts:=⟨TryzListL,TryzSum,true⟩
theorem TryzvcL{f:FuncId}{fn:Func}(hf: Tryz.prog.funcs[f]?=some fn)(hok:okFn fn=true){args:List Value}(hargs:Nat.ble args.length fn.ntmps=true){H:Heap}(Q:Value->Heap->Prop){sv:List SV}(hsv:args.map SV.v=sv)
  {F:Nat->(Value->List (List Value)->Heap->Prop)->Prop} (hv:∀base K,funV ⟨Tryz.prog,fn.ntmps,TryzMutsL,base,H⟩ (bodyOf fn) fn.results.toList sv [] K=F base K)
  (h:∀base,(∀b k,H b=some k->b<base)->F base (fun v _ H'=>Q v H')):Spec Tryz.prog f args H Q:=
 spec_of (muts:= TryzMutsL) (TryzsumL true) hf (body_some hok) rfl Tryzmixed (ops_ok hok) (Nat.le_of_ble_eq_true hargs) fun base hb=>by
  rw[hsv,hv base]
  exact h base hb
theorem TryzvcLO{f:FuncId}{fn:Func}(hf: Tryz.prog.funcs[f]?=some fn)(hok:okFn fn=true){own:List Bx}{args:List SV}(hargs:Nat.ble args.length fn.ntmps=true)(hwf:∀s∈args,s.wf own.length){H:Heap}(Q:Value->List (List Value)->Heap->Prop)
  {F:Nat->(Value->List (List Value)->Heap->Prop)->Prop} (hv:∀base K,funV ⟨Tryz.prog,fn.ntmps,TryzMutsL,base,H⟩ (bodyOf fn) fn.results.toList args own K=F base K)
  (h:∀base,(∀b k,H b=some k->b<base)->(∀x∈own,x.b<base)->F base Q):SpecO Tryz.prog f (args.map (SV.val own)) own H Q:=
 specO_of (muts:= TryzMutsL) (TryzsumL true) hf (body_some hok) rfl Tryzmixed (ops_ok hok) (Nat.le_of_ble_eq_true hargs) hwf fun base hb ho=>by
  rw[hv base]
  exact h base hb ho
def hideB(b:Nat)(H:Heap):Heap:=fun x=>if x=b then none else H x
def showB(b:Nat)(k:KB)(H:Heap):Heap:=fun x=>if x=b then some k else H x
theorem Spec.lend{P:Program}{f:FuncId}{args:List Value}{H:Heap}{Q:Value->Heap->Prop}{b:Nat}{ty:TypeId}{cs:List Value}(hb:H b=some (boxKB ty cs))
  (h:SpecO P f args [⟨b,false,ty,cs⟩] (hideB b H) fun v css H'=>css=[cs]/\Q v (showB b (boxKB ty cs) H')):Spec P f args H Q:=fun w hs _=>by
 obtain⟨cur,fr,h1,h2,h3,h4⟩:=hs b _ hb
 obtain rfl:fr=(0,0):=h3 rfl
 have hcur:cur=cs.toArray:=by
  refine Array.ext (by simpa[boxKB] using h2) fun i hi hi'=> ?_
  have hi2:i<cs.length:=by simpa using hi'
  have:=h4 i cs[i] (List.getElem?_eq_getElem hi2)
  rw[Array.getElem?_eq_getElem hi] at this
  simpa using Option.some.inj this
 subst hcur
 have hs':Sees (hideB b H) w:=fun x k hk=>by
  unfold hideB at hk
  split at hk
  ·cases hk
  ·exact hs x k hk
 refine(h w hs' ⟨fun x hx=> ?_,fun x hx=> ?_,by simp⟩).mono fun e w' he=> ?_
 ·simp only[List.mem_singleton] at hx;subst hx;exact h1
 ·simp only[List.mem_singleton] at hx;subst hx;simp[hideB]
 ·obtain⟨v,css,H',rfl,hl,hbel,hse,hbx,hn,rfl,hQ⟩:=he
  have hbb:w'.heap[b]?=some (.cells cs.toArray ty (0,0)):=hbx.ok ⟨b,false,ty,cs⟩ (by simp[setAll,Bx.set])
  refine⟨v,[],showB b (boxKB ty cs) H',rfl,rfl,⟨hbel.os,hbel.tape,hbel.output,hbel.size,fun k hk _=> ?_⟩,fun x k hk=> ?_,⟨by simp[setAll],by simp[setAll],by simp[setAll]⟩,⟨fun x k hk=> ?_,fun x k hk hx=> ?_⟩,hQ⟩
  ·by_cases e:k=b
   ·subst e;rw[hbb];exact h1.symm
   ·exact hbel.block k hk (by simpa using e)
  ·unfold showB at hk
   split at hk
   ·rename_i e;subst e;obtain rfl:=Option.some.inj hk
    exact⟨cs.toArray,(0,0),hbb,by simp[boxKB],fun _=>rfl,fun j v hj=>by simpa[boxKB] using hj⟩
   ·exact hse x k hk
  ·unfold showB
   split
   ·rename_i e;subst e;rw[hb] at hk;exact hk
   ·rename_i e;exact hn.ext x k (by unfold hideB;rw[if_neg e];exact hk)
  ·unfold showB at hk
   split at hk
   ·rename_i e;subst e;rw[hb] at hx;cases hx
   ·rename_i e;exact hn.fresh x k hk (by unfold hideB;rw[if_neg e];exact hx)
open Go Go.Proofs
theorem vk96(b:Nat)(k:Int)(base:Nat)(H:Heap)(K:KT):
 (fV TryzMutsL Tryz.f96 base H [.v (I Z k),.loc 0 0] [⟨b,false,141,[.func (.func 95) #[] #[]]⟩] K)=(
 Y Tryz.prog 95 [I Z 3,I Z k] H fun a c=>∃d e g h i j l,a=A #[I Z d,I Z e,I Z g,B h,S i j l]/\(X base H c->Y Tryz.prog 95 [I Z 9,I Z 0] c fun m n=>∃o p q r s t u,m=A #[I Z o,I Z p,I Z q,B r,S s t u]/\(X base c n->Y Tryz.prog 95 [I Z 7,I Z k] n fun v w=>∃x y z a1 b1 c1 d1,v=A #[I Z x,I Z y,I Z z,B a1,S b1 c1 d1]/\(X base n w->Y Tryz.prog 95 [I Z 7,I Z k] w fun e1 f1=>∃g1 h1 i1 j1 k1 l1 m1,e1=A #[I Z g1,I Z h1,I Z i1,B j1,S k1 l1 m1]/\(X base w f1->Y Tryz.prog 95 [I Z 7,I Z k] f1 fun n1 o1=>∃p1 q1 r1 s1 t1 u1 v1,n1=A #[I Z p1,I Z q1,I Z r1,B s1,S t1 u1 v1]/\(X base f1 o1->Y Tryz.prog 95 [I Z 9,I Z 0] o1 fun w1 x1=>∃y1 z1 a2 b2 c2 d2 e2,w1=A #[I Z y1,I Z z1,I Z a2,B b2,S c2 d2 e2]/\(X base o1 x1->∀(f2:Nat)(g2:Heap),X base x1 g2->x1 f2=none->g2 f2=some (boxKB 62 [I Z d,I Z e,I Z g,B h,S i j l,I Z o,I Z p,I Z q,B r,S s t u,I Z x,I Z y,I Z z,B a1,S b1 c1 d1,I Z g1,I Z h1,I Z i1,B j1,S k1 l1 m1,I Z p1,I Z q1,I Z r1,B s1,S t1 u1 v1,I Z y1,I Z z1,I Z a2,B b2,S c2 d2 e2])->K (S (some (D f2 0 none)) 6 6) [[Value.func (Fn.func 95) #[] #[]]] g2))))))):=by kernel_rfl
theorem vk30(base:Nat)(H:Heap)(K:KT):
 (fV TryzMutsL Tryz.f30 base H [] [] K)=(
 (fun w17:LV=>∀a:Nat,(fun w16:LV=>(fun w15:LV=>(fun w14:LB=>Y Tryz.prog 71 [] H fun b c=>∃d e g h i j k l m n o,b=A #[I Z d,S e g h,S i j k,S l m n,I Z o]/\(X base H c->Y Tryz.prog 26 [A #[I Z d,S e g h,S i j k,S l m n,I Z o]] c fun p q=>∃(r:Int)(s:O)(t u:Nat)(v:O)(w x:Nat)(y:O)(z a1:Nat)(b1:Int)(c1:O)(d1 e1:Nat)(f1 g1:Int)(h1:Bool)(i1:O)(j1 k1:Nat)(l1:Int)(m1:O)(n1 o1:Nat)(p1:O)(q1 r1:Nat)(s1:Bool)(t1:O)(u1 v1:Nat)(w1:O)(x1 y1:Nat),(fun w13:AV=>∃z1,p=T #[A w13,I Z z1]/\(X base c q->∀a2:Nat,Y Tryz.prog 72 [] q fun b2 c2=>∃d2 e2 f2 g2,b2=A #[I Z d2,S e2 f2 g2]/\(X base q c2->Y Tryz.prog 95 [I Z 3,I Z 0] c2 fun h2 i2=>∃j2 k2 l2 m2 n2 o2 p2,(fun w12:LV=>h2=A #[I Z j2,I Z k2,I Z l2,B m2,S n2 o2 p2]/\(X base c2 i2->(∀(q2:Nat)(r2:Heap),X base i2 r2->i2 q2=none->r2 q2=some (boxKB 62 w12)->true=true/\∀s2:Heap,X 0 r2 s2->s2 a=some (boxKB 141 w17)/\True->Y Tryz.prog 96 [I Z 1,P (some (D a 0 none))] s2 fun t2 u2=>∃v2 w2 x2,t2=S v2 w2 x2/\∀y2,X base r2 y2->(∀(z2:Nat)(a3:KB),u2 z2=some a3->(∀b3:Bx,b3∈w14->z2≠Bx.b b3)->y2 z2=some a3)->true=true/\∀z2:Heap,X 0 y2 z2->z2 a=some (boxKB 141 w17)/\True->Y Tryz.prog 96 w16 z2 fun a3 b3=>∃c3 d3 e3,a3=S c3 d3 e3/\∀f3,X base y2 f3->(∀(g3:Nat)(h3:KB),b3 g3=some h3->(∀i3:Bx,i3∈w14->g3≠Bx.b i3)->f3 g3=some h3)->true=true/\∀g3:Heap,X 0 f3 g3->g3 a=some (boxKB 141 w17)/\True->Y Tryz.prog 96 w15 g3 fun h3 i3=>∃j3 k3 l3,h3=S j3 k3 l3/\∀m3,X base f3 m3->(∀(n3:Nat)(o3:KB),i3 n3=some o3->(∀p3:Bx,p3∈w14->n3≠Bx.b p3)->m3 n3=some o3)->Y Tryz.prog 95 [I Z 6,I Z 0] m3 fun n3 o3=>∃p3 q3 r3 s3 t3 u3 v3,n3=A #[I Z p3,I Z q3,I Z r3,B s3,S t3 u3 v3]/\(X base m3 o3->∀(w3:Nat)(x3:Heap),X base o3 x3->o3 w3=none->x3 w3=some (boxKB 62 [I Z p3,I Z q3,I Z r3,B s3,S t3 u3 v3])->∀(y3:Nat)(z3:Heap),X base x3 z3->x3 y3=none->z3 y3=some (boxKB 72 [S (some (D q2 0 none)) 3 3,S v2 w2 x2,S c3 d3 e3,S j3 k3 l3,S (some (D w3 0 none)) 1 1])->Y Tryz.prog 97 [S (some (D y3 0 none)) 5 5] z3 fun a4 b4=>∃c4 d4
 e4,a4=S c4 d4 e4/\(X base z3 b4->Y Tryz.prog 39 [A w13,S c4 d4 e4] b4 fun f4 g4=>∃h4 i4 j4 k4 l4 m4 n4 o4 p4 q4 r4 s4 t4 u4 v4 w4 x4 y4 z4 a5 b5 c5 d5 e5 f5 g5 h5 i5 j5 k5 l5 m5 n5 o5,(fun w6:LB=>∃p5 q5 r5 s5,f4=T #[A #[I Z h4,S i4 j4 k4,S l4 m4 n4,S o4 p4 q4,I Z r4,S s4 t4 u4,I Z v4,I Z w4,B x4,S y4 z4 a5,I Z b5,S c5 d5 e5,S f5 g5 h5,B i5,S j5 k5 l5,S m5 n5 o5],S p5 q5 r5,I Z s5]/\(X base b4 g4->Y Tryz.prog 98 [S p5 q5 r5,Value.func (Fn.func 99) #[] #[]] g4 fun t5 u5=>∃v5,t5=I Z v5/\(X base g4 u5->∃w5:Prop,((z1=0->(s5=0->((q5:Int)=22->(v5=2->∃x5 y5,p5=some (D x5 y5 none)/\Int.ofNat 0<=2/\2<(q5:Int)/\∃z5,C u5 x5 (y5+2*1)=some (I Z z5)/\(z5=7->Int.ofNat 0<=3/\3<=(q5:Int)/\q5<=r5/\∀a6:O,(3<(r5:Int)->a6=Option.map (fun b6=>Addr.add b6 (3*1)) p5)->Y Tryz.prog 73 [S a6 (q5-3) (r5-3),Value.func (Fn.func 100) #[] #[]] u5 fun b6 c6=>∃d6,b6=B d6/\(X base u5 c6->(d6=false->(v4=2->(w4=0->((n5:Int)=0->∃e6 f6,j5=some (D e6 f6 none)/\Int.ofNat 0<=2/\2<(k5:Int)/\∃g6,C c6 e6 (f6+2*10+1)=some (I Z g6)/\w6=w6/\SubH u5 c6/\(w5↔g6=2))/\(¬(n5:Int)=0->w6=w6/\SubH u5 c6/\¬w5))/\(¬w4=0->w6=w6/\SubH u5 c6/\¬w5))/\(¬v4=2->w6=w6/\SubH u5 c6/\¬w5))/\(¬d6=false->w6=w6/\SubH u5 c6/\¬w5)))/\(¬z5=7->w6=w6/\SubH u5 u5/\¬w5))/\(¬v5=2->w6=w6/\SubH u5 u5/\¬w5))/\(¬(q5:Int)=22->w6=w6/\SubH u5 u5/\¬w5))/\(¬s5=0->w6=w6/\SubH u5 u5/\¬w5))/\(¬z1=0->w6=w6/\SubH u5 u5/\¬w5))/\K (B (@decide w5 (Classical.propDecidable w5))) [] u5))) [J a false 141 w17,J a2 false 41 [I Z h4,S i4 j4 k4,S l4 m4 n4,S o4 p4 q4,I Z r4,S s4 t4 u4,I Z v4,I Z w4,B x4,S y4 z4 a5,I Z b5,S c5 d5 e5,S f5 g5 h5,B i5,S j5 k5 l5,S m5 n5 o5]])))/\true=true/\∀q2:Heap,X 0 i2 q2->q2 a=some (boxKB 141 w17)/\True->Y Tryz.prog 96 [I Z 1,P (some (D a 0 none))] q2 fun r2 s2=>∃t2 u2 v2,r2=S t2 u2 v2/\∀w2,X base i2 w2->(∀(x2:Nat)(y2:KB),s2 x2=some y2->(∀z2:Bx,z2∈w14->x2≠Bx.b z2)->w2 x2=some y2)->(∀(x2:Nat)(y2:Heap),X base w2 y2->w2 x2=none->y2 x2=some (boxKB 62 w12)->true=true/\∀z2:Heap,X 0 y2
 z2->z2 a=some (boxKB 141 w17)/\True->Y Tryz.prog 96 w16 z2 fun a3 b3=>∃c3 d3 e3,a3=S c3 d3 e3/\∀f3,X base y2 f3->(∀(g3:Nat)(h3:KB),b3 g3=some h3->(∀i3:Bx,i3∈w14->g3≠Bx.b i3)->f3 g3=some h3)->true=true/\∀g3:Heap,X 0 f3 g3->g3 a=some (boxKB 141 w17)/\True->Y Tryz.prog 96 w15 g3 fun h3 i3=>∃j3 k3 l3,h3=S j3 k3 l3/\∀m3,X base f3 m3->(∀(n3:Nat)(o3:KB),i3 n3=some o3->(∀p3:Bx,p3∈w14->n3≠Bx.b p3)->m3 n3=some o3)->Y Tryz.prog 95 [I Z 6,I Z 0] m3 fun n3 o3=>∃p3 q3 r3 s3 t3 u3 v3,n3=A #[I Z p3,I Z q3,I Z r3,B s3,S t3 u3 v3]/\(X base m3 o3->∀(w3:Nat)(x3:Heap),X base o3 x3->o3 w3=none->x3 w3=some (boxKB 62 [I Z p3,I Z q3,I Z r3,B s3,S t3 u3 v3])->∀(y3:Nat)(z3:Heap),X base x3 z3->x3 y3=none->z3 y3=some (boxKB 72 [S (some (D x2 0 none)) 3 3,S t2 u2 v2,S c3 d3 e3,S j3 k3 l3,S (some (D w3 0 none)) 1 1])->Y Tryz.prog 97 [S (some (D y3 0 none)) 5 5] z3 fun a4 b4=>∃c4 d4 e4,a4=S c4 d4 e4/\(X base z3 b4->Y Tryz.prog 39 [A w13,S c4 d4 e4] b4 fun f4 g4=>∃h4 i4 j4 k4 l4 m4 n4 o4 p4 q4 r4 s4 t4 u4 v4 w4 x4 y4 z4 a5 b5 c5 d5 e5 f5 g5 h5 i5 j5 k5 l5 m5 n5 o5,(fun w7:LB=>∃p5 q5 r5 s5,f4=T #[A #[I Z h4,S i4 j4 k4,S l4 m4 n4,S o4 p4 q4,I Z r4,S s4 t4 u4,I Z v4,I Z w4,B x4,S y4 z4 a5,I Z b5,S c5 d5 e5,S f5 g5 h5,B i5,S j5 k5 l5,S m5 n5 o5],S p5 q5 r5,I Z s5]/\(X base b4 g4->Y Tryz.prog 98 [S p5 q5 r5,Value.func (Fn.func 99) #[] #[]] g4 fun t5 u5=>∃v5,t5=I Z v5/\(X base g4 u5->∃w5:Prop,((z1=0->(s5=0->((q5:Int)=22->(v5=2->∃x5 y5,p5=some (D x5 y5 none)/\Int.ofNat 0<=2/\2<(q5:Int)/\∃z5,C u5 x5 (y5+2*1)=some (I Z z5)/\(z5=7->Int.ofNat 0<=3/\3<=(q5:Int)/\q5<=r5/\∀a6:O,(3<(r5:Int)->a6=Option.map (fun b6=>Addr.add b6 (3*1)) p5)->Y Tryz.prog 73 [S a6 (q5-3) (r5-3),Value.func (Fn.func 100) #[] #[]] u5 fun b6 c6=>∃d6,b6=B d6/\(X base u5 c6->(d6=false->(v4=2->(w4=0->((n5:Int)=0->∃e6 f6,j5=some (D e6 f6 none)/\Int.ofNat 0<=2/\2<(k5:Int)/\∃g6,C c6 e6 (f6+2*10+1)=some (I Z g6)/\w7=w7/\SubH u5 c6/\(w5↔g6=2))/\(¬(n5:Int)=0->w7=w7/\SubH u5
 c6/\¬w5))/\(¬w4=0->w7=w7/\SubH u5 c6/\¬w5))/\(¬v4=2->w7=w7/\SubH u5 c6/\¬w5))/\(¬d6=false->w7=w7/\SubH u5 c6/\¬w5)))/\(¬z5=7->w7=w7/\SubH u5 u5/\¬w5))/\(¬v5=2->w7=w7/\SubH u5 u5/\¬w5))/\(¬(q5:Int)=22->w7=w7/\SubH u5 u5/\¬w5))/\(¬s5=0->w7=w7/\SubH u5 u5/\¬w5))/\(¬z1=0->w7=w7/\SubH u5 u5/\¬w5))/\K (B (@decide w5 (Classical.propDecidable w5))) [] u5))) [J a false 141 w17,J a2 false 41 [I Z h4,S i4 j4 k4,S l4 m4 n4,S o4 p4 q4,I Z r4,S s4 t4 u4,I Z v4,I Z w4,B x4,S y4 z4 a5,I Z b5,S c5 d5 e5,S f5 g5 h5,B i5,S j5 k5 l5,S m5 n5 o5]])))/\true=true/\∀x2:Heap,X 0 w2 x2->x2 a=some (boxKB 141 w17)/\True->Y Tryz.prog 96 w16 x2 fun y2 z2=>∃a3 b3 c3,y2=S a3 b3 c3/\∀d3,X base w2 d3->(∀(e3:Nat)(f3:KB),z2 e3=some f3->(∀g3:Bx,g3∈w14->e3≠Bx.b g3)->d3 e3=some f3)->(∀(e3:Nat)(f3:Heap),X base d3 f3->d3 e3=none->f3 e3=some (boxKB 62 w12)->true=true/\∀g3:Heap,X 0 f3 g3->g3 a=some (boxKB 141 w17)/\True->Y Tryz.prog 96 w15 g3 fun h3 i3=>∃j3 k3 l3,h3=S j3 k3 l3/\∀m3,X base f3 m3->(∀(n3:Nat)(o3:KB),i3 n3=some o3->(∀p3:Bx,p3∈w14->n3≠Bx.b p3)->m3 n3=some o3)->Y Tryz.prog 95 [I Z 6,I Z 0] m3 fun n3 o3=>∃p3 q3 r3 s3 t3 u3 v3,n3=A #[I Z p3,I Z q3,I Z r3,B s3,S t3 u3 v3]/\(X base m3 o3->∀(w3:Nat)(x3:Heap),X base o3 x3->o3 w3=none->x3 w3=some (boxKB 62 [I Z p3,I Z q3,I Z r3,B s3,S t3 u3 v3])->∀(y3:Nat)(z3:Heap),X base x3 z3->x3 y3=none->z3 y3=some (boxKB 72 [S (some (D e3 0 none)) 3 3,S t2 u2 v2,S a3 b3 c3,S j3 k3 l3,S (some (D w3 0 none)) 1 1])->Y Tryz.prog 97 [S (some (D y3 0 none)) 5 5] z3 fun a4 b4=>∃c4 d4 e4,a4=S c4 d4 e4/\(X base z3 b4->Y Tryz.prog 39 [A w13,S c4 d4 e4] b4 fun f4 g4=>∃h4 i4 j4 k4 l4 m4 n4 o4 p4 q4 r4 s4 t4 u4 v4 w4 x4 y4 z4 a5 b5 c5 d5 e5 f5 g5 h5 i5 j5 k5 l5 m5 n5 o5,(fun w8:LB=>∃p5 q5 r5 s5,f4=T #[A #[I Z h4,S i4 j4 k4,S l4 m4 n4,S o4 p4 q4,I Z r4,S s4 t4 u4,I Z v4,I Z w4,B x4,S y4 z4 a5,I Z b5,S c5 d5 e5,S f5 g5 h5,B i5,S j5 k5 l5,S m5 n5 o5],S p5 q5 r5,I Z s5]/\(X base b4 g4->Y Tryz.prog 98 [S p5 q5 r5,Value.func (Fn.func 99) #[] #[]] g4 fun t5
 u5=>∃v5,t5=I Z v5/\(X base g4 u5->∃w5:Prop,((z1=0->(s5=0->((q5:Int)=22->(v5=2->∃x5 y5,p5=some (D x5 y5 none)/\Int.ofNat 0<=2/\2<(q5:Int)/\∃z5,C u5 x5 (y5+2*1)=some (I Z z5)/\(z5=7->Int.ofNat 0<=3/\3<=(q5:Int)/\q5<=r5/\∀a6:O,(3<(r5:Int)->a6=Option.map (fun b6=>Addr.add b6 (3*1)) p5)->Y Tryz.prog 73 [S a6 (q5-3) (r5-3),Value.func (Fn.func 100) #[] #[]] u5 fun b6 c6=>∃d6,b6=B d6/\(X base u5 c6->(d6=false->(v4=2->(w4=0->((n5:Int)=0->∃e6 f6,j5=some (D e6 f6 none)/\Int.ofNat 0<=2/\2<(k5:Int)/\∃g6,C c6 e6 (f6+2*10+1)=some (I Z g6)/\w8=w8/\SubH u5 c6/\(w5↔g6=2))/\(¬(n5:Int)=0->w8=w8/\SubH u5 c6/\¬w5))/\(¬w4=0->w8=w8/\SubH u5 c6/\¬w5))/\(¬v4=2->w8=w8/\SubH u5 c6/\¬w5))/\(¬d6=false->w8=w8/\SubH u5 c6/\¬w5)))/\(¬z5=7->w8=w8/\SubH u5 u5/\¬w5))/\(¬v5=2->w8=w8/\SubH u5 u5/\¬w5))/\(¬(q5:Int)=22->w8=w8/\SubH u5 u5/\¬w5))/\(¬s5=0->w8=w8/\SubH u5 u5/\¬w5))/\(¬z1=0->w8=w8/\SubH u5 u5/\¬w5))/\K (B (@decide w5 (Classical.propDecidable w5))) [] u5))) [J a false 141 w17,J a2 false 41 [I Z h4,S i4 j4 k4,S l4 m4 n4,S o4 p4 q4,I Z r4,S s4 t4 u4,I Z v4,I Z w4,B x4,S y4 z4 a5,I Z b5,S c5 d5 e5,S f5 g5 h5,B i5,S j5 k5 l5,S m5 n5 o5]])))/\true=true/\∀e3:Heap,X 0 d3 e3->e3 a=some (boxKB 141 w17)/\True->Y Tryz.prog 96 w15 e3 fun f3 g3=>∃h3 i3 j3,f3=S h3 i3 j3/\∀k3,X base d3 k3->(∀(l3:Nat)(m3:KB),g3 l3=some m3->(∀n3:Bx,n3∈w14->l3≠Bx.b n3)->k3 l3=some m3)->(∀(l3:Nat)(m3:Heap),X base k3 m3->k3 l3=none->m3 l3=some (boxKB 62 w12)->Y Tryz.prog 95 [I Z 6,I Z 0] m3 fun n3 o3=>∃p3 q3 r3 s3 t3 u3 v3,n3=A #[I Z p3,I Z q3,I Z r3,B s3,S t3 u3 v3]/\(X base m3 o3->∀(w3:Nat)(x3:Heap),X base o3 x3->o3 w3=none->x3 w3=some (boxKB 62 [I Z p3,I Z q3,I Z r3,B s3,S t3 u3 v3])->∀(y3:Nat)(z3:Heap),X base x3 z3->x3 y3=none->z3 y3=some (boxKB 72 [S (some (D l3 0 none)) 3 3,S t2 u2 v2,S a3 b3 c3,S h3 i3 j3,S (some (D w3 0 none)) 1 1])->Y Tryz.prog 97 [S (some (D y3 0 none)) 5 5] z3 fun a4 b4=>∃c4 d4 e4,a4=S c4 d4 e4/\(X base z3 b4->Y Tryz.prog 39 [A w13,S c4 d4
 e4] b4 fun f4 g4=>∃h4 i4 j4 k4 l4 m4 n4 o4 p4 q4 r4 s4 t4 u4 v4 w4 x4 y4 z4 a5 b5 c5 d5 e5 f5 g5 h5 i5 j5 k5 l5 m5 n5 o5,(fun w9:LB=>∃p5 q5 r5 s5,f4=T #[A #[I Z h4,S i4 j4 k4,S l4 m4 n4,S o4 p4 q4,I Z r4,S s4 t4 u4,I Z v4,I Z w4,B x4,S y4 z4 a5,I Z b5,S c5 d5 e5,S f5 g5 h5,B i5,S j5 k5 l5,S m5 n5 o5],S p5 q5 r5,I Z s5]/\(X base b4 g4->Y Tryz.prog 98 [S p5 q5 r5,Value.func (Fn.func 99) #[] #[]] g4 fun t5 u5=>∃v5,t5=I Z v5/\(X base g4 u5->∃w5:Prop,((z1=0->(s5=0->((q5:Int)=22->(v5=2->∃x5 y5,p5=some (D x5 y5 none)/\Int.ofNat 0<=2/\2<(q5:Int)/\∃z5,C u5 x5 (y5+2*1)=some (I Z z5)/\(z5=7->Int.ofNat 0<=3/\3<=(q5:Int)/\q5<=r5/\∀a6:O,(3<(r5:Int)->a6=Option.map (fun b6=>Addr.add b6 (3*1)) p5)->Y Tryz.prog 73 [S a6 (q5-3) (r5-3),Value.func (Fn.func 100) #[] #[]] u5 fun b6 c6=>∃d6,b6=B d6/\(X base u5 c6->(d6=false->(v4=2->(w4=0->((n5:Int)=0->∃e6 f6,j5=some (D e6 f6 none)/\Int.ofNat 0<=2/\2<(k5:Int)/\∃g6,C c6 e6 (f6+2*10+1)=some (I Z g6)/\w9=w9/\SubH u5 c6/\(w5↔g6=2))/\(¬(n5:Int)=0->w9=w9/\SubH u5 c6/\¬w5))/\(¬w4=0->w9=w9/\SubH u5 c6/\¬w5))/\(¬v4=2->w9=w9/\SubH u5 c6/\¬w5))/\(¬d6=false->w9=w9/\SubH u5 c6/\¬w5)))/\(¬z5=7->w9=w9/\SubH u5 u5/\¬w5))/\(¬v5=2->w9=w9/\SubH u5 u5/\¬w5))/\(¬(q5:Int)=22->w9=w9/\SubH u5 u5/\¬w5))/\(¬s5=0->w9=w9/\SubH u5 u5/\¬w5))/\(¬z1=0->w9=w9/\SubH u5 u5/\¬w5))/\K (B (@decide w5 (Classical.propDecidable w5))) [] u5))) [J a false 141 w17,J a2 false 41 [I Z h4,S i4 j4 k4,S l4 m4 n4,S o4 p4 q4,I Z r4,S s4 t4 u4,I Z v4,I Z w4,B x4,S y4 z4 a5,I Z b5,S c5 d5 e5,S f5 g5 h5,B i5,S j5 k5 l5,S m5 n5 o5]])))/\Y Tryz.prog 95 [I Z 6,I Z 0] k3 fun l3 m3=>∃n3 o3 p3 q3 r3 s3 t3,l3=A #[I Z n3,I Z o3,I Z p3,B q3,S r3 s3 t3]/\(X base k3 m3->(∀(u3:Nat)(v3:Heap),X base m3 v3->m3 u3=none->v3 u3=some (boxKB 62 w12)->∀(w3:Nat)(x3:Heap),X base v3 x3->v3 w3=none->x3 w3=some (boxKB 62 [I Z n3,I Z o3,I Z p3,B q3,S r3 s3 t3])->∀(y3:Nat)(z3:Heap),X base x3 z3->x3 y3=none->z3 y3=some (boxKB 72 [S (some (D u3 0 none)) 3 3,S t2 u2
 v2,S a3 b3 c3,S h3 i3 j3,S (some (D w3 0 none)) 1 1])->Y Tryz.prog 97 [S (some (D y3 0 none)) 5 5] z3 fun a4 b4=>∃c4 d4 e4,a4=S c4 d4 e4/\(X base z3 b4->Y Tryz.prog 39 [A w13,S c4 d4 e4] b4 fun f4 g4=>∃h4 i4 j4 k4 l4 m4 n4 o4 p4 q4 r4 s4 t4 u4 v4 w4 x4 y4 z4 a5 b5 c5 d5 e5 f5 g5 h5 i5 j5 k5 l5 m5 n5 o5,(fun w10:LB=>∃p5 q5 r5 s5,f4=T #[A #[I Z h4,S i4 j4 k4,S l4 m4 n4,S o4 p4 q4,I Z r4,S s4 t4 u4,I Z v4,I Z w4,B x4,S y4 z4 a5,I Z b5,S c5 d5 e5,S f5 g5 h5,B i5,S j5 k5 l5,S m5 n5 o5],S p5 q5 r5,I Z s5]/\(X base b4 g4->Y Tryz.prog 98 [S p5 q5 r5,Value.func (Fn.func 99) #[] #[]] g4 fun t5 u5=>∃v5,t5=I Z v5/\(X base g4 u5->∃w5:Prop,((z1=0->(s5=0->((q5:Int)=22->(v5=2->∃x5 y5,p5=some (D x5 y5 none)/\Int.ofNat 0<=2/\2<(q5:Int)/\∃z5,C u5 x5 (y5+2*1)=some (I Z z5)/\(z5=7->Int.ofNat 0<=3/\3<=(q5:Int)/\q5<=r5/\∀a6:O,(3<(r5:Int)->a6=Option.map (fun b6=>Addr.add b6 (3*1)) p5)->Y Tryz.prog 73 [S a6 (q5-3) (r5-3),Value.func (Fn.func 100) #[] #[]] u5 fun b6 c6=>∃d6,b6=B d6/\(X base u5 c6->(d6=false->(v4=2->(w4=0->((n5:Int)=0->∃e6 f6,j5=some (D e6 f6 none)/\Int.ofNat 0<=2/\2<(k5:Int)/\∃g6,C c6 e6 (f6+2*10+1)=some (I Z g6)/\w10=w10/\SubH u5 c6/\(w5↔g6=2))/\(¬(n5:Int)=0->w10=w10/\SubH u5 c6/\¬w5))/\(¬w4=0->w10=w10/\SubH u5 c6/\¬w5))/\(¬v4=2->w10=w10/\SubH u5 c6/\¬w5))/\(¬d6=false->w10=w10/\SubH u5 c6/\¬w5)))/\(¬z5=7->w10=w10/\SubH u5 u5/\¬w5))/\(¬v5=2->w10=w10/\SubH u5 u5/\¬w5))/\(¬(q5:Int)=22->w10=w10/\SubH u5 u5/\¬w5))/\(¬s5=0->w10=w10/\SubH u5 u5/\¬w5))/\(¬z1=0->w10=w10/\SubH u5 u5/\¬w5))/\K (B (@decide w5 (Classical.propDecidable w5))) [] u5))) [J a false 141 w17,J a2 false 41 [I Z h4,S i4 j4 k4,S l4 m4 n4,S o4 p4 q4,I Z r4,S s4 t4 u4,I Z v4,I Z w4,B x4,S y4 z4 a5,I Z b5,S c5 d5 e5,S f5 g5 h5,B i5,S j5 k5 l5,S m5 n5 o5]]))/\∀(u3:Nat)(v3:Heap),X base m3 v3->m3 u3=none->v3 u3=some (boxKB 62 [I Z n3,I Z o3,I Z p3,B q3,S r3 s3 t3])->∀(w3:Nat)(x3:Heap),X base v3 x3->v3 w3=none->x3 w3=some (boxKB 62 w12)->∀(y3:Nat)(z3:Heap),X base x3
 z3->x3 y3=none->z3 y3=some (boxKB 72 [S (some (D w3 0 none)) 3 3,S t2 u2 v2,S a3 b3 c3,S h3 i3 j3,S (some (D u3 0 none)) 1 1])->Y Tryz.prog 97 [S (some (D y3 0 none)) 5 5] z3 fun a4 b4=>∃c4 d4 e4,a4=S c4 d4 e4/\(X base z3 b4->Y Tryz.prog 39 [A w13,S c4 d4 e4] b4 fun f4 g4=>∃h4 i4 j4 k4 l4 m4 n4 o4 p4 q4 r4 s4 t4 u4 v4 w4 x4 y4 z4 a5 b5 c5 d5 e5 f5 g5 h5 i5 j5 k5 l5 m5 n5 o5,(fun w11:LB=>∃p5 q5 r5 s5,f4=T #[A #[I Z h4,S i4 j4 k4,S l4 m4 n4,S o4 p4 q4,I Z r4,S s4 t4 u4,I Z v4,I Z w4,B x4,S y4 z4 a5,I Z b5,S c5 d5 e5,S f5 g5 h5,B i5,S j5 k5 l5,S m5 n5 o5],S p5 q5 r5,I Z s5]/\(X base b4 g4->Y Tryz.prog 98 [S p5 q5 r5,Value.func (Fn.func 99) #[] #[]] g4 fun t5 u5=>∃v5,t5=I Z v5/\(X base g4 u5->∃w5:Prop,((z1=0->(s5=0->((q5:Int)=22->(v5=2->∃x5 y5,p5=some (D x5 y5 none)/\Int.ofNat 0<=2/\2<(q5:Int)/\∃z5,C u5 x5 (y5+2*1)=some (I Z z5)/\(z5=7->Int.ofNat 0<=3/\3<=(q5:Int)/\q5<=r5/\∀a6:O,(3<(r5:Int)->a6=Option.map (fun b6=>Addr.add b6 (3*1)) p5)->Y Tryz.prog 73 [S a6 (q5-3) (r5-3),Value.func (Fn.func 100) #[] #[]] u5 fun b6 c6=>∃d6,b6=B d6/\(X base u5 c6->(d6=false->(v4=2->(w4=0->((n5:Int)=0->∃e6 f6,j5=some (D e6 f6 none)/\Int.ofNat 0<=2/\2<(k5:Int)/\∃g6,C c6 e6 (f6+2*10+1)=some (I Z g6)/\w11=w11/\SubH u5 c6/\(w5↔g6=2))/\(¬(n5:Int)=0->w11=w11/\SubH u5 c6/\¬w5))/\(¬w4=0->w11=w11/\SubH u5 c6/\¬w5))/\(¬v4=2->w11=w11/\SubH u5 c6/\¬w5))/\(¬d6=false->w11=w11/\SubH u5 c6/\¬w5)))/\(¬z5=7->w11=w11/\SubH u5 u5/\¬w5))/\(¬v5=2->w11=w11/\SubH u5 u5/\¬w5))/\(¬(q5:Int)=22->w11=w11/\SubH u5 u5/\¬w5))/\(¬s5=0->w11=w11/\SubH u5 u5/\¬w5))/\(¬z1=0->w11=w11/\SubH u5 u5/\¬w5))/\K (B (@decide w5 (Classical.propDecidable w5))) [] u5))) [J a false 141 w17,J a2 false 41 [I Z h4,S i4 j4 k4,S l4 m4 n4,S o4 p4 q4,I Z r4,S s4 t4 u4,I Z v4,I Z w4,B x4,S y4 z4 a5,I Z b5,S c5 d5 e5,S f5 g5 h5,B i5,S j5 k5 l5,S m5 n5 o5]])))) [I Z 1,I Z 0,I Z 0,B false,S e2 f2 g2,I Z 2,I Z 0,I Z 2,B false,S none 0 0,I Z j2,I Z k2,I Z l2,B m2,S n2 o2 p2]))) #[I Z r,S s t u,S v w x,S
 y z a1,I Z b1,S c1 d1 e1,I Z f1,I Z g1,B h1,S i1 j1 k1,I Z l1,S m1 n1 o1,S p1 q1 r1,B s1,S t1 u1 v1,S w1 x1 y1])) [J a false 141 w17]) [I Z 2,P (some (D a 0 none))]) [I Z 0,P (some (D a 0 none))]) [Value.func (Fn.func 95) #[] #[]]):=by kernel_rfl
open Go Go.Proofs
theorem vk95(k n:Int)(base:Nat)(H:Heap)(K:KT):
 (fV TryzMutsK Tryz.f95 base H [.v (I Z k),.v (I Z n)] [] K)=(
 ∀a:Nat,K (A #[I Z k,I Z n,I Z 0,B true,S none 0 0]) [] H):=by kernel_rfl
theorem vk97(a:O)(l c:Nat)(base:Nat)(H:Heap)(K:KT):
 (fV TryzMutsJ Tryz.f97 base H [.v (S a l c)] [] K)=(
 ∃(b:LI)(d:LM),b [I Z 0,I Z 0] H/\∀(e g:Int)(h:Heap),X base H h->b [I Z e,I Z g] h->(g<(l:Int)->∃i j,a=some (D i j none)/\0<=g/\g<(l:Int)/\∃k m n,C h i (j+N g*1)=some (S k m n)/\∀o:Int,o=W Z (e+(m:Int))->(o<0->False)/\(¬o<0->∀p:Int,p=W Z (g+1)->b [I Z o,I Z p] h/\d [I Z o,I Z p]<d [I Z e,I Z g]))/\(¬g<(l:Int)->Y Tryz.prog 185 [S none 0 0,I Z e] h fun i j=>∃k m n,i=S k m n/\(X base h j->∃(o:LI)(p:LM),o [S k m n,I Z 0] j/\∀(q:O)(r s:Nat)(t:Int)(u:Heap),X base H u->o [S q r s,I Z t] u->(t<(l:Int)->∃v w,a=some (D v w none)/\0<=t/\t<(l:Int)/\∃x y z,C u v (w+N t*1)=some (S x y z)/\∃a1 b1:List Value,Row base u 62 5 q r s a1/\List.length b1=y*5/\allOne b1=true/\(y=0∨∃c1 d1,x=some (D c1 d1 none)/\cellsAt u c1 d1 0 b1)/\(r+y)*56<=140737488355328/\r+y<=9223372036854775807/\∀(c1:O)(d1:Nat)(e1:Heap),Grew base u e1 q s c1 d1 (r+y)->Row base e1 62 5 c1 (r+y) d1 (a1++b1)->∀f1:Int,f1=W Z (t+1)->o [S c1 (r+y) d1,I Z f1] e1/\p [S c1 (r+y) d1,I Z f1]<p [S q r s,I Z t])/\(¬t<(l:Int)->K (S q r s) [] u)))):=by kernel_rfl
theorem vk185(a:O)(l c:Nat)(n:Int)(base:Nat)(H:Heap)(K:KT):
 (fV TryzMutsJ Tryz.f185 base H [.v (S a l c),.v (I Z n)] [] K)=(
 (n<0->False)/\(¬n<0->∀b:Int,b=W Z ((c:Int)-(l:Int))->∀d:Int,d=W Z (n-b)->(0<d->0<=(c:Int)/\(c:Int)<=(c:Int)/\∃(e:List Value)(g:Nat),d=(g:Int)/\0<g/\c<N (c:Int)+g/\Row base H 62 5 a (N (c:Int)) c e/\(N (c:Int)+g)*56<=140737488355328/\N (c:Int)+g<=9223372036854775807/\∀(h i:Nat)(j:Heap),X base H j->H h=none->Row base j 62 5 (some (D h 0 none)) (N (c:Int)+g) i (e++List.flatten (List.replicate g [I Z 0,I Z 0,I Z 0,B false,S none 0 0]))->0<=(l:Int)/\(l:Int)<=(i:Int)/\K (S (some (D h 0 none)) (N (l:Int)) i) [] j)/\(¬0<d->K (S a l c) [] H))):=by kernel_rfl
theorem vk99(e:Int)(base:Nat)(H:Heap)(K:KT):
 (fV TryzMutsK Tryz.f99 base H [.v (I Z e)] [] K)=(
 K (B (decide ¬e=0)) [] H):=by kernel_rfl
theorem vk100(e:Int)(base:Nat)(H:Heap)(K:KT):
 (fV TryzMutsK Tryz.f100 base H [.v (I Z e)] [] K)=(
 K (B (decide ¬e=0)) [] H):=by kernel_rfl
theorem vk98b(a:O)(l c:Nat)(base:Nat)(H:Heap)(K:KT):
 (fV TryzMutsK Tryz.f98 base H [.v (S a l c),.v (.func (.func 99) #[] #[])] [] K)=(
 ∃(b:NI)(d:Nat),b d [I Z 0,I Z 0] H/\∀(e:Nat)(g h:Int)(i:Heap),X base H i->b e [I Z g,I Z h] i->(h<(l:Int)->∃j k,a=some (D j k none)/\0<=h/\h<(l:Int)/\∃m,C i j (k+N h*1)=some (I Z m)/\Y Tryz.prog 99 [I Z m] i fun n o=>∃p,n=B p/\(X base i o->(p=true->K (I Z h) [] o)/\(p=false->∀q:Int,q=W Z (h+1)->∃r:Nat,r<e/\b r [I Z g,I Z q] o)))/\(¬h<(l:Int)->K (I Z (-1)) [] i)):=by kernel_rfl
theorem vk98c(a:O)(l c:Nat)(base:Nat)(H:Heap)(K:KT):
 (fV TryzMutsK Tryz.f98 base H [.v (S a l c),.v (.func (.func 100) #[] #[])] [] K)=(
 ∃(b:NI)(d:Nat),b d [I Z 0,I Z 0] H/\∀(e:Nat)(g h:Int)(i:Heap),X base H i->b e [I Z g,I Z h] i->(h<(l:Int)->∃j k,a=some (D j k none)/\0<=h/\h<(l:Int)/\∃m,C i j (k+N h*1)=some (I Z m)/\Y Tryz.prog 100 [I Z m] i fun n o=>∃p,n=B p/\(X base i o->(p=true->K (I Z h) [] o)/\(p=false->∀q:Int,q=W Z (h+1)->∃r:Nat,r<e/\b r [I Z g,I Z q] o)))/\(¬h<(l:Int)->K (I Z (-1)) [] i)):=by kernel_rfl
theorem vk73b(a:O)(l c:Nat)(base:Nat)(H:Heap)(K:KT):
 (fV TryzMutsK Tryz.f73 base H [.v (S a l c),.v (.func (.func 100) #[] #[])] [] K)=(
 Y Tryz.prog 98 [S a l c,Value.func (Fn.func 100) #[] #[]] H fun b d=>∃e,b=I Z e/\(X base H d->K (B (decide (0<=e))) [] d)):=by kernel_rfl
open Go Go.Proofs
theorem vd44(s:ByteArray)(base:Nat)(H:Heap)(K:KT):
 (fV TryzMuts Tryz.f251 base H [.v (.string s)] [] K)=(
 Y Tryz.prog 226 [Str s] H fun a b=>∃c,a=T #[I Z c,Value.nilIface]/\(X base H b->∃d,RunsTo Tryz.prog (binRun BinOp.eql 263 (Operand.tmp 12) (Operand.const Value.nilIface) Value.nilIface Value.nilIface) (B d)/\(d=true->Y Tryz.prog 223 [I Z c] b fun e g=>∃h,e=Str h/\(X base b g->∃i,RunsTo Tryz.prog (binRun BinOp.eql 9 (Operand.tmp 16) (Operand.tmp 17) (Str h) (Str s)) (B i)/\K (T #[I Z c,B (decide (i=true))]) [] g))/\(¬d=true->K (T #[I Z c,B false]) [] b))∨∃(d:TypeId)(e:Value),a=T #[I Z c,Value.iface d e]/\(X base H b->∃g,RunsTo Tryz.prog (binRun BinOp.eql 263 (Operand.tmp 12) (Operand.const Value.nilIface) (Value.iface d e) Value.nilIface) (B g)/\(g=true->Y Tryz.prog 223 [I Z c] b fun h i=>∃j,h=Str j/\(X base b i->∃k,RunsTo Tryz.prog (binRun BinOp.eql 9 (Operand.tmp 16) (Operand.tmp 17) (Str j) (Str s)) (B k)/\K (T #[I Z c,B (decide (k=true))]) [] i))/\(¬g=true->K (T #[I Z c,B false]) [] b))):=by kernel_rfl
theorem vd8(a:O)(l c:Nat)(base:Nat)(H:Heap)(K:KT):
 (fV TryzMutsJ Tryz.f284 base H [.v (S a l c)] [] K)=(
 Y Tryz.prog 140 [S a l c] H fun b d=>∃e,b=I Z e/\(X base H d->(¬e=0->K (T #[Str (ByteArray.mk #[]),I Z e]) [] d)/\(¬¬e=0->∃(g:LI)(h:LM),g [S none 0 0,I Z 0] d/\∀(i:O)(j k:Nat)(m:Int)(n:Heap),X base H n->g [S i j k,I Z m] n->(m<(l:Int)->∃o p,a=some (D o p none)/\0<=m/\m<(l:Int)/\∃q r:Int,(C n o (p+N m*2)=some (I Z q)/\C n o (p+N m*2+1)=some (I Z r)/\True)/\∀s:Nat,Y Tryz.prog 223 [I Z q] n fun t u=>∃v,t=Str v/\(X base n u->∃w,RunsTo Tryz.prog (binRun BinOp.add 9 (Operand.tmp 22) (Operand.const (Str (ByteArray.mk #[64]))) (Str v) (Str (ByteArray.mk #[64]))) (Str w)/\Y Tryz.prog 223 [I Z r] u fun x y=>∃z,x=Str z/\(X base u y->∃a1,RunsTo Tryz.prog (binRun BinOp.add 9 (Operand.tmp 23) (Operand.tmp 26) (Str w) (Str z)) (Str a1)/\∀(b1:Nat)(c1:Heap),X base y c1->y b1=none->c1 b1=some (boxKB 9 [Str a1])->∃d1 e1:List Value,Row base c1 9 1 i j k d1/\List.length e1=1*1/\allOne e1=true/\(1=0∨∃f1 g1,some (D b1 0 none)=some (D f1 g1 none)/\cellsAt c1 f1 g1 0 e1)/\(j+1)*16<=140737488355328/\j+1<=9223372036854775807/\∀(f1:O)(g1:Nat)(h1:Heap),Grew base c1 h1 i k f1 g1 (j+1)->Row base h1 9 1 f1 (j+1) g1 (d1++e1)->∀i1:Int,i1=W Z (m+1)->g [S f1 (j+1) g1,I Z i1] h1/\h [S f1 (j+1) g1,I Z i1]<h [S i j k,I Z m])))/\(¬m<(l:Int)->Y Tryz.prog 299 [S i j k,Str (ByteArray.mk #[44])] n fun o p=>∃q,o=Str q/\(X base n p->K (T #[Str q,I Z 0]) [] p))))):=by kernel_rfl
theorem vd11(s:ByteArray)(base:Nat)(H:Heap)(K:KT):
 (fV TryzMutsJ Tryz.f228 base H [.v (.string s)] [] K)=(
 (60000<(↑(ByteArray.size s):Int)->K (T #[S none 0 0,I Z 2]) [] H)/\(¬60000<(↑(ByteArray.size s):Int)->∃a,RunsTo Tryz.prog (binRun BinOp.eql 9 (Operand.tmp 18) (Operand.const (Str (ByteArray.mk #[]))) (Str s) (Str (ByteArray.mk #[]))) (B a)/\(a=true->K (T #[S none 0 0,I Z 0]) [] H)/\(¬a=true->Y Tryz.prog 208 [Str s,Str (ByteArray.mk #[44])] H fun b c=>∃d e g,b=S d e g/\(X base H c->∃(h:LI)(i:LM),h [S none 0 0,I Z 0,S none 0 0,I Z 0] c/\∀(j:O)(k l:Nat)(m:Int)(n:O)(o p:Nat)(q:Int)(r:Heap),X base H r->h [S j k l,I Z m,S n o p,I Z q] r->(q<(e:Int)->∃t u,d=some (D t u none)/\0<=q/\q<(e:Int)/\∃v,C r t (u+N q*1)=some (Str v)/\Y Tryz.prog 195 [Str v,Str (ByteArray.mk #[64])] r fun w x=>∃y z a1,w=T #[Str y,Str z,B a1]/\(X base r x->Y Tryz.prog 251 [Str y] x fun b1 c1=>∃d1 e1,b1=T #[I Z d1,B e1]/\(X base x c1->Y Tryz.prog 251 [Str z] c1 fun f1 g1=>∃h1 i1,f1=T #[I Z h1,B i1]/\(X base c1 g1->∃j1:Prop,((a1=false->SubH g1 g1/\j1)/\(¬a1=false->(e1=false->SubH g1 g1/\j1)/\(¬e1=false->SubH g1 g1/\(j1↔i1=false))))/\(j1->K (T #[S none 0 0,I Z 1]) [] g1)/\(¬j1->∀k1:Nat,∃l1:List Value,Row base g1 91 2 n o p l1/\(o+1)*16<=140737488355328/\o+1<=9223372036854775807/\∀(m1:O)(n1:Nat)(o1:Heap),Grew base g1 o1 n p m1 n1 (o+1)->Row base o1 91 2 m1 (o+1) n1 (l1++[I Z d1,I Z h1])->∀p1:Int,p1=W Z (q+1)->h [S j k l,I Z m,S m1 (o+1) n1,I Z p1] o1/\i [S j k l,I Z m,S m1 (o+1) n1,I Z p1]<i [S j k l,I Z m,S n o p,I Z q])))))/\(¬q<(e:Int)->Y Tryz.prog 140 [S n o p] r fun t u=>∃v,t=I Z v/\(X base r u->(¬v=0->K (T #[S none 0 0,I Z v]) [] u)/\(¬¬v=0->K (T #[S n o p,I Z 0]) [] u))))))):=by kernel_rfl
open Go Go.Proofs
theorem vd18(kd ag tr n id:Int)(gd:Bool)(a:O)(l c:Nat)(base:Nat)(H:Heap)(K:KT):
 (fV TryzMutsJ Tryz.f265 base H [.v (A #[I Z kd,I Z ag,I Z tr,I Z n,B gd,I Z id,S a l c])] [] K)=(
 (fun w1:LL=>∀b:Nat,Y Tryz.prog 198 [A #[I Z kd,I Z ag,I Z tr,I Z n,B gd,I Z id,S a l c]] H fun d e=>∃g,d=I Z g/\(X base H e->(¬g=0->K (T #[Str (ByteArray.mk #[]),I Z g]) [] e)/\(¬¬g=0->(gd=true->∀h:Nat,∃(i:LI)(j:LM),i [I Z 0,A #[P none,S none 0 0]] e/\∀(k:Int)(m:Value)(o:O)(p q:Nat)(r:Heap),X base H r->i [I Z k,A #[m,S o p q]] r->(k<6->0<=k/\k<6/\∃s,List.get?Internal [I Z kd,I Z ag,I Z tr,I Z n,I Z 1,I Z id] (N k*1)=some (I Z s)/\Y Tryz.prog 223 [I Z s] r fun t u=>∃v,t=Str v/\(X base r u->∃w,RunsTo Tryz.prog (binRun BinOp.add 9 (Operand.tmp 35) (Operand.const (Str (ByteArray.mk #[32]))) (Str v) (Str (ByteArray.mk #[32]))) (Str w)/\YO Tryz.prog 298 [P (some (D h 0 none))] [J h false 311 [m,S o p q]] u fun x y z=>x=T #[]/\∃(a1:Value)(b1:O)(c1 d1:Nat),y=[[a1,S b1 c1 d1]]/\(X base u z->∃e1:List Value,Row base z 5 1 b1 c1 d1 e1/\c1+ByteArray.size w<=140737488355328/\∀(f1:O)(g1:Nat)(h1:Heap),Grew base z h1 b1 d1 f1 g1 (c1+ByteArray.size w)->Row base h1 5 1 f1 (c1+ByteArray.size w) g1 (e1++u8s (Array.toList (ByteArray.data w)))->∀i1:Int,i1=W Z (k+1)->w1=w1/\i [I Z i1,A #[a1,S f1 (c1+ByteArray.size w) g1]] h1/\j [I Z i1,A #[a1,S f1 (c1+ByteArray.size w) g1]]<j [I Z k,A #[m,S o p q]])))/\(¬k<6->Y Tryz.prog 284 [S a l c] r fun s t=>∃u v,s=T #[Str u,I Z v]/\(X base r t->311=311/\0<p/\∃w:List UInt8,Row base t 5 1 o p q (u8s w)/\∀x:Heap,(∀(y:Nat)(z:KB),t y=some z->o≠some (D y 0 none)->x y=some z)->(∀(y:Nat)(z:KB),x y=some z->t y=some z)->∃y,RunsTo Tryz.prog (binRun BinOp.add 9 (Operand.tmp 46) (Operand.const (Str (ByteArray.mk #[61]))) (Str (ByteArray.mk (List.toArray w))) (Str (ByteArray.mk #[61]))) (Str y)/\∃z,RunsTo Tryz.prog (binRun BinOp.add 9 (Operand.tmp 47) (Operand.tmp 48) (Str y) (Str u)) (Str z)/\K (T #[Str z,I Z v]) [] x)))/\(gd=false->∀h:Nat,∃(i:LI)(j:LM),i [I Z 0,A #[P none,S none 0 0]] e/\∀(k:Int)(m:Value)(o:O)(p q:Nat)(r:Heap),X base H r->i [I Z k,A #[m,S o p q]] r->(k<6->0<=k/\k<6/\∃s,List.get?Internal [I
 Z kd,I Z ag,I Z tr,I Z n,I Z 0,I Z id] (N k*1)=some (I Z s)/\Y Tryz.prog 223 [I Z s] r fun t u=>∃v,t=Str v/\(X base r u->∃w,RunsTo Tryz.prog (binRun BinOp.add 9 (Operand.tmp 35) (Operand.const (Str (ByteArray.mk #[32]))) (Str v) (Str (ByteArray.mk #[32]))) (Str w)/\YO Tryz.prog 298 [P (some (D h 0 none))] [J h false 311 [m,S o p q]] u fun x y z=>x=T #[]/\∃(a1:Value)(b1:O)(c1 d1:Nat),y=[[a1,S b1 c1 d1]]/\(X base u z->∃e1:List Value,Row base z 5 1 b1 c1 d1 e1/\c1+ByteArray.size w<=140737488355328/\∀(f1:O)(g1:Nat)(h1:Heap),Grew base z h1 b1 d1 f1 g1 (c1+ByteArray.size w)->Row base h1 5 1 f1 (c1+ByteArray.size w) g1 (e1++u8s (Array.toList (ByteArray.data w)))->∀i1:Int,i1=W Z (k+1)->w1=w1/\i [I Z i1,A #[a1,S f1 (c1+ByteArray.size w) g1]] h1/\j [I Z i1,A #[a1,S f1 (c1+ByteArray.size w) g1]]<j [I Z k,A #[m,S o p q]])))/\(¬k<6->Y Tryz.prog 284 [S a l c] r fun s t=>∃u v,s=T #[Str u,I Z v]/\(X base r t->311=311/\0<p/\∃w:List UInt8,Row base t 5 1 o p q (u8s w)/\∀x:Heap,(∀(y:Nat)(z:KB),t y=some z->o≠some (D y 0 none)->x y=some z)->(∀(y:Nat)(z:KB),x y=some z->t y=some z)->∃y,RunsTo Tryz.prog (binRun BinOp.add 9 (Operand.tmp 46) (Operand.const (Str (ByteArray.mk #[61]))) (Str (ByteArray.mk (List.toArray w))) (Str (ByteArray.mk #[61]))) (Str y)/\∃z,RunsTo Tryz.prog (binRun BinOp.add 9 (Operand.tmp 47) (Operand.tmp 48) (Str y) (Str u)) (Str z)/\K (T #[Str z,I Z v]) [] x)))))) [[I Z kd,I Z ag,I Z tr,I Z n,B gd,I Z id,S a l c]]):=by kernel_rfl
theorem vd21(s:ByteArray)(base:Nat)(H:Heap)(K:KT):
 (fV TryzMutsJ Tryz.f196 base H [.v (.string s)] [] K)=(
 (fun w6:AV=>∀a:Nat,(60000<(↑(ByteArray.size s):Int)->K (T #[A w6,I Z 2]) [] H)/\(¬60000<(↑(ByteArray.size s):Int)->Y Tryz.prog 208 [Str s,Str (ByteArray.mk #[32])] H fun b c=>∃d e g,b=S d e g/\(X base H c->(¬(e:Int)=7->K (T #[A w6,I Z 1]) [] c)/\(¬¬(e:Int)=7->∀h:Nat,List.length [I Z 0,I Z 0,I Z 0,I Z 0,I Z 0,I Z 0]=6/\∃(i:LI)(j:LM),i [I Z 0,I Z 0,A w6,A #[I Z 0,I Z 0,I Z 0,I Z 0,I Z 0,I Z 0]] c/\∀(k l m n o p:Int)(q:Bool)(r:Int)(t:O)(u v:Nat)(w:List Value),(fun w5:LV=>(fun w4:LB=>List.length w=6->∀x,X base H x->i w5 x->(l<6->∃y z,d=some (D y z none)/\0<=l/\l<(e:Int)/\∃a1,C x y (z+N l*1)=some (Str a1)/\Y Tryz.prog 226 [Str a1] x fun b1 c1=>∃d1,b1=T #[I Z d1,Value.nilIface]/\(X base x c1->∃e1,RunsTo Tryz.prog (binRun BinOp.neq 263 (Operand.tmp 36) (Operand.const Value.nilIface) Value.nilIface Value.nilIface) (B e1)/\(e1=true->K (T #[A w6,I Z 1]) [] c1)/\(¬e1=true->∃f1 g1,d=some (D f1 g1 none)/\0<=l/\l<(e:Int)/\∃h1,C c1 f1 (g1+N l*1)=some (Str h1)/\Y Tryz.prog 223 [I Z d1] c1 fun i1 j1=>∃k1,i1=Str k1/\(X base c1 j1->∃l1,RunsTo Tryz.prog (binRun BinOp.neq 9 (Operand.tmp 40) (Operand.tmp 44) (Str k1) (Str h1)) (B l1)/\(l1=true->K (T #[A w6,I Z 1]) [] j1)/\(¬l1=true->0<=l/\l<6/\0+N l*1+1<=List.length w/\∀m1:Int,(fun w1:LV=>m1=W Z (l+1)->List.length (List.set w (0+N l*1) (I Z d1))=6/\i w1 j1/\j w1<j w5) [I Z k,I Z m1,A #[I Z m,I Z n,I Z o,I Z p,B q,I Z r,S t u v],A (List.toArray (List.set w (0+N l*1) (I Z d1)))]))))∨∃(e1:TypeId)(f1:Value),b1=T #[I Z d1,Value.iface e1 f1]/\(X base x c1->∃g1,RunsTo Tryz.prog (binRun BinOp.neq 263 (Operand.tmp 36) (Operand.const Value.nilIface) (Value.iface e1 f1) Value.nilIface) (B g1)/\(g1=true->K (T #[A w6,I Z 1]) [] c1)/\(¬g1=true->∃h1 i1,d=some (D h1 i1 none)/\0<=l/\l<(e:Int)/\∃j1,C c1 h1 (i1+N l*1)=some (Str j1)/\Y Tryz.prog 223 [I Z d1] c1 fun k1 l1=>∃m1,k1=Str m1/\(X base c1 l1->∃n1,RunsTo Tryz.prog (binRun BinOp.neq 9 (Operand.tmp 40) (Operand.tmp 44) (Str m1)
 (Str j1)) (B n1)/\(n1=true->K (T #[A w6,I Z 1]) [] l1)/\(¬n1=true->0<=l/\l<6/\0+N l*1+1<=List.length w/\∀o1:Int,(fun w2:LV=>o1=W Z (l+1)->List.length (List.set w (0+N l*1) (I Z d1))=6/\i w2 l1/\j w2<j w5) [I Z k,I Z o1,A #[I Z m,I Z n,I Z o,I Z p,B q,I Z r,S t u v],A (List.toArray (List.set w (0+N l*1) (I Z d1)))])))))/\(¬l<6->∃y z,d=some (D y z none)/\Int.ofNat 0<=6/\6<(e:Int)/\∃a1,C x y (z+6*1)=some (Str a1)/\Y Tryz.prog 227 [Str a1,Str (ByteArray.mk #[61])] x fun b1 c1=>∃d1 e1,b1=T #[Str d1,B e1]/\(X base x c1->∃f1:Prop,((e1=false->w4=w4/\SubH c1 c1/\f1)/\(¬e1=false->∃g1,List.get?Internal w (0+4*1)=some (I Z g1)/\(g1<0->w4=w4/\SubH c1 c1/\f1)/\(¬g1<0->∃h1,List.get?Internal w (0+4*1)=some (I Z h1)/\w4=w4/\SubH c1 c1/\(f1↔1<h1))))/\(f1->K (T #[A w6,I Z 1]) [] c1)/\(¬f1->Y Tryz.prog 228 [Str d1] c1 fun g1 h1=>∃i1 j1 k1 l1,g1=T #[S i1 j1 k1,I Z l1]/\(X base c1 h1->(¬l1=0->K (T #[A w6,I Z l1]) [] h1)/\(¬¬l1=0->∃m1,List.get?Internal w (0+0*1)=some (I Z m1)/\∃n1,List.get?Internal w (0+1*1)=some (I Z n1)/\∃o1,List.get?Internal w (0+2*1)=some (I Z o1)/\∃p1,List.get?Internal w (0+3*1)=some (I Z p1)/\∃q1,List.get?Internal w (0+4*1)=some (I Z q1)/\∃r1,(fun w3:AV=>List.get?Internal w (0+5*1)=some (I Z r1)/\∀s1:Nat,Y Tryz.prog 198 [A w3] h1 fun t1 u1=>∃v1,t1=I Z v1/\(X base h1 u1->(¬v1=0->K (T #[A w6,I Z v1]) [] u1)/\(¬¬v1=0->K (T #[A w3,I Z 0]) [] u1))) #[I Z m1,I Z n1,I Z o1,I Z p1,B (decide (q1=1)),I Z r1,S i1 j1 k1])))))) [J a false 126 [I Z m,I Z n,I Z o,I Z p,B q,I Z r,S t u v],J h false 261 w]) [I Z k,I Z l,A #[I Z m,I Z n,I Z o,I Z p,B q,I Z r,S t u v],A (List.toArray w)])))) #[I Z 0,I Z 0,I Z 0,I Z 0,B false,I Z 0,S none 0 0]):=by kernel_rfl
open Go Go.Proofs
open Go Go.Proofs
theorem vd61(a:O)(l c:Nat)(base:Nat)(H:Heap)(K:KT):
 (fV TryzMutsJ Tryz.f169 base H [.v (S a l c)] [] K)=(
 ∃b,RunsTo Tryz.prog (binRun BinOp.eql 33 (Operand.tmp 3) (Operand.const (S none 0 0)) (S a l c) (S none 0 0)) (B b)/\(b=true->K (S none 0 0) [] H)/\(¬b=true->∀(d:Nat)(e:Heap),X base H e->H d=none->e d=some (boxKB 5 [])->∃g h:List Value,Row base e 5 1 (some (D d 0 none)) 0 0 g/\List.length h=l*1/\allOne h=true/\(l=0∨∃i j,a=some (D i j none)/\cellsAt e i j 0 h)/\(0+l)*1<=140737488355328/\0+l<=9223372036854775807/\∀(i:O)(j:Nat)(k:Heap),Grew base e k (some (D d 0 none)) 0 i j (0+l)->Row base k 5 1 i (0+l) j (g++h)->K (S i (0+l) j) [] k)):=by kernel_rfl
theorem vd62(a:O)(l c:Nat)(base:Nat)(H:Heap)(K:KT):
 (fV TryzMutsJ Tryz.f80 base H [.v (S a l c)] [] K)=(
 ∃(b:LI)(d:LM),b [I Z 0,I Z 0] H/\∀(e g:Int)(h:Heap),X base H h->b [I Z e,I Z g] h->(g<(l:Int)->∃i j,a=some (D i j none)/\0<=g/\g<(l:Int)/\∃k m n,C h i (j+N g*1)=some (S k m n)/\∀o:Int,o=W Z (e+(m:Int))->(o<0->False)/\(¬o<0->∀p:Int,p=W Z (g+1)->b [I Z o,I Z p] h/\d [I Z o,I Z p]<d [I Z e,I Z g]))/\(¬g<(l:Int)->Y Tryz.prog 152 [S none 0 0,I Z e] h fun i j=>∃k m n,i=S k m n/\(X base h j->∃(o:LI)(p:LM),o [S k m n,I Z 0] j/\∀(q:O)(r s:Nat)(t:Int)(u:Heap),X base H u->o [S q r s,I Z t] u->(t<(l:Int)->∃v w,a=some (D v w none)/\0<=t/\t<(l:Int)/\∃x y z,C u v (w+N t*1)=some (S x y z)/\∃a1 b1:List Value,Row base u 5 1 q r s a1/\List.length b1=y*1/\allOne b1=true/\(y=0∨∃c1 d1,x=some (D c1 d1 none)/\cellsAt u c1 d1 0 b1)/\(r+y)*1<=140737488355328/\r+y<=9223372036854775807/\∀(c1:O)(d1:Nat)(e1:Heap),Grew base u e1 q s c1 d1 (r+y)->Row base e1 5 1 c1 (r+y) d1 (a1++b1)->∀f1:Int,f1=W Z (t+1)->o [S c1 (r+y) d1,I Z f1] e1/\p [S c1 (r+y) d1,I Z f1]<p [S q r s,I Z t])/\(¬t<(l:Int)->K (S q r s) [] u)))):=by kernel_rfl
theorem vd63(s:ByteArray)(most:Int)(base:Nat)(H:Heap)(K:KT):
 (fV TryzMutsJ Tryz.f143 base H [.v (.string s),.v (I Z most)] [] K)=(
 ∃(a:LI)(b:LM),a [Str s,S none 0 0,I Z 0,I Z 0,S none 0 0] H/\∀(c:ByteArray)(d:O)(e g:Nat)(h i:Int)(j:O)(k l:Nat)(m:Heap),X base H m->a [Str c,S d e g,I Z h,I Z i,S j k l] m->∃n,RunsTo Tryz.prog (binRun BinOp.neq 9 (Operand.tmp 16) (Operand.const (Str (ByteArray.mk #[]))) (Str c) (Str (ByteArray.mk #[]))) (B n)/\(n=true->Y Tryz.prog 195 [Str c,Str (ByteArray.mk #[10])] m fun o p=>∃q r t,o=T #[Str q,Str r,B t]/\(X base m p->(t=false->∀u:Int,u=W Z ((↑(ByteArray.size s):Int)-(↑(ByteArray.size c):Int))->K (T #[S j k l,I Z u,I Z 9]) [] p)/\(¬t=false->Y Tryz.prog 196 [Str q] p fun u v=>∃w x y z a1 b1 c1 d1 e1 f1,u=T #[A #[I Z w,I Z x,I Z y,I Z z,B a1,I Z b1,S c1 d1 e1],I Z f1]/\(X base p v->∀g1:Nat,(¬f1=0->∀h1:Int,h1=W Z ((↑(ByteArray.size s):Int)-(↑(ByteArray.size c):Int))->K (T #[S j k l,I Z h1,I Z f1]) [] v)/\(¬¬f1=0->((k:Int)=most->∀h1:Int,h1=W Z ((↑(ByteArray.size s):Int)-(↑(ByteArray.size c):Int))->K (T #[S j k l,I Z h1,I Z 2]) [] v)/\(¬(k:Int)=most->∀h1:Nat,∃i1:List Value,Row base v 126 7 j k l i1/\(k+1)*72<=140737488355328/\k+1<=9223372036854775807/\∀(j1:O)(k1:Nat)(l1:Heap),Grew base v l1 j l j1 k1 (k+1)->Row base l1 126 7 j1 (k+1) k1 (i1++[I Z w,I Z x,I Z y,I Z z,B a1,I Z b1,S c1 d1 e1])->a [Str r,S d e g,I Z h,I Z i,S j1 (k+1) k1] l1/\b [Str r,S d e g,I Z h,I Z i,S j1 (k+1) k1]<b [Str c,S d e g,I Z h,I Z i,S j k l]))))))/\(¬n=true->K (T #[S j k l,I Z (↑(ByteArray.size s):Int),I Z 0]) [] m)):=by kernel_rfl
theorem vd65(a a':O)(l c l' c':Nat)(base:Nat)(H:Heap)(K:KT):
 (fV TryzMutsJ Tryz.f129 base H [.v (S a l c),.v (S a' l' c')] [] K)=(
 (¬(l:Int)=(l':Int)->K (B false) [] H)/\(¬¬(l:Int)=(l':Int)->∃(b:LI)(d:LM),b [B false,I Z 0] H/\∀(e:Bool)(g:Int)(h:Heap),X base H h->b [B e,I Z g] h->(g<(l:Int)->∃i j,a=some (D i j none)/\0<=g/\g<(l:Int)/\∃k:Int,C h i (j+N g*1)=some (I IntKind.u8 k)/\∃m n,a'=some (D m n none)/\0<=g/\g<(l':Int)/\∃o:Int,C h m (n+N g*1)=some (I IntKind.u8 o)/\(¬k=o->K (B false) [] h)/\(¬¬k=o->∀p:Int,p=W Z (g+1)->b [B e,I Z p] h/\d [B e,I Z p]<d [B e,I Z g]))/\(¬g<(l:Int)->K (B true) [] h))):=by kernel_rfl
theorem vd60(a a':O)(l c l' c':Nat)(base:Nat)(H:Heap)(K:KT):
 (fV TryzMutsJ Tryz.f142 base H [.v (A #[S a l c,S a' l' c'])] [] K)=(
 ∀b:Nat,(fun w1:LB=>∃d:Prop,((60000<(l:Int)->w1=w1/\SubH H H/\d)/\(¬60000<(l:Int)->∀e:Int,e=W Z (60000-(l:Int))->w1=w1/\SubH H H/\(d↔e<(l':Int))))/\(d->K (I Z 2) [] H)/\(¬d->∃e:List UInt8,List.length e=l/\(l=0∨∃g h,a=some (D g h none)/\cellsAt H g h 0 (u8s e))/\Y Tryz.prog 143 [Str (ByteArray.mk (List.toArray e)),I Z 200] H fun g h=>∃i j k m n,g=T #[S i j k,I Z m,I Z n]/\(X base H h->K (I Z n) [] h))) [J b false 35 [S a l c,S a' l' c']]):=by kernel_rfl
theorem vd32(a a':O)(l c l' c':Nat)(kd ag tr n id:Int)(gd:Bool)(ra:O)(rl rc:Nat)(base:Nat)(H:Heap)(K:KT):
 (fV TryzMutsJ Tryz.f243 base H [.v (A #[S a l c,S a' l' c']),.v (A #[I Z kd,I Z ag,I Z tr,I Z n,B gd,I Z id,S ra rl rc])] [] K)=(
 ∀b d e:Nat,Y Tryz.prog 142 [A #[S a l c,S a' l' c']] H fun g h=>∃i,g=I Z i/\(X base H h->(¬i=0->K (T #[A #[S none 0 0,S none 0 0],I Z i]) [] h)/\(¬¬i=0->Y Tryz.prog 265 [A #[I Z kd,I Z ag,I Z tr,I Z n,B gd,I Z id,S ra rl rc]] h fun j k=>∃m o,j=T #[Str m,I Z o]/\(X base h k->(¬o=0->K (T #[A #[S none 0 0,S none 0 0],I Z o]) [] k)/\(¬¬o=0->∀p:Int,p=W Z ((↑(ByteArray.size m):Int)+1)->∀q:Int,q=W Z (60000-(l:Int))->∀r:Int,r=W Z (q-(l':Int))->(r<p->K (T #[A #[S none 0 0,S none 0 0],I Z 2]) [] k)/\(¬r<p->(Y Tryz.prog 169 [S a l c] k fun s t=>∃u v w,s=S u v w/\(X base k t->(Y Tryz.prog 169 [S a' l' c'] t fun x y=>∃z a1 b1,x=S z a1 b1/\(X base t y->(∃c1:List Value,Row base y 5 1 z a1 b1 c1/\a1+ByteArray.size m<=140737488355328/\∀(d1:O)(e1:Nat)(f1:Heap),Grew base y f1 z b1 d1 e1 (a1+ByteArray.size m)->Row base f1 5 1 d1 (a1+ByteArray.size m) e1 (c1++u8s (Array.toList (ByteArray.data m)))->∀(g1:Nat)(h1:Heap),X base f1 h1->f1 g1=none->h1 g1=some (boxKB 5 [I IntKind.u8 10])->∃i1 j1:List Value,Row base h1 5 1 d1 (a1+ByteArray.size m) e1 i1/\List.length j1=1*1/\allOne j1=true/\(1=0∨∃k1 l1,some (D g1 0 none)=some (D k1 l1 none)/\cellsAt h1 k1 l1 0 j1)/\(a1+ByteArray.size m+1)*1<=140737488355328/\a1+ByteArray.size m+1<=9223372036854775807/\∀(k1:O)(l1:Nat)(m1:Heap),Grew base h1 m1 d1 e1 k1 l1 (a1+ByteArray.size m+1)->Row base m1 5 1 k1 (a1+ByteArray.size m+1) l1 (i1++j1)->K (T #[A #[S u v w,S k1 (a1+ByteArray.size m+1) l1],I Z 0]) [] m1)/\∀(c1:Nat)(d1:Heap),X base y d1->y c1=none->d1 c1=some (boxKB 5 [I IntKind.u8 10])->∃e1:List Value,Row base d1 5 1 z a1 b1 e1/\a1+ByteArray.size m<=140737488355328/\∀(f1:O)(g1:Nat)(h1:Heap),Grew base d1 h1 z b1 f1 g1 (a1+ByteArray.size m)->Row base h1 5 1 f1 (a1+ByteArray.size m) g1 (e1++u8s (Array.toList (ByteArray.data m)))->∃i1 j1:List Value,Row base h1 5 1 f1 (a1+ByteArray.size m) g1 i1/\List.length j1=1*1/\allOne j1=true/\(1=0∨∃k1 l1,some (D c1 0 none)=some
 (D k1 l1 none)/\cellsAt h1 k1 l1 0 j1)/\(a1+ByteArray.size m+1)*1<=140737488355328/\a1+ByteArray.size m+1<=9223372036854775807/\∀(k1:O)(l1:Nat)(m1:Heap),Grew base h1 m1 f1 g1 k1 l1 (a1+ByteArray.size m+1)->Row base m1 5 1 k1 (a1+ByteArray.size m+1) l1 (i1++j1)->K (T #[A #[S u v w,S k1 (a1+ByteArray.size m+1) l1],I Z 0]) [] m1))/\∀(x:Nat)(y:Heap),X base t y->t x=none->y x=some (boxKB 5 [I IntKind.u8 10])->Y Tryz.prog 169 [S a' l' c'] y fun z a1=>∃b1 c1 d1,z=S b1 c1 d1/\(X base y a1->∃e1:List Value,Row base a1 5 1 b1 c1 d1 e1/\c1+ByteArray.size m<=140737488355328/\∀(f1:O)(g1:Nat)(h1:Heap),Grew base a1 h1 b1 d1 f1 g1 (c1+ByteArray.size m)->Row base h1 5 1 f1 (c1+ByteArray.size m) g1 (e1++u8s (Array.toList (ByteArray.data m)))->∃i1 j1:List Value,Row base h1 5 1 f1 (c1+ByteArray.size m) g1 i1/\List.length j1=1*1/\allOne j1=true/\(1=0∨∃k1 l1,some (D x 0 none)=some (D k1 l1 none)/\cellsAt h1 k1 l1 0 j1)/\(c1+ByteArray.size m+1)*1<=140737488355328/\c1+ByteArray.size m+1<=9223372036854775807/\∀(k1:O)(l1:Nat)(m1:Heap),Grew base h1 m1 f1 g1 k1 l1 (c1+ByteArray.size m+1)->Row base m1 5 1 k1 (c1+ByteArray.size m+1) l1 (i1++j1)->K (T #[A #[S u v w,S k1 (c1+ByteArray.size m+1) l1],I Z 0]) [] m1)))/\∀(s:Nat)(t:Heap),X base k t->k s=none->t s=some (boxKB 5 [I IntKind.u8 10])->Y Tryz.prog 169 [S a l c] t fun u v=>∃w x y,u=S w x y/\(X base t v->Y Tryz.prog 169 [S a' l' c'] v fun z a1=>∃b1 c1 d1,z=S b1 c1 d1/\(X base v a1->∃e1:List Value,Row base a1 5 1 b1 c1 d1 e1/\c1+ByteArray.size m<=140737488355328/\∀(f1:O)(g1:Nat)(h1:Heap),Grew base a1 h1 b1 d1 f1 g1 (c1+ByteArray.size m)->Row base h1 5 1 f1 (c1+ByteArray.size m) g1 (e1++u8s (Array.toList (ByteArray.data m)))->∃i1 j1:List Value,Row base h1 5 1 f1 (c1+ByteArray.size m) g1 i1/\List.length j1=1*1/\allOne j1=true/\(1=0∨∃k1 l1,some (D s 0 none)=some (D k1 l1 none)/\cellsAt h1 k1 l1 0 j1)/\(c1+ByteArray.size m+1)*1<=140737488355328/\c1+
 ByteArray.size m+1<=9223372036854775807/\∀(k1:O)(l1:Nat)(m1:Heap),Grew base h1 m1 f1 g1 k1 l1 (c1+ByteArray.size m+1)->Row base m1 5 1 k1 (c1+ByteArray.size m+1) l1 (i1++j1)->K (T #[A #[S w x y,S k1 (c1+ByteArray.size m+1) l1],I Z 0]) [] m1)))))))):=by kernel_rfl
theorem vd33(a a':O)(l c l' c':Nat)(base:Nat)(H:Heap)(K:KT):
 (fV TryzMutsJ Tryz.f244 base H [.v (A #[S a l c,S a' l' c'])] [] K)=(
 ∀b d:Nat,Y Tryz.prog 142 [A #[S a l c,S a' l' c']] H fun e g=>∃h,e=I Z h/\(X base H g->(¬h=0->K (T #[A #[S none 0 0,S none 0 0],I Z h]) [] g)/\(¬¬h=0->∀(i:Nat)(j:Heap),X base g j->g i=none->j i=some (boxKB 33 [S a l c,S a' l' c'])->Y Tryz.prog 80 [S (some (D i 0 none)) 2 2] j fun k m=>∃n o p,k=S n o p/\(X base j m->∀q:Nat,Y Tryz.prog 142 [A #[S n o p,S none 0 0]] m fun r s=>∃t,r=I Z t/\(X base m s->(¬t=0->K (T #[A #[S none 0 0,S none 0 0],I Z t]) [] s)/\(¬¬t=0->K (T #[A #[S n o p,S none 0 0],I Z 0]) [] s)))))):=by kernel_rfl
theorem vd36(a a':O)(l c l' c':Nat)(base:Nat)(H:Heap)(K:KT):
 (fV TryzMutsJ Tryz.f64 base H [.v (A #[S a l c,S a' l' c'])] [] K)=(
 ∀b d:Nat,Y Tryz.prog 142 [A #[S a l c,S a' l' c']] H fun e g=>∃h,e=I Z h/\(X base H g->(¬h=0->K (T #[A #[S none 0 0,S none 0 0],S none 0 0,I Z h]) [] g)/\(¬¬h=0->∃i:List UInt8,List.length i=l/\(l=0∨∃j k,a=some (D j k none)/\cellsAt g j k 0 (u8s i))/\Y Tryz.prog 143 [Str (ByteArray.mk (List.toArray i)),I Z 200] g fun j k=>∃m n o p q,j=T #[S m n o,I Z p,I Z q]/\(X base g k->∃r:List UInt8,List.length r=l'/\(l'=0∨∃s t,a'=some (D s t none)/\cellsAt k s t 0 (u8s r))/\∀s:Int,s=W Z (200-(n:Int))->Y Tryz.prog 143 [Str (ByteArray.mk (List.toArray r)),I Z s] k fun t u=>∃v w x y z,t=T #[S v w x,I Z y,I Z z]/\(X base k u->0<=y/\y<=(c':Int)/\∀(a1:Nat)(b1:Heap),X base u b1->u a1=none->b1 a1=some (boxKB 33 [S a l c,S a' (N y) c'])->Y Tryz.prog 80 [S (some (D a1 0 none)) 2 2] b1 fun c1 d1=>∃e1 f1 g1,c1=S e1 f1 g1/\(X base b1 d1->∃h1 i1:List Value,Row base d1 126 7 m n o h1/\List.length i1=w*7/\allOne i1=true/\(w=0∨∃j1 k1,v=some (D j1 k1 none)/\cellsAt d1 j1 k1 0 i1)/\(n+w)*72<=140737488355328/\n+w<=9223372036854775807/\∀(j1:O)(k1:Nat)(l1:Heap),Grew base d1 l1 m o j1 k1 (n+w)->Row base l1 126 7 j1 (n+w) k1 (h1++i1)->K (T #[A #[S e1 f1 g1,S none 0 0],S j1 (n+w) k1,I Z 0]) [] l1)))))):=by kernel_rfl
theorem vd39(a a' b b':O)(l c l' c' m d m' d':Nat)(base:Nat)(H:Heap)(K:KT):
 (fV TryzMutsJ Tryz.f37 base H [.v (A #[S a l c,S a' l' c']),.v (A #[S b m d,S b' m' d'])] [] K)=(
 ∀e g:Nat,(fun w1:LB=>∃h:Prop,(Y Tryz.prog 129 [S a l c,S b m d] H fun i j=>∃k,i=B k/\(X base H j->(k=true->Y Tryz.prog 129 [S a' l' c',S b' m' d'] j fun n o=>∃p,n=B p/\(X base j o->w1=w1/\SubH H o/\(h↔p=true)))/\(k=false->w1=w1/\SubH H j/\¬h)))/\K (B (@decide h (Classical.propDecidable h))) [] H) [J e false 35 [S a l c,S a' l' c'],J g false 35 [S b m d,S b' m' d']]):=by kernel_rfl
theorem vd79(a:O)(l c:Nat)(k:Int)(base:Nat)(H:Heap)(K:KT):
 (fV TryzMutsJ Tryz.f152 base H [.v (S a l c),.v (I Z k)] [] K)=(
 (k<0->False)/\(¬k<0->∀b:Int,b=W Z ((c:Int)-(l:Int))->∀d:Int,d=W Z (k-b)->(0<d->0<=(c:Int)/\(c:Int)<=(c:Int)/\∃(e:List Value)(g:Nat),d=(g:Int)/\0<g/\c<N (c:Int)+g/\Row base H 5 1 a (N (c:Int)) c e/\(N (c:Int)+g)*1<=140737488355328/\N (c:Int)+g<=9223372036854775807/\∀(h i:Nat)(j:Heap),X base H j->H h=none->Row base j 5 1 (some (D h 0 none)) (N (c:Int)+g) i (e++List.flatten (List.replicate g [I IntKind.u8 0]))->0<=(l:Int)/\(l:Int)<=(i:Int)/\K (S (some (D h 0 none)) (N (l:Int)) i) [] j)/\(¬0<d->K (S a l c) [] H))):=by kernel_rfl
open Go Go.Proofs
end Go.Vg
