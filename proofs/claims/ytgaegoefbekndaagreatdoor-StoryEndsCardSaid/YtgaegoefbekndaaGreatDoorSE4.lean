/- What is proved here: a part of the proof of laws of this seat: what a contract is, how it comes of a condition, contracts of the functions that are reached, the plain laws. -/
import Derived.Test.YtgaegoefbekndaaGreatDoorSE3
import Derived.Laws.Externs
import Derived.Lib.Overlaps
set_option linter.unusedSimpArgs false
set_option linter.unusedVariables false
set_option maxRecDepth 100000
namespace Go.Vg
open Go Go.Proofs
theorem Row.cellsAt{base:Nat}{H:Heap}{e:TypeId}{sz:Nat}{g n c:Nat}{xs:List Value}(h:Row base H e sz (some ⟨g,0,none⟩) n c xs){k:Nat}(hk:k<=xs.length)(hn:0<n):cellsAt H g k 0 (xs.drop k):=by
 obtain⟨b,kb,ha,_,_,hH,_,_,hc⟩:=h.block hn
 obtain rfl:g=b:=by simpa using ha
 refine cellsAt_of _ 0 fun j v hj=> ?_
 rw[List.getElem?_drop] at hj
 unfold Heap.cell
 rw[hH]
 have:=hc _ v hj
 rw[Nat.zero_add];exact this
theorem box_cellsAt{H:Heap}{g:Nat}{e:TypeId}{cs:List Value}(h:H g=some (boxKB e cs)):Vg.cellsAt H g 0 0 cs:=
 cellsAt_of _ 0 fun j v hj=>by unfold Heap.cell;rw[h];simpa[boxKB] using hj
theorem allOne_mem{xs:List Value} :allOne xs=true↔ ∀v∈xs,v.oneCell'=true:=by
 induction xs with
 |nil=>simp[allOne]
 |cons x r ih=>simp[allOne,ih]
theorem allOne_drop{xs:List Value}(h:allOne xs=true)(k:Nat):allOne (xs.drop k)=true:=allOne_mem.2 fun v hv=>allOne_mem.1 h v (List.mem_of_mem_drop hv)
theorem Row.past{base:Nat}{H H':Heap}{e:TypeId}{sz:Nat}{a:O}{n c b o:Nat}{k:KB}{xs vs:List Value}(h:Row base H e sz a n c xs)(ha:a=some ⟨b,0,none⟩)(hc:c≠0)(hk:H b=some k)(ho:xs.length<=o)(hu:Upd H b o k vs H'):Row base H' e sz a n c xs:=by
 obtain⟨h1,h2,h3,h4⟩:=h
 rcases h4 with⟨_,h5⟩|⟨g,k',hg,hbg,hH,h6,h7,h8,h9⟩
 ·exact absurd h5 hc
 ·rw[ha] at hg
  simp only[Option.some.injEq,Addr.mk.injEq,and_true] at hg
  subst hg
  rw[hk] at hH
  obtain rfl:=Option.some.inj hH
  refine⟨h1,h2,h3,.inr ⟨b,_,ha,hbg,hu.here,h6,h7,h8,fun j v hv=> ?_⟩⟩
  have hj:=(List.getElem?_eq_some_iff.1 hv).1
  simp only[updCells]
  rw[if_neg (by omega)]
  exact h9 j v hv
theorem Grew.refl{base:Nat}{H:Heap}{a:O}{c nn:Nat} :Grew base H H a c a c nn:=
 ⟨fun _ _ h _=>h,fun x k h h'=>by(rw[h] at h';cases h'),fun hc _ _=> .inr ⟨rfl,hc⟩,fun _=>⟨rfl,rfl⟩⟩
theorem Grew.upd{base:Nat}{H H' H'':Heap}{a:O}{c nn b o:Nat}{k:KB}{vs:List Value}(h:Grew base H H' a c a c nn)(ha:a=some ⟨b,0,none⟩)(hc:c≠0)(hk:H' b=some k)(hu:Upd H' b o k vs H''):Grew base H H'' a c a c nn:=
 ⟨fun x kx hx hne=>by
  have hb:x≠b:=fun e=>by
   subst e
   rcases hne with hne|hne
   ·exact hc hne
   ·exact hne ha
  rw[hu.there x hb];exact h.keep x kx hx hne,fun x kx hx hn=>by
  by_cases e:x=b
  ·subst e;exact h.fresh x k hk hn
  ·rw[hu.there x e] at hx;exact h.fresh x kx hx hn,h.place,h.room⟩
def delF(base sz:Nat)(e:TypeId)(bytes:Nat)(z:List Value)(own:List Bx)(H:Heap)(f:SV->List Bx->Heap->Prop)(a:O)(n c:Nat)(i j:Int):Prop:=
 0<=i/\i<=j/\j<=(↑n:Int)/\(↑n:Int)<=(↑c:Int)/\∀(a':O),(i<(↑n:Int)->a'=Option.map (fun(ad:Addr)=>Addr.add ad (Int.toNat i*sz)) a)->(i=j->f (SV.v (Value.slice a n c)) own H)/\(¬i=j->0<=i/\
 i<=(↑c:Int)/\0<=j/\j<=(↑n:Int)/\n<=c/\∀(a':O),(j<(↑c:Int)->a'=Option.map (fun(ad:Addr)=>Addr.add ad (Int.toNat j*sz)) a)->∃(xs:List Value),∃(cells:List Value),Row base H e sz a (Int.toNat
 i) c xs/\List.length cells=(n-Int.toNat j)*sz/\allOne cells=true/\(n-Int.toNat j=0∨ ∃(b:Nat),∃(o:Nat),a'=some (Addr.mk b o none)/\cellsAt H b o 0 cells)/\(Int.toNat i+(n-Int.toNat j))*bytes<=
 140737488355328/\Int.toNat i+(n-Int.toNat j)<=9223372036854775807/\∀(a':O)(c':Nat)(H':Heap),Grew base H H' a c a' c' (Int.toNat i+(n-Int.toNat j))->Row base H' e sz a' (Int.toNat i+(n-Int.toNat j)) c' (xs++cells)->0<=(↑(Int.toNat
 i+(n-Int.toNat j)):Int)/\(↑(Int.toNat i+(n-Int.toNat j)):Int)<=(↑n:Int)/\(↑n:Int)<=(↑c':Int)/\∀(a'_1:O),((↑(Int.toNat i+(n-Int.toNat j)):Int)<(↑c':Int)->a'_1=Option.map (fun(ad:Addr)
 =>Addr.add ad (Int.toNat (↑(Int.toNat i+(n-Int.toNat j)):Int)*sz)) a')->(Int.toNat (↑n:Int)-Int.toNat (↑(Int.toNat i+(n-Int.toNat j)):Int)=0->f (SV.v (Value.slice a' (Int.toNat i+(n-Int.toNat j)) c')) own H')
 /\(Int.toNat (↑n:Int)-Int.toNat (↑(Int.toNat i+(n-Int.toNat j)):Int)≠0->∃(b:Nat),∃(o:Nat),∃(k:KB),a'_1=some (Addr.mk b o none)/\H' b=some k/\KB.free k=true/\base<=b/\o+(Int.toNat (↑n:Int)-
 Int.toNat (↑(Int.toNat i+(n-Int.toNat j)):Int))*sz<=KB.size k/\∀(H'_1:Heap),Upd H' b o k (List.flatten (List.replicate (Int.toNat (↑n:Int)-Int.toNat (↑(Int.toNat i+(n-Int.toNat j)):Int)) z)) H'_1->f (SV.v (Value.slice a' (Int.toNat i+(n-Int.toNat j)) c')) own H'_1))
def delP(base sz:Nat)(e:TypeId)(own:List Bx)(H:Heap)(f:SV->List Bx->Heap->Prop)(a:O)(n c:Nat)(i j:Int):Prop:=
 ∃(xs:List Value)(k m:Nat),i=(k:Int)/\j=(m:Int)/\k<=m/\m<=n/\n<=1000000/\Row base H e sz a n c xs/\allOne xs=true/\
  ∀H',Grew base H H' a c a c (k+(n-m))->Row base H' e sz a (k+(n-m)) c (xs.take (k*sz)++xs.drop (m*sz))->f (.v (.slice a (k+(n-m)) c)) own H'
theorem del_sum{base sz:Nat}{e:TypeId}{bytes:Nat}(hb:bytes<=100000){z:List Value}{own:List Bx}{H:Heap}{f:SV->List Bx->Heap->Prop}{a:O}{n c:Nat}{i j:Int}(h:delP base sz e own H f a n c i j):delF base sz e bytes z own H f a n c i j:=by
 obtain⟨xs,k,m,rfl,rfl,hkm,hmn,hn6,hR,h1,h⟩:=h
 have hnc:=hR.2.1
 have hxl:=hR.1
 have hmx:=hR.2.2.1
 simp only[maxLen] at hmx
 unfold delF
 simp only[Int.toNat_natCast]
 refine⟨by omega,by omega,by omega,by omega,fun a1 ha1=>⟨fun hkm2=> ?_,fun hne=>⟨by omega,by omega,by omega,by omega,by omega,fun a2 ha2=> ?_⟩⟩⟩
 ·obtain rfl:k=m:=by omega
  have:=h H Grew.refl (by rw[List.take_append_drop,show k+(n-k)=n from by omega];exact hR)
  rw[show k+(n-k)=n from by omega] at this
  exact this
 have hn0:0<n:=by omega
 obtain⟨b,kb,ha,hbase,hc0,hHb,hfree,hsz,hcl⟩:=hR.block hn0
 subst ha
 have hms:m*sz<=n*sz:=Nat.mul_le_mul_right _ hmn
 have hby:(k+(n-m))*bytes<=1000000*100000:=Nat.mul_le_mul (by omega) hb
 refine⟨xs.take (k*sz),xs.drop (m*sz),hR.short (by omega),by rw[List.length_drop,hxl,Nat.sub_mul],allOne_drop h1 _,?_,by omega,by omega,fun a3 c3 H3 hG hR3=> ?_⟩
 ·by_cases hz:n-m=0
  ·exact .inl hz
  ·refine .inr ⟨b,m*sz,?_,hR.cellsAt (by omega) hn0⟩
   rw[ha2 (by omega)];simp[addr_add]
 ·obtain⟨rfl,rfl⟩:=hG.room (by omega)
  have hlt:k+(n-m)<n:=by omega
  refine⟨by omega,by omega,by omega,fun a4 ha4=>⟨fun hz=>by omega,fun _=> ?_⟩⟩
  have hR3b:=hR3.2.2.2
  rcases hR3b with⟨_,h0⟩|⟨g,kg,hg,hgb,hHg,_,hgs,hgf,_⟩
  ·exact absurd h0 hc0
  obtain rfl:b=g:=by simpa using hg
  refine⟨b,(k+(n-m))*sz,kg,?_,hHg,hgf,hbase,?_,fun H4 hu=> ?_⟩
  ·rw[ha4 (by omega)];simp[addr_add]
  ·rw[hgs,←Nat.add_mul];exact Nat.mul_le_mul_right _ (by omega)
  ·exact h H4 (hG.upd rfl hc0 hHg hu) (hR3.past rfl hc0 hHg (by rw[hR3.1];exact Nat.le_refl _) hu)
def insP(base:Nat)(own:List Bx)(H:Heap)(f:SV->List Bx->Heap->Prop)(a:O)(n c:Nat)(i:Int)(g:Nat):Prop:=
 ∃(xs cells:List Value)(k:Nat),i=(k:Int)/\k<=n/\n<=1000000/\Row base H 91 2 a n c xs/\allOne xs=true/\cells.length=2/\allOne cells=true/\H g=some (boxKB 91 cells)/\(c≠0->a≠some ⟨g,0,none⟩)/\
  ∀a' c' H',Grew base H H' a c a' c' (n+1)->Row base H' 91 2 a' (n+1) c' (xs.take (k*2)++cells++xs.drop (k*2))->f (.v (.slice a' (n+1) c')) own H'
theorem overlaps_apart{H:Heap}{g b o lb cb:Nat}{k kg:KB}(hg:H g=some kg)(hgf:kg.free=true)(hb:H b=some k)(hks:k.size≠0)(hne:g≠b):
  ExtRuns Tryz.prog H 258 [.slice (some ⟨g,0,none⟩) 1 1,.slice (some ⟨b,o,none⟩) lb cb] (.bool false):=fun w hw=>by
 obtain⟨cg,frg,hcg,hsg,hfg,_⟩:=hw g _ hg
 obtain rfl:=hfg hgf
 obtain⟨cb',frb,hcb,hsb,_,_⟩:=hw b _ hb
 have h48:∀w,(Go.sizeOf 91).run Tryz.prog w= .ok 2 w:=fun w=>by have z:= Tryz.sizeOf91;exact z w
 rw[run_callFunc_extern Tryz.func258 (by kernel_rfl) (by kernel_rfl) (by kernel_rfl) (e:=Extern.SlicesOverlaps.overlaps #[22,22] #[4]) (by kernel_rfl)]
 rw[Lib.run_overlaps_apart w 22 4 91 Tryz.underlying22 2 h48 ⟨g,0,none⟩ ⟨b,o,none⟩ 1 1 lb cb hne kg.ty k.ty cg.size cb'.size (by simp[World.shape?,hcg]) (by simp[World.shape?,hcb]) (by omega) (by simp[World.frozen?,hcg]) (by simp[World.frozen?,hcg])]
 rfl
theorem ins_list{xs cells zs:List Value}{k n:Nat}(hk:k<=n)(hx:xs.length=n*2)(hc:cells.length=2)(hz:zs.length=(n+1-k)*2):
  setRange (setRange (xs.take (k*2)++zs) (k*2) cells) ((k+1)*2) (xs.drop (k*2))=xs.take (k*2)++cells++xs.drop (k*2):=by
 have e1:(xs.take (k*2)).length=k*2:=by rw[List.length_take];omega
 have h1:setRange (xs.take (k*2)++zs) (k*2) cells=xs.take (k*2)++setRange zs 0 cells:=by
  have:=setRange_app (xs:=xs.take (k*2)) (vs:=cells) (ys:=zs) (o:=0) (by omega)
  rw[e1,Nat.add_zero] at this
  exact this
 have h2:setRange zs 0 cells=cells++zs.drop 2:=by
  rw[setRange_eq _ _ _ (by omega)];simp[hc]
 rw[h1,h2,←List.append_assoc]
 have h3:=setRange_app (xs:=xs.take (k*2)++cells) (vs:=xs.drop (k*2)) (ys:=zs.drop 2) (o:=0) (by simp;omega)
 rw[show(xs.take (k*2)++cells).length+0=(k+1)*2 from by simp;omega] at h3
 rw[h3,setRange_whole (by simp;omega)]
theorem ins_sum{base:Nat}{H0:Heap}{own:List Bx}{H:Heap}{f:SV->List Bx->Heap->Prop}{a:O}{n c:Nat}{i:Int}{g:Nat}(h:insP base own H f a n c i g):
  codeI ⟨Tryz.prog,Tryz.f235.ntmps,⟨TryzList,TryzIn2,true⟩,base,H0⟩ Tryz.f235 [.v (.slice a n c),.v (.int .i64 i),.v (.slice (some ⟨g,0,none⟩) 1 1)] own H f:=by
 rw[vcI122]
 obtain⟨xs,cells,k,rfl,hk,hn6,hR,hx1,hcl,hc1,hg,hga,h⟩:=h
 have hnc:=hR.2.1
 have hxl:=hR.1
 have hcm:=hR.2.2.1
 simp only[maxLen] at hcm
 have hgc:=box_cellsAt hg
 simp only[Int.toNat_natCast]
 refine⟨by omega,by omega,hnc,fun a1 _=>⟨fun h=>absurd h (by decide),fun _=>⟨fun hkn=> ?_,fun hkn=> ?_⟩⟩⟩
 ·obtain rfl:k=n:=by omega
  refine⟨xs,cells,hR,by omega,hc1,.inr ⟨g,0,rfl,hgc⟩,by omega,by omega,fun a2 c2 H2 hG hR2=>h a2 c2 H2 hG ?_⟩
  rw[List.take_of_length_le (by omega),List.drop_eq_nil_of_le (by omega),List.append_nil]
  exact hR2
 rintro r rfl
 rw[wrap_in (by omega) (by omega)]
 have hn0:0<n:=by omega
 obtain⟨b,kb,ha,hbase,hc0,hHb,hfree,hsz,hcell⟩:=hR.block hn0
 subst ha
 have hgb:g≠b:=fun e=>hga hc0 (by rw[e])
 refine⟨fun hroom=> ?_,fun hroom=> ?_⟩
 ·refine⟨by omega,by omega,?_⟩
  rintro r rfl
  rw[wrap_in (by omega) (by omega)]
  rintro r rfl
  rw[wrap_in (by omega) (by omega)]
  refine⟨xs.take (k*2),n+1-k,by omega,by omega,by omega,hR.short hk,by omega,by omega,fun g1 c1 H1 hN1 hg1 hR1=> ?_⟩
  have e1:k+(n+1-k)=n+1:=by omega
  rw[e1] at hR1⊢
  have hne1:g1≠g:=fun e=>by rw[e,hg] at hg1;cases hg1
  have hne2:g1≠b:=fun e=>by rw[e,hHb] at hg1;cases hg1
  refine⟨by omega,by omega,hR1.2.1,fun a2 ha2=>⟨fun h=>by omega,fun _=> ?_⟩⟩
  obtain⟨b1,k1,hb1,hbs1,hc10,hH1,hf1,hs1,_⟩:=hR1.block (by omega)
  obtain rfl:g1=b1:=by simpa using hb1
  have hc1n:=hR1.2.1
  refine⟨cells,g,0,g1,k*2,k1,by omega,hc1,rfl,cellsAt_ext hN1.ext hgc,by rw[ha2 (by omega)];simp[addr_add],hH1,hf1,hbs1,by rw[hs1];omega,fun H2 hu2=> ?_⟩
  rintro r rfl
  try rw[wrap_in (by omega) (by omega)]
  have hR2:=hR1.upd rfl hc10 hH1 (o:=k*2) (vs:=cells) (by rw[hR1.1];omega) hu2
  refine⟨by omega,by omega,by omega,fun a3 ha3=>⟨by omega,by omega,hnc,fun a4 ha4=>⟨fun h=>by omega,fun _=> ?_⟩⟩⟩
  have hHb2:H2 b=some kb:=by rw[hu2.there b (fun e=>hne2 e.symm)];exact hN1.ext b kb hHb
  have hRb2:Row base H2 91 2 (some ⟨b,0,none⟩) n c xs:=⟨hxl,hnc,hR.2.2.1,.inr ⟨b,kb,rfl,hbase,hHb2,by
   rcases hR.2.2.2 with⟨h0,_⟩|⟨b',kb',hb',_,hH',hty,_⟩
   ·omega
   ·obtain rfl:b=b':=by simpa using hb'
    rw[hHb] at hH';cases hH';exact hty,hsz,hfree,hcell⟩⟩
  obtain⟨b2,k2,hb2,_,_,hH2,hf2,hs2,_⟩:=hR2.block (by omega)
  obtain rfl:g1=b2:=by simpa using hb2
  refine⟨xs.drop (k*2),b,k*2,g1,(k+1)*2,k2,by rw[List.length_drop];omega,allOne_drop hx1 _,by rw[ha4 (by omega)];simp[addr_add],hRb2.cellsAt (by omega) hn0,by rw[ha3 (by omega)];simp[addr_add];try omega,hH2,hf2,hbs1,by rw[hs2,List.length_drop];omega,fun H3 hu3=> ?_⟩
  have hR3:=hR2.upd rfl hc10 hH2 (o:=(k+1)*2) (vs:=xs.drop (k*2)) (by rw[hR2.1,List.length_drop];omega) hu3
  rw[ins_list hk hxl hcl (by simp)] at hR3
  refine h _ _ H3 ⟨fun x kx hx _=> ?_,fun x kx hx hn=> ?_,fun _ x hx=> ?_,fun h=>by omega⟩ hR3
  ·have hne:x≠g1:=fun e=>by rw[e,hg1] at hx;cases hx
   rw[hu3.there x hne,hu2.there x hne];exact hN1.ext x kx hx
  ·by_cases e:x=g1
   ·subst e;exact hbs1
   ·rw[hu3.there x e,hu2.there x e] at hx;exact hN1.fresh x kx hx hn
  ·obtain rfl:g1=x:=by simpa using hx
   exact .inl hg1
 ·rintro r rfl
  rw[wrap_in (by omega) (by omega)]
  refine⟨by omega,by omega,?_⟩
  rintro r rfl
  rw[show Int.toNat ((n:Int)+1)=n+1 from by omega,show Int.toNat ((k:Int)+1)=k+1 from by omega]
  refine⟨by omega,by omega,by omega,fun a2 ha2=> ?_⟩
  obtain rfl:a2=some ⟨b,(k+1)*2,none⟩:=by rw[ha2 (by omega)];simp[addr_add]
  refine⟨overlaps_apart hg rfl hHb (by omega) hgb,?_⟩
  rintro r rfl
  rw[show Int.toNat ((k:Int)+1)=k+1 from by omega]
  refine⟨by omega,by omega,by omega,fun a3 ha3=>⟨by omega,by omega,by omega,fun a4 ha4=>⟨fun h=>by omega,fun _=> ?_⟩⟩⟩
  have hm:min (n+1-k) (n+1-(k+1))=n-k:=by omega
  refine⟨xs.drop (k*2),b,k*2,b,(k+1)*2,kb,by rw[List.length_drop,hm];omega,allOne_drop hx1 _,by rw[ha4 (by omega)];simp[addr_add],hR.cellsAt (by omega) hn0,by rw[ha3 (by omega)];simp[addr_add],hHb,hfree,hbase,by rw[hsz,List.length_drop];omega,fun H3 hu3=>⟨by omega,by omega,by omega,fun a5 ha5=>⟨fun h=>by omega,fun _=> ?_⟩⟩⟩
  have hm1:min 1 (n+1-k)=1:=by omega
  refine⟨cells,g,0,b,k*2,_,by rw[hm1];omega,hc1,rfl,box_cellsAt (by rw[hu3.there g hgb];exact hg),by rw[ha5 (by omega)];simp[addr_add],hu3.here,hfree,hbase,by show k*2+cells.length<=kb.size;rw[hsz];omega,fun H4 hu4=> ?_⟩
  refine h _ _ H4 (Grew.upd (Grew.upd Grew.refl rfl hc0 hHb hu3) rfl hc0 hu3.here hu4) ⟨by simp;omega,by omega,hR.2.2.1,.inr ⟨b,_,rfl,hbase,hu4.here,?_,hsz,hfree,fun j v hj=> ?_⟩⟩
  ·rcases hR.2.2.2 with⟨h0,_⟩|⟨b',kb',hb',_,hH',hty,_⟩
   ·omega
   ·obtain rfl:b=b':=by simpa using hb'
    rw[hHb] at hH';cases hH';exact hty
  ·simp only[updCells,hcl,List.length_drop,hxl]
   rw[List.append_assoc] at hj
   by_cases c1:j<k*2
   ·rw[List.getElem?_append_left (by simp;omega),List.getElem?_take,if_pos c1] at hj
    rw[if_neg (by omega),if_neg (by omega)]
    exact hcell j v hj
   ·rw[List.getElem?_append_right (by simp;omega),show j-(xs.take (k*2)).length=j-k*2 from by simp;omega] at hj
    by_cases c2:j<(k+1)*2
    ·rw[List.getElem?_append_left (by omega)] at hj
     rw[if_pos (by omega)];exact hj
    ·rw[List.getElem?_append_right (by omega)] at hj
     have hlt:=(List.getElem?_eq_some_iff.1 hj).1
     rw[List.length_drop] at hlt
     rw[if_neg (by omega),if_pos (by omega),show j-(k+1)*2=j-k*2-cells.length from by omega]
     exact hj
open Go Go.Proofs Go.RowKit Go.Shelf
set_option maxHeartbeats 1000000 in
theorem str_run{w:World}{b g cap:Nat}{p:Value}{cur:Array Value}{fz:Nat×Nat}{l:List UInt8}(hbk:w.heap[b]?=some (.cells #[p,.slice (some ⟨g,0,none⟩) l.length cap] 311 (0,0)))(h0:l≠[])
  (hg:w.heap[g]?=some (.cells cur 5 fz)) (hn:l.length<=cap) (hcm:cap<=maxLen) (hcs:cur.size=cap) (hc:∀(j:Nat)(x:UInt8),l[j]?=some x->w.cell? ⟨g,j,none⟩=some (.int .u8 x.toNat)):
  Calls Tryz.prog 285 #[.pointer (some ⟨b,0,none⟩)] w fun e w'=>e= .returned (.string ⟨l.toArray⟩)/\w'=w.drew.freeze ⟨g,0,none⟩ l.length:=by
 have hl0:l.length≠0:=by simpa using h0
 have c1:w.drew.cell? ⟨b,1,none⟩=some (.slice (some ⟨g,0,none⟩) l.length cap):=by
  have:w.drew.heap[b]?=some (.cells #[p,.slice (some ⟨g,0,none⟩) l.length cap] 311 (0,0)):=hbk
  rw[Lib.cell_of_heap this];rfl
 have hSD:(Builtin.unsafeSliceData_ #[33] 333 #[.slice (some ⟨g,0,none⟩) l.length cap]).run Tryz.prog w.drew= .ok (.pointer (some ⟨g,0,none⟩)) w.drew:=
  Lib.run_unsafeSliceData_row _ _ _ _ _ _ (by omega)
 have hUS:(Builtin.unsafeString_ #[333,3] 9 #[.pointer (some ⟨g,0,none⟩),.int .i64 l.length]).run Tryz.prog w.drew= .ok (.string ⟨l.toArray⟩) (w.drew.freeze ⟨g,0,none⟩ l.length):=by
  refine Lib.run_unsafeString_row w.drew 333 3 9 5 Tryz.underlying333 (by kernel_rfl) g cur.size (by have hg':w.drew.heap[g]?=some (.cells cur 5 fz):=hg;simp[World.shape?,hg']) l h0 (by omega) (by unfold maxLen at hcm;omega) ?_
  intro j x hx
  have:=hc j x hx
  simpa[addr_add] using this
 go_enter Tryz.func285,Tryz.ntmps285
 go_wp2
 go_region
 all_goals (go_wp2;go_ret;exact⟨rfl,rfl⟩)
def strP(base:Nat)(own:List Bx)(H:Heap)(f:SV->List Bx->Heap->Prop)(i:Nat):Prop:=
 match own[i]? with
 |some ⟨b,false,ty,[p,.slice a n c]⟩=>ty= 311/\0<n/\
  ∃l:List UInt8,Row base H 5 1 a n c (u8s l)/\∀H',(∀x k,H x=some k->a≠some ⟨x,0,none⟩->H' x=some k)->(∀x k,H' x=some k->H x=some k)->f (.v (.string ⟨l.toArray⟩)) own H'
 |_=>False
noncomputable def TryzSum:InlFn:=fun base H0 g pre own H f=>
 if g= 285 then(match pre with
  | [.loc i 0]=>some (strP base own H f i)
  |_=>none)
 else if g= 235 then(match pre with
  | [.v (.slice a n c),.v (.int .i64 i),.v (.slice (some ⟨g',0,none⟩) 1 1)]=>some (insP base own H f a n c i g')
  |_=>none)
 else if g= 236 then(match pre with
  | [.v (.slice a n c),.v (.int .i64 i),.v (.int .i64 j)]=>some (delP base 2 91 own H f a n c i j)
  |_=>none)
 else if g= 43 then(match pre with
  | [.v (.slice a n c),.v (.int .i64 i),.v (.int .i64 j)]=>some (delP base 6 74 own H f a n c i j)
  |_=>none)
 else TryzIn3 base H0 g pre own H f
theorem freeze_heap(w:World)(g n:Nat){k:Nat}(hk:k≠g):(w.drew.freeze ⟨g,0,none⟩ n).heap[k]?=w.heap[k]?:=by
 unfold World.freeze
 split
 ·rfl
 ·show(w.heap.modify g _)[k]?=_
  rw[Array.getElem?_modify,if_neg (fun e=>hk e.symm)]
theorem freeze_size(w:World)(g n:Nat):(w.drew.freeze ⟨g,0,none⟩ n).heap.size=w.heap.size:=by
 unfold World.freeze
 split
 ·rfl
 ·show(w.heap.modify g _).size=_
  simp
theorem freeze_os(w:World)(g n:Nat):(w.drew.freeze ⟨g,0,none⟩ n).os=w.os/\(w.drew.freeze ⟨g,0,none⟩ n).tape=w.tape/\(w.drew.freeze ⟨g,0,none⟩ n).output=w.output:=by
 unfold World.freeze
 split<;>exact⟨rfl,rfl,rfl⟩
theorem in3_at{g:FuncId}{fn:Func}(hl:lookFn g TryzFs=some fn){pre:List SV}(hn:pre.length<=fn.ntmps){base:Nat}{H0:Heap}{own:List Bx}{H:Heap}{f:SV->List Bx->Heap->Prop} :
  TryzIn3 base H0 g pre own H f=some (codeI ⟨Tryz.prog,fn.ntmps,⟨TryzList,TryzIn2,true⟩,base,H0⟩ fn pre own H f):=by
 unfold TryzIn3 inlOf
 rw[hl]
 dsimp only
 rw[if_pos hn]
theorem Tryzsum(j:Bool):InlOk Tryz.prog ⟨TryzList,TryzSum,j⟩:=by
 have key:∀base H0 g pre own H f p q,TryzIn3 base H0 g pre own H f=some q->(p->q)->TryzList.contains g=true/\(p->∀(C:Cfg)(w0:World)(own0:List Nat)(w:World),C.base=base->C.H0=H0->StW C w0 own0 own H w->(∀s∈pre,SV.wf own.length s)->
   Calls Tryz.prog g (pre.map (SV.val own)).toArray w fun e w'=>∃v own' H',e= .returned v/\f (.v v) own' H'/\OwnExt own own'/\StW C w0 own0 own' H' w'):=fun base H0 g pre own H f p q hq hpq=>by
  obtain⟨h1,h2⟩:= Tryzin3 j base H0 g pre own H f q hq
  exact⟨h1,fun hp=>h2 (hpq hp)⟩
 intro base H0 g pre own H f p hp
 unfold TryzSum at hp
 dsimp only at hp
 split at hp
 ·rename_i e
  subst e
  split at hp
  ·rename_i i
   obtain rfl:=Option.some.inj hp
   refine⟨by show TryzList.contains 285=true;decide,fun h C w0 own0 w hbase hH0 hw hwf=> ?_⟩
   subst hbase hH0
   unfold strP at h
   split at h
   ·rename_i b ty p a n c hx
    obtain⟨rfl,hn,l,hR,hf⟩:=h
    have hbk:w.heap[b]?=some (.cells #[p,.slice a n c] 311 (0,0)):=hw.boxes.ok _ (List.mem_of_getElem? hx)
    obtain⟨h1,h2,h3,h4⟩:=hR
    obtain rfl:l.length=n:=by simpa[u8s] using h1
    rcases h4 with⟨h0,_⟩|⟨g,k,rfl,hgb,hH,hty,hksz,hfree,hcl⟩
    ·omega
    obtain⟨cur,fr,hcu,hsz,_,hcell⟩:=hw.sees g _ hH
    rw[hty] at hcu
    have hbn:boxNo own i=b:=box_no hx
    have hargs:(([SV.loc i 0]:List SV).map (SV.val own)).toArray= #[.pointer (some ⟨b,0,none⟩)]:=by simp[SV.val,hbn]
    rw[hargs]
    refine(str_run hbk (by intro e;subst e;simp at hn) hcu h2 h3 (by rw[hsz,hksz,Nat.mul_one]) (fun j x hj=>hw.sees.cell ?_)).mono fun e w' ⟨he,hw'⟩=> ?_
    ·unfold Heap.cell;rw[hH];exact hcl j _ (by simp[u8s,hj])
    have hbx:∀y∈own,y.b≠g:=fun y hy e=>by
     have:=hw.boxes.hid y hy
     rw[e,hH] at this;cases this
    obtain⟨o1,o2,o3⟩:=freeze_os w g l.length
    refine⟨_,own,fun x=>if x=g then none else H x,he,hf _ (fun x k hk hne=> ?_) (fun x k hk=> ?_),OwnExt.refl _,?_⟩
    ·have:x≠g:=fun e=>hne (by rw[e])
     simp only[if_neg this];exact hk
    ·split at hk
     ·cases hk
     ·exact hk
    ·have hblock:∀k,k≠g->w'.heap[k]?=w.heap[k]?:=fun k hk=>by rw[hw'];exact freeze_heap w g _ hk
     refine⟨fun x k hk=> ?_,⟨fun y hy=>Bx.ok_same (hw.boxes.ok y hy) (hblock _ (hbx y hy)),fun y hy=> ?_,hw.boxes.apart⟩,hw.locs,hw.step (by rw[hw'];exact o1) (by rw[hw'];exact o2) (by rw[hw'];exact o3) (by rw[hw',freeze_size];exact Nat.le_refl _) fun k hk hk'=>hblock k (by omega),⟨fun x k hk=> ?_,fun x k hk hn=> ?_⟩,hw.base,hw.seen0⟩
     ·split at hk
      ·cases hk
      ·rename_i hne
       rw[hblock x hne];exact hw.sees x k hk
     ·split
      ·rfl
      ·exact hw.boxes.hid y hy
     ·have:=hw.h0_lt hk
      rw[if_neg (by omega)]
      exact hw.next.ext x k hk
     ·split at hk
      ·cases hk
      ·exact hw.next.fresh x k hk hn
   ·exact h.elim
  ·cases hp
 ·split at hp
  ·rename_i e
   subst e
   split at hp
   ·obtain rfl:=Option.some.inj hp
    exact key _ _ _ _ _ _ _ _ _ (in3_at (fn:= Tryz.f235) (by rfl) (Nat.le_of_ble_eq_true (by kernel_rfl))) ins_sum
   ·cases hp
  ·split at hp
   ·rename_i e
    subst e
    split at hp
    ·obtain rfl:=Option.some.inj hp
     exact key _ _ _ _ _ _ _ _ _ (in3_at (fn:= Tryz.f236) (by rfl) (Nat.le_of_ble_eq_true (by kernel_rfl))) fun h=>by
      show codeI ⟨Tryz.prog,Tryz.f236.ntmps,⟨TryzList,TryzIn2,true⟩,base,H0⟩ Tryz.f236 _ own H f
      rw[vcI123]
      exact del_sum (bytes:=16) (by omega) h
    ·cases hp
   ·split at hp
    ·rename_i e
     subst e
     split at hp
     ·obtain rfl:=Option.some.inj hp
      exact key _ _ _ _ _ _ _ _ _ (in3_at (fn:= Tryz.f43) (by rfl) (Nat.le_of_ble_eq_true (by kernel_rfl))) fun h=>by
       show codeI ⟨Tryz.prog,Tryz.f43.ntmps,⟨TryzList,TryzIn2,true⟩,base,H0⟩ Tryz.f43 _ own H f
       rw[vcI53]
       exact del_sum (bytes:=56) (by omega) h
     ·cases hp
    ·exact Tryzin3 j base H0 g pre own H f p hp
noncomputable def TryzMutsJ:Muts:=⟨TryzList,TryzSum,true⟩
theorem TryzvcJ{f:FuncId}{fn:Func}(hf: Tryz.prog.funcs[f]?=some fn)(hok:okFn fn=true){args:List Value}(hargs:Nat.ble args.length fn.ntmps=true){H:Heap}(Q:Value->Heap->Prop){sv:List SV}(hsv:args.map SV.v=sv)
  {F:Nat->(Value->List (List Value)->Heap->Prop)->Prop} (hv:∀base K,funV ⟨Tryz.prog,fn.ntmps,TryzMutsJ,base,H⟩ (bodyOf fn) fn.results.toList sv [] K=F base K)
  (h:∀base,(∀b k,H b=some k->b<base)->F base (fun v _ H'=>Q v H')):Spec Tryz.prog f args H Q:=
 spec_of (muts:= TryzMutsJ) (Tryzsum true) hf (body_some hok) rfl Tryzmixed (ops_ok hok) (Nat.le_of_ble_eq_true hargs) fun base hb=>by
  rw[hsv,hv base]
  exact h base hb
theorem cCopyCheck{H:Heap}{b:Nat}{p:O}{v:Value}(hp:p=none∨p=some ⟨b,0,none⟩):SpecO Tryz.prog 298 [.pointer (some ⟨b,0,none⟩)] [⟨b,false,311,[.pointer p,v]⟩] H
  fun r css H'=>r= .tuple #[]/\css=[[.pointer (some ⟨b,0,none⟩),v]]/\H'=H:=fun w hw hb=>by
 have hbk:w.heap[b]?=some (.cells #[.pointer p,v] 311 (0,0)):=hb.ok _ List.mem_cons_self
 have hbn:H b=none:=hb.hid _ List.mem_cons_self
 have hlt:b<w.heap.size:=by
  rcases Nat.lt_or_ge b w.heap.size with h|h
  ·exact h
  ·simp[Array.getElem?_eq_none h] at hbk
 have hX:Builder.X72 Tryz.prog Tryz.lays156_ren:= { sizeBuilder:=by kernel_rfl,liesBuilder:=by kernel_rfl }
 rcases hp with rfl|rfl
 ·refine(Any.Builder_copyCheck_fresh { Tryz.lays156 with } hX b w (by rw[Lib.cell_of_heap hbk];rfl) (by simp[World.shape?,hbk];rfl) (by simp[World.frozen?,hbk])).mono fun e w' ⟨he,hw'⟩=> ?_
  have hblock:∀k,k≠b->w'.heap[k]?=w.heap[k]?:=fun k hk=>by
   rw[hw']
   simp[World.setCell,Array.getElem?_modify,Ne.symm hk]
  have hnew:w'.heap[b]?=some (.cells #[.pointer (some ⟨b,0,none⟩),v] 311 (0,0)):=by
   rw[hw']
   simp[World.setCell,Array.getElem?_modify,hbk]
  have hsz:w'.heap.size=w.heap.size:=by rw[hw'];simp[World.setCell]
  refine⟨_,[[.pointer (some ⟨b,0,none⟩),v]],H,he,rfl,⟨by rw[hw'];rfl,by rw[hw'];rfl,by rw[hw'];rfl,by omega,fun k _ hk=>hblock k (by simpa using hk)⟩,fun x k hx=> ?_,⟨fun y hy=> ?_,fun y hy=> ?_,by simp[setAll]⟩,⟨fun _ _ h=>h,fun x k h h'=>(by rw[h] at h';cases h')⟩,rfl,rfl,rfl⟩
  ·rw[hblock x (fun e=>by rw[e,hbn] at hx;cases hx)];exact hw x k hx
  ·obtain rfl:y=⟨b,false,311,[.pointer (some ⟨b,0,none⟩),v]⟩:=by simpa[setAll,Bx.set] using hy
   exact hnew
  ·obtain rfl:y=⟨b,false,311,[.pointer (some ⟨b,0,none⟩),v]⟩:=by simpa[setAll,Bx.set] using hy
   exact hbn
 ·refine(Any.Builder_copyCheck_used { Tryz.lays156 with } hX b w (by rw[Lib.cell_of_heap hbk];rfl)).mono fun e w' ⟨he,hw'⟩=> ?_
  subst hw'
  exact⟨_,[[.pointer (some ⟨b,0,none⟩),v]],H,he,rfl,BelowX.refl _ _,hw,hb,⟨fun _ _ h=>h,fun x k h h'=>(by rw[h] at h';cases h')⟩,rfl,rfl,rfl⟩
open Go Go.Proofs
def TryzListK:List FuncId:=1000000:: TryzList
theorem contK{g:FuncId}(h: TryzList.contains g=true): TryzListK.contains g=true:=by
 unfold TryzListK
 rw[List.contains_cons,h,Bool.or_true]
theorem TryzsumK(j:Bool):InlOk Tryz.prog ⟨TryzListK,TryzSum,j⟩:=fun base H0 g pre own H f p hp=>by
 obtain⟨h1,h2⟩:= Tryzsum j base H0 g pre own H f p hp
 exact⟨contK h1,h2⟩
noncomputable def TryzMutsK:Muts:=⟨TryzListK,TryzSum,true⟩
theorem TryzvcK{f:FuncId}{fn:Func}(hf: Tryz.prog.funcs[f]?=some fn)(hok:okFn fn=true){args:List Value}(hargs:Nat.ble args.length fn.ntmps=true){H:Heap}(Q:Value->Heap->Prop){sv:List SV}(hsv:args.map SV.v=sv)
  {F:Nat->(Value->List (List Value)->Heap->Prop)->Prop} (hv:∀base K,funV ⟨Tryz.prog,fn.ntmps,TryzMutsK,base,H⟩ (bodyOf fn) fn.results.toList sv [] K=F base K)
  (h:∀base,(∀b k,H b=some k->b<base)->F base (fun v _ H'=>Q v H')):Spec Tryz.prog f args H Q:=
 spec_of (muts:= TryzMutsK) (TryzsumK true) hf (body_some hok) rfl Tryzmixed (ops_ok hok) (Nat.le_of_ble_eq_true hargs) fun base hb=>by
  rw[hsv,hv base]
  exact h base hb
open Go Go.Proofs
def TryzListL:List FuncId:=1000002:: TryzListK
theorem TryzsumL(j:Bool):InlOk Tryz.prog ⟨TryzListL,TryzSum,j⟩:=fun base H0 g pre own H f p hp=>by
 obtain⟨h1,h2⟩:= TryzsumK j base H0 g pre own H f p hp
 refine⟨?_,h2⟩
 have h1: TryzListK.contains g=true:=h1
 show TryzListL.contains g=true
 unfold TryzListL
 rw[List.contains_cons,h1,Bool.or_true]
noncomputable def TryzMutsL:Muts:=⟨TryzListL,TryzSum,true⟩
theorem TryzvcLO{f:FuncId}{fn:Func}(hf: Tryz.prog.funcs[f]?=some fn)(hok:okFn fn=true){own:List Bx}{args:List SV}(hargs:Nat.ble args.length fn.ntmps=true)(hwf:∀s∈args,s.wf own.length){H:Heap}(Q:Value->List (List Value)->Heap->Prop)
  {F:Nat->(Value->List (List Value)->Heap->Prop)->Prop} (hv:∀base K,funV ⟨Tryz.prog,fn.ntmps,TryzMutsL,base,H⟩ (bodyOf fn) fn.results.toList args own K=F base K)
  (h:∀base,(∀b k,H b=some k->b<base)->(∀x∈own,x.b<base)->F base Q):SpecO Tryz.prog f (args.map (SV.val own)) own H Q:=
 specO_of (muts:= TryzMutsL) (TryzsumL true) hf (body_some hok) rfl Tryzmixed (ops_ok hok) (Nat.le_of_ble_eq_true hargs) hwf fun base hb ho=>by
  rw[hv base]
  exact h base hb ho
open Go Go.Proofs
open Go.Value renaming int → I, slice → S, bool → B, agg → A, tuple → T, pointer → P, string → Str
open Go.IntKind renaming i64 → Z, wrap → W
open Go.Addr renaming mk → D
open Go.Vg.Bx renaming mk → J
open Go.Vg renaming Next → X, Spec → Y, SpecO → YO
open Go.Vg.Heap renaming cell → C
open Int renaming toNat → N
theorem vx219(sa ta:O)(sl sc tl tc:Nat)(kd ag rt n rid:Int)(rg:Bool)(qa:O)(ql qc:Nat)(base:Nat)(H:Heap)(K:KT):
 (fV TryzMutsJ Tryz.f219 base H [.v (A #[S sa sl sc,S ta tl tc]),.v (A #[I Z kd,I Z ag,I Z rt,I Z n,B rg,I Z rid,S qa ql qc])] [] K)=(
 ∀a b c:Nat,Y Tryz.prog 243 [A #[S sa sl sc,S ta tl tc],A #[I Z kd,I Z ag,I Z rt,I Z n,B rg,I Z rid,S qa ql qc]] H fun d e=>∃g h i j k l m,d=T #[A #[S g h i,S j k l],I Z m]/\(X base H e->(¬m=0->K (T #[A #[S none 0 0,S none 0 0],I Z m]) [] e)/\(¬¬m=0->Y Tryz.prog 244 [A #[S g h i,S j k l]] e fun o p=>∃q r s t u v w,o=T #[A #[S q r s,S t u v],I Z w]/\(X base e p->K (T #[A #[S q r s,S t u v],I Z w]) [] p)))):=by kernel_rfl
theorem vx176(b:Nat)(id bud:Int)(fa ra wa:O)(fl fc rl rc wl wc:Nat)(now goal nx:Int)(back:Bool)(la ka:O)(ll lc kl kc:Nat)(sa ta:O)(sl sc tl tc:Nat)(up:Bool)(na ma:O)(nl nc ml mc:Nat)(kd ag rt n rid:Int)(rg:Bool)(qa:O)(ql qc:Nat)(base:Nat)(H:Heap)(K:KT):
 (fV TryzMutsJ Tryz.f176 base H [.loc 0 0,.v (A #[I Z kd,I Z ag,I Z rt,I Z n,B rg,I Z rid,S qa ql qc])] [⟨b,false,41,[I Z id,S fa fl fc,S ra rl rc,S wa wl wc,I Z bud,S la ll lc,I Z now,I Z goal,B back,S ka kl kc,I Z nx,S sa sl sc,S ta tl tc,B up,S na nl nc,S ma ml mc]⟩] K)=(
 (fun w8:AV=>(fun w7:AV=>(fun w6:AV=>(fun w5:LL=>∀a:Nat,(Y Tryz.prog 144 [A w8,A w7,A w6] H fun c d=>∃e g h i j k l m o p q,c=T #[A #[S e g h,I Z i,I Z j,B k,S l m o,I Z p],I Z q]/\(X base H d->∀r:Nat,(¬q=0->K (I Z q) w5 d)/\(¬¬q=0->(Y Tryz.prog 219 [A #[S sa sl sc,S ta tl tc],A w6] d fun s t=>∃u v w x y z,(fun w1:LL=>∃a1,s=T #[A #[S u v w,S x y z],I Z a1]/\(X base d t->∀b1:Nat,(a1=0->K (I Z a1) w1 t/\K (I Z a1) w1 t)/\(¬a1=0->K (I Z a1) w5 t))) [[I Z id,S fa fl fc,S ra rl rc,S wa wl wc,I Z bud,S e g h,I Z i,I Z j,B k,S l m o,I Z p,S u v w,S x y z,B up,S na nl nc,S ma ml mc]])/\∀s:Nat,Y Tryz.prog 219 [A #[S sa sl sc,S ta tl tc],A w6] d fun t u=>∃v w x y z a1,(fun w2:LL=>∃b1,t=T #[A #[S v w x,S y z a1],I Z b1]/\(X base d u->(b1=0->K (I Z b1) w2 u/\K (I Z b1) w2 u)/\(¬b1=0->K (I Z b1) w5 u))) [[I Z id,S fa fl fc,S ra rl rc,S wa wl wc,I Z bud,S e g h,I Z i,I Z j,B k,S l m o,I Z p,S v w x,S y z a1,B up,S na nl nc,S ma ml mc]])))/\∀c:Nat,Y Tryz.prog 144 [A w8,A w7,A w6] H fun d e=>∃g h i j k l m o p q r,d=T #[A #[S g h i,I Z j,I Z k,B l,S m o p,I Z q],I Z r]/\(X base H e->(¬r=0->K (I Z r) w5 e)/\(¬¬r=0->(Y Tryz.prog 219 [A #[S sa sl sc,S ta tl tc],A w6] e fun s t=>∃u v w x y z,(fun w3:LL=>∃a1,s=T #[A #[S u v w,S x y z],I Z a1]/\(X base e t->∀b1:Nat,(a1=0->K (I Z a1) w3 t/\K (I Z a1) w3 t)/\(¬a1=0->K (I Z a1) w5 t))) [[I Z id,S fa fl fc,S ra rl rc,S wa wl wc,I Z bud,S g h i,I Z j,I Z k,B l,S m o p,I Z q,S u v w,S x y z,B up,S na nl nc,S ma ml mc]])/\∀s:Nat,Y Tryz.prog 219 [A #[S sa sl sc,S ta tl tc],A w6] e fun t u=>∃v w x y z a1,(fun w4:LL=>∃b1,t=T #[A #[S v w x,S y z a1],I Z b1]/\(X base e u->(b1=0->K (I Z b1) w4 u/\K (I Z b1) w4 u)/\(¬b1=0->K (I Z b1) w5 u))) [[I Z id,S fa fl fc,S ra rl rc,S wa wl wc,I Z bud,S g h i,I Z j,I Z k,B l,S m o p,I Z q,S v w x,S y z a1,B up,S na nl nc,S ma ml mc]]))) [[I Z id,S fa fl fc,S ra rl rc,S wa wl wc,I Z bud,S la ll lc,I Z now,I Z goal,B back,S ka kl kc,I Z nx,S sa sl sc,S ta tl tc,B up,S na nl nc,S ma ml mc]]) #[I Z
 kd,I Z ag,I Z rt,I Z n,B rg,I Z rid,S qa ql qc]) #[S la ll lc,I Z now,I Z goal,B back,S ka kl kc,I Z nx]) #[I Z id,S fa fl fc,S ra rl rc,S wa wl wc,I Z bud]):=by kernel_rfl
theorem vx221(b:Nat)(id bud:Int)(fa ra wa:O)(fl fc rl rc wl wc:Nat)(now goal nx:Int)(back:Bool)(la ka:O)(ll lc kl kc:Nat)(sa ta:O)(sl sc tl tc:Nat)(up:Bool)(na ma:O)(nl nc ml mc:Nat)(mg mt mid:Int)(mr mgd:Bool)(pa:O)(pl pc:Nat)(base:Nat)(H:Heap)(K:KT):
 (fV TryzMutsJ Tryz.f221 base H [.loc 0 0,.v (A #[I Z mg,I Z mt,B mr,B mgd,I Z mid,S pa pl pc])] [⟨b,false,41,[I Z id,S fa fl fc,S ra rl rc,S wa wl wc,I Z bud,S la ll lc,I Z now,I Z goal,B back,S ka kl kc,I Z nx,S sa sl sc,S ta tl tc,B up,S na nl nc,S ma ml mc]⟩] K)=(
 ∀a:Nat,Y Tryz.prog 245 [S ma ml mc,A #[I Z mg,I Z mt,B mr,B mgd,I Z mid,S pa pl pc]] H fun c d=>∃e g h i,c=T #[S e g h,I Z i]/\(X base H d->(i=0->K (T #[]) [[I Z id,S fa fl fc,S ra rl rc,S wa wl wc,I Z bud,S la ll lc,I Z now,I Z goal,B back,S ka kl kc,I Z nx,S sa sl sc,S ta tl tc,B up,S na nl nc,S e g h]] d)/\(¬i=0->K (T #[]) [[I Z id,S fa fl fc,S ra rl rc,S wa wl wc,I Z bud,S la ll lc,I Z now,I Z goal,B back,S ka kl kc,I Z nx,S sa sl sc,S ta tl tc,B up,S na nl nc,S ma ml mc]] d))):=by kernel_rfl
theorem vx180(b:Nat)(id bud:Int)(fa ra wa:O)(fl fc rl rc wl wc:Nat)(now goal nx:Int)(back:Bool)(la ka:O)(ll lc kl kc:Nat)(sa ta:O)(sl sc tl tc:Nat)(up:Bool)(na ma:O)(nl nc ml mc:Nat)(k:Int)(base:Nat)(H:Heap)(K:KT):
 (fV TryzMutsJ Tryz.f180 base H [.loc 0 0,.v (I Z k)] [⟨b,false,41,[I Z id,S fa fl fc,S ra rl rc,S wa wl wc,I Z bud,S la ll lc,I Z now,I Z goal,B back,S ka kl kc,I Z nx,S sa sl sc,S ta tl tc,B up,S na nl nc,S ma ml mc]⟩] K)=(
 ∃a c,na=some (D a c none)/\0<=k/\k<(nl:Int)/\∃(d:O)(e g:Nat)(h i:Int)(j:Bool)(l:Int)(m:O)(n o:Nat)(p:Bool),(C H a (c+N k*10)=some (S d e g)/\C H a (c+N k*10+1)=some (I Z h)/\C H a (c+N k*10+2)=some (I Z i)/\C H a (c+N k*10+3)=some (B j)/\C H a (c+N k*10+4)=some (I Z l)/\C H a (c+N k*10+5)=some (S m n o)/\C H a (c+N k*10+6)=some (B p)/\True)/\∀q:Nat,YO Tryz.prog 221 [P (some (D b 0 none)),A #[I Z k,I Z i,B true,B p,I Z 0,S none 0 0]] [J b false 41 [I Z id,S fa fl fc,S ra rl rc,S wa wl wc,I Z bud,S la ll lc,I Z now,I Z goal,B back,S ka kl kc,I Z nx,S sa sl sc,S ta tl tc,B up,S na nl nc,S ma ml mc]] H fun r s t=>r=T #[]/\∃(u:Int)(v:O)(w x:Nat)(y:O)(z a1:Nat)(b1:O)(c1 d1:Nat)(e1:Int)(f1:O)(g1 h1:Nat)(i1 j1:Int)(k1:Bool)(l1:O)(m1 n1:Nat)(o1:Int)(p1:O)(q1 r1:Nat)(s1:O)(t1 u1:Nat)(v1:Bool)(w1:O)(x1 y1:Nat)(z1:O)(a2 b2:Nat),(fun w2:LL=>s=w2/\(X base H t->K (T #[]) w2 t)) [[I Z u,S v w x,S y z a1,S b1 c1 d1,I Z e1,S f1 g1 h1,I Z i1,I Z j1,B k1,S l1 m1 n1,I Z o1,S p1 q1 r1,S s1 t1 u1,B v1,S w1 x1 y1,S z1 a2 b2]]):=by kernel_rfl
theorem vx177(b:Nat)(id bud:Int)(fa ra wa:O)(fl fc rl rc wl wc:Nat)(now goal nx:Int)(back:Bool)(la ka:O)(ll lc kl kc:Nat)(sa ta:O)(sl sc tl tc:Nat)(up:Bool)(na ma:O)(nl nc ml mc:Nat)(hk hg hn:Int)(hgd:Bool)(ha:O)(hl hc:Nat)(base:Nat)(H:Heap)(K:KT):
 (fV TryzMutsJ Tryz.f177 base H [.loc 0 0,.v (A #[I Z hk,I Z hg,I Z hn,B hgd,S ha hl hc])] [⟨b,false,41,[I Z id,S fa fl fc,S ra rl rc,S wa wl wc,I Z bud,S la ll lc,I Z now,I Z goal,B back,S ka kl kc,I Z nx,S sa sl sc,S ta tl tc,B up,S na nl nc,S ma ml mc]⟩] K)=(
 (fun w11:LV=>(fun w10:LV=>(fun w9:LV=>∀a:Nat,(Y Tryz.prog 220 w10 H fun c d=>∃e g h i j k,c=T #[B e,A #[I Z g,S h i j],I Z k]/\(X base H d->∀l:Nat,(¬k=0->K (I Z k) [w9] d)/\(¬¬k=0->(hk=4->∃m n,ka=some (D m n none)/\0<=hg/\hg<(kl:Int)/\∃(o p:Int)(q:Bool),(C d m (n+N hg*3)=some (I Z o)/\C d m (n+N hg*3+1)=some (I Z p)/\C d m (n+N hg*3+2)=some (B q)/\True)/\∀r:Nat,(¬o=1->K (I Z 7) [w9] d)/\(¬¬o=1->∃s,RunsTo Tryz.prog (binRun BinOp.neq 4 (Operand.tmp 54) (Operand.tmp 60) (B q) (B back)) (B s)/\(s=true->K (I Z 7) [w9] d)/\(¬s=true->YO Tryz.prog 221 [P (some (D b 0 none)),A #[I Z hg,I Z p,B false,B false,I Z g,S h i j]] [J b false 41 w9] d fun t u v=>t=T #[]/\∃(w:Int)(x:O)(y z:Nat)(a1:O)(b1 c1:Nat)(d1:O)(e1 f1:Nat)(g1:Int)(h1:O)(i1 j1:Nat)(k1 l1:Int)(m1:Bool)(n1:O)(o1 p1:Nat)(q1:Int)(r1:O)(s1 t1:Nat)(u1:O)(v1 w1:Nat)(x1:Bool)(y1:O)(z1 a2:Nat)(b2:O)(c2 d2:Nat),(fun w3:LL=>u=w3/\(X base d v->K (I Z 0) w3 v)) [[I Z w,S x y z,S a1 b1 c1,S d1 e1 f1,I Z g1,S h1 i1 j1,I Z k1,I Z l1,B m1,S n1 o1 p1,I Z q1,S r1 s1 t1,S u1 v1 w1,B x1,S y1 z1 a2,S b2 c2 d2]])))/\(¬hk=4->YO Tryz.prog 176 w11 [J b false 41 w9] d fun m n o=>∃p,m=I Z p/\∃(q:Int)(r:O)(s t:Nat)(u:O)(v w:Nat)(x:O)(y z:Nat)(a1:Int)(b1:O)(c1 d1:Nat)(e1 f1:Int)(g1:Bool)(h1:O)(i1 j1:Nat)(k1:Int)(l1:O)(m1 n1:Nat)(o1:O)(p1 q1:Nat)(r1:Bool)(s1:O)(t1 u1:Nat)(v1:O)(w1 x1:Nat),(fun w5:LV=>n=[w5]/\(X base d o->(¬p=0->K (I Z p) [w5] o)/\(¬¬p=0->YO Tryz.prog 221 [P (some (D b 0 none)),A #[I Z hg,I Z nx,B false,B false,I Z g,S h i j]] [J b false 41 w5] o fun y1 z1 a2=>y1=T #[]/\∃(b2:Int)(c2:O)(d2 e2:Nat)(f2:O)(g2 h2:Nat)(i2:O)(j2 k2:Nat)(l2:Int)(m2:O)(n2 o2:Nat)(p2 q2:Int)(r2:Bool)(s2:O)(t2 u2:Nat)(v2:Int)(w2:O)(x2 y2:Nat)(z2:O)(a3 b3:Nat)(c3:Bool)(d3:O)(e3 f3:Nat)(g3:O)(h3 i3:Nat),(fun w4:LL=>z1=w4/\(X base o a2->K (I Z 0) w4 a2)) [[I Z b2,S c2 d2 e2,S f2 g2 h2,S i2 j2 k2,I Z l2,S m2 n2 o2,I Z p2,I Z q2,B r2,S s2 t2 u2,I Z v2,S w2
 x2 y2,S z2 a3 b3,B c3,S d3 e3 f3,S g3 h3 i3]]))) [I Z q,S r s t,S u v w,S x y z,I Z a1,S b1 c1 d1,I Z e1,I Z f1,B g1,S h1 i1 j1,I Z k1,S l1 m1 n1,S o1 p1 q1,B r1,S s1 t1 u1,S v1 w1 x1]))))/\∀c:Nat,Y Tryz.prog 220 w10 H fun d e=>∃g h i j k l,d=T #[B g,A #[I Z h,S i j k],I Z l]/\(X base H e->(¬l=0->K (I Z l) [w9] e)/\(¬¬l=0->(hk=4->∃m n,ka=some (D m n none)/\0<=hg/\hg<(kl:Int)/\∃(o p:Int)(q:Bool),(C e m (n+N hg*3)=some (I Z o)/\C e m (n+N hg*3+1)=some (I Z p)/\C e m (n+N hg*3+2)=some (B q)/\True)/\∀r:Nat,(¬o=1->K (I Z 7) [w9] e)/\(¬¬o=1->∃s,RunsTo Tryz.prog (binRun BinOp.neq 4 (Operand.tmp 54) (Operand.tmp 60) (B q) (B back)) (B s)/\(s=true->K (I Z 7) [w9] e)/\(¬s=true->YO Tryz.prog 221 [P (some (D b 0 none)),A #[I Z hg,I Z p,B false,B false,I Z h,S i j k]] [J b false 41 w9] e fun t u v=>t=T #[]/\∃(w:Int)(x:O)(y z:Nat)(a1:O)(b1 c1:Nat)(d1:O)(e1 f1:Nat)(g1:Int)(h1:O)(i1 j1:Nat)(k1 l1:Int)(m1:Bool)(n1:O)(o1 p1:Nat)(q1:Int)(r1:O)(s1 t1:Nat)(u1:O)(v1 w1:Nat)(x1:Bool)(y1:O)(z1 a2:Nat)(b2:O)(c2 d2:Nat),(fun w6:LL=>u=w6/\(X base e v->K (I Z 0) w6 v)) [[I Z w,S x y z,S a1 b1 c1,S d1 e1 f1,I Z g1,S h1 i1 j1,I Z k1,I Z l1,B m1,S n1 o1 p1,I Z q1,S r1 s1 t1,S u1 v1 w1,B x1,S y1 z1 a2,S b2 c2 d2]])))/\(¬hk=4->YO Tryz.prog 176 w11 [J b false 41 w9] e fun m n o=>∃p,m=I Z p/\∃(q:Int)(r:O)(s t:Nat)(u:O)(v w:Nat)(x:O)(y z:Nat)(a1:Int)(b1:O)(c1 d1:Nat)(e1 f1:Int)(g1:Bool)(h1:O)(i1 j1:Nat)(k1:Int)(l1:O)(m1 n1:Nat)(o1:O)(p1 q1:Nat)(r1:Bool)(s1:O)(t1 u1:Nat)(v1:O)(w1 x1:Nat),(fun w8:LV=>n=[w8]/\(X base e o->(¬p=0->K (I Z p) [w8] o)/\(¬¬p=0->YO Tryz.prog 221 [P (some (D b 0 none)),A #[I Z hg,I Z nx,B false,B false,I Z h,S i j k]] [J b false 41 w8] o fun y1 z1 a2=>y1=T #[]/\∃(b2:Int)(c2:O)(d2 e2:Nat)(f2:O)(g2 h2:Nat)(i2:O)(j2 k2:Nat)(l2:Int)(m2:O)(n2 o2:Nat)(p2 q2:Int)(r2:Bool)(s2:O)(t2 u2:Nat)(v2:Int)(w2:O)(x2 y2:Nat)(z2:O)(a3 b3:Nat)(c3:Bool)(d3:O)(e3 f3:Nat)(g3:O)(h3 i3:Nat),(fun
 w7:LL=>z1=w7/\(X base o a2->K (I Z 0) w7 a2)) [[I Z b2,S c2 d2 e2,S f2 g2 h2,S i2 j2 k2,I Z l2,S m2 n2 o2,I Z p2,I Z q2,B r2,S s2 t2 u2,I Z v2,S w2 x2 y2,S z2 a3 b3,B c3,S d3 e3 f3,S g3 h3 i3]]))) [I Z q,S r s t,S u v w,S x y z,I Z a1,S b1 c1 d1,I Z e1,I Z f1,B g1,S h1 i1 j1,I Z k1,S l1 m1 n1,S o1 p1 q1,B r1,S s1 t1 u1,S v1 w1 x1])))) [I Z id,S fa fl fc,S ra rl rc,S wa wl wc,I Z bud,S la ll lc,I Z now,I Z goal,B back,S ka kl kc,I Z nx,S sa sl sc,S ta tl tc,B up,S na nl nc,S ma ml mc]) [A #[I Z id,S fa fl fc,S ra rl rc,S wa wl wc,I Z bud],A #[S la ll lc,I Z now,I Z goal,B back,S ka kl kc,I Z nx],I Z hg]) [P (some (D b 0 none)),A #[I Z 6,I Z hg,I Z nx,I Z 0,B false,I Z 0,S none 0 0]]):=by kernel_rfl
open Go Go.Proofs
theorem vx189(sa ta:O)(sl sc tl tc:Nat)(up:Bool)(base:Nat)(H:Heap)(K:KT):
 (fV TryzMutsJ Tryz.f189 base H [.v (A #[S sa sl sc,S ta tl tc]),.v (B up)] [] K)=(
 ∀a:Nat,Y Tryz.prog 64 [A #[S sa sl sc,S ta tl tc]] H fun b c=>∃d e g h i j k l m n,b=T #[A #[S d e g,S h i j],S k l m,I Z n]/\(X base H c->∀o:Nat,(fun w1:LB=>∃p:Prop,((n=0->(up=true->w1=w1/\SubH c c/\(p↔0<(tl:Int)))/\(up=false->w1=w1/\SubH c c/\¬p))/\(¬n=0->w1=w1/\SubH c c/\¬p))/\(p->K (T #[S none 0 0,I Z 4]) [] c)/\(¬p->K (T #[S k l m,I Z n]) [] c)) [J a false 35 [S sa sl sc,S ta tl tc],J o false 35 [S d e g,S h i j]])):=by kernel_rfl
theorem vx105(id bud:Int)(fa ra wa:O)(fl fc rl rc wl wc:Nat)(now goal nx:Int)(back:Bool)(la ka:O)(ll lc kl kc:Nat)(sa ta:O)(sl sc tl tc:Nat)(up:Bool)(na ma:O)(nl nc ml mc:Nat)(base:Nat)(H:Heap)(K:KT):
 (fV TryzMutsJ Tryz.f105 base H [.v (A #[I Z id,S fa fl fc,S ra rl rc,S wa wl wc,I Z bud,S la ll lc,I Z now,I Z goal,B back,S ka kl kc,I Z nx,S sa sl sc,S ta tl tc,B up,S na nl nc,S ma ml mc])] [] K)=(
 (fun w5:AV=>(fun w4:AV=>(fun w3:LV=>∀a:Nat,Y Tryz.prog 189 [A #[S sa sl sc,S ta tl tc],B up] H fun b c=>∃d e g h,b=T #[S d e g,I Z h]/\(X base H c->(¬h=0->K (I Z h) [] c)/\(¬¬h=0->(up=false->Y Tryz.prog 66 [A w5,S none 0 0] c fun i j=>∃k l m n o p q r s t u,i=T #[A #[S k l m,I Z n,I Z o,B p,S q r s,I Z t],I Z u]/\(X base c j->∀v:Nat,(fun w1:LB=>∃w:Prop,((u=0->Y Tryz.prog 36 [A #[S k l m,I Z n,I Z o,B p,S q r s,I Z t],A w4] j fun x y=>∃z,x=B z/\(X base j y->w1=w1/\SubH j y/\(w↔z=false)))/\(¬u=0->w1=w1/\SubH j j/\¬w))/\(w->K (I Z 4) [] j)/\(¬w->K (I Z u) [] j)) [J a false 41 w3,J v false 32 [S k l m,I Z n,I Z o,B p,S q r s,I Z t]]))/\(¬up=false->Y Tryz.prog 66 [A w5,S d e g] c fun i j=>∃k l m n o p q r s t u,i=T #[A #[S k l m,I Z n,I Z o,B p,S q r s,I Z t],I Z u]/\(X base c j->∀v:Nat,(fun w2:LB=>∃w:Prop,((u=0->Y Tryz.prog 36 [A #[S k l m,I Z n,I Z o,B p,S q r s,I Z t],A w4] j fun x y=>∃z,x=B z/\(X base j y->w2=w2/\SubH j y/\(w↔z=false)))/\(¬u=0->w2=w2/\SubH j j/\¬w))/\(w->K (I Z 4) [] j)/\(¬w->K (I Z u) [] j)) [J a false 41 w3,J v false 32 [S k l m,I Z n,I Z o,B p,S q r s,I Z t]]))))) [I Z id,S fa fl fc,S ra rl rc,S wa wl wc,I Z bud,S la ll lc,I Z now,I Z goal,B back,S ka kl kc,I Z nx,S sa sl sc,S ta tl tc,B up,S na nl nc,S ma ml mc]) #[S la ll lc,I Z now,I Z goal,B back,S ka kl kc,I Z nx]) #[I Z id,S fa fl fc,S ra rl rc,S wa wl wc,I Z bud]):=by kernel_rfl
theorem vx106(id bud:Int)(fa ra wa:O)(fl fc rl rc wl wc:Nat)(now goal nx:Int)(back:Bool)(la ka:O)(ll lc kl kc:Nat)(sa ta:O)(sl sc tl tc:Nat)(up:Bool)(na ma:O)(nl nc ml mc:Nat)(aat tr gid:Int)(going good:Bool)(xa ga:O)(xl xc gl gc:Nat)(ua va:O)(ul uc vl vc:Nat)(nup:Bool)(base:Nat)(H:Heap)(K:KT):
 (fV TryzMutsJ Tryz.f106 base H [.v (A #[I Z id,S fa fl fc,S ra rl rc,S wa wl wc,I Z bud,S la ll lc,I Z now,I Z goal,B back,S ka kl kc,I Z nx,S sa sl sc,S ta tl tc,B up,S na nl nc,S ma ml mc]),.v (A #[S xa xl xc,I Z aat,I Z tr,B going,I Z gid,S ga gl gc,B good,S ua ul uc,S va vl vc,B nup])] [] K)=(
 (fun w5:AV=>(fun w4:LV=>(fun w3:LV=>∀a b:Nat,Y Tryz.prog 189 [A #[S ua ul uc,S va vl vc],B nup] H fun c d=>∃e g h i,c=T #[S e g h,I Z i]/\(X base H d->(¬i=0->K (I Z i) [] d)/\(¬¬i=0->(nup=false->Y Tryz.prog 67 [A #[I Z id,S fa fl fc],S none 0 0] d fun j k=>∃l m n o p q r s t u v w,j=T #[A #[S l m n,I Z o,I Z p,B q,I Z r,S s t u,B v],I Z w]/\(X base d k->∀x:Nat,(fun w1:LB=>∃y:Prop,((w=0->Y Tryz.prog 38 [A #[S l m n,I Z o,I Z p,B q,I Z r,S s t u,B v],A w5] k fun z a1=>∃b1,z=B b1/\(X base k a1->w1=w1/\SubH k a1/\(y↔b1=false)))/\(¬w=0->w1=w1/\SubH k k/\¬y))/\(y->K (I Z 4) [] k)/\(¬y->K (I Z w) [] k)) [J a false 41 w3,J b false 58 w4,J x false 46 [S l m n,I Z o,I Z p,B q,I Z r,S s t u,B v]]))/\(¬nup=false->Y Tryz.prog 67 [A #[I Z id,S fa fl fc],S e g h] d fun j k=>∃l m n o p q r s t u v w,j=T #[A #[S l m n,I Z o,I Z p,B q,I Z r,S s t u,B v],I Z w]/\(X base d k->∀x:Nat,(fun w2:LB=>∃y:Prop,((w=0->Y Tryz.prog 38 [A #[S l m n,I Z o,I Z p,B q,I Z r,S s t u,B v],A w5] k fun z a1=>∃b1,z=B b1/\(X base k a1->w2=w2/\SubH k a1/\(y↔b1=false)))/\(¬w=0->w2=w2/\SubH k k/\¬y))/\(y->K (I Z 4) [] k)/\(¬y->K (I Z w) [] k)) [J a false 41 w3,J b false 58 w4,J x false 46 [S l m n,I Z o,I Z p,B q,I Z r,S s t u,B v]]))))) [I Z id,S fa fl fc,S ra rl rc,S wa wl wc,I Z bud,S la ll lc,I Z now,I Z goal,B back,S ka kl kc,I Z nx,S sa sl sc,S ta tl tc,B up,S na nl nc,S ma ml mc]) [S xa xl xc,I Z aat,I Z tr,B going,I Z gid,S ga gl gc,B good,S ua ul uc,S va vl vc,B nup]) #[S xa xl xc,I Z aat,I Z tr,B going,I Z gid,S ga gl gc,B good]):=by kernel_rfl
theorem vx31(id bud:Int)(fa ra wa:O)(fl fc rl rc wl wc:Nat)(now goal nx:Int)(back:Bool)(la ka:O)(ll lc kl kc:Nat)(sa ta:O)(sl sc tl tc:Nat)(up:Bool)(na ma:O)(nl nc ml mc:Nat)(base:Nat)(H:Heap)(K:KT):
 (fV TryzMutsJ Tryz.f31 base H [.v (A #[I Z id,S fa fl fc,S ra rl rc,S wa wl wc,I Z bud,S la ll lc,I Z now,I Z goal,B back,S ka kl kc,I Z nx,S sa sl sc,S ta tl tc,B up,S na nl nc,S ma ml mc])] [] K)=(
 (fun w3:LV=>(fun w2:LL=>∀a:Nat,Y Tryz.prog 101 w3 H fun b c=>∃d,b=I Z d/\(X base H c->(¬d=0->K (I Z d) [] c)/\(¬¬d=0->Y Tryz.prog 88 w3 c fun e g=>∃h,e=I Z h/\(X base c g->(¬(nl:Int)=h->K (I Z 4) [] g)/\(¬¬(nl:Int)=h->Y Tryz.prog 102 [S ma ml mc] g fun i j=>∃k,i=I Z k/\(X base g j->(¬k=0->K (I Z k) [] j)/\(¬¬k=0->true=true/\∀l:Heap,X 0 j l->l a=some (boxKB 41 [I Z id,S fa fl fc,S ra rl rc,S wa wl wc,I Z bud,S la ll lc,I Z now,I Z goal,B back,S ka kl kc,I Z nx,S sa sl sc,S ta tl tc,B up,S na nl nc,S ma ml mc])/\True->Y Tryz.prog 103 [S ma ml mc,Value.func (Fn.func 104) #[] #[P (some (D a 0 none))]] l fun m n=>∃o,m=B o/\∀p,X base j p->(∀(q:Nat)(r:KB),n q=some r->(∀s:Bx,s∈ [J a false 41 [I Z id,S fa fl fc,S ra rl rc,S wa wl wc,I Z bud,S la ll lc,I Z now,I Z goal,B back,S ka kl kc,I Z nx,S sa sl sc,S ta tl tc,B up,S na nl nc,S ma ml mc]]->q≠Bx.b s)->p q=some r)->(o=true->K (I Z 5) [] p)/\(o=false->Y Tryz.prog 105 [A #[I Z id,S fa fl fc,S ra rl rc,S wa wl wc,I Z bud,S la ll lc,I Z now,I Z goal,B back,S ka kl kc,I Z nx,S sa sl sc,S ta tl tc,B up,S na nl nc,S ma ml mc]] p fun q r=>∃s,q=I Z s/\(X base p r->(¬s=0->K (I Z s) [] r)/\(¬¬s=0->∃(t:LI)(u:LM),t [I Z 0,I Z 0] r/\∀(v w:Int)(x:Heap),X base H x->t [I Z v,I Z w] x->(w<(nl:Int)->∃y z,na=some (D y z none)/\0<=w/\w<(nl:Int)/\∃(a1:O)(b1 c1:Nat)(d1 e1:Int)(f1:Bool)(g1:Int)(h1:O)(i1 j1:Nat)(k1:Bool)(l1:O)(m1 n1:Nat)(o1:O)(p1 q1:Nat)(r1:Bool),(C x y (z+N w*10)=some (S a1 b1 c1)/\C x y (z+N w*10+1)=some (I Z d1)/\C x y (z+N w*10+2)=some (I Z e1)/\C x y (z+N w*10+3)=some (B f1)/\C x y (z+N w*10+4)=some (I Z g1)/\C x y (z+N w*10+5)=some (S h1 i1 j1)/\C x y (z+N w*10+6)=some (B k1)/\C x y (z+N w*10+7)=some (S l1 m1 n1)/\C x y (z+N w*10+8)=some (S o1 p1 q1)/\C x y (z+N w*10+9)=some (B r1)/\True)/\∀s1:Nat,Y Tryz.prog 106 [A #[I Z id,S fa fl fc,S ra rl rc,S wa wl wc,I Z bud,S la ll lc,I Z now,I Z goal,B back,S ka kl kc,I Z nx,S sa
 sl sc,S ta tl tc,B up,S na nl nc,S ma ml mc],A #[S a1 b1 c1,I Z d1,I Z e1,B f1,I Z g1,S h1 i1 j1,B k1,S l1 m1 n1,S o1 p1 q1,B r1]] x fun t1 u1=>∃v1,t1=I Z v1/\(X base x u1->(¬v1=0->K (I Z v1) [] u1)/\(¬¬v1=0->∀w1:Int,w1=W Z (w+1)->w2=w2/\t [I Z v,I Z w1] u1/\u [I Z v,I Z w1]<u [I Z v,I Z w])))/\(¬w<(nl:Int)->K (I Z 0) [] x))))))))))) [[I Z id,S fa fl fc,S ra rl rc,S wa wl wc,I Z bud,S la ll lc,I Z now,I Z goal,B back,S ka kl kc,I Z nx,S sa sl sc,S ta tl tc,B up,S na nl nc,S ma ml mc]]) [A #[I Z id,S fa fl fc,S ra rl rc,S wa wl wc,I Z bud]]):=by kernel_rfl
theorem vx17(id bud:Int)(fa ra wa:O)(fl fc rl rc wl wc:Nat)(now goal nx:Int)(back:Bool)(la ka:O)(ll lc kl kc:Nat)(sa ta:O)(sl sc tl tc:Nat)(up:Bool)(na ma:O)(nl nc ml mc:Nat)(base:Nat)(H:Heap)(K:KT):
 (fV TryzMutsJ Tryz.f17 base H [.v (A #[I Z id,S fa fl fc,S ra rl rc,S wa wl wc,I Z bud,S la ll lc,I Z now,I Z goal,B back,S ka kl kc,I Z nx,S sa sl sc,S ta tl tc,B up,S na nl nc,S ma ml mc])] [] K)=(
 ∀a b:Nat,Y Tryz.prog 31 [A #[I Z id,S fa fl fc,S ra rl rc,S wa wl wc,I Z bud,S la ll lc,I Z now,I Z goal,B back,S ka kl kc,I Z nx,S sa sl sc,S ta tl tc,B up,S na nl nc,S ma ml mc]] H fun c d=>∃e,c=I Z e/\(X base H d->(¬e=0->K (T #[A #[S none 0 0,I Z 0,I Z 0,B false,S none 0 0,I Z 0],I Z e]) [] d)/\(¬¬e=0->Y Tryz.prog 64 [A #[S sa sl sc,S ta tl tc]] d fun g h=>∃i j k l m n o p q r,g=T #[A #[S i j k,S l m n],S o p q,I Z r]/\(X base d h->∀s:Nat,Y Tryz.prog 66 [A #[I Z id,S fa fl fc,S ra rl rc,S wa wl wc,I Z bud],S o p q] h fun t u=>∃(v:O)(w x:Nat)(y z:Int)(a1:Bool)(b1:O)(c1 d1:Nat)(e1 f1:Int),(fun w1:AV=>t=T w1/\(X base h u->K (T w1) [] u)) #[A #[S v w x,I Z y,I Z z,B a1,S b1 c1 d1,I Z e1],I Z f1])))):=by kernel_rfl
theorem vx18(id bud:Int)(fa ra wa:O)(fl fc rl rc wl wc:Nat)(now goal nx:Int)(back:Bool)(la ka:O)(ll lc kl kc:Nat)(sa ta:O)(sl sc tl tc:Nat)(up:Bool)(na ma:O)(nl nc ml mc:Nat)(k:Int)(base:Nat)(H:Heap)(K:KT):
 (fV TryzMutsJ Tryz.f18 base H [.v (A #[I Z id,S fa fl fc,S ra rl rc,S wa wl wc,I Z bud,S la ll lc,I Z now,I Z goal,B back,S ka kl kc,I Z nx,S sa sl sc,S ta tl tc,B up,S na nl nc,S ma ml mc]),.v (I Z k)] [] K)=(
 ∀a b:Nat,(fun w2:LB=>Y Tryz.prog 31 [A #[I Z id,S fa fl fc,S ra rl rc,S wa wl wc,I Z bud,S la ll lc,I Z now,I Z goal,B back,S ka kl kc,I Z nx,S sa sl sc,S ta tl tc,B up,S na nl nc,S ma ml mc]] H fun c d=>∃e,c=I Z e/\(X base H d->(¬e=0->K (T #[A #[S none 0 0,I Z 0,I Z 0,B false,I Z 0,S none 0 0,B false],I Z e]) [] d)/\(¬¬e=0->∃g:Prop,((k<0->w2=w2/\SubH d d/\g)/\(¬k<0->w2=w2/\SubH d d/\(g↔(nl:Int)<=k)))/\(g->K (T #[A #[S none 0 0,I Z 0,I Z 0,B false,I Z 0,S none 0 0,B false],I Z 5]) [] d)/\(¬g->∃h i,na=some (D h i none)/\0<=k/\k<(nl:Int)/\∃(j:O)(l m:Nat)(n:O)(o p:Nat),(C d h (i+N k*10+7)=some (S j l m)/\C d h (i+N k*10+7+1)=some (S n o p)/\True)/\Y Tryz.prog 64 [A #[S j l m,S n o p]] d fun q r=>∃s t u v w x y z a1 b1,q=T #[A #[S s t u,S v w x],S y z a1,I Z b1]/\(X base d r->∀c1:Nat,Y Tryz.prog 67 [A #[I Z id,S fa fl fc],S y z a1] r fun d1 e1=>∃(f1:O)(g1 h1:Nat)(i1 j1:Int)(k1:Bool)(l1:Int)(m1:O)(n1 o1:Nat)(p1:Bool)(q1:Int),(fun w1:AV=>d1=T w1/\(X base r e1->K (T w1) [] e1)) #[A #[S f1 g1 h1,I Z i1,I Z j1,B k1,I Z l1,S m1 n1 o1,B p1],I Z q1]))))) [J a false 41 [I Z id,S fa fl fc,S ra rl rc,S wa wl wc,I Z bud,S la ll lc,I Z now,I Z goal,B back,S ka kl kc,I Z nx,S sa sl sc,S ta tl tc,B up,S na nl nc,S ma ml mc],J b false 46 [S none 0 0,I Z 0,I Z 0,B false,I Z 0,S none 0 0,B false]]):=by kernel_rfl
theorem vx188(a:O)(l c p:Nat)(base:Nat)(H:Heap)(K:KT):
 (fV TryzMutsJ Tryz.f188 base H [.v (S a l c),.v (.func (.func 104) #[] #[.pointer (some ⟨p,0,none⟩)])] [] K)=(
 ∃(b:LI)(d:LM),b [I Z 0,I Z 0] H/\∀(e g:Int)(h:Heap),X base H h->b [I Z e,I Z g] h->(g<(l:Int)->∃i j,a=some (D i j none)/\0<=g/\g<(l:Int)/\∃(k m:Int)(n o:Bool)(q:Int)(r:O)(s t:Nat),(C h i (j+N g*6)=some (I Z k)/\C h i (j+N g*6+1)=some (I Z m)/\C h i (j+N g*6+2)=some (B n)/\C h i (j+N g*6+3)=some (B o)/\C h i (j+N g*6+4)=some (I Z q)/\C h i (j+N g*6+5)=some (S r s t)/\True)/\Y Tryz.prog 104 [A #[I Z k,I Z m,B n,B o,I Z q,S r s t],P (some (D p 0 none))] h fun u v=>∃w,u=B w/\(X base h v->(w=true->K (I Z g) [] v)/\(w=false->∀x:Int,x=W Z (g+1)->b [I Z e,I Z x] v/\d [I Z e,I Z x]<d [I Z e,I Z g])))/\(¬g<(l:Int)->K (I Z (-1)) [] h)):=by kernel_rfl
theorem vx103(a:O)(l c p:Nat)(base:Nat)(H:Heap)(K:KT):
 (fV TryzMutsJ Tryz.f103 base H [.v (S a l c),.v (.func (.func 104) #[] #[.pointer (some ⟨p,0,none⟩)])] [] K)=(
 Y Tryz.prog 188 [S a l c,Value.func (Fn.func 104) #[] #[P (some (D p 0 none))]] H fun b d=>∃e,b=I Z e/\(X base H d->K (B (decide (0<=e))) [] d)):=by kernel_rfl
theorem vx104(mg mt mid:Int)(mr mgd:Bool)(pa:O)(pl pc:Nat)(p:Nat)(base:Nat)(H:Heap)(K:KT):
 (fV TryzMutsJ Tryz.f104 base H [.v (A #[I Z mg,I Z mt,B mr,B mgd,I Z mid,S pa pl pc]),.v (.pointer (some ⟨p,0,none⟩))] [] K)=(
 ∀a:Nat,∃b c d,C H p 14=some (S b c d)/\K (B (decide ((c:Int)<=mg))) [] H):=by kernel_rfl
open Go
structure Step where
 kind:Int
 name:Int
 ver:Int
 deriving DecidableEq
def dropOf(b:List Pin)(p:Pin):Option Step:=if find b p.name=0 then some ⟨2,p.name,0⟩ else none
def addOf(a:List Pin)(p:Pin):Option Step:=if find a p.name=p.ver then none else if find a p.name=0 then some ⟨1,p.name,p.ver⟩ else some ⟨3,p.name,p.ver⟩
def drops(a b:List Pin):List Step:=a.filterMap (dropOf b)
def adds(a b:List Pin):List Step:=b.filterMap (addOf a)
def diffs(a b:List Pin):List Step:=drops a b++adds a b
def diffErr(a b:List Pin):Int:=if lockCheck a=0 then lockCheck b else lockCheck a
def del(n:Int)(l:List Pin):List Pin:=l.filter fun p=>p.name≠n
def applied(l:List Pin)(o:Step):List Pin:=if o.kind=2 then del o.name l else up o.name o.ver l
def badStep(o:Step):Prop:=o.name<1∨20<o.name∨(o.kind≠2/\(o.ver<1∨99<o.ver))∨(o.kind=2/\o.ver≠0)
instance (o:Step):Decidable (badStep o):=by unfold badStep;infer_instance
def applyErr(l:List Pin)(o:Step):Int:=
 if lockCheck l≠0 then lockCheck l else
 if o.kind<1∨3<o.kind then 4 else
 if badStep o then 3 else
 if o.kind=1/\find l o.name≠0 then 6 else
 if o.kind≠1/\find l o.name=0 then 5 else
 if o.kind=1/\l.length=12 then 2 else 0
theorem find_del{l:List Pin}(n m:Int):find (del n l) m=if m=n then 0 else find l m:=by
 induction l with
 |nil=>simp[del,find]
 |cons p r ih=>
  unfold del at ih⊢
  rw[List.filter_cons]
  by_cases h:p.name=n
  ·rw[if_neg (by simp[h]),ih]
   by_cases e:m=n
   ·rw[if_pos e,if_pos e]
   ·rw[if_neg e,if_neg e,find,if_neg (by omega)]
  ·rw[if_pos (by simp[h]),find,ih,find]
   by_cases e:p.name=m
   ·rw[if_pos e,if_pos e,if_neg (by omega)]
   ·rw[if_neg e,if_neg e]
theorem Lk.del{l:List Pin}(h:Lk l)(n:Int):Lk (del n l):=
 ⟨fun p hp=>h.good p (List.mem_filter.1 hp).1,h.rise.sublist List.filter_sublist⟩
theorem applied_find{l:List Pin}(h:Lk l)(o:Step)(m:Int)(hk:o.kind=2->o.ver=0):find (applied l o) m=if m=o.name then o.ver else find l m:=by
 unfold applied
 split
 ·rename_i e;rw[find_del,hk e]
 ·rw[find_up m h]
theorem names_len:∀ {l m:List Pin},Lk l->Lk m->(∀p∈l,find m p.name≠0)->l.length<=m.length:=by
 intro l m hl hm h
 have hlk:∀ {x:List Pin},Lk x->Lk (x.map fun p=>⟨p.name,1⟩):=fun hx=>⟨fun p hp=>by
  obtain⟨q,hq,rfl⟩:=List.mem_map.1 hp
  have:=hx.name hq
  unfold badPin;simp;omega,by
  rw[List.pairwise_map];exact hx.rise⟩
 have hf:∀(x:List Pin)(n:Int),Lk x->find (x.map fun p=>⟨p.name,1⟩) n=if find x n=0 then 0 else 1:=by
  intro x n hx
  induction x with
  |nil=>rfl
  |cons p r ih=>
   rw[List.map_cons,find,find]
   by_cases e:p.name=n
   ·have:=hx.name (p:=p) List.mem_cons_self
    rw[if_pos e,if_pos e,if_neg (by omega)]
   ·rw[if_neg e,if_neg e,ih hx.tail]
 have:=LeL.len (hlk hl) (hlk hm) fun n=>by
  rw[hf l n hl,hf m n hm]
  by_cases e:find l n=0
  ·rw[if_pos e];split<;>omega
  ·obtain⟨p,h1,h2,_⟩:=find_pos e
   have:=h p h1
   rw[h2] at this
   rw[if_neg e,if_neg this]
   exact Int.le_refl _
 simpa using this
theorem filterMap_congr'{f g:Pin->Option Step} :∀ {l:List Pin},(∀x∈l,g x=f x)->l.filterMap g=l.filterMap f
 | [],_=>rfl
 |x::r,h=>by
  have ih:=filterMap_congr' (l:=r) fun y hy=>h y (List.mem_cons_of_mem _ hy)
  have hx:=h x List.mem_cons_self
  cases hf:f x with
  |none=>rw[List.filterMap_cons_none hf,List.filterMap_cons_none (hx.trans hf),ih]
  |some s=>rw[List.filterMap_cons_some hf,List.filterMap_cons_some (hx.trans hf),ih]
theorem first_gone{f g:Pin->Option Step}{n:Int}(hn:∀q s,f q=some s->s.name=q.name):∀ {l:List Pin},l.Pairwise (fun p q=>p.name<q.name)->(∀q∈l,q.name≠n->g q=f q)->(∀q∈l,q.name=n->g q=none)->
  ∀ {o:Step} {rest:List Step},l.filterMap f=o::rest->o.name=n->l.filterMap g=rest
 | [],_,_,_,o,rest,h,_=>by cases h
 |q::r,hp,h1,h2,o,rest,h,ho=>by
  obtain⟨hq,hr⟩:=List.pairwise_cons.1 hp
  cases hf:f q with
  |none=>
   rw[List.filterMap_cons_none hf] at h
   have hg:g q=none:=by
    by_cases e:q.name=n
    ·exact h2 q List.mem_cons_self e
    ·rw[h1 q List.mem_cons_self e,hf]
   rw[List.filterMap_cons_none hg]
   exact first_gone hn hr (fun x hx=>h1 x (List.mem_cons_of_mem _ hx)) (fun x hx=>h2 x (List.mem_cons_of_mem _ hx)) h ho
  |some s=>
   rw[List.filterMap_cons_some hf] at h
   obtain⟨rfl,rfl⟩:s=o/\r.filterMap f=rest:=by simpa using h
   have e:=hn q s hf
   rw[List.filterMap_cons_none (h2 q List.mem_cons_self (by omega))]
   exact filterMap_congr' fun x hx=>h1 x (List.mem_cons_of_mem _ hx) (by have:=hq x hx;omega)
theorem dropOf_name{b:List Pin}(q:Pin)(s:Step)(h:dropOf b q=some s):s.name=q.name/\s.kind=2/\s.ver=0/\find b q.name=0:=by
 unfold dropOf at h
 split at h
 ·cases h;rename_i e;exact⟨rfl,rfl,rfl,e⟩
 ·cases h
theorem addOf_name{a:List Pin}(q:Pin)(s:Step)(h:addOf a q=some s):s.name=q.name/\s.ver=q.ver/\find a q.name≠q.ver/\(s.kind=1/\find a q.name=0∨s.kind=3/\find a q.name≠0):=by
 unfold addOf at h
 split at h
 ·cases h
 ·rename_i e
  split at h
  ·cases h;rename_i e2;exact⟨rfl,rfl,e,.inl ⟨rfl,e2⟩⟩
  ·cases h;rename_i e2;exact⟨rfl,rfl,e,.inr ⟨rfl,e2⟩⟩
theorem drops_nil{a b:List Pin}(h:drops a b=[]):∀p∈a,find b p.name≠0:=fun p hp e=>by
 have:=List.filterMap_eq_nil_iff.1 h p hp
 unfold dropOf at this
 rw[if_pos e] at this;cases this
theorem adds_nil{a b:List Pin}(h:adds a b=[]):∀p∈b,find a p.name=p.ver:=fun p hp=>by
 have:=List.filterMap_eq_nil_iff.1 h p hp
 unfold addOf at this
 split at this
 ·assumption
 ·split at this<;>cases this
theorem diffs_nil{a b:List Pin}(ha:Lk a)(hb:Lk b)(h:diffs a b=[]):a=b:=by
 obtain⟨h1,h2⟩:=List.append_eq_nil_iff.1 h
 refine ha.ext hb fun n=> ?_
 by_cases e:find b n=0
 ·rw[e]
  by_cases e2:find a n=0
  ·exact e2
  ·obtain⟨p,hp,rfl,_⟩:=find_pos e2
   exact absurd e (drops_nil h1 p hp)
 ·obtain⟨p,hp,rfl,hv⟩:=find_pos e
  rw[adds_nil h2 p hp,hv]
structure StepOk(a b:List Pin)(o:Step):Prop where
 name:1<=o.name/\o.name<=20
 ver:o.ver=find b o.name
 differs:find a o.name≠find b o.name
 kind:(o.kind=2/\find b o.name=0/\find a o.name≠0)∨(o.kind=1/\find a o.name=0/\find b o.name≠0)∨(o.kind=3/\find a o.name≠0/\find b o.name≠0)
theorem diffs_mem{a b:List Pin}(ha:Lk a)(hb:Lk b){o:Step}(h:o∈diffs a b):StepOk a b o:=by
 rcases List.mem_append.1 h with h|h
 ·obtain⟨p,hp,he⟩:=List.mem_filterMap.1 h
  obtain⟨h1,h2,h3,h4⟩:=dropOf_name p o he
  have hn:=ha.name hp
  have hf:=find_mem ha hp
  rw[←h1] at h4 hn hf
  exact⟨⟨hn.1,hn.2.1⟩,by rw[h3,h4],by rw[hf,h4];omega,.inl ⟨h2,h4,by rw[hf];omega⟩⟩
 ·obtain⟨p,hp,he⟩:=List.mem_filterMap.1 h
  obtain⟨h1,h2,h3,h4⟩:=addOf_name p o he
  have hn:=hb.name hp
  have hf:=find_mem hb hp
  rw[←h1] at h3 h4 hn hf
  refine⟨⟨hn.1,hn.2.1⟩,by rw[h2,hf],by rw[hf];exact h3,?_⟩
  rcases h4 with⟨h5,h6⟩|⟨h5,h6⟩
  ·exact .inr (.inl ⟨h5,h6,by rw[hf];omega⟩)
  ·exact .inr (.inr ⟨h5,h6,by rw[hf];omega⟩)
theorem StepOk.good{a b:List Pin}(hb:Lk b){o:Step}(h:StepOk a b o):¬badStep o/\1<=o.kind/\o.kind<=3/\(o.kind=2->o.ver=0)/\(o.kind≠2->1<=o.ver/\o.ver<=99):=by
 have h1:=h.name
 have h2:=h.ver
 have h3:=hb.find_range o.name
 unfold badStep
 rcases h.kind with h4|h4|h4<;>omega
theorem StepOk.applied{a b:List Pin}(ha:Lk a)(hb:Lk b){o:Step}(h:StepOk a b o):Lk (applied a o)/\∀m,find (applied a o) m=if m=o.name then find b m else find a m:=by
 have hg:=h.good hb
 refine⟨?_,fun m=> ?_⟩
 ·unfold Vg.applied
  split
  ·exact ha.del _
  ·rename_i e;exact ha.up h.name (hg.2.2.2.2 e)
 ·rw[applied_find ha o m hg.2.2.2.1]
  by_cases e:m=o.name
  ·rw[if_pos e,if_pos e,e,h.ver]
  ·rw[if_neg e,if_neg e]
theorem diffs_step{a b:List Pin}(ha:Lk a)(hb:Lk b){o:Step}{rest:List Step}(h:diffs a b=o::rest):diffs (applied a o) b=rest:=by
 have hok:=diffs_mem ha hb (h▸List.mem_cons_self:o∈diffs a b)
 obtain⟨hL,hf⟩:=hok.applied ha hb
 unfold diffs at h⊢
 cases hd:drops a b with
 |nil=>
  rw[hd,List.nil_append] at h
  have h1:drops (applied a o) b=[]:=List.filterMap_eq_nil_iff.2 fun p hp=>by
   have hm:=hL.name hp
   have:=hf p.name
   rw[find_mem hL hp] at this
   rw[dropOf,if_neg]
   intro e
   by_cases e2:p.name=o.name
   ·rw[if_pos e2] at this;omega
   ·rw[if_neg e2] at this
    obtain⟨q,hq,hqn,_⟩:=find_pos (l:=a) (n:=p.name) (by omega)
    have:=drops_nil hd q hq
    rw[hqn] at this;exact this e
  rw[h1,List.nil_append]
  refine first_gone (f:=addOf a) (g:=addOf (applied a o)) (n:=o.name) (fun q s hs=>(addOf_name q s hs).1) hb.rise (fun q hq hn=> ?_) (fun q hq hn=> ?_) h rfl
  ·unfold addOf;rw[hf,if_neg hn]
  ·unfold addOf;rw[hf,if_pos hn,if_pos (find_mem hb hq)]
 |cons o' r=>
  rw[hd] at h
  obtain⟨rfl,rfl⟩:o'=o/\r++adds a b=rest:=by simpa using h
  obtain⟨p,hp,he⟩:=List.mem_filterMap.1 (hd▸List.mem_cons_self:o'∈drops a b)
  obtain⟨h1,h2,h3,h4⟩:=dropOf_name p o' he
  have happ:applied a o'=del o'.name a:=by unfold applied;rw[if_pos h2]
  have hdr:drops (applied a o') b=r:=by
   have e1:(del o'.name a).filterMap (dropOf b)=a.filterMap fun q=>if q.name≠o'.name then dropOf b q else none:=by
    unfold del
    generalize a=x
    induction x with
    |nil=>rfl
    |cons q x ih=>
     rw[List.filter_cons]
     by_cases e:q.name=o'.name
     ·rw[if_neg (by simp[e]),ih,List.filterMap_cons_none (by simp[e])]
     ·rw[if_pos (by simp[e])]
      cases hq:dropOf b q with
      |none=>rw[List.filterMap_cons_none hq,List.filterMap_cons_none (by simp[e,hq]),ih]
      |some s=>rw[List.filterMap_cons_some hq,List.filterMap_cons_some (b:=s) (by simp[e,hq]),ih]
   unfold drops
   rw[happ,e1]
   refine first_gone (f:=dropOf b) (n:=o'.name) (fun q s hs=>(dropOf_name q s hs).1) ha.rise (fun q hq hn=> ?_) (fun q hq hn=> ?_) hd rfl
   ·rw[if_pos hn]
   ·rw[if_neg (by simp[hn])]
  have had:adds (applied a o') b=adds a b:=by
   unfold adds
   refine filterMap_congr' fun q hq=> ?_
   have hne:q.name≠o'.name:=fun e=>by
    have:=hb.name hq
    rw[←e] at h1
    rw[←h1,find_mem hb hq] at h4;omega
   unfold addOf;rw[hf,if_neg hne]
  rw[hdr,had]
theorem diffs_fits{a b:List Pin}(ha:Lk a)(hb:Lk b)(ha12:a.length<=12)(hb12:b.length<=12){o:Step}{rest:List Step}(h:diffs a b=o::rest):applyErr a o=0/\(applied a o).length<=12:=by
 have hok:=diffs_mem ha hb (h▸List.mem_cons_self:o∈diffs a b)
 obtain⟨hL,hf⟩:=hok.applied ha hb
 have hg:=hok.good hb
 have hlen:(applied a o).length<=12/\(o.kind=1->a.length+1<=(applied a o).length):=by
  rcases hok.kind with⟨h1,h2,h3⟩|⟨h1,h2,h3⟩|⟨h1,h2,h3⟩
  ·refine⟨?_,by omega⟩
   unfold applied;rw[if_pos h1]
   have:=List.length_filter_le (fun p:Pin=>p.name≠o.name) a
   unfold del;omega
  ·have hdn:drops a b=[]:=by
    cases hd:drops a b with
    |nil=>rfl
    |cons o' r=>
     obtain⟨p,hp,he⟩:=List.mem_filterMap.1 (hd▸List.mem_cons_self:o'∈drops a b)
     have:=dropOf_name p o' he
     unfold diffs at h
     rw[hd] at h
     obtain⟨rfl,_⟩:o'=o/\r++adds a b=rest:=by simpa using h
     omega
   have h5:=names_len hL hb fun p hp=>by
    by_cases e:p.name=o.name
    ·rw[e];exact h3
    ·have hm:=hL.name hp
     have:=hf p.name
     rw[find_mem hL hp,if_neg e] at this
     obtain⟨q,hq,hqn,_⟩:=find_pos (l:=a) (n:=p.name) (by omega)
     have:=drops_nil hdn q hq
     rw[hqn] at this;exact this
   refine⟨by omega,fun _=> ?_⟩
   unfold applied;rw[if_neg (by omega)]
   have:∀ {l:List Pin},find l o.name=0->(∀p∈l,p.ver≠0)->(up o.name o.ver l).length=l.length+1:=by
    intro l
    induction l with
    |nil=>intro _ _;rfl
    |cons p r ih=>
     intro h hv
     rw[find] at h
     have hp:=hv p List.mem_cons_self
     by_cases e:p.name=o.name
     ·rw[if_pos e] at h;exact absurd h hp
     ·rw[if_neg e] at h
      unfold up
      split
      ·simp
      ·simp[ih h fun q hq=>hv q (List.mem_cons_of_mem _ hq)]
   rw[this h2 fun p hp=>by have:=ha.name hp;omega]
   exact Nat.le_refl _
  ·refine⟨?_,by omega⟩
   have h5:=names_len hL ha fun p hp=>by
    by_cases e:p.name=o.name
    ·rw[e];exact h2
    ·have hm:=hL.name hp
     have:=hf p.name
     rw[find_mem hL hp,if_neg e] at this
     omega
   omega
 refine⟨?_,hlen.1⟩
 unfold applyErr
 rw[if_neg (by simp[lockCheck_zero.2 ⟨ha,ha12⟩]),if_neg (by omega),if_neg hg.1]
 rcases hok.kind with⟨h1,h2,h3⟩|⟨h1,h2,h3⟩|⟨h1,h2,h3⟩
 ·rw[if_neg (by omega),if_neg (by omega),if_neg (by omega)]
 ·rw[if_neg (by omega),if_neg (by omega),if_neg (by have:=hlen.2 h1;omega)]
 ·rw[if_neg (by omega),if_neg (by omega),if_neg (by omega)]
def between(ops:List Step)(l:List Pin):Int->List Pin->Int
 |k,now=>match ops with
  | []=>if now=l then k else-1
  |o::r=>if now=l then k else between r l (k+1) (applied now o)
theorem diffErr_zero{a b:List Pin} :diffErr a b=0↔(Lk a/\a.length<=12)/\(Lk b/\b.length<=12):=by
 unfold diffErr
 rw[←lockCheck_zero,←lockCheck_zero]
 split<;>rename_i h<;>simp[h]
open Go
def inR(n a b:Int):Bool:=decide (a<=n/\n<=b)
def waveIn(k:Int):List Int->List Int->Except Int (List Int)
 |seen,[]=> .ok seen
 |seen,a::r=>if a<0 then .error 5 else if k<=a then .error 5 else if a∈seen then .error 6 else waveIn k (seen++[a]) r
def waveAll(k:Int):List Int->List (List Int)->Int
 |seen,[]=>if(seen.length:Int)<k then 4 else 0
 |seen,w::r=>if w=[] then 4 else match waveIn k seen w with| .error e=>e| .ok s=>waveAll k s r
def waveCheck(l:List (List Int))(k:Int):Int:=if k<1 then 3 else if 6<k then 3 else waveAll k [] l
def WOk(k:Int)(s:List Int):Prop:=s.Nodup/\∀a∈s,0<=a/\a<k
theorem wok_nil(k:Int):WOk k []:=⟨List.nodup_nil,by simp⟩
theorem wok_snoc{k:Int}{s:List Int}(h:WOk k s){a:Int}(h0:0<=a)(h1:a<k)(hn:a∉s):WOk k (s++[a]):=by
 refine⟨?_,fun b hb=> ?_⟩
 ·rw[List.nodup_append]
  refine⟨h.1,by simp,fun x hx y hy=> ?_⟩
  simp at hy;subst hy;rintro rfl;exact hn hx
 ·rw[List.mem_append] at hb
  rcases hb with hb|hb
  ·exact h.2 b hb
  ·simp at hb;subst hb;exact⟨h0,h1⟩
theorem nodup_len:∀(n:Nat)(s:List Int),s.Nodup->(∀a∈s,0<=a/\a<n)->s.length<=n
 |0,s,_,h=>by
  cases s with
  |nil=>simp
  |cons a r=>have:=h a List.mem_cons_self;omega
 |n+1,s,hn,h=>by
  by_cases hm:(n:Int)∈s
  ·have h1:=List.length_erase_of_mem hm
   have h2:=nodup_len n (s.erase n) (hn.erase _) (fun a ha=>by
    rw[hn.mem_erase_iff] at ha
    have:=h a ha.2
    have:=ha.1
    omega)
   have h3:0<s.length:=List.length_pos_of_mem hm
   omega
  ·have h2:=nodup_len n s hn (fun a ha=>by
    have:=h a ha
    have:a≠n:=by rintro rfl;exact hm ha
    omega)
   omega
theorem WOk.len{k:Int}{s:List Int}(h:WOk k s)(hk:0<=k):(s.length:Int)<=k:=by
 have:=nodup_len k.toNat s h.1 (fun a ha=>by have:=h.2 a ha;omega)
 omega
theorem waveIn_ok{k:Int} :∀(w:List Int) {s s':List Int},WOk k s->waveIn k s w= .ok s'->s'=s++w/\WOk k s'
 | [],s,s',h,e=>by simp[waveIn] at e;subst e;simp[h]
 |a::r,s,s',h,e=>by
  unfold waveIn at e
  split at e
  ·cases e
  ·split at e
   ·cases e
   ·split at e
    ·cases e
    ·rename_i h0 h1 h2
     obtain⟨e1,e2⟩:=waveIn_ok r (wok_snoc h (by omega) (by omega) h2) e
     exact⟨by rw[e1];simp,e2⟩
theorem waveAll_zero{k:Int}(hk:0<=k):∀(l:List (List Int)) {s:List Int},WOk k s->waveAll k s l=0->WOk k (s++l.flatten)/\((s++l.flatten).length:Int)=k/\∀w∈l,w≠[]
 | [],s,h,e=>by
  unfold waveAll at e
  split at e
  ·omega
  ·have:=h.len hk
   simp only[List.flatten_nil,List.append_nil]
   exact⟨h,by omega,by simp⟩
 |w::r,s,h,e=>by
  unfold waveAll at e
  split at e
  ·omega
  ·rename_i hw
   cases e2:waveIn k s w with
   |error x=>
    rw[e2] at e
    simp only at e
    exfalso
    clear hk
    induction w generalizing s with
    |nil=>simp[waveIn] at e2
    |cons a q ih=>
     unfold waveIn at e2
     split at e2
     ·cases e2;omega
     ·split at e2
      ·cases e2;omega
      ·split at e2
       ·cases e2;omega
       ·rename_i h0 h1 h2
        by_cases hq:q=[]
        ·subst hq;simp[waveIn] at e2
        ·exact ih _ (wok_snoc h (by omega) (by omega) h2) hq e2
   |ok s'=>
    rw[e2] at e
    obtain⟨e3,e4⟩:=waveIn_ok w h e2
    obtain⟨a1,a2,a3⟩:=waveAll_zero hk r e4 e
    subst e3
    rw[List.flatten_cons,←List.append_assoc]
    exact⟨a1,a2,fun x hx=>by
     rcases List.mem_cons.1 hx with rfl|hx
     ·exact hw
     ·exact a3 x hx⟩
theorem nodup_full:∀(n:Nat)(s:List Int),s.Nodup->(∀a∈s,0<=a/\a<n)->s.length=n->∀a:Int,0<=a->a<n->a∈s:=by
 intro n s hn h hl a h0 h1
 by_cases hm:a∈s
 ·exact hm
 ·have:=nodup_len n (a::s) (List.nodup_cons.2 ⟨hm,hn⟩) (fun b hb=>by
   rcases List.mem_cons.1 hb with rfl|hb
   ·exact⟨h0,h1⟩
   ·exact h b hb)
  simp at this
  omega
theorem waveCheck_zero{l:List (List Int)}{k:Int}(h:waveCheck l k=0):1<=k/\k<=6/\l.flatten.Nodup/\(∀a:Int,a∈l.flatten↔0<=a/\a<k)/\∀w∈l,w≠[]:=by
 unfold waveCheck at h
 split at h
 ·omega
 ·split at h
  ·omega
  ·obtain⟨h1,h2,h3⟩:=waveAll_zero (by omega) l (wok_nil k) h
   simp only[List.nil_append] at h1 h2
   refine⟨by omega,by omega,h1.1,fun a=>⟨h1.2 a,fun⟨ha,hb⟩=> ?_⟩,h3⟩
   exact nodup_full k.toNat _ h1.1 (fun b hb=>by have:=h1.2 b hb;omega) (by omega) a ha (by omega)

def waveOfFrom(a:Int):Int->List (List Int)->Int
 |_,[]=> -1
 |i,w::r=>if a∈w then i else waveOfFrom a (i+1) r
def waveOf(l:List (List Int))(a:Int):Int:=waveOfFrom a 0 l
theorem waveOfFrom_spec(a:Int):∀(l:List (List Int))(i:Int),(waveOfFrom a i l= -1/\a∉l.flatten)∨ ∃(j:Nat)(w:List Int),waveOfFrom a i l=i+j/\l[j]?=some w/\a∈w/\∀(m:Nat)(v:List Int),m<j->l[m]?=some v->a∉v
 | [],i=> .inl ⟨rfl,by simp⟩
 |w::r,i=>by
  unfold waveOfFrom
  by_cases h:a∈w
  ·rw[if_pos h]
   exact .inr ⟨0,w,by simp,rfl,h,fun m v hm=>by omega⟩
  ·rw[if_neg h]
   rcases waveOfFrom_spec a r (i+1) with⟨h1,h2⟩|⟨j,v,h1,h2,h3,h4⟩
   ·exact .inl ⟨h1,by simp[h];simpa using h2⟩
   ·refine .inr ⟨j+1,v,by rw[h1];omega,h2,h3,fun m u hm hu=> ?_⟩
    cases m with
    |zero=>simp at hu;subst hu;exact h
    |succ m=>exact h4 m u (by omega) hu
def notThrough(th:List Bool)(a:Int):Bool:=th[a.toNat]?==some false
def nowFrom(th:List Bool):Int->List (List Int)->Int
 |i,[]=>i
 |i,w::r=>if w.any (notThrough th) then i else nowFrom th (i+1) r
structure IsNow(l:List (List Int))(th:List Bool)(n:Nat):Prop where
 ahead:∀(i:Nat) w,l[i]?=some w->i<n->∀a∈w,notThrough th a=false
 le:n<=l.length
 here:n<l.length->∃w,l[n]?=some w/\∃a∈w,notThrough th a=true
theorem IsNow.unique{l:List (List Int)}{th:List Bool}{n m:Nat}(h:IsNow l th n)(k:IsNow l th m):n=m:=by
 rcases Nat.lt_trichotomy n m with c|c|c
 ·obtain⟨w,hw,a,ha,hx⟩:=h.here (by have:=k.le;omega)
  have:=k.ahead n w hw c a ha
  rw[hx] at this;cases this
 ·exact c
 ·obtain⟨w,hw,a,ha,hx⟩:=k.here (by have:=h.le;omega)
  have:=h.ahead m w hw c a ha
  rw[hx] at this;cases this
theorem nowFrom_spec(th:List Bool):∀(l:List (List Int))(i:Int),∃n:Nat,nowFrom th i l=i+n/\IsNow l th n
 | [],i=>⟨0,by simp[nowFrom],⟨fun i w hw h=>by omega,by simp,fun h=>by simp at h⟩⟩
 |w::r,i=>by
  unfold nowFrom
  by_cases h:w.any (notThrough th)=true
  ·rw[if_pos h]
   refine⟨0,by simp,⟨fun i w hw h=>by omega,by omega,fun _=>⟨w,rfl,?_⟩⟩⟩
   simpa using h
  ·rw[if_neg h]
   obtain⟨n,hn,hI⟩:=nowFrom_spec th r (i+1)
   refine⟨n+1,by rw[hn];omega,⟨fun j v hv hj a ha=> ?_,by have:=hI.le;simp;omega,fun hl=> ?_⟩⟩
   ·cases j with
    |zero=>
     simp at hv;subst hv
     cases hx:notThrough th a with
     |false=>rfl
     |true=>exact absurd (List.any_eq_true.2 ⟨a,ha,hx⟩) h
    |succ j=>exact hI.ahead j v (by simpa using hv) (by omega) a ha
   ·simpa using hI.here (by simp at hl;omega)
open Go Go.Proofs
theorem vc102(n a b:Int)(base:Nat)(H:Heap)(K:KT):
 (fV TryzMuts Tryz.f92 base H [.v (I Z n),.v (I Z a),.v (I Z b)] [] K)=(
 (a<=n->K (B (decide (n<=b))) [] H)/\(¬a<=n->K (B false) [] H)):=by kernel_rfl
theorem vc140(a:O)(l c:Nat)(x:Int)(base:Nat)(H:Heap)(K:KT):
 (fV TryzMuts Tryz.f194 base H [.v (S a l c),.v (I Z x)] [] K)=(
 ∃(b:LI)(d:LM),b [I Z 0,I Z 0] H/\∀(e g:Int)(h:Heap),X base H h->b [I Z e,I Z g] h->(g<(l:Int)->∃i j,a=some (D i j none)/\0<=g/\g<(l:Int)/\∃k,C h i (j+N g*1)=some (I Z k)/\(x=k->K (I Z g) [] h)/\(¬x=k->∀m:Int,m=W Z (g+1)->b [I Z e,I Z m] h/\d [I Z e,I Z m]<d [I Z e,I Z g]))/\(¬g<(l:Int)->K (I Z (-1)) [] h)):=by kernel_rfl
theorem vc103(a:O)(l c:Nat)(x:Int)(base:Nat)(H:Heap)(K:KT):
 (fV TryzMuts Tryz.f137 base H [.v (S a l c),.v (I Z x)] [] K)=(
 Y Tryz.prog 194 [S a l c,I Z x] H fun b d=>∃e,b=I Z e/\(X base H d->K (B (decide (0<=e))) [] d)):=by kernel_rfl
theorem vc26(a:O)(l c:Nat)(k:Int)(base:Nat)(H:Heap)(K:KT):
 (fV TryzMuts Tryz.f187 base H [.v (S a l c),.v (I Z k)] [] K)=(
 (k<1->K (I Z 3) [] H)/\(¬k<1->(6<k->K (I Z 3) [] H)/\(¬6<k->∀b:Nat,∃(d:LI)(e:LM),d [I Z 0,I Z 0,A #[]] H/\∀(g h:Int)(i:List Value)(j:Heap),X base H j->d [I Z g,I Z h,A (List.toArray i)] j->(h<(l:Int)->∃m n,a=some (D m n none)/\0<=h/\h<(l:Int)/\∃o p q,C j m (n+N h*1)=some (S o p q)/\((p:Int)=0->K (I Z 4) [] j)/\(¬(p:Int)=0->∃(r:LI)(s:LM),r [I Z g,I Z 0,A (List.toArray i)] j/\∀(t u:Int)(v:List Value)(w:Heap),X base H w->r [I Z t,I Z u,A (List.toArray v)] w->(u<(p:Int)->∃x y,o=some (D x y none)/\0<=u/\u<(p:Int)/\∃z,C w x (y+N u*1)=some (I Z z)/\(z<0->K (I Z 5) [] w)/\(¬z<0->(k<=z->K (I Z 5) [] w)/\(¬k<=z->∃a1 b1:Bool,mapGet (B false) (I Z z) v=some (B a1,b1)/\(a1=true->K (I Z 6) [] w)/\(a1=false->∃c1:List Value,mapSet (I Z z) (B true) v=some c1/\∀d1:Int,d1=W Z (u+1)->r [I Z t,I Z d1,A (List.toArray c1)] w/\s [I Z t,I Z d1,A (List.toArray c1)]<s [I Z t,I Z u,A (List.toArray v)]))))/\(¬u<(p:Int)->∀x:Int,x=W Z (h+1)->d [I Z t,I Z x,A (List.toArray v)] w/\e [I Z t,I Z x,A (List.toArray v)]<e [I Z g,I Z h,A (List.toArray i)])))/\(¬h<(l:Int)->((↑(List.length i/2):Int)<k->K (I Z 4) [] j)/\(¬(↑(List.length i/2):Int)<k->K (I Z 0) [] j))))):=by kernel_rfl
theorem vc105(a:O)(l c:Nat)(p:Nat)(base:Nat)(H:Heap)(K:KT):
 (fV TryzMuts Tryz.f136 base H [.v (S a l c),.v (.pointer (some ⟨p,0,none⟩))] [] K)=(
 ∃b,C H p 0=some (I Z b)/\Y Tryz.prog 137 [S a l c,I Z b] H fun d e=>∃g,d=B g/\(X base H e->K (B g) [] e)):=by kernel_rfl
theorem vc104(a:O)(l c:Nat)(p:Nat)(base:Nat)(H:Heap)(K:KT):
 (fV TryzMuts Tryz.f135 base H [.v (S a l c),.v (.func (.func 136) #[] #[.pointer (some ⟨p,0,none⟩)])] [] K)=(
 ∃(b:LI)(d:LM),b [I Z 0,I Z 0] H/\∀(e g:Int)(h:Heap),X base H h->b [I Z e,I Z g] h->(g<(l:Int)->∃i j,a=some (D i j none)/\0<=g/\g<(l:Int)/\∃k m n,C h i (j+N g*1)=some (S k m n)/\Y Tryz.prog 136 [S k m n,P (some (D p 0 none))] h fun o q=>∃r,o=B r/\(X base h q->(r=true->K (I Z g) [] q)/\(r=false->∀s:Int,s=W Z (g+1)->b [I Z e,I Z s] q/\d [I Z e,I Z s]<d [I Z e,I Z g])))/\(¬g<(l:Int)->K (I Z (-1)) [] h)):=by kernel_rfl
theorem vc27(a:O)(l c:Nat)(k:Int)(base:Nat)(H:Heap)(K:KT):
 (fV TryzMuts Tryz.f49 base H [.v (S a l c),.v (I Z k)] [] K)=(
 ∀b:Nat,true=true/\∀d:Heap,X 0 H d->d b=some (boxKB 3 [I Z k])/\True->Y Tryz.prog 135 [S a l c,Value.func (Fn.func 136) #[] #[P (some (D b 0 none))]] d fun e g=>∃h,e=I Z h/\∀i,X base H i->(∀(j:Nat)(m:KB),g j=some m->(∀n:Bx,n∈ [J b false 3 [I Z k]]->j≠Bx.b n)->i j=some m)->K (I Z h) [] i):=by kernel_rfl
theorem vc23(a a':O)(l c l' c':Nat)(base:Nat)(H:Heap)(K:KT):
 (fV TryzMuts Tryz.f252 base H [.v (S a l c),.v (S a' l' c')] [] K)=(
 Y Tryz.prog 187 [S a l c,I Z (l':Int)] H fun b d=>∃e,b=I Z e/\(X base H d->(¬e=0->K (T #[I Z 0,I Z e]) [] d)/\(¬¬e=0->∃(g:LI)(h:LM),g [I Z 0,I Z 0,I Z 0] d/\∀(i j k:Int)(m:Heap),X base H m->g [I Z i,I Z j,I Z k] m->(k<(l:Int)->∃n o,a=some (D n o none)/\0<=k/\k<(l:Int)/\∃p q r,C m n (o+N k*1)=some (S p q r)/\∃(s:LI)(t:LM),s [I Z i,I Z j,I Z 0] m/\∀(u v w:Int)(x:Heap),X base H x->s [I Z u,I Z v,I Z w] x->(w<(q:Int)->∃y z,p=some (D y z none)/\0<=w/\w<(q:Int)/\∃a1,C x y (z+N w*1)=some (I Z a1)/\∃b1 c1,a'=some (D b1 c1 none)/\0<=a1/\a1<(l':Int)/\∃d1,C x b1 (c1+N a1*1)=some (B d1)/\(d1=false->K (T #[I Z k,I Z 0]) [] x)/\(¬d1=false->∀e1:Int,e1=W Z (w+1)->s [I Z u,I Z v,I Z e1] x/\t [I Z u,I Z v,I Z e1]<t [I Z u,I Z v,I Z w]))/\(¬w<(q:Int)->∀y:Int,y=W Z (k+1)->g [I Z u,I Z v,I Z y] x/\h [I Z u,I Z v,I Z y]<h [I Z i,I Z j,I Z k]))/\(¬k<(l:Int)->K (T #[I Z (l:Int),I Z 0]) [] m)))):=by kernel_rfl
open Go Go.Proofs
theorem vc62(a:O)(l c:Nat)(base:Nat)(H:Heap)(K:KT):
 (fV TryzMuts Tryz.f140 base H [.v (S a l c)] [] K)=(
 (12<(l:Int)->K (I Z 2) [] H)/\(¬12<(l:Int)->∃(b:LI)(d:LM),b [I Z 0,I Z 0] H/\∀(e g:Int)(h:Heap),X base H h->b [I Z e,I Z g] h->(g<(l:Int)->∃i j,a=some (D i j none)/\0<=g/\g<(l:Int)/\∃k m:Int,(C h i (j+N g*2)=some (I Z k)/\C h i (j+N g*2+1)=some (I Z m)/\True)/\∀n:Nat,(k<1->K (I Z 3) [] h)/\(¬k<1->(20<k->K (I Z 3) [] h)/\(¬20<k->(m<1->K (I Z 3) [] h)/\(¬m<1->(99<m->K (I Z 3) [] h)/\(¬99<m->(0<g->∀o:Int,o=W Z (g-1)->∃p q,a=some (D p q none)/\0<=o/\o<(l:Int)/\∃r,C h p (q+N o*2)=some (I Z r)/\(k<=r->K (I Z 6) [] h)/\(¬k<=r->∀s:Int,s=W Z (g+1)->b [I Z e,I Z s] h/\d [I Z e,I Z s]<d [I Z e,I Z g]))/\(¬0<g->∀o:Int,o=W Z (g+1)->b [I Z e,I Z o] h/\d [I Z e,I Z o]<d [I Z e,I Z g]))))))/\(¬g<(l:Int)->K (I Z 0) [] h))):=by kernel_rfl
theorem vc108(a:O)(l c:Nat)(base:Nat)(H:Heap)(K:KT):
 (fV TryzMuts Tryz.f159 base H [.v (S a l c)] [] K)=(
 (12<(l:Int)->K (I Z 2) [] H)/\(¬12<(l:Int)->∃(b:LI)(d:LM),b [I Z 0,I Z 0,I Z 0] H/\∀(e g h:Int)(i:Heap),X base H i->b [I Z e,I Z g,I Z h] i->(h<(l:Int)->∃j k,a=some (D j k none)/\0<=h/\h<(l:Int)/\∃m n:Int,(C i j (k+N h*2)=some (I Z m)/\C i j (k+N h*2+1)=some (I Z n)/\True)/\∀o:Nat,Y Tryz.prog 92 [I Z m,I Z 1,I Z 20] i fun p q=>∃r,p=B r/\(X base i q->(r=false->K (I Z 3) [] q)/\(¬r=false->Y Tryz.prog 92 [I Z n,I Z 1,I Z 99] q fun s t=>∃u,s=B u/\(X base q t->(u=false->K (I Z 3) [] t)/\(¬u=false->(m<=g->K (I Z 6) [] t)/\(¬m<=g->∀v:Int,v=W Z (h+1)->b [I Z e,I Z m,I Z v] t/\d [I Z e,I Z m,I Z v]<d [I Z e,I Z g,I Z h]))))))/\(¬h<(l:Int)->K (I Z 0) [] i))):=by kernel_rfl
theorem vc114(n v:Int)(p:Nat)(base:Nat)(H:Heap)(K:KT):
 (fV TryzMuts Tryz.f148 base H [.v (A #[I Z n,I Z v]),.v (.pointer (some ⟨p,0,none⟩))] [] K)=(
 ∀a:Nat,∃b,C H p 0=some (I Z b)/\K (B (decide (n=b))) [] H):=by kernel_rfl
theorem vc113(a:O)(l c:Nat)(p:Nat)(base:Nat)(H:Heap)(K:KT):
 (fV TryzMuts Tryz.f147 base H [.v (S a l c),.v (.func (.func 148) #[] #[.pointer (some ⟨p,0,none⟩)])] [] K)=(
 ∃(b:LI)(d:LM),b [I Z 0,I Z 0] H/\∀(e g:Int)(h:Heap),X base H h->b [I Z e,I Z g] h->(g<(l:Int)->∃i j,a=some (D i j none)/\0<=g/\g<(l:Int)/\∃k m:Int,(C h i (j+N g*2)=some (I Z k)/\C h i (j+N g*2+1)=some (I Z m)/\True)/\Y Tryz.prog 148 [A #[I Z k,I Z m],P (some (D p 0 none))] h fun n o=>∃q,n=B q/\(X base h o->(q=true->K (I Z g) [] o)/\(q=false->∀r:Int,r=W Z (g+1)->b [I Z e,I Z r] o/\d [I Z e,I Z r]<d [I Z e,I Z g])))/\(¬g<(l:Int)->K (I Z (-1)) [] h)):=by kernel_rfl
theorem vc42(a:O)(l c:Nat)(k:Int)(base:Nat)(H:Heap)(K:KT):
 (fV TryzMuts Tryz.f75 base H [.v (S a l c),.v (I Z k)] [] K)=(
 ∀b:Nat,true=true/\∀d:Heap,X 0 H d->d b=some (boxKB 3 [I Z k])/\True->Y Tryz.prog 147 [S a l c,Value.func (Fn.func 148) #[] #[P (some (D b 0 none))]] d fun e g=>∃h,e=I Z h/\∀i,X base H i->(∀(j:Nat)(m:KB),g j=some m->(∀n:Bx,n∈ [J b false 3 [I Z k]]->j≠Bx.b n)->i j=some m)->(h<0->K (I Z 0) [] i)/\(¬h<0->∃j m,a=some (D j m none)/\0<=h/\h<(l:Int)/\∃n,C i j (m+N h*2+1)=some (I Z n)/\K (I Z n) [] i)):=by kernel_rfl
theorem vc41(a a':O)(l c l' c':Nat)(base:Nat)(H:Heap)(K:KT):
 (fV TryzMuts Tryz.f47 base H [.v (S a l c),.v (S a' l' c')] [] K)=(
 (¬(l:Int)=(l':Int)->K (B false) [] H)/\(¬¬(l:Int)=(l':Int)->∃(b:LI)(d:LM),b [B false,I Z 0] H/\∀(e:Bool)(g:Int)(h:Heap),X base H h->b [B e,I Z g] h->(g<(l:Int)->∃i j,a=some (D i j none)/\0<=g/\g<(l:Int)/\∃k m:Int,(C h i (j+N g*2)=some (I Z k)/\C h i (j+N g*2+1)=some (I Z m)/\True)/\∃n o,a'=some (D n o none)/\0<=g/\g<(l':Int)/\∃p q:Int,(C h n (o+N g*2)=some (I Z p)/\C h n (o+N g*2+1)=some (I Z q)/\True)/\∃r,RunsTo Tryz.prog (binRun BinOp.neq 91 (Operand.tmp 19) (Operand.tmp 23) (A #[I Z k,I Z m]) (A #[I Z p,I Z q])) (B r)/\(r=true->K (B false) [] h)/\(¬r=true->∀s:Int,s=W Z (g+1)->b [B e,I Z s] h/\d [B e,I Z s]<d [B e,I Z g]))/\(¬g<(l:Int)->K (B true) [] h))):=by kernel_rfl
theorem vc39(a:O)(l c:Nat)(base:Nat)(H:Heap)(K:KT):
 (fV TryzMuts Tryz.f222 base H [.v (S a l c)] [] K)=(
 (10<(l:Int)->K (I Z 2) [] H)/\(¬10<(l:Int)->∃(b:LI)(d:LM),b [I Z 0,I Z 0] H/\∀(e g:Int)(h:Heap),X base H h->b [I Z e,I Z g] h->(g<(l:Int)->∃i j,a=some (D i j none)/\0<=g/\g<(l:Int)/\∃k m n o:Int,(fun w1:LL=>(C h i (j+N g*4)=some (I Z k)/\C h i (j+N g*4+1)=some (I Z m)/\C h i (j+N g*4+2)=some (I Z n)/\C h i (j+N g*4+3)=some (I Z o)/\True)/\∀p:Nat,∃(q:LI)(r:LM),q [I Z e,I Z 0] h/\∀(s t:Int)(u:Heap),X base H u->q [I Z s,I Z t] u->(t<2->0<=t/\t<2/\∃v,List.get?Internal [I Z k,I Z n] (N t*1)=some (I Z v)/\(v<1->K (I Z 3) [] u)/\(¬v<1->(20<v->K (I Z 3) [] u)/\(¬20<v->∀w:Int,w=W Z (t+1)->w1=w1/\q [I Z s,I Z w] u/\r [I Z s,I Z w]<r [I Z s,I Z t])))/\(¬t<2->∃(v:LI)(w:LM),v [I Z s,I Z 0] u/\∀(x y:Int)(z:Heap),X base H z->v [I Z x,I Z y] z->(y<2->0<=y/\y<2/\∃a1,List.get?Internal [I Z m,I Z o] (N y*1)=some (I Z a1)/\(a1<1->K (I Z 3) [] z)/\(¬a1<1->(99<a1->K (I Z 3) [] z)/\(¬99<a1->∀b1:Int,b1=W Z (y+1)->w1=w1/\v [I Z x,I Z b1] z/\w [I Z x,I Z b1]<w [I Z x,I Z y])))/\(¬y<2->(k=n->K (I Z 4) [] z)/\(¬k=n->∀a1:Int,a1=W Z (g+1)->b [I Z x,I Z a1] z/\d [I Z x,I Z a1]<d [I Z e,I Z g])))) [[I Z k,I Z m,I Z n,I Z o]])/\(¬g<(l:Int)->K (I Z 0) [] h))):=by kernel_rfl
theorem vc34(a a':O)(l c l' c':Nat)(base:Nat)(H:Heap)(K:KT):
 (fV TryzMuts Tryz.f186 base H [.v (S a l c),.v (S a' l' c')] [] K)=(
 Y Tryz.prog 140 [S a l c] H fun b d=>∃e,b=I Z e/\(X base H d->(¬e=0->K (T #[I Z 0,I Z e]) [] d)/\(¬¬e=0->Y Tryz.prog 222 [S a' l' c'] d fun g h=>∃i,g=I Z i/\(X base d h->(¬i=0->K (T #[I Z 0,I Z i]) [] h)/\(¬¬i=0->∃(j:LI)(k:LM),j [I Z 0,I Z 0,I Z 0] h/\∀(m n o:Int)(p:Heap),X base H p->j [I Z m,I Z n,I Z o] p->(o<(l':Int)->∃q r,a'=some (D q r none)/\0<=o/\o<(l':Int)/\∃s t u v:Int,(C p q (r+N o*4)=some (I Z s)/\C p q (r+N o*4+1)=some (I Z t)/\C p q (r+N o*4+2)=some (I Z u)/\C p q (r+N o*4+3)=some (I Z v)/\True)/\∀w:Nat,Y Tryz.prog 75 [S a l c,I Z s] p fun x y=>∃z,x=I Z z/\(X base p y->(t<=z->Y Tryz.prog 75 [S a l c,I Z u] y fun a1 b1=>∃c1,a1=I Z c1/\(X base y b1->(c1<v->K (T #[I Z o,I Z 0]) [] b1)/\(¬c1<v->∀d1:Int,d1=W Z (o+1)->j [I Z m,I Z n,I Z d1] b1/\k [I Z m,I Z n,I Z d1]<k [I Z m,I Z n,I Z o])))/\(¬t<=z->∀a1:Int,a1=W Z (o+1)->j [I Z m,I Z n,I Z a1] y/\k [I Z m,I Z n,I Z a1]<k [I Z m,I Z n,I Z o])))/\(¬o<(l':Int)->K (T #[I Z (-1),I Z 0]) [] p)))))):=by kernel_rfl
end Go.Vg
