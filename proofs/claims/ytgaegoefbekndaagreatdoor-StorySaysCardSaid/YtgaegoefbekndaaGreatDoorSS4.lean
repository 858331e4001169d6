/- What is proved here: a part of the proof of laws of this seat: what a contract is, how it comes of a condition, contracts of the functions that are reached, the plain laws. -/
import Derived.Test.YtgaegoefbekndaaGreatDoorSS3
import Derived.Laws.Externs
import Derived.Lib.Overlaps
set_option linter.unusedSimpArgs false
set_option linter.unusedVariables false
set_option maxRecDepth 100000
namespace Go.Vg
open Go Go.Proofs
theorem Row.cellsAt{base:Nat}{H:Heap}{e:TypeId}{sz:Nat}{g n c:Nat}{xs:List Value}(h:Row base H e sz (some ⟨g,0,none⟩) n c xs){k:Nat}(hk:k<=xs.length)(hn:0<n):cellsAt H g k 0 (xs.drop k):=by
 obtain⟨b,kb,ha,_,_,hH,_,_,hc⟩:=h.block hn
 obtain rfl:g=b:=by simpa using ha
 refine cellsAt_of _ 0 fun j v hj=> ?_
 rw[List.getElem?_drop] at hj
 unfold Heap.cell
 rw[hH]
 have:=hc _ v hj
 rw[Nat.zero_add];exact this
theorem box_cellsAt{H:Heap}{g:Nat}{e:TypeId}{cs:List Value}(h:H g=some (boxKB e cs)):Vg.cellsAt H g 0 0 cs:=
 cellsAt_of _ 0 fun j v hj=>by unfold Heap.cell;rw[h];simpa[boxKB] using hj
theorem allOne_mem{xs:List Value} :allOne xs=true↔ ∀v∈xs,v.oneCell'=true:=by
 induction xs with
 |nil=>simp[allOne]
 |cons x r ih=>simp[allOne,ih]
theorem allOne_drop{xs:List Value}(h:allOne xs=true)(k:Nat):allOne (xs.drop k)=true:=allOne_mem.2 fun v hv=>allOne_mem.1 h v (List.mem_of_mem_drop hv)
theorem Row.past{base:Nat}{H H':Heap}{e:TypeId}{sz:Nat}{a:O}{n c b o:Nat}{k:KB}{xs vs:List Value}(h:Row base H e sz a n c xs)(ha:a=some ⟨b,0,none⟩)(hc:c≠0)(hk:H b=some k)(ho:xs.length<=o)(hu:Upd H b o k vs H'):Row base H' e sz a n c xs:=by
 obtain⟨h1,h2,h3,h4⟩:=h
 rcases h4 with⟨_,h5⟩|⟨g,k',hg,hbg,hH,h6,h7,h8,h9⟩
 ·exact absurd h5 hc
 ·rw[ha] at hg
  simp only[Option.some.injEq,Addr.mk.injEq,and_true] at hg
  subst hg
  rw[hk] at hH
  obtain rfl:=Option.some.inj hH
  refine⟨h1,h2,h3,.inr ⟨b,_,ha,hbg,hu.here,h6,h7,h8,fun j v hv=> ?_⟩⟩
  have hj:=(List.getElem?_eq_some_iff.1 hv).1
  simp only[updCells]
  rw[if_neg (by omega)]
  exact h9 j v hv
theorem Grew.refl{base:Nat}{H:Heap}{a:O}{c nn:Nat} :Grew base H H a c a c nn:=
 ⟨fun _ _ h _=>h,fun x k h h'=>by(rw[h] at h';cases h'),fun hc _ _=> .inr ⟨rfl,hc⟩,fun _=>⟨rfl,rfl⟩⟩
theorem Grew.upd{base:Nat}{H H' H'':Heap}{a:O}{c nn b o:Nat}{k:KB}{vs:List Value}(h:Grew base H H' a c a c nn)(ha:a=some ⟨b,0,none⟩)(hc:c≠0)(hk:H' b=some k)(hu:Upd H' b o k vs H''):Grew base H H'' a c a c nn:=
 ⟨fun x kx hx hne=>by
  have hb:x≠b:=fun e=>by
   subst e
   rcases hne with hne|hne
   ·exact hc hne
   ·exact hne ha
  rw[hu.there x hb];exact h.keep x kx hx hne,fun x kx hx hn=>by
  by_cases e:x=b
  ·subst e;exact h.fresh x k hk hn
  ·rw[hu.there x e] at hx;exact h.fresh x kx hx hn,h.place,h.room⟩
def delF(base sz:Nat)(e:TypeId)(bytes:Nat)(z:List Value)(own:List Bx)(H:Heap)(f:SV->List Bx->Heap->Prop)(a:O)(n c:Nat)(i j:Int):Prop:=
 0<=i/\i<=j/\j<=(↑n:Int)/\(↑n:Int)<=(↑c:Int)/\∀(a':O),(i<(↑n:Int)->a'=Option.map (fun(ad:Addr)=>Addr.add ad (Int.toNat i*sz)) a)->(i=j->f (SV.v (Value.slice a n c)) own H)/\(¬i=j->0<=i/\
 i<=(↑c:Int)/\0<=j/\j<=(↑n:Int)/\n<=c/\∀(a':O),(j<(↑c:Int)->a'=Option.map (fun(ad:Addr)=>Addr.add ad (Int.toNat j*sz)) a)->∃(xs:List Value),∃(cells:List Value),Row base H e sz a (Int.toNat
 i) c xs/\List.length cells=(n-Int.toNat j)*sz/\allOne cells=true/\(n-Int.toNat j=0∨ ∃(b:Nat),∃(o:Nat),a'=some (Addr.mk b o none)/\cellsAt H b o 0 cells)/\(Int.toNat i+(n-Int.toNat j))*bytes<=
 140737488355328/\Int.toNat i+(n-Int.toNat j)<=9223372036854775807/\∀(a':O)(c':Nat)(H':Heap),Grew base H H' a c a' c' (Int.toNat i+(n-Int.toNat j))->Row base H' e sz a' (Int.toNat i+(n-Int.toNat j)) c' (xs++cells)->0<=(↑(Int.toNat
 i+(n-Int.toNat j)):Int)/\(↑(Int.toNat i+(n-Int.toNat j)):Int)<=(↑n:Int)/\(↑n:Int)<=(↑c':Int)/\∀(a'_1:O),((↑(Int.toNat i+(n-Int.toNat j)):Int)<(↑c':Int)->a'_1=Option.map (fun(ad:Addr)
 =>Addr.add ad (Int.toNat (↑(Int.toNat i+(n-Int.toNat j)):Int)*sz)) a')->(Int.toNat (↑n:Int)-Int.toNat (↑(Int.toNat i+(n-Int.toNat j)):Int)=0->f (SV.v (Value.slice a' (Int.toNat i+(n-Int.toNat j)) c')) own H')
 /\(Int.toNat (↑n:Int)-Int.toNat (↑(Int.toNat i+(n-Int.toNat j)):Int)≠0->∃(b:Nat),∃(o:Nat),∃(k:KB),a'_1=some (Addr.mk b o none)/\H' b=some k/\KB.free k=true/\base<=b/\o+(Int.toNat (↑n:Int)-
 Int.toNat (↑(Int.toNat i+(n-Int.toNat j)):Int))*sz<=KB.size k/\∀(H'_1:Heap),Upd H' b o k (List.flatten (List.replicate (Int.toNat (↑n:Int)-Int.toNat (↑(Int.toNat i+(n-Int.toNat j)):Int)) z)) H'_1->f (SV.v (Value.slice a' (Int.toNat i+(n-Int.toNat j)) c')) own H'_1))
def delP(base sz:Nat)(e:TypeId)(own:List Bx)(H:Heap)(f:SV->List Bx->Heap->Prop)(a:O)(n c:Nat)(i j:Int):Prop:=
 ∃(xs:List Value)(k m:Nat),i=(k:Int)/\j=(m:Int)/\k<=m/\m<=n/\n<=1000000/\Row base H e sz a n c xs/\allOne xs=true/\
  ∀H',Grew base H H' a c a c (k+(n-m))->Row base H' e sz a (k+(n-m)) c (xs.take (k*sz)++xs.drop (m*sz))->f (.v (.slice a (k+(n-m)) c)) own H'
theorem del_sum{base sz:Nat}{e:TypeId}{bytes:Nat}(hb:bytes<=100000){z:List Value}{own:List Bx}{H:Heap}{f:SV->List Bx->Heap->Prop}{a:O}{n c:Nat}{i j:Int}(h:delP base sz e own H f a n c i j):delF base sz e bytes z own H f a n c i j:=by
 obtain⟨xs,k,m,rfl,rfl,hkm,hmn,hn6,hR,h1,h⟩:=h
 have hnc:=hR.2.1
 have hxl:=hR.1
 have hmx:=hR.2.2.1
 simp only[maxLen] at hmx
 unfold delF
 simp only[Int.toNat_natCast]
 refine⟨by omega,by omega,by omega,by omega,fun a1 ha1=>⟨fun hkm2=> ?_,fun hne=>⟨by omega,by omega,by omega,by omega,by omega,fun a2 ha2=> ?_⟩⟩⟩
 ·obtain rfl:k=m:=by omega
  have:=h H Grew.refl (by rw[List.take_append_drop,show k+(n-k)=n from by omega];exact hR)
  rw[show k+(n-k)=n from by omega] at this
  exact this
 have hn0:0<n:=by omega
 obtain⟨b,kb,ha,hbase,hc0,hHb,hfree,hsz,hcl⟩:=hR.block hn0
 subst ha
 have hms:m*sz<=n*sz:=Nat.mul_le_mul_right _ hmn
 have hby:(k+(n-m))*bytes<=1000000*100000:=Nat.mul_le_mul (by omega) hb
 refine⟨xs.take (k*sz),xs.drop (m*sz),hR.short (by omega),by rw[List.length_drop,hxl,Nat.sub_mul],allOne_drop h1 _,?_,by omega,by omega,fun a3 c3 H3 hG hR3=> ?_⟩
 ·by_cases hz:n-m=0
  ·exact .inl hz
  ·refine .inr ⟨b,m*sz,?_,hR.cellsAt (by omega) hn0⟩
   rw[ha2 (by omega)];simp[addr_add]
 ·obtain⟨rfl,rfl⟩:=hG.room (by omega)
  have hlt:k+(n-m)<n:=by omega
  refine⟨by omega,by omega,by omega,fun a4 ha4=>⟨fun hz=>by omega,fun _=> ?_⟩⟩
  have hR3b:=hR3.2.2.2
  rcases hR3b with⟨_,h0⟩|⟨g,kg,hg,hgb,hHg,_,hgs,hgf,_⟩
  ·exact absurd h0 hc0
  obtain rfl:b=g:=by simpa using hg
  refine⟨b,(k+(n-m))*sz,kg,?_,hHg,hgf,hbase,?_,fun H4 hu=> ?_⟩
  ·rw[ha4 (by omega)];simp[addr_add]
  ·rw[hgs,←Nat.add_mul];exact Nat.mul_le_mul_right _ (by omega)
  ·exact h H4 (hG.upd rfl hc0 hHg hu) (hR3.past rfl hc0 hHg (by rw[hR3.1];exact Nat.le_refl _) hu)
def insP(base:Nat)(own:List Bx)(H:Heap)(f:SV->List Bx->Heap->Prop)(a:O)(n c:Nat)(i:Int)(g:Nat):Prop:=
 ∃(xs cells:List Value)(k:Nat),i=(k:Int)/\k<=n/\n<=1000000/\Row base H 91 2 a n c xs/\allOne xs=true/\cells.length=2/\allOne cells=true/\H g=some (boxKB 91 cells)/\(c≠0->a≠some ⟨g,0,none⟩)/\
  ∀a' c' H',Grew base H H' a c a' c' (n+1)->Row base H' 91 2 a' (n+1) c' (xs.take (k*2)++cells++xs.drop (k*2))->f (.v (.slice a' (n+1) c')) own H'
theorem overlaps_apart{H:Heap}{g b o lb cb:Nat}{k kg:KB}(hg:H g=some kg)(hgf:kg.free=true)(hb:H b=some k)(hks:k.size≠0)(hne:g≠b):
  ExtRuns Tryz.prog H 258 [.slice (some ⟨g,0,none⟩) 1 1,.slice (some ⟨b,o,none⟩) lb cb] (.bool false):=fun w hw=>by
 obtain⟨cg,frg,hcg,hsg,hfg,_⟩:=hw g _ hg
 obtain rfl:=hfg hgf
 obtain⟨cb',frb,hcb,hsb,_,_⟩:=hw b _ hb
 have h48:∀w,(Go.sizeOf 91).run Tryz.prog w= .ok 2 w:=fun w=>by have z:= Tryz.sizeOf91;exact z w
 rw[run_callFunc_extern Tryz.func258 (by kernel_rfl) (by kernel_rfl) (by kernel_rfl) (e:=Extern.SlicesOverlaps.overlaps #[22,22] #[4]) (by kernel_rfl)]
 rw[Lib.run_overlaps_apart w 22 4 91 Tryz.underlying22 2 h48 ⟨g,0,none⟩ ⟨b,o,none⟩ 1 1 lb cb hne kg.ty k.ty cg.size cb'.size (by simp[World.shape?,hcg]) (by simp[World.shape?,hcb]) (by omega) (by simp[World.frozen?,hcg]) (by simp[World.frozen?,hcg])]
 rfl
theorem ins_list{xs cells zs:List Value}{k n:Nat}(hk:k<=n)(hx:xs.length=n*2)(hc:cells.length=2)(hz:zs.length=(n+1-k)*2):
  setRange (setRange (xs.take (k*2)++zs) (k*2) cells) ((k+1)*2) (xs.drop (k*2))=xs.take (k*2)++cells++xs.drop (k*2):=by
 have e1:(xs.take (k*2)).length=k*2:=by rw[List.length_take];omega
 have h1:setRange (xs.take (k*2)++zs) (k*2) cells=xs.take (k*2)++setRange zs 0 cells:=by
  have:=setRange_app (xs:=xs.take (k*2)) (vs:=cells) (ys:=zs) (o:=0) (by omega)
  rw[e1,Nat.add_zero] at this
  exact this
 have h2:setRange zs 0 cells=cells++zs.drop 2:=by
  rw[setRange_eq _ _ _ (by omega)];simp[hc]
 rw[h1,h2,←List.append_assoc]
 have h3:=setRange_app (xs:=xs.take (k*2)++cells) (vs:=xs.drop (k*2)) (ys:=zs.drop 2) (o:=0) (by simp;omega)
 rw[show(xs.take (k*2)++cells).length+0=(k+1)*2 from by simp;omega] at h3
 rw[h3,setRange_whole (by simp;omega)]
theorem ins_sum{base:Nat}{H0:Heap}{own:List Bx}{H:Heap}{f:SV->List Bx->Heap->Prop}{a:O}{n c:Nat}{i:Int}{g:Nat}(h:insP base own H f a n c i g):
  codeI ⟨Tryz.prog,Tryz.f235.ntmps,⟨TryzList,TryzIn2,true⟩,base,H0⟩ Tryz.f235 [.v (.slice a n c),.v (.int .i64 i),.v (.slice (some ⟨g,0,none⟩) 1 1)] own H f:=by
 rw[vcI122]
 obtain⟨xs,cells,k,rfl,hk,hn6,hR,hx1,hcl,hc1,hg,hga,h⟩:=h
 have hnc:=hR.2.1
 have hxl:=hR.1
 have hcm:=hR.2.2.1
 simp only[maxLen] at hcm
 have hgc:=box_cellsAt hg
 simp only[Int.toNat_natCast]
 refine⟨by omega,by omega,hnc,fun a1 _=>⟨fun h=>absurd h (by decide),fun _=>⟨fun hkn=> ?_,fun hkn=> ?_⟩⟩⟩
 ·obtain rfl:k=n:=by omega
  refine⟨xs,cells,hR,by omega,hc1,.inr ⟨g,0,rfl,hgc⟩,by omega,by omega,fun a2 c2 H2 hG hR2=>h a2 c2 H2 hG ?_⟩
  rw[List.take_of_length_le (by omega),List.drop_eq_nil_of_le (by omega),List.append_nil]
  exact hR2
 rintro r rfl
 rw[wrap_in (by omega) (by omega)]
 have hn0:0<n:=by omega
 obtain⟨b,kb,ha,hbase,hc0,hHb,hfree,hsz,hcell⟩:=hR.block hn0
 subst ha
 have hgb:g≠b:=fun e=>hga hc0 (by rw[e])
 refine⟨fun hroom=> ?_,fun hroom=> ?_⟩
 ·refine⟨by omega,by omega,?_⟩
  rintro r rfl
  rw[wrap_in (by omega) (by omega)]
  rintro r rfl
  rw[wrap_in (by omega) (by omega)]
  refine⟨xs.take (k*2),n+1-k,by omega,by omega,by omega,hR.short hk,by omega,by omega,fun g1 c1 H1 hN1 hg1 hR1=> ?_⟩
  have e1:k+(n+1-k)=n+1:=by omega
  rw[e1] at hR1⊢
  have hne1:g1≠g:=fun e=>by rw[e,hg] at hg1;cases hg1
  have hne2:g1≠b:=fun e=>by rw[e,hHb] at hg1;cases hg1
  refine⟨by omega,by omega,hR1.2.1,fun a2 ha2=>⟨fun h=>by omega,fun _=> ?_⟩⟩
  obtain⟨b1,k1,hb1,hbs1,hc10,hH1,hf1,hs1,_⟩:=hR1.block (by omega)
  obtain rfl:g1=b1:=by simpa using hb1
  have hc1n:=hR1.2.1
  refine⟨cells,g,0,g1,k*2,k1,by omega,hc1,rfl,cellsAt_ext hN1.ext hgc,by rw[ha2 (by omega)];simp[addr_add],hH1,hf1,hbs1,by rw[hs1];omega,fun H2 hu2=> ?_⟩
  rintro r rfl
  try rw[wrap_in (by omega) (by omega)]
  have hR2:=hR1.upd rfl hc10 hH1 (o:=k*2) (vs:=cells) (by rw[hR1.1];omega) hu2
  refine⟨by omega,by omega,by omega,fun a3 ha3=>⟨by omega,by omega,hnc,fun a4 ha4=>⟨fun h=>by omega,fun _=> ?_⟩⟩⟩
  have hHb2:H2 b=some kb:=by rw[hu2.there b (fun e=>hne2 e.symm)];exact hN1.ext b kb hHb
  have hRb2:Row base H2 91 2 (some ⟨b,0,none⟩) n c xs:=⟨hxl,hnc,hR.2.2.1,.inr ⟨b,kb,rfl,hbase,hHb2,by
   rcases hR.2.2.2 with⟨h0,_⟩|⟨b',kb',hb',_,hH',hty,_⟩
   ·omega
   ·obtain rfl:b=b':=by simpa using hb'
    rw[hHb] at hH';cases hH';exact hty,hsz,hfree,hcell⟩⟩
  obtain⟨b2,k2,hb2,_,_,hH2,hf2,hs2,_⟩:=hR2.block (by omega)
  obtain rfl:g1=b2:=by simpa using hb2
  refine⟨xs.drop (k*2),b,k*2,g1,(k+1)*2,k2,by rw[List.length_drop];omega,allOne_drop hx1 _,by rw[ha4 (by omega)];simp[addr_add],hRb2.cellsAt (by omega) hn0,by rw[ha3 (by omega)];simp[addr_add];try omega,hH2,hf2,hbs1,by rw[hs2,List.length_drop];omega,fun H3 hu3=> ?_⟩
  have hR3:=hR2.upd rfl hc10 hH2 (o:=(k+1)*2) (vs:=xs.drop (k*2)) (by rw[hR2.1,List.length_drop];omega) hu3
  rw[ins_list hk hxl hcl (by simp)] at hR3
  refine h _ _ H3 ⟨fun x kx hx _=> ?_,fun x kx hx hn=> ?_,fun _ x hx=> ?_,fun h=>by omega⟩ hR3
  ·have hne:x≠g1:=fun e=>by rw[e,hg1] at hx;cases hx
   rw[hu3.there x hne,hu2.there x hne];exact hN1.ext x kx hx
  ·by_cases e:x=g1
   ·subst e;exact hbs1
   ·rw[hu3.there x e,hu2.there x e] at hx;exact hN1.fresh x kx hx hn
  ·obtain rfl:g1=x:=by simpa using hx
   exact .inl hg1
 ·rintro r rfl
  rw[wrap_in (by omega) (by omega)]
  refine⟨by omega,by omega,?_⟩
  rintro r rfl
  rw[show Int.toNat ((n:Int)+1)=n+1 from by omega,show Int.toNat ((k:Int)+1)=k+1 from by omega]
  refine⟨by omega,by omega,by omega,fun a2 ha2=> ?_⟩
  obtain rfl:a2=some ⟨b,(k+1)*2,none⟩:=by rw[ha2 (by omega)];simp[addr_add]
  refine⟨overlaps_apart hg rfl hHb (by omega) hgb,?_⟩
  rintro r rfl
  rw[show Int.toNat ((k:Int)+1)=k+1 from by omega]
  refine⟨by omega,by omega,by omega,fun a3 ha3=>⟨by omega,by omega,by omega,fun a4 ha4=>⟨fun h=>by omega,fun _=> ?_⟩⟩⟩
  have hm:min (n+1-k) (n+1-(k+1))=n-k:=by omega
  refine⟨xs.drop (k*2),b,k*2,b,(k+1)*2,kb,by rw[List.length_drop,hm];omega,allOne_drop hx1 _,by rw[ha4 (by omega)];simp[addr_add],hR.cellsAt (by omega) hn0,by rw[ha3 (by omega)];simp[addr_add],hHb,hfree,hbase,by rw[hsz,List.length_drop];omega,fun H3 hu3=>⟨by omega,by omega,by omega,fun a5 ha5=>⟨fun h=>by omega,fun _=> ?_⟩⟩⟩
  have hm1:min 1 (n+1-k)=1:=by omega
  refine⟨cells,g,0,b,k*2,_,by rw[hm1];omega,hc1,rfl,box_cellsAt (by rw[hu3.there g hgb];exact hg),by rw[ha5 (by omega)];simp[addr_add],hu3.here,hfree,hbase,by show k*2+cells.length<=kb.size;rw[hsz];omega,fun H4 hu4=> ?_⟩
  refine h _ _ H4 (Grew.upd (Grew.upd Grew.refl rfl hc0 hHb hu3) rfl hc0 hu3.here hu4) ⟨by simp;omega,by omega,hR.2.2.1,.inr ⟨b,_,rfl,hbase,hu4.here,?_,hsz,hfree,fun j v hj=> ?_⟩⟩
  ·rcases hR.2.2.2 with⟨h0,_⟩|⟨b',kb',hb',_,hH',hty,_⟩
   ·omega
   ·obtain rfl:b=b':=by simpa using hb'
    rw[hHb] at hH';cases hH';exact hty
  ·simp only[updCells,hcl,List.length_drop,hxl]
   rw[List.append_assoc] at hj
   by_cases c1:j<k*2
   ·rw[List.getElem?_append_left (by simp;omega),List.getElem?_take,if_pos c1] at hj
    rw[if_neg (by omega),if_neg (by omega)]
    exact hcell j v hj
   ·rw[List.getElem?_append_right (by simp;omega),show j-(xs.take (k*2)).length=j-k*2 from by simp;omega] at hj
    by_cases c2:j<(k+1)*2
    ·rw[List.getElem?_append_left (by omega)] at hj
     rw[if_pos (by omega)];exact hj
    ·rw[List.getElem?_append_right (by omega)] at hj
     have hlt:=(List.getElem?_eq_some_iff.1 hj).1
     rw[List.length_drop] at hlt
     rw[if_neg (by omega),if_pos (by omega),show j-(k+1)*2=j-k*2-cells.length from by omega]
     exact hj
open Go Go.Proofs Go.RowKit Go.Shelf
set_option maxHeartbeats 1000000 in
theorem str_run{w:World}{b g cap:Nat}{p:Value}{cur:Array Value}{fz:Nat×Nat}{l:List UInt8}(hbk:w.heap[b]?=some (.cells #[p,.slice (some ⟨g,0,none⟩) l.length cap] 311 (0,0)))(h0:l≠[])
  (hg:w.heap[g]?=some (.cells cur 5 fz)) (hn:l.length<=cap) (hcm:cap<=maxLen) (hcs:cur.size=cap) (hc:∀(j:Nat)(x:UInt8),l[j]?=some x->w.cell? ⟨g,j,none⟩=some (.int .u8 x.toNat)):
  Calls Tryz.prog 285 #[.pointer (some ⟨b,0,none⟩)] w fun e w'=>e= .returned (.string ⟨l.toArray⟩)/\w'=w.drew.freeze ⟨g,0,none⟩ l.length:=by
 have hl0:l.length≠0:=by simpa using h0
 have c1:w.drew.cell? ⟨b,1,none⟩=some (.slice (some ⟨g,0,none⟩) l.length cap):=by
  have:w.drew.heap[b]?=some (.cells #[p,.slice (some ⟨g,0,none⟩) l.length cap] 311 (0,0)):=hbk
  rw[Lib.cell_of_heap this];rfl
 have hSD:(Builtin.unsafeSliceData_ #[33] 333 #[.slice (some ⟨g,0,none⟩) l.length cap]).run Tryz.prog w.drew= .ok (.pointer (some ⟨g,0,none⟩)) w.drew:=
  Lib.run_unsafeSliceData_row _ _ _ _ _ _ (by omega)
 have hUS:(Builtin.unsafeString_ #[333,3] 9 #[.pointer (some ⟨g,0,none⟩),.int .i64 l.length]).run Tryz.prog w.drew= .ok (.string ⟨l.toArray⟩) (w.drew.freeze ⟨g,0,none⟩ l.length):=by
  refine Lib.run_unsafeString_row w.drew 333 3 9 5 Tryz.underlying333 (by kernel_rfl) g cur.size (by have hg':w.drew.heap[g]?=some (.cells cur 5 fz):=hg;simp[World.shape?,hg']) l h0 (by omega) (by unfold maxLen at hcm;omega) ?_
  intro j x hx
  have:=hc j x hx
  simpa[addr_add] using this
 go_enter Tryz.func285,Tryz.ntmps285
 go_wp2
 go_region
 all_goals (go_wp2;go_ret;exact⟨rfl,rfl⟩)
def strP(base:Nat)(own:List Bx)(H:Heap)(f:SV->List Bx->Heap->Prop)(i:Nat):Prop:=
 match own[i]? with
 |some ⟨b,false,ty,[p,.slice a n c]⟩=>ty= 311/\0<n/\
  ∃l:List UInt8,Row base H 5 1 a n c (u8s l)/\∀H',(∀x k,H x=some k->a≠some ⟨x,0,none⟩->H' x=some k)->(∀x k,H' x=some k->H x=some k)->f (.v (.string ⟨l.toArray⟩)) own H'
 |_=>False
noncomputable def TryzSum:InlFn:=fun base H0 g pre own H f=>
 if g= 285 then(match pre with
  | [.loc i 0]=>some (strP base own H f i)
  |_=>none)
 else if g= 235 then(match pre with
  | [.v (.slice a n c),.v (.int .i64 i),.v (.slice (some ⟨g',0,none⟩) 1 1)]=>some (insP base own H f a n c i g')
  |_=>none)
 else if g= 236 then(match pre with
  | [.v (.slice a n c),.v (.int .i64 i),.v (.int .i64 j)]=>some (delP base 2 91 own H f a n c i j)
  |_=>none)
 else if g= 43 then(match pre with
  | [.v (.slice a n c),.v (.int .i64 i),.v (.int .i64 j)]=>some (delP base 6 74 own H f a n c i j)
  |_=>none)
 else TryzIn3 base H0 g pre own H f
theorem freeze_heap(w:World)(g n:Nat){k:Nat}(hk:k≠g):(w.drew.freeze ⟨g,0,none⟩ n).heap[k]?=w.heap[k]?:=by
 unfold World.freeze
 split
 ·rfl
 ·show(w.heap.modify g _)[k]?=_
  rw[Array.getElem?_modify,if_neg (fun e=>hk e.symm)]
theorem freeze_size(w:World)(g n:Nat):(w.drew.freeze ⟨g,0,none⟩ n).heap.size=w.heap.size:=by
 unfold World.freeze
 split
 ·rfl
 ·show(w.heap.modify g _).size=_
  simp
theorem freeze_os(w:World)(g n:Nat):(w.drew.freeze ⟨g,0,none⟩ n).os=w.os/\(w.drew.freeze ⟨g,0,none⟩ n).tape=w.tape/\(w.drew.freeze ⟨g,0,none⟩ n).output=w.output:=by
 unfold World.freeze
 split<;>exact⟨rfl,rfl,rfl⟩
theorem in3_at{g:FuncId}{fn:Func}(hl:lookFn g TryzFs=some fn){pre:List SV}(hn:pre.length<=fn.ntmps){base:Nat}{H0:Heap}{own:List Bx}{H:Heap}{f:SV->List Bx->Heap->Prop} :
  TryzIn3 base H0 g pre own H f=some (codeI ⟨Tryz.prog,fn.ntmps,⟨TryzList,TryzIn2,true⟩,base,H0⟩ fn pre own H f):=by
 unfold TryzIn3 inlOf
 rw[hl]
 dsimp only
 rw[if_pos hn]
theorem Tryzsum(j:Bool):InlOk Tryz.prog ⟨TryzList,TryzSum,j⟩:=by
 have key:∀base H0 g pre own H f p q,TryzIn3 base H0 g pre own H f=some q->(p->q)->TryzList.contains g=true/\(p->∀(C:Cfg)(w0:World)(own0:List Nat)(w:World),C.base=base->C.H0=H0->StW C w0 own0 own H w->(∀s∈pre,SV.wf own.length s)->
   Calls Tryz.prog g (pre.map (SV.val own)).toArray w fun e w'=>∃v own' H',e= .returned v/\f (.v v) own' H'/\OwnExt own own'/\StW C w0 own0 own' H' w'):=fun base H0 g pre own H f p q hq hpq=>by
  obtain⟨h1,h2⟩:= Tryzin3 j base H0 g pre own H f q hq
  exact⟨h1,fun hp=>h2 (hpq hp)⟩
 intro base H0 g pre own H f p hp
 unfold TryzSum at hp
 dsimp only at hp
 split at hp
 ·rename_i e
  subst e
  split at hp
  ·rename_i i
   obtain rfl:=Option.some.inj hp
   refine⟨by show TryzList.contains 285=true;decide,fun h C w0 own0 w hbase hH0 hw hwf=> ?_⟩
   subst hbase hH0
   unfold strP at h
   split at h
   ·rename_i b ty p a n c hx
    obtain⟨rfl,hn,l,hR,hf⟩:=h
    have hbk:w.heap[b]?=some (.cells #[p,.slice a n c] 311 (0,0)):=hw.boxes.ok _ (List.mem_of_getElem? hx)
    obtain⟨h1,h2,h3,h4⟩:=hR
    obtain rfl:l.length=n:=by simpa[u8s] using h1
    rcases h4 with⟨h0,_⟩|⟨g,k,rfl,hgb,hH,hty,hksz,hfree,hcl⟩
    ·omega
    obtain⟨cur,fr,hcu,hsz,_,hcell⟩:=hw.sees g _ hH
    rw[hty] at hcu
    have hbn:boxNo own i=b:=box_no hx
    have hargs:(([SV.loc i 0]:List SV).map (SV.val own)).toArray= #[.pointer (some ⟨b,0,none⟩)]:=by simp[SV.val,hbn]
    rw[hargs]
    refine(str_run hbk (by intro e;subst e;simp at hn) hcu h2 h3 (by rw[hsz,hksz,Nat.mul_one]) (fun j x hj=>hw.sees.cell ?_)).mono fun e w' ⟨he,hw'⟩=> ?_
    ·unfold Heap.cell;rw[hH];exact hcl j _ (by simp[u8s,hj])
    have hbx:∀y∈own,y.b≠g:=fun y hy e=>by
     have:=hw.boxes.hid y hy
     rw[e,hH] at this;cases this
    obtain⟨o1,o2,o3⟩:=freeze_os w g l.length
    refine⟨_,own,fun x=>if x=g then none else H x,he,hf _ (fun x k hk hne=> ?_) (fun x k hk=> ?_),OwnExt.refl _,?_⟩
    ·have:x≠g:=fun e=>hne (by rw[e])
     simp only[if_neg this];exact hk
    ·split at hk
     ·cases hk
     ·exact hk
    ·have hblock:∀k,k≠g->w'.heap[k]?=w.heap[k]?:=fun k hk=>by rw[hw'];exact freeze_heap w g _ hk
     refine⟨fun x k hk=> ?_,⟨fun y hy=>Bx.ok_same (hw.boxes.ok y hy) (hblock _ (hbx y hy)),fun y hy=> ?_,hw.boxes.apart⟩,hw.locs,hw.step (by rw[hw'];exact o1) (by rw[hw'];exact o2) (by rw[hw'];exact o3) (by rw[hw',freeze_size];exact Nat.le_refl _) fun k hk hk'=>hblock k (by omega),⟨fun x k hk=> ?_,fun x k hk hn=> ?_⟩,hw.base,hw.seen0⟩
     ·split at hk
      ·cases hk
      ·rename_i hne
       rw[hblock x hne];exact hw.sees x k hk
     ·split
      ·rfl
      ·exact hw.boxes.hid y hy
     ·have:=hw.h0_lt hk
      rw[if_neg (by omega)]
      exact hw.next.ext x k hk
     ·split at hk
      ·cases hk
      ·exact hw.next.fresh x k hk hn
   ·exact h.elim
  ·cases hp
 ·split at hp
  ·rename_i e
   subst e
   split at hp
   ·obtain rfl:=Option.some.inj hp
    exact key _ _ _ _ _ _ _ _ _ (in3_at (fn:= Tryz.f235) (by rfl) (Nat.le_of_ble_eq_true (by kernel_rfl))) ins_sum
   ·cases hp
  ·split at hp
   ·rename_i e
    subst e
    split at hp
    ·obtain rfl:=Option.some.inj hp
     exact key _ _ _ _ _ _ _ _ _ (in3_at (fn:= Tryz.f236) (by rfl) (Nat.le_of_ble_eq_true (by kernel_rfl))) fun h=>by
      show codeI ⟨Tryz.prog,Tryz.f236.ntmps,⟨TryzList,TryzIn2,true⟩,base,H0⟩ Tryz.f236 _ own H f
      rw[vcI123]
      exact del_sum (bytes:=16) (by omega) h
    ·cases hp
   ·split at hp
    ·rename_i e
     subst e
     split at hp
     ·obtain rfl:=Option.some.inj hp
      exact key _ _ _ _ _ _ _ _ _ (in3_at (fn:= Tryz.f43) (by rfl) (Nat.le_of_ble_eq_true (by kernel_rfl))) fun h=>by
       show codeI ⟨Tryz.prog,Tryz.f43.ntmps,⟨TryzList,TryzIn2,true⟩,base,H0⟩ Tryz.f43 _ own H f
       rw[vcI53]
       exact del_sum (bytes:=56) (by omega) h
     ·cases hp
    ·exact Tryzin3 j base H0 g pre own H f p hp
noncomputable def TryzMutsJ:Muts:=⟨TryzList,TryzSum,true⟩
theorem TryzvcJ{f:FuncId}{fn:Func}(hf: Tryz.prog.funcs[f]?=some fn)(hok:okFn fn=true){args:List Value}(hargs:Nat.ble args.length fn.ntmps=true){H:Heap}(Q:Value->Heap->Prop){sv:List SV}(hsv:args.map SV.v=sv)
  {F:Nat->(Value->List (List Value)->Heap->Prop)->Prop} (hv:∀base K,funV ⟨Tryz.prog,fn.ntmps,TryzMutsJ,base,H⟩ (bodyOf fn) fn.results.toList sv [] K=F base K)
  (h:∀base,(∀b k,H b=some k->b<base)->F base (fun v _ H'=>Q v H')):Spec Tryz.prog f args H Q:=
 spec_of (muts:= TryzMutsJ) (Tryzsum true) hf (body_some hok) rfl Tryzmixed (ops_ok hok) (Nat.le_of_ble_eq_true hargs) fun base hb=>by
  rw[hsv,hv base]
  exact h base hb
theorem cCopyCheck{H:Heap}{b:Nat}{p:O}{v:Value}(hp:p=none∨p=some ⟨b,0,none⟩):SpecO Tryz.prog 298 [.pointer (some ⟨b,0,none⟩)] [⟨b,false,311,[.pointer p,v]⟩] H
  fun r css H'=>r= .tuple #[]/\css=[[.pointer (some ⟨b,0,none⟩),v]]/\H'=H:=fun w hw hb=>by
 have hbk:w.heap[b]?=some (.cells #[.pointer p,v] 311 (0,0)):=hb.ok _ List.mem_cons_self
 have hbn:H b=none:=hb.hid _ List.mem_cons_self
 have hlt:b<w.heap.size:=by
  rcases Nat.lt_or_ge b w.heap.size with h|h
  ·exact h
  ·simp[Array.getElem?_eq_none h] at hbk
 have hX:Builder.X72 Tryz.prog Tryz.lays156_ren:= { sizeBuilder:=by kernel_rfl,liesBuilder:=by kernel_rfl }
 rcases hp with rfl|rfl
 ·refine(Any.Builder_copyCheck_fresh { Tryz.lays156 with } hX b w (by rw[Lib.cell_of_heap hbk];rfl) (by simp[World.shape?,hbk];rfl) (by simp[World.frozen?,hbk])).mono fun e w' ⟨he,hw'⟩=> ?_
  have hblock:∀k,k≠b->w'.heap[k]?=w.heap[k]?:=fun k hk=>by
   rw[hw']
   simp[World.setCell,Array.getElem?_modify,Ne.symm hk]
  have hnew:w'.heap[b]?=some (.cells #[.pointer (some ⟨b,0,none⟩),v] 311 (0,0)):=by
   rw[hw']
   simp[World.setCell,Array.getElem?_modify,hbk]
  have hsz:w'.heap.size=w.heap.size:=by rw[hw'];simp[World.setCell]
  refine⟨_,[[.pointer (some ⟨b,0,none⟩),v]],H,he,rfl,⟨by rw[hw'];rfl,by rw[hw'];rfl,by rw[hw'];rfl,by omega,fun k _ hk=>hblock k (by simpa using hk)⟩,fun x k hx=> ?_,⟨fun y hy=> ?_,fun y hy=> ?_,by simp[setAll]⟩,⟨fun _ _ h=>h,fun x k h h'=>(by rw[h] at h';cases h')⟩,rfl,rfl,rfl⟩
  ·rw[hblock x (fun e=>by rw[e,hbn] at hx;cases hx)];exact hw x k hx
  ·obtain rfl:y=⟨b,false,311,[.pointer (some ⟨b,0,none⟩),v]⟩:=by simpa[setAll,Bx.set] using hy
   exact hnew
  ·obtain rfl:y=⟨b,false,311,[.pointer (some ⟨b,0,none⟩),v]⟩:=by simpa[setAll,Bx.set] using hy
   exact hbn
 ·refine(Any.Builder_copyCheck_used { Tryz.lays156 with } hX b w (by rw[Lib.cell_of_heap hbk];rfl)).mono fun e w' ⟨he,hw'⟩=> ?_
  subst hw'
  exact⟨_,[[.pointer (some ⟨b,0,none⟩),v]],H,he,rfl,BelowX.refl _ _,hw,hb,⟨fun _ _ h=>h,fun x k h h'=>(by rw[h] at h';cases h')⟩,rfl,rfl,rfl⟩
open Go Go.Proofs
def TryzListK:List FuncId:=1000000:: TryzList
theorem contK{g:FuncId}(h: TryzList.contains g=true): TryzListK.contains g=true:=by
 unfold TryzListK
 rw[List.contains_cons,h,Bool.or_true]
theorem TryzsumK(j:Bool):InlOk Tryz.prog ⟨TryzListK,TryzSum,j⟩:=fun base H0 g pre own H f p hp=>by
 obtain⟨h1,h2⟩:= Tryzsum j base H0 g pre own H f p hp
 exact⟨contK h1,h2⟩
noncomputable def TryzMutsK:Muts:=⟨TryzListK,TryzSum,true⟩
theorem TryzvcK{f:FuncId}{fn:Func}(hf: Tryz.prog.funcs[f]?=some fn)(hok:okFn fn=true){args:List Value}(hargs:Nat.ble args.length fn.ntmps=true){H:Heap}(Q:Value->Heap->Prop){sv:List SV}(hsv:args.map SV.v=sv)
  {F:Nat->(Value->List (List Value)->Heap->Prop)->Prop} (hv:∀base K,funV ⟨Tryz.prog,fn.ntmps,TryzMutsK,base,H⟩ (bodyOf fn) fn.results.toList sv [] K=F base K)
  (h:∀base,(∀b k,H b=some k->b<base)->F base (fun v _ H'=>Q v H')):Spec Tryz.prog f args H Q:=
 spec_of (muts:= TryzMutsK) (TryzsumK true) hf (body_some hok) rfl Tryzmixed (ops_ok hok) (Nat.le_of_ble_eq_true hargs) fun base hb=>by
  rw[hsv,hv base]
  exact h base hb
open Go Go.Proofs
open Go.Value renaming int → I, slice → S, bool → B, agg → A, tuple → T, pointer → P, string → Str
open Go.IntKind renaming i64 → Z, wrap → W
open Go.Addr renaming mk → D
open Go.Vg.Bx renaming mk → J
open Go.Vg renaming Next → X, Spec → Y, SpecO → YO
open Go.Vg.Heap renaming cell → C
open Int renaming toNat → N
theorem vk3(id bud:Int)(fa ra wa:O)(fl fc rl rc wl wc:Nat)(now goal nx:Int)(back:Bool)(la ka:O)(ll lc kl kc:Nat)(sa ta:O)(sl sc tl tc:Nat)(up:Bool)(na ma:O)(nl nc ml mc:Nat)(k:Int)(base:Nat)(H:Heap)(K:KT):
 (fV TryzMutsK Tryz.f3 base H [.v (A #[I Z id,S fa fl fc,S ra rl rc,S wa wl wc,I Z bud,S la ll lc,I Z now,I Z goal,B back,S ka kl kc,I Z nx,S sa sl sc,S ta tl tc,B up,S na nl nc,S ma ml mc]),.v (I Z k)] [] K)=(
 (fun w8:LV=>∀a:Nat,Y Tryz.prog 17 w8 H fun b c=>∃d e g h i j l m n o p,b=T #[A #[S d e g,I Z h,I Z i,B j,S l m n,I Z o],I Z p]/\(X base H c->∀q:Nat,Y Tryz.prog 18 [A #[I Z id,S fa fl fc,S ra rl rc,S wa wl wc,I Z bud,S la ll lc,I Z now,I Z goal,B back,S ka kl kc,I Z nx,S sa sl sc,S ta tl tc,B up,S na nl nc,S ma ml mc],I Z k] c fun r s=>∃t u v w x y z a1 b1 c1 d1,(fun w7:LV=>∃e1,r=T #[A #[S t u v,I Z w,I Z x,B y,I Z z,S a1 b1 c1,B d1],I Z e1]/\(X base c s->∀f1:Nat,(fun w6:LB=>Y Tryz.prog 19 w8 s fun g1 h1=>∃i1,g1=I Z i1/\(X base s h1->∃j1:Prop,(Y Tryz.prog 20 [] h1 fun k1 l1=>∃m1,k1=B m1/\(X base h1 l1->(m1=false->w6=w6/\SubH h1 l1/\j1)/\(¬m1=false->w6=w6/\SubH h1 l1/\(j1↔¬i1=0))))/\(j1->∃k1:Prop,(Y Tryz.prog 20 [] h1 fun l1 m1=>∃n1,l1=B n1/\(X base h1 m1->(n1=true->(p=i1->(e1=i1->Y Tryz.prog 21 [A #[S d e g,I Z h,I Z i,B j,S l m n,I Z o],A #[S none 0 0,I Z 0,I Z 0,B false,S none 0 0,I Z 0]] m1 fun o1 p1=>∃q1,o1=B q1/\(X base m1 p1->(q1=true->Y Tryz.prog 22 w7 p1 fun r1 s1=>∃t1,r1=B t1/\(X base p1 s1->w6=w6/\SubH h1 s1/\(k1↔t1=true)))/\(q1=false->w6=w6/\SubH h1 p1/\¬k1)))/\(¬e1=i1->w6=w6/\SubH h1 m1/\¬k1))/\(¬p=i1->w6=w6/\SubH h1 m1/\¬k1))/\(n1=false->w6=w6/\SubH h1 m1/\¬k1)))/\K (B (@decide k1 (Classical.propDecidable k1))) [] h1)/\(¬j1->Y Tryz.prog 23 [A #[S sa sl sc,S ta tl tc]] h1 fun k1 l1=>∃m1 n1 o1 p1 q1 r1 s1 t1 u1,k1=T #[A #[S m1 n1 o1,S p1 q1 r1],S s1 t1 u1]/\(X base h1 l1->∀v1:Nat,Y Tryz.prog 24 [A #[I Z id,S fa fl fc,S ra rl rc,S wa wl wc,I Z bud],S s1 t1 u1] l1 fun w1 x1=>∃y1 z1 a2 b2 c2 d2 e2 f2 g2 h2 i2,w1=T #[A #[S y1 z1 a2,I Z b2,I Z c2,B d2,S e2 f2 g2,I Z h2],I Z i2]/\(X base l1 x1->∀j2:Nat,(fun w5:LB=>∃k2:Prop,((¬p=i2->w5=w5/\SubH x1 x1/\k2)/\(¬¬p=i2->Y Tryz.prog 21 [A #[S d e g,I Z h,I Z i,B j,S l m n,I Z o],A #[S y1 z1 a2,I Z b2,I Z c2,B d2,S e2 f2 g2,I Z h2]] x1 fun l2 m2=>∃n2,l2=B n2/\(X base x1 m2->w5=w5/\SubH x1 m2/\(k2↔n2=false))))/\(k2->K (B false) [] x1)/\(¬k2->∃l2:Prop,((k<0->w5=w5/\SubH x1 x1/\l2)/\(¬k<0->w5=
 w5/\SubH x1 x1/\(l2↔(nl:Int)<=k)))/\(l2->∃m2:Prop,((e1=5->Y Tryz.prog 22 w7 x1 fun n2 o2=>∃p2,n2=B p2/\(X base x1 o2->w5=w5/\SubH x1 o2/\(m2↔p2=true)))/\(¬e1=5->w5=w5/\SubH x1 x1/\¬m2))/\K (B (@decide m2 (Classical.propDecidable m2))) [] x1)/\(¬l2->∃m2 n2,na=some (D m2 n2 none)/\0<=k/\k<(nl:Int)/\∃(o2:O)(p2 q2:Nat)(r2:O)(s2 t2:Nat),(C x1 m2 (n2+N k*10+7)=some (S o2 p2 q2)/\C x1 m2 (n2+N k*10+7+1)=some (S r2 s2 t2)/\True)/\Y Tryz.prog 23 [A #[S o2 p2 q2,S r2 s2 t2]] x1 fun u2 v2=>∃w2 x2 y2 z2 a3 b3 c3 d3 e3,u2=T #[A #[S w2 x2 y2,S z2 a3 b3],S c3 d3 e3]/\(X base x1 v2->Y Tryz.prog 25 [A #[I Z id,S fa fl fc],S c3 d3 e3] v2 fun f3 g3=>∃h3 i3 j3 k3 l3 m3 n3 o3 p3 q3 r3 s3,f3=T #[A #[S h3 i3 j3,I Z k3,I Z l3,B m3,I Z n3,S o3 p3 q3,B r3],I Z s3]/\(X base v2 g3->∀t3:Nat,(fun w4:LB=>∃u3:Prop,((e1=s3->Y Tryz.prog 22 [A #[S t u v,I Z w,I Z x,B y,I Z z,S a1 b1 c1,B d1],A #[S h3 i3 j3,I Z k3,I Z l3,B m3,I Z n3,S o3 p3 q3,B r3]] g3 fun v3 w3=>∃x3,v3=B x3/\(X base g3 w3->w4=w4/\SubH g3 w3/\(u3↔x3=true)))/\(¬e1=s3->w4=w4/\SubH g3 g3/\¬u3))/\K (B (@decide u3 (Classical.propDecidable u3))) [] g3) [J a false 41 [I Z id,S fa fl fc,S ra rl rc,S wa wl wc,I Z bud,S la ll lc,I Z now,I Z goal,B back,S ka kl kc,I Z nx,S sa sl sc,S ta tl tc,B up,S na nl nc,S ma ml mc],J q false 32 [S d e g,I Z h,I Z i,B j,S l m n,I Z o],J f1 false 46 [S t u v,I Z w,I Z x,B y,I Z z,S a1 b1 c1,B d1],J v1 false 35 [S m1 n1 o1,S p1 q1 r1],J j2 false 32 [S y1 z1 a2,I Z b2,I Z c2,B d2,S e2 f2 g2,I Z h2],J t3 false 46 [S h3 i3 j3,I Z k3,I Z l3,B m3,I Z n3,S o3 p3 q3,B r3]]))))) [J a false 41 [I Z id,S fa fl fc,S ra rl rc,S wa wl wc,I Z bud,S la ll lc,I Z now,I Z goal,B back,S ka kl kc,I Z nx,S sa sl sc,S ta tl tc,B up,S na nl nc,S ma ml mc],J q false 32 [S d e g,I Z h,I Z i,B j,S l m n,I Z o],J f1 false 46 [S t u v,I Z w,I Z x,B y,I Z z,S a1 b1 c1,B d1],J v1 false 35 [S m1 n1 o1,S p1 q1 r1],J j2 false 32 [S y1 z1 a2,I Z b2,I Z c2,B d2,S e2 f2 g2,I Z h2]]))))) [J a false 41 [I Z id,S fa fl
 fc,S ra rl rc,S wa wl wc,I Z bud,S la ll lc,I Z now,I Z goal,B back,S ka kl kc,I Z nx,S sa sl sc,S ta tl tc,B up,S na nl nc,S ma ml mc],J q false 32 [S d e g,I Z h,I Z i,B j,S l m n,I Z o],J f1 false 46 [S t u v,I Z w,I Z x,B y,I Z z,S a1 b1 c1,B d1]])) [A #[S t u v,I Z w,I Z x,B y,I Z z,S a1 b1 c1,B d1],A #[S none 0 0,I Z 0,I Z 0,B false,I Z 0,S none 0 0,B false]])) [A #[I Z id,S fa fl fc,S ra rl rc,S wa wl wc,I Z bud,S la ll lc,I Z now,I Z goal,B back,S ka kl kc,I Z nx,S sa sl sc,S ta tl tc,B up,S na nl nc,S ma ml mc]]):=by kernel_rfl
open Go Go.Proofs
theorem vk26(id bud:Int)(fa ra wa:O)(fl fc rl rc wl wc:Nat)(base:Nat)(H:Heap)(K:KT):
 (fV TryzMutsK Tryz.f26 base H [.v (A #[I Z id,S fa fl fc,S ra rl rc,S wa wl wc,I Z bud])] [] K)=(
 (fun w6:LV=>∀a b:Nat,Y Tryz.prog 86 w6 H fun c d=>∃e g h i j k l m n o,(fun w5:LL=>∃p,c=T #[A #[S e g h,I Z i,I Z j,B k,S l m n,I Z o],I Z p]/\(X base H d->∀q:Nat,(¬p=0->K (T #[A #[I Z 0,S none 0 0,S none 0 0,S none 0 0,I Z 0,S none 0 0,I Z 0,I Z 0,B false,S none 0 0,I Z 0,S none 0 0,S none 0 0,B false,S none 0 0,S none 0 0],I Z p]) [] d)/\(¬¬p=0->(Y Tryz.prog 87 w6 d fun r s=>∃t u v w x y z a1 b1 c1 d1,r=A #[I Z t,S u v w,S x y z,S a1 b1 c1,I Z d1]/\(X base d s->∀e1:Nat,Y Tryz.prog 88 w6 s fun f1 g1=>∃h1,f1=I Z h1/\(X base s g1->∃(i1:NI)(j1:Nat),i1 j1 [I Z 0,A #[I Z t,S u v w,S x y z,S a1 b1 c1,I Z d1,S e g h,I Z i,I Z j,B k,S l m n,I Z o,S none 0 0,S none 0 0,B true,S none 0 0,S none 0 0]] g1/\∀(k1:Nat)(l1 m1:Int)(n1:O)(o1 p1:Nat)(q1:O)(r1 s1:Nat)(t1:O)(u1 v1:Nat)(w1:Int)(x1:O)(y1 z1:Nat)(a2 b2:Int)(c2:Bool)(d2:O)(e2 f2:Nat)(g2:Int)(h2:O)(i2 j2:Nat)(k2:O)(l2 m2:Nat)(n2:Bool)(o2:O)(p2 q2:Nat)(r2:O)(s2 t2:Nat)(u2:Heap),(fun w3:AV=>X base H u2->i1 k1 [I Z l1,A w3] u2->(l1<h1->Y Tryz.prog 89 [A #[I Z id,S fa fl fc]] u2 fun v2 w2=>∃x2 y2 z2 a3 b3 c3 d3 e3 f3 g3 h3 i3,v2=T #[A #[S x2 y2 z2,I Z a3,I Z b3,B c3,I Z d3,S e3 f3 g3,B h3],I Z i3]/\(X base u2 w2->∀j3 k3:Nat,∃l3:List Value,Row base w2 58 10 o2 p2 q2 l3/\(p2+1)*144<=140737488355328/\p2+1<=9223372036854775807/\∀(m3:O)(n3:Nat)(o3:Heap),Grew base w2 o3 o2 q2 m3 n3 (p2+1)->Row base o3 58 10 m3 (p2+1) n3 (l3++[S x2 y2 z2,I Z a3,I Z b3,B c3,I Z d3,S e3 f3 g3,B h3,S none 0 0,S none 0 0,B true])->∀p3:Int,p3=W Z (l1+1)->w5=w5/\∃q3:Nat,q3<k1/\i1 q3 [I Z p3,A #[I Z m1,S n1 o1 p1,S q1 r1 s1,S t1 u1 v1,I Z w1,S x1 y1 z1,I Z a2,I Z b2,B c2,S d2 e2 f2,I Z g2,S h2 i2 j2,S k2 l2 m2,B n2,S m3 (p2+1) n3,S r2 s2 t2]] o3))/\(¬l1<h1->K (T #[A w3,I Z 0]) [] u2)) #[I Z m1,S n1 o1 p1,S q1 r1 s1,S t1 u1 v1,I Z w1,S x1 y1 z1,I Z a2,I Z b2,B c2,S d2 e2 f2,I Z g2,S h2 i2 j2,S k2 l2 m2,B n2,S o2 p2 q2,S r2 s2 t2])))/\∀r:Nat,Y Tryz.prog 87 w6 d fun s t=>∃u v w x y z a1 b1 c1 d1 e1,s=
 A #[I Z u,S v w x,S y z a1,S b1 c1 d1,I Z e1]/\(X base d t->Y Tryz.prog 88 w6 t fun f1 g1=>∃h1,f1=I Z h1/\(X base t g1->∃(i1:NI)(j1:Nat),i1 j1 [I Z 0,A #[I Z u,S v w x,S y z a1,S b1 c1 d1,I Z e1,S e g h,I Z i,I Z j,B k,S l m n,I Z o,S none 0 0,S none 0 0,B true,S none 0 0,S none 0 0]] g1/\∀(k1:Nat)(l1 m1:Int)(n1:O)(o1 p1:Nat)(q1:O)(r1 s1:Nat)(t1:O)(u1 v1:Nat)(w1:Int)(x1:O)(y1 z1:Nat)(a2 b2:Int)(c2:Bool)(d2:O)(e2 f2:Nat)(g2:Int)(h2:O)(i2 j2:Nat)(k2:O)(l2 m2:Nat)(n2:Bool)(o2:O)(p2 q2:Nat)(r2:O)(s2 t2:Nat)(u2:Heap),(fun w4:AV=>X base H u2->i1 k1 [I Z l1,A w4] u2->(l1<h1->Y Tryz.prog 89 [A #[I Z id,S fa fl fc]] u2 fun v2 w2=>∃x2 y2 z2 a3 b3 c3 d3 e3 f3 g3 h3 i3,v2=T #[A #[S x2 y2 z2,I Z a3,I Z b3,B c3,I Z d3,S e3 f3 g3,B h3],I Z i3]/\(X base u2 w2->∀j3 k3:Nat,∃l3:List Value,Row base w2 58 10 o2 p2 q2 l3/\(p2+1)*144<=140737488355328/\p2+1<=9223372036854775807/\∀(m3:O)(n3:Nat)(o3:Heap),Grew base w2 o3 o2 q2 m3 n3 (p2+1)->Row base o3 58 10 m3 (p2+1) n3 (l3++[S x2 y2 z2,I Z a3,I Z b3,B c3,I Z d3,S e3 f3 g3,B h3,S none 0 0,S none 0 0,B true])->∀p3:Int,p3=W Z (l1+1)->w5=w5/\∃q3:Nat,q3<k1/\i1 q3 [I Z p3,A #[I Z m1,S n1 o1 p1,S q1 r1 s1,S t1 u1 v1,I Z w1,S x1 y1 z1,I Z a2,I Z b2,B c2,S d2 e2 f2,I Z g2,S h2 i2 j2,S k2 l2 m2,B n2,S m3 (p2+1) n3,S r2 s2 t2]] o3))/\(¬l1<h1->K (T #[A w4,I Z 0]) [] u2)) #[I Z m1,S n1 o1 p1,S q1 r1 s1,S t1 u1 v1,I Z w1,S x1 y1 z1,I Z a2,I Z b2,B c2,S d2 e2 f2,I Z g2,S h2 i2 j2,S k2 l2 m2,B n2,S o2 p2 q2,S r2 s2 t2]))))) [[I Z id,S fa fl fc,S ra rl rc,S wa wl wc,I Z bud],[I Z 0,S none 0 0,S none 0 0,S none 0 0,I Z 0,S none 0 0,I Z 0,I Z 0,B false,S none 0 0,I Z 0,S none 0 0,S none 0 0,B false,S none 0 0,S none 0 0],[S e g h,I Z i,I Z j,B k,S l m n,I Z o]]) [A #[I Z id,S fa fl fc,S ra rl rc,S wa wl wc,I Z bud]]):=by kernel_rfl
theorem vk74(e:Int)(base:Nat)(H:Heap)(K:KT):
 (fV TryzMutsK Tryz.f74 base H [.v (I Z e)] [] K)=(
 K (B (decide ¬e=0)) [] H):=by kernel_rfl
theorem vk98a(a:O)(l c:Nat)(base:Nat)(H:Heap)(K:KT):
 (fV TryzMutsK Tryz.f98 base H [.v (S a l c),.v (.func (.func 74) #[] #[])] [] K)=(
 ∃(b:NI)(d:Nat),b d [I Z 0,I Z 0] H/\∀(e:Nat)(g h:Int)(i:Heap),X base H i->b e [I Z g,I Z h] i->(h<(l:Int)->∃j k,a=some (D j k none)/\0<=h/\h<(l:Int)/\∃m,C i j (k+N h*1)=some (I Z m)/\Y Tryz.prog 74 [I Z m] i fun n o=>∃p,n=B p/\(X base i o->(p=true->K (I Z h) [] o)/\(p=false->∀q:Int,q=W Z (h+1)->∃r:Nat,r<e/\b r [I Z g,I Z q] o)))/\(¬h<(l:Int)->K (I Z (-1)) [] i)):=by kernel_rfl
theorem vk73a(a:O)(l c:Nat)(base:Nat)(H:Heap)(K:KT):
 (fV TryzMutsK Tryz.f73 base H [.v (S a l c),.v (.func (.func 74) #[] #[])] [] K)=(
 Y Tryz.prog 98 [S a l c,Value.func (Fn.func 74) #[] #[]] H fun b d=>∃e,b=I Z e/\(X base H d->K (B (decide (0<=e))) [] d)):=by kernel_rfl
theorem vk20(base:Nat)(H:Heap)(K:KT):
 (fV TryzMutsK Tryz.f20 base H [] [] K)=(
 Y Tryz.prog 71 [] H fun a b=>∃c d e g h i j k l m n,a=A #[I Z c,S d e g,S h i j,S k l m,I Z n]/\(X base H b->Y Tryz.prog 26 [A #[I Z c,S d e g,S h i j,S k l m,I Z n]] b fun o p=>∃(q:Int)(r:O)(s t:Nat)(u:O)(v w:Nat)(x:O)(y z:Nat)(a1:Int)(b1:O)(c1 d1:Nat)(e1 f1:Int)(g1:Bool)(h1:O)(i1 j1:Nat)(k1:Int)(l1:O)(m1 n1:Nat)(o1:O)(p1 q1:Nat)(r1:Bool)(s1:O)(t1 u1:Nat)(v1:O)(w1 x1:Nat),(fun w6:AV=>∃y1,o=T #[A w6,I Z y1]/\(X base b p->∀z1:Nat,Y Tryz.prog 72 [] p fun a2 b2=>∃c2 d2 e2 f2,a2=A #[I Z c2,S d2 e2 f2]/\(X base p b2->∀(g2:Nat)(h2:Heap),X base b2 h2->b2 g2=none->h2 g2=some (boxKB 62 [I Z 1,I Z 0,I Z 0,B false,S d2 e2 f2,I Z 2,I Z 0,I Z 2,B false,S none 0 0,I Z 3,I Z 1,I Z 0,B false,S none 0 0,I Z 9,I Z 0,I Z 0,B false,S none 0 0,I Z 7,I Z 1,I Z 0,B false,S none 0 0,I Z 12,I Z 1,I Z 0,B false,S none 0 0,I Z 12,I Z (-1),I Z 0,B false,S none 0 0])->Y Tryz.prog 39 [A w6,S (some (D g2 0 none)) 7 7] h2 fun i2 j2=>∃k2 l2 m2 n2 o2 p2 q2 r2 s2 t2 u2 v2 w2 x2 y2 z2 a3 b3 c3 d3 e3 f3 g3 h3 i3 j3 k3 l3 m3 n3 o3 p3 q3 r3 s3 t3 u3 v3,i2=T #[A #[I Z k2,S l2 m2 n2,S o2 p2 q2,S r2 s2 t2,I Z u2,S v2 w2 x2,I Z y2,I Z z2,B a3,S b3 c3 d3,I Z e3,S f3 g3 h3,S i3 j3 k3,B l3,S m3 n3 o3,S p3 q3 r3],S s3 t3 u3,I Z v3]/\(X base h2 j2->Y Tryz.prog 17 [A #[I Z k2,S l2 m2 n2,S o2 p2 q2,S r2 s2 t2,I Z u2,S v2 w2 x2,I Z y2,I Z z2,B a3,S b3 c3 d3,I Z e3,S f3 g3 h3,S i3 j3 k3,B l3,S m3 n3 o3,S p3 q3 r3]] j2 fun w3 x3=>∃y3 z3 a4 b4 c4 d4 e4 f4 g4 h4 i4,w3=T #[A #[S y3 z3 a4,I Z b4,I Z c4,B d4,S e4 f4 g4,I Z h4],I Z i4]/\(X base j2 x3->∀j4:Nat,Y Tryz.prog 18 [A #[I Z k2,S l2 m2 n2,S o2 p2 q2,S r2 s2 t2,I Z u2,S v2 w2 x2,I Z y2,I Z z2,B a3,S b3 c3 d3,I Z e3,S f3 g3 h3,S i3 j3 k3,B l3,S m3 n3 o3,S p3 q3 r3],I Z 1] x3 fun k4 l4=>∃m4 n4 o4 p4 q4 r4 s4 t4 u4 v4 w4 x4,k4=T #[A #[S m4 n4 o4,I Z p4,I Z q4,B r4,I Z s4,S t4 u4 v4,B w4],I Z x4]/\(X base x3 l4->∀y4:Nat,(fun w5:LB=>∃z4:Prop,((y1=0->(v3=0->(i4=0->(x4=0->Y Tryz.prog 73 [S s3 t3 u3,Value.func (Fn.func 74) #[] #[]] l4
 fun a5 b5=>∃c5,a5=B c5/\(X base l4 b5->(c5=false->(c4=2->∃d5 e5,e4=some (D d5 e5 none)/\Int.ofNat 0<=1/\1<(f4:Int)/\∃f5,C b5 d5 (e5+1*3)=some (I Z f5)/\(f5=1->(r4=true->(q4=1->Y Tryz.prog 75 [S m4 n4 o4,I Z 1] b5 fun g5 h5=>∃i5,g5=I Z i5/\(X base b5 h5->(i5=2->Y Tryz.prog 75 [S m4 n4 o4,I Z 2] h5 fun j5 k5=>∃l5,j5=I Z l5/\(X base h5 k5->w5=w5/\SubH l4 k5/\(z4↔l5=0)))/\(¬i5=2->w5=w5/\SubH l4 h5/\¬z4)))/\(¬q4=1->w5=w5/\SubH l4 b5/\¬z4))/\(r4=false->w5=w5/\SubH l4 b5/\¬z4))/\(¬f5=1->w5=w5/\SubH l4 b5/\¬z4))/\(¬c4=2->w5=w5/\SubH l4 b5/\¬z4))/\(¬c5=false->w5=w5/\SubH l4 b5/\¬z4)))/\(¬x4=0->w5=w5/\SubH l4 l4/\¬z4))/\(¬i4=0->w5=w5/\SubH l4 l4/\¬z4))/\(¬v3=0->w5=w5/\SubH l4 l4/\¬z4))/\(¬y1=0->w5=w5/\SubH l4 l4/\¬z4))/\K (B (@decide z4 (Classical.propDecidable z4))) [] l4) [J z1 false 41 [I Z k2,S l2 m2 n2,S o2 p2 q2,S r2 s2 t2,I Z u2,S v2 w2 x2,I Z y2,I Z z2,B a3,S b3 c3 d3,I Z e3,S f3 g3 h3,S i3 j3 k3,B l3,S m3 n3 o3,S p3 q3 r3],J j4 false 32 [S y3 z3 a4,I Z b4,I Z c4,B d4,S e4 f4 g4,I Z h4],J y4 false 46 [S m4 n4 o4,I Z p4,I Z q4,B r4,I Z s4,S t4 u4 v4,B w4]])))))) #[I Z q,S r s t,S u v w,S x y z,I Z a1,S b1 c1 d1,I Z e1,I Z f1,B g1,S h1 i1 j1,I Z k1,S l1 m1 n1,S o1 p1 q1,B r1,S s1 t1 u1,S v1 w1 x1])):=by kernel_rfl
open Go Go.Proofs
theorem vx219(sa ta:O)(sl sc tl tc:Nat)(kd ag rt n rid:Int)(rg:Bool)(qa:O)(ql qc:Nat)(base:Nat)(H:Heap)(K:KT):
 (fV TryzMutsJ Tryz.f219 base H [.v (A #[S sa sl sc,S ta tl tc]),.v (A #[I Z kd,I Z ag,I Z rt,I Z n,B rg,I Z rid,S qa ql qc])] [] K)=(
 ∀a b c:Nat,Y Tryz.prog 243 [A #[S sa sl sc,S ta tl tc],A #[I Z kd,I Z ag,I Z rt,I Z n,B rg,I Z rid,S qa ql qc]] H fun d e=>∃g h i j k l m,d=T #[A #[S g h i,S j k l],I Z m]/\(X base H e->(¬m=0->K (T #[A #[S none 0 0,S none 0 0],I Z m]) [] e)/\(¬¬m=0->Y Tryz.prog 244 [A #[S g h i,S j k l]] e fun o p=>∃q r s t u v w,o=T #[A #[S q r s,S t u v],I Z w]/\(X base e p->K (T #[A #[S q r s,S t u v],I Z w]) [] p)))):=by kernel_rfl
theorem vx176(b:Nat)(id bud:Int)(fa ra wa:O)(fl fc rl rc wl wc:Nat)(now goal nx:Int)(back:Bool)(la ka:O)(ll lc kl kc:Nat)(sa ta:O)(sl sc tl tc:Nat)(up:Bool)(na ma:O)(nl nc ml mc:Nat)(kd ag rt n rid:Int)(rg:Bool)(qa:O)(ql qc:Nat)(base:Nat)(H:Heap)(K:KT):
 (fV TryzMutsJ Tryz.f176 base H [.loc 0 0,.v (A #[I Z kd,I Z ag,I Z rt,I Z n,B rg,I Z rid,S qa ql qc])] [⟨b,false,41,[I Z id,S fa fl fc,S ra rl rc,S wa wl wc,I Z bud,S la ll lc,I Z now,I Z goal,B back,S ka kl kc,I Z nx,S sa sl sc,S ta tl tc,B up,S na nl nc,S ma ml mc]⟩] K)=(
 (fun w8:AV=>(fun w7:AV=>(fun w6:AV=>(fun w5:LL=>∀a:Nat,(Y Tryz.prog 144 [A w8,A w7,A w6] H fun c d=>∃e g h i j k l m o p q,c=T #[A #[S e g h,I Z i,I Z j,B k,S l m o,I Z p],I Z q]/\(X base H d->∀r:Nat,(¬q=0->K (I Z q) w5 d)/\(¬¬q=0->(Y Tryz.prog 219 [A #[S sa sl sc,S ta tl tc],A w6] d fun s t=>∃u v w x y z,(fun w1:LL=>∃a1,s=T #[A #[S u v w,S x y z],I Z a1]/\(X base d t->∀b1:Nat,(a1=0->K (I Z a1) w1 t/\K (I Z a1) w1 t)/\(¬a1=0->K (I Z a1) w5 t))) [[I Z id,S fa fl fc,S ra rl rc,S wa wl wc,I Z bud,S e g h,I Z i,I Z j,B k,S l m o,I Z p,S u v w,S x y z,B up,S na nl nc,S ma ml mc]])/\∀s:Nat,Y Tryz.prog 219 [A #[S sa sl sc,S ta tl tc],A w6] d fun t u=>∃v w x y z a1,(fun w2:LL=>∃b1,t=T #[A #[S v w x,S y z a1],I Z b1]/\(X base d u->(b1=0->K (I Z b1) w2 u/\K (I Z b1) w2 u)/\(¬b1=0->K (I Z b1) w5 u))) [[I Z id,S fa fl fc,S ra rl rc,S wa wl wc,I Z bud,S e g h,I Z i,I Z j,B k,S l m o,I Z p,S v w x,S y z a1,B up,S na nl nc,S ma ml mc]])))/\∀c:Nat,Y Tryz.prog 144 [A w8,A w7,A w6] H fun d e=>∃g h i j k l m o p q r,d=T #[A #[S g h i,I Z j,I Z k,B l,S m o p,I Z q],I Z r]/\(X base H e->(¬r=0->K (I Z r) w5 e)/\(¬¬r=0->(Y Tryz.prog 219 [A #[S sa sl sc,S ta tl tc],A w6] e fun s t=>∃u v w x y z,(fun w3:LL=>∃a1,s=T #[A #[S u v w,S x y z],I Z a1]/\(X base e t->∀b1:Nat,(a1=0->K (I Z a1) w3 t/\K (I Z a1) w3 t)/\(¬a1=0->K (I Z a1) w5 t))) [[I Z id,S fa fl fc,S ra rl rc,S wa wl wc,I Z bud,S g h i,I Z j,I Z k,B l,S m o p,I Z q,S u v w,S x y z,B up,S na nl nc,S ma ml mc]])/\∀s:Nat,Y Tryz.prog 219 [A #[S sa sl sc,S ta tl tc],A w6] e fun t u=>∃v w x y z a1,(fun w4:LL=>∃b1,t=T #[A #[S v w x,S y z a1],I Z b1]/\(X base e u->(b1=0->K (I Z b1) w4 u/\K (I Z b1) w4 u)/\(¬b1=0->K (I Z b1) w5 u))) [[I Z id,S fa fl fc,S ra rl rc,S wa wl wc,I Z bud,S g h i,I Z j,I Z k,B l,S m o p,I Z q,S v w x,S y z a1,B up,S na nl nc,S ma ml mc]]))) [[I Z id,S fa fl fc,S ra rl rc,S wa wl wc,I Z bud,S la ll lc,I Z now,I Z goal,B back,S ka kl kc,I Z nx,S sa sl sc,S ta tl tc,B up,S na nl nc,S ma ml mc]]) #[I Z
 kd,I Z ag,I Z rt,I Z n,B rg,I Z rid,S qa ql qc]) #[S la ll lc,I Z now,I Z goal,B back,S ka kl kc,I Z nx]) #[I Z id,S fa fl fc,S ra rl rc,S wa wl wc,I Z bud]):=by kernel_rfl
theorem vx221(b:Nat)(id bud:Int)(fa ra wa:O)(fl fc rl rc wl wc:Nat)(now goal nx:Int)(back:Bool)(la ka:O)(ll lc kl kc:Nat)(sa ta:O)(sl sc tl tc:Nat)(up:Bool)(na ma:O)(nl nc ml mc:Nat)(mg mt mid:Int)(mr mgd:Bool)(pa:O)(pl pc:Nat)(base:Nat)(H:Heap)(K:KT):
 (fV TryzMutsJ Tryz.f221 base H [.loc 0 0,.v (A #[I Z mg,I Z mt,B mr,B mgd,I Z mid,S pa pl pc])] [⟨b,false,41,[I Z id,S fa fl fc,S ra rl rc,S wa wl wc,I Z bud,S la ll lc,I Z now,I Z goal,B back,S ka kl kc,I Z nx,S sa sl sc,S ta tl tc,B up,S na nl nc,S ma ml mc]⟩] K)=(
 ∀a:Nat,Y Tryz.prog 245 [S ma ml mc,A #[I Z mg,I Z mt,B mr,B mgd,I Z mid,S pa pl pc]] H fun c d=>∃e g h i,c=T #[S e g h,I Z i]/\(X base H d->(i=0->K (T #[]) [[I Z id,S fa fl fc,S ra rl rc,S wa wl wc,I Z bud,S la ll lc,I Z now,I Z goal,B back,S ka kl kc,I Z nx,S sa sl sc,S ta tl tc,B up,S na nl nc,S e g h]] d)/\(¬i=0->K (T #[]) [[I Z id,S fa fl fc,S ra rl rc,S wa wl wc,I Z bud,S la ll lc,I Z now,I Z goal,B back,S ka kl kc,I Z nx,S sa sl sc,S ta tl tc,B up,S na nl nc,S ma ml mc]] d))):=by kernel_rfl
theorem vx180(b:Nat)(id bud:Int)(fa ra wa:O)(fl fc rl rc wl wc:Nat)(now goal nx:Int)(back:Bool)(la ka:O)(ll lc kl kc:Nat)(sa ta:O)(sl sc tl tc:Nat)(up:Bool)(na ma:O)(nl nc ml mc:Nat)(k:Int)(base:Nat)(H:Heap)(K:KT):
 (fV TryzMutsJ Tryz.f180 base H [.loc 0 0,.v (I Z k)] [⟨b,false,41,[I Z id,S fa fl fc,S ra rl rc,S wa wl wc,I Z bud,S la ll lc,I Z now,I Z goal,B back,S ka kl kc,I Z nx,S sa sl sc,S ta tl tc,B up,S na nl nc,S ma ml mc]⟩] K)=(
 ∃a c,na=some (D a c none)/\0<=k/\k<(nl:Int)/\∃(d:O)(e g:Nat)(h i:Int)(j:Bool)(l:Int)(m:O)(n o:Nat)(p:Bool),(C H a (c+N k*10)=some (S d e g)/\C H a (c+N k*10+1)=some (I Z h)/\C H a (c+N k*10+2)=some (I Z i)/\C H a (c+N k*10+3)=some (B j)/\C H a (c+N k*10+4)=some (I Z l)/\C H a (c+N k*10+5)=some (S m n o)/\C H a (c+N k*10+6)=some (B p)/\True)/\∀q:Nat,YO Tryz.prog 221 [P (some (D b 0 none)),A #[I Z k,I Z i,B true,B p,I Z 0,S none 0 0]] [J b false 41 [I Z id,S fa fl fc,S ra rl rc,S wa wl wc,I Z bud,S la ll lc,I Z now,I Z goal,B back,S ka kl kc,I Z nx,S sa sl sc,S ta tl tc,B up,S na nl nc,S ma ml mc]] H fun r s t=>r=T #[]/\∃(u:Int)(v:O)(w x:Nat)(y:O)(z a1:Nat)(b1:O)(c1 d1:Nat)(e1:Int)(f1:O)(g1 h1:Nat)(i1 j1:Int)(k1:Bool)(l1:O)(m1 n1:Nat)(o1:Int)(p1:O)(q1 r1:Nat)(s1:O)(t1 u1:Nat)(v1:Bool)(w1:O)(x1 y1:Nat)(z1:O)(a2 b2:Nat),(fun w2:LL=>s=w2/\(X base H t->K (T #[]) w2 t)) [[I Z u,S v w x,S y z a1,S b1 c1 d1,I Z e1,S f1 g1 h1,I Z i1,I Z j1,B k1,S l1 m1 n1,I Z o1,S p1 q1 r1,S s1 t1 u1,B v1,S w1 x1 y1,S z1 a2 b2]]):=by kernel_rfl
theorem vx177(b:Nat)(id bud:Int)(fa ra wa:O)(fl fc rl rc wl wc:Nat)(now goal nx:Int)(back:Bool)(la ka:O)(ll lc kl kc:Nat)(sa ta:O)(sl sc tl tc:Nat)(up:Bool)(na ma:O)(nl nc ml mc:Nat)(hk hg hn:Int)(hgd:Bool)(ha:O)(hl hc:Nat)(base:Nat)(H:Heap)(K:KT):
 (fV TryzMutsJ Tryz.f177 base H [.loc 0 0,.v (A #[I Z hk,I Z hg,I Z hn,B hgd,S ha hl hc])] [⟨b,false,41,[I Z id,S fa fl fc,S ra rl rc,S wa wl wc,I Z bud,S la ll lc,I Z now,I Z goal,B back,S ka kl kc,I Z nx,S sa sl sc,S ta tl tc,B up,S na nl nc,S ma ml mc]⟩] K)=(
 (fun w11:LV=>(fun w10:LV=>(fun w9:LV=>∀a:Nat,(Y Tryz.prog 220 w10 H fun c d=>∃e g h i j k,c=T #[B e,A #[I Z g,S h i j],I Z k]/\(X base H d->∀l:Nat,(¬k=0->K (I Z k) [w9] d)/\(¬¬k=0->(hk=4->∃m n,ka=some (D m n none)/\0<=hg/\hg<(kl:Int)/\∃(o p:Int)(q:Bool),(C d m (n+N hg*3)=some (I Z o)/\C d m (n+N hg*3+1)=some (I Z p)/\C d m (n+N hg*3+2)=some (B q)/\True)/\∀r:Nat,(¬o=1->K (I Z 7) [w9] d)/\(¬¬o=1->∃s,RunsTo Tryz.prog (binRun BinOp.neq 4 (Operand.tmp 54) (Operand.tmp 60) (B q) (B back)) (B s)/\(s=true->K (I Z 7) [w9] d)/\(¬s=true->YO Tryz.prog 221 [P (some (D b 0 none)),A #[I Z hg,I Z p,B false,B false,I Z g,S h i j]] [J b false 41 w9] d fun t u v=>t=T #[]/\∃(w:Int)(x:O)(y z:Nat)(a1:O)(b1 c1:Nat)(d1:O)(e1 f1:Nat)(g1:Int)(h1:O)(i1 j1:Nat)(k1 l1:Int)(m1:Bool)(n1:O)(o1 p1:Nat)(q1:Int)(r1:O)(s1 t1:Nat)(u1:O)(v1 w1:Nat)(x1:Bool)(y1:O)(z1 a2:Nat)(b2:O)(c2 d2:Nat),(fun w3:LL=>u=w3/\(X base d v->K (I Z 0) w3 v)) [[I Z w,S x y z,S a1 b1 c1,S d1 e1 f1,I Z g1,S h1 i1 j1,I Z k1,I Z l1,B m1,S n1 o1 p1,I Z q1,S r1 s1 t1,S u1 v1 w1,B x1,S y1 z1 a2,S b2 c2 d2]])))/\(¬hk=4->YO Tryz.prog 176 w11 [J b false 41 w9] d fun m n o=>∃p,m=I Z p/\∃(q:Int)(r:O)(s t:Nat)(u:O)(v w:Nat)(x:O)(y z:Nat)(a1:Int)(b1:O)(c1 d1:Nat)(e1 f1:Int)(g1:Bool)(h1:O)(i1 j1:Nat)(k1:Int)(l1:O)(m1 n1:Nat)(o1:O)(p1 q1:Nat)(r1:Bool)(s1:O)(t1 u1:Nat)(v1:O)(w1 x1:Nat),(fun w5:LV=>n=[w5]/\(X base d o->(¬p=0->K (I Z p) [w5] o)/\(¬¬p=0->YO Tryz.prog 221 [P (some (D b 0 none)),A #[I Z hg,I Z nx,B false,B false,I Z g,S h i j]] [J b false 41 w5] o fun y1 z1 a2=>y1=T #[]/\∃(b2:Int)(c2:O)(d2 e2:Nat)(f2:O)(g2 h2:Nat)(i2:O)(j2 k2:Nat)(l2:Int)(m2:O)(n2 o2:Nat)(p2 q2:Int)(r2:Bool)(s2:O)(t2 u2:Nat)(v2:Int)(w2:O)(x2 y2:Nat)(z2:O)(a3 b3:Nat)(c3:Bool)(d3:O)(e3 f3:Nat)(g3:O)(h3 i3:Nat),(fun w4:LL=>z1=w4/\(X base o a2->K (I Z 0) w4 a2)) [[I Z b2,S c2 d2 e2,S f2 g2 h2,S i2 j2 k2,I Z l2,S m2 n2 o2,I Z p2,I Z q2,B r2,S s2 t2 u2,I Z v2,S w2
 x2 y2,S z2 a3 b3,B c3,S d3 e3 f3,S g3 h3 i3]]))) [I Z q,S r s t,S u v w,S x y z,I Z a1,S b1 c1 d1,I Z e1,I Z f1,B g1,S h1 i1 j1,I Z k1,S l1 m1 n1,S o1 p1 q1,B r1,S s1 t1 u1,S v1 w1 x1]))))/\∀c:Nat,Y Tryz.prog 220 w10 H fun d e=>∃g h i j k l,d=T #[B g,A #[I Z h,S i j k],I Z l]/\(X base H e->(¬l=0->K (I Z l) [w9] e)/\(¬¬l=0->(hk=4->∃m n,ka=some (D m n none)/\0<=hg/\hg<(kl:Int)/\∃(o p:Int)(q:Bool),(C e m (n+N hg*3)=some (I Z o)/\C e m (n+N hg*3+1)=some (I Z p)/\C e m (n+N hg*3+2)=some (B q)/\True)/\∀r:Nat,(¬o=1->K (I Z 7) [w9] e)/\(¬¬o=1->∃s,RunsTo Tryz.prog (binRun BinOp.neq 4 (Operand.tmp 54) (Operand.tmp 60) (B q) (B back)) (B s)/\(s=true->K (I Z 7) [w9] e)/\(¬s=true->YO Tryz.prog 221 [P (some (D b 0 none)),A #[I Z hg,I Z p,B false,B false,I Z h,S i j k]] [J b false 41 w9] e fun t u v=>t=T #[]/\∃(w:Int)(x:O)(y z:Nat)(a1:O)(b1 c1:Nat)(d1:O)(e1 f1:Nat)(g1:Int)(h1:O)(i1 j1:Nat)(k1 l1:Int)(m1:Bool)(n1:O)(o1 p1:Nat)(q1:Int)(r1:O)(s1 t1:Nat)(u1:O)(v1 w1:Nat)(x1:Bool)(y1:O)(z1 a2:Nat)(b2:O)(c2 d2:Nat),(fun w6:LL=>u=w6/\(X base e v->K (I Z 0) w6 v)) [[I Z w,S x y z,S a1 b1 c1,S d1 e1 f1,I Z g1,S h1 i1 j1,I Z k1,I Z l1,B m1,S n1 o1 p1,I Z q1,S r1 s1 t1,S u1 v1 w1,B x1,S y1 z1 a2,S b2 c2 d2]])))/\(¬hk=4->YO Tryz.prog 176 w11 [J b false 41 w9] e fun m n o=>∃p,m=I Z p/\∃(q:Int)(r:O)(s t:Nat)(u:O)(v w:Nat)(x:O)(y z:Nat)(a1:Int)(b1:O)(c1 d1:Nat)(e1 f1:Int)(g1:Bool)(h1:O)(i1 j1:Nat)(k1:Int)(l1:O)(m1 n1:Nat)(o1:O)(p1 q1:Nat)(r1:Bool)(s1:O)(t1 u1:Nat)(v1:O)(w1 x1:Nat),(fun w8:LV=>n=[w8]/\(X base e o->(¬p=0->K (I Z p) [w8] o)/\(¬¬p=0->YO Tryz.prog 221 [P (some (D b 0 none)),A #[I Z hg,I Z nx,B false,B false,I Z h,S i j k]] [J b false 41 w8] o fun y1 z1 a2=>y1=T #[]/\∃(b2:Int)(c2:O)(d2 e2:Nat)(f2:O)(g2 h2:Nat)(i2:O)(j2 k2:Nat)(l2:Int)(m2:O)(n2 o2:Nat)(p2 q2:Int)(r2:Bool)(s2:O)(t2 u2:Nat)(v2:Int)(w2:O)(x2 y2:Nat)(z2:O)(a3 b3:Nat)(c3:Bool)(d3:O)(e3 f3:Nat)(g3:O)(h3 i3:Nat),(fun
 w7:LL=>z1=w7/\(X base o a2->K (I Z 0) w7 a2)) [[I Z b2,S c2 d2 e2,S f2 g2 h2,S i2 j2 k2,I Z l2,S m2 n2 o2,I Z p2,I Z q2,B r2,S s2 t2 u2,I Z v2,S w2 x2 y2,S z2 a3 b3,B c3,S d3 e3 f3,S g3 h3 i3]]))) [I Z q,S r s t,S u v w,S x y z,I Z a1,S b1 c1 d1,I Z e1,I Z f1,B g1,S h1 i1 j1,I Z k1,S l1 m1 n1,S o1 p1 q1,B r1,S s1 t1 u1,S v1 w1 x1])))) [I Z id,S fa fl fc,S ra rl rc,S wa wl wc,I Z bud,S la ll lc,I Z now,I Z goal,B back,S ka kl kc,I Z nx,S sa sl sc,S ta tl tc,B up,S na nl nc,S ma ml mc]) [A #[I Z id,S fa fl fc,S ra rl rc,S wa wl wc,I Z bud],A #[S la ll lc,I Z now,I Z goal,B back,S ka kl kc,I Z nx],I Z hg]) [P (some (D b 0 none)),A #[I Z 6,I Z hg,I Z nx,I Z 0,B false,I Z 0,S none 0 0]]):=by kernel_rfl
open Go Go.Proofs
theorem vx189(sa ta:O)(sl sc tl tc:Nat)(up:Bool)(base:Nat)(H:Heap)(K:KT):
 (fV TryzMutsJ Tryz.f189 base H [.v (A #[S sa sl sc,S ta tl tc]),.v (B up)] [] K)=(
 ∀a:Nat,Y Tryz.prog 64 [A #[S sa sl sc,S ta tl tc]] H fun b c=>∃d e g h i j k l m n,b=T #[A #[S d e g,S h i j],S k l m,I Z n]/\(X base H c->∀o:Nat,(fun w1:LB=>∃p:Prop,((n=0->(up=true->w1=w1/\SubH c c/\(p↔0<(tl:Int)))/\(up=false->w1=w1/\SubH c c/\¬p))/\(¬n=0->w1=w1/\SubH c c/\¬p))/\(p->K (T #[S none 0 0,I Z 4]) [] c)/\(¬p->K (T #[S k l m,I Z n]) [] c)) [J a false 35 [S sa sl sc,S ta tl tc],J o false 35 [S d e g,S h i j]])):=by kernel_rfl
theorem vx70(sa ta:O)(sl sc tl tc:Nat)(up:Bool)(base:Nat)(H:Heap)(K:KT):
 (fV TryzMutsJ Tryz.f70 base H [.v (A #[S sa sl sc,S ta tl tc]),.v (B up)] [] K)=(
 ∀a:Nat,Y Tryz.prog 146 [A #[S sa sl sc,S ta tl tc]] H fun b c=>∃d,b=I Z d/\(X base H c->(¬d=0->K (T #[S none 0 0,I Z d]) [] c)/\(¬¬d=0->(up=false->K (T #[S none 0 0,I Z 0]) [] c)/\(¬up=false->(0<(tl:Int)->K (T #[S none 0 0,I Z 4]) [] c)/\(¬0<(tl:Int)->Y Tryz.prog 23 [A #[S sa sl sc,S ta tl tc]] c fun e g=>∃h i j k l m n o p,e=T #[A #[S h i j,S k l m],S n o p]/\(X base c g->∀q:Nat,K (T #[S n o p,I Z 0]) [] g)))))):=by kernel_rfl
theorem vx105(id bud:Int)(fa ra wa:O)(fl fc rl rc wl wc:Nat)(now goal nx:Int)(back:Bool)(la ka:O)(ll lc kl kc:Nat)(sa ta:O)(sl sc tl tc:Nat)(up:Bool)(na ma:O)(nl nc ml mc:Nat)(base:Nat)(H:Heap)(K:KT):
 (fV TryzMutsJ Tryz.f105 base H [.v (A #[I Z id,S fa fl fc,S ra rl rc,S wa wl wc,I Z bud,S la ll lc,I Z now,I Z goal,B back,S ka kl kc,I Z nx,S sa sl sc,S ta tl tc,B up,S na nl nc,S ma ml mc])] [] K)=(
 (fun w5:AV=>(fun w4:AV=>(fun w3:LV=>∀a:Nat,Y Tryz.prog 189 [A #[S sa sl sc,S ta tl tc],B up] H fun b c=>∃d e g h,b=T #[S d e g,I Z h]/\(X base H c->(¬h=0->K (I Z h) [] c)/\(¬¬h=0->(up=false->Y Tryz.prog 66 [A w5,S none 0 0] c fun i j=>∃k l m n o p q r s t u,i=T #[A #[S k l m,I Z n,I Z o,B p,S q r s,I Z t],I Z u]/\(X base c j->∀v:Nat,(fun w1:LB=>∃w:Prop,((u=0->Y Tryz.prog 36 [A #[S k l m,I Z n,I Z o,B p,S q r s,I Z t],A w4] j fun x y=>∃z,x=B z/\(X base j y->w1=w1/\SubH j y/\(w↔z=false)))/\(¬u=0->w1=w1/\SubH j j/\¬w))/\(w->K (I Z 4) [] j)/\(¬w->K (I Z u) [] j)) [J a false 41 w3,J v false 32 [S k l m,I Z n,I Z o,B p,S q r s,I Z t]]))/\(¬up=false->Y Tryz.prog 66 [A w5,S d e g] c fun i j=>∃k l m n o p q r s t u,i=T #[A #[S k l m,I Z n,I Z o,B p,S q r s,I Z t],I Z u]/\(X base c j->∀v:Nat,(fun w2:LB=>∃w:Prop,((u=0->Y Tryz.prog 36 [A #[S k l m,I Z n,I Z o,B p,S q r s,I Z t],A w4] j fun x y=>∃z,x=B z/\(X base j y->w2=w2/\SubH j y/\(w↔z=false)))/\(¬u=0->w2=w2/\SubH j j/\¬w))/\(w->K (I Z 4) [] j)/\(¬w->K (I Z u) [] j)) [J a false 41 w3,J v false 32 [S k l m,I Z n,I Z o,B p,S q r s,I Z t]]))))) [I Z id,S fa fl fc,S ra rl rc,S wa wl wc,I Z bud,S la ll lc,I Z now,I Z goal,B back,S ka kl kc,I Z nx,S sa sl sc,S ta tl tc,B up,S na nl nc,S ma ml mc]) #[S la ll lc,I Z now,I Z goal,B back,S ka kl kc,I Z nx]) #[I Z id,S fa fl fc,S ra rl rc,S wa wl wc,I Z bud]):=by kernel_rfl
theorem vx106(id bud:Int)(fa ra wa:O)(fl fc rl rc wl wc:Nat)(now goal nx:Int)(back:Bool)(la ka:O)(ll lc kl kc:Nat)(sa ta:O)(sl sc tl tc:Nat)(up:Bool)(na ma:O)(nl nc ml mc:Nat)(aat tr gid:Int)(going good:Bool)(xa ga:O)(xl xc gl gc:Nat)(ua va:O)(ul uc vl vc:Nat)(nup:Bool)(base:Nat)(H:Heap)(K:KT):
 (fV TryzMutsJ Tryz.f106 base H [.v (A #[I Z id,S fa fl fc,S ra rl rc,S wa wl wc,I Z bud,S la ll lc,I Z now,I Z goal,B back,S ka kl kc,I Z nx,S sa sl sc,S ta tl tc,B up,S na nl nc,S ma ml mc]),.v (A #[S xa xl xc,I Z aat,I Z tr,B going,I Z gid,S ga gl gc,B good,S ua ul uc,S va vl vc,B nup])] [] K)=(
 (fun w5:AV=>(fun w4:LV=>(fun w3:LV=>∀a b:Nat,Y Tryz.prog 189 [A #[S ua ul uc,S va vl vc],B nup] H fun c d=>∃e g h i,c=T #[S e g h,I Z i]/\(X base H d->(¬i=0->K (I Z i) [] d)/\(¬¬i=0->(nup=false->Y Tryz.prog 67 [A #[I Z id,S fa fl fc],S none 0 0] d fun j k=>∃l m n o p q r s t u v w,j=T #[A #[S l m n,I Z o,I Z p,B q,I Z r,S s t u,B v],I Z w]/\(X base d k->∀x:Nat,(fun w1:LB=>∃y:Prop,((w=0->Y Tryz.prog 38 [A #[S l m n,I Z o,I Z p,B q,I Z r,S s t u,B v],A w5] k fun z a1=>∃b1,z=B b1/\(X base k a1->w1=w1/\SubH k a1/\(y↔b1=false)))/\(¬w=0->w1=w1/\SubH k k/\¬y))/\(y->K (I Z 4) [] k)/\(¬y->K (I Z w) [] k)) [J a false 41 w3,J b false 58 w4,J x false 46 [S l m n,I Z o,I Z p,B q,I Z r,S s t u,B v]]))/\(¬nup=false->Y Tryz.prog 67 [A #[I Z id,S fa fl fc],S e g h] d fun j k=>∃l m n o p q r s t u v w,j=T #[A #[S l m n,I Z o,I Z p,B q,I Z r,S s t u,B v],I Z w]/\(X base d k->∀x:Nat,(fun w2:LB=>∃y:Prop,((w=0->Y Tryz.prog 38 [A #[S l m n,I Z o,I Z p,B q,I Z r,S s t u,B v],A w5] k fun z a1=>∃b1,z=B b1/\(X base k a1->w2=w2/\SubH k a1/\(y↔b1=false)))/\(¬w=0->w2=w2/\SubH k k/\¬y))/\(y->K (I Z 4) [] k)/\(¬y->K (I Z w) [] k)) [J a false 41 w3,J b false 58 w4,J x false 46 [S l m n,I Z o,I Z p,B q,I Z r,S s t u,B v]]))))) [I Z id,S fa fl fc,S ra rl rc,S wa wl wc,I Z bud,S la ll lc,I Z now,I Z goal,B back,S ka kl kc,I Z nx,S sa sl sc,S ta tl tc,B up,S na nl nc,S ma ml mc]) [S xa xl xc,I Z aat,I Z tr,B going,I Z gid,S ga gl gc,B good,S ua ul uc,S va vl vc,B nup]) #[S xa xl xc,I Z aat,I Z tr,B going,I Z gid,S ga gl gc,B good]):=by kernel_rfl
theorem vx31(id bud:Int)(fa ra wa:O)(fl fc rl rc wl wc:Nat)(now goal nx:Int)(back:Bool)(la ka:O)(ll lc kl kc:Nat)(sa ta:O)(sl sc tl tc:Nat)(up:Bool)(na ma:O)(nl nc ml mc:Nat)(base:Nat)(H:Heap)(K:KT):
 (fV TryzMutsJ Tryz.f31 base H [.v (A #[I Z id,S fa fl fc,S ra rl rc,S wa wl wc,I Z bud,S la ll lc,I Z now,I Z goal,B back,S ka kl kc,I Z nx,S sa sl sc,S ta tl tc,B up,S na nl nc,S ma ml mc])] [] K)=(
 (fun w3:LV=>(fun w2:LL=>∀a:Nat,Y Tryz.prog 101 w3 H fun b c=>∃d,b=I Z d/\(X base H c->(¬d=0->K (I Z d) [] c)/\(¬¬d=0->Y Tryz.prog 88 w3 c fun e g=>∃h,e=I Z h/\(X base c g->(¬(nl:Int)=h->K (I Z 4) [] g)/\(¬¬(nl:Int)=h->Y Tryz.prog 102 [S ma ml mc] g fun i j=>∃k,i=I Z k/\(X base g j->(¬k=0->K (I Z k) [] j)/\(¬¬k=0->true=true/\∀l:Heap,X 0 j l->l a=some (boxKB 41 [I Z id,S fa fl fc,S ra rl rc,S wa wl wc,I Z bud,S la ll lc,I Z now,I Z goal,B back,S ka kl kc,I Z nx,S sa sl sc,S ta tl tc,B up,S na nl nc,S ma ml mc])/\True->Y Tryz.prog 103 [S ma ml mc,Value.func (Fn.func 104) #[] #[P (some (D a 0 none))]] l fun m n=>∃o,m=B o/\∀p,X base j p->(∀(q:Nat)(r:KB),n q=some r->(∀s:Bx,s∈ [J a false 41 [I Z id,S fa fl fc,S ra rl rc,S wa wl wc,I Z bud,S la ll lc,I Z now,I Z goal,B back,S ka kl kc,I Z nx,S sa sl sc,S ta tl tc,B up,S na nl nc,S ma ml mc]]->q≠Bx.b s)->p q=some r)->(o=true->K (I Z 5) [] p)/\(o=false->Y Tryz.prog 105 [A #[I Z id,S fa fl fc,S ra rl rc,S wa wl wc,I Z bud,S la ll lc,I Z now,I Z goal,B back,S ka kl kc,I Z nx,S sa sl sc,S ta tl tc,B up,S na nl nc,S ma ml mc]] p fun q r=>∃s,q=I Z s/\(X base p r->(¬s=0->K (I Z s) [] r)/\(¬¬s=0->∃(t:LI)(u:LM),t [I Z 0,I Z 0] r/\∀(v w:Int)(x:Heap),X base H x->t [I Z v,I Z w] x->(w<(nl:Int)->∃y z,na=some (D y z none)/\0<=w/\w<(nl:Int)/\∃(a1:O)(b1 c1:Nat)(d1 e1:Int)(f1:Bool)(g1:Int)(h1:O)(i1 j1:Nat)(k1:Bool)(l1:O)(m1 n1:Nat)(o1:O)(p1 q1:Nat)(r1:Bool),(C x y (z+N w*10)=some (S a1 b1 c1)/\C x y (z+N w*10+1)=some (I Z d1)/\C x y (z+N w*10+2)=some (I Z e1)/\C x y (z+N w*10+3)=some (B f1)/\C x y (z+N w*10+4)=some (I Z g1)/\C x y (z+N w*10+5)=some (S h1 i1 j1)/\C x y (z+N w*10+6)=some (B k1)/\C x y (z+N w*10+7)=some (S l1 m1 n1)/\C x y (z+N w*10+8)=some (S o1 p1 q1)/\C x y (z+N w*10+9)=some (B r1)/\True)/\∀s1:Nat,Y Tryz.prog 106 [A #[I Z id,S fa fl fc,S ra rl rc,S wa wl wc,I Z bud,S la ll lc,I Z now,I Z goal,B back,S ka kl kc,I Z nx,S sa
 sl sc,S ta tl tc,B up,S na nl nc,S ma ml mc],A #[S a1 b1 c1,I Z d1,I Z e1,B f1,I Z g1,S h1 i1 j1,B k1,S l1 m1 n1,S o1 p1 q1,B r1]] x fun t1 u1=>∃v1,t1=I Z v1/\(X base x u1->(¬v1=0->K (I Z v1) [] u1)/\(¬¬v1=0->∀w1:Int,w1=W Z (w+1)->w2=w2/\t [I Z v,I Z w1] u1/\u [I Z v,I Z w1]<u [I Z v,I Z w])))/\(¬w<(nl:Int)->K (I Z 0) [] x))))))))))) [[I Z id,S fa fl fc,S ra rl rc,S wa wl wc,I Z bud,S la ll lc,I Z now,I Z goal,B back,S ka kl kc,I Z nx,S sa sl sc,S ta tl tc,B up,S na nl nc,S ma ml mc]]) [A #[I Z id,S fa fl fc,S ra rl rc,S wa wl wc,I Z bud]]):=by kernel_rfl
theorem vx19(id bud:Int)(fa ra wa:O)(fl fc rl rc wl wc:Nat)(now goal nx:Int)(back:Bool)(la ka:O)(ll lc kl kc:Nat)(sa ta:O)(sl sc tl tc:Nat)(up:Bool)(na ma:O)(nl nc ml mc:Nat)(base:Nat)(H:Heap)(K:KT):
 (fV TryzMutsJ Tryz.f19 base H [.v (A #[I Z id,S fa fl fc,S ra rl rc,S wa wl wc,I Z bud,S la ll lc,I Z now,I Z goal,B back,S ka kl kc,I Z nx,S sa sl sc,S ta tl tc,B up,S na nl nc,S ma ml mc])] [] K)=(
 (fun w6:AV=>(fun w5:LV=>∀a:Nat,Y Tryz.prog 28 [A w6] H fun b c=>∃d,b=I Z d/\(X base H c->(¬d=0->K (I Z d) [] c)/\(¬¬d=0->Y Tryz.prog 68 [A w6] c fun e g=>∃h,e=I Z h/\(X base c g->(¬(nl:Int)=h->K (I Z 4) [] g)/\(¬¬(nl:Int)=h->Y Tryz.prog 69 [S ma ml mc] g fun i j=>∃k,i=I Z k/\(X base g j->(¬k=0->K (I Z k) [] j)/\(¬¬k=0->∃(l:LI)(m:LM),l [I Z 0,I Z 0] j/\∀(n o:Int)(p:Heap),X base H p->l [I Z n,I Z o] p->(o<(ml:Int)->∃q r,ma=some (D q r none)/\0<=o/\o<(ml:Int)/\∃(s t:Int)(u v:Bool)(w:Int)(x:O)(y z:Nat),(C p q (r+N o*6)=some (I Z s)/\C p q (r+N o*6+1)=some (I Z t)/\C p q (r+N o*6+2)=some (B u)/\C p q (r+N o*6+3)=some (B v)/\C p q (r+N o*6+4)=some (I Z w)/\C p q (r+N o*6+5)=some (S x y z)/\True)/\∀a1:Nat,((nl:Int)<=s->K (I Z 5) [] p)/\(¬(nl:Int)<=s->∀b1:Int,b1=W Z (o+1)->[w5]=[w5]/\l [I Z n,I Z b1] p/\m [I Z n,I Z b1]<m [I Z n,I Z o]))/\(¬o<(ml:Int)->Y Tryz.prog 70 [A #[S sa sl sc,S ta tl tc],B up] p fun q r=>∃s t u v,q=T #[S s t u,I Z v]/\(X base p r->(¬v=0->K (I Z v) [] r)/\(¬¬v=0->Y Tryz.prog 24 [A w6,S s t u] r fun w x=>∃y z a1 b1 c1 d1 e1 f1 g1 h1,(fun w4:LL=>∃i1,w=T #[A #[S y z a1,I Z b1,I Z c1,B d1,S e1 f1 g1,I Z h1],I Z i1]/\(X base r x->∀j1:Nat,(¬i1=0->K (I Z i1) [] x)/\(¬¬i1=0->Y Tryz.prog 21 [A #[S y z a1,I Z b1,I Z c1,B d1,S e1 f1 g1,I Z h1],A #[S la ll lc,I Z now,I Z goal,B back,S ka kl kc,I Z nx]] x fun k1 l1=>∃m1,k1=B m1/\(X base x l1->(m1=false->K (I Z 4) [] l1)/\(¬m1=false->∃(n1:LI)(o1:LM),n1 [I Z n,I Z 0] l1/\∀(p1 q1:Int)(r1:Heap),X base H r1->n1 [I Z p1,I Z q1] r1->(q1<(nl:Int)->∃s1 t1,na=some (D s1 t1 none)/\0<=q1/\q1<(nl:Int)/\∃(u1:O)(v1 w1:Nat)(x1 y1:Int)(z1:Bool)(a2:Int)(b2:O)(c2 d2:Nat)(e2:Bool)(f2:O)(g2 h2:Nat)(i2:O)(j2 k2:Nat)(l2:Bool),(C r1 s1 (t1+N q1*10)=some (S u1 v1 w1)/\C r1 s1 (t1+N q1*10+1)=some (I Z x1)/\C r1 s1 (t1+N q1*10+2)=some (I Z y1)/\C r1 s1 (t1+N q1*10+3)=some (B z1)/\C r1 s1 (t1+N q1*10+4)=some (I Z a2)/\C r1
 s1 (t1+N q1*10+5)=some (S b2 c2 d2)/\C r1 s1 (t1+N q1*10+6)=some (B e2)/\C r1 s1 (t1+N q1*10+7)=some (S f2 g2 h2)/\C r1 s1 (t1+N q1*10+8)=some (S i2 j2 k2)/\C r1 s1 (t1+N q1*10+9)=some (B l2)/\True)/\∀m2:Nat,Y Tryz.prog 70 [A #[S f2 g2 h2,S i2 j2 k2],B l2] r1 fun n2 o2=>∃p2 q2 r2 s2,n2=T #[S p2 q2 r2,I Z s2]/\(X base r1 o2->(¬s2=0->K (I Z s2) [] o2)/\(¬¬s2=0->Y Tryz.prog 25 [A #[I Z id,S fa fl fc],S p2 q2 r2] o2 fun t2 u2=>∃(v2:O)(w2 x2:Nat)(y2 z2:Int)(a3:Bool)(b3:Int)(c3:O)(d3 e3:Nat)(f3:Bool),(fun w3:AV=>∃g3,t2=T #[A w3,I Z g3]/\(X base o2 u2->∀h3:Nat,(¬g3=0->K (I Z g3) [] u2)/\(¬¬g3=0->Y Tryz.prog 22 [A w3,A #[S u1 v1 w1,I Z x1,I Z y1,B z1,I Z a2,S b2 c2 d2,B e2]] u2 fun i3 j3=>∃k3,i3=B k3/\(X base u2 j3->(k3=false->K (I Z 4) [] j3)/\(¬k3=false->∀l3:Int,l3=W Z (q1+1)->w4=w4/\n1 [I Z p1,I Z l3] j3/\o1 [I Z p1,I Z l3]<o1 [I Z p1,I Z q1]))))) #[S v2 w2 x2,I Z y2,I Z z2,B a3,I Z b3,S c3 d3 e3,B f3])))/\(¬q1<(nl:Int)->K (I Z 0) [] r1)))))) [w5,[S y z a1,I Z b1,I Z c1,B d1,S e1 f1 g1,I Z h1]])))))))))) [I Z id,S fa fl fc,S ra rl rc,S wa wl wc,I Z bud,S la ll lc,I Z now,I Z goal,B back,S ka kl kc,I Z nx,S sa sl sc,S ta tl tc,B up,S na nl nc,S ma ml mc]) #[I Z id,S fa fl fc,S ra rl rc,S wa wl wc,I Z bud]):=by kernel_rfl
theorem vx17(id bud:Int)(fa ra wa:O)(fl fc rl rc wl wc:Nat)(now goal nx:Int)(back:Bool)(la ka:O)(ll lc kl kc:Nat)(sa ta:O)(sl sc tl tc:Nat)(up:Bool)(na ma:O)(nl nc ml mc:Nat)(base:Nat)(H:Heap)(K:KT):
 (fV TryzMutsJ Tryz.f17 base H [.v (A #[I Z id,S fa fl fc,S ra rl rc,S wa wl wc,I Z bud,S la ll lc,I Z now,I Z goal,B back,S ka kl kc,I Z nx,S sa sl sc,S ta tl tc,B up,S na nl nc,S ma ml mc])] [] K)=(
 ∀a b:Nat,Y Tryz.prog 31 [A #[I Z id,S fa fl fc,S ra rl rc,S wa wl wc,I Z bud,S la ll lc,I Z now,I Z goal,B back,S ka kl kc,I Z nx,S sa sl sc,S ta tl tc,B up,S na nl nc,S ma ml mc]] H fun c d=>∃e,c=I Z e/\(X base H d->(¬e=0->K (T #[A #[S none 0 0,I Z 0,I Z 0,B false,S none 0 0,I Z 0],I Z e]) [] d)/\(¬¬e=0->Y Tryz.prog 64 [A #[S sa sl sc,S ta tl tc]] d fun g h=>∃i j k l m n o p q r,g=T #[A #[S i j k,S l m n],S o p q,I Z r]/\(X base d h->∀s:Nat,Y Tryz.prog 66 [A #[I Z id,S fa fl fc,S ra rl rc,S wa wl wc,I Z bud],S o p q] h fun t u=>∃(v:O)(w x:Nat)(y z:Int)(a1:Bool)(b1:O)(c1 d1:Nat)(e1 f1:Int),(fun w1:AV=>t=T w1/\(X base h u->K (T w1) [] u)) #[A #[S v w x,I Z y,I Z z,B a1,S b1 c1 d1,I Z e1],I Z f1])))):=by kernel_rfl
theorem vx18(id bud:Int)(fa ra wa:O)(fl fc rl rc wl wc:Nat)(now goal nx:Int)(back:Bool)(la ka:O)(ll lc kl kc:Nat)(sa ta:O)(sl sc tl tc:Nat)(up:Bool)(na ma:O)(nl nc ml mc:Nat)(k:Int)(base:Nat)(H:Heap)(K:KT):
 (fV TryzMutsJ Tryz.f18 base H [.v (A #[I Z id,S fa fl fc,S ra rl rc,S wa wl wc,I Z bud,S la ll lc,I Z now,I Z goal,B back,S ka kl kc,I Z nx,S sa sl sc,S ta tl tc,B up,S na nl nc,S ma ml mc]),.v (I Z k)] [] K)=(
 ∀a b:Nat,(fun w2:LB=>Y Tryz.prog 31 [A #[I Z id,S fa fl fc,S ra rl rc,S wa wl wc,I Z bud,S la ll lc,I Z now,I Z goal,B back,S ka kl kc,I Z nx,S sa sl sc,S ta tl tc,B up,S na nl nc,S ma ml mc]] H fun c d=>∃e,c=I Z e/\(X base H d->(¬e=0->K (T #[A #[S none 0 0,I Z 0,I Z 0,B false,I Z 0,S none 0 0,B false],I Z e]) [] d)/\(¬¬e=0->∃g:Prop,((k<0->w2=w2/\SubH d d/\g)/\(¬k<0->w2=w2/\SubH d d/\(g↔(nl:Int)<=k)))/\(g->K (T #[A #[S none 0 0,I Z 0,I Z 0,B false,I Z 0,S none 0 0,B false],I Z 5]) [] d)/\(¬g->∃h i,na=some (D h i none)/\0<=k/\k<(nl:Int)/\∃(j:O)(l m:Nat)(n:O)(o p:Nat),(C d h (i+N k*10+7)=some (S j l m)/\C d h (i+N k*10+7+1)=some (S n o p)/\True)/\Y Tryz.prog 64 [A #[S j l m,S n o p]] d fun q r=>∃s t u v w x y z a1 b1,q=T #[A #[S s t u,S v w x],S y z a1,I Z b1]/\(X base d r->∀c1:Nat,Y Tryz.prog 67 [A #[I Z id,S fa fl fc],S y z a1] r fun d1 e1=>∃(f1:O)(g1 h1:Nat)(i1 j1:Int)(k1:Bool)(l1:Int)(m1:O)(n1 o1:Nat)(p1:Bool)(q1:Int),(fun w1:AV=>d1=T w1/\(X base r e1->K (T w1) [] e1)) #[A #[S f1 g1 h1,I Z i1,I Z j1,B k1,I Z l1,S m1 n1 o1,B p1],I Z q1]))))) [J a false 41 [I Z id,S fa fl fc,S ra rl rc,S wa wl wc,I Z bud,S la ll lc,I Z now,I Z goal,B back,S ka kl kc,I Z nx,S sa sl sc,S ta tl tc,B up,S na nl nc,S ma ml mc],J b false 46 [S none 0 0,I Z 0,I Z 0,B false,I Z 0,S none 0 0,B false]]):=by kernel_rfl
theorem vx188(a:O)(l c p:Nat)(base:Nat)(H:Heap)(K:KT):
 (fV TryzMutsJ Tryz.f188 base H [.v (S a l c),.v (.func (.func 104) #[] #[.pointer (some ⟨p,0,none⟩)])] [] K)=(
 ∃(b:LI)(d:LM),b [I Z 0,I Z 0] H/\∀(e g:Int)(h:Heap),X base H h->b [I Z e,I Z g] h->(g<(l:Int)->∃i j,a=some (D i j none)/\0<=g/\g<(l:Int)/\∃(k m:Int)(n o:Bool)(q:Int)(r:O)(s t:Nat),(C h i (j+N g*6)=some (I Z k)/\C h i (j+N g*6+1)=some (I Z m)/\C h i (j+N g*6+2)=some (B n)/\C h i (j+N g*6+3)=some (B o)/\C h i (j+N g*6+4)=some (I Z q)/\C h i (j+N g*6+5)=some (S r s t)/\True)/\Y Tryz.prog 104 [A #[I Z k,I Z m,B n,B o,I Z q,S r s t],P (some (D p 0 none))] h fun u v=>∃w,u=B w/\(X base h v->(w=true->K (I Z g) [] v)/\(w=false->∀x:Int,x=W Z (g+1)->b [I Z e,I Z x] v/\d [I Z e,I Z x]<d [I Z e,I Z g])))/\(¬g<(l:Int)->K (I Z (-1)) [] h)):=by kernel_rfl
theorem vx103(a:O)(l c p:Nat)(base:Nat)(H:Heap)(K:KT):
 (fV TryzMutsJ Tryz.f103 base H [.v (S a l c),.v (.func (.func 104) #[] #[.pointer (some ⟨p,0,none⟩)])] [] K)=(
 Y Tryz.prog 188 [S a l c,Value.func (Fn.func 104) #[] #[P (some (D p 0 none))]] H fun b d=>∃e,b=I Z e/\(X base H d->K (B (decide (0<=e))) [] d)):=by kernel_rfl
theorem vx104(mg mt mid:Int)(mr mgd:Bool)(pa:O)(pl pc:Nat)(p:Nat)(base:Nat)(H:Heap)(K:KT):
 (fV TryzMutsJ Tryz.f104 base H [.v (A #[I Z mg,I Z mt,B mr,B mgd,I Z mid,S pa pl pc]),.v (.pointer (some ⟨p,0,none⟩))] [] K)=(
 ∀a:Nat,∃b c d,C H p 14=some (S b c d)/\K (B (decide ((c:Int)<=mg))) [] H):=by kernel_rfl
open Go
structure Step where
 kind:Int
 name:Int
 ver:Int
 deriving DecidableEq
def dropOf(b:List Pin)(p:Pin):Option Step:=if find b p.name=0 then some ⟨2,p.name,0⟩ else none
def addOf(a:List Pin)(p:Pin):Option Step:=if find a p.name=p.ver then none else if find a p.name=0 then some ⟨1,p.name,p.ver⟩ else some ⟨3,p.name,p.ver⟩
def drops(a b:List Pin):List Step:=a.filterMap (dropOf b)
def adds(a b:List Pin):List Step:=b.filterMap (addOf a)
def diffs(a b:List Pin):List Step:=drops a b++adds a b
def diffErr(a b:List Pin):Int:=if lockCheck a=0 then lockCheck b else lockCheck a
def del(n:Int)(l:List Pin):List Pin:=l.filter fun p=>p.name≠n
def applied(l:List Pin)(o:Step):List Pin:=if o.kind=2 then del o.name l else up o.name o.ver l
def badStep(o:Step):Prop:=o.name<1∨20<o.name∨(o.kind≠2/\(o.ver<1∨99<o.ver))∨(o.kind=2/\o.ver≠0)
instance (o:Step):Decidable (badStep o):=by unfold badStep;infer_instance
def applyErr(l:List Pin)(o:Step):Int:=
 if lockCheck l≠0 then lockCheck l else
 if o.kind<1∨3<o.kind then 4 else
 if badStep o then 3 else
 if o.kind=1/\find l o.name≠0 then 6 else
 if o.kind≠1/\find l o.name=0 then 5 else
 if o.kind=1/\l.length=12 then 2 else 0
theorem find_del{l:List Pin}(n m:Int):find (del n l) m=if m=n then 0 else find l m:=by
 induction l with
 |nil=>simp[del,find]
 |cons p r ih=>
  unfold del at ih⊢
  rw[List.filter_cons]
  by_cases h:p.name=n
  ·rw[if_neg (by simp[h]),ih]
   by_cases e:m=n
   ·rw[if_pos e,if_pos e]
   ·rw[if_neg e,if_neg e,find,if_neg (by omega)]
  ·rw[if_pos (by simp[h]),find,ih,find]
   by_cases e:p.name=m
   ·rw[if_pos e,if_pos e,if_neg (by omega)]
   ·rw[if_neg e,if_neg e]
theorem Lk.del{l:List Pin}(h:Lk l)(n:Int):Lk (del n l):=
 ⟨fun p hp=>h.good p (List.mem_filter.1 hp).1,h.rise.sublist List.filter_sublist⟩
theorem applied_find{l:List Pin}(h:Lk l)(o:Step)(m:Int)(hk:o.kind=2->o.ver=0):find (applied l o) m=if m=o.name then o.ver else find l m:=by
 unfold applied
 split
 ·rename_i e;rw[find_del,hk e]
 ·rw[find_up m h]
theorem names_len:∀ {l m:List Pin},Lk l->Lk m->(∀p∈l,find m p.name≠0)->l.length<=m.length:=by
 intro l m hl hm h
 have hlk:∀ {x:List Pin},Lk x->Lk (x.map fun p=>⟨p.name,1⟩):=fun hx=>⟨fun p hp=>by
  obtain⟨q,hq,rfl⟩:=List.mem_map.1 hp
  have:=hx.name hq
  unfold badPin;simp;omega,by
  rw[List.pairwise_map];exact hx.rise⟩
 have hf:∀(x:List Pin)(n:Int),Lk x->find (x.map fun p=>⟨p.name,1⟩) n=if find x n=0 then 0 else 1:=by
  intro x n hx
  induction x with
  |nil=>rfl
  |cons p r ih=>
   rw[List.map_cons,find,find]
   by_cases e:p.name=n
   ·have:=hx.name (p:=p) List.mem_cons_self
    rw[if_pos e,if_pos e,if_neg (by omega)]
   ·rw[if_neg e,if_neg e,ih hx.tail]
 have:=LeL.len (hlk hl) (hlk hm) fun n=>by
  rw[hf l n hl,hf m n hm]
  by_cases e:find l n=0
  ·rw[if_pos e];split<;>omega
  ·obtain⟨p,h1,h2,_⟩:=find_pos e
   have:=h p h1
   rw[h2] at this
   rw[if_neg e,if_neg this]
   exact Int.le_refl _
 simpa using this
theorem filterMap_congr'{f g:Pin->Option Step} :∀ {l:List Pin},(∀x∈l,g x=f x)->l.filterMap g=l.filterMap f
 | [],_=>rfl
 |x::r,h=>by
  have ih:=filterMap_congr' (l:=r) fun y hy=>h y (List.mem_cons_of_mem _ hy)
  have hx:=h x List.mem_cons_self
  cases hf:f x with
  |none=>rw[List.filterMap_cons_none hf,List.filterMap_cons_none (hx.trans hf),ih]
  |some s=>rw[List.filterMap_cons_some hf,List.filterMap_cons_some (hx.trans hf),ih]
theorem first_gone{f g:Pin->Option Step}{n:Int}(hn:∀q s,f q=some s->s.name=q.name):∀ {l:List Pin},l.Pairwise (fun p q=>p.name<q.name)->(∀q∈l,q.name≠n->g q=f q)->(∀q∈l,q.name=n->g q=none)->
  ∀ {o:Step} {rest:List Step},l.filterMap f=o::rest->o.name=n->l.filterMap g=rest
 | [],_,_,_,o,rest,h,_=>by cases h
 |q::r,hp,h1,h2,o,rest,h,ho=>by
  obtain⟨hq,hr⟩:=List.pairwise_cons.1 hp
  cases hf:f q with
  |none=>
   rw[List.filterMap_cons_none hf] at h
   have hg:g q=none:=by
    by_cases e:q.name=n
    ·exact h2 q List.mem_cons_self e
    ·rw[h1 q List.mem_cons_self e,hf]
   rw[List.filterMap_cons_none hg]
   exact first_gone hn hr (fun x hx=>h1 x (List.mem_cons_of_mem _ hx)) (fun x hx=>h2 x (List.mem_cons_of_mem _ hx)) h ho
  |some s=>
   rw[List.filterMap_cons_some hf] at h
   obtain⟨rfl,rfl⟩:s=o/\r.filterMap f=rest:=by simpa using h
   have e:=hn q s hf
   rw[List.filterMap_cons_none (h2 q List.mem_cons_self (by omega))]
   exact filterMap_congr' fun x hx=>h1 x (List.mem_cons_of_mem _ hx) (by have:=hq x hx;omega)
theorem dropOf_name{b:List Pin}(q:Pin)(s:Step)(h:dropOf b q=some s):s.name=q.name/\s.kind=2/\s.ver=0/\find b q.name=0:=by
 unfold dropOf at h
 split at h
 ·cases h;rename_i e;exact⟨rfl,rfl,rfl,e⟩
 ·cases h
theorem addOf_name{a:List Pin}(q:Pin)(s:Step)(h:addOf a q=some s):s.name=q.name/\s.ver=q.ver/\find a q.name≠q.ver/\(s.kind=1/\find a q.name=0∨s.kind=3/\find a q.name≠0):=by
 unfold addOf at h
 split at h
 ·cases h
 ·rename_i e
  split at h
  ·cases h;rename_i e2;exact⟨rfl,rfl,e,.inl ⟨rfl,e2⟩⟩
  ·cases h;rename_i e2;exact⟨rfl,rfl,e,.inr ⟨rfl,e2⟩⟩
theorem drops_nil{a b:List Pin}(h:drops a b=[]):∀p∈a,find b p.name≠0:=fun p hp e=>by
 have:=List.filterMap_eq_nil_iff.1 h p hp
 unfold dropOf at this
 rw[if_pos e] at this;cases this
structure StepOk(a b:List Pin)(o:Step):Prop where
 name:1<=o.name/\o.name<=20
 ver:o.ver=find b o.name
 differs:find a o.name≠find b o.name
 kind:(o.kind=2/\find b o.name=0/\find a o.name≠0)∨(o.kind=1/\find a o.name=0/\find b o.name≠0)∨(o.kind=3/\find a o.name≠0/\find b o.name≠0)
theorem diffs_mem{a b:List Pin}(ha:Lk a)(hb:Lk b){o:Step}(h:o∈diffs a b):StepOk a b o:=by
 rcases List.mem_append.1 h with h|h
 ·obtain⟨p,hp,he⟩:=List.mem_filterMap.1 h
  obtain⟨h1,h2,h3,h4⟩:=dropOf_name p o he
  have hn:=ha.name hp
  have hf:=find_mem ha hp
  rw[←h1] at h4 hn hf
  exact⟨⟨hn.1,hn.2.1⟩,by rw[h3,h4],by rw[hf,h4];omega,.inl ⟨h2,h4,by rw[hf];omega⟩⟩
 ·obtain⟨p,hp,he⟩:=List.mem_filterMap.1 h
  obtain⟨h1,h2,h3,h4⟩:=addOf_name p o he
  have hn:=hb.name hp
  have hf:=find_mem hb hp
  rw[←h1] at h3 h4 hn hf
  refine⟨⟨hn.1,hn.2.1⟩,by rw[h2,hf],by rw[hf];exact h3,?_⟩
  rcases h4 with⟨h5,h6⟩|⟨h5,h6⟩
  ·exact .inr (.inl ⟨h5,h6,by rw[hf];omega⟩)
  ·exact .inr (.inr ⟨h5,h6,by rw[hf];omega⟩)
theorem StepOk.good{a b:List Pin}(hb:Lk b){o:Step}(h:StepOk a b o):¬badStep o/\1<=o.kind/\o.kind<=3/\(o.kind=2->o.ver=0)/\(o.kind≠2->1<=o.ver/\o.ver<=99):=by
 have h1:=h.name
 have h2:=h.ver
 have h3:=hb.find_range o.name
 unfold badStep
 rcases h.kind with h4|h4|h4<;>omega
theorem StepOk.applied{a b:List Pin}(ha:Lk a)(hb:Lk b){o:Step}(h:StepOk a b o):Lk (applied a o)/\∀m,find (applied a o) m=if m=o.name then find b m else find a m:=by
 have hg:=h.good hb
 refine⟨?_,fun m=> ?_⟩
 ·unfold Vg.applied
  split
  ·exact ha.del _
  ·rename_i e;exact ha.up h.name (hg.2.2.2.2 e)
 ·rw[applied_find ha o m hg.2.2.2.1]
  by_cases e:m=o.name
  ·rw[if_pos e,if_pos e,e,h.ver]
  ·rw[if_neg e,if_neg e]
theorem diffs_step{a b:List Pin}(ha:Lk a)(hb:Lk b){o:Step}{rest:List Step}(h:diffs a b=o::rest):diffs (applied a o) b=rest:=by
 have hok:=diffs_mem ha hb (h▸List.mem_cons_self:o∈diffs a b)
 obtain⟨hL,hf⟩:=hok.applied ha hb
 unfold diffs at h⊢
 cases hd:drops a b with
 |nil=>
  rw[hd,List.nil_append] at h
  have h1:drops (applied a o) b=[]:=List.filterMap_eq_nil_iff.2 fun p hp=>by
   have hm:=hL.name hp
   have:=hf p.name
   rw[find_mem hL hp] at this
   rw[dropOf,if_neg]
   intro e
   by_cases e2:p.name=o.name
   ·rw[if_pos e2] at this;omega
   ·rw[if_neg e2] at this
    obtain⟨q,hq,hqn,_⟩:=find_pos (l:=a) (n:=p.name) (by omega)
    have:=drops_nil hd q hq
    rw[hqn] at this;exact this e
  rw[h1,List.nil_append]
  refine first_gone (f:=addOf a) (g:=addOf (applied a o)) (n:=o.name) (fun q s hs=>(addOf_name q s hs).1) hb.rise (fun q hq hn=> ?_) (fun q hq hn=> ?_) h rfl
  ·unfold addOf;rw[hf,if_neg hn]
  ·unfold addOf;rw[hf,if_pos hn,if_pos (find_mem hb hq)]
 |cons o' r=>
  rw[hd] at h
  obtain⟨rfl,rfl⟩:o'=o/\r++adds a b=rest:=by simpa using h
  obtain⟨p,hp,he⟩:=List.mem_filterMap.1 (hd▸List.mem_cons_self:o'∈drops a b)
  obtain⟨h1,h2,h3,h4⟩:=dropOf_name p o' he
  have happ:applied a o'=del o'.name a:=by unfold applied;rw[if_pos h2]
  have hdr:drops (applied a o') b=r:=by
   have e1:(del o'.name a).filterMap (dropOf b)=a.filterMap fun q=>if q.name≠o'.name then dropOf b q else none:=by
    unfold del
    generalize a=x
    induction x with
    |nil=>rfl
    |cons q x ih=>
     rw[List.filter_cons]
     by_cases e:q.name=o'.name
     ·rw[if_neg (by simp[e]),ih,List.filterMap_cons_none (by simp[e])]
     ·rw[if_pos (by simp[e])]
      cases hq:dropOf b q with
      |none=>rw[List.filterMap_cons_none hq,List.filterMap_cons_none (by simp[e,hq]),ih]
      |some s=>rw[List.filterMap_cons_some hq,List.filterMap_cons_some (b:=s) (by simp[e,hq]),ih]
   unfold drops
   rw[happ,e1]
   refine first_gone (f:=dropOf b) (n:=o'.name) (fun q s hs=>(dropOf_name q s hs).1) ha.rise (fun q hq hn=> ?_) (fun q hq hn=> ?_) hd rfl
   ·rw[if_pos hn]
   ·rw[if_neg (by simp[hn])]
  have had:adds (applied a o') b=adds a b:=by
   unfold adds
   refine filterMap_congr' fun q hq=> ?_
   have hne:q.name≠o'.name:=fun e=>by
    have:=hb.name hq
    rw[←e] at h1
    rw[←h1,find_mem hb hq] at h4;omega
   unfold addOf;rw[hf,if_neg hne]
  rw[hdr,had]
theorem diffs_fits{a b:List Pin}(ha:Lk a)(hb:Lk b)(ha12:a.length<=12)(hb12:b.length<=12){o:Step}{rest:List Step}(h:diffs a b=o::rest):applyErr a o=0/\(applied a o).length<=12:=by
 have hok:=diffs_mem ha hb (h▸List.mem_cons_self:o∈diffs a b)
 obtain⟨hL,hf⟩:=hok.applied ha hb
 have hg:=hok.good hb
 have hlen:(applied a o).length<=12/\(o.kind=1->a.length+1<=(applied a o).length):=by
  rcases hok.kind with⟨h1,h2,h3⟩|⟨h1,h2,h3⟩|⟨h1,h2,h3⟩
  ·refine⟨?_,by omega⟩
   unfold applied;rw[if_pos h1]
   have:=List.length_filter_le (fun p:Pin=>p.name≠o.name) a
   unfold del;omega
  ·have hdn:drops a b=[]:=by
    cases hd:drops a b with
    |nil=>rfl
    |cons o' r=>
     obtain⟨p,hp,he⟩:=List.mem_filterMap.1 (hd▸List.mem_cons_self:o'∈drops a b)
     have:=dropOf_name p o' he
     unfold diffs at h
     rw[hd] at h
     obtain⟨rfl,_⟩:o'=o/\r++adds a b=rest:=by simpa using h
     omega
   have h5:=names_len hL hb fun p hp=>by
    by_cases e:p.name=o.name
    ·rw[e];exact h3
    ·have hm:=hL.name hp
     have:=hf p.name
     rw[find_mem hL hp,if_neg e] at this
     obtain⟨q,hq,hqn,_⟩:=find_pos (l:=a) (n:=p.name) (by omega)
     have:=drops_nil hdn q hq
     rw[hqn] at this;exact this
   refine⟨by omega,fun _=> ?_⟩
   unfold applied;rw[if_neg (by omega)]
   have:∀ {l:List Pin},find l o.name=0->(∀p∈l,p.ver≠0)->(up o.name o.ver l).length=l.length+1:=by
    intro l
    induction l with
    |nil=>intro _ _;rfl
    |cons p r ih=>
     intro h hv
     rw[find] at h
     have hp:=hv p List.mem_cons_self
     by_cases e:p.name=o.name
     ·rw[if_pos e] at h;exact absurd h hp
     ·rw[if_neg e] at h
      unfold up
      split
      ·simp
      ·simp[ih h fun q hq=>hv q (List.mem_cons_of_mem _ hq)]
   rw[this h2 fun p hp=>by have:=ha.name hp;omega]
   exact Nat.le_refl _
  ·refine⟨?_,by omega⟩
   have h5:=names_len hL ha fun p hp=>by
    by_cases e:p.name=o.name
    ·rw[e];exact h2
    ·have hm:=hL.name hp
     have:=hf p.name
     rw[find_mem hL hp,if_neg e] at this
     omega
   omega
 refine⟨?_,hlen.1⟩
 unfold applyErr
 rw[if_neg (by simp[lockCheck_zero.2 ⟨ha,ha12⟩]),if_neg (by omega),if_neg hg.1]
 rcases hok.kind with⟨h1,h2,h3⟩|⟨h1,h2,h3⟩|⟨h1,h2,h3⟩
 ·rw[if_neg (by omega),if_neg (by omega),if_neg (by omega)]
 ·rw[if_neg (by omega),if_neg (by omega),if_neg (by have:=hlen.2 h1;omega)]
 ·rw[if_neg (by omega),if_neg (by omega),if_neg (by omega)]
theorem diffs_names{a b:List Pin}(ha:Lk a)(hb:Lk b):((diffs a b).map Step.name).Nodup:=by
 have hsub:∀(f:Pin->Option Step),(∀q s,f q=some s->s.name=q.name)->∀ {l:List Pin},l.Pairwise (fun p q=>p.name<q.name)->((l.filterMap f).map Step.name).Nodup/\∀s∈l.filterMap f,∃p∈l,p.name=s.name:=by
  intro f hf l hl
  refine⟨?_,fun s hs=>by obtain⟨p,hp,he⟩:=List.mem_filterMap.1 hs;exact⟨p,hp,(hf p s he).symm⟩⟩
  induction l with
  |nil=>exact List.nodup_nil
  |cons q r ih=>
   obtain⟨hq,hr⟩:=List.pairwise_cons.1 hl
   cases h:f q with
   |none=>rw[List.filterMap_cons_none h];exact ih hr
   |some s=>
    rw[List.filterMap_cons_some h,List.map_cons,List.nodup_cons]
    refine⟨fun hm=> ?_,ih hr⟩
    obtain⟨t,ht,he⟩:=List.mem_map.1 hm
    obtain⟨p,hp,h2⟩:=List.mem_filterMap.1 ht
    have:=hq p hp
    have e1:=hf q s h
    have e2:=hf p t h2
    omega
 unfold diffs
 rw[List.map_append,List.nodup_append]
 refine⟨(hsub _ (fun q s h=>(dropOf_name q s h).1) ha.rise).1,(hsub _ (fun q s h=>(addOf_name q s h).1) hb.rise).1,fun x hx y hy=> ?_⟩
 rintro rfl
 obtain⟨s,hs,rfl⟩:=List.mem_map.1 hx
 obtain⟨t,ht,he⟩:=List.mem_map.1 hy
 obtain⟨p,hp,h1⟩:=List.mem_filterMap.1 hs
 obtain⟨q,hq,h2⟩:=List.mem_filterMap.1 ht
 have e1:=dropOf_name p s h1
 have e2:=addOf_name q t h2
 have:=hb.name hq
 have h3:=find_mem hb hq
 rw[←e2.1,he,e1.1,e1.2.2.2] at h3
 omega
def between(ops:List Step)(l:List Pin):Int->List Pin->Int
 |k,now=>match ops with
  | []=>if now=l then k else-1
  |o::r=>if now=l then k else between r l (k+1) (applied now o)
theorem diffErr_zero{a b:List Pin} :diffErr a b=0↔(Lk a/\a.length<=12)/\(Lk b/\b.length<=12):=by
 unfold diffErr
 rw[←lockCheck_zero,←lockCheck_zero]
 split<;>rename_i h<;>simp[h]
theorem applyErr_zero{l:List Pin}{o:Step}(h:applyErr l o=0):(Lk l/\l.length<=12)/\1<=o.kind/\o.kind<=3/\¬badStep o/\(o.kind=1->find l o.name=0/\l.length<12)/\(o.kind≠1->find l o.name≠0):=by
 unfold applyErr at h
 split at h
 ·omega
 ·rename_i h1
  have h1:lockCheck l=0:=Decidable.not_not.1 h1
  have h0:=lockCheck_zero.1 h1
  split at h
  ·omega
  ·split at h
   ·omega
   ·split at h
    ·omega
    ·split at h
     ·omega
     ·split at h
      ·omega
      ·exact⟨h0,by omega,by omega,by assumption,fun h=>by omega,fun h=>by omega⟩
theorem applied_ok{l:List Pin}{o:Step}(h:applyErr l o=0):Lk (applied l o)/\(applied l o).length<=12/\∀m,find (applied l o) m=if m=o.name then o.ver else find l m:=by
 obtain⟨⟨hl,hl12⟩,h1,h2,h3,h4,h5⟩:=applyErr_zero h
 unfold badStep at h3
 have hL:Lk (applied l o):=by
  unfold applied
  split
  ·exact hl.del _
  ·exact hl.up (by omega) (by omega)
 have hf:∀m,find (applied l o) m=if m=o.name then o.ver else find l m:=fun m=>applied_find hl o m (by omega)
 refine⟨hL,?_,hf⟩
 by_cases e:o.kind=1
 ·have:∀(l:List Pin),(up o.name o.ver l).length<=l.length+1:=by
   intro l
   induction l with
   |nil=>simp[up]
   |cons p r ih=>
    unfold up
    split
    ·split<;>simp
    ·simp;omega
  have:=this l
  have:=h4 e
  unfold applied;rw[if_neg (by omega)];omega
 ·have:=names_len hL hl fun p hp=>by
   have hm:=hL.name hp
   have:=hf p.name
   rw[find_mem hL hp] at this
   by_cases e2:p.name=o.name
   ·rw[e2];exact h5 e
   ·rw[if_neg e2] at this;omega
  omega
theorem undone{l:List Pin}{o:Step}(h:applyErr l o=0):(diffs (applied l o) l).length<=1:=by
 obtain⟨hL,_,hf⟩:=applied_ok h
 have hl:=(applyErr_zero h).1.1
 have hall:∀s∈diffs (applied l o) l,s.name=o.name:=fun s hs=>by
  have:=(diffs_mem hL hl hs).differs
  rw[hf] at this
  by_cases e:s.name=o.name
  ·exact e
  ·rw[if_neg e] at this;exact absurd rfl this
 have hnd:=diffs_names hL hl
 match hd:diffs (applied l o) l,hall,hnd with
 | [],_,_=>simp
 | [s],_,_=>simp
 |s::t::r,hall,hnd=>
  have h1:=hall s List.mem_cons_self
  have h2:=hall t (List.mem_cons_of_mem _ List.mem_cons_self)
  simp at hnd
  exact absurd (h1.trans h2.symm) hnd.1.1
def countUp:Nat->Int->List Int
 |0,_=>[]
 |k+1,n=>n::countUp k (n+1)
theorem countUp_spec{f:Pin->Option Step}{g:Int->Option Step} :∀(k:Nat)(n:Int) {l:List Pin},Lk l->(∀p∈l,n<=p.name/\p.name<n+k)->(∀m,n<=m->g m=if find l m=0 then none else f ⟨m,find l m⟩)->(countUp k n).filterMap g=l.filterMap f
 |0,n,[],_,_,_=>rfl
 |0,n,p::r,_,h,_=>by have:=h p List.mem_cons_self;omega
 |k+1,n,[],hl,_,hg=>by
  have:=countUp_spec (f:=f) (g:=g) k (n+1) hl (by simp) fun m hm=>hg m (by omega)
  unfold countUp
  rw[List.filterMap_cons_none (by rw[hg n (Int.le_refl n)];rfl),this]
 |k+1,n,p::r,hl,h,hg=>by
  have hp:=h p List.mem_cons_self
  have hn:=hl.name (p:=p) List.mem_cons_self
  unfold countUp
  by_cases e:p.name=n
  ·have ih:=countUp_spec (f:=f) (g:=g) k (n+1) hl.tail (fun q hq=>by have:=hl.head q hq;have:=h q (List.mem_cons_of_mem _ hq);omega) fun m hm=>by
    have hfm:find (p::r) m=find r m:=by rw[find,if_neg (by omega)]
    rw[hg m (by omega),hfm]
   have hgn:=hg n (Int.le_refl n)
   rw[find,if_pos e,if_neg (by omega)] at hgn
   have hpe:(⟨n,p.ver⟩:Pin)=p:=by cases p;simp at e;subst e;rfl
   rw[hpe] at hgn
   cases hf:f p with
   |none=>rw[List.filterMap_cons_none (hgn.trans hf),List.filterMap_cons_none hf,ih]
   |some s=>rw[List.filterMap_cons_some (hgn.trans hf),List.filterMap_cons_some hf,ih]
  ·have ih:=countUp_spec (f:=f) (g:=g) k (n+1) hl (fun q hq=>by
    have:=h q hq
    rcases List.mem_cons.1 hq with rfl|hq
    ·omega
    ·have:=hl.head q hq;omega) fun m hm=>hg m (by omega)
   have hne:∀q∈p::r,q.name≠n:=fun q hq=>by
    rcases List.mem_cons.1 hq with rfl|hq
    ·exact e
    ·have:=hl.head q hq;omega
   rw[List.filterMap_cons_none (by rw[hg n (Int.le_refl n),if_pos (find_none hne)]),ih]
def rDrop(a b:List Pin)(n:Int):Option Step:=if find a n=find b n then none else if find b n=0 then some ⟨2,n,0⟩ else none
def rRest(a b:List Pin)(n:Int):Option Step:=if find a n=find b n then none else if find b n=0 then none else if find a n=0 then some ⟨1,n,find b n⟩ else some ⟨3,n,find b n⟩
theorem rDrop_all{a b:List Pin}(ha:Lk a):(countUp 21 0).filterMap (rDrop a b)=drops a b:=
 countUp_spec 21 0 ha (fun p hp=>by have:=ha.name hp;omega) fun m _=>by
  unfold rDrop dropOf
  by_cases h1:find a m=0
  ·rw[if_pos h1,h1];split
   ·rfl
   ·rw[if_neg (by omega)]
  ·rw[if_neg h1];split
   ·rw[if_neg (by simp;omega)]
   ·rfl
theorem rRest_all{a b:List Pin}(hb:Lk b):(countUp 21 0).filterMap (rRest a b)=adds a b:=
 countUp_spec 21 0 hb (fun p hp=>by have:=hb.name hp;omega) fun m _=>by
  unfold rRest addOf
  by_cases h1:find b m=0
  ·rw[if_pos h1,if_pos h1];split<;>rfl
  ·rw[if_neg h1,if_neg h1]
theorem tab_applied{l:List Pin}(hl:Lk l){o:Step}(hn:1<=o.name/\o.name<=20)(hk:o.kind=2->o.ver=0):(tabI l).set o.name.toNat o.ver=tabI (applied l o):=by
 apply List.ext_getElem?
 intro i
 by_cases hi:i<21
 ·rw[tabI_at _ hi,List.getElem?_set,applied_find hl o _ hk]
  split
  ·rename_i e
   rw[if_pos (by simp[tabI];omega),if_pos (by omega)]
  ·rw[tabI_at _ hi,if_neg (by omega)]
 ·rw[List.getElem?_eq_none (by simp[tabI];omega),List.getElem?_eq_none (by simp[tabI];omega)]
open Go
def inR(n a b:Int):Bool:=decide (a<=n/\n<=b)
def waveIn(k:Int):List Int->List Int->Except Int (List Int)
 |seen,[]=> .ok seen
 |seen,a::r=>if a<0 then .error 5 else if k<=a then .error 5 else if a∈seen then .error 6 else waveIn k (seen++[a]) r
def waveAll(k:Int):List Int->List (List Int)->Int
 |seen,[]=>if(seen.length:Int)<k then 4 else 0
 |seen,w::r=>if w=[] then 4 else match waveIn k seen w with| .error e=>e| .ok s=>waveAll k s r
def waveCheck(l:List (List Int))(k:Int):Int:=if k<1 then 3 else if 6<k then 3 else waveAll k [] l
def refWaveAll(k:Int):List Int->List (List Int)->Int
 |seen,[]=>if(seen.length:Int)=k then 0 else 4
 |seen,w::r=>if w=[] then 4 else match waveIn k seen w with| .error e=>e| .ok s=>refWaveAll k s r
def refWaveCheck(l:List (List Int))(k:Int):Int:=if inR k 1 6=false then 3 else refWaveAll k [] l
def WOk(k:Int)(s:List Int):Prop:=s.Nodup/\∀a∈s,0<=a/\a<k
theorem wok_nil(k:Int):WOk k []:=⟨List.nodup_nil,by simp⟩
theorem wok_snoc{k:Int}{s:List Int}(h:WOk k s){a:Int}(h0:0<=a)(h1:a<k)(hn:a∉s):WOk k (s++[a]):=by
 refine⟨?_,fun b hb=> ?_⟩
 ·rw[List.nodup_append]
  refine⟨h.1,by simp,fun x hx y hy=> ?_⟩
  simp at hy;subst hy;rintro rfl;exact hn hx
 ·rw[List.mem_append] at hb
  rcases hb with hb|hb
  ·exact h.2 b hb
  ·simp at hb;subst hb;exact⟨h0,h1⟩
theorem nodup_len:∀(n:Nat)(s:List Int),s.Nodup->(∀a∈s,0<=a/\a<n)->s.length<=n
 |0,s,_,h=>by
  cases s with
  |nil=>simp
  |cons a r=>have:=h a List.mem_cons_self;omega
 |n+1,s,hn,h=>by
  by_cases hm:(n:Int)∈s
  ·have h1:=List.length_erase_of_mem hm
   have h2:=nodup_len n (s.erase n) (hn.erase _) (fun a ha=>by
    rw[hn.mem_erase_iff] at ha
    have:=h a ha.2
    have:=ha.1
    omega)
   have h3:0<s.length:=List.length_pos_of_mem hm
   omega
  ·have h2:=nodup_len n s hn (fun a ha=>by
    have:=h a ha
    have:a≠n:=by rintro rfl;exact hm ha
    omega)
   omega
theorem WOk.len{k:Int}{s:List Int}(h:WOk k s)(hk:0<=k):(s.length:Int)<=k:=by
 have:=nodup_len k.toNat s h.1 (fun a ha=>by have:=h.2 a ha;omega)
 omega
theorem waveIn_ok{k:Int} :∀(w:List Int) {s s':List Int},WOk k s->waveIn k s w= .ok s'->s'=s++w/\WOk k s'
 | [],s,s',h,e=>by simp[waveIn] at e;subst e;simp[h]
 |a::r,s,s',h,e=>by
  unfold waveIn at e
  split at e
  ·cases e
  ·split at e
   ·cases e
   ·split at e
    ·cases e
    ·rename_i h0 h1 h2
     obtain⟨e1,e2⟩:=waveIn_ok r (wok_snoc h (by omega) (by omega) h2) e
     exact⟨by rw[e1];simp,e2⟩
theorem waveAll_ref{k:Int}(hk:0<=k):∀(l:List (List Int)) {s:List Int},WOk k s->waveAll k s l=refWaveAll k s l
 | [],s,h=>by
  have:=h.len hk
  unfold waveAll refWaveAll
  split<;>split<;>first|rfl|omega
 |w::r,s,h=>by
  unfold waveAll refWaveAll
  split
  ·rfl
  ·cases e:waveIn k s w with
   |error x=>rfl
   |ok s'=>exact waveAll_ref hk r (waveIn_ok w h e).2
theorem waveCheck_ref(l:List (List Int))(k:Int):waveCheck l k=refWaveCheck l k:=by
 unfold waveCheck refWaveCheck inR
 by_cases h1:k<1
 ·rw[if_pos h1,if_pos (by simp;omega)]
 ·by_cases h2:6<k
  ·rw[if_neg h1,if_pos h2,if_pos (by simp;omega)]
  ·rw[if_neg h1,if_neg h2,if_neg (by simp;omega)]
   exact waveAll_ref (by omega) l (wok_nil k)
theorem waveAll_zero{k:Int}(hk:0<=k):∀(l:List (List Int)) {s:List Int},WOk k s->waveAll k s l=0->WOk k (s++l.flatten)/\((s++l.flatten).length:Int)=k/\∀w∈l,w≠[]
 | [],s,h,e=>by
  unfold waveAll at e
  split at e
  ·omega
  ·have:=h.len hk
   simp only[List.flatten_nil,List.append_nil]
   exact⟨h,by omega,by simp⟩
 |w::r,s,h,e=>by
  unfold waveAll at e
  split at e
  ·omega
  ·rename_i hw
   cases e2:waveIn k s w with
   |error x=>
    rw[e2] at e
    simp only at e
    exfalso
    clear hk
    induction w generalizing s with
    |nil=>simp[waveIn] at e2
    |cons a q ih=>
     unfold waveIn at e2
     split at e2
     ·cases e2;omega
     ·split at e2
      ·cases e2;omega
      ·split at e2
       ·cases e2;omega
       ·rename_i h0 h1 h2
        by_cases hq:q=[]
        ·subst hq;simp[waveIn] at e2
        ·exact ih _ (wok_snoc h (by omega) (by omega) h2) hq e2
   |ok s'=>
    rw[e2] at e
    obtain⟨e3,e4⟩:=waveIn_ok w h e2
    obtain⟨a1,a2,a3⟩:=waveAll_zero hk r e4 e
    subst e3
    rw[List.flatten_cons,←List.append_assoc]
    exact⟨a1,a2,fun x hx=>by
     rcases List.mem_cons.1 hx with rfl|hx
     ·exact hw
     ·exact a3 x hx⟩
theorem nodup_full:∀(n:Nat)(s:List Int),s.Nodup->(∀a∈s,0<=a/\a<n)->s.length=n->∀a:Int,0<=a->a<n->a∈s:=by
 intro n s hn h hl a h0 h1
 by_cases hm:a∈s
 ·exact hm
 ·have:=nodup_len n (a::s) (List.nodup_cons.2 ⟨hm,hn⟩) (fun b hb=>by
   rcases List.mem_cons.1 hb with rfl|hb
   ·exact⟨h0,h1⟩
   ·exact h b hb)
  simp at this
  omega
theorem waveCheck_zero{l:List (List Int)}{k:Int}(h:waveCheck l k=0):1<=k/\k<=6/\l.flatten.Nodup/\(∀a:Int,a∈l.flatten↔0<=a/\a<k)/\∀w∈l,w≠[]:=by
 unfold waveCheck at h
 split at h
 ·omega
 ·split at h
  ·omega
  ·obtain⟨h1,h2,h3⟩:=waveAll_zero (by omega) l (wok_nil k) h
   simp only[List.nil_append] at h1 h2
   refine⟨by omega,by omega,h1.1,fun a=>⟨h1.2 a,fun⟨ha,hb⟩=> ?_⟩,h3⟩
   exact nodup_full k.toNat _ h1.1 (fun b hb=>by have:=h1.2 b hb;omega) (by omega) a ha (by omega)

def waveOfFrom(a:Int):Int->List (List Int)->Int
 |_,[]=> -1
 |i,w::r=>if a∈w then i else waveOfFrom a (i+1) r
def waveOf(l:List (List Int))(a:Int):Int:=waveOfFrom a 0 l
theorem waveOfFrom_spec(a:Int):∀(l:List (List Int))(i:Int),(waveOfFrom a i l= -1/\a∉l.flatten)∨ ∃(j:Nat)(w:List Int),waveOfFrom a i l=i+j/\l[j]?=some w/\a∈w/\∀(m:Nat)(v:List Int),m<j->l[m]?=some v->a∉v
 | [],i=> .inl ⟨rfl,by simp⟩
 |w::r,i=>by
  unfold waveOfFrom
  by_cases h:a∈w
  ·rw[if_pos h]
   exact .inr ⟨0,w,by simp,rfl,h,fun m v hm=>by omega⟩
  ·rw[if_neg h]
   rcases waveOfFrom_spec a r (i+1) with⟨h1,h2⟩|⟨j,v,h1,h2,h3,h4⟩
   ·exact .inl ⟨h1,by simp[h];simpa using h2⟩
   ·refine .inr ⟨j+1,v,by rw[h1];omega,h2,h3,fun m u hm hu=> ?_⟩
    cases m with
    |zero=>simp at hu;subst hu;exact h
    |succ m=>exact h4 m u (by omega) hu
def notThrough(th:List Bool)(a:Int):Bool:=th[a.toNat]?==some false
def nowFrom(th:List Bool):Int->List (List Int)->Int
 |i,[]=>i
 |i,w::r=>if w.any (notThrough th) then i else nowFrom th (i+1) r
structure IsNow(l:List (List Int))(th:List Bool)(n:Nat):Prop where
 ahead:∀(i:Nat) w,l[i]?=some w->i<n->∀a∈w,notThrough th a=false
 le:n<=l.length
 here:n<l.length->∃w,l[n]?=some w/\∃a∈w,notThrough th a=true
theorem nowFrom_spec(th:List Bool):∀(l:List (List Int))(i:Int),∃n:Nat,nowFrom th i l=i+n/\IsNow l th n
 | [],i=>⟨0,by simp[nowFrom],⟨fun i w hw h=>by omega,by simp,fun h=>by simp at h⟩⟩
 |w::r,i=>by
  unfold nowFrom
  by_cases h:w.any (notThrough th)=true
  ·rw[if_pos h]
   refine⟨0,by simp,⟨fun i w hw h=>by omega,by omega,fun _=>⟨w,rfl,?_⟩⟩⟩
   simpa using h
  ·rw[if_neg h]
   obtain⟨n,hn,hI⟩:=nowFrom_spec th r (i+1)
   refine⟨n+1,by rw[hn];omega,⟨fun j v hv hj a ha=> ?_,by have:=hI.le;simp;omega,fun hl=> ?_⟩⟩
   ·cases j with
    |zero=>
     simp at hv;subst hv
     cases hx:notThrough th a with
     |false=>rfl
     |true=>exact absurd (List.any_eq_true.2 ⟨a,ha,hx⟩) h
    |succ j=>exact hI.ahead j v (by simpa using hv) (by omega) a ha
   ·simpa using hI.here (by simp at hl;omega)
end Go.Vg
