/- What is proved here: a part of the proof of laws of this seat: what a contract is, how it comes of a condition, contracts of the functions that are reached, the plain laws. -/
import Derived.Test.YtgaegoefbekndaaGreatDoorWB2
import Derived.KernelRfl
import Derived.Laws.Cover2
import Derived.Laws.Cover3
import Derived.Laws.Pointers
import Derived.Laws.Small
import Derived.Laws.StructEq
import Derived.Laws.Tables
import Derived.StillTactics
import Derived.Tactics
import Derived.Tactics2
import Derived.ChangeKeysEq
import Derived.Laws.Strings
import Derived.Lib.Bytealg
set_option linter.unusedSimpArgs false
set_option linter.unusedVariables false
set_option maxRecDepth 100000
open List.cons renaming inj → yx
open ByteArray renaming size → zp,extract → ye
open Option renaming map → zA
open Classical renaming propDecidable → zh
open Nat renaming zero_add → zS,succ_mul → yz,le_refl → ze
open Bool renaming and_eq_true → zT
open Option.some renaming inj → zy
open Decidable renaming not_not → zx,byContradiction → zC
open List renaming flatMap_cons → yq,mem_cons → zm,mem_cons_of_mem → zj,mem_cons_self → zr,length_eq_zero_iff → yp,mem_of_getElem? → zt,getElem?_eq_some_iff → zw,map_cons → zB,getElem?_map → zP,range → yi,getElem?_set → yh,length_map → ym,replicate → zk,getElem?_eq_getElem → zu,append_nil → zZ,get?Internal → zV,length → zo,toArray → zQ,filterMap_cons_some → zR,filterMap_cons_none → zf,mem_append → zd,flatten_cons → zW,flatMap_append → yd,getElem?_append_right → zY,drop_eq_nil_of_le → zO,take_of_length_le → zg,flatten_append → zI,mem_of_mem_take → zH
open Int renaming toNat_natCast → zz
variable{H H' Hb:Go.Vg.Heap}{a a':Go.Vg.O}{l n l' c' g b p aa sz nn:Nat}{xs ys:List Go.Vg.Pin}{ws:List (List Int)}{ty e:Go.TypeId}{xo yo:Go.Operand}{k v kd nU tr SA oK:Int}{rs:List Go.Vg.km}{t s:ByteArray}{K:Go.Vg.KT}{rp gd Wf CG:Bool}{r:List Go.Value}
namespace Go.Vg
open Go Go.Proofs
theorem uY(n a b:Int):Sp 92 [i64 n,i64 a,i64 b] H fun v _=>v= .bool (me n a b):=by
 refine xY Tryz.func92 (fun _ _=>XF) fun aa hb=>⟨fun h=>?_,fun h=>?_⟩
 ·simp[me,h]
 ·simp[me,h]
def idxFrom(x:Int):Int->List Int->Int
 |_,[]=> -1
 |i,y::r=>if x=y then i else idxFrom x (i+1) r
theorem xf(x:Int):∀(l:List Int)(i:Int),0<=i->(0<=idxFrom x i l↔x∈l)
 | [],i,_=>by simp[idxFrom]
 |y::r,i,h=>by
  unfold idxFrom;split
  ·rename_i e;subst e;simp[h]
  ·rename_i e;rw[xf x r (i+1) (by omega)];simp[e]
theorem Uw{c:Nat}{xs:List Int}(hx:Sl ft 1 H a l xs)(x:Int):Sp 194 [.slice a l c,i64 x] H fun v _=>v=i64 (idxFrom x 0 xs):=by
 refine xY Tryz.func194 (fun _ _=>XG) fun aa hb=>?_;have hle:=hx.le;refine⟨fun vs _=>∃(d:Int)(k:Nat),vs=[i64 d,i64 k]/\k<=l/\idxFrom x k (xs.drop k)=idxFrom x 0 xs,aN l 1,⟨0,0,rfl,by omega,rfl⟩,fun d n H' hN hI=>?_⟩;obtain⟨d',k,cv,hk,hI⟩:=hI;obtain⟨rfl,rfl⟩:d=d'/\n=(k:Int):=by simpa using cv
 refine⟨fun bK=>hx.int hN.ext (by omega) bK fun y hy=>?_,fun gj=>?_⟩
 ·rw[zz] at hy;rw[av hy] at hI;refine⟨fun he=>?_,?_⟩
  ·rw[←hI,idxFrom,pI he]
  ·rintro he r rfl;rw[aj];exact⟨⟨d,k+1,rfl,by omega,by rw[idxFrom,nI he] at hI;exact hI⟩,by simp[aN];omega⟩
 ·rw[←hI,aK hx.len (by omega),idxFrom]
theorem ww{c:Nat}{xs:List Int}(hx:Sl ft 1 H a l xs)(x:Int):Sp 137 [.slice a l c,i64 x] H fun v _=>v= .bool (decide (x∈xs)):=by
 refine xY Tryz.func137 (fun _ _=>XH) fun aa hb=>?_;refine(Uw hx x).bY fun H' _ _=>?_;simp[xf x xs 0 (by omega)]

def seenCells(s:List Int):List Value:=s.flatMap fun x=>[i64 x,.bool true]
theorem CH(s:List Int):(seenCells s).length=2*s.length:=by
 induction s with
 |nil=>rfl
 |cons a r ih=>simp[seenCells] at ih⊢;omega
theorem xg(x:Int):∀s:List Int,ii (.bool false) (.int .i64 x) (seenCells s)=some (.bool (decide (x∈s)),decide (x∈s))
 | []=>by simp[seenCells,ii]
 |y::r=>by
  have ih:=xg x r;simp only[seenCells,yq,List.cons_append,List.nil_append,ii,kq,pI] at ih⊢;by_cases e:y=x
  ·subst e;simp
  ·have e':¬x=y:=fun h=>e h.symm;simp only[e,decide_false,zm,e',false_or];exact ih
theorem xh(x:Int):∀s:List Int,x∉s->bI (.int .i64 x) (.bool true) (seenCells s)=some (seenCells (s++[x]))
 | [],_=>rfl
 |y::r,h=>by
  have ih:=xh x r (fun h'=>h (zj _ h'));have e:¬y=x:=fun h'=>h (h'▸zr);have e':¬x=y:=fun h'=>h (h'▸zr);simp only[seenCells,yq,List.cons_append,List.nil_append,bI,kq,pI,e,e',decide_false] at ih⊢;rw[ih];rfl

abbrev oc(H:Heap)(a:O)(n:Nat)(l:List (List Int)):Prop:=Sl (oX ft 1) 1 H a n l
theorem oc.ext'{l:List (List Int)}(h:oc H a n l)(e:aH H H'):oc H' a n l:=Sl.ext (oX.mono ft.mono) h e
theorem Bp{c:Nat}(hx:oc H a l ws)(k:Int):Sp 187 [.slice a l c,i64 k] H fun v _=>v=i64 (dq ws k):=by
 refine xY Tryz.func187 (fun _ _=>vc26) fun aa hb=>⟨fun h1=>?_,fun h1=>⟨fun h2=>?_,fun h2=>?_⟩⟩
 ·rw[dq,pI h1]
 ·rw[dq,nI h1,pI h2]
 have hW:dq ws k=io k [] ws:=by rw[dq,nI h1,nI h2]
 rw[hW];have hle:=hx.le;intro _;refine⟨fun vs _=>∃(d:Int)(i:Nat)(s:List Int),vs=[i64 d,i64 i,.agg (seenCells s).toArray]/\i<=l/\io k s (ws.drop i)=io k [] ws,aN l 1,⟨0,0,[],rfl,by omega,rfl⟩,fun d n cs H' hN hI=>?_⟩;obtain⟨d',i,s,cv,hi,hI⟩:=hI;obtain⟨rfl,rfl,rfl⟩:d=d'/\n=(i:Int)/\cs=seenCells s:=by simpa using cv
 refine⟨fun bK=>hx.slice hN.ext (by omega) bK fun w a' n' c' hw hs=>?_,fun gj=>?_⟩
 ·rw[zz] at hw;rw[av hw,io] at hI;have Cp:=hs.len;have Ux:=hs.le;refine⟨fun h0=>?_,fun h0=>?_⟩
  ·rw[←hI,pI (yp.1 (by omega))]
  ·rw[nI (by rintro rfl;simp at Cp;omega)] at hI
   refine⟨fun vs _=>∃(d2:Int)(j:Nat)(s':List Int),vs=[i64 d2,i64 j,.agg (seenCells s').toArray]/\j<=n'/\(match iZ k s' (w.drop j) with| .error e=>e| .ok s''=>io k s'' (ws.drop (i+1)))=io k [] ws,
    aN n' 1,⟨_,0,s,rfl,by omega,hI⟩,fun d2 m cs2 H2 dZ kZ=>?_⟩
   obtain⟨d3,j,s',Bq,hj,kZ⟩:=kZ;obtain⟨rfl,rfl,rfl⟩:d2=d3/\m=(j:Int)/\cs2=seenCells s':=by simpa using Bq
   refine⟨fun xZ=>?_,fun Ob=>?_⟩
   ·refine hs.int dZ.ext (by omega) xZ fun x Ie=>?_;rw[zz] at Ie;rw[av Ie,iZ] at kZ;refine⟨fun V1=>?_,fun V1=>⟨fun hhi=>?_,fun hhi=>?_⟩⟩
    ·rw[pI V1] at kZ;rw[←kZ]
    ·rw[nI V1,pI hhi] at kZ;rw[←kZ]
    ·rw[nI V1,nI hhi] at kZ;refine⟨_,_,xg x s',fun hm=>?_,fun hm=>?_⟩
     ·rw[pI (by simpa using hm)] at kZ;rw[←kZ]
     ·have nT:x∉s':=by simpa using hm
      rw[nI nT] at kZ;refine⟨_,xh x s' nT,?_⟩;rintro r rfl;rw[aj];exact⟨⟨_,j+1,s'++[x],rfl,by omega,kZ⟩,by simp[aN];omega⟩
   ·rw[aK Cp (by omega),iZ] at kZ;rintro r rfl;rw[aj];exact⟨⟨_,i+1,s',rfl,by omega,kZ⟩,by simp[aN];omega⟩
 ·rw[aK hx.len (by omega),io] at hI;rw[←hI,CH];refine⟨fun h=>?_,fun h=>?_⟩
  ·rw[pI (by omega)]
  ·rw[nI (by omega)]
theorem wrap_small{n:Int}(h: -100000<=n:=by omega)(h':n<=100000:=by omega):IntKind.wrap .i64 n=n:=aj
theorem CI{c:Nat}(hx:oc H a l ws)(k:Int):Sp 94 [.slice a l c,i64 k] H fun v _=>v=i64 (jl ws k):=by
 refine xY Tryz.func94 (fun _ _=>vc24) fun aa hb=>(uY k 1 6).aO fun H1 e1 fh=>⟨fun h1=>?_,fun h1=>?_⟩
 ·rw[jl,pI h1]
 have hW:jl ws k=fJ k [] ws:=by rw[jl,nI h1]
 rw[hW];have hk:1<=k/\k<=6:=by simpa[me] using h1
 have hle:=hx.le
 refine⟨fun vs Hc=>∃(d:Int)(s:List Int)(a:O)(c i:Nat),vs=[i64 d,.slice a s.length c,i64 i]/\bg aa Hc 3 1 a s.length c (s.map i64)/\Nb k s/\i<=l/\fJ k s (ws.drop i)=fJ k [] ws,
  aN l 2,⟨0,[],none,0,0,rfl,bg.nil,Af k,by omega,rfl⟩,fun d a1 n1 c1 n H2 dZ hI=>?_⟩
 obtain⟨d',s,Kx,Ky,i,cv,hR,eC,hi,hI⟩:=hI;obtain⟨rfl,⟨rfl,rfl,rfl⟩,rfl⟩:d=d'/\(a1=Kx/\n1=s.length/\c1=Ky)/\n=(i:Int):=by simpa using cv
 refine⟨fun bK=>hx.slice dZ.ext (by omega) bK fun w a' n' c' hw hs=>?_,fun gj=>?_⟩
 ·rw[zz] at hw;rw[av hw,fJ] at hI;have Cp:=hs.len;have Ux:=hs.le;refine⟨fun h0=>?_,fun h0=>?_⟩
  ·rw[←hI,pI (yp.1 (by omega))]
  ·rw[nI (by rintro rfl;simp at Cp;omega)] at hI
   refine⟨fun vs Hc=>∃(d:Int)(s:List Int)(a:O)(c j:Nat),vs=[i64 d,.slice a s.length c,i64 j]/\bg aa Hc 3 1 a s.length c (s.map i64)/\Nb k s/\j<=n'/\
     (match iZ k s (w.drop j) with| .error e=>e| .ok s''=>fJ k s'' (ws.drop (i+1)))=fJ k [] ws,
    aN n' 2,⟨_,s,_,_,0,rfl,hR,eC,by omega,hI⟩,fun d2 a2 n2 c2 m H3 fS kZ=>?_⟩
   obtain⟨d3,s',a3,c3,j,Bq,qy,XR,hj,kZ⟩:=kZ;obtain⟨rfl,⟨rfl,rfl,rfl⟩,rfl⟩:d2=d3/\(a2=a3/\n2=s'.length/\c2=c3)/\m=(j:Int):=by simpa using Bq
   refine⟨fun xZ=>hs.int fS.ext (by omega) xZ fun x Ie=>?_,fun Ob=>?_⟩
   ·rw[zz] at Ie;rw[av Ie,iZ] at kZ;rintro r rfl;rw[wrap_small];refine(uY x 0 (k-1)).aO fun H4 e4 iC=>⟨fun h4=>?_,fun h4=>?_⟩
    ·have:¬(0<=x/\x<=k-1):=by simpa[me] using h4
     by_cases c1:x<0
     ·rw[pI c1] at kZ;rw[←kZ]
     ·rw[nI c1,pI (by omega)] at kZ;rw[←kZ]
    ·have h4':0<=x/\x<=k-1:=by simpa[me] using h4
     rw[nI (by omega),nI (by omega)] at kZ;refine(ww (oa (qy.ext e4)) x).aO fun H5 e5 kT=>⟨fun h5=>?_,fun h5=>?_⟩
     ·rw[pI (by simpa using h5)] at kZ;rw[←kZ]
     ·have h5':x∉s':=by simpa using h5
      rw[nI h5'] at kZ;have XS:=Bo XR h4'.1 (by omega) h5';have hl3:=XS.len (by omega);simp at hl3;refine fun _=>⟨s'.map i64,(qy.ext e4).ext e5,by omega,by omega,fun a6 c6 H6 _ Gp=>?_⟩
      rintro r rfl;rw[aj];refine⟨⟨d2,s'++[x],a6,c6,j+1,by simp,?_,XS,by omega,kZ⟩,by simp[aN];omega⟩;simpa using Gp
   ·rw[aK Cp (by omega),iZ] at kZ;rintro r rfl;rw[aj];exact⟨⟨_,s',a2,c2,i+1,rfl,qy,XR,by omega,kZ⟩,by simp[aN];omega⟩
 ·rw[aK hx.len (by omega),fJ] at hI;rw[←hI];refine⟨fun h=>?_,fun h=>?_⟩
  ·rw[nI h]
  ·rw[pI (by omega)]

theorem Q3{c:Nat}(hx:oc H a l ws)(k:Int):Sp 49 [.slice a l c,i64 k] H fun v _=>v=i64 (lB ws k):=by
 have h105:∀ {H:Heap} {a:O} {l c:Nat} {xs:List Int} {p:Nat},Sl ft 1 H a l xs->H.cell p 0=some (i64 k)->Sp 136 [.slice a l c,.pointer (some ⟨p,0,none⟩)] H fun v _=>v= .bool (decide (k∈xs)):=by
  intro H a l c xs p hx hp;refine xY Tryz.func136 (fun _ _=>XI) fun aa hb=>⟨k,hp,(ww hx k).aO fun H' _ _=>rfl⟩
 have h104:∀ {H:Heap} {a:O} {l c:Nat} {ws:List (List Int)} {p:Nat},oc H a l ws->H.cell p 0=some (i64 k)->Sp 135 [.slice a l c,.func (.func 136) #[] #[.pointer (some ⟨p,0,none⟩)]] H fun v _=>v=i64 (lB ws k):=by
  intro H a l c ws p hx hp;refine xY Tryz.func135 (fun _ _=>XJ) fun aa hb=>?_;have hle:=hx.le;refine⟨fun vs _=>∃(d:Int)(i:Nat),vs=[i64 d,i64 i]/\i<=l/\ja k i (ws.drop i)=lB ws k,aN l 1,⟨0,0,rfl,by omega,rfl⟩,fun d n H' hN hI=>?_⟩;obtain⟨d',i,cv,hi,hI⟩:=hI;obtain⟨rfl,rfl⟩:d=d'/\n=(i:Int):=by simpa using cv
  refine⟨fun bK=>hx.slice hN.ext (by omega) bK fun w a' n' c' hw hs=>?_,fun gj=>?_⟩
  ·rw[zz] at hw;rw[av hw,ja] at hI;refine(h105 (hs.ext ft.mono hN.ext) (Heap.aJ hN.ext hp)).aO fun H2 _ _=>⟨fun h=>?_,fun h=>?_⟩
   ·rw[pI (by simpa using h)] at hI;rw[←hI]
   ·rw[nI (by simpa using h)] at hI;rintro r rfl;rw[aj];exact⟨⟨_,i+1,rfl,by omega,hI⟩,by simp[aN];omega⟩
  ·rw[←hI,aK hx.len (by omega),ja]
 refine xY Tryz.func49 (fun aa K=>vc27 a l c k aa H K) fun aa hb=>?_;intro b;refine⟨rfl,fun Hl Ig hb=>?_⟩;refine(h104 (hx.ext' Ig.ext) (p:=b) (by unfold Heap.cell;rw[hb.1];rfl)).mono fun v H2 e2 hv=>⟨_,hv,fun H' hN _=>rfl⟩
def kF(ws:List (List Int))(th:List Bool):Int:=if dq ws th.length=0 then jG th 0 ws else 0
theorem Oc{c:Nat}{th:List Bool}(hx:oc H a l ws)(ht:Sl uT 1 H a' l' th):
  Sp 252 [.slice a l c,.slice a' l' c'] H fun v _=>v= .tuple #[i64 (kF ws th),i64 (dq ws th.length)]:=by
 refine xY Tryz.func252 (fun _ _=>vc23) fun aa hb=>?_;have hle:=hx.le;have Wg:=ht.len;rw[Wg];refine(Bp hx l').bY fun H1 e1 fh=>⟨fun h=>?_,fun h=>?_⟩
 ·rw[kF,Wg,nI h]
 have h:=zx.1 h;obtain⟨k1,k2,Lx,mZ,eE⟩:=fk h;have hW:kF ws th=jG th 0 ws:=by rw[kF,Wg,pI h]
 rw[hW,h];refine⟨fun vs _=>∃(d1 d2:Int)(i:Nat),vs=[i64 d1,i64 d2,i64 i]/\i<=l/\jG th i (ws.drop i)=jG th 0 ws,aN l 2,⟨0,0,0,rfl,by omega,rfl⟩,fun d1 d2 n H' hN hI=>?_⟩;obtain⟨d1',d2',i,cv,hi,hI⟩:=hI;obtain⟨rfl,rfl,rfl⟩:d1=d1'/\d2=d2'/\n=(i:Int):=by simpa using cv
 refine⟨fun bK=>hx.slice hN.ext (by omega) bK fun w b n' d' hw hs=>?_,fun gj=>?_⟩
 ·rw[zz] at hw;rw[av hw,jG] at hI;have Ux:=hs.le
  refine⟨fun vs _=>∃(d1 d2:Int)(j:Nat),vs=[i64 d1,i64 d2,i64 j]/\j<=n'/\(if(w.drop j).any (eT th) then(i:Int) else jG th (i+1) (ws.drop (i+1)))=jG th 0 ws,
   aN n' 2,⟨_,_,0,rfl,by omega,hI⟩,fun e1 e2 m H2 dZ kZ=>?_⟩
  obtain⟨e1',e2',j,Bq,hj,kZ⟩:=kZ;obtain⟨rfl,rfl,rfl⟩:e1=e1'/\e2=e2'/\m=(j:Int):=by simpa using Bq
  refine⟨fun xZ=>hs.int dZ.ext (by omega) xZ fun x Ie=>?_,fun Ob=>?_⟩
  ·rw[zz] at Ie;have XT:=(mZ x).1 (List.mem_flatten.2 ⟨w,zt hw,zt Ie⟩);rw[av Ie,List.any_cons] at kZ;refine ht.bool dZ.ext XT.1 XT.2 fun y hy=>⟨fun h=>?_,fun h=>?_⟩
   ·rw[pI (by simp[eT,hy,h])] at kZ;rw[←kZ]
   ·rintro r rfl;rw[aj];exact⟨⟨_,_,j+1,rfl,by omega,by simpa[eT,hy,h] using kZ⟩,by simp[aN];omega⟩
  ·rw[aK hs.len (by omega),nI (by simp)] at kZ;rintro r rfl;rw[aj];exact⟨⟨_,_,i+1,rfl,by omega,kZ⟩,by simp[aN];omega⟩
 ·rw[←hI,aK hx.len (by omega),jG];rw[show(i:Int)=l from by omega]
theorem xi{xs:List Int}(h:H g=some (ay ty (xs.map i64)))(hn:xs.length=n)(hle:(n:Int)<=9223372036854775807):Sl ft 1 H (some ⟨g,0,none⟩) n xs:=
 Sl.oz (rows:=iK xs) (Has.ub h (by clear h hn;induction xs with|nil=>rfl|cons x r ih=>simp[iK] at ih⊢;exact ih) (by intro r hr;simp[iK] at hr;obtain⟨x,_,rfl⟩:=hr;rfl) (by simp[iK];exact hn) hle) (by simp[iK])
  fun i r x hr hx=>by
   simp[iK] at hr;obtain⟨y,hy,rfl⟩:=hr;rw[hx] at hy;obtain rfl:=zy hy;rfl
open Go Go.Proofs
theorem SB(a b c d:Int):aR Tryz.prog (aI .neq 91 xo yo (.agg #[.int .i64 a,.int .i64 b]) (.agg #[.int .i64 c,.int .i64 d])) (.bool (!(a==c&&b==d))):=by
 intro w;have u3:= Tryz.underlying3;have a3:= Tryz.isAgg3;have z3:= Tryz.sizeOf3;have hS: Tryz.prog.underlying 91=some (.struct (Tryz.prog.fieldsOf 91)):=by kernel_rfl
 have hp: Tryz.prog.stoodInHeld 91=false:=by kernel_rfl
 have hm: Tryz.prog.eqGuardType Tryz.prog.depth 91=false:=by kernel_rfl
 have he:(Op.equalIn 10000 91 (.agg #[.int .i64 a,.int .i64 b]) (.agg #[.int .i64 c,.int .i64 d])).run Tryz.prog w= .ok (a==c&&b==d) w:=by
  rw[show(10000:Nat)=9999+1 from rfl,run_equalIn_agg w 9999 91 _ _ hS hp];simp only[Program.fieldsOf,Tryz.underlying91]
  go_simp
  by_cases h1:a=c<;>by_cases h2:b=d<;>simp[h1,h2]
 simp only[aI,Sem.run_bind,run_eqGuard_agg w _ 91 _ _ _ _ hm,Result.andThen_ok,run_neq_struct,he]
theorem uZ(h: Tryz.prog.underlying ty=some (.slice e)){c:Nat} :aR Tryz.prog (aI .eql ty xo (.const (.slice none 0 0)) (.slice a n c) (.slice none 0 0)) (.bool a.isNone):=by
 intro w;have hg:(eqGuard .eql ty xo (.const (.slice none 0 0)) (.slice a n c) (.slice none 0 0)).run Tryz.prog w= .ok () w:=by simp[eqGuard]
 simp only[aI,Sem.run_bind,hg,Result.andThen_ok];have:=run_equal_slice_nil w ty e a n c h;simp[binOp,this]
theorem jb{a b:Bool} :aR Tryz.prog (aI .eql 4 xo yo (.bool a) (.bool b)) (.bool (a==b)):=by
 intro w;have hg:(eqGuard .eql 4 xo yo (.bool a) (.bool b)).run Tryz.prog w= .ok () w:=by simp[eqGuard]
 simp only[aI,Sem.run_bind,hg,Result.andThen_ok];have:=run_equal_bool w 4 a b Tryz.underlying4;simp[binOp,this]
open Go Go.Proofs
def pb(xs:List Pin):Nat->Int
 |0=>0
 |i+1=>match xs[i]? with|some p=>p.name|none=>0
theorem jc{c:Nat}(hx:aL H a l xs):Sp 140 [.slice a l c] H fun v _=>v=i64 (aZ xs):=by
 refine xY Tryz.func140 (fun _ _=>vc62) fun aa hb=>?_;have hl:=hx.len;refine⟨fun h=>?_,fun h=>?_⟩
 ·rw[aZ,pI (by omega)]
 have hW:aZ xs=gk 0 xs:=by rw[aZ,nI (by omega)]
 rw[hW];refine⟨fun vs _=>∃(d:Int)(i:Nat),vs=[i64 d,i64 i]/\i<=l/\gk (pb xs i) (xs.drop i)=gk 0 xs,aN l 1,⟨0,0,rfl,by omega,rfl⟩,fun d n H' hN hI=>?_⟩;obtain⟨d',i,cv,hi,hI⟩:=hI;obtain⟨rfl,rfl⟩:d=d'/\n=(i:Int):=by simpa using cv
 refine⟨fun bK=>hx.LY hN.ext (by omega) bK fun p hp=>?_,fun gj=>?_⟩
 ·rw[zz] at hp;rw[av hp,gk] at hI;intro _;have jd:pb xs (i+1)=p.name:=by simp[pb,hp]
  refine⟨fun h1=>?_,fun h1=>⟨fun h2=>?_,fun h2=>⟨fun h3=>?_,fun h3=>⟨fun h4=>?_,fun h4=>⟨fun h5=>?_,fun h5=>?_⟩⟩⟩⟩⟩
  ·rw[pI (by unfold gI;omega)] at hI;rw[←hI]
  ·rw[pI (by unfold gI;omega)] at hI;rw[←hI]
  ·rw[pI (by unfold gI;omega)] at hI;rw[←hI]
  ·rw[pI (by unfold gI;omega)] at hI;rw[←hI]
  ·rw[nI (by unfold gI;omega)] at hI;rintro r rfl;rw[wrap_small];refine hx.Kp hN.ext (by omega) (by omega) fun q hq=>?_
   have XU:pb xs i=q.name:=by
    obtain⟨j,rfl⟩:∃j,i=j+1:=⟨i-1,by omega⟩
    rw[show((j+1:Nat):Int)-1=(j:Int) from by omega,zz] at hq;simp[pb,hq]
   rw[XU] at hI;refine⟨fun h6=>?_,fun h6=>?_⟩
   ·rw[pI h6] at hI;rw[←hI]
   ·rw[nI h6] at hI;rintro r rfl;rw[wrap_small];exact⟨⟨_,i+1,rfl,by omega,by rw[jd];exact hI⟩,by simp[aN];omega⟩
  ·rw[nI (by unfold gI;omega)] at hI;obtain rfl:i=0:=by omega
   rw[nI (by simp[pb];omega)] at hI;rintro r rfl;rw[wrap_small];exact⟨⟨_,1,rfl,by omega,by rw[jd];exact hI⟩,by simp[aN];omega⟩
 ·rw[←hI,aK hx.len (by omega),gk]
theorem fX{c:Nat}(hx:aL H a l xs):Sp 159 [.slice a l c] H fun v _=>v=i64 (aZ xs):=by
 refine xY Tryz.func159 (fun _ _=>XK) fun aa hb=>?_;have hl:=hx.len;refine⟨fun h=>?_,fun h=>?_⟩
 ·rw[aZ,pI (by omega)]
 have hW:aZ xs=gk 0 xs:=by rw[aZ,nI (by omega)]
 rw[hW];refine⟨fun vs _=>∃(d m:Int)(i:Nat),vs=[i64 d,i64 m,i64 i]/\i<=l/\gk m (xs.drop i)=gk 0 xs,aN l 2,⟨0,0,0,rfl,by omega,rfl⟩,fun d m n H' hN hI=>?_⟩;obtain⟨d',m',i,cv,hi,hI⟩:=hI;obtain⟨rfl,rfl,rfl⟩:d=d'/\m=m'/\n=(i:Int):=by simpa using cv
 refine⟨fun bK=>hx.LY hN.ext (by omega) bK fun p hp=>?_,fun gj=>?_⟩
 ·rw[zz] at hp;rw[av hp,gk] at hI;intro _;refine(uY _ _ _).aO fun H1 _ _=>⟨fun h1=>?_,fun h1=>(uY _ _ _).aO fun H2 _ _=>⟨fun h2=>?_,fun h2=>⟨fun h3=>?_,fun h3=>?_⟩⟩⟩
  ·have:¬(1<=p.name/\p.name<=20):=by simpa[me] using h1
   rw[pI (by unfold gI;omega)] at hI;rw[←hI]
  ·have:¬(1<=p.fi/\p.fi<=99):=by simpa[me] using h2
   rw[pI (by unfold gI;omega)] at hI;rw[←hI]
  ·have h1':1<=p.name/\p.name<=20:=by simpa[me] using h1
   have Kh:1<=p.fi/\p.fi<=99:=by simpa[me] using h2
   rw[nI (by unfold gI;omega),pI h3] at hI;rw[←hI]
  ·have h1':1<=p.name/\p.name<=20:=by simpa[me] using h1
   have Kh:1<=p.fi/\p.fi<=99:=by simpa[me] using h2
   rw[nI (by unfold gI;omega),nI h3] at hI;rintro r rfl;rw[wrap_small];exact⟨⟨_,_,i+1,rfl,by omega,hI⟩,by simp[aN];omega⟩
 ·rw[←hI,aK hx.len (by omega),gk]
def jN(k:Int):Int->List Pin->Int
 |_,[]=> -1
 |i,p::r=>if p.name=k then i else jN k (i+1) r
theorem rv(k:Int):∀(xs:List Pin)(i:Int),0<=i->(jN k i xs= -1/\find xs k=0/\∀p∈xs,p.name≠k)∨ ∃(j:Nat)(p:Pin),jN k i xs=i+j/\xs[j]?=some p/\find xs k=p.fi/\p.name=k
 | [],i,_=> .inl ⟨rfl,rfl,by simp⟩
 |p::r,i,hi=>by
  unfold jN;by_cases e:p.name=k
  ·rw[pI e];exact .inr ⟨0,p,by simp,rfl,by rw[find,pI e],e⟩
  ·rw[nI e];rcases rv k r (i+1) (by omega) with⟨h1,h2,h3⟩|⟨j,q,h1,h2,h3,h4⟩
   ·exact .inl ⟨h1,by rw[find,nI e,h2],fun q hq=>by rcases zm.1 hq with rfl|hq;exact e;exact h3 q hq⟩
   ·exact .inr ⟨j+1,q,by rw[h1];omega,by simpa using h2,by rw[find,nI e,h3],h4⟩
theorem Q4{c:Nat}(hx:aL H a l xs)(hp:H.cell p 0=some (i64 k)):
  Sp 147 [.slice a l c,.func (.func 148) #[] #[.pointer (some ⟨p,0,none⟩)]] H fun v _=>v=i64 (jN k 0 xs):=by
 have h114:∀ {H:Heap} {n v:Int},H.cell p 0=some (i64 k)->Sp 148 [.agg #[.int .i64 n,.int .i64 v],.pointer (some ⟨p,0,none⟩)] H fun r _=>r= .bool (decide (n=k)):=by
  intro H n v hp;refine xY Tryz.func148 (fun _ _=>XL) fun aa hb=>?_;intro _;exact⟨k,hp,rfl⟩
 refine xY Tryz.func147 (fun _ _=>XM) fun aa hb=>?_;have hle:=hx.le;refine⟨fun vs _=>∃(d:Int)(i:Nat),vs=[i64 d,i64 i]/\i<=l/\jN k i (xs.drop i)=jN k 0 xs,aN l 1,⟨0,0,rfl,by omega,rfl⟩,fun d n H' hN hI=>?_⟩;obtain⟨d',i,cv,hi,hI⟩:=hI;obtain⟨rfl,rfl⟩:d=d'/\n=(i:Int):=by simpa using cv
 refine⟨fun bK=>hx.LY hN.ext (by omega) bK fun q hq=>?_,fun gj=>?_⟩
 ·rw[zz] at hq;rw[av hq,jN] at hI;refine(h114 (Heap.aJ hN.ext hp)).aO fun H2 _ _=>⟨fun h=>?_,fun h=>?_⟩
  ·rw[pI (by simpa using h)] at hI;rw[←hI]
  ·rw[nI (by simpa using h)] at hI;rintro r rfl;rw[aj];exact⟨⟨_,i+1,rfl,by omega,hI⟩,by simp[aN];omega⟩
 ·rw[←hI,aK hx.len (by omega),jN]
theorem Kz{c:Nat}(hx:aL H a l xs)(k:Int):Sp 75 [.slice a l c,i64 k] H fun v _=>v=i64 (find xs k):=by
 refine xY Tryz.func75 (fun _ _=>vc42) fun aa hb=>?_;intro b;refine⟨rfl,fun Hl Ig hb=>?_⟩;refine(Q4 (hx.ext' Ig.ext) (k:=k) (p:=b) (by unfold Heap.cell;rw[hb.1];rfl)).mono fun v H2 e2 hv=>⟨_,hv,fun H' hN _=>?_⟩
 rcases rv k xs 0 (by omega) with⟨h1,h2,_⟩|⟨j,p,h1,h2,h3,_⟩
 ·rw[h1,h2];exact⟨fun _=>rfl,fun h=>absurd (by omega) h⟩
 ·rw[h1];have hj:=(zw.1 h2).1;have hl:=hx.len;refine⟨fun h=>by omega,fun _=>hx.Um hN.ext (by omega) (by omega) fun q hq=>?_⟩;rw[show(0+(j:Int)).toNat=j from by omega,h2] at hq;obtain rfl:=zy hq;rw[h3]
theorem KA{x y n:Int}{k:Nat}(hk:k<2)(h:n=if k=0 then x else y):([Value.int .i64 x,Value.int .i64 y]:List Value)[k*1]?=some (.int .i64 n):=by
 subst h
 match k,hk with
 |0,_=>rfl
 |1,_=>rfl
theorem I9{c:Nat}(hx:ob H a l rs):Sp 222 [.slice a l c] H fun v _=>v=i64 (eS rs):=by
 refine xY Tryz.func222 (fun _ _=>vc39) fun aa hb=>?_;have hl:=hx.len;refine⟨fun h=>?_,fun h=>?_⟩
 ·rw[eS,pI (by omega)]
 have hW:eS rs=eR rs:=by rw[eS,nI (by omega)]
 rw[hW];refine⟨fun vs _=>∃(d:Int)(i:Nat),vs=[i64 d,i64 i]/\i<=l/\eR (rs.drop i)=eR rs,aN l 1,⟨0,0,rfl,by omega,rfl⟩,fun d n H' hN hI=>?_⟩;obtain⟨d',i,cv,hi,hI⟩:=hI;obtain⟨rfl,rfl⟩:d=d'/\n=(i:Int):=by simpa using cv
 refine⟨fun bK=>hx.LZ hN.ext (by omega) bK fun p hp=>?_,fun gj=>?_⟩
 ·rw[zz] at hp;rw[av hp,eR] at hI;intro _;refine⟨fun vs _=>∃(d:Int)(j:Nat),vs=[i64 d,i64 j]/\j<=2/\(0<j->1<=p.name/\p.name<=20)/\(1<j->1<=p.uW/\p.uW<=20),aN 2 1,⟨_,0,rfl,by omega,by omega,by omega⟩,fun d2 m H2 dZ kZ=>?_⟩;obtain⟨d3,j,Bq,hj,QQ,Sk⟩:=kZ;obtain⟨rfl,rfl⟩:d2=d3/\m=(j:Int):=by simpa using Bq
  refine⟨fun xZ=>⟨by omega,xZ,(if j=0 then p.name else p.uW),?_,fun g1=>?_,fun g1=>⟨fun g2=>?_,fun g2=>?_⟩⟩,fun Ob=>?_⟩
  ·rw[zz];exact KA (by omega) rfl
  ·rw[pI (by unfold fR;split at g1<;>omega)] at hI;rw[←hI]
  ·rw[pI (by unfold fR;split at g2<;>omega)] at hI;rw[←hI]
  ·rintro r rfl;rw[wrap_small];refine⟨rfl,⟨_,j+1,rfl,by omega,fun _=>?_,fun _=>?_⟩,by simp[aN];omega⟩
   ·by_cases e:j=0
    ·subst e;simp at g1 g2;omega
    ·exact QQ (by omega)
   ·have e:j≠0:=by omega
    simp[e] at g1 g2;omega
  ·obtain rfl:j=2:=by omega
   have k0:=QQ (by omega);have k1:=Sk (by omega);refine⟨fun vs _=>∃(d:Int)(j:Nat),vs=[i64 d,i64 j]/\j<=2/\(0<j->1<=p.fi/\p.fi<=99)/\(1<j->1<=p.least/\p.least<=99),aN 2 1,⟨_,0,rfl,by omega,by omega,by omega⟩,fun d2 m H2 dZ kZ=>?_⟩;obtain⟨d3,j,Bq,hj,QQ,Sk⟩:=kZ;obtain⟨rfl,rfl⟩:d2=d3/\m=(j:Int):=by simpa using Bq
   refine⟨fun xZ=>⟨by omega,xZ,(if j=0 then p.fi else p.least),?_,fun g1=>?_,fun g1=>⟨fun g2=>?_,fun g2=>?_⟩⟩,fun Ob=>?_⟩
   ·rw[zz];exact KA (by omega) rfl
   ·rw[pI (by unfold fR;split at g1<;>omega)] at hI;rw[←hI]
   ·rw[pI (by unfold fR;split at g2<;>omega)] at hI;rw[←hI]
   ·rintro r rfl;rw[wrap_small];refine⟨rfl,⟨_,j+1,rfl,by omega,fun _=>?_,fun _=>?_⟩,by simp[aN];omega⟩
    ·by_cases e:j=0
     ·subst e;simp at g1 g2;omega
     ·exact QQ (by omega)
    ·have e:j≠0:=by omega
     simp[e] at g1 g2;omega
   ·obtain rfl:j=2:=by omega
    have k2:=QQ (by omega);have k3:=Sk (by omega);rw[nI (by unfold fR;omega)] at hI;refine⟨fun h=>?_,fun h=>?_⟩
    ·rw[pI h] at hI;rw[←hI]
    ·rw[nI h] at hI;rintro r rfl;rw[wrap_small];exact⟨⟨_,i+1,rfl,by omega,hI⟩,by simp[aN];omega⟩
 ·rw[←hI,aK hx.len (by omega),eR]
theorem CJ{c:Nat}(hx:ob H a l rs):Sp 181 [.slice a l c] H fun v _=>v=i64 (eS rs):=by
 refine xY Tryz.func181 (fun _ _=>vc40) fun aa hb=>?_;have hl:=hx.len;refine⟨fun h=>?_,fun h=>?_⟩
 ·rw[eS,pI (by omega)]
 have hW:eS rs=eR rs:=by rw[eS,nI (by omega)]
 rw[hW];refine⟨fun vs _=>∃(d:Int)(i:Nat),vs=[i64 d,i64 i]/\i<=l/\eR (rs.drop i)=eR rs,aN l 1,⟨0,0,rfl,by omega,rfl⟩,fun d n H' hN hI=>?_⟩;obtain⟨d',i,cv,hi,hI⟩:=hI;obtain⟨rfl,rfl⟩:d=d'/\n=(i:Int):=by simpa using cv
 refine⟨fun bK=>hx.LZ hN.ext (by omega) bK fun p hp=>?_,fun gj=>?_⟩
 ·rw[zz] at hp;rw[av hp,eR] at hI;intro _;refine(uY _ _ _).aO fun H1 _ _=>⟨fun h1=>?_,fun h1=>(uY _ _ _).aO fun H2 _ _=>⟨fun h2=>?_,fun h2=>(uY _ _ _).aO fun H3 _ _=>⟨fun h3=>?_,fun h3=>(uY _ _ _).aO fun H4 _ _=>⟨fun h4=>?_,fun h4=>?_⟩⟩⟩⟩
  ·have:¬(1<=p.name/\p.name<=20):=by simpa[me] using h1
   rw[pI (by unfold fR;omega)] at hI;rw[←hI]
  ·have:¬(1<=p.uW/\p.uW<=20):=by simpa[me] using h2
   rw[pI (by unfold fR;omega)] at hI;rw[←hI]
  ·have:¬(1<=p.fi/\p.fi<=99):=by simpa[me] using h3
   rw[pI (by unfold fR;omega)] at hI;rw[←hI]
  ·have:¬(1<=p.least/\p.least<=99):=by simpa[me] using h4
   rw[pI (by unfold fR;omega)] at hI;rw[←hI]
  ·have h1':1<=p.name/\p.name<=20:=by simpa[me] using h1
   have Kh:1<=p.uW/\p.uW<=20:=by simpa[me] using h2
   have W1:1<=p.fi/\p.fi<=99:=by simpa[me] using h3
   have h4':1<=p.least/\p.least<=99:=by simpa[me] using h4
   rw[nI (by unfold fR;omega)] at hI;refine⟨fun h=>?_,fun h=>?_⟩
   ·rw[pI h.symm] at hI;rw[←hI]
   ·rw[nI (fun e=>h e.symm)] at hI;rintro r rfl;rw[wrap_small];exact⟨⟨_,i+1,rfl,by omega,hI⟩,by simp[aN];omega⟩
 ·rw[←hI,aK hx.len (by omega),eR]
theorem Eo{c:Nat}(hx:aL H a l xs)(hr:ob H a' l' rs):
  Sp 186 [.slice a l c,.slice a' l' c'] H fun v _=>v= .tuple #[i64 (broken xs rs),i64 (cd xs rs)]:=by
 refine xY Tryz.func186 (fun _ _=>vc34) fun aa hb=>?_;refine(jc hx).bY fun H1 e1 fh=>⟨fun h=>?_,fun h=>(I9 (hr.ext' e1)).bY fun H2 e2 dZ=>⟨fun h2=>?_,fun h2=>?_⟩⟩
 ·have e:cd xs rs=aZ xs:=by rw[cd,nI h]
  rw[broken,e,nI h]
 ·have e:cd xs rs=eS rs:=by rw[cd,pI (zx.1 h)]
  rw[broken,e,nI h2]
 have e:cd xs rs=0:=by rw[cd,pI (zx.1 h)];exact zx.1 h2
 have hW:broken xs rs=fI xs 0 rs:=by rw[broken,pI e]
 rw[e,hW];have hle:=hr.le;refine⟨fun vs _=>∃(d1 d2:Int)(i:Nat),vs=[i64 d1,i64 d2,i64 i]/\i<=l'/\fI xs i (rs.drop i)=fI xs 0 rs,aN l' 2,⟨0,0,0,rfl,by omega,rfl⟩,fun d1 d2 n H' hN hI=>?_⟩;obtain⟨d1',d2',i,cv,hi,hI⟩:=hI;obtain⟨rfl,rfl,rfl⟩:d1=d1'/\d2=d2'/\n=(i:Int):=by simpa using cv
 refine⟨fun bK=>hr.LZ hN.ext (by omega) bK fun p hp=>?_,fun gj=>?_⟩
 ·rw[zz] at hp;rw[av hp,fI] at hI;intro _;refine(Kz (hx.ext' hN.ext) _).bY fun H3 e3 fS=>⟨fun h3=>(Kz ((hx.ext' hN.ext).ext' e3) _).bY fun H4 e4 iC=>⟨fun h4=>?_,fun h4=>?_⟩,fun h3=>?_⟩
  ·rw[pI ⟨h3,h4⟩] at hI;rw[←hI]
  ·rw[nI (fun h=>h4 h.2)] at hI;rintro r rfl;rw[aj];exact⟨⟨_,_,i+1,rfl,by omega,hI⟩,by simp[aN];omega⟩
  ·rw[nI (fun h=>h3 h.1)] at hI;rintro r rfl;rw[aj];exact⟨⟨_,_,i+1,rfl,by omega,hI⟩,by simp[aN];omega⟩
 ·rw[←hI,aK hr.len (by omega),fI]
open Go Go.Proofs
theorem xj{α:Type}{xs ys:List α}{k:Nat}{p q:α}(hp:xs[k]?=some p)(hq:ys[k]?=some q):(xs.drop k=ys.drop k)↔(p=q/\xs.drop (k+1)=ys.drop (k+1)):=by
 rw[av hp,av hq];simp
theorem Ag{c:Nat}(hx:aL H a l xs)(hy:aL H a' l' ys):
  Sp 47 [.slice a l c,.slice a' l' c'] H fun v _=>v= .bool (decide (xs=ys)):=by
 refine xY Tryz.func47 (fun _ _=>vc41) fun aa hb=>?_;have nb:=hx.len;have uk:=hy.len;have hle:=hx.le;refine⟨fun eE=>?_,fun he=>?_⟩
 ·rw[decide_eq_false];rintro rfl;omega
 ·refine⟨fun vs _=>∃(b:Bool)(k:Nat),vs=[.bool b,i64 k]/\k<=l/\(xs.drop k=ys.drop k↔xs=ys),aN l 1,⟨false,0,rfl,by omega,by simp⟩,fun b n H' hN hI=>?_⟩;obtain⟨b',k,cv,hk,hI⟩:=hI;obtain⟨rfl,rfl⟩:b=b'/\n=(k:Int):=by simpa using cv
  refine⟨fun bK=>hx.LY hN.ext (by omega) bK fun p hp=>hy.LY hN.ext (by omega) (by omega) fun q hq=>⟨_,SB _ _ _ _,fun h=>?_,fun h=>?_⟩,fun gj=>?_⟩
  ·rw[zz] at hp hq;rw[xj hp hq] at hI;rw[decide_eq_false];intro e;obtain⟨rfl,_⟩:=hI.2 e;simp at h
  ·rw[zz] at hp hq;rw[xj hp hq] at hI
   have sS:p=q:=by
    cases p;cases q;simp at h;simp[h]
   rintro r rfl;rw[aj];exact⟨⟨b,k+1,rfl,by omega,by rw[←hI];simp[sS]⟩,by simp[aN];omega⟩
  ·rw[decide_eq_true];exact hI.1 (by rw[aK nb (by omega),aK uk (by omega)])
theorem gC{c:Nat}(h:bg aa H e 2 a n c (xs.flatMap dm)):aL H a n xs:=ik cJ (by omega) h
theorem Gq(xs:List Pin):aM (xs.flatMap dm)=true:=jZ (fun _=>rfl) xs
def gm(l:List Pin):List Value:=(rk l).map i64
theorem fe(l:List Pin):(gm l).length=21:=by simp[gm,rk]
theorem xk:∀l:List Int,aM (l.map i64)=true
 | []=>rfl
 |x::r=>by simp only[zB,aM,zT];exact⟨rfl,xk r⟩
theorem kG(l:List Pin):aM (gm l)=true:=xk _
theorem xm(l:List Pin){i:Nat}(hi:i<21):(gm l)[i]?=some (i64 (find l i)):=by rw[gm,zP,Ad l hi];rfl
def ry:List Value->List Pin->List Value
 |cs,[]=>cs
 |cs,p::r=>ry (cs.set (0+p.name.toNat*1) (i64 p.fi)) r
theorem Br:∀(xs:List Pin),Lk xs->∀f:Nat->Int,ry ((yi 21).map fun n=>i64 (f n)) xs=(yi 21).map fun n:Nat=>i64 (if find xs n=0 then f n else find xs n)
 | [],_,f=>by simp[ry,find]
 |p::r,h,f=>by
  have hp:=h.name (p:=p) zr
  have e:((yi 21).map fun n=>i64 (f n)).set (0+p.name.toNat*1) (i64 p.fi)=(yi 21).map fun n:Nat=>i64 (if(n:Int)=p.name then p.fi else f n):=by
   apply List.ext_getElem?;intro i;rw[yh];simp only[ym,List.length_range,zP,zS,Nat.mul_one];by_cases hi:i<21
   ·rw[List.getElem?_range hi];split
    ·rename_i e;rw[pI (by omega)];simp;intro h;omega
    ·simp;intro h;omega
   ·rw[nI (by omega),List.getElem?_eq_none (by simp;omega)];rfl
  rw[ry,e,Br r h.tail];apply List.map_congr_left;intro n hn;have hz:find r p.name=0:=iB fun x hx=>by have:=h.head x hx;omega
  by_cases e2:(n:Int)=p.name
  ·rw[e2,hz,pI rfl,pI rfl,find,pI rfl,nI (by omega)]
  ·simp only[find,nI e2,nI (fun h:p.name=(n:Int)=>e2 h.symm)]
theorem Gr(h:Lk xs):ry (zk 21 (i64 0)) xs=gm xs:=by
 have:=Br xs h (fun _=>0);rw[show((yi 21).map fun _=>i64 0)=zk 21 (i64 0) from rfl] at this;rw[this,gm,rk,List.map_map];apply List.map_congr_left;intro n _;simp only[Function.comp_apply];split
 ·rename_i e;rw[e]
 ·rfl
theorem Ep{c:Nat}(hx:aL H a l xs)(hL:Lk xs):Sp 182 [.slice a l c] H fun v _=>v= .agg (gm xs).toArray:=by
 refine xY Tryz.func182 (fun _ _=>XN) fun aa hb=>?_;have hle:=hx.le;intro _ _;refine⟨rfl,fun vs _=>∃(cs:List Value)(i:Nat),vs=[i64 i,.agg cs.toArray]/\i<=l/\ry cs (xs.drop i)=gm xs,aN l 0,⟨zk 21 (i64 0),0,rfl,by omega,Gr hL⟩,fun n cs Ib H' hN hI=>?_⟩;obtain⟨oI,i,cv,hi,hI⟩:=hI;obtain⟨rfl,rfl⟩:n=(i:Int)/\cs=oI:=by simpa using cv
 refine⟨fun bK=>hx.LY hN.ext (by omega) bK fun p hp=>?_,fun gj=>?_⟩
 ·rw[zz] at hp;rw[av hp,ry] at hI;have hn:=hL.name (zt hp);intro _;refine⟨by omega,by omega,by omega,?_⟩;rintro r rfl;rw[aj];exact⟨by simp[Ib],rfl,⟨_,i+1,rfl,by omega,hI⟩,by simp[aN];omega⟩
 ·rw[aK hx.len (by omega),ry] at hI;subst hI;exact⟨Ib,Ib,kG xs,rfl,Ib,rfl⟩
theorem Q5{t:List Int}(ht:t.length=21):Sp 215 [.agg (t.map i64).toArray] H fun v H'=>∃a n c,v= .slice a n c/\aL H' a n (di 0 t):=by
 refine xY Tryz.func215 (fun _ _=>XO) fun aa hb=>?_;intro _
 refine⟨by simp[ht],fun vs Hc=>∃(out:List Pin)(a:O)(c i:Nat),vs=[.slice a out.length c,i64 i]/\bg aa Hc 91 2 a out.length c (out.flatMap dm)/\i<=21/\out.length<=i/\out++di i (t.drop i)=di 0 t,
  aN 21 1,⟨[],none,0,0,rfl,bg.nil,by omega,by simp,rfl⟩,fun a1 n1 c1 m H' hN hI=>?_⟩
 obtain⟨out,Kx,Ky,i,cv,hR,hi,hol,hI⟩:=hI;obtain⟨⟨rfl,rfl,rfl⟩,rfl⟩:(a1=Kx/\n1=out.length/\c1=Ky)/\m=(i:Int):=by simpa using cv
 have Ja:i<21->t[i]?=some (t.getD i 0):=fun h=>by rw[List.getD_eq_getElem?_getD,zu (by omega)];rfl
 refine⟨fun bK=>⟨by omega,bK,(t.getD i 0),?_,fun h=>?_,fun h=>?_⟩,fun gj=>?_⟩
 ·show(t.map i64)[((i:Int).toNat*1)]?=_
  rw[zz,Nat.mul_one,zP,Ja (by omega)];rfl
 ·rw[av (Ja (by omega)),di,pI h] at hI;refine fun _=>⟨_,hR,by omega,by omega,fun a2 c2 H2 hG qy=>?_⟩
  rintro r rfl;rw[wrap_small];refine⟨rfl,⟨out++[⟨(i:Int),(t.getD i 0)⟩],a2,c2,i+1,by simp,?_,by omega,by simp;omega,by simpa using hI⟩,by simp[aN];omega⟩;have:(out++[(⟨(i:Int),(t.getD i 0)⟩:Pin)]).flatMap dm=out.flatMap dm++[i64 i,i64 ((t.getD i 0))]:=by simp[dm]
  rw[this];simpa using qy
 ·rw[av (Ja (by omega)),di,nI h] at hI;rintro r rfl;rw[wrap_small];exact⟨rfl,⟨out,a1,c1,i+1,rfl,hR,by omega,by omega,by simpa using hI⟩,by simp[aN];omega⟩
 ·rw[aK ht (by omega),di,zZ] at hI;exact⟨_,_,_,rfl,by rw[←hI];exact gC hR⟩
theorem CK{c:Nat}(hr:ob H a l rs)(eC:Xt rs)(hp:H p=some (ay 220 (gm xs))):
  Sp 183 [.slice a l c,.func (.func 184) #[] #[.pointer (some ⟨p,0,none⟩)]] H fun v _=>v=i64 (fI xs 0 rs):=by
 have h111:∀ {H:Heap} {r:km},H p=some (ay 220 (gm xs))->¬fR r->Sp 184 [.agg #[.int .i64 r.name,.int .i64 r.fi,.int .i64 r.uW,.int .i64 r.least],.pointer (some ⟨p,0,none⟩)] H fun v _=>v= .bool (decide (breaks xs r)):=by
  intro H r hp hb;unfold fR at hb
  have rd:∀k:Int,0<=k->k<21->H.cell p (0+k.toNat*1)=some (.int .i64 (find xs k)):=fun k h0 h1=>by
   unfold Heap.cell;rw[hp]
   show(gm xs)[0+k.toNat*1]?=_
   rw[zS,Nat.mul_one,xm xs (by omega),show(k.toNat:Int)=k from by omega]
  refine xY Tryz.func184 (fun _ _=>XQ) fun aa hb=>?_;intro _;refine⟨by omega,by omega,_,rd _ (by omega) (by omega),fun h=>⟨by omega,by omega,_,rd _ (by omega) (by omega),?_⟩,fun h=>?_⟩
  ·simp[breaks,h]
  ·simp[breaks,h]
 refine xY Tryz.func183 (fun _ _=>XP) fun aa hb=>?_;have hle:=hr.le;refine⟨fun vs _=>∃(d:Int)(i:Nat),vs=[i64 d,i64 i]/\i<=l/\fI xs i (rs.drop i)=fI xs 0 rs,aN l 1,⟨0,0,rfl,by omega,rfl⟩,fun d n H' hN hI=>?_⟩;obtain⟨d',i,cv,hi,hI⟩:=hI;obtain⟨rfl,rfl⟩:d=d'/\n=(i:Int):=by simpa using cv
 refine⟨fun bK=>hr.LZ hN.ext (by omega) bK fun q hq=>?_,fun gj=>?_⟩
 ·rw[zz] at hq;rw[av hq,fI] at hI;refine(h111 (hN.ext _ _ hp) (eC q (zt hq)).1).aO fun H2 _ _=>⟨fun h=>?_,fun h=>?_⟩
  ·rw[pI (by simpa using h)] at hI;rw[←hI]
  ·rw[nI (by simpa using h)] at hI;rintro r rfl;rw[aj];exact⟨⟨_,i+1,rfl,by omega,hI⟩,by simp[aN];omega⟩
 ·rw[←hI,aK hr.len (by omega),fI]
theorem um{c:Nat}(hx:aL H a l xs)(hr:ob H a' l' rs):
  Sp 93 [.slice a l c,.slice a' l' c'] H fun v _=>v= .tuple #[i64 (broken xs rs),i64 (cd xs rs)]:=by
 refine xY Tryz.func93 (fun _ _=>vc36) fun aa hb=>?_;refine(fX hx).bY fun H1 e1 fh=>⟨fun h=>?_,fun h=>(CJ (hr.ext' e1)).bY fun H2 e2 dZ=>⟨fun h2=>?_,fun h2=>?_⟩⟩
 ·have e:cd xs rs=aZ xs:=by rw[cd,nI h]
  rw[broken,e,nI h]
 ·have e:cd xs rs=eS rs:=by rw[cd,pI (zx.1 h)]
  rw[broken,e,nI h2]
 have h:=zx.1 h;have h2:=zx.1 h2;have e:cd xs rs=0:=by rw[cd,pI h];exact h2
 rw[broken,pI e,e];refine(Ep ((hx.ext' e1).ext' e2) (bF.1 h).1).mono fun v H3 e3 hv=>⟨_,fe xs,hv,fun fS b=>⟨fe xs,kG xs,rfl,rfl,fun Hl Ig hb=>?_⟩⟩
 refine(CK ((((hr.ext' e1).ext' e2).ext' e3).ext' Ig.ext) (qw.1 h2).2 hb.1).mono fun v H4 e4 hv=>⟨_,hv,fun H' hN _=>rfl⟩
open Classical in
open Go Go.Proofs
open Go Go.Proofs
open Go.Value renaming int → I, slice → S, bool → B, agg → A, tuple → T, pointer → P, string → bH
open Go.IntKind renaming i64 → Z, wrap → W
open Go.Addr renaming mk → D
open Go.Vg.Bx renaming mk → J
open Go.Vg renaming Next → X, Sp → Y, eZ → YO, i64 → U
open Go.Vg.Heap renaming cell → C
open Int renaming toNat → N
abbrev Od(r:Int)(m:LI)(d1:O)(p e1:Nat)(f1:Heap)(n:LM)(o:O)(q:Nat):Prop:=
 ∀g1:Int,g1=W Z (r+1)->m [S d1 (p+1) e1,U g1] f1/\n [S d1 (p+1) e1,U g1]<n [S o p q,U r]
abbrev Oe(h:Heap)(i j:Nat)(g k m:Int):Prop:=
 C h i (j+N g*2)=some (U k)/\C h i (j+N g*2+1)=some (U m)/\True
theorem vc54{c:Nat}:
 (fV TryzMutsJ Tryz.f57 aa H [.v (S a l c),.v (S a' l' c')] [] K)=(
 ∃(b:LI)(d:LM),b [S none 0 0,U 0,U 0] H/\∀(e:O)(g h:Nat)(i j:Int)(k:Heap),X aa H k->b [S e g h,U i,U j] k->(j<2->0<=j/\j<2/\∃m n o,zV [S a l c,S a' l' c'] (N j*1)=some (S m n o)/\Y 140 [S m n o] k fun p q=>∃r,p=U r/\(X aa k q->(¬r=0->K (T #[S none 0 0,U r]) [] q)/\(¬¬r=0->∀s:Int,s=W Z (j+1)->b [S e g h,U i,U s] q/\d [S e g h,U i,U s]<d [S e g h,U i,U j])))/\(¬j<2->∃(m:LI)(n:LM),m [S none 0 0,U 0] k/\∀(o:O)(p q:Nat)(r:Int)(s:Heap),X aa H s->m [S o p q,U r] s->(r<(l:Int)->∃t u,a=some (D t u none)/\0<=r/\r<(l:Int)/\∃v w:Int,(Oe s t u r v w)/\∀x:Nat,Y 75 [S a' l' c',U v] s fun y z=>∃a1,y=U a1/\(X aa s z->(a1=0->∀b1:Nat,∃c1:List Value,bg aa z 182 3 o p q c1/\(p+1)*24<=140737488355328/\p+1<=9223372036854775807/\∀(d1:O)(e1:Nat)(f1:Heap),cu aa z f1 o q d1 e1 (p+1)->bg aa f1 182 3 d1 (p+1) e1 (c1++[U 2,U v,U 0])->Od r m d1 p e1 f1 n o q)/\(¬a1=0->∀b1:Int,b1=W Z (r+1)->m [S o p q,U b1] z/\n [S o p q,U b1]<n [S o p q,U r])))/\(¬r<(l:Int)->∃(t:LI)(u:LM),t [S o p q,U 0] s/\∀(v:O)(w x:Nat)(y:Int)(z:Heap),X aa H z->t [S v w x,U y] z->(y<(l':Int)->∃a1 b1,a'=some (D a1 b1 none)/\0<=y/\y<(l':Int)/\∃c1 d1:Int,(Oe z a1 b1 y c1 d1)/\∀e1:Nat,Y 75 [S a l c,U c1] z fun f1 g1=>∃h1,f1=U h1/\(X aa z g1->(h1=d1->∀i1:Int,i1=W Z (y+1)->t [S v w x,U i1] g1/\u [S v w x,U i1]<u [S v w x,U y])/\(¬h1=d1->(h1=0->∀i1:Nat,∃j1:List Value,bg aa g1 182 3 v w x j1/\(w+1)*24<=140737488355328/\w+1<=9223372036854775807/\∀(k1:O)(l1:Nat)(m1:Heap),cu aa g1 m1 v x k1 l1 (w+1)->bg aa m1 182 3 k1 (w+1) l1 (j1++[U 1,U c1,U d1])->Od y t k1 w l1 m1 u v x)/\(¬h1=0->∀i1:Nat,∃j1:List Value,bg aa g1 182 3 v w x j1/\(w+1)*24<=140737488355328/\w+1<=9223372036854775807/\∀(k1:O)(l1:Nat)(m1:Heap),cu aa g1 m1 v x k1 l1 (w+1)->bg aa m1 182 3 k1 (w+1) l1 (j1++[U 3,U c1,U
 d1])->Od y t k1 w l1 m1 u v x))))/\(¬y<(l':Int)->K (T #[S v w x,U 0]) [] z)))):=by kernel_rfl
theorem XV{n:Int}:
 (fV TryzMutsJ Tryz.f234 aa H [.v (A #[U n,U v]),.v (.pointer (some ⟨p,0,none⟩))] [] K)=(
 ∀a:Nat,∃b,C H p 1=some (U b)/\K (B (decide (n=b))) [] H):=by kernel_rfl
theorem Uy{c:Nat}:
 (fV TryzMutsJ Tryz.f147 aa H [.v (S a l c),.v (.func (.func 234) #[] #[.pointer (some ⟨p,0,none⟩)])] [] K)=(
 ∃(b:LI)(d:LM),b [U 0,U 0] H/\∀(e g:Int)(h:Heap),X aa H h->b [U e,U g] h->(g<(l:Int)->∃i j,a=some (D i j none)/\0<=g/\g<(l:Int)/\∃k m:Int,(Oe h i j g k m)/\Y 234 [A #[U k,U m],P (some (D p 0 none))] h fun n o=>∃q,n=B q/\(X aa h o->(q=true->K (U g) [] o)/\(q=false->∀r:Int,r=W Z (g+1)->b [U e,U r] o/\d [U e,U r]<d [U e,U g])))/\(¬g<(l:Int)->K (U (-1)) [] h)):=by kernel_rfl
theorem XW{c:Nat}:
 (fV TryzMutsJ Tryz.f163 aa H [.v (S a l c)] [] K)=(
 ∃b,aR Tryz.prog (aI BinOp.eql 22 (Operand.tmp 3) (Operand.const (S none 0 0)) (S a l c) (S none 0 0)) (B b)/\(b=true->K (S none 0 0) [] H)/\(¬b=true->∀(d:Nat)(e:Heap),X aa H e->H d=none->e d=some (ay 91 [])->∃g h:List Value,bg aa e 91 2 (some (D d 0 none)) 0 0 g/\zo h=l*2/\aM h=true/\(l=0∨∃i j,a=some (D i j none)/\ba e i j 0 h)/\(0+l)*16<=140737488355328/\0+l<=9223372036854775807/\∀(i:O)(j:Nat)(k:Heap),cu aa e k (some (D d 0 none)) 0 i j (0+l)->bg aa k 91 2 i (0+l) j (g++h)->K (S i (0+l) j) [] k)):=by kernel_rfl
abbrev SC(aa:Nat)(b1:Heap)(n v a1:Int)(w:Nat)(u:O)(x:Nat)(K:KT):Prop:=
 ∀(f1:Nat)(g1:Heap),X aa b1 g1->b1 f1=none->g1 f1=some (ay 91 [U n,U v])->∃(h1 i1:List Value)(j1:Nat),a1=(j1:Int)/\j1<=w/\w<=1000000/\bg aa g1 91 2 u w x h1/\aM h1=true/\zo i1=2/\aM i1=true/\g1 f1=some (ay 91 i1)/\(x≠0->u≠some (D f1 0 none))/\∀(k1:O)(l1:Nat)(m1:Heap),cu aa g1 m1 u x k1 l1 (w+1)->bg aa m1 91 2 k1 (w+1) l1 (List.take (j1*2) h1++i1++List.drop (j1*2) h1)->K (T #[S k1 (w+1) l1,U 0]) [] m1
theorem vc55{c:Nat}{n:Int}:
 (fV TryzMutsJ Tryz.f204 aa H [.v (S a l c),.v (A #[U kd,U n,U v])] [] K)=(
 ∀b:Nat,(fun w1:LB=>Y 140 [S a l c] H fun d e=>∃g,d=U g/\(X aa H e->(¬g=0->K (T #[S none 0 0,U g]) [] e)/\(¬¬g=0->∃h:Prop,((kd<1->w1=w1/\ak e e/\h)/\(¬kd<1->w1=w1/\ak e e/\(h↔3<kd)))/\(h->K (T #[S none 0 0,U 4]) [] e)/\(¬h->∃i:Prop,((n<1->w1=w1/\ak e e/\i)/\(¬n<1->(20<n->w1=w1/\ak e e/\i)/\(¬20<n->(¬kd=2->(v<1->w1=w1/\ak e e/\i)/\(¬v<1->(99<v->w1=w1/\ak e e/\i)/\(¬99<v->(kd=2->w1=w1/\ak e e/\(i↔¬v=0))/\(¬kd=2->w1=w1/\ak e e/\¬i))))/\(¬¬kd=2->(kd=2->w1=w1/\ak e e/\(i↔¬v=0))/\(¬kd=2->w1=w1/\ak e e/\¬i)))))/\(i->K (T #[S none 0 0,U 3]) [] e)/\(¬i->true=true/\∀j:Heap,X 0 e j->j b=some (ay 182 [U kd,U n,U v])/\True->Y 147 [S a l c,Value.func (Fn.func 234) #[] #[P (some (D b 0 none))]] j fun k m=>∃o,k=U o/\∀p,X aa e p->(∀(q:Nat)(r:KB),m q=some r->(∀s:Bx,s∈w1->q≠Bx.b s)->p q=some r)->∃q:Prop,((kd=1->w1=w1/\ak p p/\(q↔0<=o))/\(¬kd=1->w1=w1/\ak p p/\¬q))/\(q->K (T #[S none 0 0,U 6]) [] p)/\(¬q->∃r:Prop,((¬kd=1->w1=w1/\ak p p/\(r↔o<0))/\(¬¬kd=1->w1=w1/\ak p p/\¬r))/\(r->K (T #[S none 0 0,U 5]) [] p)/\(¬r->Y 163 [S a l c] p fun s t=>∃u w x,s=S u w x/\(X aa p t->(kd=1->((w:Int)=12->K (T #[S none 0 0,U 2]) [] t)/\(¬(w:Int)=12->∃(y:LI)(z:LM),y [U 0] t/\∀(a1:Int)(b1:Heap),X aa H b1->y [U a1] b1->(a1<(w:Int)->∃c1 d1,u=some (D c1 d1 none)/\0<=a1/\a1<(w:Int)/\∃e1,C b1 c1 (d1+N a1*2)=some (U e1)/\(e1<n->∀f1:Int,f1=W Z (a1+1)->[[U kd,U n,U v]]=[[U kd,U n,U v]]/\y [U f1] b1/\z [U f1]<z [U a1])/\(¬e1<n->SC aa b1 n v a1 w u x K))/\(¬a1<(w:Int)->SC aa b1 n v a1 w u x K)))/\(¬kd=1->(kd=2->∀y:Int,y=W Z (o+1)->∃(z:List Value)(a1 b1:Nat),o=(a1:Int)/\y=(b1:Int)/\a1<=b1/\b1<=w/\w<=1000000/\bg aa t 91 2 u w x z/\aM z=true/\∀c1:Heap,cu aa t c1 u x u x (a1+(w-b1))->bg aa c1 91 2 u (a1+(w-b1)) x (List.take (a1*2) z++List.drop (b1*2) z)->K (T #[S u (a1+(w-b1)) x,U 0]) [] c1)/\(¬kd=2->(kd=3->∃y
 z,u=some (D y z none)/\0<=o/\o<(w:Int)/\∃a1:KB,t y=some a1/\KB.free a1=true/\aa<=y/\z+N o*2+1+1<=KB.size a1/\∀b1:Heap,kW t y (z+N o*2+1) a1 [U v] b1->K (T #[S u w x,U 0]) [] b1)/\(¬kd=3->K (T #[S u w x,U 0]) [] t))))))))))) [J b false 182 [U kd,U n,U v]]):=by kernel_rfl
theorem vc57{c:Nat}:
 (fV TryzMutsJ Tryz.f128 aa H [.v (S a l c),.v (S a' l' c')] [] K)=(
 Y 159 [S a l c] H fun b d=>∃e,b=U e/\(X aa H d->(¬e=0->K (T #[S none 0 0,U e]) [] d)/\(¬¬e=0->Y 159 [S a' l' c'] d fun g h=>∃i,g=U i/\(X aa d h->(¬i=0->K (T #[S none 0 0,U i]) [] h)/\(¬¬i=0->Y 182 [S a l c] h fun j k=>∃m:List Value,zo m=21/\j=A (zQ m)/\(X aa h k->Y 182 [S a' l' c'] k fun n o=>∃p:List Value,zo p=21/\n=A (zQ p)/\(X aa k o->∀q r:Nat,zo m=21/\aM m=true/\21=21/\zo p=21/\aM p=true/\21=21/\∃(s:LI)(t:LM),s [S none 0 0,S none 0 0,U 0] o/\∀(u:O)(v w:Nat)(x:O)(y z:Nat)(a1:Int)(b1:Heap),X aa H b1->s [S u v w,S x y z,U a1] b1->(a1<21->0<=a1/\a1<21/\∃c1,zV m (0+N a1*1)=some (U c1)/\0<=a1/\a1<21/\∃d1,zV p (0+N a1*1)=some (U d1)/\(c1=d1->∀e1:Int,e1=W Z (a1+1)->[m,p]=[m,p]/\s [S u v w,S x y z,U e1] b1/\t [S u v w,S x y z,U e1]<t [S u v w,S x y z,U a1])/\(¬c1=d1->0<=a1/\a1<21/\∃e1,zV p (0+N a1*1)=some (U e1)/\(e1=0->∀f1:Nat,∃g1:List Value,bg aa b1 182 3 u v w g1/\(v+1)*24<=140737488355328/\v+1<=9223372036854775807/\∀(h1:O)(i1:Nat)(j1:Heap),cu aa b1 j1 u w h1 i1 (v+1)->bg aa j1 182 3 h1 (v+1) i1 (g1++[U 2,U a1,U 0])->∀k1:Int,k1=W Z (a1+1)->[m,p]=[m,p]/\s [S h1 (v+1) i1,S x y z,U k1] j1/\t [S h1 (v+1) i1,S x y z,U k1]<t [S u v w,S x y z,U a1])/\(¬e1=0->0<=a1/\a1<21/\∃f1,zV m (0+N a1*1)=some (U f1)/\(f1=0->0<=a1/\a1<21/\∃g1,zV p (0+N a1*1)=some (U g1)/\∀h1:Nat,∃i1:List Value,bg aa b1 182 3 x y z i1/\(y+1)*24<=140737488355328/\y+1<=9223372036854775807/\∀(j1:O)(k1:Nat)(l1:Heap),cu aa b1 l1 x z j1 k1 (y+1)->bg aa l1 182 3 j1 (y+1) k1 (i1++[U 1,U a1,U g1])->∀m1:Int,m1=W Z (a1+1)->[m,p]=[m,p]/\s [S u v w,S j1 (y+1) k1,U m1] l1/\t [S u v w,S j1 (y+1) k1,U m1]<t [S u v w,S x y z,U a1])/\(¬f1=0->0<=a1/\a1<
 21/\∃g1,zV p (0+N a1*1)=some (U g1)/\∀h1:Nat,∃i1:List Value,bg aa b1 182 3 x y z i1/\(y+1)*24<=140737488355328/\y+1<=9223372036854775807/\∀(j1:O)(k1:Nat)(l1:Heap),cu aa b1 l1 x z j1 k1 (y+1)->bg aa l1 182 3 j1 (y+1) k1 (i1++[U 3,U a1,U g1])->∀m1:Int,m1=W Z (a1+1)->[m,p]=[m,p]/\s [S u v w,S j1 (y+1) k1,U m1] l1/\t [S u v w,S j1 (y+1) k1,U m1]<t [S u v w,S x y z,U a1]))))/\(¬a1<21->∃c1 d1:List Value,bg aa b1 182 3 u v w c1/\zo d1=y*3/\aM d1=true/\(y=0∨∃e1 f1,x=some (D e1 f1 none)/\ba b1 e1 f1 0 d1)/\(v+y)*24<=140737488355328/\v+y<=9223372036854775807/\∀(e1:O)(f1:Nat)(g1:Heap),cu aa b1 g1 u w e1 f1 (v+y)->bg aa g1 182 3 e1 (v+y) f1 (c1++d1)->K (T #[S e1 (v+y) f1,U 0]) [] g1)))))))):=by kernel_rfl
abbrev SD(kd v:Int)(o:Heap)(aa:Nat)(w2:LB)(i:Heap)(k:Prop):Prop:=
 (¬kd=2->Y 92 [U v,U 1,U 99] o fun q r=>∃s,q=B s/\(X aa o r->w2=w2/\ak i r/\(k↔s=false)))/\(¬¬kd=2->w2=w2/\ak i o/\¬k)
theorem vc58{c:Nat}{n:Int}:
 (fV TryzMutsJ Tryz.f162 aa H [.v (S a l c),.v (A #[U kd,U n,U v])] [] K)=(
 ∀b:Nat,(fun w2:LB=>Y 159 [S a l c] H fun d e=>∃g,d=U g/\(X aa H e->(¬g=0->K (T #[S none 0 0,U g]) [] e)/\(¬¬g=0->Y 92 [U kd,U 1,U 3] e fun h i=>∃j,h=B j/\(X aa e i->(j=false->K (T #[S none 0 0,U 4]) [] i)/\(¬j=false->∃k:Prop,(Y 92 [U n,U 1,U 20] i fun m o=>∃p,m=B p/\(X aa i o->(p=false->w2=w2/\ak i o/\k)/\(¬p=false->(kd=2->(¬v=0->w2=w2/\ak i o/\k)/\(¬¬v=0->SD kd v o aa w2 i k))/\(¬kd=2->SD kd v o aa w2 i k))))/\(k->K (T #[S none 0 0,U 3]) [] i)/\(¬k->Y 182 [S a l c] i fun m o=>∃p:List Value,zo p=21/\m=A (zQ p)/\(X aa i o->∀q:Nat,(fun w1:LB=>zo p=21/\aM p=true/\21=21/\0<=n/\n<21/\∃r,zV p (0+N n*1)=some (U r)/\∃s:Prop,((0<r->w1=w1/\ak o o/\(s↔kd=1))/\(¬0<r->w1=w1/\ak o o/\¬s))/\(s->K (T #[S none 0 0,U 6]) [] o)/\(¬s->∃t:Prop,((¬0<r->w1=w1/\ak o o/\(t↔¬kd=1))/\(¬¬0<r->w1=w1/\ak o o/\¬t))/\(t->K (T #[S none 0 0,U 5]) [] o)/\(¬t->∃u:Prop,((¬0<r->w1=w1/\ak o o/\(u↔(l:Int)=12))/\(¬¬0<r->w1=w1/\ak o o/\¬u))/\(u->K (T #[S none 0 0,U 2]) [] o)/\(¬u->0<=n/\n<21/\0+N n*1+1<=zo p/\zo (List.set p (0+N n*1) (U v))=21/\Y 215 [A (zQ (List.set p (0+N n*1) (U v)))] o fun w x=>∃y z a1,w=S y z a1/\(X aa o x->K (T #[S y z a1,U 0]) [] x))))) [J b false 182 [U kd,U n,U v],J q false 220 p]))))))) [J b false 182 [U kd,U n,U v]]):=by kernel_rfl
open Go Go.Proofs
theorem vc68{id:Int}{c:Nat}:
 (fV TryzMutsJ Tryz.f167 aa H [.v (A #[U id,S a l c])] [] K)=(
 ∀b:Nat,(fun w1:LB=>∃d:Prop,((id<1->w1=w1/\ak H H/\d)/\(¬id<1->w1=w1/\ak H H/\(d↔6<id)))/\(d->K (U 3) [] H)/\(¬d->Y 140 [S a l c] H fun e g=>∃h,e=U h/\(X aa H g->K (U h) [] g))) [J b false 24 [U id,S a l c]]):=by kernel_rfl
theorem vc74{id:Int}{c:Nat}:
 (fV TryzMutsJ Tryz.f84 aa H [.v (A #[U id,S a l c])] [] K)=(
 ∀b:Nat,Y 92 [U id,U 1,U 6] H fun d e=>∃g,d=B g/\(X aa H e->(g=false->K (U 3) [] e)/\(¬g=false->Y 159 [S a l c] e fun h i=>∃j,h=U j/\(X aa e i->K (U j) [] i)))):=by kernel_rfl
theorem vc86{id:Int}{c:Nat}:
 (fV TryzMutsJ Tryz.f56 aa H [.v (A #[U id,S a l c]),.v (A #[U nU,S a' l' c'])] [] K)=(
 ∀b d:Nat,(fun w1:LB=>∃e:Prop,((¬id=nU->w1=w1/\ak H H/\e)/\(¬¬id=nU->w1=w1/\ak H H/\(e↔¬(l:Int)=(l':Int))))/\(e->K (B false) [] H)/\(¬e->∃(g:LI)(h:LM),g [B false,U 0] H/\∀(i:Bool)(j:Int)(k:Heap),X aa H k->g [B i,U j] k->(j<(l:Int)->∃m n,a=some (D m n none)/\0<=j/\j<(l:Int)/\∃o p:Int,(C k m (n+N j*2)=some (U o)/\C k m (n+N j*2+1)=some (U p)/\True)/\∀q:Nat,∃r s,a'=some (D r s none)/\0<=j/\j<(l':Int)/\∃t u:Int,(C k r (s+N j*2)=some (U t)/\C k r (s+N j*2+1)=some (U u)/\True)/\∃v,aR Tryz.prog (aI BinOp.neq 91 (Operand.tmp 33) (Operand.tmp 34) (A #[U t,U u]) (A #[U o,U p])) (B v)/\(v=true->K (B false) [] k)/\(¬v=true->∀w:Int,w=W Z (j+1)->[[U id,S a l c],[U nU,S a' l' c']]=[[U id,S a l c],[U nU,S a' l' c']]/\g [B i,U w] k/\h [B i,U w]<h [B i,U j]))/\(¬j<(l:Int)->K (B true) [] k))) [J b false 24 [U id,S a l c],J d false 24 [U nU,S a' l' c']]):=by kernel_rfl
theorem vc99{id:Int}{c:Nat}:
 (fV TryzMutsJ Tryz.f77 aa H [.v (A #[U id,S a l c]),.v (A #[U nU,S a' l' c'])] [] K)=(
 ∀b d:Nat,(fun w1:LB=>∃e:Prop,((id=nU->Y 47 [S a l c,S a' l' c'] H fun g h=>∃i,g=B i/\(X aa H h->w1=w1/\ak H h/\(e↔i=true)))/\(¬id=nU->w1=w1/\ak H H/\¬e))/\K (B (@decide e (zh e))) [] H) [J b false 24 [U id,S a l c],J d false 24 [U nU,S a' l' c']]):=by kernel_rfl
abbrev Bs(h:Heap)(i j:Nat)(g k m:Int)(n o:Bool)(p:Int)(q:O)(r s:Nat):Prop:=
 C h i (j+N g*6)=some (U k)/\C h i (j+N g*6+1)=some (U m)/\C h i (j+N g*6+2)=some (B n)/\C h i (j+N g*6+3)=some (B o)/\C h i (j+N g*6+4)=some (U p)/\C h i (j+N g*6+5)=some (S q r s)/\True
abbrev KC(g:Int)(b:LI)(e:Int)(y:Heap)(d:LM):Prop:=
 ∀a1:Int,a1=W Z (g+1)->b [U e,U a1] y/\d [U e,U a1]<d [U e,U g]
theorem vc50{c:Nat}:
 (fV TryzMutsJ Tryz.f102 aa H [.v (S a l c)] [] K)=(
 (40<(l:Int)->K (U 2) [] H)/\(¬40<(l:Int)->∃(b:LI)(d:LM),b [U 0,U 0] H/\∀(e g:Int)(h:Heap),X aa H h->b [U e,U g] h->(g<(l:Int)->∃i j,a=some (D i j none)/\0<=g/\g<(l:Int)/\∃(k m:Int)(n o:Bool)(p:Int)(q:O)(r s:Nat),(Bs h i j g k m n o p q r s)/\∀t:Nat,(fun w1:LB=>∃u:Prop,((k<0->w1=w1/\ak h h/\u)/\(¬k<0->(6<=k->w1=w1/\ak h h/\u)/\(¬6<=k->(m<1->w1=w1/\ak h h/\u)/\(¬m<1->w1=w1/\ak h h/\(u↔200<m)))))/\(u->K (U 3) [] h)/\(¬u->∃v:Prop,((n=true->(¬p=0->w1=w1/\ak h h/\v)/\(¬¬p=0->(0<(r:Int)->w1=w1/\ak h h/\v)/\(¬0<(r:Int)->(n=false->w1=w1/\ak h h/\(v↔o=true))/\(¬n=false->w1=w1/\ak h h/\¬v))))/\(n=false->(n=false->w1=w1/\ak h h/\(v↔o=true))/\(¬n=false->w1=w1/\ak h h/\¬v)))/\(v->K (U 4) [] h)/\(¬v->(n=true->KC g b e h d)/\(n=false->Y 167 [A #[U p,S q r s]] h fun w x=>∃y,w=U y/\(X aa h x->(¬y=0->K (U y) [] x)/\(¬¬y=0->KC g b e x d)))))) [J t false 74 [U k,U m,B n,B o,U p,S q r s]])/\(¬g<(l:Int)->K (U 0) [] h))):=by kernel_rfl
theorem vc49{c:Nat}:
 (fV TryzMutsJ Tryz.f69 aa H [.v (S a l c)] [] K)=(
 (40<(l:Int)->K (U 2) [] H)/\(¬40<(l:Int)->∃(b:LI)(d:LM),b [U 0,U 0] H/\∀(e g:Int)(h:Heap),X aa H h->b [U e,U g] h->(g<(l:Int)->∃i j,a=some (D i j none)/\0<=g/\g<(l:Int)/\∃(k m:Int)(n o:Bool)(p:Int)(q:O)(r s:Nat),(Bs h i j g k m n o p q r s)/\∀t:Nat,(fun w1:LB=>∃u:Prop,(Y 92 [U k,U 0,U 5] h fun v w=>∃x,v=B x/\(X aa h w->(x=false->w1=w1/\ak h w/\u)/\(¬x=false->Y 92 [U m,U 1,U 200] w fun y z=>∃a1,y=B a1/\(X aa w z->w1=w1/\ak h z/\(u↔a1=false)))))/\(u->K (U 3) [] h)/\(¬u->∃v:Prop,((p=0->w1=w1/\ak h h/\(v↔(r:Int)=0))/\(¬p=0->w1=w1/\ak h h/\¬v))/\∃w:Prop,((n=true->(¬v->w1=w1/\ak h h/\w)/\(¬¬v->(o=true->w1=w1/\ak h h/\(w↔n=false))/\(o=false->w1=w1/\ak h h/\¬w)))/\(n=false->(o=true->w1=w1/\ak h h/\(w↔n=false))/\(o=false->w1=w1/\ak h h/\¬w)))/\(w->K (U 4) [] h)/\(¬w->(n=false->Y 84 [A #[U p,S q r s]] h fun x y=>∃z,x=U z/\(X aa h y->(¬z=0->K (U z) [] y)/\(¬¬z=0->KC g b e y d)))/\(¬n=false->KC g b e h d)))) [J t false 74 [U k,U m,B n,B o,U p,S q r s]])/\(¬g<(l:Int)->K (U 0) [] h))):=by kernel_rfl
theorem vc52{c:Nat}:
 (fV TryzMutsJ Tryz.f42 aa H [.v (S a l c)] [] K)=(
 ∃b,aR Tryz.prog (aI BinOp.eql 39 (Operand.tmp 3) (Operand.const (S none 0 0)) (S a l c) (S none 0 0)) (B b)/\(b=true->K (S none 0 0) [] H)/\(¬b=true->∀(d:Nat)(e:Heap),X aa H e->H d=none->e d=some (ay 74 [])->∃g h:List Value,bg aa e 74 6 (some (D d 0 none)) 0 0 g/\zo h=l*6/\aM h=true/\(l=0∨∃i j,a=some (D i j none)/\ba e i j 0 h)/\(0+l)*56<=140737488355328/\0+l<=9223372036854775807/\∀(i:O)(j:Nat)(k:Heap),cu aa e k (some (D d 0 none)) 0 i j (0+l)->bg aa k 74 6 i (0+l) j (g++h)->K (S i (0+l) j) [] k)):=by kernel_rfl
theorem XX{c:Nat}:
 (fV TryzMutsJ Tryz.f172 aa H [.v (S a l c)] [] K)=(
 Y 42 [S a l c] H fun b d=>∃e g h,b=S e g h/\(X aa H d->∃(i:LI)(j:LM),i [U 0] d/\∀(k:Int)(m:Heap),X aa H m->i [U k] m->(k<(g:Int)->∃n o,e=some (D n o none)/\0<=k/\k<(g:Int)/\∃(p q:Int)(r s:Bool)(t:Int)(u:O)(v w:Nat),(Bs m n o k p q r s t u v w)/\∀x:Nat,Y 163 [S u v w] m fun y z=>∃a1 b1 c1,y=S a1 b1 c1/\(X aa m z->∃d1 e1,e=some (D d1 e1 none)/\0<=k/\k<(g:Int)/\∃f1:KB,z d1=some f1/\KB.free f1=true/\aa<=d1/\e1+N k*6+4+1+1<=KB.size f1/\∀g1:Heap,kW z d1 (e1+N k*6+4+1) f1 [S a1 b1 c1] g1->∀h1:Int,h1=W Z (k+1)->i [U h1] g1/\j [U h1]<j [U k]))/\(¬k<(g:Int)->K (S e g h) [] m))):=by kernel_rfl
theorem vc45{c:Nat}{ag id:Int}:
 (fV TryzMutsJ Tryz.f245 aa H [.v (S a l c),.v (A #[U ag,U tr,B rp,B gd,U id,S a' l' c'])] [] K)=(
 (fun w1:LV=>∀(b d:Nat)(e:Heap),X aa H e->H d=none->e d=some (ay 74 w1)->∃(g:LI)(h:LM),g [S none 0 0,U 0,U 0] e/\∀(i:O)(j k:Nat)(m n:Int)(o:Heap),X aa H o->g [S i j k,U m,U n] o->(n<2->0<=n/\n<2/\∃p q r,zV [S a l c,S (some (D d 0 none)) 1 1] (N n*1)=some (S p q r)/\Y 102 [S p q r] o fun s t=>∃u,s=U u/\(X aa o t->(¬u=0->K (T #[S none 0 0,U u]) [] t)/\(¬¬u=0->∀v:Int,v=W Z (n+1)->[w1]=[w1]/\g [S i j k,U m,U v] t/\h [S i j k,U m,U v]<h [S i j k,U m,U n])))/\(¬n<2->Y 172 [S a l c] o fun p q=>∃r s t,p=S r s t/\(X aa o q->((s:Int)<40->∀(u:Nat)(v:Heap),X aa q v->q u=none->v u=some (ay 74 w1)->Y 172 [S (some (D u 0 none)) 1 1] v fun w x=>∃y z a1,w=S y z a1/\(X aa v x->∃b1 c1:List Value,bg aa x 74 6 r s t b1/\zo c1=z*6/\aM c1=true/\(z=0∨∃d1 e1,y=some (D d1 e1 none)/\ba x d1 e1 0 c1)/\(s+z)*56<=140737488355328/\s+z<=9223372036854775807/\∀(d1:O)(e1:Nat)(f1:Heap),cu aa x f1 r t d1 e1 (s+z)->bg aa f1 74 6 d1 (s+z) e1 (b1++c1)->K (T #[S d1 (s+z) e1,U 0]) [] f1))/\(¬(s:Int)<40->K (T #[S r s t,U 0]) [] q)))) [U ag,U tr,B rp,B gd,U id,S a' l' c']):=by kernel_rfl
theorem vc48{c:Nat}{tw:Bool}:
 (fV TryzMutsJ Tryz.f175 aa H [.v (S a l c),.v (U k),.v (B tw)] [] K)=(
 ∀b:Nat,(fun w1:LB=>Y 102 [S a l c] H fun d e=>∃g,d=U g/\(X aa H e->(¬g=0->K (T #[S none 0 0,A #[U 0,U 0,B false,B false,U 0,S none 0 0],U g]) [] e)/\(¬¬g=0->∃h:Prop,((k<0->w1=w1/\ak e e/\h)/\(¬k<0->w1=w1/\ak e e/\(h↔(l:Int)<=k)))/\(h->K (T #[S none 0 0,A #[U 0,U 0,B false,B false,U 0,S none 0 0],U 5]) [] e)/\(¬h->Y 172 [S a l c] e fun i j=>∃m n o,i=S m n o/\(X aa e j->∀p:Int,p=W Z (k+1)->0<=k/\k<=p/\p<=(o:Int)/\∀q:O,(k<(o:Int)->q=zA (fun r=>Addr.add r (N k*6)) m)->Y 172 [S q (N p-N k) (o-N k)] j fun r s=>∃t u v,r=S t u v/\(X aa j s->∃w x,t=some (D w x none)/\Int.ofNat 0<=0/\0<(u:Int)/\∃(y z:Int)(a1 b1:Bool)(c1:Int)(d1:O)(e1 f1:Nat),(C s w (x+0*6)=some (U y)/\C s w (x+0*6+1)=some (U z)/\C s w (x+0*6+2)=some (B a1)/\C s w (x+0*6+3)=some (B b1)/\C s w (x+0*6+4)=some (U c1)/\C s w (x+0*6+5)=some (S d1 e1 f1)/\True)/\∀g1:Nat,(tw=false->∀h1:Int,h1=W Z (k+1)->∃(i1:List Value)(j1 k1:Nat),k=(j1:Int)/\h1=(k1:Int)/\j1<=k1/\k1<=n/\n<=1000000/\bg aa s 74 6 m n o i1/\aM i1=true/\∀l1:Heap,cu aa s l1 m o m o (j1+(n-k1))->bg aa l1 74 6 m (j1+(n-k1)) o (List.take (j1*6) i1++List.drop (k1*6) i1)->K (T #[S m (j1+(n-k1)) o,A #[U y,U z,B a1,B b1,U c1,S d1 e1 f1],U 0]) [] l1)/\(¬tw=false->K (T #[S m n o,A #[U y,U z,B a1,B b1,U c1,S d1 e1 f1],U 0]) [] s))))))) [J b false 74 [U 0,U 0,B false,B false,U 0,S none 0 0]]):=by kernel_rfl
theorem XY{ag id:Int}{c:Nat}:
 (fV TryzMutsJ Tryz.f132 aa H [.v (A #[U ag,U tr,B rp,B gd,U id,S a l c]),.v (A #[U SA,U oK,B Wf,B CG,U nU,S a' l' c'])] [] K)=(
 ∀b d:Nat,(fun w1:LB=>∃e:Prop,((ag=SA->(tr=oK->∃g,aR Tryz.prog (aI BinOp.eql 4 (Operand.tmp 19) (Operand.tmp 21) (B rp) (B Wf)) (B g)/\(g=true->∃h,aR Tryz.prog (aI BinOp.eql 4 (Operand.tmp 26) (Operand.tmp 28) (B gd) (B CG)) (B h)/\(h=true->Y 56 [A #[U id,S a l c],A #[U nU,S a' l' c']] H fun i j=>∃k,i=B k/\(X aa H j->w1=w1/\ak H j/\(e↔k=true)))/\(¬h=true->w1=w1/\ak H H/\¬e))/\(¬g=true->w1=w1/\ak H H/\¬e))/\(¬tr=oK->w1=w1/\ak H H/\¬e))/\(¬ag=SA->w1=w1/\ak H H/\¬e))/\K (B (@decide e (zh e))) [] H) [J b false 74 [U ag,U tr,B rp,B gd,U id,S a l c],J d false 74 [U SA,U oK,B Wf,B CG,U nU,S a' l' c']]):=by kernel_rfl
theorem XZ{ag id:Int}{c:Nat}:
 (fV TryzMutsJ Tryz.f191 aa H [.v (A #[U ag,U tr,B rp,B gd,U id,S a l c]),.v (A #[U SA,U oK,B Wf,B CG,U nU,S a' l' c'])] [] K)=(
 ∀b d:Nat,(fun w1:LB=>∃e:Prop,((ag=SA->(tr=oK->∃g,aR Tryz.prog (aI BinOp.eql 4 (Operand.tmp 19) (Operand.tmp 21) (B rp) (B Wf)) (B g)/\(g=true->∃h,aR Tryz.prog (aI BinOp.eql 4 (Operand.tmp 26) (Operand.tmp 28) (B gd) (B CG)) (B h)/\(h=true->Y 77 [A #[U id,S a l c],A #[U nU,S a' l' c']] H fun i j=>∃k,i=B k/\(X aa H j->w1=w1/\ak H j/\(e↔k=true)))/\(¬h=true->w1=w1/\ak H H/\¬e))/\(¬g=true->w1=w1/\ak H H/\¬e))/\(¬tr=oK->w1=w1/\ak H H/\¬e))/\(¬ag=SA->w1=w1/\ak H H/\¬e))/\K (B (@decide e (zh e))) [] H) [J b false 74 [U ag,U tr,B rp,B gd,U id,S a l c],J d false 74 [U SA,U oK,B Wf,B CG,U nU,S a' l' c']]):=by kernel_rfl
theorem Uz{c:Nat}:
 (fV TryzMutsJ Tryz.f131 aa H [.v (S a l c),.v (S a' l' c'),.v (.func (.func 132) #[] #[])] [] K)=(
 (¬(l:Int)=(l':Int)->K (B false) [] H)/\(¬¬(l:Int)=(l':Int)->∃(b:LI)(d:LM),b [B false,U 0] H/\∀(e:Bool)(g:Int)(h:Heap),X aa H h->b [B e,U g] h->(g<(l:Int)->∃i j,a=some (D i j none)/\0<=g/\g<(l:Int)/\∃(k m:Int)(n o:Bool)(p:Int)(q:O)(r s:Nat),(Bs h i j g k m n o p q r s)/\∀t:Nat,∃u v,a'=some (D u v none)/\0<=g/\g<(l':Int)/\∃(w x:Int)(y z:Bool)(a1:Int)(b1:O)(c1 d1:Nat),(Bs h u v g w x y z a1 b1 c1 d1)/\∀e1:Nat,Y 132 [A #[U k,U m,B n,B o,U p,S q r s],A #[U w,U x,B y,B z,U a1,S b1 c1 d1]] h fun f1 g1=>∃h1,f1=B h1/\(X aa h g1->(h1=false->K (B false) [] g1)/\(¬h1=false->∀i1:Int,i1=W Z (g+1)->b [B e,U i1] g1/\d [B e,U i1]<d [B e,U g])))/\(¬g<(l:Int)->K (B true) [] h))):=by kernel_rfl
theorem UA{c:Nat}:
 (fV TryzMutsJ Tryz.f131 aa H [.v (S a l c),.v (S a' l' c'),.v (.func (.func 191) #[] #[])] [] K)=(
 (¬(l:Int)=(l':Int)->K (B false) [] H)/\(¬¬(l:Int)=(l':Int)->∃(b:LI)(d:LM),b [B false,U 0] H/\∀(e:Bool)(g:Int)(h:Heap),X aa H h->b [B e,U g] h->(g<(l:Int)->∃i j,a=some (D i j none)/\0<=g/\g<(l:Int)/\∃(k m:Int)(n o:Bool)(p:Int)(q:O)(r s:Nat),(Bs h i j g k m n o p q r s)/\∀t:Nat,∃u v,a'=some (D u v none)/\0<=g/\g<(l':Int)/\∃(w x:Int)(y z:Bool)(a1:Int)(b1:O)(c1 d1:Nat),(Bs h u v g w x y z a1 b1 c1 d1)/\∀e1:Nat,Y 191 [A #[U k,U m,B n,B o,U p,S q r s],A #[U w,U x,B y,B z,U a1,S b1 c1 d1]] h fun f1 g1=>∃h1,f1=B h1/\(X aa h g1->(h1=false->K (B false) [] g1)/\(¬h1=false->∀i1:Int,i1=W Z (g+1)->b [B e,U i1] g1/\d [B e,U i1]<d [B e,U g])))/\(¬g<(l:Int)->K (B true) [] h))):=by kernel_rfl
theorem vc47(a a':O)(l c l' c':Nat)(aa:Nat)(H:Heap)(K:KT):
 (fV TryzMutsJ Tryz.f44 aa H [.v (S a l c),.v (S a' l' c')] [] K)=(
 Y 131 [S a l c,S a' l' c',Value.func (Fn.func 132) #[] #[]] H fun b d=>∃e,b=B e/\(X aa H d->K (B e) [] d)):=by kernel_rfl
theorem vc51(a a':O)(l c l' c':Nat)(aa:Nat)(H:Heap)(K:KT):
 (fV TryzMutsJ Tryz.f115 aa H [.v (S a l c),.v (S a' l' c')] [] K)=(
 Y 131 [S a l c,S a' l' c',Value.func (Fn.func 191) #[] #[]] H fun b d=>∃e,b=B e/\(X aa H d->K (B e) [] d)):=by kernel_rfl
theorem X0(aa:Nat)(H:Heap)(K:KT):
 (fV TryzMutsJ Tryz.f72 aa H [] [] K)=(
 ∀(a b:Nat)(c:Heap),X aa H c->H b=none->c b=some (ay 91 [U 1,U 2,U 2,U 1])->K (A #[U 2,S (some (D b 0 none)) 2 2]) [] c):=by kernel_rfl
open Go Go.Proofs
theorem X1{c:Int}:
 (fV TryzMutsJ Tryz.f266 aa H [.v (.string s),.v (.int .u8 c)] [] K)=(
 ∃a,pw Tryz.prog H 286 [bH s,I IntKind.u8 c] (U a)/\K (U a) [] H):=by kernel_rfl
abbrev SE(m:Int)(r:Heap)(c:UInt8)(x:Int)(aa:Nat)(s:ByteArray)(w1:LV)(K:KT)(i:LI)(k:Int)(j:LM)(l:Int):Prop:=
 ∀y:Int,y=W Z (m+1)->∃z:Prop,(∃a1,C r 0 0=some (U a1)/\((↑(zp (ByteArray.mk #[c])):Int)<=a1->Y 268 [U x] r fun b1 c1=>∃d1,b1=U d1/\(X aa r c1->ak r c1/\(z↔d1<y)))/\(¬(↑(zp (ByteArray.mk #[c])):Int)<=a1->ak r r/\¬z))/\(z->0<=x/\x<=(↑(zp s):Int)/\∃a1,pw Tryz.prog r 267 w1 (U a1)/\(0<=a1->∀b1:Int,b1=W Z (a1+x)->K (U b1) [] r)/\(¬0<=a1->K (U (-1)) [] r))/\(¬z->∃a1:Prop,(∃b1,C r 0 0=some (U b1)/\(b1<(↑(zp (ByteArray.mk #[c])):Int)->False)/\(¬b1<(↑(zp (ByteArray.mk #[c])):Int)->ak r r/\¬a1))/\(a1->0<=x/\x<=(↑(zp s):Int)/\Y 269 w1 r fun b1 c1=>∃d1,b1=U d1/\(X aa r c1->(d1<0->K (U (-1)) [] c1)/\(¬d1<0->∀e1:Int,e1=W Z (x+d1)->K (U e1) [] c1)))/\(¬a1->i [U k,U x,U y] r/\j [U k,U x,U y]<j [U k,U l,U m]))
abbrev SF(v:Int)(s:ByteArray)(e:Int)(c:UInt8)(r:Heap)(w:Prop):Prop:=
 ∀x:Int,x=W Z (v+1)->∃y:Int,aR Tryz.prog (Instr.index 9 (bH s) (U x)) (I IntKind.u8 y)/\(y=e->∀z:Int,z=W Z (v+(↑(zp (ByteArray.mk #[c])):Int))->0<=v/\v<=z/\z<=(↑(zp s):Int)/\∃a1,aR Tryz.prog (aI BinOp.eql 9 (Operand.tmp 90) (Operand.tmp 91) (bH (ye s (N v) (N z))) (bH (ByteArray.mk #[c]))) (B a1)/\ak r r/\(w↔a1=true))/\(¬y=e->ak r r/\¬w)
theorem X2{c:UInt8}:
 (fV TryzMutsJ Tryz.f247 aa H [.v (.string s),.v (.string ⟨#[c]⟩)] [] K)=(
 ∃a:Prop,(((↑(zp (ByteArray.mk #[c])):Int)=0->ak H H/\a)/\(¬(↑(zp (ByteArray.mk #[c])):Int)=0->∃b,aR Tryz.prog (aI BinOp.eql 9 (Operand.tmp 20) (Operand.tmp 21) (bH (ByteArray.mk #[c])) (bH s)) (B b)/\ak H H/\(a↔b=true)))/\(a->K (U 0) [] H)/\(¬a->((↑(zp (ByteArray.mk #[c])):Int)=1->∃b:Int,aR Tryz.prog (Instr.index 9 (bH (ByteArray.mk #[c])) (U 0)) (I IntKind.u8 b)/\Y 266 [bH s,I IntKind.u8 b] H fun d e=>∃g,d=U g/\(X aa H e->K (U g) [] e))/\(¬(↑(zp (ByteArray.mk #[c])):Int)=1->((↑(zp s):Int)<=(↑(zp (ByteArray.mk #[c])):Int)->K (U (-1)) [] H)/\(¬(↑(zp s):Int)<=(↑(zp (ByteArray.mk #[c])):Int)->∃b:Prop,(∃d,C H 0 0=some (U d)/\((↑(zp (ByteArray.mk #[c])):Int)<=d->ak H H/\(b↔(↑(zp s):Int)<=64))/\(¬(↑(zp (ByteArray.mk #[c])):Int)<=d->ak H H/\¬b))/\(b->∃d,pw Tryz.prog H 267 [bH s,bH (ByteArray.mk #[c])] (U d)/\K (U d) [] H)/\(¬b->∃d:Int,aR Tryz.prog (Instr.index 9 (bH (ByteArray.mk #[c])) (U 0)) (I IntKind.u8 d)/\∃e:Int,aR Tryz.prog (Instr.index 9 (bH (ByteArray.mk #[c])) (U 1)) (I IntKind.u8 e)/\∀g:Int,g=W Z ((↑(zp s):Int)-(↑(zp (ByteArray.mk #[c])):Int))->∀h:Int,h=W Z (g+1)->∃(i:LI)(j:LM),i [U 0,U 0,U 0] H/\∀(k l m:Int)(n:Heap),X aa H n->i [U k,U l,U m] n->(l<h->∃o:Int,aR Tryz.prog (Instr.index 9 (bH s) (U l)) (I IntKind.u8 o)/\(¬o=d->∀p:Int,p=W Z (l+1)->0<=p/\p<=h/\h<=(↑(zp s):Int)/\Y 266 [bH (ye s (N p) (N h)),I IntKind.u8 d] n fun q r=>∃t,q=U t/\(X aa n r->(t<0->K (U (-1)) [] r)/\(¬t<0->∀u:Int,u=W Z (t+1)->∀v:Int,v=W Z (l+u)->∃w:Prop,(SF v s e c r w)/\(w->K (U v) [] r)/\(¬w->∀x:Int,(fun w1:LV=>x=W Z (v+1)->SE m r c x aa s w1 K i k j l) [bH (ye s (N x) (zp s)),bH (ByteArray.mk #[c])]))))/\(¬¬o=d->∃
 p:Prop,(SF l s e c n p)/\(p->K (U l) [] n)/\(¬p->∀q:Int,(fun w2:LV=>q=W Z (l+1)->SE m n c q aa s w2 K i k j l) [bH (ye s (N q) (zp s)),bH (ByteArray.mk #[c])])))/\(¬l<h->K (U (-1)) [] n)))))):=by kernel_rfl
theorem X3:
 (fV TryzMutsJ Tryz.f239 aa H [.v (.string s),.v (.string t)] [] K)=(
 Y 247 [bH s,bH t] H fun a b=>∃c,a=U c/\(X aa H b->K (U c) [] b)):=by kernel_rfl
theorem X4:
 (fV TryzMutsJ Tryz.f213 aa H [.v (.string s),.v (.string t)] [] K)=(
 Y 239 [bH s,bH t] H fun a b=>∃c,a=U c/\(X aa H b->K (B (decide (0<=c))) [] b)):=by kernel_rfl
theorem X5:
 (fV TryzMutsJ Tryz.f230 aa H [.v (U k)] [] K)=(
 0<=k/\k<10/\∃a,zV [bH (ByteArray.mk #[]),bH (ByteArray.mk #[116,114]),bH (ByteArray.mk #[116]),bH (ByteArray.mk #[116,103]),bH (ByteArray.mk #[114]),bH (ByteArray.mk #[110]),bH (ByteArray.mk #[97,116]),bH (ByteArray.mk #[97,116,103]),bH (ByteArray.mk #[]),bH (ByteArray.mk #[])] (N k*1)=some (bH a)/\K (bH a) [] H):=by kernel_rfl
theorem X6:
 (fV TryzMutsJ Tryz.f229 aa H [.v (.string t),.v (.pointer (some ⟨p,0,none⟩))] [] K)=(
 ∃a,C H p 0=some (U a)/\Y 230 [U a] H fun b c=>∃d,b=bH d/\(X aa H c->Y 213 [bH d,bH t] c fun e g=>∃h,e=B h/\(X aa c g->K (B h) [] g))):=by kernel_rfl
theorem X7:
 (fV TryzMutsJ Tryz.f212 aa H [.v (.string t),.v (.pointer (some ⟨p,0,none⟩))] [] K)=(
 ∃a,C H p 0=some (bH a)/\Y 213 [bH a,bH t] H fun b c=>∃d,b=B d/\(X aa H c->K (B d) [] c)):=by kernel_rfl
abbrev xn(i:Heap)(w1:LB)(k:Heap):Prop:=
 ∀(m:Nat)(o:KB),i m=some o->(∀p:Bx,p∈w1->m≠Bx.b p)->k m=some o
abbrev SG(rz:Heap)(b:Nat)(kd ag tr n:Int)(gd:Bool)(id:Int)(a:O)(l c aa:Nat)(w1:LB)(H:Heap)(φ:Prop):Prop:=
 true=true/\∀d:Heap,X 0 rz d->d b=some (ay 126 [U kd,U ag,U tr,U n,B gd,U id,S a l c])/\True->Y 229 [bH (ByteArray.mk #[114]),P (some (D b 0 none))] d fun e g=>∃h,e=B h/\∀i,X aa rz i->(xn g w1 i)->(h=false->(¬id=0->w1=w1/\ak H i/\φ)/\(¬¬id=0->w1=w1/\ak H i/\(φ↔0<(l:Int))))/\(¬h=false->w1=w1/\ak H i/\¬φ)
abbrev KD(kd ag tr n id:Int)(gd:Bool)(a:O)(l c:Nat)(aa:Nat)(H:Heap)(K:KT)(SH:Bool)(b:Nat)(rz:Heap)(φ:Prop):Prop:=
 (fun w1:LB=>SH=false->(gd=true->w1=w1/\ak H rz/\φ)/\(gd=false->SG rz b kd ag tr n gd id a l c aa w1 H φ)) [J b false 126 [U kd,U ag,U tr,U n,B gd,U id,S a l c]]
abbrev KE(kd ag tr n id:Int)(gd:Bool)(a:O)(l c:Nat)(aa:Nat)(H:Heap)(K:KT)(SH:Bool)(rz:Heap)(b:Nat)(φ:Prop):Prop:=
 (fun w1:LB=>¬SH=false->SG rz b kd ag tr n gd id a l c aa w1 H φ) [J b false 126 [U kd,U ag,U tr,U n,B gd,U id,S a l c]]
abbrev KF(kd ag tr n id:Int)(gd:Bool)(a:O)(l c:Nat)(aa:Nat)(H:Heap)(K:KT)(uo:Bool)(b:Nat)(H':Heap)(φ:Prop):Prop:=
 (fun w1:LV=>uo=false->(¬n=0->[J b false 126 w1]=[J b false 126 w1]/\ak H H'/\φ)/\(¬¬n=0->true=true/\∀d:Heap,X 0 H' d->d b=some (ay 126 w1)/\True->Y 229 [bH (ByteArray.mk #[103]),P (some (D b 0 none))] d fun e g=>∃h,e=B h/\∀i,X aa H' i->(∀(j:Nat)(k:KB),g j=some k->(∀m:Bx,m∈ [J b false 126 w1]->j≠Bx.b m)->i j=some k)->(KD kd ag tr n id gd a l c aa H K h b i φ)/\(KE kd ag tr n id gd a l c aa H K h i b φ))) [U kd,U ag,U tr,U n,B gd,U id,S a l c]
abbrev KG(kd ag tr n id:Int)(gd:Bool)(a:O)(l c:Nat)(aa:Nat)(H:Heap)(K:KT)(uo:Bool)(H':Heap)(b:Nat)(φ:Prop):Prop:=
 ¬uo=false->true=true/\∀d:Heap,X 0 H' d->d b=some (ay 126 [U kd,U ag,U tr,U n,B gd,U id,S a l c])/\True->Y 229 [bH (ByteArray.mk #[103]),P (some (D b 0 none))] d fun e g=>∃h,e=B h/\∀i,X aa H' i->(∀(j:Nat)(k:KB),g j=some k->(∀m:Bx,m∈ [J b false 126 [U kd,U ag,U tr,U n,B gd,U id,S a l c]]->j≠Bx.b m)->i j=some k)->(KD kd ag tr n id gd a l c aa H K h b i φ)/\(KE kd ag tr n id gd a l c aa H K h i b φ)
abbrev Of(m:Heap)(b:Nat)(w4 w2:LV)(aa:Nat)(w1:LB)(n:Int)(H:Heap)(g:Prop):Prop:=
 true=true/\∀o:Heap,X 0 m o->o b=some (ay 126 w4)/\True->Y 229 w2 o fun p q=>∃r,p=B r/\∀s,X aa m s->(xn q w1 s)->(r=true->(n<1->w1=w1/\ak H s/\g)/\(¬n<1->w1=w1/\ak H s/\(g↔6<n)))/\(r=false->w1=w1/\ak H s/\¬g)
abbrev SI(k:Heap)(b:Nat)(w4 w3:LV)(aa:Nat)(w1:LB)(tr:Int)(H:Heap)(e:Prop)(w2:LV)(kd ag n id:Int)(gd:Bool)(a:O)(l c:Nat)(K:KT):Prop:=
 true=true/\∀m:Heap,X 0 k m->m b=some (ay 126 w4)/\True->Y 229 w3 m fun o p=>∃q,o=B q/\∀r,X aa k r->(xn p w1 r)->(q=false->(¬tr=0->w1=w1/\ak H r/\e)/\(¬¬tr=0->true=true/\∀s:Heap,X 0 r s->s b=some (ay 126 w4)/\True->Y 229 w2 s fun t u=>∃v,t=B v/\∀w,X aa r w->(xn u w1 w)->(KF kd ag tr n id gd a l c aa H K v b w e)/\(KG kd ag tr n id gd a l c aa H K v w b e)))/\(¬q=false->true=true/\∀s:Heap,X 0 r s->s b=some (ay 126 w4)/\True->Y 229 w2 s fun t u=>∃v,t=B v/\∀w,X aa r w->(xn u w1 w)->(KF kd ag tr n id gd a l c aa H K v b w e)/\(KG kd ag tr n id gd a l c aa H K v w b e))
theorem X8(kd ag tr n id:Int)(gd:Bool)(a:O)(l c:Nat)(aa:Nat)(H:Heap)(K:KT):
 (fV TryzMutsJ Tryz.f198 aa H [.v (A #[U kd,U ag,U tr,U n,B gd,U id,S a l c])] [] K)=(
 (fun w4:LV=>∀b:Nat,(fun w3:LV=>(fun w2:LV=>(fun w1:LB=>∃d:Prop,((kd<1->w1=w1/\ak H H/\d)/\(¬kd<1->w1=w1/\ak H H/\(d↔9<kd)))/\(d->K (U 4) [] H)/\(¬d->∃e:Prop,(true=true/\∀g:Heap,X 0 H g->g b=some (ay 126 w4)/\True->Y 229 [bH (ByteArray.mk #[97]),P (some (D b 0 none))] g fun h i=>∃j,h=B j/\∀k,X aa H k->(xn i w1 k)->(j=false->(¬ag=0->w1=w1/\ak H k/\e)/\(¬¬ag=0->SI k b w4 w3 aa w1 tr H e w2 kd ag n id gd a l c K))/\(¬j=false->SI k b w4 w3 aa w1 tr H e w2 kd ag n id gd a l c K))/\(e->K (U 4) [] H)/\(¬e->∃g:Prop,((ag<0->w1=w1/\ak H H/\g)/\(¬ag<0->(6<=ag->w1=w1/\ak H H/\g)/\(¬6<=ag->true=true/\∀h:Heap,X 0 H h->h b=some (ay 126 w4)/\True->Y 229 w3 h fun i j=>∃k,i=B k/\∀m,X aa H m->(xn j w1 m)->(k=true->(tr<1->w1=w1/\ak H m/\g)/\(¬tr<1->(200<tr->w1=w1/\ak H m/\g)/\(¬200<tr->Of m b w4 w2 aa w1 n H g)))/\(k=false->Of m b w4 w2 aa w1 n H g))))/\(g->K (U 3) [] H)/\(¬g->true=true/\∀h:Heap,X 0 H h->h b=some (ay 126 w4)/\True->Y 229 [bH (ByteArray.mk #[114]),P (some (D b 0 none))] h fun i j=>∃k,i=B k/\∀m,X aa H m->(xn j w1 m)->(k=true->Y 167 [A #[U id,S a l c]] m fun o p=>∃q,o=U q/\(X aa m p->K (U q) [] p))/\(k=false->K (U 0) [] m))))) [J b false 126 w4]) [bH (ByteArray.mk #[110]),P (some (D b 0 none))]) [bH (ByteArray.mk #[116]),P (some (D b 0 none))]) [U kd,U ag,U tr,U n,B gd,U id,S a l c]):=by kernel_rfl
abbrev KH(w:Heap)(s:Nat)(q:ByteArray)(y:Heap):Prop:=
 ∀(z:Nat)(a1:KB),w z=some a1->(∀b1:Bx,b1∈ [J s false 9 [bH q]]->z≠Bx.b b1)->y z=some a1
abbrev Og(H':Heap)(uo:Nat)(s:ByteArray)(w2:LV)(aa:Nat)(id:Int)(a:O)(l c:Nat)(K:KT):Prop:=
 true=true/\∀d:Heap,X 0 H' d->d uo=some (ay 9 [bH s])/\True->Y 212 w2 d fun e g=>∃h,e=B h/\∀i,X aa H' i->(KH g uo s i)->(h=true->Y 84 [A #[U id,S a l c]] i fun j k=>∃m,j=U m/\(X aa i k->K (U m) [] k))/\(h=false->K (U 0) [] i)
abbrev KI(kd ag tr n id:Int)(gd:Bool)(a:O)(l c:Nat)(aa:Nat)(H:Heap)(K:KT)(H':Heap)(SH:Bool)(uo:Nat)(s:ByteArray)(b:Nat)(u0:Nat)(oI:List Value):Prop:=
 (fun w2:LV=>(fun w1:LB=>X aa H H'->(SH=false->(SH=false->K (U 3) [] H')/\(¬SH=false->Og H' uo s w2 aa id a l c K))/\(¬SH=false->∃d:Prop,(true=true/\∀e:Heap,X 0 H' e->e uo=some (ay 9 [bH s])/\True->Y 212 [bH (ByteArray.mk #[84]),P (some (D uo 0 none))] e fun g h=>∃i,g=B i/\∀j,X aa H' j->(KH h uo s j)->(i=true->Y 92 [U tr,U 1,U 200] j fun k m=>∃o,k=B o/\(X aa j m->w1=w1/\ak H' m/\(d↔o=false)))/\(i=false->w1=w1/\ak H' j/\¬d))/\(d->(d->K (U 3) [] H')/\(¬d->Og H' uo s w2 aa id a l c K))/\(¬d->∃e:Prop,(true=true/\∀g:Heap,X 0 H' g->g uo=some (ay 9 [bH s])/\True->Y 212 [bH (ByteArray.mk #[78]),P (some (D uo 0 none))] g fun h i=>∃j,h=B j/\∀k,X aa H' k->(KH i uo s k)->(j=true->Y 92 [U n,U 1,U 6] k fun m o=>∃p,m=B p/\(X aa k o->w1=w1/\ak H' o/\(e↔p=false)))/\(j=false->w1=w1/\ak H' k/\¬e))/\(e->K (U 3) [] H')/\(¬e->Og H' uo s w2 aa id a l c K)))) [J b false 126 [U kd,U ag,U tr,U n,B gd,U id,S a l c],J u0 true 246 oI,J uo false 9 [bH s]]) [bH (ByteArray.mk #[82]),P (some (D uo 0 none))]
abbrev Gs(v:Value)(aa:Nat)(H w:Heap)(s:Nat)(q:ByteArray)(w1:LB)(t:Prop):Prop:=
 ∃x,v=B x/\∀y,X aa H y->(KH w s q y)->w1=w1/\ak H y/\(t↔x=false)
abbrev Oh(H:Heap)(s:Nat)(q:ByteArray)(aa:Nat)(w1:LB)(x:Prop):Prop:=
 true=true/\∀y:Heap,X 0 H y->y s=some (ay 9 [bH q])/\True->Y 212 [bH (ByteArray.mk #[82]),P (some (D s 0 none))] y fun z a1=>Gs z aa H a1 s q w1 x
abbrev Gt(t:Prop)(K:KT)(H:Heap)(ag kd tr n id:Int)(gd:Bool)(a:O)(l c aa s:Nat)(q:ByteArray)(b d:Nat)(p:List Value):Prop:=
 (t->K (U 4) [] H)/\(¬t->Y 92 [U ag,U 0,U 5] H fun u v=>∃w,u=B w/\(KI kd ag tr n id gd a l c aa H K v w s q b d p))
theorem X9(kd ag tr n id:Int)(gd:Bool)(a:O)(l c:Nat)(aa:Nat)(H:Heap)(K:KT):
 (fV TryzMutsJ Tryz.f156 aa H [.v (A #[U kd,U ag,U tr,U n,B gd,U id,S a l c])] [] K)=(
 ∀b d:Nat,∃e:List Value,bI (U 1) (bH (ByteArray.mk #[84,82])) []=some e/\∃g:List Value,bI (U 2) (bH (ByteArray.mk #[84])) e=some g/\∃h:List Value,bI (U 3) (bH (ByteArray.mk #[84,71])) g=some h/\∃i:List Value,bI (U 4) (bH (ByteArray.mk #[82])) h=some i/\∃j:List Value,bI (U 5) (bH (ByteArray.mk #[78])) i=some j/\∃k:List Value,bI (U 6) (bH (ByteArray.mk #[65,84])) j=some k/\∃m:List Value,bI (U 7) (bH (ByteArray.mk #[65,84,71])) k=some m/\∃o:List Value,bI (U 8) (bH (ByteArray.mk #[])) m=some o/\∃p:List Value,bI (U 9) (bH (ByteArray.mk #[])) o=some p/\∃(q:ByteArray)(r:Bool),ii (bH (ByteArray.mk #[])) (U kd) p=some (bH q,r)/\∀s:Nat,(fun w1:LB=>(r=false->(r=false->K (U 4) [] H)/\(¬r=false->Y 92 [U ag,U 0,U 5] H fun t u=>∃v,t=B v/\(KI kd ag tr n id gd a l c aa H K u v s q b d p)))/\(¬r=false->∃t:Prop,((¬ag=0->true=true/\∀u:Heap,X 0 H u->u s=some (ay 9 [bH q])/\True->Y 212 [bH (ByteArray.mk #[65]),P (some (D s 0 none))] u fun v w=>Gs v aa H w s q w1 t)/\(¬¬ag=0->w1=w1/\ak H H/\¬t))/\(t->Gt t K H ag kd tr n id gd a l c aa s q b d p)/\(¬t->∃u:Prop,((¬tr=0->true=true/\∀v:Heap,X 0 H v->v s=some (ay 9 [bH q])/\True->Y 212 [bH (ByteArray.mk #[84]),P (some (D s 0 none))] v fun w x=>Gs w aa H x s q w1 u)/\(¬¬tr=0->w1=w1/\ak H H/\¬u))/\(u->Gt u K H ag kd tr n id gd a l c aa s q b d p)/\(¬u->∃v:Prop,((¬n=0->true=true/\∀w:Heap,X 0 H w->w s=some (ay 9 [bH q])/\True->Y 212 [bH (ByteArray.mk #[78]),P (some (D s 0 none))] w fun x y=>Gs x aa H y s q w1 v)/\(¬¬n=0->w1=w1/\ak H H/\¬v))/\(v->Gt v K H ag kd tr n id gd a l c aa s q b d p)/\(¬v->∃w:Prop,((gd=true->true=true/\∀x:Heap,X 0 H x->x s=some (ay 9 [bH q])/\True->Y 212 [bH (ByteArray.mk #[71]),P (some (D s 0 none))] x fun y z=>Gs y aa H z s q w1 w)/\(gd=false->w1=w1/\ak H H/\¬w))/\(w->Gt w K H ag kd tr n id gd a l c
 aa s q b d p)/\(¬w->∃x:Prop,((¬id=0->Oh H s q aa w1 x)/\(¬¬id=0->(0<(l:Int)->Oh H s q aa w1 x)/\(¬0<(l:Int)->w1=w1/\ak H H/\¬x)))/\Gt x K H ag kd tr n id gd a l c aa s q b d p)))))) [J b false 126 [U kd,U ag,U tr,U n,B gd,U id,S a l c],J d true 246 p,J s false 9 [bH q]]):=by kernel_rfl
open Go Go.Proofs
def j7(o:Step):List Value:=[i64 o.ae,i64 o.name,i64 o.fi]
theorem jA(o:Step):(j7 o).length=3:=rfl
abbrev Steps(H:Heap)(a:O)(n:Nat)(l:List Step):Prop:=Sl (gT j7) 3 H a n l
theorem Steps.ext'{l:List Step}(h:Steps H a n l)(e:aH H H'):Steps H' a n l:=Sl.ext gT.mono h e
theorem Sl.step{xs:List Step}(h:Steps H a n xs)(e:aH H H')(h0:0<=k)(h1:k<n){F:Int->Int->Int->Prop}(hF:∀p,xs[k.toNat]?=some p->F p.ae p.name p.fi):
  ∃(b o:Nat),a=some ⟨b,o,none⟩/\0<=k/\k<n/\∃(x y z:Int),(H'.cell b (o+k.toNat*3)=some (.int .i64 x)/\H'.cell b (o+k.toNat*3+1)=some (.int .i64 y)/\H'.cell b (o+k.toNat*3+2)=some (.int .i64 z)/\True)/\F x y z:=by
 obtain⟨b,o,r,x,ha,hx,hr,hc⟩:=h.get h0 h1;obtain rfl:r=j7 x:=hr;exact⟨b,o,ha,h0,h1,_,_,_,⟨Heap.aJ e (hc 0 _ rfl),Heap.aJ e (hc 1 _ rfl),Heap.aJ e (hc 2 _ rfl),trivial⟩,hF x hx⟩
theorem nh{α:Type}(dk:α->List Value)(out:List α)(x:α):(out++[x]).flatMap dk=out.flatMap dk++dk x:=by simp
theorem sC{c:Nat}{xs:List Step}(h:bg aa H e 3 a n c (xs.flatMap j7)):xs.length=n:=Km jA (by omega) h
theorem Ya{c:Nat}(hx:aL H a l xs)(hy:aL H a' l' ys):
  Sp 57 [.slice a l c,.slice a' l' c'] H fun v H'=>∃a n c,v= .tuple #[.slice a n c,i64 (eO xs ys)]/\Steps H' a n (if eO xs ys=0 then jz xs ys else []):=by
 refine bh Tryz.func57 (fun _ _=>vc54) fun aa hb=>?_;have nb:=hx.len;have uk:=hy.len;refine⟨fun vs Hc=>∃(a1:O)(n1 c1:Nat)(d:Int)(k:Nat),vs=[.slice a1 n1 c1,i64 d,i64 k]/\k<=2/\(0<k->aZ xs=0)/\(1<k->aZ ys=0),aN 2 2,⟨none,0,0,0,0,rfl,by omega,by omega,by omega⟩,fun a1 n1 c1 d n H' hN hI=>?_⟩;obtain⟨Kx,Qq,Ky,d',k,cv,hk,Ql,NE⟩:=hI;obtain⟨⟨rfl,rfl,rfl⟩,rfl,rfl⟩:(a1=Kx/\n1=Qq/\c1=Ky)/\d=d'/\n=(k:Int):=by simpa using cv
 refine⟨fun bK=>⟨by omega,bK,?_⟩,fun gj=>?_⟩
 ·by_cases k0:k=0
  ·subst k0;refine⟨a,l,c,rfl,(jc (hx.ext' hN.ext)).bY fun H1 e1 fh=>⟨fun h=>?_,fun h=>?_⟩⟩
   ·have e:eO xs ys=aZ xs:=by rw[eO,nI h]
    rw[e,nI h];exact⟨none,0,0,rfl,Sl.nil⟩
   ·rintro r rfl;rw[wrap_small];exact⟨⟨_,_,_,_,1,rfl,by omega,fun _=>zx.1 h,by omega⟩,by simp[aN]⟩
  ·obtain rfl:k=1:=by omega
   refine⟨a',l',c',rfl,(jc (hy.ext' hN.ext)).bY fun H1 e1 fh=>⟨fun h=>?_,fun h=>?_⟩⟩
   ·have e:eO xs ys=aZ ys:=by rw[eO,pI (Ql (by omega))]
    rw[e,nI h];exact⟨none,0,0,rfl,Sl.nil⟩
   ·rintro r rfl;rw[wrap_small];exact⟨⟨_,_,_,_,2,rfl,by omega,fun _=>Ql (by omega),fun _=>zx.1 h⟩,by simp[aN]⟩
 obtain rfl:k=2:=by omega
 have hz:eO xs ys=0:=by rw[eO,pI (Ql (by omega))];exact NE (by omega)
 obtain⟨⟨hLx,hx12⟩,hLy,hy12⟩:=mQ.1 hz;rw[hz,pI rfl]
 refine⟨fun vs Hc=>∃(out:List Step)(a1:O)(n1 c1:Nat)(k:Nat),vs=[.slice a1 n1 c1,i64 k]/\bg aa Hc 182 3 a1 n1 c1 (out.flatMap j7)/\k<=l/\out.length<=k/\out++(xs.drop k).filterMap (ly ys)=o8 xs ys,aN l 1,
  ⟨[],none,0,0,0,rfl,bg.nil,by omega,by simp,rfl⟩,fun a3 n3 c3 n H3 fS hI=>?_⟩
 obtain⟨out,xp,Gu,xq,k,cv,hR,hk,hol,hI⟩:=hI;obtain⟨⟨rfl,rfl,rfl⟩,rfl⟩:(a3=xp/\n3=Gu/\c3=xq)/\n=(k:Int):=by simpa using cv
 have hon:=sC hR;refine⟨fun bK=>hx.LY fS.ext (by omega) bK fun p hp=>?_,fun gj=>?_⟩
 ·rw[zz] at hp;rw[av hp] at hI;intro _;refine(Kz (hy.ext' fS.ext) p.name).bY fun H4 e4 iC=>⟨fun h=>?_,fun h=>?_⟩
  ·rw[zR (b:=⟨2,p.name,0⟩) (by rw[ly,pI h])] at hI;refine fun _=>⟨_,hR.ext e4,by omega,by omega,fun a5 c5 H5 hG pd=>?_⟩
   rintro r rfl;rw[wrap_small];exact⟨⟨out++[⟨2,p.name,0⟩],a5,_,c5,k+1,rfl,by rw[nh];exact pd,by omega,by simp;omega,by simpa using hI⟩,by simp[aN];omega⟩
  ·rw[zf (by rw[ly,nI h])] at hI;rintro r rfl;rw[wrap_small];exact⟨⟨out,_,_,_,k+1,rfl,hR.ext e4,by omega,by omega,hI⟩,by simp[aN];omega⟩
 rw[aK nb (by omega),List.filterMap_nil,zZ] at hI
 refine⟨fun vs Hc=>∃(out:List Step)(a1:O)(n1 c1:Nat)(k:Nat),vs=[.slice a1 n1 c1,i64 k]/\bg aa Hc 182 3 a1 n1 c1 (out.flatMap j7)/\k<=l'/\out.length<=k+l/\out++(ys.drop k).filterMap (o7 xs)=jz xs ys,aN l' 1,
  ⟨out,_,_,_,0,rfl,hR,by omega,by omega,by rw[hI];rfl⟩,fun a3 n3 c3 n H3 fS hI=>?_⟩
 obtain⟨out,xp,Gu,xq,k,cv,hR,hk,hol,hI⟩:=hI;obtain⟨⟨rfl,rfl,rfl⟩,rfl⟩:(a3=xp/\n3=Gu/\c3=xq)/\n=(k:Int):=by simpa using cv
 have hon:=sC hR;refine⟨fun bK=>hy.LY fS.ext (by omega) bK fun p hp=>?_,fun gj=>?_⟩
 ·rw[zz] at hp;rw[av hp] at hI;intro _;refine(Kz (hx.ext' fS.ext) p.name).bY fun H4 e4 iC=>⟨fun h=>?_,fun h=>⟨fun h0=>?_,fun h0=>?_⟩⟩
  ·rw[zf (by rw[o7,pI h])] at hI;rintro r rfl;rw[wrap_small];exact⟨⟨out,_,_,_,k+1,rfl,hR.ext e4,by omega,by omega,hI⟩,by simp[aN];omega⟩
  ·rw[zR (b:=⟨1,p.name,p.fi⟩) (by rw[o7,nI h,pI h0])] at hI;refine fun _=>⟨_,hR.ext e4,by omega,by omega,fun a5 c5 H5 hG pd=>?_⟩
   rintro r rfl;rw[wrap_small];exact⟨⟨out++[⟨1,p.name,p.fi⟩],a5,_,c5,k+1,rfl,by rw[nh];exact pd,by omega,by simp;omega,by simpa using hI⟩,by simp[aN];omega⟩
  ·rw[zR (b:=⟨3,p.name,p.fi⟩) (by rw[o7,nI h,nI h0])] at hI;refine fun _=>⟨_,hR.ext e4,by omega,by omega,fun a5 c5 H5 hG pd=>?_⟩
   rintro r rfl;rw[wrap_small];exact⟨⟨out++[⟨3,p.name,p.fi⟩],a5,_,c5,k+1,rfl,by rw[nh];exact pd,by omega,by simp;omega,by simpa using hI⟩,by simp[aN];omega⟩
 ·rw[aK uk (by omega),List.filterMap_nil,zZ] at hI;refine⟨a3,n3,c3,rfl,?_⟩;rw[←hI];exact ik jA (by omega) hR
theorem kH{c:Nat}(hx:aL H a l xs)(hl:l<=100000):Sp 163 [.slice a l c] H fun v H'=>∃a n c,v= .slice a n c/\bZ H H' 91 2 a n c (xs.flatMap dm):=by
 refine bh Tryz.func163 (fun _ _=>XW) fun aa hb=>⟨_,uZ Tryz.underlying22,fun h=>?_,fun h=>?_⟩
 ·obtain rfl:a=none:=by cases a<;>simp at h⊢
  obtain⟨_,rfl⟩:=hx.kC;exact⟨none,0,0,rfl,bZ.zero⟩
 ·intro g H1 fh _ hg;obtain⟨h1,h2,h3⟩:=hx.copied cJ (fun _=>rfl) fh.ext;exact⟨[],_,bg.zero,h1,h2,h3,by omega,by omega,fun a3 c3 H3 hG hR=>⟨_,_,_,rfl,hR.fresh hb⟩⟩
theorem Mj{c:Nat}(hx:aL H a l xs)(hp:H.cell p 1=some (i64 k)):
  Sp 147 [.slice a l c,.func (.func 234) #[] #[.pointer (some ⟨p,0,none⟩)]] H fun v _=>v=i64 (jN k 0 xs):=by
 have h120:∀ {H:Heap} {n v:Int},H.cell p 1=some (i64 k)->Sp 234 [.agg #[.int .i64 n,.int .i64 v],.pointer (some ⟨p,0,none⟩)] H fun r _=>r= .bool (decide (n=k)):=by
  intro H n v hp;refine bh Tryz.func234 (fun _ _=>XV) fun aa hb=>?_;intro _;exact⟨k,hp,rfl⟩
 refine bh Tryz.func147 (fun _ _=>Uy) fun aa hb=>?_;have hle:=hx.le;refine⟨fun vs _=>∃(d:Int)(i:Nat),vs=[i64 d,i64 i]/\i<=l/\jN k i (xs.drop i)=jN k 0 xs,aN l 1,⟨0,0,rfl,by omega,rfl⟩,fun d n H' hN hI=>?_⟩;obtain⟨d',i,cv,hi,hI⟩:=hI;obtain⟨rfl,rfl⟩:d=d'/\n=(i:Int):=by simpa using cv
 refine⟨fun bK=>hx.LY hN.ext (by omega) bK fun q hq=>?_,fun gj=>?_⟩
 ·rw[zz] at hq;rw[av hq,jN] at hI;refine(h120 (Heap.aJ hN.ext hp)).aO fun H2 _ _=>⟨fun h=>?_,fun h=>?_⟩
  ·rw[pI (by simpa using h)] at hI;rw[←hI]
  ·rw[nI (by simpa using h)] at hI;rintro r rfl;rw[aj];exact⟨⟨_,i+1,rfl,by omega,hI⟩,by simp[aN];omega⟩
 ·rw[←hI,aK hx.len (by omega),jN]
theorem SJ{n v:Int} :∀ {l:List Pin} {k:Nat},(∀p∈l.take k,p.name<n)->(∀p,l[k]?=some p->n<=p.name)->find l n=0->(∀p∈l,p.fi≠0)->k<=l.length->up n v l=l.take k++⟨n,v⟩::l.drop k
 | [],k,_,_,_,_,hk=>by simp at hk;subst hk;rfl
 |p::r,0,_,h2,hf,hv,_=>by
  have h:=h2 p rfl;have eE:p.name≠n:=fun e=>by rw[find,pI e] at hf;exact hv p zr hf
  unfold up
  rw[pI h,nI eE];rfl
 |p::r,k+1,h1,h2,hf,hv,hk=>by
  have h:=h1 p (by simp);have eE:p.name≠n:=by omega
  rw[find,nI eE] at hf;unfold up;rw[nI (by omega),SJ (k:=k) (fun q hq=>h1 q (by simp;exact .inr hq)) (fun q hq=>h2 q (by simpa using hq)) hf (fun q hq=>hv q (zj _ hq)) (by simpa using hk)];rfl
theorem Oi{n:Int} :∀ {l:List Pin} {k:Nat} {p:Pin},Lk l->l[k]?=some p->p.name=n->del n l=l.take k++l.drop (k+1)
 | [],k,p,_,h,_=>by simp at h
 |q::r,0,p,hl,h,hn=>by
  simp at h;subst h;unfold del;rw[List.filter_cons_of_neg (by simp[hn])];simp only[List.take_zero,List.nil_append,List.drop_one,List.tail_cons];refine List.filter_eq_self.2 fun x hx=>?_;have:=hl.head x hx
  simp;omega
 |q::r,k+1,p,hl,h,hn=>by
  have hm:p∈r:=zt (by simpa using h);have:=hl.head p hm;have ih:=Oi (n:=n) (k:=k) hl.tail (by simpa using h) hn;unfold del at ih⊢;rw[List.filter_cons_of_pos (by simp;omega),ih];rfl
theorem KJ{n v:Int} :∀ {l:List Pin} {k:Nat} {p:Pin},Lk l->l[k]?=some p->p.name=n->up n v l=l.set k ⟨n,v⟩
 | [],k,p,_,h,_=>by simp at h
 |q::r,0,p,hl,h,hn=>by
  simp at h;subst h;unfold up
  rw[pI (by omega),pI hn];rfl
 |q::r,k+1,p,hl,h,hn=>by
  have hm:p∈r:=zt (by simpa using h);have:=hl.head p hm;unfold up;rw[nI (by omega),KJ hl.tail (by simpa using h) hn];rfl
theorem wx{α:Type}{dk:α->List Value}{sz:Nat}(hs:∀x,(dk x).length=sz):∀(xs:List α)(k:Nat),(xs.flatMap dk).take (k*sz)=(xs.take k).flatMap dk
 | [],k=>by simp
 |x::r,0=>by simp
 |x::r,k+1=>by
  rw[yq,yz,List.take_succ_cons,yq,←wx hs r k,←hs x,Nat.add_comm,List.take_length_add_append]
theorem wy{α:Type}{dk:α->List Value}{sz:Nat}(hs:∀x,(dk x).length=sz):∀(xs:List α)(k:Nat),(xs.flatMap dk).drop (k*sz)=(xs.drop k).flatMap dk
 | [],k=>by simp
 |x::r,0=>by simp
 |x::r,k+1=>by
  rw[yq,yz,List.drop_succ_cons,←wy hs r k,←hs x,Nat.add_comm,List.drop_length_add_append]
theorem uq{α:Type}{dk:α->List Value}{sz:Nat}(hs:∀x,(dk x).length=sz){p q:α}{k:Nat}{vs:List Value}(hk:k+vs.length<=sz)(hq:aV (dk p) k vs=dk q):∀ {xs:List α} {j:Nat},xs[j]?=some p->aV (xs.flatMap dk) (j*sz+k) vs=(xs.set j q).flatMap dk
 | [],j,h=>by simp at h
 |y::r,0,h=>by
  simp at h;subst h
  rw[yq,Nat.zero_mul,zS,tq (by rw[hs];exact hk),hq];rfl
 |y::r,j+1,h=>by
  have h':r[j]?=some p:=by simpa using h
  have hj:=(zw.1 h').1;have hle:(j+1)*sz<=r.length*sz:=Nat.mul_le_mul_right _ hj;rw[yz] at hle;have:=mP (xs:=dk y) (vs:=vs) (ys:=r.flatMap dk) (o:=j*sz+k) (by rw[nG hs];omega);rw[hs] at this;rw[yq,yz,show j*sz+sz+k=sz+(j*sz+k) from by omega,this,uq hs hk hq h'];rfl
theorem bg.apart{c:Nat}{xs:List Value}(h:bg aa H e sz a n c xs)(hg:H g=none):c≠0->a≠some ⟨g,0,none⟩:=fun hc ha=>by
 rcases h.2.2.2 with⟨_,h0⟩|⟨b,k,hb,_,hH,_⟩
 ·exact hc h0
 ·rw[ha] at hb;obtain rfl:g=b:=by simpa using hb
  rw[hg] at hH;cases hH
theorem UB{c:Nat}(hx:aL H a l xs)(kd n v:Int):
  Sp 204 [.slice a l c,.agg #[.int .i64 kd,.int .i64 n,.int .i64 v]] H fun r H'=>∃a' n' c',r= .tuple #[.slice a' n' c',i64 (bP xs ⟨kd,n,v⟩)]/\aL H' a' n' (if bP xs ⟨kd,n,v⟩=0 then bi xs ⟨kd,n,v⟩ else []):=by
 refine bh Tryz.func204 (fun _ _=>vc55) fun aa hb=>?_;have nb:=hx.len
 have bad:∀ {e:Int} {H':Heap},bP xs ⟨kd,n,v⟩=e->e≠0->∃a' n' c',Value.tuple #[.slice none 0 0,.int .i64 e]= .tuple #[.slice a' n' c',i64 (bP xs ⟨kd,n,v⟩)]/\aL H' a' n' (if bP xs ⟨kd,n,v⟩=0 then bi xs ⟨kd,n,v⟩ else []):=fun he h0=>by
  rw[he,nI h0];exact⟨none,0,0,rfl,Sl.nil⟩
 intro b;refine(jc hx).bY fun H1 e1 fh=>⟨fun h=>bad (by rw[bP,pI h]) h,fun h=>?_⟩
 have h:=zx.1 h;obtain⟨hL,Q2⟩:=bF.1 h;refine⟨kd<1∨3<kd,⟨fun _=>⟨rfl,fun _ _ h=>h,by omega⟩,fun _=>⟨rfl,fun _ _ h=>h,by omega⟩⟩,fun h2=>bad (by rw[bP,nI (by omega),pI h2]) (by omega),fun h2=>?_⟩;refine⟨n<1∨20<n∨(kd≠2/\(v<1∨99<v))∨(kd=2/\v≠0),?_,fun h3=>bad (by rw[bP,nI (by omega),nI h2,pI (show kD ⟨kd,n,v⟩ from h3)]) (by omega),fun h3=>⟨rfl,fun Hl Ig se=>?_⟩⟩
 ·repeat' (first|exact⟨rfl,fun _ _ h=>h,by omega⟩|intro _|refine⟨?_,?_⟩)
 have W1:=h3;have h3:¬kD ⟨kd,n,v⟩:=h3;have Sq:=hx.ext' e1;refine(Mj (Sq.ext' Ig.ext) (k:=n) (p:=b) (by unfold Heap.cell;rw[se.1];rfl)).mono fun r H2 e2 hv=>⟨_,hv,fun H3 fS _=>?_⟩
 have hf:=rv n xs 0 (by omega)
 have hidx:(0<=jN n 0 xs↔find xs n≠0):=by
  rcases hf with⟨g1,g2,_⟩|⟨j,p,g1,g2,g3,g4⟩
  ·rw[g1,g2];omega
  ·have:=hL.name (zt g2);rw[g1,g3];omega
 refine⟨kd=1/\find xs n≠0,⟨fun _=>⟨rfl,fun _ _ h=>h,by omega⟩,fun _=>⟨rfl,fun _ _ h=>h,by omega⟩⟩,fun h4=>bad (by rw[bP,nI (by omega),nI h2,nI h3,pI h4]) (by omega),fun h4=>?_⟩;refine⟨kd≠1/\find xs n=0,⟨fun _=>⟨rfl,fun _ _ h=>h,by omega⟩,fun _=>⟨rfl,fun _ _ h=>h,by omega⟩⟩,fun h5=>bad (by rw[bP,nI (by omega),nI h2,nI h3,nI h4,pI h5]) (by omega),fun h5=>?_⟩;refine(kH (Sq.ext' fS.ext) (by omega)).slF fun a4 n4 c4 H4 e4 iC hR=>?_;have hn4:xs.length=n4:=Km cJ (by omega) hR
 have aP:(kd=1->xs.length≠12)->bP xs ⟨kd,n,v⟩=0:=fun hlen=>by
  rw[bP,nI (by omega),nI h2,nI h3,nI h4,nI h5,nI (fun h=>hlen h.1 h.2)]
 have fin:∀ {Hf:Heap} {af:O} {nf cf:Nat} {ls:List Value},(kd=1->xs.length≠12)->bg aa Hf 91 2 af nf cf ls->ls=(bi xs ⟨kd,n,v⟩).flatMap dm->∃a' n' c',Value.tuple #[.slice af nf cf,.int .i64 0]= .tuple #[.slice a' n' c',i64 (bP xs ⟨kd,n,v⟩)]/\aL Hf a' n' (if bP xs ⟨kd,n,v⟩=0 then bi xs ⟨kd,n,v⟩ else []):=fun hlen hRf he=>by
  rw[aP hlen,pI rfl];subst he;exact⟨_,_,_,rfl,gC hRf⟩
 refine⟨fun k1=>⟨fun h12=>bad (by rw[bP,nI (by omega),nI h2,nI h3,nI h4,nI h5,pI ⟨k1,by omega⟩]) (by omega),fun h12=>?_⟩,fun k1=>⟨fun k2=>?_,fun k2=>⟨fun k3=>?_,fun k3=>by omega⟩⟩⟩
 ·have hf0:find xs n=0:=by omega
  refine⟨fun vs Hc=>∃i:Nat,vs=[i64 i]/\i<=n4/\bg aa Hc 91 2 a4 n4 c4 (xs.flatMap dm)/\∀p∈xs.take i,p.name<n,aN n4 0,⟨0,rfl,by omega,hR,by simp⟩,fun m H5 kT hI=>?_⟩;obtain⟨i,cv,hi,pd,Yb⟩:=hI;obtain rfl:m=(i:Int):=by simpa using cv
  have ins:(∀p,xs[i]?=some p->n<=p.name)->∀(g:Nat)(H6:Heap),Next aa H5 H6->H5 g=none->H6 g=some (ay 91 [.int .i64 n,.int .i64 v])->Uu aa [⟨b,false,182,[.int .i64 kd,.int .i64 n,.int .i64 v]⟩] H6 (fun r _ H'=>∃a' n' c',Value.tuple #[r.val [],.int .i64 0]= .tuple #[.slice a' n' c',i64 (bP xs ⟨kd,n,v⟩)]/\aL H' a' n' (if bP xs ⟨kd,n,v⟩=0 then bi xs ⟨kd,n,v⟩ else [])) a4 n4 c4 i g:=fun KK g H6 Fo hg0 hg=>by
   refine⟨xs.flatMap dm,[i64 n,i64 v],i,rfl,hi,by omega,pd.ext Fo.ext,Gq xs,rfl,rfl,hg,(fun hc=>pd.apart hg0 hc),fun a7 c7 H7 hG Ih=>fin (fun _=>by omega) Ih ?_⟩;have:bi xs ⟨kd,n,v⟩=up n v xs:=by unfold bi;rw[nI (by simp;omega)]
   rw[this,SJ Yb KK hf0 (fun p hp=>by have:=hL.name hp;omega) (by omega),wx cJ,wy cJ];simp[dm]
  refine⟨fun bK=>(gC pd).Kp (aH.refl _) (by omega) bK fun p hp=>⟨fun xZ=>?_,fun gj=>ins fun q hq=>?_⟩,fun gj=>ins fun q hq=>?_⟩
  ·rw[zz] at hp;rintro r rfl;rw[wrap_small];refine⟨rfl,⟨i+1,rfl,by omega,pd,fun q hq=>?_⟩,by simp[aN];omega⟩;rw[fQ hp] at hq;rcases zd.1 hq with hq|hq
   ·exact Yb q hq
   ·simp at hq;subst hq;exact xZ
  ·rw[zz] at hp;rw[hp] at hq;obtain rfl:=zy hq;omega
  ·have:=(zw.1 hq).1;omega
 ·rcases hf with⟨g1,g2,_⟩|⟨j,p,g1,g2,g3,g4⟩
  ·exact absurd ⟨k1,g2⟩ h5
  have hj:=(zw.1 g2).1;rw[g1];rintro r rfl;rw[wrap_small];refine⟨xs.flatMap dm,j,j+1,by omega,by omega,by omega,by omega,by omega,hR,Gq xs,fun H5 hG pd=>fin (fun h=>absurd h k1) pd ?_⟩;have:bi xs ⟨kd,n,v⟩=del n xs:=by unfold bi;rw[pI k2]
  rw[this,Oi hL g2 g4,wx cJ,wy cJ];simp
 ·rcases hf with⟨g1,g2,_⟩|⟨j,p,g1,g2,g3,g4⟩
  ·exact absurd ⟨k1,g2⟩ h5
  have hj:=(zw.1 g2).1;rw[g1];obtain⟨b5,k5,KL,fN,hc5,hH5,Q6,hs5,_⟩:=hR.block (by omega);have tR:=hR.2.1;have ej:Int.toNat (0+(j:Int))=j:=by omega
  refine⟨b5,0,KL,by omega,by omega,k5,hH5,Q6,fN,by rw[hs5,ej];omega,fun H6 hu=>?_⟩;rw[ej] at hu;have Gp:=hR.N2 KL hc5 hH5 (o:=0+j*2+1) (vs:=[.int .i64 v]) (by rw[hR.1];show 0+j*2+1+1<=n4*2;omega) hu;refine fin (fun h=>absurd h k1) Gp ?_;have:bi xs ⟨kd,n,v⟩=up n v xs:=by unfold bi;rw[nI k2]
  rw[this,KJ hL g2 g4,zS,uq cJ (p:=p) (q:=⟨n,v⟩) (k:=1) (vs:=[.int .i64 v]) (by simp) (by cases p;simp at g4;subst g4;rfl) g2]
open Go
structure kU where
 id:Int
 ap:List Pin
 deriving DecidableEq
structure df where
 ah:Int
 au:Int
 rep:Bool
 aP:Bool
 cB:kU
 deriving DecidableEq
def dp(r:kU):Int:=if r.id<1∨6<r.id then 3 else aZ r.ap
def je(r:kU):Prop:=r.id=0/\r.ap=[]
instance (r:kU):Decidable (je r):=by unfold je;infer_instance
def jO(m:df):Prop:=m.ah<0∨6<=m.ah∨m.au<1∨200<m.au
instance (m:df):Decidable (jO m):=by unfold jO;infer_instance
def iL(m:df):Prop:=(m.rep=true/\¬je m.cB)∨(m.rep=false/\m.aP=true)
instance (m:df):Decidable (iL m):=by unfold iL;infer_instance
def cz:List df->Int
 | []=>0
 |m::q=>if jO m then 3 else if iL m then 4 else if m.rep=true then cz q else if dp m.cB≠0 then dp m.cB else cz q
def bu(l:List df):Int:=if 40<l.length then 2 else cz l
theorem nL:∀ {l:List df},cz l=0->∀m∈l,m.cB.ap.length<=12
 | [],_,m,h=>by cases h
 |x::q,h,m,hm=>by
  unfold cz at h;split at h
  ·omega
  ·split at h
   ·omega
   ·rename_i h1 h2;split at h
    ·rename_i h3;rcases zm.1 hm with rfl|hm
     ·unfold iL je at h2
      have:m.cB.ap=[]:=by
       by_cases e:m.cB.ap=[]
       ·exact e
       ·exact absurd (.inl ⟨h3,fun h=>e h.2⟩) h2
      simp[this]
     ·exact nL h m hm
    ·split at h
     ·rename_i h4;exact absurd h h4
     ·rename_i h4;rcases zm.1 hm with rfl|hm
      ·have h4:dp m.cB=0:=zx.1 h4;unfold dp at h4;split at h4
       ·omega
       ·exact(bF.1 h4).2
      ·exact nL h m hm
theorem mC{l:List df}(h:bu l=0):l.length<=40/\∀m∈l,m.cB.ap.length<=12:=by
 unfold bu at h;split at h
 ·omega
 ·exact⟨by omega,nL h⟩
def iM(l:List df)(m:df):Int:=if bu l=0 then bu [m] else bu l
def u7(l:List df)(m:df):List df:=if l.length<40 then l++[m] else l
def dz(l:List df)(k:Int):Int:=if bu l=0 then(if k<0∨(l.length:Int)<=k then 5 else 0) else bu l
def Er:df:=⟨0,0,false,false,⟨0,[]⟩⟩
def dw(l:List df)(k:Int):df:=l.getD k.toNat Er
def left(l:List df)(k:Int)(tw:Bool):List df:=if tw=true then l else l.take k.toNat++l.drop (k.toNat+1)
def gN(m:df)(a:O)(n c:Nat):List Value:=[i64 m.ah,i64 m.au,.bool m.rep,.bool m.aP,i64 m.cB.id,.slice a n c]
def cK:jq df:=fun H r m=>∃a n c,r=gN m a n c/\aL H a n m.cB.ap
theorem cK.mono:cK.oW:=fun _ _ _ _ e ⟨a,n,c,h,hp⟩=>⟨a,n,c,h,hp.ext' e⟩
theorem cK.len{m:df}(h:cK H r m):r.length=6:=by obtain⟨a,n,c,rfl,_⟩:=h;rfl
theorem cK.one{m:df}(h:cK H r m):aM r=true:=by obtain⟨a,n,c,rfl,_⟩:=h;rfl
abbrev iN(H:Heap)(a:O)(n:Nat)(l:List df):Prop:=Sl cK 6 H a n l
theorem iN.ext'{l:List df}(h:iN H a n l)(e:aH H H'):iN H' a n l:=Sl.ext cK.mono h e
theorem Sl.cZ{xs:List df}(h:iN H a n xs)(e:aH H H')(h0:0<=k)(h1:k<n){F:Int->Int->Bool->Bool->Int->O->Nat->Nat->Prop}
  (hF:∀m a n c,xs[k.toNat]?=some m->aL H a n m.cB.ap->F m.ah m.au m.rep m.aP m.cB.id a n c):
  ∃(b o:Nat),a=some ⟨b,o,none⟩/\0<=k/\k<n/\∃(x y:Int)(p q:Bool)(z:Int)(a':O)(n' c':Nat),(H'.cell b (o+k.toNat*6)=some (.int .i64 x)/\H'.cell b (o+k.toNat*6+1)=some (.int .i64 y)/\H'.cell b (o+k.toNat*6+2)=some (.bool p)/\
   H'.cell b (o+k.toNat*6+3)=some (.bool q)/\H'.cell b (o+k.toNat*6+4)=some (.int .i64 z)/\H'.cell b (o+k.toNat*6+5)=some (.slice a' n' c')/\True)/\F x y p q z a' n' c':=by
 obtain⟨b,o,r,x,ha,hx,⟨a',n',c',rfl,hp⟩,hc⟩:=h.get h0 h1;exact⟨b,o,ha,h0,h1,_,_,_,_,_,_,_,_,⟨Heap.aJ e (hc 0 _ rfl),Heap.aJ e (hc 1 _ rfl),Heap.aJ e (hc 2 _ rfl),Heap.aJ e (hc 3 _ rfl),Heap.aJ e (hc 4 _ rfl),Heap.aJ e (hc 5 _ rfl),trivial⟩,hF x a' n' c' hx hp⟩
theorem Gv{m:df}{c:Nat}(h:H g=some (ay ty (gN m a n c)))(hp:aL H a n m.cB.ap):iN H (some ⟨g,0,none⟩) 1 [m]:=
 Sl.oz (rows:=[gN m a n c]) (Has.ub h (by simp) (by simp[gN]) rfl (by decide)) rfl fun i r x hr hx=>by
  match i,hr,hx with
  |0,hr,hx=>simp at hr hx;subst hr hx;exact⟨a,n,c,rfl,hp⟩
  |i+1,hr,hx=>simp at hr
theorem lE{H1 H2 H3:Heap}(e:aH H1 H2):aH (du H2 H3) (du H1 H3):=fun x k h=>by
 have h1:=il x k h;have h2:=ew x k h;unfold du
 cases h3:H1 x with
 |none=>exact h2
 |some k'=>rw[e x k' h3] at h1;cases h1
theorem bZ.pU{α:Type}{dk:α->List Value}(hs:∀x,(dk x).length=sz)(h0:0<sz){c:Nat}{xs:List α}(h:bZ H H' e sz a n c (xs.flatMap dk)):Sl (gT dk) sz (du H H') a n xs:=
 ik (aa:=0) (e:=e) (c:=c) hs h0 ⟨h.1,h.2.1,h.2.2.1,h.2.2.2.imp id fun⟨g,k,h1,h2,h3,h4⟩=>⟨g,k,h1,Nat.zero_le _,by unfold du;rw[h2];exact h3,h4⟩⟩
theorem Bt{sz:Nat} :∀ {rs:List (List Value)} (k:Nat),(∀r∈rs,r.length=sz)->rs.flatten.take (k*sz)=(rs.take k).flatten
 | [],k,_=>by simp
 |x::r,0,_=>by simp
 |x::r,k+1,h=>by
  rw[zW,yz,List.take_succ_cons,zW,←Bt k fun y hy=>h y (zj _ hy),←h x zr,Nat.add_comm,List.take_length_add_append]
theorem Bu{sz:Nat} :∀ {rs:List (List Value)} (k:Nat),(∀r∈rs,r.length=sz)->rs.flatten.drop (k*sz)=(rs.drop k).flatten
 | [],k,_=>by simp
 |x::r,0,_=>by simp
 |x::r,k+1,h=>by
  rw[zW,yz,List.drop_succ_cons,←Bu k fun y hy=>h y (zj _ hy),←h x zr,Nat.add_comm,List.drop_length_add_append]
theorem bV.UC{α:Type}{R:jq α}{G:Heap}{c n':Nat}{rows rows':List (List Value)}{xs ys:List α}(h:bV R sz e aa G H a n c rows xs)(hg:cu aa H H' a c a' c' nn)
  (hr:bg aa H' e sz a' n' c' rows'.flatten) (hw:∀r∈rows',r.length=sz) (ha:dY R G rows' ys):bV R sz e aa G H' a' n' c' rows' ys:=
 ⟨hr,hw,ha,fun x k hx=>hg.cR x k (h.sub x k hx) (by
  by_cases hc:c=0
  ·exact .inl hc
  ·exact .inr fun e=>by have:=h.clear hc x e;rw[hx] at this;cases this),fun hc g Un=>by
  rcases hg.place hc g Un with h1|⟨h1,h2⟩
  ·cases hG:G g with
   |none=>rfl
   |some k=>rw[h.sub g k hG] at h1;cases h1
  ·exact h.clear h2 g (h1▸Un)⟩
open Go
structure bD where
 ae:Int
 ah:Int
 au:Int
 cj:Int
 aP:Bool
 cB:kU
 deriving DecidableEq
structure lS where
 ap:List Pin
 ck:Int
 au:Int
 going:Bool
 ab:kU
 aP:Bool
 deriving DecidableEq
def iO(r:bD):Prop:=(r.ah≠0/\¬(r.ae=6∨r.ae=7))∨(r.au≠0/\¬(r.ae=1∨r.ae=2∨r.ae=3∨r.ae=6∨r.ae=7))∨(r.cj≠0/\¬r.ae=5)∨(r.aP=true/\¬(r.ae=3∨r.ae=7))∨(¬je r.cB/\¬(r.ae=1∨r.ae=4))
instance (r:bD):Decidable (iO r):=by unfold iO;infer_instance
def gp(r:bD):Prop:=r.ah<0∨6<=r.ah∨((r.ae=1∨r.ae=2∨r.ae=3∨r.ae=6∨r.ae=7)/\(r.au<1∨200<r.au))∨(r.ae=5/\(r.cj<1∨6<r.cj))
instance (r:bD):Decidable (gp r):=by unfold gp;infer_instance
def bC(r:bD):Int:=if r.ae<1∨9<r.ae then 4 else if iO r then 4 else if gp r then 3 else if r.ae=1∨r.ae=4 then dp r.cB else 0
def cT(a:lS):Int:=
 if aZ a.ap≠0 then aZ a.ap else
 if a.ck<1∨6<a.ck∨a.au<0∨200<a.au then 3 else
 if a.going=true then(if a.au=0∨a.aP=true then 4 else dp a.ab) else(if je a.ab then 0 else 4)
def tx:lS:=⟨[],0,0,false,⟨0,[]⟩,false⟩
def cy(a:lS):List Step:=if a.going=true then jz a.ap a.ab.ap else []
def bw(a:lS)(r:bD):Int:=
 if cT a≠0 then cT a else if bC r≠0 then bC r else
 if r.ae=1 then(if r.au<=a.au then 7 else 0) else
 if r.ae≠2/\r.ae≠3 then 4 else
 if a.going=false∨r.au≠a.au∨(r.ae=2/\cy a=[])∨(r.ae=3/\cy a≠[]) then 7 else 0
def bW(a:lS)(r:bD):lS:=
 if r.ae=1 then⟨a.ap,a.ck,r.au,true,r.cB,false⟩ else
 if r.ae=2 then(match cy a with
  | []=>a
  |o::_=>⟨bi a.ap o,a.ck,a.au,a.going,a.ab,a.aP⟩) else
 ⟨a.ap,a.ab.id,a.au,false,⟨0,[]⟩,r.aP⟩
def dS(a:lS)(r:bD):lS:=if bw a r=0 then bW a r else tx
def iF(r:kU):lS:=⟨r.ap,r.id,0,false,⟨0,[]⟩,true⟩
def cE:lS->List bD->Except Int lS
 |a,[]=> .ok a
 |a,r::q=>if bw a r=0 then cE (bW a r) q else .error (bw a r)
def az(f:kU)(l:List bD):Except Int lS:=if dp f≠0 then .error (dp f) else if 200<l.length then .error 2 else cE (iF f) l
def Gw:Except Int lS->lS
 | .ok a=>a
 | .error _=>tx
theorem ey{r:kU}(h:dp r=0):(1<=r.id/\r.id<=6)/\Lk r.ap/\r.ap.length<=12:=by
 unfold dp at h;split at h
 ·omega
 ·exact⟨by omega,bF.1 h⟩
theorem gD{a:lS}(h:cT a=0):(Lk a.ap/\a.ap.length<=12)/\1<=a.ck/\a.ck<=6/\0<=a.au/\a.au<=200/\(a.going=true->a.au≠0/\a.aP=false/\dp a.ab=0)/\(a.going=false->je a.ab):=by
 unfold cT at h;split at h
 ·omega
 ·rename_i h1;have h1:=bF.1 (zx.1 h1);split at h
  ·omega
  ·split at h
   ·rename_i h2 h3;split at h
    ·omega
    ·rename_i h4;refine⟨h1,by omega,by omega,by omega,by omega,fun _=>⟨fun e=>h4 (.inl e),?_,h⟩,fun e=>by rw[h3] at e;cases e⟩
     cases hg:a.aP with
     |false=>rfl
     |true=>exact absurd (.inr hg) h4
   ·rename_i h2 h3;split at h
    ·rename_i h4;exact⟨h1,by omega,by omega,by omega,by omega,fun e=>absurd e h3,fun _=>h4⟩
    ·omega
theorem pe{a:lS}(h:cT a=0):Lk a.ab.ap/\a.ab.ap.length<=12:=by
 obtain⟨_,_,_,_,_,h1,h2⟩:=gD h
 cases hg:a.going with
 |true=>exact(ey (h1 hg).2.2).2
 |false=>rw[(h2 hg).2];exact⟨Lk.nil,by simp⟩
def Es(r:bD)(a:O)(n c:Nat):List Value:=[i64 r.ae,i64 r.ah,i64 r.au,i64 r.cj,.bool r.aP,i64 r.cB.id,.slice a n c]
def kI:jq bD:=fun H r m=>∃a n c,r=Es m a n c/\aL H a n m.cB.ap
theorem kI.mono:kI.oW:=fun _ _ _ _ e ⟨a,n,c,h,hp⟩=>⟨a,n,c,h,hp.ext' e⟩
theorem kI.len{m:bD}(h:kI H r m):r.length=7:=by obtain⟨a,n,c,rfl,_⟩:=h;rfl
abbrev nV(H:Heap)(a:O)(n:Nat)(l:List bD):Prop:=Sl kI 7 H a n l
theorem nV.ext'{l:List bD}(h:nV H a n l)(e:aH H H'):nV H' a n l:=Sl.ext kI.mono h e
theorem Sl.Q7{xs:List bD}(h:nV H a n xs)(e:aH H H')(h0:0<=k)(h1:k<n){F:Int->Int->Int->Int->Bool->Int->O->Nat->Nat->Prop}
  (hF:∀m a n c,xs[k.toNat]?=some m->aL H a n m.cB.ap->F m.ae m.ah m.au m.cj m.aP m.cB.id a n c):
  ∃(b o:Nat),a=some ⟨b,o,none⟩/\0<=k/\k<n/\∃(x y u v:Int)(q:Bool)(z:Int)(a':O)(n' c':Nat),(H'.cell b (o+k.toNat*7)=some (.int .i64 x)/\H'.cell b (o+k.toNat*7+1)=some (.int .i64 y)/\H'.cell b (o+k.toNat*7+2)=some (.int .i64 u)/\H'.cell b (o+k.toNat*7+3)=some (.int .i64 v)/\
   H'.cell b (o+k.toNat*7+4)=some (.bool q)/\H'.cell b (o+k.toNat*7+5)=some (.int .i64 z)/\H'.cell b (o+k.toNat*7+6)=some (.slice a' n' c')/\True)/\F x y u v q z a' n' c':=by
 obtain⟨b,o,r,x,ha,hx,⟨a',n',c',rfl,hp⟩,hc⟩:=h.get h0 h1;exact⟨b,o,ha,h0,h1,_,_,_,_,_,_,_,_,_,⟨Heap.aJ e (hc 0 _ rfl),Heap.aJ e (hc 1 _ rfl),Heap.aJ e (hc 2 _ rfl),Heap.aJ e (hc 3 _ rfl),Heap.aJ e (hc 4 _ rfl),Heap.aJ e (hc 5 _ rfl),Heap.aJ e (hc 6 _ rfl),trivial⟩,hF x a' n' c' hx hp⟩
abbrev gU(r:bD)(a:O)(n c:Nat):Value:= .agg #[.int .i64 r.ae,.int .i64 r.ah,.int .i64 r.au,.int .i64 r.cj,.bool r.aP,.int .i64 r.cB.id,.slice a n c]
abbrev dL(x:lS)(a:O)(n c:Nat)(ga:O)(gn gc:Nat):Value:= .agg #[.slice a n c,.int .i64 x.ck,.int .i64 x.au,.bool x.going,.int .i64 x.ab.id,.slice ga gn gc,.bool x.aP]
theorem Oj{x y:lS} :x=y↔x.ap=y.ap/\x.ck=y.ck/\x.au=y.au/\x.going=y.going/\x.ab=y.ab/\x.aP=y.aP:=by cases x;cases y;simp
theorem bS.Q8{P:Program}{f:FuncId}{args:List Value}{x:lS}{e:Int}(h:bS P f args H fun v H'=>∃a n c ga gn gc,v= .tuple #[dL x a n c ga gn gc,i64 e]/\aL H' a n x.ap/\aL H' ga gn x.ab.ap)
  {G:O->Nat->Nat->Int->Int->Bool->Int->O->Nat->Nat->Bool->Int->Heap->Prop} (hG:∀a n c ga gn gc H',aH H H'->Next aa H H'->aL H' a n x.ap->aL H' ga gn x.ab.ap->G a n c x.ck x.au x.going x.ab.id ga gn gc x.aP e H'):
  bS P f args H fun v H'=>∃(a:O)(n c:Nat)(n2 n3:Int)(b:Bool)(n4:Int)(a2:O)(n5 c1:Nat)(b3:Bool)(n6:Int),v= .tuple #[.agg #[.slice a n c,.int .i64 n2,.int .i64 n3,.bool b,.int .i64 n4,.slice a2 n5 c1,.bool b3],.int .i64 n6]/\(Next aa H H'->G a n c n2 n3 b n4 a2 n5 c1 b3 n6 H'):=
 h.mono fun v H' ex hv=>by
  obtain⟨a,n,c,ga,gn,gc,h1,h2,h3⟩:=hv;exact⟨a,n,c,_,_,_,_,ga,gn,gc,_,e,h1,fun hN=>hG a n c ga gn gc H' ex hN h2 h3⟩
open Go Go.Proofs
theorem bg.cR{f:TypeId}{sy:Nat}{b:O}{c m d:Nat}{ys:List Value}(h:bg aa H f sy b m d ys)(hG:cu aa H H' a c a' c' nn)(hs:c≠0->d≠0->a≠b):bg aa H' f sy b m d ys/\(c'≠0->d≠0->a'≠b):=by
 obtain⟨h1,h2,h3,h4⟩:=h;rcases h4 with⟨h5,h6⟩|⟨g,k,hb,fN,hH,hr⟩
 ·exact⟨⟨h1,h2,h3,.inl ⟨h5,h6⟩⟩,fun _ hd=>absurd h6 hd⟩
 ·by_cases hd:d=0
  ·exact⟨⟨h1,h2,h3,.inl ⟨by omega,hd⟩⟩,fun _ h=>absurd hd h⟩
  ·refine⟨⟨h1,h2,h3,.inr ⟨g,k,hb,fN,hG.cR g k hH ?_,hr⟩⟩,fun DP _ e=>?_⟩
   ·by_cases hc:c=0
    ·exact .inl hc
    ·exact .inr fun e=>hs hc hd (by rw[e,hb])
   ·rcases hG.place DP g (by rw[e,hb]) with h|⟨h,hc⟩
    ·rw[hH] at h;cases h
    ·exact hs hc hd (by rw[←h,e])
theorem Et(xs:List Pin)(h0:0<=k)(h1:k<21):(gm xs)[0+k.toNat*1]?=some (.int .i64 (find xs k)):=by
 rw[zS,Nat.mul_one,xm xs (by omega),show(k.toNat:Int)=k from by omega]
theorem Ok{c:Nat}(hx:aL H a l xs)(hy:aL H a' l' ys):
  Sp 128 [.slice a l c,.slice a' l' c'] H fun v H'=>∃a n c,v= .tuple #[.slice a n c,i64 (eO xs ys)]/\n<=c/\Steps H' a n (if eO xs ys=0 then jz xs ys else []):=by
 refine bh Tryz.func128 (fun _ _=>vc57) fun aa hb=>?_;refine(fX hx).bY fun H1 e1 fh=>⟨fun h=>?_,fun h=>(fX (hy.ext' e1)).bY fun H2 e2 dZ=>⟨fun h2=>?_,fun h2=>?_⟩⟩
 ·have e:eO xs ys=aZ xs:=by rw[eO,nI h]
  rw[e,nI h];exact⟨none,0,0,rfl,by omega,Sl.nil⟩
 ·have e:eO xs ys=aZ ys:=by rw[eO,pI (zx.1 h)]
  rw[e,nI h2];exact⟨none,0,0,rfl,by omega,Sl.nil⟩
 have h:=zx.1 h;have h2:=zx.1 h2;have hz:eO xs ys=0:=by rw[eO,pI h];exact h2
 obtain⟨⟨hLx,hx12⟩,hLy,hy12⟩:=mQ.1 hz;rw[hz,pI rfl];refine(Ep ((hx.ext' e1).ext' e2) hLx).mono fun v H3 e3 hv=>⟨_,fe xs,hv,fun fS=>(Ep (((hy.ext' e1).ext' e2).ext' e3) hLy).mono fun v H4 e4 hv=>⟨_,fe ys,hv,fun iC b b'=>⟨fe xs,kG xs,rfl,fe ys,kG ys,rfl,?_⟩⟩⟩
 refine⟨fun vs Hc=>∃(dr rs:List Step)(a1:O)(n1 c1:Nat)(a2:O)(n2 c2 k:Nat),vs=[.slice a1 n1 c1,.slice a2 n2 c2,i64 k]/\bg aa Hc 182 3 a1 n1 c1 (dr.flatMap j7)/\bg aa Hc 182 3 a2 n2 c2 (rs.flatMap j7)/\(c1≠0->c2≠0->a1≠a2)/\k<=21/\dr.length<=k/\rs.length<=k/\
   dr++(lR (21-k) k).filterMap (Bm xs ys)=o8 xs ys/\rs++(lR (21-k) k).filterMap (Bn xs ys)=Gj xs ys,
  aN 21 2,⟨[],[],none,0,0,none,0,0,0,rfl,bg.nil,bg.nil,fun h=>absurd rfl h,by omega,by simp,by simp,Mh hLx,Mi hLy⟩,fun a1 n1 c1 a2 n2 c2 m H' hN hI=>?_⟩
 obtain⟨dr,rs,Kx,Qq,Ky,SK,Nc,SL,k,cv,L0,qy,Fj,hk,hdl,Gx,Nd,kZ⟩:=hI;obtain⟨⟨rfl,rfl,rfl⟩,⟨rfl,rfl,rfl⟩,rfl⟩:(a1=Kx/\n1=Qq/\c1=Ky)/\(a2=SK/\n2=Nc/\c2=SL)/\m=(k:Int):=by simpa using cv
 have hn1:=sC L0;have hn2:=sC qy;refine⟨fun bK=>?_,fun gj=>?_⟩
 ·obtain⟨q,hq⟩:∃q,21-k=q+1:=⟨20-k,by omega⟩
  have SM:21-(k+1)=q:=by omega
  rw[hq] at Nd kZ;simp only[lR] at Nd kZ;have gx:=Et xs (k:=(k:Int)) (by omega) bK;have gy:=Et ys (k:=(k:Int)) (by omega) bK;refine⟨by omega,bK,_,gx,by omega,bK,_,gy,fun he=>?_,fun he=>⟨by omega,bK,_,gy,fun h0=>?_,fun h0=>⟨by omega,bK,_,gx,fun h0'=>⟨by omega,bK,_,gy,?_⟩,fun h0'=>⟨by omega,bK,_,gy,?_⟩⟩⟩⟩
  ·rw[zf (by rw[Bm,pI he])] at Nd;rw[zf (by rw[Bn,pI he])] at kZ;rintro r rfl;rw[wrap_small];exact⟨rfl,⟨dr,rs,_,_,_,_,_,_,k+1,rfl,L0,qy,Fj,by omega,by omega,by omega,by rw[SM];exact Nd,by rw[SM];exact kZ⟩,by simp[aN];omega⟩
  ·rw[zR (b:=⟨2,k,0⟩) (by rw[Bm,nI he,pI h0])] at Nd;rw[zf (by rw[Bn,nI he,pI h0])] at kZ;refine fun _=>⟨_,L0,by omega,by omega,fun a5 c5 H5 hG pd=>?_⟩
   obtain⟨hR2',Ol⟩:=qy.cR hG Fj;rintro r rfl;rw[wrap_small];exact⟨rfl,⟨dr++[⟨2,k,0⟩],rs,a5,_,c5,_,_,_,k+1,rfl,by rw[nh];exact pd,hR2',Ol,by omega,by simp;omega,by omega,by rw[SM];simpa using Nd,by rw[SM];exact kZ⟩,by simp[aN];omega⟩
  ·rw[zf (by rw[Bm,nI he,nI h0])] at Nd;rw[zR (b:=⟨1,k,find ys k⟩) (by rw[Bn,nI he,nI h0,pI h0'])] at kZ;refine fun _=>⟨_,qy,by omega,by omega,fun a5 c5 H5 hG pd=>?_⟩
   obtain⟨UD,Ol⟩:=L0.cR hG (fun h h' e=>Fj h' h e.symm);rintro r rfl;rw[wrap_small];exact⟨rfl,⟨dr,rs++[⟨1,k,find ys k⟩],_,_,_,a5,_,c5,k+1,rfl,UD,by rw[nh];exact pd,fun h h' e=>Ol h' h e.symm,by omega,by omega,by simp;omega,by rw[SM];exact Nd,by rw[SM];simpa using kZ⟩,by simp[aN];omega⟩
  ·rw[zf (by rw[Bm,nI he,nI h0])] at Nd;rw[zR (b:=⟨3,k,find ys k⟩) (by rw[Bn,nI he,nI h0,nI h0'])] at kZ;refine fun _=>⟨_,qy,by omega,by omega,fun a5 c5 H5 hG pd=>?_⟩
   obtain⟨UD,Ol⟩:=L0.cR hG (fun h h' e=>Fj h' h e.symm);rintro r rfl;rw[wrap_small];exact⟨rfl,⟨dr,rs++[⟨3,k,find ys k⟩],_,_,_,a5,_,c5,k+1,rfl,UD,by rw[nh];exact pd,fun h h' e=>Ol h' h e.symm,by omega,by omega,by simp;omega,by rw[SM];exact Nd,by rw[SM];simpa using kZ⟩,by simp[aN];omega⟩
 ·obtain rfl:k=21:=by omega
  simp only[Nat.sub_self,lR,List.filterMap_nil,zZ] at Nd kZ;have hS2:Steps H' a2 n2 rs:=ik jA (by omega) qy;obtain⟨g1,g2⟩:=hS2.cells jA (aH.refl _);refine⟨_,_,L0,g1,jZ (fun _=>rfl) rs,g2,by omega,by omega,fun a5 c5 H5 hG pd=>⟨_,_,_,rfl,pd.2.1,?_⟩⟩;rw[←yd,Nd,kZ] at pd;exact ik jA (by omega) pd
theorem Om{c:Nat}(hx:aL H a l xs)(kd n v:Int):
  Sp 162 [.slice a l c,.agg #[.int .i64 kd,.int .i64 n,.int .i64 v]] H fun r H'=>∃a' n' c',r= .tuple #[.slice a' n' c',i64 (bP xs ⟨kd,n,v⟩)]/\aL H' a' n' (if bP xs ⟨kd,n,v⟩=0 then bi xs ⟨kd,n,v⟩ else []):=by
 refine bh Tryz.func162 (fun _ _=>vc58) fun aa hb=>?_;have nb:=hx.len
 have bad:∀ {e:Int} {H':Heap},bP xs ⟨kd,n,v⟩=e->e≠0->∃a' n' c',Value.tuple #[.slice none 0 0,.int .i64 e]= .tuple #[.slice a' n' c',i64 (bP xs ⟨kd,n,v⟩)]/\aL H' a' n' (if bP xs ⟨kd,n,v⟩=0 then bi xs ⟨kd,n,v⟩ else []):=fun he h0=>by
  rw[he,nI h0];exact⟨none,0,0,rfl,Sl.nil⟩
 intro b;refine(fX hx).bY fun H1 e1 fh=>⟨fun h=>bad (by rw[bP,pI h]) h,fun h=>?_⟩
 have h:=zx.1 h;obtain⟨hL,Q2⟩:=bF.1 h;refine(uY kd 1 3).aO fun H2 e2 dZ=>⟨fun h2=>?_,fun h2=>?_⟩
 ·have h2:kd<1∨3<kd:=by
   have:¬(1<=kd/\kd<=3):=by simpa[me] using h2
   omega
  exact bad (by rw[bP,nI (by omega),pI h2]) (by omega)
 have h2:¬(kd<1∨3<kd):=by
  have:1<=kd/\kd<=3:=by simpa[me] using h2
  omega
 refine⟨n<1∨20<n∨(kd≠2/\(v<1∨99<v))∨(kd=2/\v≠0),?_,fun h3=>bad (by rw[bP,nI (by omega),nI h2,pI (show kD ⟨kd,n,v⟩ from h3)]) (by omega),fun h3=>?_⟩
 ·refine(uY n 1 20).aO fun H3 e3 fS=>⟨fun g=>⟨rfl,e3,?_⟩,fun g=>?_⟩
  ·have:¬(1<=n/\n<=20):=by simpa[me] using g
   omega
  have g:1<=n/\n<=20:=by simpa[me] using g
  refine⟨fun k2=>⟨fun hv=>⟨rfl,e3,by omega⟩,fun hv=>⟨fun hk=>absurd k2 hk,fun _=>⟨rfl,e3,by omega⟩⟩⟩,fun k2=>⟨fun _=>(uY v 1 99).aO fun H4 e4 _=>⟨rfl,e3.trans e4,?_⟩,fun hk=>absurd k2 hk⟩⟩;simp only[me,decide_eq_false_iff_not];omega
 have W1:=h3;have h3:¬kD ⟨kd,n,v⟩:=h3;refine(Ep ((hx.ext' e1).ext' e2) hL).mono fun r H3 e3 hv=>⟨_,fe xs,hv,fun fS b2=>⟨fe xs,kG xs,rfl,by omega,by omega,_,Et xs (by omega) (by omega),?_⟩⟩
 have IH:=hL.find_range n;refine⟨kd=1/\find xs n≠0,⟨fun _=>⟨rfl,fun _ _ h=>h,by omega⟩,fun _=>⟨rfl,fun _ _ h=>h,by omega⟩⟩,fun h4=>bad (by rw[bP,nI (by omega),nI h2,nI h3,pI h4]) (by omega),fun h4=>?_⟩;refine⟨kd≠1/\find xs n=0,⟨fun _=>⟨rfl,fun _ _ h=>h,by omega⟩,fun _=>⟨rfl,fun _ _ h=>h,by omega⟩⟩,fun h5=>bad (by rw[bP,nI (by omega),nI h2,nI h3,nI h4,pI h5]) (by omega),fun h5=>?_⟩;refine⟨find xs n=0/\l=12,⟨fun _=>⟨rfl,fun _ _ h=>h,by omega⟩,fun _=>⟨rfl,fun _ _ h=>h,by omega⟩⟩,fun h6=>bad (by rw[bP,nI (by omega),nI h2,nI h3,nI h4,nI h5,pI ⟨by show kd=1;omega,by omega⟩]) (by omega),fun h6=>?_⟩;have hE:bP xs ⟨kd,n,v⟩=0:=by rw[bP,nI (by omega),nI h2,nI h3,nI h4,nI h5,nI (fun h=>h6 ⟨by have h1:kd=1:=h.1;omega,by have:=h.2;omega⟩)]
 obtain⟨hLa,_⟩:=Bl hE;have Cz:(gm xs).set (0+n.toNat*1) (.int .i64 v)=((rk xs).set n.toNat v).map i64:=by rw[zS,Nat.mul_one,gm,List.map_set]
 have UE:=Gm hL (o:=⟨kd,n,v⟩) ⟨by show 1<=n;omega,by show n<=20;omega⟩ (fun h=>zC fun hv=>h3 (Or.inr (Or.inr (Or.inr ⟨h,hv⟩))));refine⟨by omega,by omega,by rw[fe];omega,by rw[List.length_set];exact fe xs,?_⟩;rw[Cz];refine(Q5 (t:=(rk xs).set n.toNat v) (by simp[rk])).CE fun a6 n6 c6 H6 e6 _ hP=>?_;have UE:(rk xs).set n.toNat v=rk (bi xs ⟨kd,n,v⟩):=UE;rw[UE,I4 hLa] at hP;rw[hE,pI rfl];exact⟨_,_,_,rfl,hP⟩
open Go Go.Proofs
theorem kJ{c:Nat}(hx:aL H a l xs)(id:Int):Sp 167 [.agg #[.int .i64 id,.slice a l c]] H fun v _=>v=i64 (dp ⟨id,xs⟩):=by
 refine bh Tryz.func167 (fun _ _=>vc68) fun aa hb=>?_;intro b;refine⟨id<1∨6<id,⟨fun _=>⟨rfl,fun _ _ h=>h,by omega⟩,fun _=>⟨rfl,fun _ _ h=>h,by omega⟩⟩,fun h=>by rw[dp,pI h],fun h=>?_⟩;refine(jc hx).bY fun H1 e1 _=>?_;rw[dp,nI h]
theorem mf{c:Nat}(hx:aL H a l xs)(id:Int):Sp 84 [.agg #[.int .i64 id,.slice a l c]] H fun v _=>v=i64 (dp ⟨id,xs⟩):=by
 refine bh Tryz.func84 (fun _ _=>vc74) fun aa hb=>?_;intro b;refine(uY id 1 6).aO fun H1 e1 _=>⟨fun h=>?_,fun h=>(fX (hx.ext' e1)).bY fun H2 e2 _=>?_⟩
 ·have h:¬(1<=id/\id<=6):=by simpa[me] using h
  rw[dp,pI (show id<1∨6<id by omega)]
 ·have h:1<=id/\id<=6:=by simpa[me] using h
  rw[dp,nI (show¬(id<1∨6<id) by omega)]
theorem Jb{id:Int} :((⟨id,xs⟩:kU)=⟨nU,ys⟩)↔id=nU/\xs=ys:=by simp
theorem Eu{c:Nat}(hx:aL H a l xs)(hy:aL H a' l' ys)(id nU:Int):
  Sp 56 [.agg #[.int .i64 id,.slice a l c],.agg #[.int .i64 nU,.slice a' l' c']] H fun v _=>v= .bool (decide ((⟨id,xs⟩:kU)=⟨nU,ys⟩)):=by
 refine bh Tryz.func56 (fun _ _=>vc86) fun aa hb=>?_;have nb:=hx.len;have uk:=hy.len;have hle:=hx.le;intro b b1;refine⟨id≠nU∨l≠l',⟨fun _=>⟨rfl,fun _ _ h=>h,by omega⟩,fun _=>⟨rfl,fun _ _ h=>h,by omega⟩⟩,fun h=>?_,fun h=>?_⟩
 ·rw[decide_eq_false];rw[Jb];rintro⟨rfl,rfl⟩;omega
 have hid:id=nU:=by omega
 have Ii:l=l':=by omega
 have hW:decide ((⟨id,xs⟩:kU)=⟨nU,ys⟩)=decide (xs=ys):=by rw[decide_eq_decide,Jb];simp[hid]
 rw[hW];refine⟨fun vs _=>∃(b:Bool)(k:Nat),vs=[.bool b,i64 k]/\k<=l/\(xs.drop k=ys.drop k↔xs=ys),aN l 1,⟨false,0,rfl,by omega,by simp⟩,fun b n H' hN hI=>?_⟩;obtain⟨b',k,cv,hk,hI⟩:=hI;obtain⟨rfl,rfl⟩:b=b'/\n=(k:Int):=by simpa using cv
 refine⟨fun bK=>hx.LY hN.ext (by omega) bK fun p hp=>fun b3=>hy.LY hN.ext (by omega) (by omega) fun q hq=>⟨_,SB _ _ _ _,fun h=>?_,fun h=>?_⟩,fun gj=>?_⟩
 ·rw[zz] at hp hq;rw[av hp,av hq] at hI;rw[decide_eq_false];intro e;obtain⟨rfl,_⟩:=yx (hI.2 e);simp at h
 ·rw[zz] at hp hq;rw[av hp,av hq] at hI;have sS:p=q:=by cases p;cases q;simp at h;simp[h]
  rintro r rfl;rw[aj];exact⟨rfl,⟨b,k+1,rfl,by omega,by rw[←hI];simp[sS]⟩,by simp[aN];omega⟩
 ·rw[decide_eq_true];exact hI.1 (by rw[aK nb (by omega),aK uk (by omega)])
theorem pg{c:Nat}(hx:aL H a l xs)(hy:aL H a' l' ys)(id nU:Int):
  Sp 77 [.agg #[.int .i64 id,.slice a l c],.agg #[.int .i64 nU,.slice a' l' c']] H fun v _=>v= .bool (decide ((⟨id,xs⟩:kU)=⟨nU,ys⟩)):=by
 refine bh Tryz.func77 (fun _ _=>vc99) fun aa hb=>?_;intro b b1;refine⟨id=nU/\xs=ys,⟨fun h=>(Ag hx hy).aO fun H1 e1 _=>⟨rfl,e1,by simp[h]⟩,fun h=>⟨rfl,fun _ _ h=>h,fun h'=>h h'.1⟩⟩,?_⟩
 congr 1
 rw[decide_eq_decide,Jb]
theorem ph(h:xs.length=n):(xs=[]↔n=0):=by rw[←h];exact yp.symm
theorem sD{c:Nat}{ms:List df}(hx:iN H a l ms):Sp 102 [.slice a l c] H fun v _=>v=i64 (bu ms):=by
 refine bh Tryz.func102 (fun _ _=>vc50) fun aa hb=>?_;have hl:=hx.len;refine⟨fun h=>by rw[bu,pI (by omega)],fun h=>?_⟩;have hW:bu ms=cz ms:=by rw[bu,nI (by omega)]
 rw[hW];refine⟨fun vs _=>∃(d:Int)(i:Nat),vs=[i64 d,i64 i]/\i<=l/\cz (ms.drop i)=cz ms,aN l 1,⟨0,0,rfl,by omega,rfl⟩,fun d n H' hN hI=>?_⟩;obtain⟨d',i,cv,hi,hI⟩:=hI;obtain⟨rfl,rfl⟩:d=d'/\n=(i:Int):=by simpa using cv
 refine⟨fun bK=>hx.cZ hN.ext (by omega) bK fun m a' n' c' hm hp=>?_,fun gj=>?_⟩
 ·rw[zz] at hm;rw[av hm,cz] at hI;have Kk:=hp.len
  have next:cz (ms.drop (i+1))=cz ms->∀(Hn:Heap)(r:Int),r=IntKind.wrap .i64 ((i:Int)+1)->(∃(d_1:Int)(QG:Nat),[Value.int .i64 d,Value.int .i64 r]=[i64 d_1,i64 QG]/\QG<=l/\cz (ms.drop QG)=cz ms)/\aN l 1 [Value.int .i64 d,Value.int .i64 r]<aN l 1 [Value.int .i64 d,Value.int .i64 (i:Int)]:=by
   rintro hn Hn r rfl;rw[wrap_small];exact⟨⟨_,i+1,rfl,by omega,hn⟩,by simp[aN];omega⟩
  intro b;refine⟨m.ah<0∨6<=m.ah∨m.au<1∨200<m.au,?_,fun h1=>?_,fun h1=>?_⟩
  ·repeat' (first|exact⟨rfl,fun _ _ h=>h,by omega⟩|intro _|refine⟨?_,?_⟩)
  ·rw[pI (show jO m from h1)] at hI;rw[←hI]
  rw[nI (show¬jO m from h1)] at hI;refine⟨iL m,?_,fun h2=>?_,fun h2=>?_⟩
  ·have hz:=ph Kk
   refine⟨fun hr=>⟨fun g=>⟨rfl,fun _ _ h=>h,.inl ⟨hr,fun h=>g h.1⟩⟩,fun g=>⟨fun g2=>⟨rfl,fun _ _ h=>h,.inl ⟨hr,fun h=>by have:=hz.1 h.2;omega⟩⟩,fun g2=>⟨fun g3=>(by rw[hr] at g3;cases g3),fun _=>⟨rfl,fun _ _ h=>h,?_⟩⟩⟩⟩,
    fun hr=>⟨fun _=>⟨rfl,fun _ _ h=>h,?_⟩,fun g=>absurd hr g⟩⟩
   ·rintro(⟨_,h⟩|⟨h,_⟩)
    ·exact h ⟨zx.1 g,hz.2 (by omega)⟩
    ·rw[hr] at h;cases h
   ·constructor
    ·rintro(⟨h,_⟩|⟨_,h⟩)
     ·rw[hr] at h;cases h
     ·exact h
    ·exact fun h=> .inr ⟨hr,h⟩
  ·rw[pI h2] at hI;rw[←hI]
  rw[nI h2] at hI;refine⟨fun h3=>?_,fun h3=>(kJ (hp.ext' hN.ext) _).bY fun H2 e2 _=>⟨fun h4=>?_,fun h4=>?_⟩⟩
  ·rw[pI h3] at hI;exact next hI H'
  ·rw[nI (by simp[h3]),pI h4] at hI;rw[←hI]
  ·rw[nI (by simp[h3]),nI h4] at hI;exact next hI H2
 ·rw[←hI,aK hx.len (by omega),cz]
theorem On{c:Nat}{ms:List df}(hx:iN H a l ms):Sp 69 [.slice a l c] H fun v _=>v=i64 (bu ms):=by
 refine bh Tryz.func69 (fun _ _=>vc49) fun aa hb=>?_;have hl:=hx.len;refine⟨fun h=>by rw[bu,pI (by omega)],fun h=>?_⟩;have hW:bu ms=cz ms:=by rw[bu,nI (by omega)]
 rw[hW];refine⟨fun vs _=>∃(d:Int)(i:Nat),vs=[i64 d,i64 i]/\i<=l/\cz (ms.drop i)=cz ms,aN l 1,⟨0,0,rfl,by omega,rfl⟩,fun d n H' hN hI=>?_⟩;obtain⟨d',i,cv,hi,hI⟩:=hI;obtain⟨rfl,rfl⟩:d=d'/\n=(i:Int):=by simpa using cv
 refine⟨fun bK=>hx.cZ hN.ext (by omega) bK fun m a' n' c' hm hp=>?_,fun gj=>?_⟩
 ·rw[zz] at hm;rw[av hm,cz] at hI;have Kk:=hp.len;have hz:=ph Kk
  have next:cz (ms.drop (i+1))=cz ms->∀(Hn:Heap)(r:Int),r=IntKind.wrap .i64 ((i:Int)+1)->(∃(d_1:Int)(QG:Nat),[Value.int .i64 d,Value.int .i64 r]=[i64 d_1,i64 QG]/\QG<=l/\cz (ms.drop QG)=cz ms)/\aN l 1 [Value.int .i64 d,Value.int .i64 r]<aN l 1 [Value.int .i64 d,Value.int .i64 (i:Int)]:=by
   rintro hn Hn r rfl;rw[wrap_small];exact⟨⟨_,i+1,rfl,by omega,hn⟩,by simp[aN];omega⟩
  intro b;refine⟨m.ah<0∨6<=m.ah∨m.au<1∨200<m.au,?_,fun h1=>?_,fun h1=>?_⟩
  ·refine(uY _ _ _).aO fun H2 e2 _=>⟨fun g=>⟨rfl,e2,?_⟩,fun g=>(uY _ _ _).aO fun H3 e3 _=>⟨rfl,aH.trans e2 e3,?_⟩⟩
   ·have:¬(0<=m.ah/\m.ah<=5):=by simpa[me] using g
    omega
   ·have:0<=m.ah/\m.ah<=5:=by simpa[me] using g
    simp only[me,decide_eq_false_iff_not];omega
  ·rw[pI (show jO m from h1)] at hI;rw[←hI]
  rw[nI (show¬jO m from h1)] at hI;refine⟨je m.cB,⟨fun g=>⟨rfl,fun _ _ h=>h,?_⟩,fun g=>⟨rfl,fun _ _ h=>h,fun h=>g h.1⟩⟩,iL m,?_,fun h2=>?_,fun h2=>?_⟩
  ·constructor
   ·intro h;have:=hz.1 h.2;omega
   ·intro h;exact⟨g,hz.2 (by omega)⟩
  ·refine⟨fun hr=>⟨fun g=>⟨rfl,fun _ _ h=>h,.inl ⟨hr,g⟩⟩,fun g=>⟨fun g2=>⟨rfl,fun _ _ h=>h,?_⟩,fun g2=>⟨rfl,fun _ _ h=>h,?_⟩⟩⟩,fun hr=>⟨fun g=>⟨rfl,fun _ _ h=>h,?_⟩,fun g=>⟨rfl,fun _ _ h=>h,?_⟩⟩⟩
   ·unfold iL;simp[hr,zx.1 g]
   ·unfold iL;simp[hr,zx.1 g]
   ·unfold iL;simp[hr,g]
   ·unfold iL;simp[hr,g]
  ·rw[pI h2] at hI;rw[←hI]
  rw[nI h2] at hI;refine⟨fun h3=>(mf (hp.ext' hN.ext) _).bY fun H2 e2 _=>⟨fun h4=>?_,fun h4=>?_⟩,fun h3=>?_⟩
  ·rw[nI (by simp[h3]),pI h4] at hI;rw[←hI]
  ·rw[nI (by simp[h3]),nI h4] at hI;exact next hI H2
  ·rw[pI (by simpa using h3)] at hI;exact next hI H'
 ·rw[←hI,aK hx.len (by omega),cz]
open Go Go.Proofs
theorem Gy{c:Nat}{ms:List df}(hx:iN H a l ms)(hl:l<=100000):Sp 42 [.slice a l c] H fun v H'=>∃a n c rs,v= .slice a n c/\bZ H H' 74 6 a n c rs.flatten/\(∀r∈rs,r.length=6)/\dY cK H rs ms:=by
 refine bh Tryz.func42 (fun _ _=>vc52) fun aa hb=>⟨_,uZ Tryz.underlying39,fun h=>?_,fun h=>?_⟩
 ·obtain rfl:a=none:=by cases a<;>simp at h⊢
  obtain⟨_,rfl⟩:=hx.kC;exact⟨none,0,0,[],rfl,bZ.zero,by simp,trivial⟩
 ·intro g H1 fh _ hg;obtain⟨rs,h1,h2,h3,h4⟩:=hx.rows cK.len;exact⟨[],_,bg.zero,h3,ev cK.one h2,h4.imp id (fun⟨b,o,hb,hc⟩=>⟨b,o,hb,fj fh.ext hc⟩),by omega,by omega,fun a3 c3 H3 hG hR=>⟨_,_,_,rs,rfl,hR.fresh hb,h1,h2⟩⟩
theorem bg.at{aa:Nat}{H:Heap}{e:TypeId}{sz n c i:Nat}{a:O}{L:List (List Value)}{r:List Value}(h:bg aa H e sz a n c L.flatten)(hw:∀r∈L,r.length=sz)(hn:L.length=n)(hr:L[i]?=some r):
  ∃b:Nat,a=some ⟨b,0,none⟩/\∀(j:Nat)(v:Value),r[j]?=some v->H.cell b (0+i*sz+j)=some v:=by
 have hi:i<n:=by have:=(zw.1 hr).1;omega
 obtain⟨b,o,r',ha,we,hc⟩:=(pN h rfl hw hn).get hi;rw[hr] at we;obtain rfl:=zy we;obtain⟨b',_,Fk,_⟩:=h.block (by omega);rw[ha] at Fk;simp at Fk;obtain⟨rfl,rfl⟩:=Fk;exact⟨b,ha,hc⟩
theorem Gz{c:Nat}{ms:List df}(hx:iN H a l ms)(hl:l<=100000)(hk:∀m∈ms,m.cB.ap.length<=100000):Sp 172 [.slice a l c] H fun v H'=>∃a n c G rs,v= .slice a n c/\nJ cK 6 74 H G H' a n c rs ms:=by
 refine bh Tryz.func172 (fun _ _=>XX) fun aa hb=>?_;have Oo:=hx.len;refine(Gy hx hl).mono fun v H1 e1 hv=>?_;obtain⟨a1,n1,c1,rs,rfl,hF,hw,hA⟩:=hv;refine⟨a1,n1,c1,rfl,fun fh=>?_⟩;have hR:=hF.row fh
 have Gx:rs.length=n1:=by
  have:=hR.1;rw[iX hw] at this;omega
 have hrm:=hA.len
 have hclear:c1≠0->∀g,a1=some ⟨g,0,none⟩->H g=none:=fun hc g hg=>by
  rcases hF.2.2.2 with⟨_,h0⟩|⟨g',k,h1,h2,_⟩
  ·exact absurd h0 hc
  ·rw[hg] at h1;simp at h1;subst h1;exact h2
 refine⟨fun vs Hc=>∃(i:Nat)(r1:List (List Value))(G:Heap),vs=[i64 i]/\i<=n1/\r1.length=i/\(∀r∈r1,r.length=6)/\bg aa Hc 74 6 a1 n1 c1 (r1++rs.drop i).flatten/\dY cK G r1 (ms.take i)/\sT H G/\aH G Hc/\(c1≠0->∀g,a1=some ⟨g,0,none⟩->G g=none),
  aN n1 0,⟨0,[],fun _=>none,rfl,by omega,rfl,by simp,hR,by simp[dY],fun _ _ h=>(by cases h),fun _ _ h=>(by cases h),fun _ _ _=>rfl⟩,fun m H2 dZ hI=>?_⟩
 obtain⟨i,r1,G,cv,hi,UF,Oq,qy,Mk,Yc,kX,v8⟩:=hI;obtain rfl:m=(i:Int):=by simpa using cv
 refine⟨fun bK=>?_,fun gj=>?_⟩
 ·have Q9:rs[i]?=some (rs[i]'(by omega)):=zu (by omega);have Ra:ms[i]?=some (ms[i]'(by omega)):=zu (by omega);generalize GA:rs[i]'(by omega)=r at Q9;generalize VX:ms[i]'(by omega)=m at Ra;obtain⟨la,ln,lc,rfl,hp⟩:=hA.get Q9 Ra;have Kk:=hp.len;have Ur:=hk m (zt Ra)
  have hwL:∀r∈r1++rs.drop i,r.length=6:=fun r hr=>by
   rcases zd.1 hr with hr|hr
   ·exact Oq r hr
   ·exact hw r (List.mem_of_mem_drop hr)
  have Ff:(r1++rs.drop i)[i]?=some (gN m la ln lc):=by
   rw[zY (by omega),UF,Nat.sub_self,List.getElem?_drop,Nat.add_zero];exact Q9
  obtain⟨b,sE,cI⟩:=qy.at hwL (by simp;omega) Ff;have hd:=av Q9;refine⟨b,0,sE,by omega,bK,_,_,_,_,_,_,_,_,⟨cI 0 _ rfl,cI 1 _ rfl,cI 2 _ rfl,cI 3 _ rfl,cI 4 _ rfl,cI 5 _ rfl,trivial⟩,fun b2=>?_⟩;refine(kH (hp.ext' dZ.ext) (by omega)).mono fun v H3 e3 hv=>?_;obtain⟨a6,n6,c6,rfl,hF6⟩:=hv;refine⟨a6,n6,c6,rfl,fun fS=>?_⟩;obtain⟨b3,k3,Yd,fN,Fb,M9,hf3,hs3,_⟩:=qy.block (by omega);obtain rfl:b=b3:=by rw[sE] at Yd;simpa using Yd
  have tR:=qy.2.1;refine⟨b,0,sE,by omega,bK,k3,e3 _ _ M9,hf3,fN,by rw[hs3,zz];omega,fun H4 hu=>?_⟩;rintro r rfl;rw[aj];rw[zz] at hu;have Ot:=(qy.ext e3).N2 sE Fb (e3 _ _ M9) (o:=0+i*6+4+1) (vs:=[.slice a6 n6 c6]) (by rw[qy.1];show 0+i*6+4+1+1<=n1*6;omega) hu;rw[hd,show 0+i*6+4+1=r1.length*6+5 from by omega,Be Oq rfl (by simp)] at Ot;have tY:cK (G.plus (du H2 H3)) (aV (gN m la ln lc) 5 [.slice a6 n6 c6]) m:=⟨a6,n6,c6,rfl,Sl.ext gT.mono (hF6.pU cJ (by omega)) (ib kX)⟩
  have Ye:(G.plus (du H2 H3)) b=none:=by
   unfold Heap.plus du;rw[v8 Fb b sE,M9]
  refine⟨⟨i+1,r1++[aV (gN m la ln lc) 5 [.slice a6 n6 c6]],G.plus (du H2 H3),rfl,by omega,by simp[UF],fun r hr=>?_,by simpa using Ot,?_,?_,fun x k hx=>?_,fun _ g hg=>?_⟩,by simp[aN];omega⟩
  ·rcases zd.1 hr with hr|hr
   ·exact Oq r hr
   ·simp at hr;subst hr;rfl
  ·rw[fQ Ra];exact dY.append (dY.one tY) (Mk.mono cK.mono lu)
  ·exact o0 Yc (il.sub dZ.ext)
  ·have eE:x≠b:=fun e=>by rw[e,Ye] at hx;cases hx
   rw[hu.there x eE];exact Bf (kX.trans e3) ew x k hx
  ·rw[sE] at hg;simp at hg;subst hg;exact Ye
 ·obtain rfl:i=n1:=by omega
  rw[zO (by omega),zZ] at qy;rw[zg (by omega)] at Mk;exact⟨_,_,_,G,r1,rfl,bV.new ⟨qy,Oq,Mk,kX,v8⟩ hb Yc⟩
theorem Yf{c:Nat}{ms:List df}(hx:iN H a l ms)(m:df)(hp:aL H a' l' m.cB.ap):
  Sp 245 [.slice a l c,.agg #[.int .i64 m.ah,.int .i64 m.au,.bool m.rep,.bool m.aP,.int .i64 m.cB.id,.slice a' l' c']] H fun v H'=>∃a n c,v= .tuple #[.slice a n c,i64 (iM ms m)]/\n<=c/\iN H' a n (if iM ms m=0 then u7 ms m else []):=by
 refine bh Tryz.func245 (fun _ _=>vc45) fun aa hb=>?_;intro b g H1 fh _ hg;have Oo:=hx.len;have bx:iN H1 (some ⟨g,0,none⟩) 1 [m]:=Gv (m:=m) hg (hp.ext' fh.ext);refine⟨fun vs Hc=>∃(a4:O)(n4 c4:Nat)(d:Int)(k:Nat),vs=[.slice a4 n4 c4,i64 d,i64 k]/\k<=2/\(0<k->bu ms=0)/\(1<k->bu [m]=0)/\aH H1 Hc,aN 2 2,⟨none,0,0,0,0,rfl,by omega,by omega,by omega,aH.refl _⟩,fun a4 n4 c4 d n H' hN hI=>?_⟩;obtain⟨a4',n4',c4',d',k,cv,hk,Ql,NE,he⟩:=hI;obtain⟨⟨rfl,rfl,rfl⟩,rfl,rfl⟩:(a4=a4'/\n4=n4'/\c4=c4')/\d=d'/\n=(k:Int):=by simpa using cv
 refine⟨fun bK=>⟨by omega,bK,?_⟩,fun gj=>?_⟩
 ·by_cases k0:k=0
  ·subst k0;refine⟨a,l,c,rfl,(sD (hx.ext' hN.ext)).bY fun H2 e2 _=>⟨fun h=>?_,fun h=>?_⟩⟩
   ·have e:iM ms m=bu ms:=by rw[iM,nI h]
    rw[e,nI h];exact⟨none,0,0,rfl,by omega,Sl.nil⟩
   ·rintro r rfl;rw[wrap_small];exact⟨rfl,⟨_,_,_,_,1,rfl,by omega,fun _=>zx.1 h,by omega,he.trans e2⟩,by simp[aN]⟩
  ·obtain rfl:k=1:=by omega
   refine⟨some ⟨g,0,none⟩,1,1,rfl,(sD (bx.ext' he)).bY fun H2 e2 _=>⟨fun h=>?_,fun h=>?_⟩⟩
   ·have e:iM ms m=bu [m]:=by rw[iM,pI (Ql (by omega))]
    rw[e,nI h];exact⟨none,0,0,rfl,by omega,Sl.nil⟩
   ·rintro r rfl;rw[wrap_small];exact⟨rfl,⟨_,_,_,_,2,rfl,by omega,fun _=>Ql (by omega),fun _=>zx.1 h,he.trans e2⟩,by simp[aN]⟩
 obtain rfl:k=2:=by omega
 have hE:iM ms m=0:=by rw[iM,pI (Ql (by omega))];exact NE (by omega)
 obtain⟨Ev,Ae⟩:=mC (Ql (by omega));obtain⟨_,hlk1⟩:=mC (NE (by omega));rw[hE,pI rfl];refine(Gz (hx.ext' hN.ext) (by omega) (fun m hm=>by have:=Ae m hm;omega)).mono fun v H3 e3 hv=>?_;obtain⟨a5,n5,c5,G,rs,rfl,u9⟩:=hv;refine⟨a5,n5,c5,rfl,fun fS=>?_⟩;have hO:=u9.own fS;obtain⟨_,hn5⟩:=hO.mb (by omega);refine⟨fun bK=>?_,fun gj=>?_⟩
 ·intro g2 H4 iC hg2n FJ;have bx2:iN H4 (some ⟨g2,0,none⟩) 1 [m]:=Gv (m:=m) FJ (((hp.ext' hN.ext).ext' e3).ext' iC.ext);refine(Gz bx2 (by omega) (fun x hx=>by have:=hlk1 x hx;omega)).mono fun v H5 e5 hv=>?_;obtain⟨a6,n6,c6,G',Yg,rfl,xt⟩:=hv;refine⟨a6,n6,c6,rfl,fun kT=>?_⟩;have C2:=xt.own kT;obtain⟨hr6,hn6⟩:=C2.mb (by omega);have UG:aH H3 H5:=aH.trans iC.ext e5;have Ew:=hO.grow cK.mono UG;obtain⟨rs6,q1,q2,q3,q4⟩:=(C2.sl cK.mono (by omega)).rows cK.len
  have ku:n6=0∨ ∃(b:Nat)(o:Nat),a6=some ⟨b,o,none⟩/\ba H5 b o 0 Yg.flatten:=by
   by_cases h0:n6=0
   ·exact .inl h0
   ·obtain⟨b6,k6,hb6,_⟩:=C2.row.block (by omega);have:=C2.row;rw[hb6] at this;exact .inr ⟨b6,0,hb6,by simpa using this.ba (k:=0) (by omega) (by omega)⟩
  simp at hn6;refine⟨rs.flatten,Yg.flatten,Ew.row,by rw[iX xt.wid,hr6],ev cK.one xt.all,ku,by omega,by omega,fun a7 c7 H7 hG Ih=>?_⟩;have kj:dY cK (G.plus (du H3 H5)) Yg [m]:=xt.Kq cK.mono|>.mono cK.mono ((lE iC.ext).trans (ib hO.sub))
  have Ex:=Ew.oB hG Ih xt.wid kj;refine⟨_,_,_,rfl,Ex.row.2.1,?_⟩;rw[u7,pI (by omega)];exact Ex.sl cK.mono (by omega)
 ·refine⟨_,_,_,rfl,hO.row.2.1,?_⟩;rw[u7,nI (by omega)];exact hO.sl cK.mono (by omega)
theorem Ou{c:Nat}{ms:List df}(hx:iN H a l ms)(k:Int)(tw:Bool):
  Sp 175 [.slice a l c,.int .i64 k,.bool tw] H fun v H'=>∃a n c la ln lc,v= .tuple #[.slice a n c,.agg (gN (if dz ms k=0 then dw ms k else Er) la ln lc).toArray,i64 (dz ms k)]/\iN H' a n (if dz ms k=0 then left ms k tw else [])/\aL H' la ln (if dz ms k=0 then dw ms k else Er).cB.ap/\n<=c:=by
 refine bh Tryz.func175 (fun _ _=>vc48) fun aa hb=>?_;intro b;have Oo:=hx.len;refine(sD hx).bY fun H1 e1 fh=>⟨fun h=>?_,fun h=>?_⟩
 ·have e:dz ms k=bu ms:=by rw[dz,nI h]
  rw[e,nI h,nI h];exact⟨none,0,0,none,0,0,rfl,Sl.nil,Sl.nil,ze 0⟩
 have h:=zx.1 h;obtain⟨Ev,Ae⟩:=mC h;refine⟨k<0∨(l:Int)<=k,⟨fun _=>⟨rfl,fun _ _ h=>h,by omega⟩,fun _=>⟨rfl,fun _ _ h=>h,by omega⟩⟩,fun hk=>?_,fun hk=>?_⟩
 ·have e:dz ms k=5:=by rw[dz,pI h,pI (by omega)]
  rw[e,nI (by omega),nI (by omega)];exact⟨none,0,0,none,0,0,rfl,Sl.nil,Sl.nil,ze 0⟩
 have hE:dz ms k=0:=by rw[dz,pI h,nI (by omega)]
 rw[hE,pI rfl,pI rfl];refine(Gz (hx.ext' e1) (by omega) (fun m hm=>by have:=Ae m hm;omega)).mono fun v H3 e3 hv=>?_;obtain⟨a5,n5,c5,G,rs,rfl,u9⟩:=hv;refine⟨a5,n5,c5,rfl,fun fS=>?_⟩;have hO:=u9.own fS;obtain⟨hr5,hn5⟩:=hO.mb (by omega);have tR:=hO.row.2.1
 have Rb:ms[k.toNat]?=some (dw ms k):=by
  rw[dw,List.getD_eq_getElem?_getD,zu (by omega)];rfl
 rintro r rfl;rw[wrap_small];refine⟨by omega,by omega,by omega,fun a6 ha6=>?_⟩;have SN:=hO.sl cK.mono (by omega)
 have IJ:iN H3 a6 1 [dw ms k]:=by
  have:=SN.sub (l:=k.toNat) (m:=1) (a':=a6) (by omega) (fun _=>ha6 (by omega));have e:(ms.drop k.toNat).take 1=[dw ms k]:=by rw[av Rb];rfl
  rw[e] at this;exact this
 rw[show Int.toNat (k+1)-Int.toNat k=1 from by omega];refine(Gz IJ (by omega) (fun m hm=>by simp at hm;subst hm;have:=Ae _ (zt Rb);omega)).mono fun v H4 e4 hv=>?_;obtain⟨a7,n7,c7,G',Yg,rfl,xt⟩:=hv;refine⟨a7,n7,c7,rfl,fun iC=>?_⟩;have C2:=xt.own iC;obtain⟨hr7,hn7⟩:=C2.mb (by omega);simp at hn7;obtain⟨r',rfl⟩:∃r',Yg=[r']:=List.length_eq_one_iff.1 (by omega);obtain⟨⟨la,ln,lc,rfl,hp⟩,_⟩:=C2.all;obtain⟨b7,hb7,cI⟩:=C2.row.at C2.wid hr7 (i:=0) rfl;have hpA:=hp.ext' C2.sub;refine⟨b7,0,hb7,by decide,by omega,_,_,_,_,_,_,_,_,⟨cI 0 _ rfl,cI 1 _ rfl,cI 2 _ rfl,cI 3 _ rfl,cI 4 _ rfl,cI 5 _ rfl,trivial⟩,fun b2=>?_⟩;have Ew:=hO.grow cK.mono e4;refine⟨fun ht=>?_,fun ht=>?_⟩
 ·rintro r rfl;refine⟨rs.flatten,k.toNat,k.toNat+1,by omega,by omega,by omega,by omega,by omega,Ew.row,ev cK.one u9.all,fun H5 hG pd=>?_⟩;rw[Bt k.toNat u9.wid,Bu (k.toNat+1) u9.wid,←zI] at pd
  have Ex:=Ew.UC hG pd (fun r hr=>by
   rcases zd.1 hr with hr|hr
   ·exact u9.wid r (zH hr)
   ·exact u9.wid r (List.mem_of_mem_drop hr)) (dY.append (Ew.all.drop (k.toNat+1)) (Ew.all.take k.toNat))
  refine⟨_,_,_,la,ln,lc,rfl,?_,hp.ext' fun x kx hx=>?_,Ex.row.2.1⟩
  ·rw[left,nI (by simp[ht])];exact Ex.sl cK.mono (by omega)
  ·refine hG.cR x kx (C2.sub x kx hx) ?_;by_cases hc:c5=0
   ·exact .inl hc
   ·refine .inr fun ha=>?_;obtain⟨g,kg,kY,FJ⟩:=hO.block hc;rw[ha] at kY;obtain rfl:x=g:=by simpa using kY
    have:=xt.im x kx hx;rw[FJ] at this;cases this
 ·refine⟨_,_,_,la,ln,lc,rfl,?_,hpA,Ew.row.2.1⟩;rw[left,pI (by simpa using ht)];exact Ew.sl cK.mono (by omega)
open Go Go.Proofs
theorem KM{m m':df} :m=m'↔m.ah=m'.ah/\m.au=m'.au/\m.rep=m'.rep/\m.aP=m'.aP/\m.cB=m'.cB:=by
 cases m;cases m';simp
abbrev od(m:df)(a:O)(n c:Nat):Value:= .agg #[.int .i64 m.ah,.int .i64 m.au,.bool m.rep,.bool m.aP,.int .i64 m.cB.id,.slice a n c]
theorem Ov{c:Nat}{m m':df}(hp:aL H a l m.cB.ap)(hq:aL H a' l' m'.cB.ap):Sp 132 [od m a l c,od m' a' l' c'] H fun v _=>v= .bool (decide (m=m')):=by
 refine bh Tryz.func132 (fun _ _=>XY) fun aa hb=>?_;intro b b1;refine⟨m=m',⟨fun h1=>⟨fun h2=>⟨_,jb,fun h3=>⟨_,jb,fun h4=>(Eu hp hq _ _).aO fun H1 e1 _=>⟨rfl,e1,?_⟩,fun h4=>⟨rfl,fun _ _ h=>h,fun h=>h4 (by simp[h])⟩⟩,fun h3=>⟨rfl,fun _ _ h=>h,fun h=>h3 (by simp[h])⟩⟩,fun h2=>⟨rfl,fun _ _ h=>h,fun h=>h2 (by rw[h])⟩⟩,fun h1=>⟨rfl,fun _ _ h=>h,fun h=>h1 (by rw[h])⟩⟩,?_⟩
 ·rw[KM];simp only[beq_iff_eq] at h3 h4;simp[h1,h2,h3,h4];exact⟨fun h=>by rw[h];exact⟨rfl,rfl⟩,fun h=>by cases hm:m.cB;cases nT:m'.cB;simp_all⟩
 ·congr 1
  exact decide_eq_decide.2 Iff.rfl
theorem Ox{c:Nat}{m m':df}(hp:aL H a l m.cB.ap)(hq:aL H a' l' m'.cB.ap):Sp 191 [od m a l c,od m' a' l' c'] H fun v _=>v= .bool (decide (m=m')):=by
 refine bh Tryz.func191 (fun _ _=>XZ) fun aa hb=>?_;intro b b1;refine⟨m=m',⟨fun h1=>⟨fun h2=>⟨_,jb,fun h3=>⟨_,jb,fun h4=>(pg hp hq _ _).aO fun H1 e1 _=>⟨rfl,e1,?_⟩,fun h4=>⟨rfl,fun _ _ h=>h,fun h=>h4 (by simp[h])⟩⟩,fun h3=>⟨rfl,fun _ _ h=>h,fun h=>h3 (by simp[h])⟩⟩,fun h2=>⟨rfl,fun _ _ h=>h,fun h=>h2 (by rw[h])⟩⟩,fun h1=>⟨rfl,fun _ _ h=>h,fun h=>h1 (by rw[h])⟩⟩,?_⟩
 ·rw[KM];simp only[beq_iff_eq] at h3 h4;simp[h1,h2,h3,h4];exact⟨fun h=>by rw[h];exact⟨rfl,rfl⟩,fun h=>by cases hm:m.cB;cases nT:m'.cB;simp_all⟩
 ·congr 1
  exact decide_eq_decide.2 Iff.rfl
theorem Yh{c:Nat}{xs ys:List df}(hx:iN H a l xs)(hy:iN H a' l' ys):Sp 44 [.slice a l c,.slice a' l' c'] H fun v _=>v= .bool (decide (xs=ys)):=by
 have UH:Sp 131 [.slice a l c,.slice a' l' c',.func (.func 132) #[] #[]] H fun v _=>v= .bool (decide (xs=ys)):=by
  refine bh Tryz.func131 (fun _ _=>Uz) fun aa hb=>?_;have nb:=hx.len;have uk:=hy.len;have hle:=hx.le;refine⟨fun eE=>?_,fun he=>?_⟩
  ·rw[decide_eq_false];rintro rfl;omega
  refine⟨fun vs _=>∃(b:Bool)(k:Nat),vs=[.bool b,i64 k]/\k<=l/\(xs.drop k=ys.drop k↔xs=ys),aN l 1,⟨false,0,rfl,by omega,by simp⟩,fun b n H' hN hI=>?_⟩;obtain⟨b',k,cv,hk,hI⟩:=hI;obtain⟨rfl,rfl⟩:b=b'/\n=(k:Int):=by simpa using cv
  refine⟨fun bK=>hx.cZ hN.ext (by omega) bK fun m a1 n1 c1 hm hp=>fun b4=>hy.cZ hN.ext (by omega) (by omega) fun m' a2 n2 c2 nT hq=>fun b8=>(Ov (hp.ext' hN.ext) (hq.ext' hN.ext)).aO fun H2 e2 _=>⟨fun h=>?_,fun h=>?_⟩,fun gj=>?_⟩
  ·rw[zz] at hm nT;rw[av hm,av nT] at hI;rw[decide_eq_false];intro e;exact absurd (yx (hI.2 e)).1 (by simpa using h)
  ·rw[zz] at hm nT;rw[av hm,av nT] at hI;have sS:m=m':=by simpa using h
   rintro r rfl;rw[aj];exact⟨⟨b,k+1,rfl,by omega,by rw[←hI];simp[sS]⟩,by simp[aN];omega⟩
  ·rw[decide_eq_true];exact hI.1 (by rw[aK nb (by omega),aK uk (by omega)])
 refine bh Tryz.func44 (fun aa K=>vc47 a a' l c l' c' aa H K) fun aa hb=>?_;exact UH.aO fun H1 _ _=>rfl
theorem Oy{c:Nat}{xs ys:List df}(hx:iN H a l xs)(hy:iN H a' l' ys):Sp 115 [.slice a l c,.slice a' l' c'] H fun v _=>v= .bool (decide (xs=ys)):=by
 have UH:Sp 131 [.slice a l c,.slice a' l' c',.func (.func 191) #[] #[]] H fun v _=>v= .bool (decide (xs=ys)):=by
  refine bh Tryz.func131 (fun _ _=>UA) fun aa hb=>?_;have nb:=hx.len;have uk:=hy.len;have hle:=hx.le;refine⟨fun eE=>?_,fun he=>?_⟩
  ·rw[decide_eq_false];rintro rfl;omega
  refine⟨fun vs _=>∃(b:Bool)(k:Nat),vs=[.bool b,i64 k]/\k<=l/\(xs.drop k=ys.drop k↔xs=ys),aN l 1,⟨false,0,rfl,by omega,by simp⟩,fun b n H' hN hI=>?_⟩;obtain⟨b',k,cv,hk,hI⟩:=hI;obtain⟨rfl,rfl⟩:b=b'/\n=(k:Int):=by simpa using cv
  refine⟨fun bK=>hx.cZ hN.ext (by omega) bK fun m a1 n1 c1 hm hp=>fun b4=>hy.cZ hN.ext (by omega) (by omega) fun m' a2 n2 c2 nT hq=>fun b8=>(Ox (hp.ext' hN.ext) (hq.ext' hN.ext)).aO fun H2 e2 _=>⟨fun h=>?_,fun h=>?_⟩,fun gj=>?_⟩
  ·rw[zz] at hm nT;rw[av hm,av nT] at hI;rw[decide_eq_false];intro e;exact absurd (yx (hI.2 e)).1 (by simpa using h)
  ·rw[zz] at hm nT;rw[av hm,av nT] at hI;have sS:m=m':=by simpa using h
   rintro r rfl;rw[aj];exact⟨⟨b,k+1,rfl,by omega,by rw[←hI];simp[sS]⟩,by simp[aN];omega⟩
  ·rw[decide_eq_true];exact hI.1 (by rw[aK nb (by omega),aK uk (by omega)])
 refine bh Tryz.func115 (fun aa K=>vc51 a a' l c l' c' aa H K) fun aa hb=>?_;exact UH.aO fun H1 _ _=>rfl
def m1:df:=⟨1,2,true,true,⟨0,[]⟩⟩
def m2:df:=⟨2,3,false,false,⟨2,[⟨1,2⟩,⟨2,1⟩]⟩⟩
theorem Rc :Sp 72 [] H fun v H'=>∃a n c,v= .agg #[i64 2,.slice a n c]/\aL H' a n [⟨1,2⟩,⟨2,1⟩]:=by
 refine bh Tryz.func72 (fun aa K=>X0 aa H K) fun aa hb=>?_;intro b g H1 fh _ hg;exact⟨_,_,_,rfl,nH cJ (xs:=[⟨1,2⟩,⟨2,1⟩]) hg rfl (by decide)⟩
open Go Go.Proofs
theorem Jc(s:ByteArray)(c:Int):Sp 266 [.string s,.int .u8 c] H fun v _=>v=i64 (Lib.indexByte s.data.toList c.toNat.toUInt8):=by
 refine bh Tryz.func266 (fun _ _=>X1) fun aa hb=>⟨_,fun w _=>?_,rfl⟩
 show(callFunc 286 #[.string s,.int .u8 c]).run Tryz.prog w=_
 rw[run_callFunc_extern Tryz.func286 (by kernel_rfl) (by kernel_rfl) (by kernel_rfl) (e:=Extern.BytealgIndexByte.indexByte) (by kernel_rfl),Lib.run_indexByteString];rfl
theorem eqStr :aR Tryz.prog (aI .eql 9 xo yo (.string s) (.string t)) (.bool (s.toList==t.toList)):=by
 intro w;have hg:(eqGuard .eql 9 xo yo (.string s) (.string t)).run Tryz.prog w= .ok () w:=by simp[eqGuard]
 simp only[aI,Sem.run_bind,hg,Result.andThen_ok];have:=run_equalIn_string (P:= Tryz.prog) w 9999 9 s t Tryz.underlying9;simp[binOp,Op.equal,this,Op.stringOp]
theorem Ml(s:ByteArray)(c:UInt8):Sp 247 [.string s,.string ⟨#[c]⟩] H fun v _=>v=i64 (Lib.indexByte s.data.toList c):=by
 refine bh Tryz.func247 (fun _ _=>X2) fun aa hb=>?_;have h1:((ByteArray.mk #[c]).size:Int)=1:=rfl;refine⟨((ByteArray.mk #[c]).toList==s.toList)=true,⟨fun h=>absurd h (by rw[h1];decide),fun _=>⟨_,eqStr,fun _ _ h=>h,Iff.rfl⟩⟩,fun h=>?_,fun h=>⟨fun _=>⟨(c.toNat:Int),fun w=>?_,(Jc s (c.toNat:Int)).bY fun H1 _ _=>?_⟩,fun h'=>absurd h1 h'⟩⟩
 ·rw[ByteArray.toList_eq,ByteArray.toList_eq,beq_iff_eq] at h;rw[←h];simp[Lib.indexByte]
 ·rw[run_index_string w 9 (ByteArray.mk #[c]) .i64 0 Tryz.underlying9,dif_pos ⟨by omega,by rw[h1];omega⟩];rfl
 ·congr 2
  simp
theorem Bv(s:ByteArray)(c:UInt8):Sp 213 [.string s,.string ⟨#[c]⟩] H fun v _=>v= .bool (decide (0<=Lib.indexByte s.data.toList c)):=by
 have h154:Sp 239 [.string s,.string ⟨#[c]⟩] H fun v _=>v=i64 (Lib.indexByte s.data.toList c):=by
  refine bh Tryz.func239 (fun _ _=>X3) fun aa hb=>?_;exact(Ml s c).bY fun H1 _ _=>rfl
 refine bh Tryz.func213 (fun _ _=>X4) fun aa hb=>?_;exact h154.bY fun H1 _ _=>rfl
def tz(k:Int):ByteArray:=if k=1 then⟨#[116,114]⟩ else if k=2 then⟨#[116]⟩ else if k=3 then⟨#[116,103]⟩ else if k=4 then⟨#[114]⟩ else if k=5 then⟨#[110]⟩ else if k=6 then⟨#[97,116]⟩ else if k=7 then⟨#[97,116,103]⟩ else⟨#[]⟩
theorem nine(h1:1<=k)(h9:k<=9):k=1∨k=2∨k=3∨k=4∨k=5∨k=6∨k=7∨k=8∨k=9:=by omega
theorem Yi(h1:1<=k)(h9:k<=9):Sp 230 [.int .i64 k] H fun v _=>v= .string (tz k):=by
 refine bh Tryz.func230 (fun _ _=>X5) fun aa hb=>⟨by omega,by omega,tz k,?_,rfl⟩
 rcases nine h1 h9 with rfl|rfl|rfl|rfl|rfl|rfl|rfl|rfl|rfl<;>rfl
theorem Rd(h1:1<=k)(h9:k<=9)(c:UInt8)(hp:H.cell p 0=some (i64 k)):Sp 229 [.string ⟨#[c]⟩,.pointer (some ⟨p,0,none⟩)] H fun v _=>v= .bool (decide (0<=Lib.indexByte (tz k).data.toList c)):=by
 refine bh Tryz.func229 (fun _ _=>X6) fun aa hb=>⟨k,hp,?_⟩
 refine(Yi h1 h9).mono fun v H1 e1 hv=>⟨_,hv,fun fh=>?_⟩
 exact(Bv (tz k) c).aO fun H2 _ _=>rfl
theorem GB{G:Bool->Heap->Prop}(h1:1<=k)(h9:k<=9){rest:List Value}{xs:List Bx}(e0:aH Hb H){c:UInt8}{P:Prop}[Decidable P](hP:0<=Lib.indexByte (tz k).data.toList c↔P)(hG:∀H',aH Hb H'->G (decide P) H'):
  true=true/\∀Hl,Vg.Next 0 H Hl->Hl b=some (ay 126 (.int .i64 k::rest))/\True->Sp 229 [.string ⟨#[c]⟩,.pointer (some ⟨b,0,none⟩)] Hl fun v tV=>∃b1:Bool,v= .bool b1/\∀H',Vg.Next aa H H'->(∀(b2:Nat)(k:KB),tV b2=some k->(∀x:Bx,x∈xs->b2≠Bx.b x)->H' b2=some k)->G b1 H':=
 ⟨rfl,fun Hl hN hb=>(Rd h1 h9 c (p:=b) (by unfold Heap.cell;rw[hb.1];rfl)).mono fun v H2 _ hv=>⟨decide P,by rw[hv];congr 1;exact decide_eq_decide.2 hP,fun H' QH _=>hG H' (e0.trans QH.ext)⟩⟩
section
variable {k : Int} (h1 : 1 <= k) (h9 : k <= 9)
include h1 h9
theorem hasA:0<=Lib.indexByte (tz k).data.toList 97↔(k=6∨k=7):=by rcases nine h1 h9 with rfl|rfl|rfl|rfl|rfl|rfl|rfl|rfl|rfl<;>decide
theorem hasT:0<=Lib.indexByte (tz k).data.toList 116↔(k=1∨k=2∨k=3∨k=6∨k=7):=by rcases nine h1 h9 with rfl|rfl|rfl|rfl|rfl|rfl|rfl|rfl|rfl<;>decide
theorem hasN:0<=Lib.indexByte (tz k).data.toList 110↔k=5:=by rcases nine h1 h9 with rfl|rfl|rfl|rfl|rfl|rfl|rfl|rfl|rfl<;>decide
theorem hasG:0<=Lib.indexByte (tz k).data.toList 103↔(k=3∨k=7):=by rcases nine h1 h9 with rfl|rfl|rfl|rfl|rfl|rfl|rfl|rfl|rfl<;>decide
theorem hasR:0<=Lib.indexByte (tz k).data.toList 114↔(k=1∨k=4):=by rcases nine h1 h9 with rfl|rfl|rfl|rfl|rfl|rfl|rfl|rfl|rfl<;>decide
end
theorem sF{c:Nat}{r:bD}(hp:aL H a l r.cB.ap):Sp 198 [gU r a l c] H fun v _=>v=i64 (bC r):=by
 obtain⟨kd,ag,tr,n,gd,⟨id,ap⟩⟩:=r;have hp:aL H a l ap:=hp;refine bh Tryz.func198 (fun aa K=>X8 kd ag tr n id gd a l c aa H K) fun aa hb=>?_;have Kk:=hp.len;have Nf:je ⟨id,ap⟩↔id=0/\l=0:=by unfold je;rw[ph Kk]
 intro b;refine⟨kd<1∨9<kd,⟨fun _=>⟨rfl,fun _ _ h=>h,by omega⟩,fun _=>⟨rfl,fun _ _ h=>h,by omega⟩⟩,fun h=>by rw[bC,pI h],fun h=>?_⟩;have h1:1<=kd:=by omega
 have h9:kd<=9:=by omega
 have hA:=hasA h1 h9;have hT:=hasT h1 h9;have hN:=hasN h1 h9;have hG:=hasG h1 h9;have hR:=hasR h1 h9;refine⟨iO ⟨kd,ag,tr,n,gd,⟨id,ap⟩⟩,?_,fun h2=>by rw[bC,nI h,pI h2],fun h2=>?_⟩
 ·have hF:iO ⟨kd,ag,tr,n,gd,⟨id,ap⟩⟩↔(ag≠0/\¬(kd=6∨kd=7))∨(tr≠0/\¬(kd=1∨kd=2∨kd=3∨kd=6∨kd=7))∨(n≠0/\¬kd=5)∨(gd=true/\¬(kd=3∨kd=7))∨(¬(id=0/\l=0)/\¬(kd=1∨kd=4)):=by unfold iO;rw[Nf]
  generalize iO ⟨kd,ag,tr,n,gd,⟨id,ap⟩⟩=φ at hF
  clear Nf Kk hp h
  repeat' (first
   |refine GB h1 h9 (Hb:=H) (by first|assumption|exact fun _ _ h=>h) hA fun _ _=>?_
   |refine GB h1 h9 (Hb:=H) (by first|assumption|exact fun _ _ h=>h) hT fun _ _=>?_
   |refine GB h1 h9 (Hb:=H) (by first|assumption|exact fun _ _ h=>h) hN fun _ _=>?_
   |refine GB h1 h9 (Hb:=H) (by first|assumption|exact fun _ _ h=>h) hG fun _ _=>?_
   |refine GB h1 h9 (Hb:=H) (by first|assumption|exact fun _ _ h=>h) hR fun _ _=>?_
   |exact⟨rfl,by first|assumption|exact fun _ _ h=>h,by clear hA hT hN hG hR;grind⟩
   |intro _
   |refine⟨?_,?_⟩)
 refine⟨gp ⟨kd,ag,tr,n,gd,⟨id,ap⟩⟩,?_,fun h3=>by rw[bC,nI h,nI h2,pI h3],fun h3=>?_⟩
 ·have hF:gp ⟨kd,ag,tr,n,gd,⟨id,ap⟩⟩↔ag<0∨6<=ag∨((kd=1∨kd=2∨kd=3∨kd=6∨kd=7)/\(tr<1∨200<tr))∨(kd=5/\(n<1∨6<n)):=Iff.rfl;generalize gp ⟨kd,ag,tr,n,gd,⟨id,ap⟩⟩=φ at hF
  clear Nf Kk hp h h2
  repeat' (first
   |refine GB h1 h9 (Hb:=H) (by first|assumption|exact fun _ _ h=>h) hT fun _ _=>?_
   |refine GB h1 h9 (Hb:=H) (by first|assumption|exact fun _ _ h=>h) hN fun _ _=>?_
   |exact⟨rfl,by first|assumption|exact fun _ _ h=>h,by clear hA hT hN hG hR;grind⟩
   |intro _
   |refine⟨?_,?_⟩)
 refine GB h1 h9 (Hb:=H) (fun _ _ h=>h) hR fun H2 e2=>⟨fun hb=>?_,fun hb=>?_⟩
 ·refine(kJ (hp.ext' e2) id).bY fun H3 _ _=>?_;rw[bC,nI h,nI h2,nI h3,pI (by simpa using hb)]
 ·rw[bC,nI h,nI h2,nI h3,nI (by simpa using hb)]
def vb(k:Int):ByteArray:=if k=1 then⟨#[84,82]⟩ else if k=2 then⟨#[84]⟩ else if k=3 then⟨#[84,71]⟩ else if k=4 then⟨#[82]⟩ else if k=5 then⟨#[78]⟩ else if k=6 then⟨#[65,84]⟩ else if k=7 then⟨#[65,84,71]⟩ else⟨#[]⟩
theorem Re(s:ByteArray)(c:UInt8)(hp:H.cell p 0=some (.string s)):Sp 212 [.string ⟨#[c]⟩,.pointer (some ⟨p,0,none⟩)] H fun v _=>v= .bool (decide (0<=Lib.indexByte s.data.toList c)):=by
 refine bh Tryz.func212 (fun _ _=>X7) fun aa hb=>⟨s,hp,?_⟩
 exact(Bv s c).aO fun H2 _ _=>rfl
theorem vd{G:Bool->Heap->Prop}{xs:List Bx}(e0:aH Hb H){c:UInt8}{P:Prop}[Decidable P](hP:0<=Lib.indexByte s.data.toList c↔P)(hG:∀H',aH Hb H'->G (decide P) H'):
  true=true/\∀Hl,Vg.Next 0 H Hl->Hl b=some (ay 9 [.string s])/\True->Sp 212 [.string ⟨#[c]⟩,.pointer (some ⟨b,0,none⟩)] Hl fun v tV=>∃b1:Bool,v= .bool b1/\∀H',Vg.Next aa H H'->(∀(b2:Nat)(k:KB),tV b2=some k->(∀x:Bx,x∈xs->b2≠Bx.b x)->H' b2=some k)->G b1 H':=
 ⟨rfl,fun Hl hN hb=>(Re s c (p:=b) (by unfold Heap.cell;rw[hb.1];rfl)).mono fun v H2 _ hv=>⟨decide P,by rw[hv];congr 1;exact decide_eq_decide.2 hP,fun H' QH _=>hG H' (e0.trans QH.ext)⟩⟩
section
variable {k : Int} (h1 : 1 <= k) (h9 : k <= 9)
include h1 h9
theorem Yj:0<=Lib.indexByte (vb k).data.toList 65↔(k=6∨k=7):=by rcases nine h1 h9 with rfl|rfl|rfl|rfl|rfl|rfl|rfl|rfl|rfl<;>decide
theorem Yk:0<=Lib.indexByte (vb k).data.toList 84↔(k=1∨k=2∨k=3∨k=6∨k=7):=by rcases nine h1 h9 with rfl|rfl|rfl|rfl|rfl|rfl|rfl|rfl|rfl<;>decide
theorem Yl:0<=Lib.indexByte (vb k).data.toList 78↔k=5:=by rcases nine h1 h9 with rfl|rfl|rfl|rfl|rfl|rfl|rfl|rfl|rfl<;>decide
theorem Ym:0<=Lib.indexByte (vb k).data.toList 71↔(k=3∨k=7):=by rcases nine h1 h9 with rfl|rfl|rfl|rfl|rfl|rfl|rfl|rfl|rfl<;>decide
theorem Yn:0<=Lib.indexByte (vb k).data.toList 82↔(k=1∨k=4):=by rcases nine h1 h9 with rfl|rfl|rfl|rfl|rfl|rfl|rfl|rfl|rfl<;>decide
end
theorem Mm(k:Int):ii (.string ⟨#[]⟩) (.int .i64 k) [i64 1,.string ⟨#[84,82]⟩,i64 2,.string ⟨#[84]⟩,i64 3,.string ⟨#[84,71]⟩,i64 4,.string ⟨#[82]⟩,i64 5,.string ⟨#[78]⟩,i64 6,.string ⟨#[65,84]⟩,i64 7,.string ⟨#[65,84,71]⟩,i64 8,.string ⟨#[]⟩,i64 9,.string ⟨#[]⟩]=some (.string (vb k),decide (1<=k/\k<=9)):=by
 by_cases h:1<=k/\k<=9
 ·rcases nine h.1 h.2 with rfl|rfl|rfl|rfl|rfl|rfl|rfl|rfl|rfl<;>rfl
 ·rw[decide_eq_false h]
  have hU:vb k=⟨#[]⟩:=by
   unfold vb;rw[nI (by omega),nI (by omega),nI (by omega),nI (by omega),nI (by omega),nI (by omega),nI (by omega)]
  rw[hU];simp only[ii,kq,if_true]
  rw[decide_eq_false (show¬k=(1:Int) by omega),decide_eq_false (show¬k=(2:Int) by omega),decide_eq_false (show¬k=(3:Int) by omega),decide_eq_false (show¬k=(4:Int) by omega),decide_eq_false (show¬k=(5:Int) by omega),
   decide_eq_false (show¬k=(6:Int) by omega),decide_eq_false (show¬k=(7:Int) by omega),decide_eq_false (show¬k=(8:Int) by omega),decide_eq_false (show¬k=(9:Int) by omega)]
theorem mR{c:Nat}{r:bD}(hp:aL H a l r.cB.ap):Sp 156 [gU r a l c] H fun v _=>v=i64 (bC r):=by
 obtain⟨kd,ag,tr,n,gd,⟨id,ap⟩⟩:=r;have hp:aL H a l ap:=hp;refine bh Tryz.func156 (fun aa K=>X9 kd ag tr n id gd a l c aa H K) fun aa hb=>?_;have Kk:=hp.len;have Nf:je ⟨id,ap⟩↔id=0/\l=0:=by unfold je;rw[ph Kk]
 intro b b1;refine⟨_,rfl,_,rfl,_,rfl,_,rfl,_,rfl,_,rfl,_,rfl,_,rfl,_,rfl,vb kd,_,Mm kd,fun b3=>⟨fun hk=>⟨fun _=>?_,fun h=>absurd hk h⟩,fun hk=>?_⟩⟩
 ·have:¬(1<=kd/\kd<=9):=by simpa using hk
  rw[bC,pI (show kd<1∨9<kd by omega)]
 have h19:1<=kd/\kd<=9:=by simpa using hk
 obtain⟨h1,h9⟩:=h19;have h:¬(kd<1∨9<kd):=by omega
 have hA:=Yj h1 h9;have hT:=Yk h1 h9;have hN:=Yl h1 h9;have hG:=Ym h1 h9;have hR:=Yn h1 h9;have bad:iO ⟨kd,ag,tr,n,gd,⟨id,ap⟩⟩->i64 4=i64 (bC ⟨kd,ag,tr,n,gd,⟨id,ap⟩⟩):=fun h2=>by rw[bC,nI h,pI h2]
 refine⟨ag≠0/\¬(kd=6∨kd=7),⟨fun g=>vd (Hb:=H) (fun _ _ h=>h) hA fun _ e=>⟨rfl,e,by grind⟩,fun g=>⟨rfl,fun _ _ h=>h,by grind⟩⟩,fun g=>⟨fun _=>bad (.inl g),fun g'=>absurd g g'⟩,fun g1=>?_⟩;refine⟨tr≠0/\¬(kd=1∨kd=2∨kd=3∨kd=6∨kd=7),⟨fun g=>vd (Hb:=H) (fun _ _ h=>h) hT fun _ e=>⟨rfl,e,by grind⟩,fun g=>⟨rfl,fun _ _ h=>h,by grind⟩⟩,fun g=>⟨fun _=>bad (.inr (.inl g)),fun g'=>absurd g g'⟩,fun g2=>?_⟩;refine⟨n≠0/\¬kd=5,⟨fun g=>vd (Hb:=H) (fun _ _ h=>h) hN fun _ e=>⟨rfl,e,by grind⟩,fun g=>⟨rfl,fun _ _ h=>h,by grind⟩⟩,fun g=>⟨fun _=>bad (.inr (.inr (.inl g))),fun g'=>absurd g g'⟩,fun g3=>?_⟩;refine⟨gd=true/\¬(kd=3∨kd=7),⟨fun g=>vd (Hb:=H) (fun _ _ h=>h) hG fun _ e=>⟨rfl,e,by grind⟩,fun g=>⟨rfl,fun _ _ h=>h,by grind⟩⟩,fun g=>⟨fun _=>bad (.inr (.inr (.inr (.inl g)))),fun g'=>absurd g g'⟩,fun g4=>?_⟩;refine⟨¬(id=0/\l=0)/\¬(kd=1∨kd=4),⟨fun g=>vd (Hb:=H) (fun _ _ h=>h) hR fun _ e=>⟨rfl,e,by grind⟩,fun g=>⟨fun g'=>vd (Hb:=H) (fun _ _ h=>h) hR fun _ e=>⟨rfl,e,by grind⟩,fun g'=>⟨rfl,fun _ _ h=>h,by grind⟩⟩⟩,fun g=>bad (.inr (.inr (.inr (.inr ⟨by rw[Nf];exact g.1,g.2⟩)))),fun g5=>?_⟩
 have h2:¬iO ⟨kd,ag,tr,n,gd,⟨id,ap⟩⟩:=by
  unfold iO;rw[Nf];rintro(q|q|q|q|q)
  ·exact g1 q
  ·exact g2 q
  ·exact g3 q
  ·exact g4 q
  ·exact g5 q
 have UI:gp ⟨kd,ag,tr,n,gd,⟨id,ap⟩⟩->i64 3=i64 (bC ⟨kd,ag,tr,n,gd,⟨id,ap⟩⟩):=fun h3=>by rw[bC,nI h,nI h2,pI h3]
 refine(uY ag 0 5).aO fun H1 e1 _=>⟨fun g6=>⟨fun _=>UI ?_,fun g'=>absurd g6 g'⟩,fun g6=>?_⟩
 ·have g6:¬(0<=ag/\ag<=5):=by simpa[me] using g6
  by_cases q:ag<0
  ·exact .inl q
  ·exact .inr (.inl (show 6<=ag by omega))
 have g6:0<=ag/\ag<=5:=by simpa[me] using g6
 refine⟨(kd=1∨kd=2∨kd=3∨kd=6∨kd=7)/\(tr<1∨200<tr),vd (Hb:=H1) (fun _ _ h=>h) hT fun H2 e2=>⟨fun g=>(uY tr 1 200).aO fun H3 e3 _=>⟨rfl,e2.trans e3,by simp only[me,decide_eq_false_iff_not];grind⟩,fun g=>⟨rfl,e2,by grind⟩⟩,fun g=>⟨fun _=>UI (.inr (.inr (.inl g))),fun g'=>absurd g g'⟩,fun g7=>?_⟩;refine⟨kd=5/\(n<1∨6<n),vd (Hb:=H1) (fun _ _ h=>h) hN fun H2 e2=>⟨fun g=>(uY n 1 6).aO fun H3 e3 _=>⟨rfl,e2.trans e3,by simp only[me,decide_eq_false_iff_not];grind⟩,fun g=>⟨rfl,e2,by grind⟩⟩,fun g=>UI (.inr (.inr (.inr g))),fun g8=>?_⟩
 have h3:¬gp ⟨kd,ag,tr,n,gd,⟨id,ap⟩⟩:=by
  rintro(q|q|q|q)
  ·exact absurd q (by show¬ag<0;omega)
  ·exact absurd q (by show¬6<=ag;omega)
  ·exact g7 q
  ·exact g8 q
 refine vd (Hb:=H1) (fun _ _ h=>h) hR fun H2 e2=>⟨fun hb=>?_,fun hb=>?_⟩
 ·refine(mf ((hp.ext' e1).ext' e2) id).bY fun H3 _ _=>?_;rw[bC,nI h,nI h2,nI h3,pI (by simpa using hb)]
 ·rw[bC,nI h,nI h2,nI h3,nI (by simpa using hb)]
end Go.Vg
