/- What is proved here: a part of the proof of laws of this seat: what a contract is, how it comes of a condition, contracts of the functions that are reached, the plain laws. -/
import Derived.Test.YtgaegoefbekndaaGreatDoorWB5
set_option linter.unusedSimpArgs false
set_option linter.unusedVariables false
set_option maxRecDepth 100000
open Array renaming getElem?_eq_getElem → yw
open Int renaming toNat_natCast → zz
open Classical renaming propDecidable → zh
open Option.some renaming inj → zy
open Except renaming ok → yY
open Decidable renaming byContradiction → zC,not_not → zx
open Except.ok renaming inj → zJ
open Nat renaming le_refl → ze,lt_of_lt_of_le → yg,succ_mul → yz
open List renaming replicate → zk,take_of_length_le → zg,length_append → zq,length_take → zF,mem_append → zd,length_nil → zX,mem_of_getElem? → zt,mem_cons_self → zr,getElem?_eq_some_iff → zw,mem_cons → zm,mem_cons_of_mem → zj,mem_of_mem_take → zH,length_drop → yv,getElem?_eq_getElem → zu,getElem?_set → yh,length_eq_zero_iff → yp,mem_map → zM,map_cons → zB,mem_iff_getElem? → yr,getElem?_map → zP,flatten_append → zI,getElem?_append_right → zY,flatten_cons → zW,getElem?_append_left → zU,getElem?_take → zD,length_cons → zi,all_eq_true → yf
variable{d:Go.Vg.pj}{rs:List Go.Vg.bD}{x o k l b gl gc aa l' c' Fq xD rc n sz sc tl tc p nn nc ql qc off:Nat}{r:Go.Vg.bD}{L:Go.Vg.jh}{a ga a' sZ ra sa ta na qa:Go.Vg.O}{m:Go.Vg.df}{q:List Go.Vg.Step}{f:Go.Vg.kU}{tw go gd go' CG:Bool}{e ae CR tr gid GV oK wD kd:Int}{H H' G G' G'' tV:Go.Vg.Heap}{K:Go.Vg.KT}{args vs:List Go.Value}{g:Go.FuncId}{y:Go.Vg.Bx}{w w0:Go.World}{fE:Go.Vg.xT}{bc:List Nat}{pre:List Go.Vg.SV}{kb:Go.Vg.KB}
namespace Go.Vg
open Go
structure ke where
 a:lS
 d:pj
 up:Bool
 deriving DecidableEq
structure Th where
 l:jh
 d:pj
 up:Bool
 deriving DecidableEq
structure cY where
 c:dM
 h:Th
 n:List ke
 m:List df
structure gX where
 ae:Int
 ah:Int
 cj:Int
 aP:Bool
 ap:List Pin
def vt(d:pj)(up:Bool):Except Int (List bD):=
 if bj d≠0 then .error (bj d) else if up=true/\d.wait≠[] then .error 4 else .ok (if up=true then aX d else [])
def gY(c:dM)(h:Th):Int:=
 match vt h.d h.up with
 | .error e=>e
 | .ok l=>match aB c l with
  | .error e=>e
  | .ok x=>if x=h.l then 0 else 4
def iv(f:kU)(n:ke):Int:=
 match vt n.d n.up with
 | .error e=>e
 | .ok l=>match az f l with
  | .error e=>e
  | .ok x=>if x=n.a then 0 else 4
def iQ(f:kU):List ke->Int
 | []=>0
 |n::q=>if iv f n≠0 then iv f n else iQ f q
def kO(k:Int)(l:List df):Bool:=l.any fun m=>decide (k<=m.ah)
def fp(w:cY):Int:=
 if de w.c≠0 then de w.c else
 if(w.n.length:Int)≠bo w.c.bf then 4 else
 if bu w.m≠0 then bu w.m else
 if kO w.n.length w.m=true then 5 else
 if gY w.c w.h≠0 then gY w.c w.h else iQ w.c.first w.n
def aY(d:pj)(r:bD):Except Int pj:=
 match eV d r with
 | .error e=> .error e
 | .ok x=>iq x
def eJ(w:cY)(r:bD):Except Int cY:=
 if bU w.c w.h.l r≠0 then .error (bU w.c w.h.l r) else
 match aY w.h.d r with
 | .error e=> .error e
 | .ok d=> .ok { w with h:=⟨bM w.h.l r,d,w.h.up⟩ }
def dV(n:ke)(r:bD):Except Int ke:=
 if bw n.a r≠0 then .error (bw n.a r) else
 match aY n.d r with
 | .error e=> .error e
 | .ok d=> .ok ⟨bW n.a r,d,n.up⟩
def gq(w:cY)(k:Nat)(r:bD):Except Int cY:=
 match w.n[k]? with
 |none=> .error 5
 |some n=>match dV n r with
  | .error e=> .error e
  | .ok n'=> .ok { w with n:=w.n.set k n' }
def gL(w:cY)(m:df):cY:=if iM w.m m=0 then{ w with m:=u7 w.m m } else w
def eQ(k:Nat)(a:lS):df:=⟨k,a.au,true,a.aP,⟨0,[]⟩⟩
def eK(w:cY)(k:Nat):cY:=
 match w.n[k]? with
 |none=>w
 |some n=>gL w (eQ k n.a)
def iz(w:cY)(x:gX):Except Int cY:=
 if dU w.c w.h.l x.ah≠0 then .error (dU w.c w.h.l x.ah) else
 if x.ae=4 then
  (match w.h.l.bX[x.ah.toNat]? with
   |none=> .error 5
   |some a=>if a.st≠1∨a.ac≠w.h.l.ac then .error 7 else .ok (gL w ⟨x.ah,a.au,false,false,ez w.c w.h.l x.ah⟩))
 else match eJ w ⟨6,x.ah,w.h.l.nx,0,false,⟨0,[]⟩⟩ with
  | .error e=> .error e
  | .ok y=> .ok (gL y ⟨x.ah,w.h.l.nx,false,false,ez w.c w.h.l x.ah⟩)
def js(w:cY)(x:gX)(n:ke):Except Int cY:=
 if n.a.going=false then .error 7 else
 if cT n.a≠0 then .error (cT n.a) else
 if cy n.a≠[] then gq w x.ah.toNat ⟨2,0,n.a.au,0,false,⟨0,[]⟩⟩ else
 match gq w x.ah.toNat ⟨3,0,n.a.au,0,x.aP,⟨0,[]⟩⟩ with
 | .error e=> .error e
 | .ok y=> .ok (eK y x.ah.toNat)
def fU(w:cY):Except Int cY->cY
 | .ok y=>y
 | .error _=>w
def mm(w:cY)(x:gX):Except Int cY:=
 if dz w.m x.cj≠0 then .error (dz w.m x.cj) else
 match w.n[(dw w.m x.cj).ah.toNat]? with
 |none=> .error 5
 |some n=>
  if((dw w.m x.cj).rep=true/\w.h.up=false)∨((dw w.m x.cj).rep=false/\n.up=false) then .error 7 else
  let w1:cY:= { w with m:=left w.m x.cj (decide (x.ae=10)) }
  if(dw w.m x.cj).rep=true then .ok (fU w1 (eJ w1 ⟨7,(dw w.m x.cj).ah,(dw w.m x.cj).au,0,(dw w.m x.cj).aP,⟨0,[]⟩⟩)) else
  if(dw w.m x.cj).au=n.a.au/\n.a.going=false then .ok (eK w1 (dw w.m x.cj).ah.toNat) else
  .ok (fU w1 (gq w1 (dw w.m x.cj).ah.toNat ⟨1,0,(dw w.m x.cj).au,0,false,(dw w.m x.cj).cB⟩))
def fL(w:cY)(x:gX):Except Int cY:=
 if x.ah<0 then
  (if w.h.up=decide (x.ae=13) then .error 7 else
   if bj w.h.d≠0 then .error (bj w.h.d) else
   match aB w.c (if x.ae=12 then [] else aX w.h.d) with
   | .error e=> .error e
   | .ok s=> .ok { w with h:=⟨s,if x.ae=12 then w.h.d else dT w.h.d,!w.h.up⟩ })
 else match w.n[x.ah.toNat]? with
  |none=> .error 5
  |some n=>
   if n.up=decide (x.ae=13) then .error 7 else
   if bj n.d≠0 then .error (bj n.d) else
   match az w.c.first (if x.ae=12 then [] else aX n.d) with
   | .error e=> .error e
   | .ok s=> .ok { w with n:=w.n.set x.ah.toNat ⟨s,if x.ae=12 then n.d else dT n.d,!n.up⟩ }
def lK(w:cY)(x:gX):bD:=
 if x.ae=1 then⟨4,0,0,0,false,⟨w.h.l.bJ.length+1,x.ap⟩⟩ else
 if x.ae=2 then⟨5,0,0,x.cj,false,⟨0,[]⟩⟩ else
 if x.ae=5 then⟨8,0,0,0,false,⟨0,[]⟩⟩ else⟨9,0,0,0,false,⟨0,[]⟩⟩
def bO(w:cY)(x:gX):Except Int cY:=
 if x.ae=9∨x.ae=10 then mm w x else
 if x.ae=11 then(if dz w.m x.cj≠0 then .error (dz w.m x.cj) else .ok { w with m:=left w.m x.cj false }) else
 if x.ae=1∨x.ae=2∨x.ae=5∨x.ae=6 then(if w.h.up=false then .error 7 else eJ w (lK w x)) else
 if x.ae<1∨13<x.ae then .error 4 else
 if(w.n.length:Int)<=x.ah∨(x.ah<0/\x.ae≠12/\x.ae≠13) then .error 5 else
 if x.ae=3∨x.ae=4 then(if w.h.up=false then .error 7 else iz w x) else
 if x.ae=12∨x.ae=13 then fL w x else
 match w.n[x.ah.toNat]? with
 |none=> .error 5
 |some n=>
  if n.up=false then .error 7 else
  if x.ae=7 then js w x n else
  if n.a.going=true∨n.a.au=0 then .error 7 else .ok (eK w x.ah.toNat)
def Fs(w:cY)(x:gX):Except Int cY:=if fp w≠0 then .error (fp w) else bO w x
def bA:cY->List gX->cY×List Int
 |w,[]=>(w,[])
 |w,x::q=>match bO w x with
  | .ok y=>((bA y q).1,0::(bA y q).2)
  | .error e=>((bA w q).1,e::(bA w q).2)
def jg(w:cY)(l:List gX):Int:=if fp w≠0 then fp w else if 150<l.length then 2 else 0
def ei(f:kU):ke:=⟨iF f,sW,true⟩
def ek(c:dM):cY:=⟨c,⟨dC c,sW,true⟩,zk (bo c.bf).toNat (ei c.first),[]⟩
structure De(d:pj)(rs:List bD):Prop where
 eq:d=⟨bG rs,[]⟩
 recs:∀r∈rs,bC r=0
 many:rs.length<=200
 size:(bG rs).length<=60000
theorem De.nil:De sW []:=⟨rfl,by simp,by simp,by simp[bG]⟩
theorem De.err(h:De d rs):bj d=0/\aX d=rs/\dT d=d/\d.wait=[]:=by
 obtain⟨rfl,h1,h2,h3⟩:=h;obtain⟨a,b,c⟩:=Mo h1 h2 h3;exact⟨a,b,c,rfl⟩
theorem Ph(h:bj d=0)(hw:d.wait=[]):De d (aX d):=by
 obtain⟨h1,h2,h3⟩:=fm h;obtain⟨i1,i2,i3,i4,i5⟩:=j8 (most:=200) d.safe.length (s:=d.safe) (k:=0) (ze _) (by omega);have h5:=i5 h3;rw[h5,zg (ze _)] at i4
 have hr:aX d=(bQ 200 0 d.safe).1:=by
  unfold aX dA;rw[hw,lI];simp
 rw[hr];refine⟨?_,i1,by omega,by rw[←i4];exact h1⟩
 cases d with
 |mk s w=>subst hw;simp only at i4;rw[←i4]
theorem GW(h:bj d=0):De (dT d) (aX d):=by
 obtain⟨h1,h2,h3⟩:=fm h;obtain⟨i1,i2,i3,i4,i5⟩:=j8 (most:=200) d.safe.length (s:=d.safe) (k:=0) (ze _) (by omega);have h5:=i5 h3;rw[h5,zg (ze _)] at i4;obtain⟨j1,j2,j3,j4,j5⟩:=j8 (most:=200-(bQ 200 0 d.safe).1.length) d.wait.length (s:=d.wait) (k:=0) (ze _) (by omega)
 have e:dT d=⟨bG (aX d),[]⟩:=by
  unfold dT aX;rw[mS,←i4];unfold dA;rw[j4]
 have el:(bG (aX d)).length<=60000:=by
  unfold aX;rw[mS,←i4];unfold dA;rw[←j4,zq,zF];omega
 refine⟨e,fun r hr=>?_,?_,el⟩
 ·unfold aX dA at hr;rcases zd.1 hr with hr|hr
  ·exact i1 r hr
  ·exact j1 r hr
 ·unfold aX dA;rw[zq];omega
theorem GX(h:∀r∈rs,bC r=0)(hn:200<rs.length)(hl:(bG rs).length<=60000):bj ⟨bG rs,[]⟩=2:=by
 unfold bj;dsimp only;rw[nI (by omega),nI (by simp)]
 have key:∀(qs:List bD)(k:Nat),(∀r∈qs,bC r=0)->k<=200->200<k+qs.length->(bQ 200 k (bG qs)).2.2=2:=by
  intro qs
  induction qs with
  |nil=>intro k _ h1 h2;simp at h2;omega
  |cons q t ih=>
   intro k hq h1 h2;rw[lT];by_cases hk:k=200
   ·subst hk;rw[oo pW (pV (hq q (by simp)))]
   ·rw[mh pW (pV (hq q (by simp))) hk];exact ih (k+1) (fun x hx=>hq x (by simp[hx])) (by omega) (by simp at h2;omega)
 exact key rs 0 h (by omega) (by omega)
theorem BR{x:pj}(h:De d rs)(hx:aY d r= .ok x):De x (rs++[r]):=by
 unfold aY at hx
 cases hp:eV d r with
 |error e=>rw[hp] at hx;cases hx
 |ok y=>
  rw[hp] at hx;obtain⟨p1,p2,p3,rfl⟩:=C4 hp;obtain⟨rfl,h1,h2,h3⟩:=h;simp only[List.nil_append,zX,Nat.add_zero] at p3 hx;have e1:bG rs++(cl r++[10])=bG (rs++[r]):=by rw[mS];simp[bG]
  unfold iq at hx;dsimp only at hx;rw[e1] at hx;split at hx
  ·split at hx
   ·rename_i hz;obtain rfl:=zJ hx;have hl:(bG (rs++[r])).length<=60000:=(fm hz).1;refine⟨rfl,fun q hq=>?_,?_,hl⟩
    ·rcases zd.1 hq with hq|hq
     ·exact h1 q hq
     ·simp at hq;subst hq;exact p2
    ·by_cases hn:(rs++[r]).length<=200
     ·exact hn
     ·exfalso
      have kj:∀q∈rs++[r],bC q=0:=fun q hq=>by
       rcases zd.1 hq with hq|hq
       ·exact h1 q hq
       ·simp at hq;subst hq;exact p2
      have:=GX kj (by omega) hl;rw[this] at hz;cases hz
   ·cases hx
  ·cases hx
theorem EL(h:De d rs)(hr:bC r=0)(hn:rs.length<200)(hl:(bG rs).length<=59000):∃x,aY d r= .ok x/\De x (rs++[r]):=by
 have e0:=h.err;obtain⟨rfl,h1,h2,h3⟩:=h;have hlen:=om hr;have e1:bG rs++(cl r++[10])=bG (rs++[r]):=by rw[mS];simp[bG]
 have kj:∀q∈rs++[r],bC q=0:=fun q hq=>by
  rcases zd.1 hq with hq|hq
  ·exact h1 q hq
  ·simp at hq;subst hq;exact hr
 have Wk:(bG (rs++[r])).length<=60000:=by rw[←e1];simp;omega
 have hx:aY ⟨bG rs,[]⟩ r= .ok ⟨bG (rs++[r]),[]⟩:=by
  unfold aY eV;rw[pI e0.1,pI hr];dsimp only;rw[nI (by simp;omega)];dsimp only;unfold iq;dsimp only;have hz:bj ⟨bG rs,[]++(cl r++[10])⟩=0:=rG h1 (by omega) (by simp;omega);rw[pI hz,List.nil_append,e1,pI (rG kj (by simp;omega) (by simpa using Wk))]
 exact⟨_,hx,rfl,kj,by simp;omega,Wk⟩
open Go
abbrev Vc(m:df):bD:=⟨1,0,m.au,0,false,m.cB⟩
structure Vd(c:dM)(L:jh):Prop where
 aU:1<=L.aU/\L.aU<=L.bJ.length
 ab:0<=L.ab/\L.ab<=L.bJ.length
 many:1<=L.bJ.length/\L.bJ.length<=6
 ids:∀(j:Nat)(r:kU),L.bJ[j]?=some r->r.id=j+1/\Lk r.ap/\r.ap.length<=12
 ne:L.ab≠L.aU
 home:L.ab=0->L.ac=false
 kn:∀(k:Nat)(b:Kn),L.bX[k]?=some b->0<=b.st/\b.st<=3/\0<=b.au/\b.au<L.nx/\(b.st≠0->L.ab≠0/\b.au≠0)/\(b.ac=true->L.ac=true/\b.st≠0)
 nx:1<=L.nx/\L.nx<=201
theorem sJ{c:dM}(h:db c L=0):Vd c L:=by
 obtain⟨g1,g2,g3,g4,g5,g6,g7⟩:=dh.1 h;obtain⟨f1,f2,f3,f4⟩:=BP g6;have CY:=fK.1 g7;unfold dP at g5;refine⟨by omega,by omega,⟨g2,g3⟩,fun j r hj=>?_,f1,fun h0=>?_,fun k b hb=>?_,by omega⟩
 ·have h1:=iu.1 g4 j r hj;have h2:=BN g4 r (zt hj);exact⟨by omega,h2.1,h2.2⟩
 ·cases hb:L.ac with
  |false=>rfl
  |true=>exact absurd ⟨h0,hb⟩ f2
 ·obtain⟨x1,x2⟩:=CY b (zt hb);unfold mG at x1;unfold nO at x2;refine⟨by omega,by omega,by omega,by omega,fun hs=>⟨fun h0=>x2 (.inl ⟨hs,.inl h0⟩),fun h0=>x2 (.inl ⟨hs,.inr h0⟩)⟩,fun hb=>⟨?_,fun h0=>x2 (.inr ⟨hb,.inr h0⟩)⟩⟩
  cases hl:L.ac with
  |true=>rfl
  |false=>exact absurd (.inr ⟨hb,.inl hl⟩) x2
theorem Df{a:lS}(h:bw a r=0):cT a=0/\bC r=0/\((r.ae=1/\a.au<r.au)∨((r.ae=2∨r.ae=3)/\a.going=true/\r.au=a.au/\(r.ae=2->cy a≠[])/\(r.ae=3->cy a=[]))):=by
 unfold bw at h;split at h
 ·omega
 ·split at h
  ·omega
  ·refine⟨by omega,by omega,?_⟩;split at h
   ·rename_i k;split at h
    ·omega
    ·exact .inl ⟨k,by omega⟩
   ·split at h
    ·omega
    ·rename_i k1 k2;split at h
     ·omega
     ·rename_i k3;refine .inr ⟨by omega,?_,?_,fun k hl=>?_,fun k=>?_⟩
      ·cases hg:a.going with
       |true=>rfl
       |false=>exact absurd (.inl hg) k3
      ·exact zC fun e=>k3 (.inr (.inl e))
      ·exact k3 (.inr (.inr (.inl ⟨k,hl⟩)))
      ·exact zC fun e=>k3 (.inr (.inr (.inr ⟨k,e⟩)))
theorem Ve{a:lS} :bW a (Vc m)=⟨a.ap,a.ck,m.au,true,m.cB,false⟩:=by
 unfold bW;rw[pI rfl]
theorem sK{a:lS}(h1:Lk a.ap/\a.ap.length<=12)(h2:1<=a.ck/\a.ck<=6)(h3:0<=a.au/\a.au<=200)(h4:a.going=true->a.au≠0/\a.aP=false/\dp a.ab=0)(h5:a.going=false->je a.ab):cT a=0:=by
 unfold cT;rw[nI (by rw[bF.2 h1];omega),nI (by omega)]
 cases hg:a.going with
 |true=>
  obtain⟨x,y,z⟩:=h4 hg
  rw[pI rfl,nI (by rintro(e|e);exact x e;rw[y] at e;cases e),z]
 |false=>rw[nI (by simp),pI (h5 hg)]
theorem MB{a:lS}(h:cT a=0)(hg:a.going=true){o:Step}(hl:cy a=o::q):(Lk (bi a.ap o)/\(bi a.ap o).length<=12)/\cy ⟨bi a.ap o,a.ck,a.au,a.going,a.ab,a.aP⟩=q/\∀p∈bi a.ap o,p∈a.ap∨p∈a.ab.ap:=by
 obtain⟨⟨z1,z2⟩,_⟩:=gD h;obtain⟨y1,y2⟩:=pe h;have hd:jz a.ap a.ab.ap=o::q:=by unfold cy at hl;rw[pI hg] at hl;exact hl
 have eC:=sA z1 y1 (hd▸zr:o∈jz a.ap a.ab.ap);refine⟨⟨(eC.bi z1 y1).1,(Bk z1 y1 z2 y2 hd).2⟩,?_,fun p hp=>?_⟩
 ·unfold cy;rw[pI hg];exact I7 z1 y1 hd
 ·unfold bi at hp;split at hp
  ·left;unfold del at hp;exact(List.mem_filter.1 hp).1
  ·rename_i k;rcases I3 hp with rfl|hp
   ·right;have hv:=eC.fi;have eE:find a.ab.ap o.name≠0:=by rcases eC.ae with e|e|e<;>omega
    obtain⟨q',hq,e1,e2⟩:=oZ eE;have:q'=⟨o.name,o.fi⟩:=by cases q';simp_all
    rw[←this];exact hq
   ·exact .inl hp
theorem Ru{a:lS}(h:bw a r=0):cT (bW a r)=0:=by
 obtain⟨h1,h2,h3⟩:=Df h;obtain⟨z1,z2,z3,z4,z5,z6,z7⟩:=gD h1;obtain⟨y1,y2,y3,y4⟩:=vo h2;unfold gp at y3;rcases h3 with⟨k,ht⟩|⟨k,hg,ht,Wk,hl3⟩
 ·unfold bW;rw[pI k];exact sK z1 ⟨z2,z3⟩ ⟨by simp only;omega,by simp only;omega⟩ (fun _=>⟨by simp only;omega,rfl,y4 (.inl k)⟩) (fun e=>by cases e)
 ·rcases k with k|k
  ·obtain⟨o,q,hl⟩:=List.exists_cons_of_ne_nil (Wk k);unfold bW;rw[nI (by omega),pI k,hl];exact sK (MB h1 hg hl).1 ⟨z2,z3⟩ ⟨z4,z5⟩ z6 z7
  ·unfold bW;rw[nI (by omega),nI (by omega)];have hid:=(ey (z6 hg).2.2).1;exact sK z1 hid ⟨z4,z5⟩ (fun e=>by cases e) (fun _=>by simp[je])
theorem GY{α:Type}{xs:List α}{x:α}(h:xs[k]?=some x):xs.set k x=xs:=by
 obtain⟨hk,rfl⟩:=zw.1 h;exact List.set_getElem_self hk
open Go
theorem led_eq7(k:r.ae=7){a:Kn}(h:L.bX[r.ah.toNat]?=some a):bM L r= { L with bX:=L.bX.set r.ah.toNat (Jo r a) } :=by rw[bM,nI (by omega),nI (by omega),nI (by omega),pI k,h]
open Go
theorem vu{c:dM}{r:bD}{L:jh} :∀ {rs:List bD} {l:jh},eP c l rs= .ok L->bU c L r=0->eP c l (rs++[r])= .ok (bM L r)
 | [],l,h,hr=>by
  obtain rfl:=zJ (show yY l=yY L from h)
  show eP c l [r]=_
  unfold eP;rw[pI hr];rfl
 |q::rs,l,h,hr=>by
  show eP c l (q::(rs++[r]))=_
  unfold eP at h⊢;split at h
  ·rename_i hq;rw[pI hq];exact vu h hr
  ·cases h
theorem BS{c:dM}(h:aB c rs= .ok L)(hr:bU c L r=0)(hn:(rs++[r]).length<=200):aB c (rs++[r])= .ok (bM L r):=by
 unfold aB at h⊢;split at h
 ·cases h
 ·rename_i hc;rw[nI hc];split at h
  ·cases h
  ·rw[nI (by omega)];exact vu h hr
theorem BT{c:dM}{L:jh} :∀ {rs:List bD} {l:jh},db c l=0->eP c l rs= .ok L->db c L=0
 | [],l,h,e=>by obtain rfl:=zJ (show yY l=yY L from e);exact h
 |q::rs,l,h,e=>by
  unfold eP at e;split at e
  ·rename_i hq;exact BT (Vb hq) e
  ·cases e
theorem vv{c:dM}(h:aB c rs= .ok L):de c=0/\db c L=0:=by
 unfold aB at h;split at h
 ·cases h
 ·rename_i hc;split at h
  ·cases h
  ·exact⟨by omega,BT (Va (by omega)) h⟩
theorem Qx{c:dM}(h:de c=0):aB c []= .ok (dC c):=by
 unfold aB;rw[nI (by omega),nI (by simp)];rfl
theorem qA{r:bD}{A:lS} :∀ {rs:List bD} {a:lS},cE a rs= .ok A->bw A r=0->cE a (rs++[r])= .ok (bW A r)
 | [],l,h,hr=>by
  obtain rfl:=zJ (show yY l=yY A from h)
  show cE l [r]=_
  unfold cE;rw[pI hr];rfl
 |q::rs,l,h,hr=>by
  show cE l (q::(rs++[r]))=_
  unfold cE at h⊢;split at h
  ·rename_i hq;rw[pI hq];exact qA h hr
  ·cases h
theorem BU{A:lS}(h:az f rs= .ok A)(hr:bw A r=0)(hn:(rs++[r]).length<=200):az f (rs++[r])= .ok (bW A r):=by
 unfold az at h⊢;split at h
 ·cases h
 ·rename_i hc;rw[nI hc];split at h
  ·cases h
  ·rw[nI (by omega)];exact qA h hr
theorem MC(h:dp f=0):cT (iF f)=0:=by
 obtain⟨h1,h2⟩:=ey h;exact sK h2 h1 ⟨Int.le_refl _,by unfold iF;simp⟩ (fun e=>by cases e) (fun _=>by simp[iF,je])
theorem tK{A:lS} :∀ {rs:List bD} {a:lS},cT a=0->cE a rs= .ok A->cT A=0
 | [],l,h,e=>by obtain rfl:=zJ (show yY l=yY A from e);exact h
 |q::rs,l,h,e=>by
  unfold cE at e;split at e
  ·rename_i hq;exact tK (Ru hq) e
  ·cases e
theorem vw{A:lS}(h:az f rs= .ok A):dp f=0/\cT A=0:=by
 unfold az at h;split at h
 ·cases h
 ·rename_i hc;split at h
  ·cases h
  ·exact⟨by omega,tK (MC (by omega)) h⟩
theorem Qy(h:dp f=0):az f []= .ok (iF f):=by
 unfold az;rw[nI (by omega),nI (by simp)];rfl
def rM(m:df):Prop:=¬jO m/\¬iL m/\(m.rep=false->dp m.cB=0)
theorem jB:∀ {l:List df},cz l=0↔ ∀m∈l,rM m
 | []=>by simp[cz]
 |x::q=>by
  unfold cz;constructor
  ·intro h;split at h
   ·omega
   ·split at h
    ·omega
    ·rename_i h1 h2;split at h
     ·rename_i h3;intro m hm;rcases zm.1 hm with rfl|hm
      ·exact⟨h1,h2,fun e=>by rw[h3] at e;cases e⟩
      ·exact jB.1 h m hm
     ·split at h
      ·omega
      ·rename_i h3 h4;intro m hm;rcases zm.1 hm with rfl|hm
       ·exact⟨h1,h2,fun _=>by omega⟩
       ·exact jB.1 h m hm
  ·intro h;obtain⟨h1,h2,h3⟩:=h x zr;have h4:=jB.2 fun m hm=>h m (zj _ hm);rw[nI h1,nI h2];split
   ·exact h4
   ·rename_i h5;rw[nI (by rw[h3 (by simpa using h5)];omega)];exact h4
theorem cM{l:List df} :bu l=0↔l.length<=40/\∀m∈l,rM m:=by
 unfold bu;constructor
 ·intro h;split at h
  ·omega
  ·exact⟨by omega,jB.1 h⟩
 ·rintro⟨h1,h2⟩;rw[nI (by omega)];exact jB.2 h2
theorem Vf{l:List df}(h:iM l m=0):bu (u7 l m)=0/\rM m:=by
 unfold iM at h;split at h
 ·rename_i h0;obtain⟨a1,a2⟩:=cM.1 h0;obtain⟨b1,b2⟩:=cM.1 h;refine⟨?_,b2 m (by simp)⟩;unfold u7;split
  ·refine cM.2 ⟨by simp;omega,fun x hx=>?_⟩;rcases zd.1 hx with hx|hx
   ·exact a2 x hx
   ·exact b2 x hx
  ·exact h0
 ·omega
theorem Pj{l:List df}{x:df}(h:x∈u7 l m):x∈l∨x=m:=by
 unfold u7 at h;split at h
 ·rcases zd.1 h with h|h
  ·exact .inl h
  ·exact .inr (by simpa using h)
 ·exact .inl h
theorem GZ{l:List df}{k:Int}{x:df}(h:x∈left l k tw):x∈l:=by
 unfold left at h;split at h
 ·exact h
 ·rcases zd.1 h with h|h
  ·exact zH h
  ·exact List.mem_of_mem_drop h
theorem G6{l:List df}{k:Int} :(left l k tw).length<=l.length:=by
 unfold left;split
 ·exact ze _
 ·rw[zq,zF,yv];omega
theorem KY{l:List df}{k:Int}(h:bu l=0):bu (left l k tw)=0:=by
 obtain⟨a1,a2⟩:=cM.1 h;have:=G6 (l:=l) (k:=k) (tw:=tw);exact cM.2 ⟨by omega,fun x hx=>a2 x (GZ hx)⟩
theorem BV{l:List df}{k:Int}(h:dz l k=0):dw l k∈l/\0<=k/\k<l.length/\bu l=0:=by
 unfold dz at h;split at h
 ·rename_i h0;split at h
  ·omega
  ·refine⟨?_,by omega,by omega,h0⟩;unfold dw;have hk:k.toNat<l.length:=by omega
   rw[List.getD_eq_getElem?_getD,zu hk];exact List.getElem_mem hk
 ·omega
theorem mU{f:kU} :∀ {l:List ke},iQ f l=0↔ ∀n∈l,iv f n=0
 | []=>by simp[iQ]
 |x::q=>by
  unfold iQ;constructor
  ·intro h;split at h
   ·omega
   ·intro n hn;rcases zm.1 hn with rfl|hn
    ·omega
    ·exact mU.1 h n hn
  ·intro h;rw[nI (by rw[h x zr];omega)];exact mU.2 fun n hn=>h n (zj _ hn)
theorem tL{k:Int}{l:List df} :kO k l=false↔ ∀m∈l,m.ah<k:=by
 unfold kO;rw[List.any_eq_false];simp
theorem EM{c:dM}{l:jh}{k:Int}(h:dU c l k=0):db c l=0/\0<=k/\k<l.bX.length/\l.ab≠0:=by
 unfold dU at h;split at h
 ·omega
 ·split at h
  ·omega
  ·split at h
   ·omega
   ·exact⟨by omega,by omega,by omega,by assumption⟩
open Go
theorem nP{up:Bool}{l:List bD} :vt d up= .ok l↔bj d=0/\(up=true->d.wait=[])/\l=if up=true then aX d else []:=by
 unfold vt;constructor
 ·intro h;split at h
  ·cases h
  ·split at h
   ·cases h
   ·rename_i h1 h2;refine⟨by omega,fun e=>zC fun e2=>h2 ⟨e,e2⟩,(zJ h).symm⟩
 ·rintro⟨h1,h2,rfl⟩;rw[nI (by omega),nI (fun e=>e.2 (h2 e.1))]
structure Ti(c:dM)(h:Th):Prop where
 rN:bj h.d=0
 dry:h.up=true->h.d.wait=[]
 log:aB c (if h.up=true then aX h.d else [])= .ok h.l
structure Rv(f:kU)(n:ke):Prop where
 rN:bj n.d=0
 dry:n.up=true->n.d.wait=[]
 log:az f (if n.up=true then aX n.d else [])= .ok n.a
theorem Dg{up:Bool}(h:vt d up= .error e):e≠0:=by
 unfold vt at h;split at h
 ·rename_i h0;injection h with h;omega
 ·split at h
  ·injection h with h;omega
  ·cases h
theorem xE{c:dM}{e:Int} :∀ {rs:List bD} {l:jh},eP c l rs= .error e->e≠0
 | [],l,h=>by cases h
 |r::q,l,h=>by
  unfold eP at h;split at h
  ·exact xE h
  ·rename_i h0;injection h with h;omega
theorem fY{c:dM}(h:aB c rs= .error e):e≠0:=by
 unfold aB at h;split at h
 ·rename_i h0;injection h with h;omega
 ·split at h
  ·injection h with h;omega
  ·exact xE h
theorem rO{e:Int} :∀ {rs:List bD} {l:lS},cE l rs= .error e->e≠0
 | [],l,h=>by cases h
 |r::q,l,h=>by
  unfold cE at h;split at h
  ·exact rO h
  ·rename_i h0;injection h with h;omega
theorem fZ(h:az f rs= .error e):e≠0:=by
 unfold az at h;split at h
 ·rename_i h0;injection h with h;omega
 ·split at h
  ·injection h with h;omega
  ·exact rO h
theorem rP{c:dM}{h:Th} :gY c h=0↔Ti c h:=by
 unfold gY;constructor
 ·intro e;split at e
  ·rename_i x hx;exact absurd e (Dg hx)
  ·rename_i l hl;obtain⟨h1,h2,rfl⟩:=nP.1 hl;split at e
   ·rename_i x hx;exact absurd e (fY hx)
   ·rename_i x hx;split at e
    ·rename_i he;exact⟨h1,h2,by rw[hx,he]⟩
    ·cases e
 ·rintro⟨h1,h2,h3⟩;rw[nP.2 ⟨h1,h2,rfl⟩];dsimp only;rw[h3];dsimp only;rw[pI rfl]
theorem rQ{n:ke} :iv f n=0↔Rv f n:=by
 unfold iv;constructor
 ·intro e;split at e
  ·rename_i x hx;exact absurd e (Dg hx)
  ·rename_i l hl;obtain⟨h1,h2,rfl⟩:=nP.1 hl;split at e
   ·rename_i x hx;exact absurd e (fZ hx)
   ·rename_i x hx;split at e
    ·rename_i he;exact⟨h1,h2,by rw[hx,he]⟩
    ·cases e
 ·rintro⟨h1,h2,h3⟩;rw[nP.2 ⟨h1,h2,rfl⟩];dsimp only;rw[h3];dsimp only;rw[pI rfl]
structure cU(w:cY):Prop where
 iw:de w.c=0
 len:(w.n.length:Int)=bo w.c.bf
 cZ:bu w.m=0
 CR:∀m∈w.m,m.ah<w.n.length
 head:Ti w.c w.h
 node:∀n∈w.n,Rv w.c.first n
theorem gF{w:cY} :fp w=0↔cU w:=by
 unfold fp;constructor
 ·intro h;split at h
  ·omega
  ·split at h
   ·omega
   ·split at h
    ·omega
    ·split at h
     ·omega
     ·split at h
      ·omega
      ·rename_i h1 h2 h3 h4 h5;exact⟨by omega,by omega,by omega,tL.1 (by simpa using h4),rP.1 (by omega),fun n hn=>rQ.1 (mU.1 h n hn)⟩
 ·rintro⟨h1,h2,h3,h4,h5,h6⟩;rw[nI (by omega),nI (by omega),nI (by omega),nI (by rw[tL.2 h4];simp),nI (by rw[rP.2 h5];omega)];exact mU.2 fun n hn=>rQ.2 (h6 n hn)
theorem Ti.lead{c:dM}{h:Th}(k:Ti c h)(hu:h.up=true)(hr:bU c h.l r=0)(hd:aY h.d r= .ok d):Ti c ⟨bM h.l r,d,h.up⟩:=by
 have hD:=BR (Ph k.rN (k.dry hu)) hd;obtain⟨e1,e2,e3,e4⟩:=hD.err;have hl:=k.log;rw[pI hu] at hl;refine⟨e1,fun _=>e4,?_⟩;dsimp only;rw[pI hu,e2];exact BS hl hr hD.many
theorem Rv.s0{n n':ke}(k:Rv f n)(hu:n.up=true)(hd:dV n r= .ok n'):Rv f n'/\n'.up=true/\n'.a=bW n.a r/\bw n.a r=0/\aX n'.d=aX n.d++[r]:=by
 unfold dV at hd;split at hd
 ·cases hd
 ·rename_i hr;split at hd
  ·cases hd
  ·rename_i d hd';obtain rfl:=zJ hd;have hD:=BR (Ph k.rN (k.dry hu)) hd';obtain⟨e1,e2,e3,e4⟩:=hD.err;have hl:=k.log;rw[pI hu] at hl;refine⟨⟨e1,fun _=>e4,?_⟩,hu,rfl,by omega,e2⟩;dsimp only;rw[pI hu,e2];exact BU hl (by omega) hD.many
theorem Ti.G9{c:dM}{h:Th}(k:Ti c h)(hk:ae=12∨ae=13)(hu:¬h.up=decide (ae=13)){s:jh}(hs:aB c (if ae=12 then [] else aX h.d)= .ok s):Ti c ⟨s,if ae=12 then h.d else dT h.d,!h.up⟩:=by
 rcases hk with rfl|rfl
 ·have KK:h.up=true:=by simpa using hu
  simp only[pI] at hs⊢;exact⟨k.rN,fun e=>(by rw[KK] at e;cases e),by simp only[KK];exact hs⟩
 ·have KK:h.up=false:=by simpa using hu
  have hD:=GW k.rN;obtain⟨e1,e2,e3,e4⟩:=hD.err;rw[nI (by omega)] at hs⊢;exact⟨e1,fun _=>e4,by simp only[KK,Bool.not_false,if_true];rw[e2];exact hs⟩
theorem Rv.G9{n:ke}(k:Rv f n)(hk:ae=12∨ae=13)(hu:¬n.up=decide (ae=13)){s:lS}(hs:az f (if ae=12 then [] else aX n.d)= .ok s):Rv f ⟨s,if ae=12 then n.d else dT n.d,!n.up⟩:=by
 rcases hk with rfl|rfl
 ·have KK:n.up=true:=by simpa using hu
  simp only[pI] at hs⊢;exact⟨k.rN,fun e=>(by rw[KK] at e;cases e),by simp only[KK];exact hs⟩
 ·have KK:n.up=false:=by simpa using hu
  have hD:=GW k.rN;obtain⟨e1,e2,e3,e4⟩:=hD.err;rw[nI (by omega)] at hs⊢;exact⟨e1,fun _=>e4,by simp only[KK,Bool.not_false,if_true];rw[e2];exact hs⟩
structure Hh(w y:cY)(CR:Int)(l:List df):Prop where
 c:y.c=w.c
 ok:cU y
 head:0<=CR->y.h=w.h
 len:y.n.length=w.n.length
 node:∀i:Nat,(i:Int)≠CR->y.n[i]?=w.n[i]?
 cZ:y.m=l∨ ∃m,y.m=l++[m]
theorem cU.less{w:cY}(h:cU w){k:Int} :cU { w with m:=left w.m k tw } :=
 ⟨h.iw,h.len,KY h.cZ,fun m hm=>h.CR m (GZ hm),h.head,h.node⟩
theorem Hi{w y:cY}(hy:eJ w r= .ok y):bU w.c w.h.l r=0/\∃d,aY w.h.d r= .ok d/\y= { w with h:=⟨bM w.h.l r,d,w.h.up⟩ } :=by
 unfold eJ at hy;split at hy
 ·cases hy
 ·rename_i he;split at hy
  ·cases hy
  ·rename_i d hd;exact⟨by omega,d,hd,(zJ hy).symm⟩
theorem cU.lead{w y:cY}(h:cU w)(hu:w.h.up=true)(hy:eJ w r= .ok y):Hh w y (-1) w.m:=by
 obtain⟨he,d,hd,rfl⟩:=Hi hy;exact⟨rfl,⟨h.iw,h.len,h.cZ,h.CR,h.head.lead hu he hd,h.node⟩,fun e=>by omega,rfl,fun i _=>rfl,.inl rfl⟩
theorem Hj{w y:cY}(hy:gq w k r= .ok y):∃n n',w.n[k]?=some n/\dV n r= .ok n'/\y= { w with n:=w.n.set k n' } :=by
 unfold gq at hy;split at hy
 ·cases hy
 ·rename_i n hn;split at hy
  ·cases hy
  ·rename_i n' Eb;exact⟨n,n',hn,Eb,(zJ hy).symm⟩
theorem cU.set{w:cY}(h:cU w){n':ke}(hn:Rv w.c.first n'):Hh w { w with n:=w.n.set k n' } k w.m:=
 ⟨rfl,⟨h.iw,by simp[h.len],h.cZ,fun m hm=>by simpa using h.CR m hm,h.head,fun n Eb=>by
  rcases List.mem_or_eq_of_mem_set Eb with hx|rfl
  ·exact h.node n hx
  ·exact hn⟩,fun _=>rfl,by simp,fun i hi=>by
   show(w.n.set k n')[i]?=_
   rw[yh,nI (by omega)],.inl rfl⟩
theorem cU.s0{w y:cY}(h:cU w){n:ke}(hn:w.n[k]?=some n)(hu:n.up=true)(hy:gq w k r= .ok y):Hh w y k w.m/\∃n',y.n[k]?=some n'/\n'.up=true/\n'.a=bW n.a r/\bw n.a r=0:=by
 obtain⟨m,n',hm,Eb,rfl⟩:=Hj hy;obtain rfl:n=m:=by rw[hn] at hm;exact zy hm
 obtain⟨d1,d2,d3,d4,d5⟩:=(h.node n (zt hn)).s0 hu Eb;refine⟨h.set d1,n',?_,d2,d3,d4⟩
 show(w.n.set k n')[k]?=_
 rw[yh,pI rfl,pI (zw.1 hn).1]
theorem Hh.post{w y:cY}{l:List df}(h:Hh w y CR l)(hm:m.ah<w.n.length)(hl:y.m=l):Hh w (gL y m) CR l:=by
 subst hl;unfold gL;split
 ·rename_i he;refine⟨h.c,⟨h.ok.iw,h.ok.len,(Vf he).1,fun x hx=>?_,h.ok.head,h.ok.node⟩,h.head,h.len,h.node,?_⟩
  ·have hx:x∈u7 y.m m:=hx;rcases Pj hx with hx|rfl
   ·exact h.ok.CR x hx
   ·have:=h.len
    show x.ah<(y.n.length:Int)
    omega
  ·show u7 y.m m=y.m∨_
   unfold u7;split
   ·exact .inr ⟨m,rfl⟩
   ·exact .inl rfl
 ·exact h
theorem cU.same{w:cY}(h:cU w)(CR:Int):Hh w w CR w.m:=⟨rfl,h,fun _=>rfl,rfl,fun _ _=>rfl,.inl rfl⟩
def qf(w:cY)(x:gX):Int:=
 if 1<=x.ae/\x.ae<=6 then-1 else
 if x.ae=9∨x.ae=10 then(if(dw w.m x.cj).rep=true then-1 else(dw w.m x.cj).ah) else
 if x.ah<0 then-1 else x.ah
def qg(w:cY)(x:gX):List df:=if x.ae=9∨x.ae=11 then left w.m x.cj false else w.m
theorem Hh.trans{w z y:cY}{l:List df}(h:Hh z y CR l)(e:z.c=w.c/\z.h=w.h/\z.n=w.n):Hh w y CR l:=
 ⟨h.c.trans e.1,h.ok,fun k=>(h.head k).trans e.2.1,by rw[h.len,e.2.2],fun i hi=>by rw[h.node i hi,e.2.2],h.cZ⟩
theorem cU.Fj{w y:cY}(h:cU w){x:gX}(hy:bO w x= .ok y):Hh w y (qf w x) (qg w x):=by
 unfold bO at hy;split at hy
 ·rename_i hk
  have EN:qf w x=if(dw w.m x.cj).rep=true then-1 else(dw w.m x.cj).ah:=by
   unfold qf;rw[nI (by omega),pI hk]
  have tM:qg w x=left w.m x.cj (decide (x.ae=10)):=by
   unfold qg;rcases hk with k|k
   ·rw[pI (.inl k)];simp[k]
   ·rw[nI (by omega)];simp[k,left]
  rw[EN,tM];unfold mm at hy;split at hy
  ·cases hy
  ·rename_i ht;obtain⟨t1,t2,t3,t4⟩:=BV (zx.1 ht);obtain⟨o1,o2,o3⟩:=(cM.1 t4).2 _ t1;have hw:=h.CR _ t1;generalize dw w.m x.cj=m at*;unfold jO at o1;have hL:=h.less (k:=x.cj) (tw:=decide (x.ae=10));split at hy
   ·cases hy
   ·rename_i n hn;split at hy
    ·cases hy
    ·rename_i KK;dsimp only at hy;split at hy
     ·rename_i hr
      have hu:w.h.up=true:=by
       cases hu:w.h.up with
       |true=>rfl
       |false=>exact absurd (.inl ⟨hr,hu⟩) KK
      rw[pI hr];obtain rfl:=zJ hy
      cases hl:eJ { w with m:=left w.m x.cj (decide (x.ae=10)) } ⟨7,m.ah,m.au,0,m.aP,⟨0,[]⟩⟩ with
      |error e=>exact Hh.trans (hL.same _) ⟨rfl,rfl,rfl⟩
      |ok z=>exact Hh.trans (hL.lead hu hl) ⟨rfl,rfl,rfl⟩
     ·rename_i hr;rw[nI hr];have hr:m.rep=false:=by simpa using hr
      have hu:n.up=true:=by
       cases hu:n.up with
       |true=>rfl
       |false=>exact absurd (.inr ⟨hr,hu⟩) KK
      have hk:((m.ah.toNat:Nat):Int)=m.ah:=by omega
      split at hy
      ·obtain rfl:=zJ hy;have Eb:(({ w with m:=left w.m x.cj (decide (x.ae=10)) } :cY).n)[m.ah.toNat]?=some n:=hn;unfold eK;rw[Eb];exact Hh.trans ((hL.same _).post (by simp only[eQ];omega) rfl) ⟨rfl,rfl,rfl⟩
      ·obtain rfl:=zJ hy
       cases hl:gq { w with m:=left w.m x.cj (decide (x.ae=10)) } m.ah.toNat ⟨1,0,m.au,0,false,m.cB⟩ with
       |error e=>exact Hh.trans (hL.same _) ⟨rfl,rfl,rfl⟩
       |ok z=>
        have:=(hL.s0 hn hu hl).1;rw[hk] at this;exact Hh.trans this ⟨rfl,rfl,rfl⟩
 ·rename_i hk;split at hy
  ·rename_i k11;split at hy
   ·cases hy
   ·obtain rfl:=zJ hy;have tM:qg w x=left w.m x.cj false:=by unfold qg;rw[pI (.inr k11)]
    rw[tM];exact Hh.trans (h.less.same _) ⟨rfl,rfl,rfl⟩
  ·rename_i k11;have tM:qg w x=w.m:=by unfold qg;rw[nI (by omega)]
   rw[tM];split at hy
   ·rename_i WZ;have EN:qf w x= -1:=by unfold qf;rw[pI (by omega)]
    rw[EN];split at hy
    ·cases hy
    ·rename_i hu;exact h.lead (by simpa using hu) hy
   ·rename_i WZ;split at hy
    ·cases hy
    ·rename_i hk3;split at hy
     ·cases hy
     ·rename_i hwho0;split at hy
      ·rename_i hk4;have EN:qf w x= -1:=by unfold qf;rw[pI (by omega)]
       rw[EN];split at hy
       ·cases hy
       ·rename_i hu;have hu:w.h.up=true:=by simpa using hu
        unfold iz at hy;split at hy
        ·cases hy
        ·rename_i ht;split at hy
         ·split at hy
          ·cases hy
          ·split at hy
           ·cases hy
           ·obtain rfl:=zJ hy;exact(h.same _).post (by simp only;omega) rfl
         ·split at hy
          ·cases hy
          ·rename_i z hz;obtain rfl:=zJ hy;exact(h.lead hu hz).post (by simp only;omega) (by obtain⟨he,d,hd,rfl⟩:=Hi hz;rfl)
      ·rename_i hk4;have EN:qf w x=if x.ah<0 then-1 else x.ah:=by unfold qf;rw[nI (by omega),nI hk]
       split at hy
       ·rename_i hk5;unfold fL at hy;split at hy
        ·rename_i qF;rw[EN,pI qF];split at hy
         ·cases hy
         ·rename_i hu;split at hy
          ·cases hy
          ·split at hy
           ·cases hy
           ·rename_i s hs;obtain rfl:=zJ hy;exact⟨rfl,⟨h.iw,h.len,h.cZ,h.CR,h.head.G9 hk5 hu hs,h.node⟩,fun e=>by omega,rfl,fun i _=>rfl,.inl rfl⟩
        ·rename_i qF;rw[EN,nI qF];have Tf:((x.ah.toNat:Nat):Int)=x.ah:=by omega
         split at hy
         ·cases hy
         ·rename_i n hn;split at hy
          ·cases hy
          ·rename_i hu;split at hy
           ·cases hy
           ·split at hy
            ·cases hy
            ·rename_i s hs;obtain rfl:=zJ hy;have:=h.set (k:=x.ah.toNat) ((h.node n (zt hn)).G9 hk5 hu hs);rw[Tf] at this;exact this
       ·rename_i hk5;rw[EN,nI (by omega)];have Tf:((x.ah.toNat:Nat):Int)=x.ah:=by omega
        split at hy
        ·cases hy
        ·rename_i n hn;split at hy
         ·cases hy
         ·rename_i hu;have hu:n.up=true:=by simpa using hu
          split at hy
          ·unfold js at hy;split at hy
           ·cases hy
           ·split at hy
            ·cases hy
            ·split at hy
             ·have:=(h.s0 hn hu hy).1;rw[Tf] at this;exact this
             ·split at hy
              ·cases hy
              ·rename_i z hz;obtain rfl:=zJ hy;obtain⟨e1,n',e2,e3,e4,e5⟩:=h.s0 hn hu hz;rw[Tf] at e1;have hzm:z.m=w.m:=by obtain⟨m0,n0,Qo,Fg,rfl⟩:=Hj hz;rfl
               unfold eK;rw[e2];exact e1.post (by simp only[eQ];omega) hzm
          ·split at hy
           ·cases hy
           ·obtain rfl:=zJ hy;unfold eK;rw[hn];exact(h.same _).post (by simp only[eQ];omega) rfl
open Go Go.Proofs
theorem mV{xo yo:Operand}{a b:Bool} :aR Tryz.prog (aI .neq 4 xo yo (.bool a) (.bool b)) (.bool (a !=b)):=by
 intro w;have hg:(eqGuard .neq 4 xo yo (.bool a) (.bool b)).run Tryz.prog w= .ok () w:=by simp[eqGuard]
 simp only[aI,Sem.run_bind,hg,Result.andThen_ok];have:=run_equal_bool w 4 a b Tryz.underlying4;simp[binOp,this]
 cases a<;>cases b<;>rfl
open Go Go.Proofs
open Go.Value renaming int → I, slice → S, bool → B, agg → A, tuple → T, pointer → P, string → bH
open Go.IntKind renaming i64 → Z, wrap → W
open Go.Addr renaming mk → D
open Go.Vg.Bx renaming mk → J
open Go.Vg renaming Next → X, Sp → Y, eZ → YO, i64 → U
open Go.Vg.Heap renaming cell → C
open Int renaming toNat → N
theorem vc67{c:Nat}{ck:Int}:
 (fV TryzMutsJ Tryz.f233 aa H [.v (A #[S a l c,U ck,U tr,B go,U gid,S ga gl gc,B gd])] [] K)=(
 ∀b:Nat,(fun w1:LB=>Y 140 [S a l c] H fun d e=>∃g,d=U g/\(X aa H e->(¬g=0->K (U g) [] e)/\(¬¬g=0->∃h:Prop,((ck<1->w1=w1/\ak e e/\h)/\(¬ck<1->(6<ck->w1=w1/\ak e e/\h)/\(¬6<ck->(tr<0->w1=w1/\ak e e/\h)/\(¬tr<0->w1=w1/\ak e e/\(h↔200<tr)))))/\(h->K (U 3) [] e)/\(¬h->(go=true->∃i:Prop,((tr=0->w1=w1/\ak e e/\i)/\(¬tr=0->w1=w1/\ak e e/\(i↔gd=true)))/\(i->K (U 4) [] e)/\(¬i->Y 167 [A #[U gid,S ga gl gc]] e fun j k=>∃m,j=U m/\(X aa e k->K (U m) [] k)))/\(go=false->∃i:Prop,((¬gid=0->w1=w1/\ak e e/\i)/\(¬¬gid=0->w1=w1/\ak e e/\(i↔0<(gl:Int))))/\(i->K (U 4) [] e)/\(¬i->K (U 0) [] e)))))) [J b false 46 [S a l c,U ck,U tr,B go,U gid,S ga gl gc,B gd]]):=by kernel_rfl
theorem vc73{c:Nat}{ck:Int}:
 (fV TryzMutsJ Tryz.f161 aa H [.v (A #[S a l c,U ck,U tr,B go,U gid,S ga gl gc,B gd])] [] K)=(
 ∀b:Nat,(fun w1:LB=>Y 159 [S a l c] H fun d e=>∃g,d=U g/\(X aa H e->(¬g=0->K (U g) [] e)/\(¬¬g=0->∃h:Prop,(Y 92 [U ck,U 1,U 6] e fun i j=>∃k,i=B k/\(X aa e j->(k=false->w1=w1/\ak e j/\h)/\(¬k=false->Y 92 [U tr,U 0,U 200] j fun m n=>∃o,m=B o/\(X aa j n->w1=w1/\ak e n/\(h↔o=false)))))/\(h->K (U 3) [] e)/\(¬h->(go=false->∃i:Prop,((¬gid=0->w1=w1/\ak e e/\i)/\(¬¬gid=0->w1=w1/\ak e e/\(i↔¬(gl:Int)=0)))/\(i->K (U 4) [] e)/\(¬i->K (U 0) [] e))/\(¬go=false->∃i:Prop,((gd=true->w1=w1/\ak e e/\i)/\(gd=false->w1=w1/\ak e e/\(i↔tr<1)))/\(i->K (U 4) [] e)/\(¬i->Y 84 [A #[U gid,S ga gl gc]] e fun j k=>∃m,j=U m/\(X aa e k->K (U m) [] k))))))) [J b false 46 [S a l c,U ck,U tr,B go,U gid,S ga gl gc,B gd]]):=by kernel_rfl
theorem Ze{c:Nat}{ck:Int}:
 (fV TryzMutsJ Tryz.f173 aa H [.v (A #[S a l c,U ck,U tr,B go,U gid,S ga gl gc,B gd])] [] K)=(
 ∀b d:Nat,Y 163 [S a l c] H fun e g=>∃h i j,e=S h i j/\(X aa H g->Y 163 [S ga gl gc] g fun k m=>∃n o p,k=S n o p/\(X aa g m->K (A #[S h i j,U ck,U tr,B go,U gid,S n o p,B gd]) [] m))):=by kernel_rfl
theorem vc70{c:Nat}{ck:Int}:
 (fV TryzMutsJ Tryz.f203 aa H [.v (A #[S a l c,U ck,U tr,B go,U gid,S ga gl gc,B gd])] [] K)=(
 ∀b:Nat,Y 233 [A #[S a l c,U ck,U tr,B go,U gid,S ga gl gc,B gd]] H fun d e=>∃g,d=U g/\(X aa H e->(¬g=0->K (T #[S none 0 0,U g]) [] e)/\(¬¬g=0->(go=false->K (T #[S none 0 0,U 0]) [] e)/\(¬go=false->Y 57 [S a l c,S ga gl gc] e fun h i=>∃j k m n,h=T #[S j k m,U n]/\(X aa e i->K (T #[S j k m,U n]) [] i))))):=by kernel_rfl
abbrev KZ(K:KT)(m:Int)(h:Heap):Prop:=
 K (T #[A #[S none 0 0,U 0,U 0,B false,U 0,S none 0 0,B false],U m]) [] h
theorem vc71{id:Int}{c:Nat}:
 (fV TryzMutsJ Tryz.f89 aa H [.v (A #[U id,S a l c])] [] K)=(
 ∀b d:Nat,Y 167 [A #[U id,S a l c]] H fun e g=>∃h,e=U h/\(X aa H g->(¬h=0->KZ K h g)/\(¬¬h=0->Y 163 [S a l c] g fun i j=>∃k m n,i=S k m n/\(X aa g j->K (T #[A #[S k m n,U id,U 0,B false,U 0,S none 0 0,B true],U 0]) [] j)))):=by kernel_rfl
theorem vc75{c:Nat}{ck:Int}:
 (fV TryzMutsJ Tryz.f38 aa H [.v (A #[S a l c,U ck,U tr,B go,U gid,S ga gl gc,B gd]),.v (A #[S a' l' c',U GV,U oK,B go',U wD,S sZ Fq xD,B CG])] [] K)=(
 ∀b d:Nat,(fun w1:LB=>∃e:Prop,(Y 47 [S a l c,S a' l' c'] H fun g h=>∃i,g=B i/\(X aa H h->(i=true->(ck=GV->(tr=oK->∃j,aR Tryz.prog (aI BinOp.eql 4 (Operand.tmp 26) (Operand.tmp 28) (B go) (B go')) (B j)/\(j=true->∃k,aR Tryz.prog (aI BinOp.eql 4 (Operand.tmp 33) (Operand.tmp 35) (B gd) (B CG)) (B k)/\(k=true->Y 56 [A #[U gid,S ga gl gc],A #[U wD,S sZ Fq xD]] h fun m n=>∃o,m=B o/\(X aa h n->w1=w1/\ak H n/\(e↔o=true)))/\(¬k=true->w1=w1/\ak H h/\¬e))/\(¬j=true->w1=w1/\ak H h/\¬e))/\(¬tr=oK->w1=w1/\ak H h/\¬e))/\(¬ck=GV->w1=w1/\ak H h/\¬e))/\(i=false->w1=w1/\ak H h/\¬e)))/\K (B (@decide e (zh e))) [] H) [J b false 46 [S a l c,U ck,U tr,B go,U gid,S ga gl gc,B gd],J d false 46 [S a' l' c',U GV,U oK,B go',U wD,S sZ Fq xD,B CG]]):=by kernel_rfl
theorem vc66{c:Nat}{ck:Int}:
 (fV TryzMutsJ Tryz.f22 aa H [.v (A #[S a l c,U ck,U tr,B go,U gid,S ga gl gc,B gd]),.v (A #[S a' l' c',U GV,U oK,B go',U wD,S sZ Fq xD,B CG])] [] K)=(
 ∀b d:Nat,(fun w1:LB=>∃e:Prop,(Y 47 [S a l c,S a' l' c'] H fun g h=>∃i,g=B i/\(X aa H h->(i=true->(ck=GV->(tr=oK->∃j,aR Tryz.prog (aI BinOp.eql 4 (Operand.tmp 26) (Operand.tmp 28) (B go) (B go')) (B j)/\(j=true->Y 77 [A #[U gid,S ga gl gc],A #[U wD,S sZ Fq xD]] h fun k m=>∃n,k=B n/\(X aa h m->(n=true->∃o,aR Tryz.prog (aI BinOp.eql 4 (Operand.tmp 40) (Operand.tmp 42) (B gd) (B CG)) (B o)/\w1=w1/\ak H m/\(e↔o=true))/\(n=false->w1=w1/\ak H m/\¬e)))/\(¬j=true->w1=w1/\ak H h/\¬e))/\(¬tr=oK->w1=w1/\ak H h/\¬e))/\(¬ck=GV->w1=w1/\ak H h/\¬e))/\(i=false->w1=w1/\ak H h/\¬e)))/\K (B (@decide e (zh e))) [] H) [J b false 46 [S a l c,U ck,U tr,B go,U gid,S ga gl gc,B gd],J d false 46 [S a' l' c',U GV,U oK,B go',U wD,S sZ Fq xD,B CG]]):=by kernel_rfl
theorem Zf:
 (fV TryzMutsJ Tryz.f160 aa H [.v (U e)] [] K)=(
 ∀a:Nat,KZ K e H):=by kernel_rfl
abbrev Tj(s:Heap)(f1 g1:Nat)(h1 i1 j1:Int):Prop:=
 C s f1 (g1+0*3)=some (U h1)/\C s f1 (g1+0*3+1)=some (U i1)/\C s f1 (g1+0*3+2)=some (U j1)/\True
abbrev Tk(y:Bool)(w1:LB)(s:Heap)(oK x:Int)(j:Nat)(kd:Int)(K:KT)(w3:AV)(i t:O)(u v aa:Nat)(w z:Int)(a1:O)(b1 c1:Nat)(d1:Bool)(w2:AV):Prop:=
 ∃e1:Prop,((y=false->w1=w1/\ak s s/\e1)/\(¬y=false->(¬oK=x->w1=w1/\ak s s/\e1)/\(¬¬oK=x->∃f1,aR Tryz.prog (aI BinOp.neq 4 (Operand.tmp 68) (Operand.tmp 71) (B (decide (0<(j:Int)))) (B (decide (kd=2)))) (B f1)/\w1=w1/\ak s s/\(e1↔f1=true))))/\(e1->K (T w3) [] s)/\(¬e1->(kd=2->∃f1 g1,i=some (D f1 g1 none)/\Int.ofNat 0<=0/\0<(j:Int)/\∃h1 i1 j1:Int,(Tj s f1 g1 h1 i1 j1)/\Y 204 [S t u v,A #[U h1,U i1,U j1]] s fun k1 l1=>∃m1 n1 o1 p1,k1=T #[S m1 n1 o1,U p1]/\(X aa s l1->K (T #[A #[S m1 n1 o1,U w,U x,B y,U z,S a1 b1 c1,B d1],U p1]) [] l1))/\(¬kd=2->K (T w2) [] s/\K (T w2) [] s/\K (T w2) [] s/\K (T w2) [] s))
theorem vc69{c rl:Nat}{ck ag n id:Int}:
 (fV TryzMutsJ Tryz.f145 aa H [.v (A #[S a l c,U ck,U tr,B go,U gid,S ga gl gc,B gd]),.v (A #[U kd,U ag,U oK,U n,B CG,U id,S ra rl rc])] [] K)=(
 (fun w5:LV=>(fun w4:AV=>(fun w3:AV=>∀b d e:Nat,Y 203 w5 H fun g h=>∃i j k m,g=T #[S i j k,U m]/\(X aa H h->(¬m=0->KZ K m h)/\(¬¬m=0->Y 198 [A #[U kd,U ag,U oK,U n,B CG,U id,S ra rl rc]] h fun o p=>∃q,o=U q/\(X aa h p->(¬q=0->KZ K q p)/\(¬¬q=0->Y 173 w5 p fun r s=>∃t u v w x y z,(fun w2:AV=>∃a1 b1 c1 d1,(fun w1:LB=>r=A #[S t u v,U w,U x,B y,U z,S a1 b1 c1,B d1]/\(X aa p s->(kd=1->(oK<=x->K (T w3) [] s)/\(¬oK<=x->Y 163 [S ra rl rc] s fun e1 f1=>∃g1 h1 i1,e1=S g1 h1 i1/\(X aa s f1->K (T #[A #[S t u v,U w,U oK,B true,U id,S g1 h1 i1,B false],U 0]) [] f1)))/\(¬kd=1->(kd=2->(kd=2->Tk y w1 s oK x j kd K w3 i t u v aa w z a1 b1 c1 d1 w2)/\(¬kd=2->K (T w4) [] s))/\(¬kd=2->(kd=3->Tk y w1 s oK x j kd K w3 i t u v aa w z a1 b1 c1 d1 w2)/\(¬kd=3->K (T w4) [] s))))) [J b false 46 [S t u v,U w,U x,B y,U z,S a1 b1 c1,B d1],J d false 126 [U kd,U ag,U oK,U n,B CG,U id,S ra rl rc],J e false 46 [S none 0 0,U 0,U 0,B false,U 0,S none 0 0,B false]]) #[A #[S t u v,U z,U x,B false,U 0,S none 0 0,B CG],U 0]))))) #[A #[S none 0 0,U 0,U 0,B false,U 0,S none 0 0,B false],U 7]) #[A #[S none 0 0,U 0,U 0,B false,U 0,S none 0 0,B false],U 4]) [A #[S a l c,U ck,U tr,B go,U gid,S ga gl gc,B gd]]):=by kernel_rfl
abbrev Dh(j:Value)(aa:Nat)(h k:Heap)(K:KT):Prop:=
 ∃(m:O)(o p:Nat)(q r:Int)(s:Bool)(t:Int)(u:O)(v w:Nat)(x:Bool)(y:Int),(fun w1:AV=>j=T w1/\(X aa h k->K (T w1) [] k)) #[A #[S m o p,U q,U r,B s,U t,S u v w,B x],U y]
theorem vc72{c rl:Nat}{ck ag n id:Int}:
 (fV TryzMutsJ Tryz.f85 aa H [.v (A #[S a l c,U ck,U tr,B go,U gid,S ga gl gc,B gd]),.v (A #[U kd,U ag,U oK,U n,B CG,U id,S ra rl rc])] [] K)=(
 ∀b d e:Nat,(fun w7:LB=>Y 161 [A #[S a l c,U ck,U tr,B go,U gid,S ga gl gc,B gd]] H fun g h=>∃i,g=U i/\(X aa H h->(¬i=0->Y 160 [U i] h fun j k=>Dh j aa h k K)/\(¬¬i=0->Y 156 [A #[U kd,U ag,U oK,U n,B CG,U id,S ra rl rc]] h fun j k=>∃m,j=U m/\(X aa h k->(¬m=0->Y 160 [U m] k fun o p=>Dh o aa k p K)/\(¬¬m=0->(kd=1->(oK<=tr->Y 160 [U 7] k fun o p=>Dh o aa k p K)/\(¬oK<=tr->K (T #[A #[S a l c,U ck,U oK,B true,U id,S ra rl rc,B false],U 0]) [] k))/\(¬kd=1->(3<kd->Y 160 [U 4] k fun o p=>Dh o aa k p K)/\(¬3<kd->∃o:Prop,((go=false->w7=w7/\ak k k/\o)/\(¬go=false->w7=w7/\ak k k/\(o↔¬tr=oK)))/\(o->Y 160 [U 7] k fun p q=>Dh p aa k q K)/\(¬o->Y 128 [S a l c,S ga gl gc] k fun p q=>∃r s t u,p=T #[S r s t,U u]/\(X aa k q->∃v:Prop,((kd=2->w7=w7/\ak q q/\(v↔0<(s:Int)))/\(¬kd=2->w7=w7/\ak q q/\¬v))/\(v->∃w x,r=some (D w x none)/\Int.ofNat 0<=0/\0<(s:Int)/\∃y z a1:Int,(Tj q w x y z a1)/\Y 162 [S a l c,A #[U y,U z,U a1]] q fun b1 c1=>∃d1 e1 f1 g1,b1=T #[S d1 e1 f1,U g1]/\(X aa q c1->K (T #[A #[S d1 e1 f1,U ck,U tr,B go,U gid,S ga gl gc,B gd],U 0]) [] c1))/\(¬v->∃w:Prop,((kd=3->w7=w7/\ak q q/\(w↔(s:Int)=0))/\(¬kd=3->w7=w7/\ak q q/\¬w))/\(w->K (T #[A #[S a l c,U gid,U tr,B false,U 0,S none 0 0,B CG],U 0]) [] q)/\(¬w->Y 160 [U 7] q fun x y=>Dh x aa q y K))))))))))) [J b false 46 [S a l c,U ck,U tr,B go,U gid,S ga gl gc,B gd],J d false 126 [U kd,U ag,U oK,U n,B CG,U id,S ra rl rc],J e false 46 [S none 0 0,U 0,U 0,B false,U 0,S none 0 0,B false]]):=by kernel_rfl
abbrev Tm(k1:Heap)(l1 m1:Nat)(n n1 o1 p1 q1:Int)(r1:Bool)(s1:Int)(t1:O)(u1 v1:Nat):Prop:=
 C k1 l1 (m1+N n*7)=some (U n1)/\C k1 l1 (m1+N n*7+1)=some (U o1)/\C k1 l1 (m1+N n*7+2)=some (U p1)/\C k1 l1 (m1+N n*7+3)=some (U q1)/\C k1 l1 (m1+N n*7+4)=some (B r1)/\C k1 l1 (m1+N n*7+5)=some (U s1)/\C k1 l1 (m1+N n*7+6)=some (S t1 u1 v1)/\True
theorem vc63{id:Int}{c:Nat}:
 (fV TryzMutsJ Tryz.f67 aa H [.v (A #[U id,S a l c]),.v (S a' l' c')] [] K)=(
 (fun w7:AV=>∀b d:Nat,Y 89 [A #[U id,S a l c]] H fun e g=>∃h i j k m n o p q r s t,e=T #[A #[S h i j,U k,U m,B n,U o,S p q r,B s],U t]/\(X aa H g->∀u:Nat,(¬t=0->K (T #[A w7,U t]) [] g)/\(¬¬t=0->(200<(l':Int)->K (T #[A w7,U 2]) [] g)/\(¬200<(l':Int)->∃(v:LI)(w:LM),v [U 0,U t,U 0,A w7,A #[S h i j,U k,U m,B n,U o,S p q r,B s]] g/\∀(x y z:Int)(a1:O)(b1 c1:Nat)(d1 e1:Int)(f1:Bool)(g1:Int)(h1:O)(i1 j1:Nat)(k1:Bool)(l1:O)(m1 n1:Nat)(o1 p1:Int)(q1:Bool)(r1:Int)(s1:O)(t1 u1:Nat)(v1:Bool)(w1:Heap),(fun w6:AV=>(fun w5:AV=>X aa H w1->v [U x,U y,U z,A w6,A w5] w1->(z<(l':Int)->∃x1 y1,a'=some (D x1 y1 none)/\0<=z/\z<(l':Int)/\∃(z1 a2 b2 c2:Int)(d2:Bool)(e2:Int)(f2:O)(g2 h2:Nat),(Tm w1 x1 y1 z z1 a2 b2 c2 d2 e2 f2 g2 h2)/\∀i2:Nat,Y 145 [A w5,A #[U z1,U a2,U b2,U c2,B d2,U e2,S f2 g2 h2]] w1 fun j2 k2=>∃(l2:O)(m2 n2:Nat)(o2 p2:Int)(q2:Bool)(r2:Int)(s2:O)(t2 u2:Nat)(v2:Bool),(fun w4:AV=>∃w2,j2=T #[A w4,U w2]/\(X aa w1 k2->(¬w2=0->K (T #[A w7,U w2]) [] k2)/\(¬¬w2=0->∀x2:Int,(fun w3:LV=>x2=W Z (z+1)->[[U id,S a l c]]=[[U id,S a l c]]/\v w3 k2/\w w3<w [U x,U y,U z,A w6,A w5]) [U x,U w2,U x2,A w6,A w4]))) #[S l2 m2 n2,U o2,U p2,B q2,U r2,S s2 t2 u2,B v2])/\(¬z<(l':Int)->K (T #[A w5,U 0]) [] w1)) #[S l1 m1 n1,U o1,U p1,B q1,U r1,S s1 t1 u1,B v1]) #[S a1 b1 c1,U d1,U e1,B f1,U g1,S h1 i1 j1,B k1])))) #[S none 0 0,U 0,U 0,B false,U 0,S none 0 0,B false]):=by kernel_rfl
theorem vc64{id:Int}{c:Nat}:
 (fV TryzMutsJ Tryz.f25 aa H [.v (A #[U id,S a l c]),.v (S a' l' c')] [] K)=(
 (fun w6:AV=>∀b d:Nat,Y 84 [A #[U id,S a l c]] H fun e g=>∃h,e=U h/\(X aa H g->(¬h=0->K (T #[A w6,U h]) [] g)/\(¬¬h=0->(200<(l':Int)->K (T #[A w6,U 2]) [] g)/\(¬200<(l':Int)->∀i:Nat,∃(j:LI)(k:LM),j [U 0,U 0,A w6,A #[S a l c,U id,U 0,B false,U 0,S none 0 0,B true]] g/\∀(m n:Int)(o:O)(p q:Nat)(r s:Int)(t:Bool)(u:Int)(v:O)(w x:Nat)(y:Bool)(z:O)(a1 b1:Nat)(c1 d1:Int)(e1:Bool)(f1:Int)(g1:O)(h1 i1:Nat)(j1:Bool)(k1:Heap),(fun w5:AV=>(fun w4:AV=>X aa H k1->j [U m,U n,A w5,A w4] k1->(n<(l':Int)->∃l1 m1,a'=some (D l1 m1 none)/\0<=n/\n<(l':Int)/\∃(n1 o1 p1 q1:Int)(r1:Bool)(s1:Int)(t1:O)(u1 v1:Nat),(Tm k1 l1 m1 n n1 o1 p1 q1 r1 s1 t1 u1 v1)/\∀w1:Nat,Y 85 [A w4,A #[U n1,U o1,U p1,U q1,B r1,U s1,S t1 u1 v1]] k1 fun x1 y1=>∃(z1:O)(a2 b2:Nat)(c2 d2:Int)(e2:Bool)(f2:Int)(g2:O)(h2 i2:Nat)(j2:Bool),(fun w3:AV=>∃k2,x1=T #[A w3,U k2]/\(X aa k1 y1->∀l2:Nat,(¬k2=0->K (T #[A w6,U k2]) [] y1)/\(¬¬k2=0->∀m2:Int,(fun w2:LV=>m2=W Z (n+1)->[[U id,S a l c]]=[[U id,S a l c]]/\j w2 y1/\k w2<k [U m,U n,A w5,A w4]) [U m,U m2,A w5,A w3]))) #[S z1 a2 b2,U c2,U d2,B e2,U f2,S g2 h2 i2,B j2])/\(¬n<(l':Int)->K (T #[A w4,U 0]) [] k1)) #[S z a1 b1,U c1,U d1,B e1,U f1,S g1 h1 i1,B j1]) #[S o p q,U r,U s,B t,U u,S v w x,B y])))) #[S none 0 0,U 0,U 0,B false,U 0,S none 0 0,B false]):=by kernel_rfl
open Go Go.Proofs
section
variable {H : Heap} {a ga : O} {l c gl gc : Nat} {x : lS}
theorem MD(hp:aL H a l x.ap)(hg:aL H ga gl x.ab.ap):Sp 233 [dL x a l c ga gl gc] H fun v _=>v=i64 (cT x):=by
 refine bh Tryz.func233 (fun _ _=>vc67) fun aa hb=>?_;have hgl:=hg.len;have Nf:je x.ab↔x.ab.id=0/\gl=0:=by unfold je;rw[ph hgl]
 intro b;refine(jc hp).bY fun H1 e1 _=>⟨fun h=>by rw[cT,pI h],fun h=>?_⟩
 refine⟨x.ck<1∨6<x.ck∨x.au<0∨200<x.au,?_,fun h2=>by rw[cT,nI h,pI h2],fun h2=>⟨fun vn=>?_,fun vn=>?_⟩⟩
 ·repeat' (first|exact⟨rfl,fun _ _ h=>h,by omega⟩|intro _|refine⟨?_,?_⟩)
 ·refine⟨x.au=0∨x.aP=true,⟨fun _=>⟨rfl,fun _ _ h=>h,by grind⟩,fun _=>⟨rfl,fun _ _ h=>h,by grind⟩⟩,fun h3=>by rw[cT,nI h,nI h2,pI vn,pI h3],fun h3=>(kJ (hg.ext' e1) x.ab.id).bY fun H2 _ _=>?_⟩;rw[cT,nI h,nI h2,pI vn,nI h3]
 ·refine⟨¬(x.ab.id=0/\gl=0),⟨fun _=>⟨rfl,fun _ _ h=>h,by grind⟩,fun _=>⟨rfl,fun _ _ h=>h,by grind⟩⟩,fun h3=>?_,fun h3=>?_⟩
  ·rw[cT,nI h,nI h2,nI (by simp[vn]),nI (by rw[Nf];exact h3)]
  ·rw[cT,nI h,nI h2,nI (by simp[vn]),pI (by rw[Nf];exact zx.1 h3)]
theorem EO(hp:aL H a l x.ap)(hg:aL H ga gl x.ab.ap):Sp 161 [dL x a l c ga gl gc] H fun v _=>v=i64 (cT x):=by
 refine bh Tryz.func161 (fun _ _=>vc73) fun aa hb=>?_;have hgl:=hg.len;have Nf:je x.ab↔x.ab.id=0/\gl=0:=by unfold je;rw[ph hgl]
 intro b;refine(fX hp).bY fun H1 e1 _=>⟨fun h=>by rw[cT,pI h],fun h=>?_⟩
 refine⟨x.ck<1∨6<x.ck∨x.au<0∨200<x.au,?_,fun h2=>by rw[cT,nI h,pI h2],fun h2=>⟨fun vn=>?_,fun vn=>?_⟩⟩
 ·refine(uY x.ck 1 6).aO fun H2 e2 _=>⟨fun g=>⟨rfl,e2,?_⟩,fun g=>(uY x.au 0 200).aO fun H3 e3 _=>⟨rfl,aH.trans e2 e3,?_⟩⟩
  ·have:¬(1<=x.ck/\x.ck<=6):=by simpa[me] using g
   omega
  ·have:1<=x.ck/\x.ck<=6:=by simpa[me] using g
   simp only[me,decide_eq_false_iff_not];omega
 ·refine⟨¬(x.ab.id=0/\gl=0),⟨fun _=>⟨rfl,fun _ _ h=>h,by grind⟩,fun _=>⟨rfl,fun _ _ h=>h,by grind⟩⟩,fun h3=>?_,fun h3=>?_⟩
  ·rw[cT,nI h,nI h2,nI (by simp[vn]),nI (by rw[Nf];exact h3)]
  ·rw[cT,nI h,nI h2,nI (by simp[vn]),pI (by rw[Nf];exact zx.1 h3)]
 ·have vn:x.going=true:=by simpa using vn
  have ht:0<=x.au:=by omega
  refine⟨x.au=0∨x.aP=true,⟨fun _=>⟨rfl,fun _ _ h=>h,by grind⟩,fun _=>⟨rfl,fun _ _ h=>h,by grind⟩⟩,fun h3=>by rw[cT,nI h,nI h2,pI vn,pI h3],fun h3=>(mf (hg.ext' e1) x.ab.id).bY fun H2 _ _=>?_⟩;rw[cT,nI h,nI h2,pI vn,nI h3]
theorem Tn(hp:aL H a l x.ap)(hg:aL H ga gl x.ab.ap):Sp 203 [dL x a l c ga gl gc] H fun v H'=>∃a n c,v= .tuple #[.slice a n c,i64 (cT x)]/\Steps H' a n (if cT x=0 then cy x else []):=by
 refine bh Tryz.func203 (fun _ _=>vc70) fun aa hb=>?_;intro b;refine(MD hp hg).bY fun H1 e1 _=>⟨fun h=>?_,fun h=>?_⟩
 ·rw[nI h];exact⟨none,0,0,rfl,Sl.nil⟩
 have h:=zx.1 h;rw[h,pI rfl];refine⟨fun vn=>⟨none,0,0,rfl,?_⟩,fun vn=>?_⟩
 ·rw[cy,nI (by simp[vn])];exact Sl.nil
 ·have hz:eO x.ap x.ab.ap=0:=mQ.2 ⟨(gD h).1,pe h⟩;refine(Ya (hp.ext' e1) (hg.ext' e1)).Qp fun a2 n2 c2 H2 e2 _ hD=>?_;rw[pI hz] at hD;rw[hz];refine⟨_,_,_,rfl,?_⟩;rw[cy,pI (by simpa using vn)];exact hD
theorem Jy(h:cT x=0):x.ap.length<=12/\x.ab.ap.length<=12:=⟨(gD h).1.2,(pe h).2⟩
theorem bZ.pins{H:Heap}{a:O}{c:Nat}{xs:List Pin}(h:bZ H H' 91 2 a n c (xs.flatMap dm)):aL H' a n xs:=Sl.ext gT.mono (h.pU cJ (by omega)) ew
theorem bS.agt1{P:Program}{f:FuncId}{H:Heap}{x:lS}(h:bS P f args H fun v H'=>∃a n c ga gn gc,v=dL x a n c ga gn gc/\aL H' a n x.ap/\aL H' ga gn x.ab.ap)
  {G:O->Nat->Nat->Int->Int->Bool->Int->O->Nat->Nat->Bool->Heap->Prop} (hG:∀a n c ga gn gc H',aH H H'->Next aa H H'->aL H' a n x.ap->aL H' ga gn x.ab.ap->G a n c x.ck x.au x.going x.ab.id ga gn gc x.aP H'):
  bS P f args H fun v H'=>∃(a:O)(n c:Nat)(n2 n3:Int)(b:Bool)(n4:Int)(a2:O)(n5 c1:Nat)(b3:Bool),v= .agg #[.slice a n c,.int .i64 n2,.int .i64 n3,.bool b,.int .i64 n4,.slice a2 n5 c1,.bool b3]/\(Next aa H H'->G a n c n2 n3 b n4 a2 n5 c1 b3 H'):=
 h.mono fun v H' ex hv=>by
  obtain⟨a,n,c,ga,gn,gc,h1,h2,h3⟩:=hv;exact⟨a,n,c,_,_,_,_,ga,gn,gc,_,h1,fun hN=>hG a n c ga gn gc H' ex hN h2 h3⟩
theorem BW(hp:aL H a l x.ap)(hg:aL H ga gl x.ab.ap)(h:cT x=0):Sp 173 [dL x a l c ga gl gc] H fun v H'=>∃a n c ga gn gc,v=dL x a n c ga gn gc/\aL H' a n x.ap/\aL H' ga gn x.ab.ap:=by
 refine bh Tryz.func173 (fun _ _=>Ze) fun aa hb=>?_;have hs:=Jy h;have h1:=hp.len;have h2:=hg.len;intro b b1;refine(kH hp (by omega)).mono fun v H1 e1 hv=>?_;obtain⟨a2,n2,c2,rfl,hF⟩:=hv;refine⟨a2,n2,c2,rfl,fun _=>(kH (hg.ext' e1) (by omega)).mono fun v H2 e2 hv=>?_⟩;obtain⟨a3,n3,c3,rfl,hF3⟩:=hv;exact⟨a3,n3,c3,rfl,fun _=>⟨_,_,_,_,_,_,rfl,hF.pins.ext' e2,hF3.pins⟩⟩
end
theorem Zg{c:Nat}{r:kU}(hp:aL H a l r.ap):Sp 89 [.agg #[.int .i64 r.id,.slice a l c]] H fun v H'=>∃a n c ga gn gc,v= .tuple #[dL (if dp r=0 then iF r else tx) a n c ga gn gc,i64 (dp r)]/\aL H' a n (if dp r=0 then iF r else tx).ap/\aL H' ga gn (if dp r=0 then iF r else tx).ab.ap:=by
 refine bh Tryz.func89 (fun _ _=>vc71) fun aa hb=>?_;intro b b1;refine(kJ hp r.id).bY fun H1 e1 _=>⟨fun h=>?_,fun h=>?_⟩
 ·rw[nI h];exact⟨none,0,0,none,0,0,rfl,Sl.nil,Sl.nil⟩
 have h:=zx.1 h;have h:dp r=0:=h;rw[pI h,h];have h12:=(ey h).2.2;have hl:=hp.len;refine(kH (hp.ext' e1) (by omega)).mono fun v H2 e2 hv=>?_;obtain⟨a2,n2,c2,rfl,hF⟩:=hv;exact⟨a2,n2,c2,rfl,fun _=>⟨_,_,_,none,0,0,rfl,hF.pins,Sl.nil⟩⟩
section
variable {H : Heap} {a ga a' sZ : O} {l c gl gc l' c' Fq xD : Nat} {x y : lS}
theorem Hk(hp:aL H a l x.ap)(hg:aL H ga gl x.ab.ap)(Zh:aL H a' l' y.ap)(gu:aL H sZ Fq y.ab.ap):Sp 38 [dL x a l c ga gl gc,dL y a' l' c' sZ Fq xD] H fun v _=>v= .bool (decide (x=y)):=by
 refine bh Tryz.func38 (fun _ _=>vc75) fun aa hb=>?_;have vn:x.ab=y.ab↔(⟨x.ab.id,x.ab.ap⟩:kU)=⟨y.ab.id,y.ab.ap⟩:=Iff.rfl;intro b b1;refine⟨x=y,(Ag hp Zh).aO fun H1 e1 _=>⟨fun q1=>⟨fun q2=>⟨fun q3=>⟨_,jb,fun q4=>⟨_,jb,fun q5=>(Eu (hg.ext' e1) (gu.ext' e1) _ _).aO fun H2 e2 _=>⟨rfl,e1.trans e2,?_⟩,fun q5=>⟨rfl,e1,fun h=>q5 (by simp[h])⟩⟩,fun q4=>⟨rfl,e1,fun h=>q4 (by simp[h])⟩⟩,fun q3=>⟨rfl,e1,fun h=>q3 (by rw[h])⟩⟩,fun q2=>⟨rfl,e1,fun h=>q2 (by rw[h])⟩⟩,fun q1=>⟨rfl,e1,fun h=>by simp[h] at q1⟩⟩,?_⟩
 ·rw[Oj,decide_eq_true_eq,←vn];simp only[beq_iff_eq] at q4 q5;have q1:x.ap=y.ap:=by simpa using q1
  simp[q1,q2,q3,q4,q5]
 ·congr 1
  exact decide_eq_decide.2 Iff.rfl
theorem xF(hp:aL H a l x.ap)(hg:aL H ga gl x.ab.ap)(Zh:aL H a' l' y.ap)(gu:aL H sZ Fq y.ab.ap):Sp 22 [dL x a l c ga gl gc,dL y a' l' c' sZ Fq xD] H fun v _=>v= .bool (decide (x=y)):=by
 refine bh Tryz.func22 (fun _ _=>vc66) fun aa hb=>?_;have vn:x.ab=y.ab↔(⟨x.ab.id,x.ab.ap⟩:kU)=⟨y.ab.id,y.ab.ap⟩:=Iff.rfl;intro b b1;refine⟨x=y,(Ag hp Zh).aO fun H1 e1 _=>⟨fun q1=>⟨fun q2=>⟨fun q3=>⟨_,jb,fun q4=>(pg (hg.ext' e1) (gu.ext' e1) _ _).aO fun H2 e2 _=>⟨fun q5=>⟨_,jb,rfl,e1.trans e2,?_⟩,fun q5=>⟨rfl,e1.trans e2,fun h=>by simp[h] at q5⟩⟩,fun q4=>⟨rfl,e1,fun h=>q4 (by simp[h])⟩⟩,fun q3=>⟨rfl,e1,fun h=>q3 (by rw[h])⟩⟩,fun q2=>⟨rfl,e1,fun h=>q2 (by rw[h])⟩⟩,fun q1=>⟨rfl,e1,fun h=>by simp[h] at q1⟩⟩,?_⟩
 ·rw[decide_eq_true_eq,←vn] at q5;rw[Oj];simp only[beq_iff_eq] at q4⊢;have q1:x.ap=y.ap:=by simpa using q1
  simp[q1,q2,q3,q4,q5]
 ·congr 1
  exact decide_eq_decide.2 Iff.rfl
end
open Go Go.Proofs
section
variable {H : Heap} {a ga ra : O} {l c gl gc rl rc : Nat} {x : lS} {r : bD}
theorem BX(x:lS):cy x=[]∨ ∃o q,cy x=o::q:=by
 cases cy x with
 |nil=>exact .inl rfl
 |cons o q=>exact .inr ⟨o,q,rfl⟩
theorem Di(h:cT x=0){o:Step}(hl:cy x=o::q):bP x.ap o=0:=by
 unfold cy at hl;split at hl
 ·have h1:=(gD h).1;have h2:=pe h;exact(Bk h1.1 h2.1 h1.2 h2.2 hl).1
 ·cases hl
theorem To(hp:aL H a l x.ap)(hg:aL H ga gl x.ab.ap)(hr:aL H ra rl r.cB.ap):
  Sp 145 [dL x a l c ga gl gc,gU r ra rl rc] H fun v H'=>∃a n c ga gn gc,v= .tuple #[dL (dS x r) a n c ga gn gc,i64 (bw x r)]/\aL H' a n (dS x r).ap/\aL H' ga gn (dS x r).ab.ap:=by
 refine bh Tryz.func145 (fun _ _=>vc69) fun aa hb=>?_
 have bad:∀ {e:Int} {H':Heap},bw x r=e->e≠0->∃a n c ga gn gc,Value.tuple #[.agg #[.slice none 0 0,.int .i64 0,.int .i64 0,.bool false,.int .i64 0,.slice none 0 0,.bool false],.int .i64 e]= .tuple #[dL (dS x r) a n c ga gn gc,i64 (bw x r)]/\aL H' a n (dS x r).ap/\aL H' ga gn (dS x r).ab.ap:=fun he h0=>by
  have:dS x r=tx:=by rw[dS,nI (by omega)]
  rw[this,he];exact⟨none,0,0,none,0,0,rfl,Sl.nil,Sl.nil⟩
 intro b b1 b2;refine(Tn hp hg).Qp fun a1 n1 c1 H1 e1 _ hD=>⟨fun h=>bad (by rw[bw,pI h]) h,fun h=>(sF (hr.ext' e1)).bY fun H2 e2 _=>⟨fun h2=>bad (by rw[bw,nI h,pI h2]) h2,fun h2=>?_⟩⟩
 have h0:cT x=0:=zx.1 h;rw[pI h0] at hD;have hDl:=hD.len;have jy:cy x=[]↔n1=0:=by rw[←hDl];exact yp.symm
 have aP:∀ {X:lS} {H':Heap} {a n c ga gn gc},bw x r=0->bW x r=X->aL H' a n X.ap->aL H' ga gn X.ab.ap->∃a' n' c' sZ K0 xD,Value.tuple #[dL X a n c ga gn gc,.int .i64 0]= .tuple #[dL (dS x r) a' n' c' sZ K0 xD,i64 (bw x r)]/\aL H' a' n' (dS x r).ap/\aL H' sZ K0 (dS x r).ab.ap:=fun he hX p1 p2=>by
  have:dS x r=bW x r:=by rw[dS,pI he]
  rw[this,he,hX];exact⟨_,_,_,_,_,_,rfl,p1,p2⟩
 refine(BW ((hp.ext' e1).ext' e2) ((hg.ext' e1).ext' e2) h0).agt1 fun a3 n3 c3 ga3 gn3 gc3 H3 e3 _ p3 g3=>⟨fun k1=>⟨fun ht=>?_,fun ht=>?_⟩,fun k1=>?_⟩
 ·exact bad (by rw[bw,nI h,nI h2,pI k1,pI ht]) (by omega)
 ·have hr12:r.cB.ap.length<=12:=by
   have:bC r=0:=zx.1 h2;unfold bC at this;split at this
   ·omega
   ·split at this
    ·omega
    ·split at this
     ·omega
     ·rw[pI (.inl k1)] at this;exact(ey this).2.2
  have Gx:=hr.len;refine(kH (((hr.ext' e1).ext' e2).ext' e3) (by omega)).mono fun v H4 e4 hv=>?_;obtain⟨a5,n5,c5,rfl,hF⟩:=hv;exact⟨a5,n5,c5,rfl,fun _=>aP (X:=⟨x.ap,x.ck,r.au,true,r.cB,false⟩) (by rw[bw,nI h,nI h2,pI k1,nI ht]) (by rw[bW,pI k1]) (p3.ext' e4) hF.pins⟩
 have late:(x.going=false∨r.au≠x.au∨(r.ae=2/\cy x=[])∨(r.ae=3/\cy x≠[]))->(r.ae=2∨r.ae=3)->bw x r=7:=fun hl hk=>by
  rw[bw,nI h,nI h2,nI k1,nI (by omega),pI hl]
 have Pk:¬(x.going=false∨r.au≠x.au∨(r.ae=2/\cy x=[])∨(r.ae=3/\cy x≠[]))->(r.ae=2∨r.ae=3)->bw x r=0:=fun hl hk=>by
  rw[bw,nI h,nI h2,nI k1,nI (by omega),nI hl]
 have step:r.ae=2->bw x r=0->cy x≠[]->∃(b:Nat)(o:Nat),a1=some ⟨b,o,none⟩/\Int.ofNat 0<=0/\0<(n1:Int)/\∃(n n9 Mt:Int),(H3.cell b (o+0*3)=some (.int .i64 n)/\H3.cell b (o+0*3+1)=some (.int .i64 n9)/\H3.cell b (o+0*3+2)=some (.int .i64 Mt)/\True)/\
   Sp 204 [.slice a3 n3 c3,.agg #[.int .i64 n,.int .i64 n9,.int .i64 Mt]] H3 fun v H'=>∃(a:O)(n c:Nat)(EK:Int),v= .tuple #[.slice a n c,.int .i64 EK]/\(Vg.Next aa H3 H'->∃a' n' c' sZ K0 xD,Value.tuple #[.agg #[.slice a n c,.int .i64 x.ck,.int .i64 x.au,.bool x.going,.int .i64 x.ab.id,.slice ga3 gn3 gc3,.bool x.aP],.int .i64 EK]= .tuple #[dL (dS x r) a' n' c' sZ K0 xD,i64 (bw x r)]/\aL H' a' n' (dS x r).ap/\aL H' sZ K0 (dS x r).ab.ap):=fun hk he eE=>by
  obtain⟨o,q,hl⟩:=(BX x).resolve_left eE;rw[hl] at hD
  have FK:0<n1:=by
   rcases Nat.eq_zero_or_pos n1 with hz|hz
   ·exact absurd (jy.2 hz) eE
   ·exact hz
  refine hD.step (k:=0) (aH.trans e2 e3) (by omega) (by omega) fun o' Qn=>?_;obtain rfl:o=o':=by simpa using Qn
  have f1:=Di h0 hl;refine(UB p3 o.ae o.name o.fi).Qp fun a5 n5 c5 H5 e5 _ hA=>?_;have f1':bP x.ap ⟨o.ae,o.name,o.fi⟩=0:=f1;rw[pI f1'] at hA;rw[f1'];exact aP (X:=⟨bi x.ap o,x.ck,x.au,x.going,x.ab,x.aP⟩) he (by rw[bW,nI k1,pI hk,hl]) hA (g3.ext' e5)
 have done:r.ae=3->bw x r=0->∃a' n' c' sZ K0 xD,Value.tuple #[.agg #[.slice a3 n3 c3,.int .i64 x.ab.id,.int .i64 x.au,.bool false,.int .i64 0,.slice none 0 0,.bool r.aP],.int .i64 0]= .tuple #[dL (dS x r) a' n' c' sZ K0 xD,i64 (bw x r)]/\aL H3 a' n' (dS x r).ap/\aL H3 sZ K0 (dS x r).ab.ap:=fun hk he=>
  aP (X:=⟨x.ap,x.ab.id,x.au,false,⟨0,[]⟩,r.aP⟩) he (by rw[bW,nI k1,nI (by omega)]) p3 Sl.nil
 have leaf:∀ {b5:Bool},x.going≠false->r.au=x.au->(r.ae=2∨r.ae=3)->b5=(decide (0<(n1:Int)) !=decide (r.ae=2))->((x.going=false∨r.au≠x.au∨(r.ae=2/\cy x=[])∨(r.ae=3/\cy x≠[]))↔b5=true):=fun q1 q2 q3 q4=>by
  subst q4;simp only[ne_eq,jy];have q5:∀p q:Bool,((p !=q)=true)↔ ¬(p=true↔q=true):=by decide
  rw[q5];simp only[decide_eq_true_eq];constructor
  ·rintro(q|q|q|q)
   ·exact absurd q q1
   ·exact absurd q2 q
   ·omega
   ·omega
  ·intro q;by_cases hk:r.ae=2
   ·exact .inr (.inr (.inl ⟨hk,by omega⟩))
   ·exact .inr (.inr (.inr ⟨by omega,by omega⟩))
 refine⟨fun k2=>⟨fun _=>⟨_,⟨fun q=>⟨rfl,fun _ _ h=>h,.inl q⟩,fun q=>⟨fun q2=>⟨rfl,fun _ _ h=>h,.inr (.inl q2)⟩,fun q2=>⟨_,mV,rfl,fun _ _ h=>h,leaf q (zx.1 q2) (.inl k2) rfl⟩⟩⟩,fun hl=>bad (late hl (.inl k2)) (by omega),fun hl=>⟨fun _=>step k2 (Pk hl (.inl k2)) (fun hn=>hl (.inr (.inr (.inl ⟨k2,hn⟩)))),fun h'=>absurd k2 h'⟩⟩,fun h'=>absurd k2 h'⟩,fun k2=>⟨fun k3=>?_,fun k3=>?_⟩⟩
 ·refine⟨_,⟨fun q=>⟨rfl,fun _ _ h=>h,.inl q⟩,fun q=>⟨fun q2=>⟨rfl,fun _ _ h=>h,.inr (.inl q2)⟩,fun q2=>⟨_,mV,rfl,fun _ _ h=>h,leaf q (zx.1 q2) (.inr k3) rfl⟩⟩⟩,fun hl=>bad (late hl (.inr k3)) (by omega),fun hl=>⟨fun h'=>absurd h' k2,fun _=>?_⟩⟩;have hd:=done k3 (Pk hl (.inr k3));exact⟨hd,hd,hd,hd⟩
 ·exact bad (by rw[bw,nI h,nI h2,nI k1,pI ⟨k2,k3⟩]) (by omega)
theorem Zi{H:Heap}(e:Int):Sp 160 [.int .i64 e] H fun v H'=>∃a n c ga gn gc,v= .tuple #[dL tx a n c ga gn gc,i64 e]/\aL H' a n tx.ap/\aL H' ga gn tx.ab.ap:=by
 refine bh Tryz.func160 (fun _ _=>Zf) fun aa hb=>?_;intro b;exact⟨none,0,0,none,0,0,rfl,Sl.nil,Sl.nil⟩
theorem vx(hp:aL H a l x.ap)(hg:aL H ga gl x.ab.ap)(hr:aL H ra rl r.cB.ap):
  Sp 85 [dL x a l c ga gl gc,gU r ra rl rc] H fun v H'=>∃a n c ga gn gc,v= .tuple #[dL (dS x r) a n c ga gn gc,i64 (bw x r)]/\aL H' a n (dS x r).ap/\aL H' ga gn (dS x r).ab.ap:=by
 refine bh Tryz.func85 (fun _ _=>vc72) fun aa hb=>?_
 have bad:∀ {e:Int} {H':Heap},bw x r=e->e≠0->Sp 160 [.int .i64 e] H' fun v tV=>∃(a:O)(n c:Nat)(n2 n3:Int)(b:Bool)(n4:Int)(a2:O)(n5 c1:Nat)(b3:Bool)(n6:Int),v= .tuple #[.agg #[.slice a n c,.int .i64 n2,.int .i64 n3,.bool b,.int .i64 n4,.slice a2 n5 c1,.bool b3],.int .i64 n6]/\(Vg.Next aa H' tV->
   ∃a' n' c' sZ K0 xD,Value.tuple #[.agg #[.slice a n c,.int .i64 n2,.int .i64 n3,.bool b,.int .i64 n4,.slice a2 n5 c1,.bool b3],.int .i64 n6]= .tuple #[dL (dS x r) a' n' c' sZ K0 xD,i64 (bw x r)]/\aL tV a' n' (dS x r).ap/\aL tV sZ K0 (dS x r).ab.ap):=fun{e H'} he h0=>by
  have:dS x r=tx:=by rw[dS,nI (by omega)]
  rw[this,he];exact(Zi e).Q8 fun a n c ga gn gc tV _ _ p1 p2=>⟨_,_,_,_,_,_,rfl,p1,p2⟩
 intro b b1 b2;refine(EO hp hg).bY fun H1 e1 _=>⟨fun h=>bad (by rw[bw,pI h]) h,fun h=>(mR (hr.ext' e1)).bY fun H2 e2 _=>⟨fun h2=>bad (by rw[bw,nI h,pI h2]) h2,fun h2=>?_⟩⟩
 have h0:cT x=0:=zx.1 h;have p2:=(hp.ext' e1).ext' e2;have g2:=(hg.ext' e1).ext' e2;have r2:=(hr.ext' e1).ext' e2
 have aP:∀ {X:lS} {H':Heap} {a n c ga gn gc},bw x r=0->bW x r=X->aL H' a n X.ap->aL H' ga gn X.ab.ap->∃a' n' c' sZ K0 xD,Value.tuple #[dL X a n c ga gn gc,.int .i64 0]= .tuple #[dL (dS x r) a' n' c' sZ K0 xD,i64 (bw x r)]/\aL H' a' n' (dS x r).ap/\aL H' sZ K0 (dS x r).ab.ap:=fun he hX p1 p2=>by
  have:dS x r=bW x r:=by rw[dS,pI he]
  rw[this,he,hX];exact⟨_,_,_,_,_,_,rfl,p1,p2⟩
 have hkr:1<=r.ae:=by
  have:bC r=0:=zx.1 h2;unfold bC at this;split at this
  ·omega
  ·omega
 refine⟨fun k1=>⟨fun ht=>bad (by rw[bw,nI h,nI h2,pI k1,pI ht]) (by omega),fun ht=>?_⟩,fun k1=>⟨fun k3=>bad (by rw[bw,nI h,nI h2,nI k1,pI (by omega)]) (by omega),fun k3=>?_⟩⟩
 ·exact aP (X:=⟨x.ap,x.ck,r.au,true,r.cB,false⟩) (by rw[bw,nI h,nI h2,pI k1,nI ht]) (by rw[bW,pI k1]) p2 r2
 have hk:r.ae=2∨r.ae=3:=by omega
 have late:(x.going=false∨r.au≠x.au∨(r.ae=2/\cy x=[])∨(r.ae=3/\cy x≠[]))->bw x r=7:=fun hl=>by
  rw[bw,nI h,nI h2,nI k1,nI (by omega),pI hl]
 have Pk:¬(x.going=false∨r.au≠x.au∨(r.ae=2/\cy x=[])∨(r.ae=3/\cy x≠[]))->bw x r=0:=fun hl=>by
  rw[bw,nI h,nI h2,nI k1,nI (by omega),nI hl]
 refine⟨x.going=false∨x.au≠r.au,⟨fun q=>⟨rfl,fun _ _ h=>h,.inl q⟩,fun q=>⟨rfl,fun _ _ h=>h,⟨fun h=>h.resolve_left q,.inr⟩⟩⟩,fun q=>bad (late (by rcases q with q|q;exact .inl q;exact .inr (.inl (fun e=>q e.symm)))) (by omega),fun q=>?_⟩
 have vn:x.going=true:=by
  cases hx:x.going with
  |true=>rfl
  |false=>exact absurd (.inl hx) q
 have Ki:r.au=x.au:=by
  by_cases e:x.au=r.au
  ·exact e.symm
  ·exact absurd (.inr e) q
 have hz:eO x.ap x.ab.ap=0:=mQ.2 ⟨(gD h0).1,pe h0⟩;have tM:cy x=jz x.ap x.ab.ap:=by rw[cy,pI vn]
 refine(Ok p2 g2).Qp fun a4 n4 c4 H4 e4 _ hD=>?_;obtain⟨_,hD⟩:=hD;rw[pI hz,←tM] at hD;have hDl:=hD.len;have jy:cy x=[]↔n4=0:=by rw[←hDl];exact yp.symm
 refine⟨r.ae=2/\0<n4,⟨fun q=>⟨rfl,fun _ _ h=>h,by omega⟩,fun q=>⟨rfl,fun _ _ h=>h,by omega⟩⟩,fun q=>?_,fun q=>?_⟩
 ·obtain⟨o,s,hl⟩:=(BX x).resolve_left (by rw[jy];omega)
  have he:bw x r=0:=Pk (by
   rintro(w|w|w|w)
   ·rw[vn] at w;cases w
   ·exact w Ki
   ·rw[jy] at w;omega
   ·omega)
  rw[hl] at hD;refine hD.step (k:=0) (aH.refl _) (by omega) (by omega) fun o' Qn=>?_;obtain rfl:o=o':=by simpa using Qn
  have f1':bP x.ap ⟨o.ae,o.name,o.fi⟩=0:=Di h0 hl;refine(Om (p2.ext' e4) o.ae o.name o.fi).Qp fun a5 n5 c5 H5 e5 _ hA=>?_;rw[pI f1'] at hA;exact aP (X:=⟨bi x.ap o,x.ck,x.au,x.going,x.ab,x.aP⟩) he (by rw[bW,nI k1,pI q.1,hl]) hA ((g2.ext' e4).ext' e5)
 ·refine⟨r.ae=3/\n4=0,⟨fun q=>⟨rfl,fun _ _ h=>h,by omega⟩,fun q=>⟨rfl,fun _ _ h=>h,by omega⟩⟩,fun q2=>?_,fun q2=>bad (late ?_) (by omega)⟩
  ·have he:bw x r=0:=Pk (by
    rintro(w|w|w|w)
    ·rw[vn] at w;cases w
    ·exact w Ki
    ·omega
    ·have:=w.2;rw[ne_eq,jy] at this;omega)
   exact aP (X:=⟨x.ap,x.ab.id,x.au,false,⟨0,[]⟩,r.aP⟩) he (by rw[bW,nI k1,nI (by omega)]) (p2.ext' e4) Sl.nil
  ·by_cases k2:r.ae=2
   ·exact .inr (.inr (.inl ⟨k2,by rw[jy];omega⟩))
   ·exact .inr (.inr (.inr ⟨by omega,by rw[ne_eq,jy];omega⟩))
end
open Go Go.Proofs
theorem Ak{c:Nat}(hp:aL H a l f.ap)(hr:nV H a' l' rs):
  Sp 67 [.agg #[.int .i64 f.id,.slice a l c],.slice a' l' c'] H fun v H'=>∃a n c ga gn gc,v= .tuple #[dL (Gw (az f rs)) a n c ga gn gc,i64 (bN (az f rs))]/\aL H' a n (Gw (az f rs)).ap/\aL H' ga gn (Gw (az f rs)).ab.ap:=by
 refine bh Tryz.func67 (fun _ _=>vc63) fun aa hb=>?_;have Gx:=hr.len
 have bad:∀ {e:Int} {H':Heap},az f rs= .error e->∃a n c ga gn gc,Value.tuple #[.agg #[.slice none 0 0,.int .i64 0,.int .i64 0,.bool false,.int .i64 0,.slice none 0 0,.bool false],.int .i64 e]= .tuple #[dL (Gw (az f rs)) a n c ga gn gc,i64 (bN (az f rs))]/\aL H' a n (Gw (az f rs)).ap/\aL H' ga gn (Gw (az f rs)).ab.ap:=fun he=>by
  rw[he];exact⟨none,0,0,none,0,0,rfl,Sl.nil,Sl.nil⟩
 intro b b';refine(Zg hp).Q8 fun a1 n1 c1 Pl gn1 Pm H1 e1 _ p1 g1=>fun b2=>⟨fun h=>bad (by rw[az,pI h]),fun h=>⟨fun Jx=>bad (by rw[az,nI h,pI (by omega)]),fun Jx=>?_⟩⟩
 rw[pI (zx.1 h)] at p1 g1⊢;have hW:az f rs=cE (iF f) rs:=by rw[az,nI h,nI (by omega)]
 rw[hW] at bad⊢
 refine⟨fun vs Hc=>∃(y:lS)(a:O)(n c:Nat)(ga:O)(gn gc:Nat)(d e:Int)(w:Value)(k:Nat),vs=[i64 d,i64 e,i64 k,w,dL y a n c ga gn gc]/\aL Hc a n y.ap/\aL Hc ga gn y.ab.ap/\k<=l'/\cE y (rs.drop k)=cE (iF f) rs,aN l' 2,
  ⟨iF f,a1,n1,c1,Pl,gn1,Pm,0,_,_,0,rfl,p1,g1,by omega,rfl⟩,fun d e m a6 n8 c3 n9 Mt b0 EK a7 Rs c4 b3 a8 Rt c5 Fp Np b4 Nq a9 Qw c6 b5 H' hN hI=>?_⟩
 obtain⟨y,ya,yn,yc,yga,ygn,ygc,d',e',w,k,cv,hP,hG,hk,hI⟩:=hI;obtain⟨rfl,rfl,rfl,rfl,⟨rfl,rfl,rfl⟩,rfl,rfl,rfl,rfl,⟨rfl,rfl,rfl⟩,rfl⟩:d=d'/\e=e'/\m=(k:Int)/\Value.agg #[.slice a6 n8 c3,.int .i64 n9,.int .i64 Mt,.bool b0,.int .i64 EK,.slice a7 Rs c4,.bool b3]=w/\(a8=ya/\Rt=yn/\c5=yc)/\Fp=y.ck/\Np=y.au/\b4=y.going/\Nq=y.ab.id/\(a9=yga/\Qw=ygn/\c6=ygc)/\b5=y.aP:=by simpa using cv
 refine⟨fun bK=>hr.Q7 hN.ext (by omega) bK fun r ra rn rc hm hq=>fun b8=>?_,fun gj=>?_⟩
 ·rw[zz] at hm;rw[av hm,cE] at hI;refine(To hP hG (hq.ext' hN.ext)).Q8 fun a2 n2 c2 ga2 gn2 gc2 H2 e2 _ p2 g2=>⟨fun h=>?_,fun h=>?_⟩
  ·rw[nI h] at hI;exact bad hI.symm
  ·have h0:bw y r=0:=zx.1 h;rw[pI h0] at hI;have hV:dS y r=bW y r:=by rw[dS,pI h0]
   rw[hV] at p2 g2⊢;rintro q rfl;rw[aj];exact⟨rfl,⟨bW y r,a2,n2,c2,ga2,gn2,gc2,_,_,_,k+1,rfl,p2,g2,by omega,hI⟩,by simp[aN];omega⟩
 ·rw[aK Gx (by omega),cE] at hI;rw[←hI];exact⟨_,_,_,_,_,_,rfl,hP,hG⟩
theorem uB{c:Nat}(hp:aL H a l f.ap)(hr:nV H a' l' rs):
  Sp 25 [.agg #[.int .i64 f.id,.slice a l c],.slice a' l' c'] H fun v H'=>∃a n c ga gn gc,v= .tuple #[dL (Gw (az f rs)) a n c ga gn gc,i64 (bN (az f rs))]/\aL H' a n (Gw (az f rs)).ap/\aL H' ga gn (Gw (az f rs)).ab.ap:=by
 refine bh Tryz.func25 (fun _ _=>vc64) fun aa hb=>?_;have Gx:=hr.len
 have bad:∀ {e:Int} {H':Heap},az f rs= .error e->∃a n c ga gn gc,Value.tuple #[.agg #[.slice none 0 0,.int .i64 0,.int .i64 0,.bool false,.int .i64 0,.slice none 0 0,.bool false],.int .i64 e]= .tuple #[dL (Gw (az f rs)) a n c ga gn gc,i64 (bN (az f rs))]/\aL H' a n (Gw (az f rs)).ap/\aL H' ga gn (Gw (az f rs)).ab.ap:=fun he=>by
  rw[he];exact⟨none,0,0,none,0,0,rfl,Sl.nil,Sl.nil⟩
 intro b b';refine(mf hp f.id).bY fun H1 e1 _=>⟨fun h=>bad (by rw[az,pI h]),fun h=>⟨fun Jx=>bad (by rw[az,nI h,pI (by omega)]),fun Jx=>fun b3=>?_⟩⟩
 have hW:az f rs=cE (iF f) rs:=by rw[az,nI h,nI (by omega)]
 rw[hW] at bad⊢
 refine⟨fun vs Hc=>∃(y:lS)(a:O)(n c:Nat)(ga:O)(gn gc:Nat)(d:Int)(w:Value)(k:Nat),vs=[i64 d,i64 k,w,dL y a n c ga gn gc]/\aL Hc a n y.ap/\aL Hc ga gn y.ab.ap/\k<=l'/\cE y (rs.drop k)=cE (iF f) rs,aN l' 1,
  ⟨iF f,a,l,c,none,0,0,0,_,0,rfl,hp.ext' e1,Sl.nil,by omega,rfl⟩,fun d m a6 n8 c3 n9 Mt b0 EK a7 Rs c4 b3 a8 Rt c5 Fp Np b4 Nq a9 Qw c6 b5 H' hN hI=>?_⟩
 obtain⟨y,ya,yn,yc,yga,ygn,ygc,d',w,k,cv,hP,hG,hk,hI⟩:=hI;obtain⟨rfl,rfl,rfl,⟨rfl,rfl,rfl⟩,rfl,rfl,rfl,rfl,⟨rfl,rfl,rfl⟩,rfl⟩:d=d'/\m=(k:Int)/\Value.agg #[.slice a6 n8 c3,.int .i64 n9,.int .i64 Mt,.bool b0,.int .i64 EK,.slice a7 Rs c4,.bool b3]=w/\(a8=ya/\Rt=yn/\c5=yc)/\Fp=y.ck/\Np=y.au/\b4=y.going/\Nq=y.ab.id/\(a9=yga/\Qw=ygn/\c6=ygc)/\b5=y.aP:=by simpa using cv
 refine⟨fun bK=>hr.Q7 hN.ext (by omega) bK fun r ra rn rc hm hq=>fun b8=>?_,fun gj=>?_⟩
 ·rw[zz] at hm;rw[av hm,cE] at hI;refine(vx hP hG (hq.ext' hN.ext)).Q8 fun a2 n2 c2 ga2 gn2 gc2 H2 e2 _ p2 g2=>fun b9=>⟨fun h=>?_,fun h=>?_⟩
  ·rw[nI h] at hI;exact bad hI.symm
  ·have h0:bw y r=0:=zx.1 h;rw[pI h0] at hI;have hV:dS y r=bW y r:=by rw[dS,pI h0]
   rw[hV] at p2 g2⊢;rintro q rfl;rw[aj];exact⟨rfl,⟨bW y r,a2,n2,c2,ga2,gn2,gc2,_,_,k+1,rfl,p2,g2,by omega,hI⟩,by simp[aN];omega⟩
 ·rw[aK Gx (by omega),cE] at hI;rw[←hI];exact⟨_,_,_,_,_,_,rfl,hP,hG⟩
theorem Jz{α:Type}{R:jq α}{g:Nat}{ty:TypeId}{rs:List (List Value)}{xs:List α}(h:H g=some (ay ty rs.flatten))(hw:∀r∈rs,r.length=sz)(ha:dY R H rs xs)(hn:rs.length=n)(hle:(n:Int)<=9223372036854775807):Sl R sz H (some ⟨g,0,none⟩) n xs:=
 Sl.oz (rows:=rs) (Has.ub h rfl hw hn hle) ha.len fun i r x hr hx=>ha.get hr hx
def f1:kU:=⟨1,[⟨1,1⟩]⟩
def f2:kU:=⟨2,[⟨2,1⟩]⟩
def g5:lS:=⟨[],1,3,true,f2,false⟩
def g7:lS:=⟨[⟨2,1⟩],2,3,false,⟨0,[]⟩,true⟩
open Go Go.Proofs
structure NA where
 xa:O
 xl:Nat
 xc:Nat
 ga:O
 gl:Nat
 gc:Nat
 ua:O
 ul:Nat
 uc:Nat
 va:O
 vl:Nat
 vc:Nat
abbrev bR(x:ke)(q:NA):List Value:=[.slice q.xa q.xl q.xc,.int .i64 x.a.ck,.int .i64 x.a.au,.bool x.a.going,.int .i64 x.a.ab.id,.slice q.ga q.gl q.gc,.bool x.a.aP,.slice q.ua q.ul q.uc,.slice q.va q.vl q.vc,.bool x.up]
structure kP(H:Heap)(x:ke)(q:NA):Prop where
 ap:aL H q.xa q.xl x.a.ap
 ab:aL H q.ga q.gl x.a.ab.ap
 iD:cr H x.d q.ua q.ul q.uc q.va q.vl q.vc
theorem kP.ext{x:ke}{q:NA}(h:kP H x q)(e:aH H H'):kP H' x q:=⟨h.ap.ext' e,h.ab.ext' e,h.iD.ext e⟩
def dW:jq ke:=fun H r x=>∃q,r=bR x q/\kP H x q
theorem dW.mono:dW.oW:=fun H H' r x e ⟨q,h1,h2⟩=>⟨q,h1,h2.ext e⟩
abbrev BZ(H:Heap)(a:O)(n:Nat)(l:List ke):Prop:=Sl dW 10 H a n l
structure WA where
 fa:O
 fl:Nat
 fc:Nat
 ra:O
 rl:Nat
 rc:Nat
 wa:O
 wl:Nat
 wc:Nat
 la:O
 ll:Nat
 lc:Nat
 ka:O
 kl:Nat
 kc:Nat
 sa:O
 sl:Nat
 sc:Nat
 ta:O
 tl:Nat
 tc:Nat
 na:O
 nl:Nat
 nc:Nat
 ma:O
 ml:Nat
 mc:Nat
abbrev aQ(w:cY)(p:WA):List Value:=[.int .i64 w.c.first.id,.slice p.fa p.fl p.fc,.slice p.ra p.rl p.rc,.slice p.wa p.wl p.wc,.int .i64 w.c.aS,.slice p.la p.ll p.lc,.int .i64 w.h.l.aU,.int .i64 w.h.l.ab,.bool w.h.l.ac,.slice p.ka p.kl p.kc,.int .i64 w.h.l.nx,.slice p.sa p.sl p.sc,.slice p.ta p.tl p.tc,.bool w.h.up,.slice p.na p.nl p.nc,.slice p.ma p.ml p.mc]
abbrev cO(w:cY)(p:WA):Value:= .agg #[.int .i64 w.c.first.id,.slice p.fa p.fl p.fc,.slice p.ra p.rl p.rc,.slice p.wa p.wl p.wc,.int .i64 w.c.aS,.slice p.la p.ll p.lc,.int .i64 w.h.l.aU,.int .i64 w.h.l.ab,.bool w.h.l.ac,.slice p.ka p.kl p.kc,.int .i64 w.h.l.nx,.slice p.sa p.sl p.sc,.slice p.ta p.tl p.tc,.bool w.h.up,.slice p.na p.nl p.nc,.slice p.ma p.ml p.mc]
abbrev B0(x:ke)(q:NA):Value:= .agg #[.slice q.xa q.xl q.xc,.int .i64 x.a.ck,.int .i64 x.a.au,.bool x.a.going,.int .i64 x.a.ab.id,.slice q.ga q.gl q.gc,.bool x.a.aP,.slice q.ua q.ul q.uc,.slice q.va q.vl q.vc,.bool x.up]
structure bB(H:Heap)(w:cY)(p:WA):Prop where
 iw:fB H w.c p.fa p.fl p.ra p.rl p.wa p.wl
 ji:cQ H w.h.l p.la p.ll p.ka p.kl
 iD:cr H w.h.d p.sa p.sl p.sc p.ta p.tl p.tc
 dH:BZ H p.na p.nl w.n
 cZ:iN H p.ma p.ml w.m
theorem bB.ext{w:cY}{p:WA}(h:bB H w p)(e:aH H H'):bB H' w p:=⟨h.iw.ext e,h.ji.ext e,h.iD.ext e,h.dH.ext dW.mono e,Sl.ext cK.mono h.cZ e⟩
theorem Sl.node{xs:List ke}(h:BZ H a n xs)(e:aH H H'){k:Int}(h0:0<=k)(h1:k<n)
  {F:O->Nat->Nat->Int->Int->Bool->Int->O->Nat->Nat->Bool->O->Nat->Nat->O->Nat->Nat->Bool->Prop}
  (hF:∀x q,xs[k.toNat]?=some x->kP H x q->F q.xa q.xl q.xc x.a.ck x.a.au x.a.going x.a.ab.id q.ga q.gl q.gc x.a.aP q.ua q.ul q.uc q.va q.vl q.vc x.up):
  ∃(b o:Nat),a=some ⟨b,o,none⟩/\0<=k/\k<n/\∃(a:O)(n2 c:Nat)(n3 n4:Int)(b2:Bool)(n5:Int)(a1:O)(n6 c1:Nat)(b3:Bool)(a2:O)(n7 c2:Nat)(a3:O)(n8 c3:Nat)(b4:Bool),
   (H'.cell b (o+k.toNat*10)=some (.slice a n2 c)/\H'.cell b (o+k.toNat*10+1)=some (.int .i64 n3)/\H'.cell b (o+k.toNat*10+2)=some (.int .i64 n4)/\H'.cell b (o+k.toNat*10+3)=some (.bool b2)/\H'.cell b (o+k.toNat*10+4)=some (.int .i64 n5)/\H'.cell b (o+k.toNat*10+5)=some (.slice a1 n6 c1)/\H'.cell b (o+k.toNat*10+6)=some (.bool b3)/\H'.cell b (o+k.toNat*10+7)=some (.slice a2 n7 c2)/\H'.cell b (o+k.toNat*10+8)=some (.slice a3 n8 c3)/\H'.cell b (o+k.toNat*10+9)=some (.bool b4)/\True)/\F a n2 c n3 n4 b2 n5 a1 n6 c1 b3 a2 n7 c2 a3 n8 c3 b4:=by
 obtain⟨b,o,r,x,ha,hx,hr,hc⟩:=h.get h0 h1;obtain⟨q,rfl,hq⟩:=hr;have g:∀j v,(bR x q)[j]?=some v->H'.cell b (o+k.toNat*10+j)=some v:=fun j v hj=>Heap.aJ e (hc j v hj);exact⟨b,o,ha,h0,h1,_,_,_,_,_,_,_,_,_,_,_,_,_,_,_,_,_,_,⟨g 0 _ rfl,g 1 _ rfl,g 2 _ rfl,g 3 _ rfl,g 4 _ rfl,g 5 _ rfl,g 6 _ rfl,g 7 _ rfl,g 8 _ rfl,g 9 _ rfl,trivial⟩,hF x q hx hq⟩
def jC(d:pj)(up:Bool):Int:=if bj d≠0 then bj d else if up=true/\d.wait≠[] then 4 else 0
theorem jD{up:Bool} :vt d up=if jC d up≠0 then .error (jC d up) else .ok (if up=true then aX d else []):=by
 unfold vt jC;by_cases h:bj d≠0
 ·rw[pI h,pI h,pI h]
 ·rw[nI h,nI h];by_cases h2:up=true/\d.wait≠[]
  ·rw[pI h2,pI h2,pI (by omega)]
  ·rw[nI h2,nI h2,nI (show¬(0:Int)≠0 by simp)]
section
variable {H : Heap} (hL : Lb H)
include hL
theorem Zj{sl:Nat}(hd:cr H d sa sl sc ta tl tc)(up:Bool):Sp 189 [eB sa sl sc ta tl tc,.bool up] H fun v H'=>∃a n c,v= .tuple #[.slice a n c,i64 (jC d up)]/\nV H' a n (if jC d up=0 then aX d else []):=by
 refine bh Tryz.func189 (fun _ _=>YG) fun aa hb=>fun b=>?_;refine(BI hL hd).mono fun v H1 e1 hv=>?_;obtain⟨a1,n1,c1,a2,n2,c2,a3,n3,c3,G,rows,hv,hD,hS⟩:=hv;refine⟨_,_,_,_,_,_,_,_,_,_,hv,fun fh=>fun b1=>?_⟩;have hw:=hd.wait.len;have hR:=hS.sl kI.mono (by omega) fh;have Cp:d.wait≠[]↔0<tl:=by rw[←hw,List.length_pos_iff]
 refine⟨bj d=0/\up=true/\0<tl,⟨fun h0=>⟨fun hu=>⟨rfl,dD,⟨fun h=>by have:=h.2.2;omega,fun h=>⟨h0,hu,by omega⟩⟩⟩,fun hu=>⟨rfl,dD,fun h=>by have:=h.2.1;rw[hu] at this;cases this⟩⟩,fun h0=>⟨rfl,dD,fun h=>h0 h.1⟩⟩,fun h=>?_,fun h=>?_⟩
 ·have e:jC d up=4:=by unfold jC;rw[nI (by omega),pI ⟨h.2.1,Cp.2 h.2.2⟩]
  rw[e];exact⟨none,0,0,rfl,Sl.nil⟩
 ·have e:jC d up=bj d:=by
   unfold jC;by_cases h0:bj d=0
   ·rw[nI (by omega),nI (fun h2=>h ⟨h0,h2.1,Cp.1 h2.2⟩),h0]
   ·rw[pI h0]
  rw[e];exact⟨_,_,_,rfl,hR⟩
theorem Hm{sl:Nat}(hd:cr H d sa sl sc ta tl tc)(up:Bool):Sp 70 [eB sa sl sc ta tl tc,.bool up] H fun v H'=>∃a n c,v= .tuple #[.slice a n c,i64 (jC d up)]/\nV H' a n (if jC d up=0 then(if up=true then aX d else []) else []):=by
 refine bh Tryz.func70 (fun _ _=>vx70) fun aa hb=>fun b=>?_;have hw:=hd.wait.len;have Cp:d.wait≠[]↔0<tl:=by rw[←hw,List.length_pos_iff]
 refine(tF hL hd).bY fun H1 e1 fh=>⟨fun h=>?_,fun h=>?_⟩
 ·have e:jC d up=bj d:=by unfold jC;rw[pI h]
  rw[e,nI h];exact⟨none,0,0,rfl,Sl.nil⟩
 have h:=zx.1 h;refine⟨fun hu=>?_,fun hu=>⟨fun ht=>?_,fun ht=>?_⟩⟩
 ·have e:jC d up=0:=by unfold jC;rw[nI (by omega),nI (fun h2=>by rw[hu] at h2;cases h2.1)]
  rw[e,pI rfl,nI (by rw[hu];simp)];exact⟨none,0,0,rfl,Sl.nil⟩
 ·have hu:up=true:=by simpa using hu
  have e:jC d up=4:=by unfold jC;rw[nI (by omega),pI ⟨hu,Cp.2 (by omega)⟩]
  rw[e];exact⟨none,0,0,rfl,Sl.nil⟩
 ·have hu:up=true:=by simpa using hu
  have e:jC d up=0:=by unfold jC;rw[nI (by omega),nI (fun h2=>by have:=Cp.1 h2.2;omega)]
  refine(ux (hL.ext e1) (hd.ext e1) h).mono fun v H2 e2 hv=>?_;obtain⟨a1,n1,c1,a2,n2,c2,a3,n3,c3,hv,hD,_,hR⟩:=hv;refine⟨_,_,_,_,_,_,_,_,_,hv,fun dZ=>fun b2=>?_⟩;rw[e,pI rfl,pI hu];exact⟨_,_,_,rfl,hR⟩
theorem JA{w:cY}{p:WA}(hw:bB H w p):Sp 105 [cO w p] H fun v _=>v=i64 (gY w.c w.h):=by
 refine bh Tryz.func105 (fun _ _=>YH) fun aa hb=>fun b=>?_;refine(Zj hL hw.iD w.h.up).Qp fun a n c H1 e1 fh hR=>⟨fun h=>?_,fun h=>?_⟩
 ·unfold gY;rw[jD,pI h]
 have h:=zx.1 h;rw[pI h] at hR
 have Tp:∀ {H2:Heap} {Ow:List Bx} {la:O} {ll lc:Nat} {ka:O} {kl kc:Nat} (e2:aH H1 H2)(l:List bD),l=(if w.h.up=true then aX w.h.d else [])->cQ H2 (yC (aB w.c l)) la ll ka kl->
   ∃(φ:Prop),((bN (aB w.c l)=0->Sp 36 [dd (yC (aB w.c l)) la ll lc ka kl kc,dd w.h.l p.la p.ll p.lc p.ka p.kl p.kc] H2 fun v H'=>∃b3:Bool,v= .bool b3/\(Next aa H2 H'->Ow=Ow/\ak H2 H'/\(φ↔b3=false)))/\(¬bN (aB w.c l)=0->Ow=Ow/\ak H2 H2/\¬φ))/\(φ->i64 4=i64 (gY w.c w.h))/\(¬φ->i64 (bN (aB w.c l))=i64 (gY w.c w.h)):=by
  intro H2 Ow la ll lc ka kl kc e2 l hl K3;refine⟨bN (aB w.c l)=0/\yC (aB w.c l)≠w.h.l,⟨fun h0=>(GP K3 ((hw.ji.ext e1).ext e2)).aO fun H3 e3 _=>⟨rfl,e3,?_⟩,fun h0=>⟨rfl,dD,fun h=>h0 h.1⟩⟩,fun fT=>?_,fun fT=>?_⟩
  ·rw[decide_eq_false_iff_not];exact⟨fun h=>h.2,fun h=>⟨h0,h⟩⟩
  ·have hE:gY w.c w.h=4:=by
    unfold gY;rw[jD,nI (by omega),←hl];dsimp only
    cases hr:aB w.c l with
    |error e=>rw[hr] at fT;exact absurd fT.1 (fY hr)
    |ok x=>rw[hr] at fT;exact nI fT.2
   rw[hE]
  ·have hE:gY w.c w.h=bN (aB w.c l):=by
    unfold gY;rw[jD,nI (by omega),←hl];dsimp only
    cases hr:aB w.c l with
    |error e=>rfl
    |ok x=>rw[hr] at fT;exact pI (zC fun hn=>fT ⟨rfl,hn⟩)
   rw[hE]
 refine⟨fun hu=>?_,fun hu=>?_⟩
 ·refine(vr (rs:=[]) (hw.iw.ext e1) Sl.nil).ji fun la ll lc ka kl kc H2 e2 dZ K3=>fun b2=>?_;exact Tp e2 [] (by rw[hu];rfl) K3
 ·refine(vr (hw.iw.ext e1) hR).ji fun la ll lc ka kl kc H2 e2 dZ K3=>fun b2=>?_;exact Tp e2 _ (by rw[pI (by simpa using hu)]) K3
theorem JB{w:cY}{p:WA}(hw:bB H w p){x:ke}{q:NA}(hx:kP H x q):Sp 106 [cO w p,B0 x q] H fun v _=>v=i64 (iv w.c.first x):=by
 refine bh Tryz.func106 (fun _ _=>YI) fun aa hb=>fun b b'=>?_;refine(Zj hL hx.iD x.up).Qp fun a n c H1 e1 fh hR=>⟨fun h=>?_,fun h=>?_⟩
 ·unfold iv;rw[jD,pI h]
 have h:=zx.1 h;rw[pI h] at hR
 have Tq:∀ {H2:Heap} {Ow:List Bx} {ya:O} {yl yc:Nat} {za:O} {zl zc:Nat} (e2:aH H1 H2)(l:List bD),l=(if x.up=true then aX x.d else [])->aL H2 ya yl (Gw (az w.c.first l)).ap->aL H2 za zl (Gw (az w.c.first l)).ab.ap->
   ∃(φ:Prop),((bN (az w.c.first l)=0->Sp 38 [dL (Gw (az w.c.first l)) ya yl yc za zl zc,dL x.a q.xa q.xl q.xc q.ga q.gl q.gc] H2 fun v H'=>∃b3:Bool,v= .bool b3/\(Next aa H2 H'->Ow=Ow/\ak H2 H'/\(φ↔b3=false)))/\(¬bN (az w.c.first l)=0->Ow=Ow/\ak H2 H2/\¬φ))/\(φ->i64 4=i64 (iv w.c.first x))/\(¬φ->i64 (bN (az w.c.first l))=i64 (iv w.c.first x)):=by
  intro H2 Ow ya yl yc za zl zc e2 l hl hA hB;refine⟨bN (az w.c.first l)=0/\Gw (az w.c.first l)≠x.a,⟨fun h0=>(Hk hA hB ((hx.ap.ext' e1).ext' e2) ((hx.ab.ext' e1).ext' e2)).aO fun H3 e3 _=>⟨rfl,e3,?_⟩,fun h0=>⟨rfl,dD,fun h=>h0 h.1⟩⟩,fun fT=>?_,fun fT=>?_⟩
  ·rw[decide_eq_false_iff_not];exact⟨fun h=>h.2,fun h=>⟨h0,h⟩⟩
  ·have hE:iv w.c.first x=4:=by
    unfold iv;rw[jD,nI (by omega),←hl];dsimp only
    cases hr:az w.c.first l with
    |error e=>rw[hr] at fT;exact absurd fT.1 (fZ hr)
    |ok x=>rw[hr] at fT;exact nI fT.2
   rw[hE]
  ·have hE:iv w.c.first x=bN (az w.c.first l):=by
    unfold iv;rw[jD,nI (by omega),←hl];dsimp only
    cases hr:az w.c.first l with
    |error e=>rfl
    |ok x=>rw[hr] at fT;exact pI (zC fun hn=>fT ⟨rfl,hn⟩)
   rw[hE]
 refine⟨fun hu=>?_,fun hu=>?_⟩
 ·refine(Ak (rs:=[]) (hw.iw.pins.ext' e1) Sl.nil).Q8 fun ya yl yc za zl zc H2 e2 dZ hA hB=>fun b2=>?_;exact Tq e2 [] (by rw[hu];rfl) hA hB
 ·refine(Ak (hw.iw.pins.ext' e1) hR).Q8 fun ya yl yc za zl zc H2 e2 dZ hA hB=>fun b2=>?_;exact Tq e2 _ (by rw[pI (by simpa using hu)]) hA hB
end
open Go Go.Proofs
theorem xG{w:cY}(h1:de w.c=0)(h2:(w.n.length:Int)=bo w.c.bf)(h3:bu w.m=0)(h4:kO w.n.length w.m=false):fp w=if gY w.c w.h≠0 then gY w.c w.h else iQ w.c.first w.n:=by
 unfold fp;rw[nI (by omega),nI (by omega),nI (by omega),nI (by rw[h4];simp)]
def tN(f:df->Bool):Int->List df->Int
 |_,[]=> -1
 |i,x::r=>if f x=true then i else tN f (i+1) r
theorem Dj(f:df->Bool):∀(l:List df)(i:Int),0<=i->(0<=tN f i l↔l.any f=true)
 | [],i,_=>by simp[tN]
 |x::r,i,h=>by
  unfold tN;split
  ·rename_i e;simp[h,e]
  ·rename_i e;rw[Dj f r (i+1) (by omega)];simp[e]
theorem Zk(hp:H.cell p 14=some (.slice na nn nc))(m:df)(a:O)(l c:Nat):Sp 104 [od m a l c,.pointer (some ⟨p,0,none⟩)] H fun v _=>v= .bool (decide ((nn:Int)<=m.ah)):=by
 refine bh Tryz.func104 (fun _ _=>YL) fun aa hb=>fun b=>⟨_,_,_,hp,?_⟩
 rfl
theorem cFar{c:Nat}{ms:List df}(hx:iN H a l ms)(hp:H.cell p 14=some (.slice na nn nc)):Sp 103 [.slice a l c,.func (.func 104) #[] #[.pointer (some ⟨p,0,none⟩)]] H fun r _=>r= .bool (kO nn ms):=by
 have h188:Sp 188 [.slice a l c,.func (.func 104) #[] #[.pointer (some ⟨p,0,none⟩)]] H fun r _=>r=i64 (tN (fun m=>decide ((nn:Int)<=m.ah)) 0 ms):=by
  refine bh Tryz.func188 (fun _ _=>YJ) fun aa hb=>?_;have hle:=hx.le;refine⟨fun vs _=>∃(d:Int)(k:Nat),vs=[i64 d,i64 k]/\k<=l/\tN (fun m=>decide ((nn:Int)<=m.ah)) k (ms.drop k)=tN (fun m=>decide ((nn:Int)<=m.ah)) 0 ms,aN l 1,⟨0,0,rfl,by omega,rfl⟩,fun d n H' hN hI=>?_⟩;obtain⟨d',k,cv,hk,hI⟩:=hI;obtain⟨rfl,rfl⟩:d=d'/\n=(k:Int):=by simpa using cv
  refine⟨fun bK=>hx.cZ hN.ext (by omega) bK fun y ya yn yc hy hyp=>(Zk (Heap.aJ hN.ext hp) y ya yn yc).aO fun H2 e2 _=>⟨fun he=>?_,fun he=>?_⟩,fun gj=>?_⟩
  ·rw[zz] at hy;rw[av hy,tN,pI he] at hI;rw[hI]
  ·rw[zz] at hy;rw[av hy,tN,nI (by rw[he];simp)] at hI;rintro r rfl;rw[aj];exact⟨⟨d,k+1,rfl,by omega,hI⟩,by simp[aN];omega⟩
  ·rw[aK hx.len (by omega),tN] at hI;rw[hI]
 refine bh Tryz.func103 (fun aa K=>YK a l c p aa H K) fun aa hb=>?_;refine h188.bY fun H' _ _=>?_;have:=Dj (fun m=>decide ((nn:Int)<=m.ah)) ms 0 (by omega);unfold kO
 congr 1
 cases DY:ms.any (fun m=>decide ((nn:Int)<=m.ah))
 ·rw[decide_eq_false (by rw[this,DY];simp)]
 ·rw[decide_eq_true (this.2 DY)]
theorem oF{c:dM}(h:de c=0):gW c.bf=bo c.bf:=(ic (dv h).2.2.2.2.2.2).1
section
variable {H : Heap} (hL : Lb H)
include hL
theorem EP{w:cY}{p:WA}(hw:bB H w p):Sp 31 [cO w p] H fun v _=>v=i64 (fp w):=by
 refine bh Tryz.func31 (fun _ _=>vx31) fun aa hb=>fun b=>?_;have Ah:=hw.dH.len;have hle:=hw.dH.le;refine(EH hw.iw).bY fun H1 e1 fh=>⟨fun h1=>?_,fun h1=>?_⟩
 ·rw[fp,pI h1]
 have h1:=zx.1 h1;refine(p9 (hw.iw.ext e1)).bY fun H2 e2 dZ=>⟨fun h2=>?_,fun h2=>?_⟩
 ·rw[fp,nI (by omega),pI (by omega)]
 have h2:=zx.1 h2;refine(sD (Sl.ext cK.mono hw.cZ (aH.trans e1 e2))).bY fun H3 e3 fS=>⟨fun h3=>?_,fun h3=>?_⟩
 ·rw[fp,nI (by omega),nI (by omega),pI h3]
 have h3:=zx.1 h3;have Yz:=aH.trans (aH.trans e1 e2) e3;refine⟨rfl,fun Hl Ig se=>?_⟩;refine(cFar (p:=b) (na:=p.na) (nn:=p.nl) (nc:=p.nc) (Sl.ext cK.mono hw.cZ (aH.trans Yz Ig.ext)) (by unfold Heap.cell;rw[se.1];rfl)).mono fun v H4 e4 hv=>?_;refine⟨_,hv,fun H5 kT _=>⟨fun h4=>?_,fun h4=>?_⟩⟩
 ·rw[fp,nI (by omega),nI (by omega),nI (by omega),pI (by rw[Ah];exact h4)]
 have e15:=aH.trans Yz kT.ext;have hT:=xG h1 (by omega) h3 (by rw[Ah];exact h4);refine(JA (hL.ext e15) (hw.ext e15)).bY fun H6 e6 Fo=>⟨fun h5=>?_,fun h5=>?_⟩
 ·rw[hT,pI h5]
 rw[nI h5] at hT;refine⟨fun vs _=>∃(d:Int)(k:Nat),vs=[i64 d,i64 k]/\k<=p.nl/\iQ w.c.first (w.n.drop k)=iQ w.c.first w.n,aN p.nl 1,⟨0,0,rfl,by omega,rfl⟩,fun d n H7 Mx hI=>?_⟩;obtain⟨d',k,cv,hk,hI⟩:=hI;obtain⟨rfl,rfl⟩:d=d'/\n=(k:Int):=by simpa using cv
 refine⟨fun bK=>hw.dH.node Mx.ext (by omega) bK fun x q hx hq=>fun b3=>?_,fun gj=>?_⟩
 ·rw[zz] at hx;rw[av hx,iQ] at hI;refine(JB (hL.ext Mx.ext) (hw.ext Mx.ext) (hq.ext Mx.ext)).bY fun H8 e8 _=>⟨fun h6=>?_,fun h6=>?_⟩
  ·rw[hT,←hI,pI h6]
  ·rw[nI h6] at hI;rintro r rfl;rw[aj];exact⟨rfl,⟨d,k+1,rfl,by omega,hI⟩,by simp[aN];omega⟩
 ·rw[hT,←hI,aK Ah (by omega),iQ]
theorem xH{w:cY}{p:WA}(hw:bB H w p):Sp 19 [cO w p] H fun v _=>v=i64 (fp w):=by
 refine bh Tryz.func19 (fun _ _=>vx19) fun aa hb=>fun b=>?_;have Ah:=hw.dH.len;have hle:=hw.dH.le;have Oo:=hw.cZ.len;have hmle:=hw.cZ.le;refine(qb hw.iw).bY fun H1 e1 fh=>⟨fun h1=>?_,fun h1=>?_⟩
 ·rw[fp,pI h1]
 have h1:=zx.1 h1;refine(jQ (hw.iw.ext e1)).bY fun H2 e2 dZ=>⟨fun h2=>?_,fun h2=>?_⟩
 ·rw[oF h1] at h2;rw[fp,nI (by omega),pI (by omega)]
 have h2:=zx.1 h2;rw[oF h1] at h2;refine(On (Sl.ext cK.mono hw.cZ (aH.trans e1 e2))).bY fun H3 e3 fS=>⟨fun h3=>?_,fun h3=>?_⟩
 ·rw[fp,nI (by omega),nI (by omega),pI h3]
 have h3:=zx.1 h3;refine⟨fun vs _=>∃(d:Int)(k:Nat),vs=[i64 d,i64 k]/\k<=p.ml/\kO p.nl (w.m.drop k)=kO p.nl w.m,aN p.ml 1,⟨0,0,rfl,by omega,rfl⟩,fun d n H4 iC hI=>?_⟩;obtain⟨d',k,cv,hk,hI⟩:=hI;obtain⟨rfl,rfl⟩:d=d'/\n=(k:Int):=by simpa using cv
 refine⟨fun bK=>hw.cZ.cZ iC.ext (by omega) bK fun y ya yn yc hy hyp=>fun b3=>⟨fun h4=>?_,fun h4=>?_⟩,fun gj=>?_⟩
 ·rw[zz] at hy;rw[av hy] at hI;rw[fp,nI (by omega),nI (by omega),nI (by omega),pI (by rw[Ah,←hI];simp[kO,h4])]
 ·rw[zz] at hy;rw[av hy] at hI;rintro r rfl;rw[aj];exact⟨rfl,⟨d,k+1,rfl,by omega,by rw[←hI];simp[kO,h4]⟩,by simp[aN];omega⟩
 have h4:kO p.nl w.m=false:=by rw[←hI,aK Oo (by omega)];rfl
 have hT:=xG h1 (by omega) h3 (by rw[Ah];exact h4);refine(Hm (hL.ext iC.ext) (hw.iD.ext iC.ext) w.h.up).Qp fun a n c H5 e5 kT hR=>⟨fun h5=>?_,fun h5=>?_⟩
 ·have:gY w.c w.h=jC w.h.d w.h.up:=by unfold gY;rw[jD,pI h5]
  rw[hT,this,pI h5]
 have h5:=zx.1 h5;rw[pI h5] at hR;have UG:=aH.trans iC.ext e5;refine(rL (hw.iw.ext UG) hR).ji fun la ll lc ka kl kc H6 e6 Fo K3=>fun b2=>?_
 have hH:gY w.c w.h=if bN (aB w.c (if w.h.up=true then aX w.h.d else []))≠0 then bN (aB w.c (if w.h.up=true then aX w.h.d else [])) else if yC (aB w.c (if w.h.up=true then aX w.h.d else []))=w.h.l then 0 else 4:=by
  unfold gY;rw[jD,nI (by omega)];dsimp only
  cases hr:aB w.c (if w.h.up=true then aX w.h.d else []) with
  |error e=>rw[pI (show bN (Except.error e)≠0 from fY hr)];rfl
  |ok x=>rfl
 refine⟨fun h6=>?_,fun h6=>?_⟩
 ·rw[pI h6] at hH;rw[hT,hH,pI h6]
 rw[nI h6] at hH;have e46:=aH.trans UG e6;refine(xB K3 (hw.ji.ext e46)).aO fun H7 e7 Mx=>⟨fun h7=>?_,fun h7=>?_⟩
 ·rw[nI (of_decide_eq_false h7)] at hH;rw[hT,hH,pI (by omega)]
 rw[pI (by simpa using h7)] at hH;rw[hH,nI (by omega)] at hT;refine⟨fun vs _=>∃(d:Int)(k:Nat),vs=[i64 d,i64 k]/\k<=p.nl/\iQ w.c.first (w.n.drop k)=iQ w.c.first w.n,aN p.nl 1,⟨_,0,rfl,by omega,rfl⟩,fun d n H8 Tr hI=>?_⟩;obtain⟨d',k,cv,hk,hI⟩:=hI;obtain⟨rfl,rfl⟩:d=d'/\n=(k:Int):=by simpa using cv
 refine⟨fun bK=>hw.dH.node Tr.ext (by omega) bK fun x q hx hq=>fun b3=>?_,fun gj=>?_⟩
 ·rw[zz] at hx;rw[av hx,iQ] at hI;refine(Hm (hL.ext Tr.ext) (hq.iD.ext Tr.ext) x.up).Qp fun a9 n9 c9 H9 e9 hN9 hR9=>⟨fun h9=>?_,fun h9=>?_⟩
  ·have:iv w.c.first x=jC x.d x.up:=by unfold iv;rw[jD,pI h9]
   rw[this,pI h9] at hI;rw[hT,←hI]
  have h9:=zx.1 h9;rw[pI h9] at hR9;have e89:=aH.trans Tr.ext e9
  have hH:iv w.c.first x=if bN (az w.c.first (if x.up=true then aX x.d else []))≠0 then bN (az w.c.first (if x.up=true then aX x.d else [])) else if Gw (az w.c.first (if x.up=true then aX x.d else []))=x.a then 0 else 4:=by
   unfold iv;rw[jD,nI (by omega)];dsimp only
   cases hr:az w.c.first (if x.up=true then aX x.d else []) with
   |error e=>rw[pI (show bN (Except.error e)≠0 from fZ hr)];rfl
   |ok x=>rfl
  refine(uB (hw.iw.pins.ext' e89) hR9).Q8 fun ya yl yc za zl zc H10 e10 hN10 hA hB=>fun Ys=>⟨fun Qz=>?_,fun Qz=>?_⟩
  ·rw[pI Qz] at hH;rw[hH,pI Qz] at hI;rw[hT,←hI]
  rw[nI Qz] at hH;have eA:=aH.trans e89 e10;refine(xF hA hB (hq.ap.ext' eA) (hq.ab.ext' eA)).aO fun H11 e11 hN11=>⟨fun EQ=>?_,fun EQ=>?_⟩
  ·rw[nI (of_decide_eq_false EQ)] at hH;rw[hH,pI (by omega)] at hI;rw[hT,←hI]
  rw[pI (by simpa using EQ)] at hH;rw[hH,nI (by omega)] at hI;rintro r rfl;rw[aj];exact⟨rfl,⟨d,k+1,rfl,by omega,hI⟩,by simp[aN];omega⟩
 ·rw[hT,←hI,aK Ah (by omega),iQ]
end
open Go Go.Proofs
theorem bS.frame{P:Program}{f:FuncId}{Q:Value->Heap->Prop}(h:bS P f args G Q)(e:aH G H):
  bS P f args H fun v H'=>∃G',aH G G'/\aH G' H'/\(∀x k,G' x=some k->G x=none->H x=none)/\Q v G':=fun w hw hb=>by
 refine(h w (hw.sub e) ⟨fun x hx=>(by cases hx),fun x hx=>(by cases hx),by simp⟩).mono fun en w' he=>?_;obtain⟨v,iy,G',h1,h2,hB,hs,se,hN,hQ⟩:=he
 have tY:∀x k,G' x=some k->G x=none->H x=none:=fun x k hx hn=>by
  have h0:=hN.fresh x k hx hn
  cases hh:H x with
  |none=>rfl
  |some k'=>have:=hw.lt hh;omega
 refine⟨v,iy,H.plus G',h1,h2,hB,fun x k hx=>?_,⟨fun y hy=>(by cases iy<;>cases hy),fun y hy=>(by cases iy<;>cases hy),by cases iy<;>simp[gi]⟩,⟨lu,fun x k hx hn=>?_⟩,G',hN.ext,uf fun x k hx k' hh=>?_,tY,hQ⟩
 ·unfold Heap.plus at hx
  cases hh:H x with
  |some k'=>
   rw[hh] at hx;obtain rfl:=zy hx;rw[hB.block x (hw.lt hh) (by simp)]
   exact hw x _ hh
  |none=>rw[hh] at hx;exact hs x k hx
 ·unfold Heap.plus at hx;rw[hn] at hx
  cases hg:G x with
  |none=>exact hN.fresh x k hx hg
  |some k'=>rw[e x k' hg] at hn;cases hn
 ·cases hg:G x with
  |none=>rw[tY x k hx hg] at hh;cases hh
  |some k0=>
   have a1:=hN.ext x k0 hg;have a2:=e x k0 hg;rw[hx] at a1;rw[hh] at a2;rw[zy a2,←zy a1]
open Go Go.Proofs
theorem eZ.frame{P:Program}{f:FuncId}{own:List Bx}{Q:Value->List (List Value)->Heap->Prop}(h:eZ P f args own G Q)(e:aH G H):
  eZ P f args own H fun v iy H'=>∃G',aH G G'/\aH G' H'/\aH H H'/\(∀x k,G' x=some k->G x=none->H x=none)/\Q v iy G':=fun w hw hb=>by
 have hid:∀x∈own,G x.b=none:=fun x hx=>by
  cases hg:G x.b with
  |none=>rfl
  |some k=>have:=hb.hid x hx;rw[e _ k hg] at this;cases this
 refine(h w (hw.sub e) ⟨hb.ok,hid,hb.apart⟩).mono fun en w' he=>?_;obtain⟨v,iy,G',h1,h2,hB,hs,se,hN,hQ⟩:=he
 have tY:∀x k,G' x=some k->G x=none->H x=none:=fun x k hx hn=>by
  have h0:=hN.fresh x k hx hn
  cases hh:H x with
  |none=>rfl
  |some k'=>have:=hw.lt hh;omega
 have qD:∀x k,H x=some k->x∉own.map Bx.b:=fun x k hx hm=>by
  obtain⟨y,hy,rfl⟩:=zM.1 hm;rw[hb.hid y hy] at hx;cases hx
 have Zl:∀y∈gi own iy,y.b∈own.map Bx.b:=by
  have key:∀(xs:List Bx)(cs:List (List Value)),∀y∈gi xs cs,y.b∈xs.map Bx.b:=by
   intro xs
   induction xs with
   |nil=>intro cs y hy;cases cs<;>cases hy
   |cons x r ih=>
    intro cs y hy
    cases cs with
    |nil=>cases hy
    |cons c cs=>
     rcases zm.1 hy with rfl|hy
     ·simp[Bx.set]
     ·exact zj _ (ih cs y hy)
  exact key own iy
 refine⟨v,iy,H.plus G',h1,h2,hB,fun x k hx=>?_,⟨se.ok,fun y hy=>?_,se.apart⟩,⟨lu,fun x k hx hn=>?_⟩,G',hN.ext,uf fun x k hx k' hh=>?_,lu,tY,hQ⟩
 ·unfold Heap.plus at hx
  cases hh:H x with
  |some k'=>
   rw[hh] at hx;obtain rfl:=zy hx;rw[hB.block x (hw.lt hh) (qD x _ hh)]
   exact hw x _ hh
  |none=>rw[hh] at hx;exact hs x k hx
 ·have h3:=se.hid y hy;obtain⟨z,hz,hzy⟩:=zM.1 (Zl y hy);have h4:=hb.hid z hz;rw[hzy] at h4;unfold Heap.plus;rw[h4];exact h3
 ·unfold Heap.plus at hx;rw[hn] at hx
  cases hg:G x with
  |none=>exact hN.fresh x k hx hg
  |some k'=>rw[e x k' hg] at hn;cases hn
 ·cases hg:G x with
  |none=>rw[tY x k hx hg] at hh;cases hh
  |some k0=>
   have a1:=hN.ext x k0 hg;have a2:=e x k0 hg;rw[hx] at a1;rw[hh] at a2;rw[zy a2,←zy a1]
def jt(own:List Bx)(x:Nat):Option KB:=(own.find? fun y=>y.b==x).map fun y=>ay y.ty y.cs
def dR(own:List Bx)(a:Nat)(H:Heap):Heap:=fun x=>if x=a then none else match H x with|some k=>some k|none=>jt own x
def gZ(own:List Bx)(H:Heap):Heap:=fun x=>match jt own x with|some _=>none|none=>H x
theorem eW{own:List Bx}{k:KB}(h:jt own x=some k):∃y∈own,y.b=x/\k=ay y.ty y.cs:=by
 unfold jt at h
 cases hf:own.find? (fun y=>y.b==x) with
 |none=>rw[hf] at h;cases h
 |some y=>
  rw[hf] at h;have:=List.find?_some hf;exact⟨y,List.mem_of_find?_eq_some hf,by simpa using this,(zy h).symm⟩
theorem JC{own:List Bx}(h:jt own x=none):∀y∈own,y.b≠x:=fun y hy e=>by
 unfold jt at h;rw[Option.map_eq_none_iff,List.find?_eq_none] at h;exact h y hy (by simpa using e)
theorem vy{own:List Bx}(hn:(own.map Bx.b).Nodup)(hy:y∈own):jt own y.b=some (ay y.ty y.cs):=by
 cases h:jt own y.b with
 |none=>exact absurd rfl (JC h y hy)
 |some k=>
  obtain⟨z,hz,Sg,rfl⟩:=eW h
  have:z=y:=by
   have key:∀(l:List Bx),(l.map Bx.b).Nodup->z∈l->y∈l->z=y:=by
    intro l
    induction l with
    |nil=>intro _ h;cases h
    |cons x r ih=>
     intro hn hz hy;rw[zB,List.nodup_cons] at hn;rcases zm.1 hz with e1|hz
     ·rcases zm.1 hy with e2|hy
      ·rw[e1,e2]
      ·exact absurd (List.mem_map_of_mem (f:=Bx.b) hy) (by rw[←Sg,e1];exact hn.1)
     ·rcases zm.1 hy with e2|hy
      ·exact absurd (List.mem_map_of_mem (f:=Bx.b) hz) (by rw[Sg,e2];exact hn.1)
      ·exact ih hn.2 hz hy
   exact key own hn hz hy
  rw[this]
theorem jR{own:List Bx}{a:Nat}(h:H a=none):aH H (dR own a H):=fun x k hx=>by
 unfold dR;rw[nI (fun e=>by rw[e,h] at hx;cases hx),hx]
theorem B1{own:List Bx} :aH (gZ own H) H:=fun x k h=>by
 unfold gZ at h;split at h
 ·cases h
 ·exact h
theorem vz(h:y.ok w)(hm:y.map=false):(ay y.ty y.cs).dI w.heap[y.b]?:=by
 unfold Bx.ok at h;rw[hm] at h;exact⟨_,_,h,by simp[ay],fun _=>rfl,fun j v hj=>by simpa[ay] using hj⟩
theorem Ho(h:(ay y.ty y.cs).dI w.heap[y.b]?)(hm:y.map=false):y.ok w:=by
 obtain⟨cur,fr,h1,h2,h3,h4⟩:=h;unfold Bx.ok;rw[hm]
 show w.heap[y.b]?=some (.cells y.cs.toArray y.ty (0,0))
 rw[h1,h3 rfl]
 have e:cur=y.cs.toArray:=by
  apply Array.ext
  ·rw[h2];simp[ay]
  ·intro j Sk Ub;have:=h4 j (y.cs[j]'(by simpa using Ub)) (by simp[ay]);rw[yw Sk] at this;simpa using zy this
 rw[e];rfl
def oG(own:List Bx)(w0 w:World):World:= { w0 with heap:=Array.ofFn (n:=w0.heap.size) fun k=>if own.any (fun y=>y.b==k.val) then(w.heap[k.val]?).getD w0.heap[k] else w0.heap[k] }
theorem eY{own:List Bx} :(oG own w0 w).heap.size=w0.heap.size:=by simp[oG]
theorem kf{own:List Bx}(h:∀y∈own,y.b≠k):(oG own w0 w).heap[k]?=w0.heap[k]?:=by
 have hf:own.any (fun y=>y.b==k)=false:=by
  rw[List.any_eq_false];intro y hy;simpa using h y hy
 rcases Nat.lt_or_ge k w0.heap.size with hk|hk
 ·rw[yw (by rw[eY];exact hk),yw hk];simp only[oG,Array.getElem_ofFn,hf,Bool.false_eq_true,if_false];rfl
 ·rw[Array.getElem?_eq_none (by rw[eY];exact hk),Array.getElem?_eq_none hk]
theorem ni{own:List Bx}(hy:y∈own)(hb:y.b=k)(hk:k<w0.heap.size)(hle:w0.heap.size<=w.heap.size):(oG own w0 w).heap[k]?=w.heap[k]?:=by
 have hf:own.any (fun y=>y.b==k)=true:=List.any_eq_true.2 ⟨y,hy,by simpa using hb⟩;rw[yw (by rw[eY];exact hk),yw (yg hk hle)];simp only[oG,Array.getElem_ofFn,hf,if_true];rw[yw (yg hk hle)];rfl
theorem ME{P:Program}(mZ:fy P fE){C:qG}{own:List Bx}(hw:iR C w0 bc own H w){i:Nat}{X:Bx}(hX:own[i]?=some X)(hm:∀y∈own,y.map=false)
    (oJ:∀s∈pre,SV.wf 1 s) {R:Nat->Prop} (hR:∀y∈own,¬R y.b) {post:Value->List Value->Heap->Prop}
  (h:∀H0,∃q,fE.inl C.aa H0 g pre [X] (dR own X.b H) (fun s cV H1=>∃oI,cV[0]?=some (X.set oI)/\(∀x k,dR own X.b H x=some k->¬R x->H1 x=some k)/\post (s.val cV) oI H1)=some q/\q):
  Calls P g (pre.map (SV.val [X])).toArray w fun e w'=>∃v oI H1,e= .returned v/\post v oI H1/\(∀x k,dR own X.b H x=some k->¬R x->H1 x=some k)/\H1 X.b=none/\iR C w0 bc (own.set i (X.set oI)) (gZ own H1) w':=by
 have Vh:=zt hX;have hle:w0.heap.size<=w.heap.size:=hw.below.size;have Wm:H X.b=none:=hw.aE.hid X Vh
 have Zm:∀y∈own,C.H0 y.b=none:=fun y hy=>by
  cases hc:C.H0 y.b with
  |none=>rfl
  |some k=>have:=hw.aE.hid y hy;rw[hw.next.ext _ k hc] at this;cases this
 let yI:Heap:=fun x=>match C.H0 x with|some k=>some k|none=>if x<C.aa/\x≠X.b then jt own x else none
 obtain⟨q,hq,hqq⟩:=h yI;obtain⟨_,uS⟩:=mZ _ _ _ _ _ _ _ _ hq
 let C':qG:= { C with H0:=yI }
 have Pn:∀x k,yI x=some k->C.H0 x=some k∨(C.H0 x=none/\x<C.aa/\x≠X.b/\jt own x=some k):=fun x k hx=>by
  simp only[yI] at hx
  cases hc:C.H0 x with
  |some k'=>rw[hc] at hx;exact .inl hx
  |none=>
   rw[hc] at hx;simp only at hx;split at hx
   ·rename_i K4;exact .inr ⟨rfl,K4.1,K4.2,hx⟩
   ·cases hx
 have Po:fD (dR own X.b H) w:=fun x k hx=>by
  unfold dR at hx;split at hx
  ·cases hx
  ·split at hx
   ·rename_i k' hk;obtain rfl:=zy hx;exact hw.dI x _ hk
   ·obtain⟨y,hy,rfl,rfl⟩:=eW hx;exact vz (hw.aE.ok y hy) (hm y hy)
 have Fi:iR C' (oG own w0 w) bc [X] (dR own X.b H) w:=by
  refine⟨Po,⟨fun y hy=>?_,fun y hy=>?_,by simp⟩,fun y hy=>?_,⟨hw.below.os,hw.below.tape,hw.below.output,by rw[eY];exact hle,fun k hk hn=>?_⟩,⟨fun x k hx=>?_,fun x k hx hn=>?_⟩,?_,fun x k hx=>?_⟩
  ·obtain rfl:y=X:=by simpa using hy
   exact hw.aE.ok _ Vh
  ·obtain rfl:y=X:=by simpa using hy
   unfold dR;rw[pI rfl]
  ·obtain rfl:y=X:=by simpa using hy
   exact hw.mK _ Vh
  ·rw[eY] at hk;by_cases hb:∃y∈own,y.b=k
   ·obtain⟨y,hy,B2⟩:=hb;rw[ni hy B2 hk hle]
   ·rw[kf fun y hy e=>hb ⟨y,hy,e⟩];exact hw.below.block k hk hn
  ·rcases Pn x k hx with hx|⟨hc,bK,eE,hx⟩
   ·exact jR Wm x k (hw.next.ext x k hx)
   ·unfold dR;rw[nI eE];obtain⟨y,hy,rfl,rfl⟩:=eW hx;rw[hw.aE.hid y hy];exact hx
  ·have Eb:C.H0 x=none:=by
    cases hc:C.H0 x with
    |none=>rfl
    |some k'=>have hn:yI x=none:=hn;simp only[yI,hc] at hn;cases hn
   unfold dR at hx;split at hx
   ·cases hx
   ·rename_i eE;split at hx
    ·rename_i k' hk;exact hw.next.fresh x _ hk Eb
    ·rcases Nat.lt_or_ge x C.aa with bK|gj
     ·have hn:yI x=none:=hn;simp only[yI,Eb,pI (And.intro bK eE)] at hn;rw[hn] at hx;cases hx
     ·exact gj
  ·show C.aa=_
   rw[eY];exact hw.aa
  ·rcases Pn x k hx with hx|⟨hc,bK,eE,hx⟩
   ·have xX:∀y∈own,y.b≠x:=fun y hy e=>by rw[←e,Zm y hy] at hx;cases hx
    rw[kf xX];exact hw.jo x k hx
   ·obtain⟨y,hy,rfl,rfl⟩:=eW hx;rw[ni hy rfl (by rw[←hw.aa];exact bK) hle];exact vz (hw.aE.ok y hy) (hm y hy)
 refine(uS hqq C' (oG own w0 w) bc w rfl rfl Fi oJ).mono fun e w' he=>?_;obtain⟨v,cV,H1,rfl,hf,jK,er⟩:=he;obtain⟨oI,h0,oU,rR⟩:=hf;have h0m:=zt h0;have hH1X:H1 X.b=none:=by simpa[Bx.set] using er.aE.hid _ h0m
 refine⟨v,oI,H1,rfl,rR,oU,hH1X,?_⟩;have hXl:=(zw.1 hX).1
 have rb:∀y∈own.set i (X.set oI),y=X.set oI∨(y∈own/\y.b≠X.b):=fun y hy=>by
  obtain⟨j,hj⟩:=yr.1 hy;rw[yh] at hj;split at hj
  ·rename_i e;subst e
   first|rw[pI hXl] at hj|skip
   exact .inl (zy hj).symm
  ·rename_i eE;have hym:=zt hj;refine .inr ⟨hym,fun e=>eE ?_⟩;have Lx:=hw.aE.apart;have Sk:(own.map Bx.b)[j]?=some X.b:=by rw[zP,hj];simp[e]
   have hi1:(own.map Bx.b)[i]?=some X.b:=by rw[zP,hX];rfl
   obtain⟨FT,Ub⟩:=zw.1 Sk;obtain⟨hil,Wh⟩:=zw.1 hi1;have Vi:=List.pairwise_iff_getElem.1 Lx;rcases Nat.lt_trichotomy i j with c|c|c
   ·exact absurd (Wh.trans Ub.symm) (Vi i j hil FT c)
   ·exact c
   ·exact absurd (Ub.trans Wh.symm) (Vi j i FT hil c)
 have W6:(own.set i (X.set oI)).map Bx.b=own.map Bx.b:=by
  apply List.ext_getElem?;intro j;rw[zP,yh,zP];split
  ·rename_i e;subst e
   first|rw[pI hXl]|skip
   rw[hX];rfl
  ·rfl
 refine⟨fun x k hx=>er.dI x k (B1 x k hx),⟨fun y hy=>?_,fun y hy=>?_,by rw[W6];exact hw.aE.apart⟩,fun y hy=>?_,⟨er.below.os,er.below.tape,er.below.output,by have:=er.below.size;rw[eY] at this;exact this,fun k hk hn=>?_⟩,⟨fun x k hx=>?_,fun x k hx hn=>?_⟩,hw.aa,hw.jo⟩
 ·rcases rb y hy with rfl|⟨hy,eE⟩
  ·exact er.aE.ok _ h0m
  ·have h1:dR own X.b H y.b=some (ay y.ty y.cs):=by
    unfold dR;rw[nI eE,hw.aE.hid y hy];exact vy hw.aE.apart hy
   exact Ho (er.dI _ _ (oU _ _ h1 (hR y hy))) (hm y hy)
 ·have VW:∃z∈own,z.b=y.b:=by
   rcases rb y hy with rfl|⟨hy,_⟩
   ·exact⟨X,Vh,rfl⟩
   ·exact⟨y,hy,rfl⟩
  obtain⟨z,hz,hzy⟩:=VW;unfold gZ;rw[←hzy,vy hw.aE.apart hz]
 ·rcases rb y hy with rfl|⟨hy,_⟩
  ·exact hw.mK X Vh
  ·exact hw.mK y hy
 ·have h1:=er.below.block k (by rw[eY];exact hk) hn;rw[h1];by_cases hb:∃y∈own,y.b=k
  ·obtain⟨y,hy,B2⟩:=hb;rw[ni hy B2 hk hle];exact hw.below.block k hk hn
  ·rw[kf fun y hy e=>hb ⟨y,hy,e⟩]
 ·have xX:jt own x=none:=by
   cases hl:jt own x with
   |none=>rfl
   |some k'=>
    obtain⟨y,hy,rfl,_⟩:=eW hl;rw[Zm y hy] at hx;cases hx
  unfold gZ;rw[xX];refine er.next.ext x k ?_
  show yI x=some k
  simp only[yI,hx]
 ·unfold gZ at hx;split at hx
  ·cases hx
  ·rename_i hl;refine er.next.fresh x k hx ?_
   show yI x=none
   simp only[yI,hn,hl,ite_self]
theorem JD{P:Program}(mZ:fy P fE){C:qG}{own:List Bx}(hw:iR C w0 bc own H w)(hm:∀y∈own,y.map=false)
    (oJ:∀s∈pre,SV.wf 0 s) {R:Nat->Prop} (hR:∀y∈own,¬R y.b) {post:Value->Heap->Prop}
  (h:∀H0,∃q,fE.inl C.aa H0 g pre [] (dR own w.heap.size H) (fun s cV H1=>(∀x k,dR own w.heap.size H x=some k->¬R x->H1 x=some k)/\post (s.val cV) H1)=some q/\q):
  Calls P g (pre.map (SV.val [])).toArray w fun e w'=>∃v H1,e= .returned v/\post v H1/\(∀x k,dR own w.heap.size H x=some k->¬R x->H1 x=some k)/\iR C w0 bc own (gZ own H1) w':=by
 have hle:w0.heap.size<=w.heap.size:=hw.below.size;have bK:∀y∈own,y.b≠w.heap.size:=fun y hy e=>by have:=Bx.qo (hw.aE.ok y hy);omega
 have Wm:H w.heap.size=none:=by
  cases hh:H w.heap.size with
  |none=>rfl
  |some k=>have:=hw.dI.lt hh;omega
 have Zm:∀y∈own,C.H0 y.b=none:=fun y hy=>by
  cases hc:C.H0 y.b with
  |none=>rfl
  |some k=>have:=hw.aE.hid y hy;rw[hw.next.ext _ k hc] at this;cases this
 let yI:Heap:=fun x=>match C.H0 x with|some k=>some k|none=>if x<C.aa then jt own x else none
 obtain⟨q,hq,hqq⟩:=h yI;obtain⟨_,uS⟩:=mZ _ _ _ _ _ _ _ _ hq
 let C':qG:= { C with H0:=yI }
 have Pn:∀x k,yI x=some k->C.H0 x=some k∨(C.H0 x=none/\x<C.aa/\jt own x=some k):=fun x k hx=>by
  simp only[yI] at hx
  cases hc:C.H0 x with
  |some k'=>rw[hc] at hx;exact .inl hx
  |none=>
   rw[hc] at hx;simp only at hx;split at hx
   ·rename_i K4;exact .inr ⟨rfl,K4,hx⟩
   ·cases hx
 have Po:fD (dR own w.heap.size H) w:=fun x k hx=>by
  unfold dR at hx;split at hx
  ·cases hx
  ·split at hx
   ·rename_i k' hk;obtain rfl:=zy hx;exact hw.dI x _ hk
   ·obtain⟨y,hy,rfl,rfl⟩:=eW hx;exact vz (hw.aE.ok y hy) (hm y hy)
 have Fi:iR C' (oG own w0 w) bc [] (dR own w.heap.size H) w:=by
  refine⟨Po,⟨fun y hy=>(by cases hy),fun y hy=>(by cases hy),by simp⟩,fun y hy=>(by cases hy),⟨hw.below.os,hw.below.tape,hw.below.output,by rw[eY];exact hle,fun k hk hn=>?_⟩,⟨fun x k hx=>?_,fun x k hx hn=>?_⟩,?_,fun x k hx=>?_⟩
  ·rw[eY] at hk;by_cases hb:∃y∈own,y.b=k
   ·obtain⟨y,hy,B2⟩:=hb;rw[ni hy B2 hk hle]
   ·rw[kf fun y hy e=>hb ⟨y,hy,e⟩];exact hw.below.block k hk hn
  ·rcases Pn x k hx with hx|⟨hc,Rw,hx⟩
   ·exact jR Wm x k (hw.next.ext x k hx)
   ·unfold dR;obtain⟨y,hy,rfl,rfl⟩:=eW hx;rw[nI (bK y hy),hw.aE.hid y hy];exact hx
  ·have Eb:C.H0 x=none:=by
    cases hc:C.H0 x with
    |none=>rfl
    |some k'=>have hn:yI x=none:=hn;simp only[yI,hc] at hn;cases hn
   unfold dR at hx;split at hx
   ·cases hx
   ·split at hx
    ·rename_i k' hk;exact hw.next.fresh x _ hk Eb
    ·rcases Nat.lt_or_ge x C.aa with Rw|gj
     ·have hn:yI x=none:=hn;simp only[yI,Eb,pI Rw] at hn;rw[hn] at hx;cases hx
     ·exact gj
  ·show C.aa=_
   rw[eY];exact hw.aa
  ·rcases Pn x k hx with hx|⟨hc,Rw,hx⟩
   ·have xX:∀y∈own,y.b≠x:=fun y hy e=>by rw[←e,Zm y hy] at hx;cases hx
    rw[kf xX];exact hw.jo x k hx
   ·obtain⟨y,hy,rfl,rfl⟩:=eW hx;rw[ni hy rfl (by rw[←hw.aa];exact Rw) hle];exact vz (hw.aE.ok y hy) (hm y hy)
 refine(uS hqq C' (oG own w0 w) bc w rfl rfl Fi oJ).mono fun e w' he=>?_;obtain⟨v,cV,H1,rfl,hf,jK,er⟩:=he;obtain⟨oU,rR⟩:=hf;refine⟨v,H1,rfl,rR,oU,fun x k hx=>er.dI x k (B1 x k hx),⟨fun y hy=>?_,fun y hy=>?_,hw.aE.apart⟩,hw.mK,⟨er.below.os,er.below.tape,er.below.output,by have:=er.below.size;rw[eY] at this;exact this,fun k hk hn=>?_⟩,⟨fun x k hx=>?_,fun x k hx hn=>?_⟩,hw.aa,hw.jo⟩
 ·have h1:dR own w.heap.size H y.b=some (ay y.ty y.cs):=by
   unfold dR;rw[nI (bK y hy),hw.aE.hid y hy];exact vy hw.aE.apart hy
  exact Ho (er.dI _ _ (oU _ _ h1 (hR y hy))) (hm y hy)
 ·unfold gZ;rw[vy hw.aE.apart hy]
 ·have h1:=er.below.block k (by rw[eY];exact hk) hn;rw[h1];by_cases hb:∃y∈own,y.b=k
  ·obtain⟨y,hy,B2⟩:=hb;rw[ni hy B2 hk hle];exact hw.below.block k hk hn
  ·rw[kf fun y hy e=>hb ⟨y,hy,e⟩]
 ·have xX:jt own x=none:=by
   cases hl:jt own x with
   |none=>rfl
   |some k'=>
    obtain⟨y,hy,rfl,_⟩:=eW hl;rw[Zm y hy] at hx;cases hx
  unfold gZ;rw[xX];refine er.next.ext x k ?_
  show yI x=some k
  simp only[yI,hx]
 ·unfold gZ at hx;split at hx
  ·cases hx
  ·rename_i hl;refine er.next.fresh x k hx ?_
   show yI x=none
   simp only[yI,hn,hl,ite_self]
theorem xI{own:List Bx}{H1:Heap}{a:Nat}(hid:∀y∈own,H y.b=none)(ha:H a=none){k:KB}(hx:H x=some k)(h:dR own a H x=some k->H1 x=some k):gZ own H1 x=some k:=by
 unfold gZ
 cases hl:jt own x with
 |some k'=>
  obtain⟨y,hy,rfl,_⟩:=eW hl
  rw[hid y hy] at hx;cases hx
 |none=>exact h (jR ha x k hx)
open Go Go.Proofs
structure lh(H:Heap)(w:cY)(p:WA):Prop where
 iw:fB H w.c p.fa p.fl p.ra p.rl p.wa p.wl
 ji:cQ H w.h.l p.la p.ll p.ka p.kl
 iD:cr H w.h.d p.sa p.sl p.sc p.ta p.tl p.tc
 cZ:iN H p.ma p.ml w.m
 room:p.ml<=p.mc
theorem lh.ext{w:cY}{p:WA}(h:lh H w p)(e:aH H H'):lh H' w p:=⟨h.iw.ext e,h.ji.ext e,h.iD.ext e,Sl.ext cK.mono h.cZ e,h.room⟩
def Out(w:cY)(p:WA)(x:Except Int cY)(v:Value)(iy:List (List Value))(G':Heap):Prop:=
 ∃p':WA,v=i64 (bN x)/\iy=[aQ (fU w x) p']/\lh G' (fU w x) p'/\p'.na=p.na/\p'.nl=p.nl/\p'.nc=p.nc/\(fU w x).n=w.n
def Vj(w:cY)(p:WA)(y:cY)(v:Value)(iy:List (List Value))(G':Heap):Prop:=
 ∃p':WA,v= .tuple #[]/\iy=[aQ y p']/\lh G' y p'/\p'.na=p.na/\p'.nl=p.nl/\p'.nc=p.nc/\y.n=w.n
theorem Out.bad{w:cY}{p:WA}{x:Except Int cY}(hx:x= .error e)(h:lh G' w p):Out w p x (i64 e) [aQ w p] G':=by
 subst hx;exact⟨p,rfl,rfl,h,rfl,rfl,rfl,rfl⟩
theorem rS{iy:List (List Value)}{w:cY}{p:WA}(hc:iy=[aQ w p]){F:Int->O->Nat->Nat->O->Nat->Nat->O->Nat->Nat->Int->O->Nat->Nat->Int->Int->Bool->O->Nat->Nat->Int->O->Nat->Nat->O->Nat->Nat->Bool->O->Nat->Nat->O->Nat->Nat->Prop}(h:F w.c.first.id p.fa p.fl p.fc p.ra p.rl p.rc p.wa p.wl p.wc w.c.aS p.la p.ll p.lc w.h.l.aU w.h.l.ab w.h.l.ac p.ka p.kl p.kc w.h.l.nx p.sa p.sl p.sc p.ta p.tl p.tc w.h.up p.na p.nl p.nc p.ma p.ml p.mc):
  ∃i1:Int,∃a2:O,∃l2:Nat,∃c2:Nat,∃a3:O,∃l3:Nat,∃c3:Nat,∃a4:O,∃l4:Nat,∃c4:Nat,∃i5:Int,∃a6:O,∃l6:Nat,∃c6:Nat,∃i7:Int,∃i8:Int,∃b9:Bool,∃ER:O,∃l10:Nat,∃Hq:Nat,∃i11:Int,∃a12:O,∃K5:Nat,∃c12:Nat,∃ES:O,∃K6:Nat,∃Hr:Nat,∃K7:Bool,∃Hu:O,∃K8:Nat,∃JE:Nat,∃ET:O,∃K9:Nat,∃JF:Nat,iy=[[.int .i64 i1,.slice a2 l2 c2,.slice a3 l3 c3,.slice a4 l4 c4,.int .i64 i5,.slice a6 l6 c6,.int .i64 i7,.int .i64 i8,.bool b9,.slice ER l10 Hq,.int .i64 i11,.slice a12 K5 c12,.slice ES K6 Hr,.bool K7,.slice Hu K8 JE,.slice ET K9 JF]]/\F i1 a2 l2 c2 a3 l3 c3 a4 l4 c4 i5 a6 l6 c6 i7 i8 b9 ER l10 Hq i11 a12 K5 c12 ES K6 Hr K7 Hu K8 JE ET K9 JF:=
 ⟨_,_,_,_,_,_,_,_,_,_,_,_,_,_,_,_,_,_,_,_,_,_,_,_,_,_,_,_,_,_,_,_,_,_,hc,h⟩
theorem B3(h:eV d r= .error e):e≠0:=by
 rintro rfl;unfold eV at h;split at h
 ·split at h
  ·split at h
   ·cases h
   ·cases h
  ·rename_i h1;injection h with h;exact h1 h
 ·rename_i h1;injection h with h;exact h1 h
theorem Hv(h:iq d= .error e):e≠0:=by
 rintro rfl;unfold iq at h;split at h
 ·split at h
  ·cases h
  ·rename_i h1;injection h with h;exact h1 h
 ·rename_i h1;injection h with h;exact h1 h
theorem ig(h:aY d r= .error e):e≠0:=by
 unfold aY at h
 cases hp:eV d r with
 |error e'=>
  rw[hp] at h;injection h with h
  exact h▸B3 hp
 |ok x=>rw[hp] at h;exact Hv h
theorem wE{w:cY}(h:eJ w r= .error e):e≠0:=by
 unfold eJ at h;split at h
 ·rename_i hn;injection h with h;exact h▸hn
 ·cases hd:aY w.h.d r with
  |error e'=>
   rw[hd] at h;injection h with h
   exact h▸ig hd
  |ok d=>rw[hd] at h;cases h
theorem bS.Rx{P:Program}{f:FuncId}(h:bS P f args H fun v H'=>∃sa sl sc ta tl tc,v= .tuple #[eB sa sl sc ta tl tc,i64 e]/\cr H' d sa sl sc ta tl tc){G:O->Nat->Nat->O->Nat->Nat->Int->Heap->Prop}
  (hG:∀sa sn sc wa wn wc H',aH H H'->Vg.Next aa H H'->cr H' d sa sn sc wa wn wc->G sa sn sc wa wn wc e H'):
  bS P f args H fun v H'=>∃(sa:O)(sn sc:Nat)(wa:O)(wn wc:Nat)(e:Int),v= .tuple #[.agg #[.slice sa sn sc,.slice wa wn wc],.int .i64 e]/\(Vg.Next aa H H'->G sa sn sc wa wn wc e H'):=
 h.mono fun v H' ex hv=>by
  obtain⟨sa,sn,sc,wa,wn,wc,h1,h2⟩:=hv;exact⟨_,_,_,_,_,_,_,h1,fun hN=>hG _ _ _ _ _ _ H' ex hN h2⟩
section
variable {H : Heap} (hL : Lb H)
include hL
theorem Hy{sl:Nat}(hd:cr H d sa sl sc ta tl tc)(hr:aL H qa ql r.cB.ap):Sp 219 [eB sa sl sc ta tl tc,gU r qa ql qc] H fun v H'=>∃sa sl sc ta tl tc,v= .tuple #[eB sa sl sc ta tl tc,i64 (bN (aY d r))]/\cr H' (kM (aY d r)) sa sl sc ta tl tc:=by
 refine bh Tryz.func219 (fun _ _=>YB) fun aa hb=>fun b b' b''=>?_;refine(cPut hL hd hr).iD fun a n c a1 n1 c1 H1 e1 fh hD=>⟨fun h=>?_,fun h=>?_⟩
 ·cases hp:eV d r with
  |ok x=>rw[hp] at h;exact absurd rfl h
  |error e=>
   have:aY d r= .error e:=by unfold aY;rw[hp]
   rw[this];exact⟨none,0,0,none,0,0,rfl,cr.zero⟩
 ·cases hp:eV d r with
  |error e=>rw[hp] at h;exact absurd (zx.1 h) (B3 hp)
  |ok x=>
   rw[hp] at hD;have:aY d r=iq x:=by unfold aY;rw[hp]
   rw[this];refine(Yv (hL.ext e1) (cr.ext hD ew)).iD fun a2 n2 c2 a3 n3 c3 H2 e2 dZ hD2=>?_;exact⟨_,_,_,_,_,_,rfl,hD2.ext ew⟩
theorem JG{w:cY}{p:WA}(hw:lh H w p)(hr:aL H qa ql r.cB.ap)(b:Nat):eZ Tryz.prog 176 [.pointer (some ⟨b,0,none⟩),gU r qa ql qc] [⟨b,false,41,aQ w p⟩] H (Out w p (eJ w r)):=by
 refine TryzvcO Tryz.func176 (by kernel_rfl) (own:=[⟨b,false,41,aQ w p⟩]) (args:=[.loc 0 0,.v (gU r qa ql qc)]) (by kernel_rfl) (by intro s hs;simp at hs;rcases hs with rfl|rfl<;>simp[SV.wf]) _ (fun aa K=>YC b w.c.first.id w.c.aS p.fa p.ra p.wa p.fl p.fc p.rl p.rc p.wl p.wc w.h.l.aU w.h.l.ab w.h.l.nx w.h.l.ac p.la p.ka p.ll p.lc p.kl p.kc p.sa p.ta p.sl p.sc p.tl p.tc w.h.up p.na p.ma p.nl p.nc p.ml p.mc r.ae r.ah r.au r.cj r.cB.id r.aP qa ql qc aa H K) fun aa hb=>fun b1=>?_;have bad:∀ {H':Heap},aH H H'->bU w.c w.h.l r≠0->Out w p (eJ w r) (i64 (bU w.c w.h.l r)) [aQ w p] H':=fun e h=>Out.bad (by unfold eJ;rw[pI h]) (hw.ext e)
 have aP:∀ {H1 H2:Heap} (e1:aH H H1)(e2:aH H1 H2) {la ka:O} {ll lc kl kc:Nat} {sa ta:O} {sl sc tl tc:Nat},bU w.c w.h.l r=0->cQ H1 (iG w.c w.h.l r) la ll ka kl->cr H2 (kM (aY w.h.d r)) sa sl sc ta tl tc->
   (bN (aY w.h.d r)=0->Out w p (eJ w r) (i64 (bN (aY w.h.d r))) [[.int .i64 w.c.first.id,.slice p.fa p.fl p.fc,.slice p.ra p.rl p.rc,.slice p.wa p.wl p.wc,.int .i64 w.c.aS,.slice la ll lc,.int .i64 (iG w.c w.h.l r).aU,.int .i64 (iG w.c w.h.l r).ab,.bool (iG w.c w.h.l r).ac,.slice ka kl kc,.int .i64 (iG w.c w.h.l r).nx,.slice sa sl sc,.slice ta tl tc,.bool w.h.up,.slice p.na p.nl p.nc,.slice p.ma p.ml p.mc]] H2)/\
   (¬bN (aY w.h.d r)=0->Out w p (eJ w r) (i64 (bN (aY w.h.d r))) [aQ w p] H2):=by
  intro H1 H2 e1 e2 la ka ll lc kl kc sa ta sl sc tl tc h hA hD;have hV:iG w.c w.h.l r=bM w.h.l r:=by unfold iG;rw[pI h]
  rw[hV] at hA⊢
  cases hd:aY w.h.d r with
  |error e=>
   have hX:eJ w r= .error e:=by unfold eJ;rw[nI (by omega),hd]
   refine⟨fun h0=>absurd h0 (ig hd),fun _=>?_⟩
   exact Out.bad hX (hw.ext (aH.trans e1 e2))
  |ok d=>
   have hX:eJ w r= .ok { w with h:=⟨bM w.h.l r,d,w.h.up⟩ } :=by unfold eJ;rw[nI (by omega),hd]
   refine⟨fun _=>?_,fun h0=>absurd rfl h0⟩;rw[hd] at hD;rw[hX];exact⟨{ p with la:=la,ll:=ll,lc:=lc,ka:=ka,kl:=kl,kc:=kc,sa:=sa,sl:=sl,sc:=sc,ta:=ta,tl:=tl,tc:=tc },rfl,rfl,⟨(hw.ext (aH.trans e1 e2)).iw,hA.ext e2,hD,(hw.ext (aH.trans e1 e2)).cZ,hw.room⟩,rfl,rfl,rfl,rfl⟩
 refine⟨?_,fun b2=>?_⟩
 ·refine(Jw hw.iw hw.ji hr).ji fun la ll lc ka kl kc H1 e1 fh hA=>fun b3=>⟨fun h=>bad e1 h,fun h=>⟨?_,fun b4=>?_⟩⟩
  ·refine bS.Rx (Hy (hL.ext e1) (hw.iD.ext e1) (hr.ext' e1)) fun sa sl sc ta tl tc H2 e2 dZ hD=>fun b5=>?_;obtain⟨g1,g2⟩:=aP e1 e2 (lc:=lc) (kc:=kc) (zx.1 h) hA hD;exact⟨fun h0=>⟨g1 h0,g1 h0⟩,g2⟩
  ·refine bS.Rx (Hy (hL.ext e1) (hw.iD.ext e1) (hr.ext' e1)) fun sa sl sc ta tl tc H2 e2 dZ hD=>?_;obtain⟨g1,g2⟩:=aP e1 e2 (lc:=lc) (kc:=kc) (zx.1 h) hA hD;exact⟨fun h0=>⟨g1 h0,g1 h0⟩,g2⟩
 ·refine(Jw hw.iw hw.ji hr).ji fun la ll lc ka kl kc H1 e1 fh hA=>⟨fun h=>bad e1 h,fun h=>⟨?_,fun b4=>?_⟩⟩
  ·refine bS.Rx (Hy (hL.ext e1) (hw.iD.ext e1) (hr.ext' e1)) fun sa sl sc ta tl tc H2 e2 dZ hD=>fun b5=>?_;obtain⟨g1,g2⟩:=aP e1 e2 (lc:=lc) (kc:=kc) (zx.1 h) hA hD;exact⟨fun h0=>⟨g1 h0,g1 h0⟩,g2⟩
  ·refine bS.Rx (Hy (hL.ext e1) (hw.iD.ext e1) (hr.ext' e1)) fun sa sl sc ta tl tc H2 e2 dZ hD=>?_;obtain⟨g1,g2⟩:=aP e1 e2 (lc:=lc) (kc:=kc) (zx.1 h) hA hD;exact⟨fun h0=>⟨g1 h0,g1 h0⟩,g2⟩
end
theorem Ts{w:cY}{p:WA}(hw:lh H w p){c:Nat}(hm:aL H a l m.cB.ap)(b:Nat):eZ Tryz.prog 221 [.pointer (some ⟨b,0,none⟩),od m a l c] [⟨b,false,41,aQ w p⟩] H (Vj w p (gL w m)):=by
 refine TryzvcO Tryz.func221 (by kernel_rfl) (own:=[⟨b,false,41,aQ w p⟩]) (args:=[.loc 0 0,.v (od m a l c)]) (by kernel_rfl) (by intro s hs;simp at hs;rcases hs with rfl|rfl<;>simp[SV.wf]) _ (fun aa K=>YD b w.c.first.id w.c.aS p.fa p.ra p.wa p.fl p.fc p.rl p.rc p.wl p.wc w.h.l.aU w.h.l.ab w.h.l.nx w.h.l.ac p.la p.ka p.ll p.lc p.kl p.kc p.sa p.ta p.sl p.sc p.tl p.tc w.h.up p.na p.ma p.nl p.nc p.ml p.mc m.ah m.au m.cB.id m.rep m.aP a l c aa H K) fun aa hb=>fun b1=>?_;refine(Yf hw.cZ m hm).Qp fun a1 n1 c1 H1 e1 fh hS=>⟨fun h=>?_,fun h=>?_⟩
 ·rw[pI h] at hS;have hX:gL w m= { w with m:=u7 w.m m } :=by unfold gL;rw[pI h]
  rw[hX];exact⟨{ p with ma:=a1,ml:=n1,mc:=c1 },rfl,rfl,⟨(hw.ext e1).iw,(hw.ext e1).ji,(hw.ext e1).iD,hS.2,hS.1⟩,rfl,rfl,rfl,rfl⟩
 ·have hX:gL w m=w:=by unfold gL;rw[nI h]
  rw[hX];exact⟨p,rfl,rfl,hw.ext e1,rfl,rfl,rfl,rfl⟩
structure Grown(G H G' H':Heap):Prop where
 ext:aH G G'
 sub:aH G' H'
 cR:aH H H'
 im:∀x k,G' x=some k->G x=none->H x=none
theorem Grown.trans(h:Grown G H G' H')(k:Grown G' H' G'' tV):Grown G H G'' tV:=⟨aH.trans h.ext k.ext,k.sub,aH.trans h.cR k.cR,fun x y hx hn=>by
 cases hg:G' x with
 |some z=>exact h.im x z hg hn
 |none=>
  have h1:=k.im x y hx hg
  cases hh:H x with
  |none=>rfl
  |some z=>rw[h.cR x z hh] at h1;cases h1⟩
theorem eZ.grown{P:Program}{f:FuncId}{own:List Bx}{Q:Value->List (List Value)->Heap->Prop}(h:eZ P f args own G Q)(e:aH G H):
  eZ P f args own H fun v iy H'=>∃G',Grown G H G' H'/\Q v iy G':=(h.frame e).mono fun v iy H' _ ⟨G',h1,h2,h3,h4,h5⟩=>⟨G',⟨h1,h2,h3,h4⟩,h5⟩
theorem bS.grown{P:Program}{f:FuncId}{Q:Value->Heap->Prop}(h:bS P f args G Q)(e:aH G H):
  bS P f args H fun v H'=>∃G',Grown G H G' H'/\Q v G':=(h.frame e).mono fun v H' e' ⟨G',h1,h2,h4,h5⟩=>⟨G',⟨h1,h2,e',h4⟩,h5⟩
theorem Sl.Zn{xs:List ke}(h:BZ H a n xs)(e:aH H H'){k:Int}(h0:0<=k)(h1:k<n){F:O->Nat->Nat->Int->Int->Bool->Int->O->Nat->Nat->Bool->Prop}
  (hF:∀x q,xs[k.toNat]?=some x->kP H x q->F q.xa q.xl q.xc x.a.ck x.a.au x.a.going x.a.ab.id q.ga q.gl q.gc x.a.aP):
  ∃(b o:Nat),a=some ⟨b,o,none⟩/\0<=k/\k<n/\∃(a:O)(n2 c:Nat)(n3 n4:Int)(b2:Bool)(n5:Int)(a1:O)(n6 c1:Nat)(b3:Bool),
   (H'.cell b (o+k.toNat*10)=some (.slice a n2 c)/\H'.cell b (o+k.toNat*10+1)=some (.int .i64 n3)/\H'.cell b (o+k.toNat*10+2)=some (.int .i64 n4)/\H'.cell b (o+k.toNat*10+3)=some (.bool b2)/\H'.cell b (o+k.toNat*10+4)=some (.int .i64 n5)/\H'.cell b (o+k.toNat*10+5)=some (.slice a1 n6 c1)/\H'.cell b (o+k.toNat*10+6)=some (.bool b3)/\True)/\F a n2 c n3 n4 b2 n5 a1 n6 c1 b3:=by
 obtain⟨b,o,r,x,ha,hx,hr,hc⟩:=h.get h0 h1;obtain⟨q,rfl,hq⟩:=hr;have g:∀j v,(bR x q)[j]?=some v->H'.cell b (o+k.toNat*10+j)=some v:=fun j v hj=>Heap.aJ e (hc j v hj);exact⟨b,o,ha,h0,h1,_,_,_,_,_,_,_,_,_,_,_,⟨g 0 _ rfl,g 1 _ rfl,g 2 _ rfl,g 3 _ rfl,g 4 _ rfl,g 5 _ rfl,g 6 _ rfl,trivial⟩,hF x q hx hq⟩
theorem EU(e:aH G H){w:cY}{p:WA}(hw:lh G w p)(hn:BZ H p.na p.nl w.n){k:Int}(h0:0<=k)(h1:k<p.nl)(b:Nat):eZ Tryz.prog 180 [.pointer (some ⟨b,0,none⟩),.int .i64 k] [⟨b,false,41,aQ w p⟩] H fun v iy H'=>∃G',Grown G H G' H'/\Vj w p (eK w k.toNat) v iy G':=by
 refine TryzvcO Tryz.func180 (by kernel_rfl) (own:=[⟨b,false,41,aQ w p⟩]) (args:=[.loc 0 0,.v (.int .i64 k)]) (by kernel_rfl) (by intro s hs;simp at hs;rcases hs with rfl|rfl<;>simp[SV.wf]) _ (fun aa K=>YE b w.c.first.id w.c.aS p.fa p.ra p.wa p.fl p.fc p.rl p.rc p.wl p.wc w.h.l.aU w.h.l.ab w.h.l.nx w.h.l.ac p.la p.ka p.ll p.lc p.kl p.kc p.sa p.ta p.sl p.sc p.tl p.tc w.h.up p.na p.ma p.nl p.nc p.ml p.mc k aa H K) fun aa hb=>?_;refine hn.Zn (aH.refl _) h0 h1 fun x q hx hq=>fun b1=>?_;have hX:eK w k.toNat=gL w (eQ k.toNat x.a):=by unfold eK;rw[hx]
 have hm:eQ k.toNat x.a=⟨k,x.a.au,true,x.a.aP,⟨0,[]⟩⟩:=by unfold eQ;rw[Int.toNat_of_nonneg h0]
 rw[hX,hm];refine((Ts hw (m:=⟨k,x.a.au,true,x.a.aP,⟨0,[]⟩⟩) (a:=none) (l:=0) (c:=0) Sl.nil b).grown e).mono fun v iy H1 e1 hv=>?_;obtain⟨G',hG,p',hv,mD,hP,n1,n2,n3,n4⟩:=hv;exact⟨hv,rS mD fun _=>⟨G',hG,p',hv▸rfl,rfl,hP,n1,n2,n3,n4⟩⟩
section
variable {H : Heap} (hL : Lb H)
include hL
theorem Zo{w:cY}{p:WA}(hw:lh H w p){x:gX}{c:Nat}(b:Nat):eZ Tryz.prog 177 [.pointer (some ⟨b,0,none⟩),.agg #[.int .i64 x.ae,.int .i64 x.ah,.int .i64 x.cj,.bool x.aP,.slice a l c]] [⟨b,false,41,aQ w p⟩] H (Out w p (iz w x)):=by
 refine TryzvcO Tryz.func177 (by kernel_rfl) (own:=[⟨b,false,41,aQ w p⟩]) (args:=[.loc 0 0,.v (.agg #[.int .i64 x.ae,.int .i64 x.ah,.int .i64 x.cj,.bool x.aP,.slice a l c])]) (by kernel_rfl) (by intro s hs;simp at hs;rcases hs with rfl|rfl<;>simp[SV.wf]) _ (fun aa K=>YF b w.c.first.id w.c.aS p.fa p.ra p.wa p.fl p.fc p.rl p.rc p.wl p.wc w.h.l.aU w.h.l.ab w.h.l.nx w.h.l.ac p.la p.ka p.ll p.lc p.kl p.kc p.sa p.ta p.sl p.sc p.tl p.tc w.h.up p.na p.ma p.nl p.nc p.ml p.mc x.ae x.ah x.cj x.aP a l c aa H K) fun aa hb=>fun b1=>?_;have qu:=hw.ji.bX.len
 have Pp:∀ {y:cY} {p1:WA} {H1:Heap} (m:df) {qa:O} {ql qc:Nat},lh H1 y p1->aL H1 qa ql m.cB.ap->p1.na=p.na/\p1.nl=p.nl/\p1.nc=p.nc->y.n=w.n->iz w x= .ok (gL y m)->
   eZ Tryz.prog 221 [.pointer (some ⟨b,0,none⟩),od m qa ql qc] [⟨b,false,41,aQ y p1⟩] H1 fun v iy H'=>v= .tuple #[]/\Out w p (iz w x) (i64 0) iy H':=by
  intro y p1 H1 m qa ql qc hy hq Ft hyn hT;refine(Ts hy hq b).mono fun v iy H2 e2 hv=>?_;obtain⟨p',hv,mD,hP,n1,n2,n3,n4⟩:=hv;rw[hT];exact⟨hv,p',rfl,mD,hP,n1.trans Ft.1,n2.trans Ft.2.1,n3.trans Ft.2.2,n4.trans hyn⟩
 have tail:∀ {H1:Heap} (e1:aH H H1) {qa:O} {ql:Nat},dU w.c w.h.l x.ah=0->aL H1 qa ql (ez w.c w.h.l x.ah).ap->∀a1,w.h.l.bX[x.ah.toNat]?=some a1->x.ae=4->
   (¬a1.st=1->Out w p (iz w x) (i64 7) [aQ w p] H1)/\((a1.ac !=w.h.l.ac)=true->Out w p (iz w x) (i64 7) [aQ w p] H1)/\(a1.st=1->¬(a1.ac !=w.h.l.ac)=true->iz w x= .ok (gL w ⟨x.ah,a1.au,false,false,ez w.c w.h.l x.ah⟩)):=by
  intro H1 e1 qa ql hT hq a1 ha hk
  have hE:iz w x=if a1.st≠1∨a1.ac≠w.h.l.ac then .error 7 else .ok (gL w ⟨x.ah,a1.au,false,false,ez w.c w.h.l x.ah⟩):=by
   unfold iz;rw[nI (by omega),pI hk,ha]
  refine⟨fun h=>Out.bad (by rw[hE,pI (.inl h)]) (hw.ext e1),fun h=>Out.bad (by rw[hE,pI (.inr (by simpa using h))]) (hw.ext e1),fun h1 h2=>by rw[hE,nI (by rintro(h|h);exact h h1;exact h2 (by simpa using h))]⟩
 have bad:∀ {H1:Heap} (e1:aH H H1),¬dU w.c w.h.l x.ah=0->Out w p (iz w x) (i64 (dU w.c w.h.l x.ah)) [aQ w p] H1:=fun e1 h=>Out.bad (by unfold iz;rw[pI h]) (hw.ext e1)
 have rng:dU w.c w.h.l x.ah=0->0<=x.ah/\x.ah<p.kl/\∃a1,w.h.l.bX[x.ah.toNat]?=some a1:=fun h=>by
  obtain⟨_,h1,h2,_⟩:=EM h;exact⟨h1,by omega,_,zu (by omega)⟩
 refine⟨(O9 hw.iw hw.ji x.ah).turn fun qa ql qc H1 e1 fh hq=>fun b3=>⟨fun h=>bad e1 h,fun h=>?_⟩,fun b2=>(O9 hw.iw hw.ji x.ah).turn fun qa ql qc H1 e1 fh hq=>⟨fun h=>bad e1 h,fun h=>?_⟩⟩
 all_goals
  have hT:=zx.1 h;obtain⟨k0,k1,_,_⟩:=rng hT;refine⟨fun hk=>hw.ji.bX.kn e1 k0 k1 fun a2 Us=>fun b4=>?_,fun hk=>?_⟩
  ·obtain⟨t1,t2,t3⟩:=tail e1 hT hq a2 Us hk;refine⟨t1,fun h1=>⟨_,mV,t2,fun h2=>?_⟩⟩;have hE:=t3 (zx.1 h1) h2;refine(Pp ⟨x.ah,a2.au,false,false,ez w.c w.h.l x.ah⟩ (hw.ext e1) hq ⟨rfl,rfl,rfl⟩ rfl hE).mono fun v iy H2 e2 hv=>?_;obtain⟨hv,hO⟩:=hv;have C2:=hO;obtain⟨p',_,mD,_⟩:=hO;rw[mD] at C2;exact⟨hv,rS mD fun _=>C2⟩
  ·have K3:=JG (hL.ext e1) (hw.ext e1) (r:=⟨6,x.ah,w.h.l.nx,0,false,⟨0,[]⟩⟩) (qa:=none) (ql:=0) (qc:=0) Sl.nil b
   cases hl:eJ w ⟨6,x.ah,w.h.l.nx,0,false,⟨0,[]⟩⟩ with
   |error e=>
    rw[hl] at K3;refine K3.mono fun v iy H2 e2 hv=>?_;obtain⟨p1,rfl,mD,hP,n1,n2,n3,n4⟩:=hv;have hE:iz w x= .error e:=by unfold iz;rw[nI (by omega),nI hk,hl]
    refine⟨_,rfl,rS mD fun dZ=>⟨fun h0=>?_,fun h0=>absurd (zx.1 h0) (wE hl)⟩⟩;rw[hE]
    exact⟨p1,rfl,rfl,hP,n1,n2,n3,rfl⟩
   |ok y=>
    rw[hl] at K3;refine K3.mono fun v iy H2 e2 hv=>?_;obtain⟨p1,rfl,mD,hP,n1,n2,n3,n4⟩:=hv;have hE:iz w x= .ok (gL y ⟨x.ah,w.h.l.nx,false,false,ez w.c w.h.l x.ah⟩):=by unfold iz;rw[nI (by omega),nI hk,hl]
    refine⟨_,rfl,rS mD fun dZ=>⟨fun h0=>absurd rfl h0,fun h0=>?_⟩⟩;refine(Pp (y:=y) (p1:=p1) ⟨x.ah,w.h.l.nx,false,false,ez w.c w.h.l x.ah⟩ hP (hq.ext' e2) ⟨n1,n2,n3⟩ n4 hE).mono fun v iy H3 e3 hv=>?_;obtain⟨hv,hO⟩:=hv;have C2:=hO;obtain⟨p',_,mD,_⟩:=hO;rw[mD] at C2;exact⟨hv,rS mD fun _=>C2⟩
end
open Go
theorem dY.set{α:Type}{R:jq α}{r:List Value}{x:α}(h:R H r x):∀ {rs:List (List Value)} {xs:List α} {k:Nat},dY R H rs xs->dY R H (rs.set k r) (xs.set k x)
 | [],[],_,_=>trivial
 |_::_,_::_,0,k=>⟨h,k.2⟩
 |_::_,_::_,_+1,k=>⟨k.1,dY.set h k.2⟩
theorem Dk{rows:List (List Value)}{r:List Value}(hr:rows[k]?=some r)(hw:∀x∈rows,x.length=sz)(ho:off+vs.length<=sz):
  aV rows.flatten (k*sz+off) vs=(rows.set k (aV r off vs)).flatten:=by
 obtain⟨hk,hrk⟩:=zw.1 hr
 have Vk:rows=rows.take k++r::rows.drop (k+1):=by
  rw[←hrk,←List.drop_eq_getElem_cons hk,List.take_append_drop]
 have Oq:∀x∈rows.take k,x.length=sz:=fun x hx=>hw x (zH hx);have hlen:(rows.take k).length=k:=by rw[zF];omega
 have h1:=Be (sz:=sz) (rs:=rows.take k) (r:=r) (ss:=rows.drop (k+1)) Oq (hw r (zt hr)) (k:=off) (vs:=vs) ho;rw[hlen,←Vk] at h1;rw[h1,List.set_eq_take_append_cons_drop,pI hk]
section
variable {α : Type} {R : jq α} {sz : Nat} {e : TypeId} {aa : Nat} {G H H' : Heap} {a : O} {n c : Nat} {rows : List (List Value)} {xs : List α}
theorem bV.put(h:bV R sz e aa G H a n c rows xs){r:List Value}(hr:rows[k]?=some r)(ho:off+vs.length<=sz)(Zp:o=k*sz+off)(ha:a=some ⟨b,0,none⟩)(hc:c≠0)(hb:H b=some kb)
  (hu:kW H b o kb vs H') {y:α} (hy:R G (aV r off vs) y):bV R sz e aa G H' a n c (rows.set k (aV r off vs)) (xs.set k y):=by
 subst Zp;have hk:=(zw.1 hr).1
 have hle:k*sz+off+vs.length<=rows.flatten.length:=by
  rw[iX h.wid];have:(k+1)*sz<=rows.length*sz:=Nat.mul_le_mul_right _ hk;rw[yz] at this;omega
 refine⟨?_,fun x hx=>?_,dY.set hy h.all,fun x kx hx=>?_,h.clear⟩
 ·rw[←Dk hr h.wid ho];exact h.row.N2 ha hc hb hle hu
 ·rcases List.mem_or_eq_of_mem_set hx with hx|rfl
  ·exact h.wid x hx
  ·rw[fG];exact h.wid r (zt hr)
 ·rw[hu.there x (fun e=>by rw[e,h.clear hc b ha] at hx;cases hx)];exact h.sub x kx hx
end
theorem oH{r:List Value}(h:r.length=vs.length):aV r 0 vs=vs:=by
 rw[ia _ _ _ (by omega)];simp[h]
open Go Go.Proofs
structure mE(aa:Nat)(G H:Heap)(w:cY)(p:WA)(rows:List (List Value)):Prop where
 parts:lh G w p
 dH:bV dW 10 58 aa G H p.na p.nl p.nc rows w.n
theorem mE.ck{w:cY}{p:WA}{rows:List (List Value)}(h:mE aa G H w p rows):bB H w p:=
 ⟨(h.parts.ext h.dH.sub).iw,(h.parts.ext h.dH.sub).ji,(h.parts.ext h.dH.sub).iD,h.dH.sl dW.mono (by omega),(h.parts.ext h.dH.sub).cZ⟩
theorem mE.ext{w:cY}{p:WA}{rows:List (List Value)}(h:mE aa G H w p rows)(e:aH H H'):mE aa G H' w p rows:=⟨h.parts,h.dH.ext e⟩
theorem mE.grown{w:cY}{p:WA}{rows:List (List Value)}(h:mE aa G H w p rows)(g:Grown G H G' H'):mE aa G' H' w p rows:=
 ⟨h.parts.ext g.ext,h.dH.row.ext g.cR,h.dH.wid,h.dH.all.mono dW.mono g.ext,g.sub,fun hc b hb=>by
  cases hg:G' b with
  |none=>rfl
  |some k=>
   have h1:=g.im b k hg (h.dH.clear hc b hb);obtain⟨b',k',h2,h3⟩:=h.dH.block hc;rw[hb] at h2;simp at h2;subst h2
   rw[h1] at h3;cases h3⟩
theorem mE.be{w w':cY}{p p':WA}{rows:List (List Value)}(h:mE aa G H w p rows)(hp:lh G w' p')(h1:p'.na=p.na)(h2:p'.nl=p.nl)(h3:p'.nc=p.nc)(hn:w'.n=w.n):mE aa G H w' p' rows:=
 ⟨hp,by rw[h1,h2,h3,hn];exact h.dH⟩
theorem mE.apart{w:cY}{p:WA}{rows:List (List Value)}(h:mE aa G H w p rows){k:KB}(hx:G x=some k):p.nc=0∨p.na≠some ⟨x,0,none⟩:=by
 by_cases hc:p.nc=0
 ·exact .inl hc
 ·exact .inr fun e=>by rw[h.dH.clear hc x e] at hx;cases hx
abbrev jw(x:gX)(a:O)(l c:Nat):Value:= .agg #[.int .i64 x.ae,.int .i64 x.ah,.int .i64 x.cj,.bool x.aP,.slice a l c]
structure iH(aa:Nat)(G H:Heap)(w:cY)(p:WA)(rows:List (List Value))(x:gX)(a:O)(l:Nat):Prop where
 lb:Lb G
 ok:fp w=0
 own:mE aa G H w p rows
 ap:aL G a l x.ap
structure dN(aa:Nat)(G H:Heap)(p:WA)(w':cY)(p':WA)(G':Heap)(rows':List (List Value))(H':Heap):Prop where
 ext:aH G G'
 im:∀y k,G' y=some k->G y=none->H y=none
 own:mE aa G' H' w' p' rows'
 cR:∀y k,H y=some k->(p.nc=0∨p.na≠some ⟨y,0,none⟩)->H' y=some k
 still:∀y,H y≠none->H' y≠none
 same:p'.na=p.na/\p'.nl=p.nl/\p'.nc=p.nc
theorem dN.start{w:cY}{p:WA}{rows:List (List Value)}(h:mE aa G H w p rows):dN aa G H p w p G rows H:=⟨aH.refl _,fun y k h1 h2=>(by rw[h1] at h2;cases h2),h,fun _ _ h _=>h,fun _ h=>h,rfl,rfl,rfl⟩
theorem dN.grown{p:WA}{w:cY}{p':WA}{rows:List (List Value)}(h:dN aa G H p w p' G' rows H')(g:Grown G' H' G'' tV):dN aa G H p w p' G'' rows tV:=
 ⟨aH.trans h.ext g.ext,fun y k hy hn=>by
  cases hg:G' y with
  |some z=>exact h.im y z hg hn
  |none=>
   have h1:=g.im y k hy hg
   cases hh:H y with
   |none=>rfl
   |some z=>exact absurd h1 (h.still y (by rw[hh];simp)),h.own.grown g,fun y k hy hc=>g.cR y k (h.cR y k hy hc),fun y hy=>by
  have h1:=h.still y hy
  cases hh:H' y with
  |none=>exact absurd hh h1
  |some k=>rw[g.cR y k hh];simp,h.same⟩
theorem dN.be{p:WA}{w w':cY}{p' Vl:WA}{rows:List (List Value)}(h:dN aa G H p w p' G' rows H')(hp:lh G' w' Vl)(h1:Vl.na=p'.na)(h2:Vl.nl=p'.nl)(h3:Vl.nc=p'.nc)(hn:w'.n=w.n):dN aa G H p w' Vl G' rows H':=
 ⟨h.ext,h.im,h.own.be hp h1 h2 h3 hn,h.cR,h.still,h1.trans h.same.1,h2.trans h.same.2.1,h3.trans h.same.2.2⟩
theorem dW.Zq{x:ke}{q:NA}(h:kP G x q){a:lS}{xa:O}{xl xc:Nat}(h1:aL G xa xl a.ap)(h2:aL G ga gl a.ab.ap):
  dW G (aV (bR x q) 0 [.slice xa xl xc,.int .i64 a.ck,.int .i64 a.au,.bool a.going,.int .i64 a.ab.id,.slice ga gl gc,.bool a.aP]) { x with a:=a } :=
 ⟨{ q with xa:=xa,xl:=xl,xc:=xc,ga:=ga,gl:=gl,gc:=gc },rfl,h1,h2,h.iD⟩
theorem dW.Zr{x:ke}{q:NA}(h:kP G x q){ua va:O}{ul uc vl vc:Nat}(h1:cr G d ua ul uc va vl vc):
  dW G (aV (bR x q) 7 [.slice ua ul uc,.slice va vl vc]) { x with d:=d } :=
 ⟨{ q with ua:=ua,ul:=ul,uc:=uc,va:=va,vl:=vl,vc:=vc },rfl,h.ap,h.ab,h1⟩
theorem mE.node{w:cY}{p:WA}{rows:List (List Value)}(h:mE aa G H w p rows){n:ke}(hn:w.n[k]?=some n):
  ∃(b:Nat)(kb:KB)(q:NA),p.na=some ⟨b,0,none⟩/\aa<=b/\p.nc≠0/\H b=some kb/\kb.free=true/\k<p.nl/\k*10+10<=kb.size/\rows[k]?=some (bR n q)/\kP G n q/\∀j v,(bR n q)[j]?=some v->H.cell b (k*10+j)=some v:=by
 obtain⟨r1,r2⟩:=h.dH.mb (by omega);have hk:=(zw.1 hn).1;obtain⟨b,kb,h1,h2,h3,h4,h5,h6,h7⟩:=h.dH.row.block (by omega);have fH:rows[k]?=some (rows[k]'(by omega)):=zu (by omega);obtain⟨q,hq,Ff⟩:=h.dH.all.get fH hn;have hle:p.nl<=p.nc:=h.dH.row.2.1;refine⟨b,kb,q,h1,h2,h3,h4,h5,by omega,by rw[h6];omega,by rw[fH,hq],Ff,fun j v hj=>?_⟩;have FT:=(zw.1 hj).1;have hj10:j<10:=by simpa using FT
 unfold Heap.cell;rw[h4];refine h7 _ _ ?_
 have hs:rows=rows.take k++bR n q::rows.drop (k+1):=by
  rw[←hq,←List.drop_eq_getElem_cons (by omega),List.take_append_drop]
 have hl:(rows.take k).flatten.length=k*10:=by
  rw[iX (sz:=10) fun r hr=>h.dH.wid r (zH hr),zF]
  congr 1;omega
 rw[hs,zI,zY (by omega),hl,show k*10+j-k*10=j from by omega,zW,zU (by simpa using FT)];exact hj
theorem dN.put{p:WA}{w:cY}{p':WA}{rows:List (List Value)}(h:dN aa G H p w p' G' rows H'){r:List Value}(hr:rows[k]?=some r)(ho:off+vs.length<=10)(Zp:o=k*10+off)(ha:p'.na=some ⟨b,0,none⟩)(hc:p'.nc≠0)(hb:H' b=some kb)
  (hu:kW H' b o kb vs tV) {y:ke} (hy:dW G' (aV r off vs) y):dN aa G H p { w with n:=w.n.set k y } p' G' (rows.set k (aV r off vs)) tV:=by
 have hO:=h.own.dH.put hr ho Zp ha hc hb hu hy;refine⟨h.ext,h.im,⟨⟨h.own.parts.iw,h.own.parts.ji,h.own.parts.iD,h.own.parts.cZ,h.own.parts.room⟩,hO⟩,fun x k hx Zs=>?_,fun x hx=>?_,h.same⟩
 ·have eE:x≠b:=fun e=>by
   subst e;rcases Zs with h0|h0
   ·exact hc (h.same.2.2.trans h0)
   ·exact h0 (h.same.1.symm.trans ha)
  rw[hu.there x eE];exact h.cR x k hx Zs
 ·by_cases e:x=b
  ·subst e;rw[hu.here];simp
  ·rw[hu.there x e];exact h.still x hx
open Go Go.Proofs
abbrev La(m1:Heap)(g aa o:Nat)(s:O)(t u:Nat)(v w:Int)(x:Bool)(y:Int)(z:O)(a1 b1:Nat)(c1:Bool)(n1:O)(o1 p1:Nat)(q1:O)(r1 s1:Nat)(f:SV->List Bx->Heap->Prop)(t1:Int)(w2:LB):Prop:=
 ∃v1:KB,m1 g=some v1/\KB.free v1=true/\aa<=g/\o+7<=KB.size v1/\∀w1:Heap,kW m1 g o v1 [S s t u,U v,U w,B x,U y,S z a1 b1,B c1] w1->∃x1:KB,w1 g=some x1/\KB.free x1=true/\aa<=g/\o+7+2<=KB.size x1/\∀y1:Heap,kW w1 g (o+7) x1 [S n1 o1 p1,S q1 r1 s1] y1->f (SV.v (U t1)) w2 y1
abbrev Tt(d1:Int)(f:SV->List Bx->Heap->Prop)(a:Nat)(kd ag rt n:Int)(rg:Bool)(Fm:Int)(qa:O)(ql qc e1:Nat)(s:O)(t u:Nat)(v w:Int)(x:Bool)(y:Int)(z:O)(a1 b1:Nat)(c1:Bool)(r:Heap)(g o aa:Nat):Prop:=
 (¬d1=0->f (SV.v (U d1)) [J a false 126 [U kd,U ag,U rt,U n,B rg,U Fm,S qa ql qc],J e1 false 46 [S s t u,U v,U w,B x,U y,S z a1 b1,B c1]] r)/\(¬¬d1=0->∃(f1:O)(g1 h1:Nat)(i1:O)(j1 k1:Nat),(fun w4:LV=>(C r g (o+7)=some (S f1 g1 h1)/\C r g (o+7+1)=some (S i1 j1 k1)/\True)/\(Y 219 w4 r fun l1 m1=>∃n1 o1 p1 q1 r1 s1 t1,l1=T #[A #[S n1 o1 p1,S q1 r1 s1],U t1]/\(X aa r m1->∀u1:Nat,(fun w2:LB=>(t1=0->(La m1 g aa o s t u v w x y z a1 b1 c1 n1 o1 p1 q1 r1 s1 f t1 w2)/\La m1 g aa o s t u v w x y z a1 b1 c1 n1 o1 p1 q1 r1 s1 f t1 w2)/\(¬t1=0->f (SV.v (U t1)) w2 m1)) [J a false 126 [U kd,U ag,U rt,U n,B rg,U Fm,S qa ql qc],J e1 false 46 [S s t u,U v,U w,B x,U y,S z a1 b1,B c1],J u1 false 35 [S n1 o1 p1,S q1 r1 s1]]))/\∀l1:Nat,Y 219 w4 r fun m1 n1=>∃o1 p1 q1 r1 s1 t1,(fun w3:LB=>∃u1,m1=T #[A #[S o1 p1 q1,S r1 s1 t1],U u1]/\(X aa r n1->(u1=0->(La n1 g aa o s t u v w x y z a1 b1 c1 o1 p1 q1 r1 s1 t1 f u1 w3)/\La n1 g aa o s t u v w x y z a1 b1 c1 o1 p1 q1 r1 s1 t1 f u1 w3)/\(¬u1=0->f (SV.v (U u1)) w3 n1))) [J a false 126 [U kd,U ag,U rt,U n,B rg,U Fm,S qa ql qc],J e1 false 46 [S s t u,U v,U w,B x,U y,S z a1 b1,B c1],J l1 false 35 [S o1 p1 q1,S r1 s1 t1]]) [A #[S f1 g1 h1,S i1 j1 k1],A #[U kd,U ag,U rt,U n,B rg,U Fm,S qa ql qc]])
theorem Zt(g o:Nat)(kd ag rt n Fm:Int)(rg:Bool)(qa:O)(ql qc:Nat)(aa:Nat)(H0:Heap)(H:Heap)(f:SV->List Bx->Heap->Prop):
 (ld ⟨Tryz.prog,Tryz.f218.ntmps,⟨TryzListK,TryzSum,true⟩,aa,H0⟩ Tryz.f218 [.v (.pointer (some ⟨g,o,none⟩)),.v (A #[U kd,U ag,U rt,U n,B rg,U Fm,S qa ql qc])] [] H f)=(
 ∀a:Nat,∃(b:O)(c d:Nat)(e h:Int)(i:Bool)(j:Int)(k:O)(l m:Nat)(p:Bool),(fun w8:LV=>(C H g o=some (S b c d)/\C H g (o+1)=some (U e)/\C H g (o+2)=some (U h)/\C H g (o+3)=some (B i)/\C H g (o+4)=some (U j)/\C H g (o+5)=some (S k l m)/\C H g (o+6)=some (B p)/\True)/\(Y 145 w8 H fun q r=>∃s t u v w x y z a1 b1 c1 d1,q=T #[A #[S s t u,U v,U w,B x,U y,S z a1 b1,B c1],U d1]/\(X aa H r->∀e1:Nat,Tt d1 f a kd ag rt n rg Fm qa ql qc e1 s t u v w x y z a1 b1 c1 r g o aa))/\∀q:Nat,Y 145 w8 H fun r s=>∃t u v w x y z a1 b1 c1 d1 e1,r=T #[A #[S t u v,U w,U x,B y,U z,S a1 b1 c1,B d1],U e1]/\(X aa H s->Tt e1 f a kd ag rt n rg Fm qa ql qc q t u v w x y z a1 b1 c1 d1 s g o aa)) [A #[S b c d,U e,U h,B i,U j,S k l m,B p],A #[U kd,U ag,U rt,U n,B rg,U Fm,S qa ql qc]]):=by kernel_rfl
open Go Go.Proofs
def Zu(n:ke):Except Int ke->ke
 | .ok y=>y
 | .error _=>n
structure qh(aa:Nat)(G H:Heap)(n:ke)(q:NA)(r:bD)(qa:O)(ql b o:Nat)(kb:KB):Prop where
 lb:Lb G
 sub:aH G H
 clear:G b=none
 dH:kP G n q
 cB:aL G qa ql r.cB.ap
 ck:H b=some kb
 free:kb.free=true
 own:aa<=b
 room:o+10<=kb.size
 cells:∀j v,(bR n q)[j]?=some v->kb.cells (o+j)=some v
structure kQ(G H:Heap)(n:ke)(q:NA)(r:bD)(b o:Nat)(kb:KB)(e:Int)(n':ke)(q':NA)(vP:KB)(G' H':Heap):Prop where
 ext:aH G G'
 sub:aH G' H'
 im:∀x k,G' x=some k->G x=none->H x=none
 dH:kP G' n' q'
 ck:H' b=some vP
 ty:vP.ty=kb.ty
 size:vP.size=kb.size
 free:vP.free=true
 cells:∀j v,(bR n' q')[j]?=some v->vP.cells (o+j)=some v
 rest:∀j,(j<o∨o+10<=j)->vP.cells j=kb.cells j
 cR:∀x k,x≠b->H x=some k->H' x=some k
 err:e=bN (dV n r)
 res:n'=Zu n (dV n r)
theorem Pq{kc:Nat->Option Value}{A D x:List Value}(hA:A.length=7)(hD:D.length=2)(hx:x.length=10)(h9:∀v,x[9]?=some v->kc (o+9)=some v)(hA':x.take 7=A)(hD':(x.drop 7).take 2=D):∀j v,x[j]?=some v->gA (gA kc o A) (o+7) D (o+j)=some v:=fun j v hj=>by
 have FT:=(zw.1 hj).1;unfold gA;by_cases h1:j<7
 ·rw[nI (by omega),pI (by omega),show o+j-o=j from by omega,←hA',zD,pI h1];exact hj
 by_cases h2:j<9
 ·rw[pI (by omega),show o+j-(o+7)=j-7 from by omega,←hD',zD,pI (by omega),List.getElem?_drop,show 7+(j-7)=j from by omega];exact hj
 ·obtain rfl:j=9:=by omega
  rw[nI (by omega),nI (by omega)];exact h9 v hj
theorem Ry{H0:Heap}{n:ke}{q:NA}(h:qh aa G H n q r qa ql b o kb){f:SV->List Bx->Heap->Prop}
  (hf:∀e n' q' vP G' H' cV,kQ G H n q r b o kb e n' q' vP G' H'->f (.v (.int .i64 e)) cV H'):
  ld ⟨Tryz.prog,Tryz.f218.ntmps,⟨TryzListK,TryzSum,true⟩,aa,H0⟩ Tryz.f218 [.v (.pointer (some ⟨b,o,none⟩)),.v (gU r qa ql qc)] [] H f:=by
 rw[Zt];have c:∀j v,(bR n q)[j]?=some v->H.cell b (o+j)=some v:=fun j v hj=>by unfold Heap.cell;rw[h.ck];exact h.cells j v hj
 have still:∀ {G1 H1:Heap},Grown G H G1 H1->kQ G H n q r b o kb (bN (dV n r)) n q kb G1 H1∨ ∃y,dV n r= .ok y:=fun{G1 H1} g=>by
  cases hd:dV n r with
  |ok y=>exact .inr ⟨y,rfl⟩
  |error e=>exact .inl ⟨g.ext,g.sub,g.im,h.dH.ext g.ext,g.cR _ _ h.ck,rfl,rfl,h.free,h.cells,fun _ _=>rfl,fun x k _ hx=>g.cR x k hx,by rw[hd],by rw[hd];rfl⟩
 have out:∀ {G2 H2:Heap},Grown G H G2 H2->G2 b=none:=fun{G2 H2} g=>by
  cases hg:G2 b with
  |none=>rfl
  |some k=>have:=g.im b k hg h.clear;rw[h.ck] at this;cases this
 refine fun b1=>⟨_,_,_,_,_,_,_,_,_,_,_,⟨c 0 _ rfl,c 1 _ rfl,c 2 _ rfl,c 3 _ rfl,c 4 _ rfl,c 5 _ rfl,c 6 _ rfl,trivial⟩,?_,fun b3=>?_⟩
 all_goals
  refine((To (r:=r) h.dH.ap h.dH.ab h.cB).grown h.sub).mono fun v H1 e1 hv=>?_;obtain⟨G1,g1,a1,n1,c1,Pl,gn1,Pm,rfl,p1,p2⟩:=hv;refine⟨_,_,_,_,_,_,_,_,_,_,_,_,rfl,fun fh=>?_⟩
  try intro b5
  refine⟨fun he=>?_,fun he=>?_⟩
  ·have hX:dV n r= .error (bw n.a r):=by unfold dV;rw[pI he]
   rcases still g1 with hp|⟨y,hy⟩
   ·rw[hX] at hp;exact hf _ _ _ _ _ _ _ hp
   ·rw[hX] at hy;cases hy
  ·have he:=zx.1 he;have hV:dS n.a r=bW n.a r:=by unfold dS;rw[pI he]
   rw[hV] at p1 p2⊢;have c':∀j v,(bR n q)[j]?=some v->H1.cell b (o+j)=some v:=fun j v hj=>Heap.aJ g1.cR (c j v hj);refine⟨_,_,_,_,_,_,⟨c' 7 _ rfl,c' 8 _ rfl,trivial⟩,?_,fun b6=>?_⟩
   all_goals
    refine((Hy (h.lb.ext g1.ext) (h.dH.iD.ext g1.ext) (h.cB.ext' g1.ext)).grown g1.sub).mono fun v H2 e2 hv=>?_;obtain⟨G2,g2,sa,sl,sc,ta,tl,tc,rfl,hD⟩:=hv;have g12:=g1.trans g2;refine⟨_,_,_,_,_,_,_,rfl,fun dZ=>?_⟩
    try intro b7
    refine⟨fun h0=>?_,fun h0=>?_⟩
    ·cases hd:aY n.d r with
     |error e=>rw[hd] at h0;exact absurd h0 (ig hd)
     |ok d=>
      rw[hd] at hD;have hX:dV n r= .ok ⟨bW n.a r,d,n.up⟩:=by unfold dV;rw[nI (by omega),hd]
      have fin:∀cV,∃(k:KB),H2 b=some k/\KB.free k=true/\aa<=b/\o+7<=KB.size k/\∀(H':Heap),kW H2 b o k [.slice a1 n1 c1,.int .i64 (bW n.a r).ck,.int .i64 (bW n.a r).au,.bool (bW n.a r).going,.int .i64 (bW n.a r).ab.id,.slice Pl gn1 Pm,.bool (bW n.a r).aP] H'->
        ∃(k:KB),H' b=some k/\KB.free k=true/\aa<=b/\o+7+2<=KB.size k/\∀(rz:Heap),kW H' b (o+7) k [.slice sa sl sc,.slice ta tl tc] rz->f (SV.v (.int .i64 (bN (yY (ε:=Int) d)))) cV rz:=fun cV=>by
       refine⟨kb,g12.cR _ _ h.ck,h.free,h.own,by have:=h.room;omega,fun H3 DT=>⟨_,DT.here,h.free,h.own,by have:=h.room;show o+7+2<=kb.size;omega,fun H4 V4=>?_⟩⟩;refine hf _ ⟨bW n.a r,d,n.up⟩ { q with xa:=a1,xl:=n1,xc:=c1,ga:=Pl,gl:=gn1,gc:=Pm,ua:=sa,ul:=sl,uc:=sc,va:=ta,vl:=tl,vc:=tc } _ G2 H4 cV ⟨g12.ext,fun x k hx=>?_,g12.im,⟨p1.ext' g2.ext,p2.ext' g2.ext,hD⟩,V4.here,rfl,rfl,h.free,?_,fun j hj=>?_,fun x k eE hx=>?_,by rw[hX];rfl,by rw[hX];rfl⟩
       ·have eE:x≠b:=fun e=>by rw[e,out g12] at hx;cases hx
        rw[V4.there x eE,DT.there x eE];exact g12.sub x k hx
       ·exact Pq rfl rfl rfl (fun v hv=>h.cells 9 v hv) rfl rfl
       ·show gA (gA kb.cells o _) (o+7) _ j=kb.cells j
        unfold gA;simp only[zi,zX];rw[nI (by omega),nI (by omega)]
       ·rw[V4.there x eE,DT.there x eE];exact g12.cR x k hx
      exact⟨fin _,fin _⟩
    ·cases hd:aY n.d r with
     |ok d=>rw[hd] at h0;exact absurd rfl h0
     |error e=>
      have hX:dV n r= .error e:=by unfold dV;rw[nI (by omega),hd]
      rcases still g12 with hp|⟨y,hy⟩
      ·rw[hX] at hp;exact hf _ _ _ _ _ _ _ hp
      ·rw[hX] at hy;cases hy
def Pr(own:List Bx):Bool:=own.all fun y=> !y.map
def Zv(aa:Nat)(own:List Bx)(H:Heap)(f:SV->List Bx->Heap->Prop)(b o:Nat)(v:Value):Prop:=
 ∃(G:Heap)(n:ke)(q:NA)(r:bD)(qa:O)(ql qc:Nat)(kb:KB),(v=gU r qa ql qc/\Pr own=true)/\qh aa G H n q r qa ql b o kb/\
  ∀(e:Int)(n':ke)(q':NA)(vP:KB)(G' H':Heap),kQ G H n q r b o kb e n' q' vP G' H'->f (.v (.int .i64 e)) own H'
noncomputable def TryzInS:jV:=qT Tryz.prog TryzListK [(218,Tryz.f218)] TryzSum
theorem TryzinS(j:Bool):fy Tryz.prog ⟨TryzListK,TryzInS,j⟩:=rf (TryzsumK true) Tryzmixed fun p hp=>by
 simp only[zm,List.not_mem_nil,or_false] at hp;subst hp;exact⟨Tryz.func218,dK (by kernel_rfl),ij (by kernel_rfl),by decide⟩
noncomputable def TryzSumS:jV:=fun aa H0 g pre own H f=>
 if g=218 then(match pre with
  | [.v (.pointer (some ⟨b,o,none⟩)),.v v]=>some (Zv aa own H f b o v)
  |_=>none)
 else TryzSum aa H0 g pre own H f
theorem TryzsumS(j:Bool):fy Tryz.prog ⟨TryzListK,TryzSumS,j⟩:=by
 intro aa H0 g pre own H f p hp;unfold TryzSumS at hp;dsimp only at hp;split at hp
 ·rename_i e;subst e;split at hp
  ·rename_i b o v;obtain rfl:=zy hp;refine⟨by show TryzListK.contains 218=true;decide,fun h C w0 bc w fN Xq hw oJ=>?_⟩;subst fN Xq;obtain⟨G,n,q,r,qa,ql,qc,kb,⟨rfl,Wn⟩,mq,hf⟩:=h
   have hm:∀y∈own,y.map=false:=fun y hy=>by
    have:=yf.1 Wn y hy;simpa using this
   have hid:=hw.aE.hid
   have IH:H w.heap.size=none:=by
    cases hh:H w.heap.size with
    |none=>rfl
    |some k=>have:=hw.dI.lt hh;omega
   have LN:∀y∈own,y.b≠b:=fun y hy e=>by have:=hid y hy;rw[e,mq.ck] at this;cases this
   have Ps:qh C.aa G (dR own w.heap.size H) n q r qa ql b o kb:=⟨mq.lb,aH.trans mq.sub (jR IH),mq.clear,mq.dH,mq.cB,jR IH _ _ mq.ck,mq.free,mq.own,mq.room,mq.cells⟩
   have kA:=JD (TryzinS true) hw hm (g:=218) (pre:=[.v (.pointer (some ⟨b,o,none⟩)),.v (gU r qa ql qc)]) (by intro s hs;simp at hs;rcases hs with rfl|rfl<;>trivial) (R:=fun x=>x=b) (fun y hy=>LN y hy)
    (post:=fun v H1=>∃(e:Int)(n':ke)(q':NA)(vP:KB)(G':Heap),v= .int .i64 e/\kQ G (dR own w.heap.size H) n q r b o kb e n' q' vP G' H1) (fun H0=>by
     refine⟨_,rfl,?_⟩
     refine Ry Ps fun e n' q' vP G' H1 cV hp=>⟨fun x k hx eE=>hp.cR x k eE hx,e,n',q',vP,G',rfl,hp⟩)
   refine kA.mono fun e w' he=>?_;obtain⟨v,H1,rfl,⟨e,n',q',vP,G',rfl,hp⟩,oU,Fi⟩:=he;refine⟨_,own,gZ own H1,rfl,hf e n' q' vP G' _ ⟨hp.ext,fun x k hx=>?_,fun x k hx hn=>?_,hp.dH,?_,hp.ty,hp.size,hp.free,hp.cells,hp.rest,fun x k eE hx=>xI hid IH hx fun hs=>oU x k hs eE,hp.err,hp.res⟩,aW.refl _,Fi⟩
   ·unfold gZ
    cases hl:jt own x with
    |none=>exact hp.sub x k hx
    |some k'=>
     exfalso;obtain⟨y,hy,rfl,_⟩:=eW hl
     cases hg:G y.b with
     |some k2=>have:=mq.sub _ _ hg;rw[hid y hy] at this;cases this
     |none=>
      have h1:=hp.im _ _ hx hg;unfold dR at h1;rw[nI (fun e=>by have:=Bx.qo (hw.aE.ok y hy);omega),hid y hy] at h1;rw[hl] at h1;cases h1
   ·have h1:=hp.im x k hx hn;unfold dR at h1;split at h1
    ·rename_i e;rw[e];exact IH
    ·split at h1
     ·cases h1
     ·rename_i hh;exact hh
   ·unfold gZ
    cases hl:jt own b with
    |none=>exact hp.ck
    |some k'=>
     exfalso;obtain⟨y,hy,B2,_⟩:=eW hl;exact LN y hy B2
  ·cases hp
 ·exact TryzsumK j aa H0 g pre own H f p hp
open Go Go.Proofs
abbrev Tu(j m:Int)(n:O)(o p aa:Nat)(d:Heap)(s t:Nat)(i:Int)(f:SV->List Bx->Heap->Prop)(w5:LB):Prop:=
 ∃(x:Heap)(y:ke)(z:NA)(a1:bD)(b1:O)(c1 d1:Nat)(e1:KB),(A #[U 1,U 0,U j,U 0,B false,U m,S n o p]=A #[U (bD.ae a1),U (bD.ah a1),U (bD.au a1),U (bD.cj a1),B (bD.aP a1),U (kU.id (bD.cB a1)),S b1 c1 d1]/\true=true)/\qh aa x d y z a1 b1 c1 s (t+N i*10) e1/\∀(f1:Int)(g1:ke)(h1:NA)(i1:KB)(j1 k1:Heap),kQ x d y z a1 s (t+N i*10) e1 f1 g1 h1 i1 j1 k1->f (SV.v (U 0)) w5 k1
abbrev Tv(w:List (List Value))(aa:Nat)(d x:Heap)(f:SV->List Bx->Heap->Prop)(b a:Nat)(pQ:LV)(r:Nat)(i j:Int)(k l:Bool)(m:Int)(n:O)(o p:Nat):Prop:=
 ∃(z:Int)(a1:O)(b1 c1:Nat)(d1:O)(e1 f1:Nat)(g1:O)(h1 i1:Nat)(j1:Int)(k1:O)(l1 m1:Nat)(n1 o1:Int)(p1:Bool)(q1:O)(r1 s1:Nat)(t1:Int)(u1:O)(v1 w1:Nat)(x1:O)(y1 z1:Nat)(a2:Bool)(b2:O)(c2 d2:Nat)(e2:O)(f2 g2:Nat),(fun w2:LV=>w=[w2]/\(X aa d x->f (SV.v (U 0)) [J b false 41 w2,J a false 62 pQ,J r false 74 [U i,U j,B k,B l,U m,S n o p]] x)) [U z,S a1 b1 c1,S d1 e1 f1,S g1 h1 i1,U j1,S k1 l1 m1,U n1,U o1,B p1,S q1 r1 s1,U t1,S u1 v1 w1,S x1 y1 z1,B a2,S b2 c2 d2,S e2 f2 g2]
abbrev Tw(k:Bool)(d:Heap)(s t:Nat)(i:Int)(w4:LB)(u:Prop):Prop:=
 (k=false->∃v,C d s (t+N i*10+9)=some (B v)/\w4=w4/\ak d d/\(u↔v=false))/\(¬k=false->w4=w4/\ak d d/\¬u)
abbrev Tx(q:Int)(f:SV->List Bx->Heap->Prop)(w4:LB)(d:Heap)(na:O)(i:Int)(nl:Nat)(k up:Bool)(b:Nat)(j:Int)(l:Bool)(w6:LV)(aa a:Nat)(pQ:LV)(r:Nat)(m:Int)(n:O)(o p:Nat)(w5:LB):Prop:=
 (¬q=0->f (SV.v (U q)) w4 d)/\(¬¬q=0->∃s t,na=some (D s t none)/\0<=i/\i<(nl:Int)/\∃u:Prop,((k=true->(up=false->w4=w4/\ak d d/\u)/\(¬up=false->Tw k d s t i w4 u))/\(k=false->Tw k d s t i w4 u))/\(u->f (SV.v (U 7)) w4 d)/\(¬u->(k=true->YO Tryz.prog 176 [P (some (D b 0 none)),A #[U 7,U i,U j,U 0,B l,U 0,S none 0 0]] [J b false 41 w6] d fun v w x=>∃y,v=U y/\Tv w aa d x f b a pQ r i j k l m n o p)/\(k=false->∃v,C d s (t+N i*10+2)=some (U v)/\(j=v->∃w,C d s (t+N i*10+3)=some (B w)/\(w=false->YO Tryz.prog 180 [P (some (D b 0 none)),U i] [J b false 41 w6] d fun x y z=>x=T #[]/\Tv y aa d z f b a pQ r i j k l m n o p)/\(¬w=false->Tu j m n o p aa d s t i f w5))/\(¬j=v->Tu j m n o p aa d s t i f w5))))
theorem Zw(b:Nat)(id aS:Int)(fa ra wa:O)(fl fc rl rc wl wc:Nat)(aU ab nx:Int)(ac:Bool)(la ka:O)(ll lc kl kc:Nat)(sa ta:O)(sl sc tl tc:Nat)(up:Bool)(na ma:O)(nl nc ml mc:Nat)(hk hg hn:Int)(fM:Bool)(ha:O)(hl hc:Nat)(aa:Nat)(H0:Heap)(H:Heap)(f:SV->List Bx->Heap->Prop):
 (ld ⟨Tryz.prog,Tryz.f174.ntmps,⟨TryzListK,TryzSumS,true⟩,aa,H0⟩ Tryz.f174 [.loc 0 0,.v (A #[U hk,U hg,U hn,B fM,S ha hl hc])] [⟨b,false,41,[U id,S fa fl fc,S ra rl rc,S wa wl wc,U aS,S la ll lc,U aU,U ab,B ac,S ka kl kc,U nx,S sa sl sc,S ta tl tc,B up,S na nl nc,S ma ml mc]⟩] H f)=(
 (fun pr:LV=>(fun pQ:LV=>∀a:Nat,(Y 175 [S ma ml mc,U hn,B (decide (hk=10))] H fun c d=>∃e g h,(fun w6:LV=>∃i j k l m n o p q,c=T #[S e g h,A #[U i,U j,B k,B l,U m,S n o p],U q]/\(X aa H d->∀r:Nat,(fun w5:LB=>(fun w4:LB=>Tx q f w4 d na i nl k up b j l w6 aa a pQ r m n o p w5) [J b false 41 pr,J a false 62 pQ,J r false 74 [U i,U j,B k,B l,U m,S n o p]]) [J b false 41 w6,J a false 62 pQ,J r false 74 [U i,U j,B k,B l,U m,S n o p]])) [U id,S fa fl fc,S ra rl rc,S wa wl wc,U aS,S la ll lc,U aU,U ab,B ac,S ka kl kc,U nx,S sa sl sc,S ta tl tc,B up,S na nl nc,S e g h])/\∀c:Nat,Y 175 [S ma ml mc,U hn,B (decide (hk=10))] H fun d e=>∃g h i,(fun ui:LV=>∃j k l m n o p q,(fun tu:LB=>(fun w9:LB=>∃r,d=T #[S g h i,A #[U j,U k,B l,B m,U n,S o p q],U r]/\(X aa H e->Tx r f w9 e na j nl l up b k m ui aa a pQ c n o p q tu)) [J b false 41 pr,J a false 62 pQ,J c false 74 [U j,U k,B l,B m,U n,S o p q]]) [J b false 41 ui,J a false 62 pQ,J c false 74 [U j,U k,B l,B m,U n,S o p q]]) [U id,S fa fl fc,S ra rl rc,S wa wl wc,U aS,S la ll lc,U aU,U ab,B ac,S ka kl kc,U nx,S sa sl sc,S ta tl tc,B up,S na nl nc,S g h i]) [U hk,U hg,U hn,B fM,S ha hl hc]) [U id,S fa fl fc,S ra rl rc,S wa wl wc,U aS,S la ll lc,U aU,U ab,B ac,S ka kl kc,U nx,S sa sl sc,S ta tl tc,B up,S na nl nc,S ma ml mc]):=by kernel_rfl
theorem Zx(b:Nat)(id aS:Int)(fa ra wa:O)(fl fc rl rc wl wc:Nat)(aU ab nx:Int)(ac:Bool)(la ka:O)(ll lc kl kc:Nat)(sa ta:O)(sl sc tl tc:Nat)(up:Bool)(na ma:O)(nl nc ml mc:Nat)(hk hg hn:Int)(fM:Bool)(ha:O)(hl hc:Nat)(aa:Nat)(H0:Heap)(H:Heap)(f:SV->List Bx->Heap->Prop):
 (ld ⟨Tryz.prog,Tryz.f179.ntmps,⟨TryzListK,TryzSumS,true⟩,aa,H0⟩ Tryz.f179 [.loc 0 0,.v (A #[U hk,U hg,U hn,B fM,S ha hl hc])] [⟨b,false,41,[U id,S fa fl fc,S ra rl rc,S wa wl wc,U aS,S la ll lc,U aU,U ab,B ac,S ka kl kc,U nx,S sa sl sc,S ta tl tc,B up,S na nl nc,S ma ml mc]⟩] H f)=(
 (fun w5:LV=>∀a:Nat,(fun w4:LB=>∃c d,na=some (D c d none)/\0<=hg/\hg<(nl:Int)/\∃e,C H c (d+N hg*10+3)=some (B e)/\(e=false->f (SV.v (U 7)) w4 H)/\(¬e=false->∃(g:O)(h i:Nat)(j k:Int)(l:Bool)(m:Int)(n:O)(o p:Nat)(q:Bool),(C H c (d+N hg*10)=some (S g h i)/\C H c (d+N hg*10+1)=some (U j)/\C H c (d+N hg*10+2)=some (U k)/\C H c (d+N hg*10+3)=some (B l)/\C H c (d+N hg*10+4)=some (U m)/\C H c (d+N hg*10+5)=some (S n o p)/\C H c (d+N hg*10+6)=some (B q)/\True)/\Y 203 [A #[S g h i,U j,U k,B l,U m,S n o p,B q]] H fun r s=>∃t u v w,r=T #[S t u v,U w]/\(X aa H s->(¬w=0->f (SV.v (U w)) w4 s)/\(¬¬w=0->(0<(u:Int)->∃x,C s c (d+N hg*10+2)=some (U x)/\∃(y:Heap)(z:ke)(a1:NA)(b1:bD)(c1:O)(d1 e1:Nat)(f1:KB),(A #[U 2,U 0,U x,U 0,B false,U 0,S none 0 0]=A #[U (bD.ae b1),U (bD.ah b1),U (bD.au b1),U (bD.cj b1),B (bD.aP b1),U (kU.id (bD.cB b1)),S c1 d1 e1]/\true=true)/\qh aa y s z a1 b1 c1 d1 c (d+N hg*10) f1/\∀(g1:Int)(h1:ke)(i1:NA)(j1:KB)(k1 l1:Heap),kQ y s z a1 b1 c (d+N hg*10) f1 g1 h1 i1 j1 k1 l1->f (SV.v (U g1)) w4 l1)/\(¬0<(u:Int)->∃x,C s c (d+N hg*10+2)=some (U x)/\∃(y:Heap)(z:ke)(a1:NA)(b1:bD)(c1:O)(d1 e1:Nat)(f1:KB),(A #[U 3,U 0,U x,U 0,B fM,U 0,S none 0 0]=A #[U (bD.ae b1),U (bD.ah b1),U (bD.au b1),U (bD.cj b1),B (bD.aP b1),U (kU.id (bD.cB b1)),S c1 d1 e1]/\true=true)/\qh aa y s z a1 b1 c1 d1 c (d+N hg*10) f1/\∀(g1:Int)(h1:ke)(i1:NA)(j1:KB)(k1 l1:Heap),kQ y s z a1 b1 c (d+N hg*10) f1 g1 h1 i1 j1 k1 l1->(¬g1=0->f (SV.v (U g1)) w4 l1)/\(¬¬g1=0->YO Tryz.prog 180 [P (some (D b 0 none)),U hg] [J b false 41 w5] l1 fun m1 n1 o1=>m1=T #[]/\∃(p1:Int)(q1:O)(r1 s1:Nat)(t1:O)(u1 v1:Nat)(w1:O)(x1 y1:Nat)(z1:Int)(a2:O)(b2 c2:Nat)(d2 e2:Int)(f2:Bool)(g2:O)(h2 i2:Nat)(j2:Int)(k2:O)(l2 m2:Nat)
 (n2:O) (o2 p2:Nat) (q2:Bool) (r2:O) (s2 t2:Nat) (u2:O) (v2 w2:Nat),(fun w3:LV=>n1=[w3]/\(X aa l1 o1->f (SV.v (U 0)) [J b false 41 w3,J a false 62 [U hk,U hg,U hn,B fM,S ha hl hc]] o1)) [U p1,S q1 r1 s1,S t1 u1 v1,S w1 x1 y1,U z1,S a2 b2 c2,U d2,U e2,B f2,S g2 h2 i2,U j2,S k2 l2 m2,S n2 o2 p2,B q2,S r2 s2 t2,S u2 v2 w2])))))) [J b false 41 w5,J a false 62 [U hk,U hg,U hn,B fM,S ha hl hc]]) [U id,S fa fl fc,S ra rl rc,S wa wl wc,U aS,S la ll lc,U aU,U ab,B ac,S ka kl kc,U nx,S sa sl sc,S ta tl tc,B up,S na nl nc,S ma ml mc]):=by kernel_rfl
abbrev Ty(g1:Value)(aa:Nat)(o h1:Heap)(c d:Nat)(hg:Int)(a1:O)(b1 c1:Nat)(d1:O)(e1 f1:Nat)(f:SV->List Bx->Heap->Prop)(b:Nat)(w5:LV)(a:Nat)(w6:LV)(z:Nat):Prop:=
 ∃i1 j1 k1 l1 m1 n1 o1 p1 q1 r1 s1 t1,g1=T #[A #[S i1 j1 k1,U l1,U m1,B n1,U o1,S p1 q1 r1,B s1],U t1]/\(X aa o h1->∀u1:Nat,(fun w2:LB=>(t1=0->∃v1,C h1 c (d+N hg*10+9)=some (B v1)/\∃w1:KB,h1 c=some w1/\KB.free w1=true/\aa<=c/\d+N hg*10+10<=KB.size w1/\∀x1:Heap,kW h1 c (d+N hg*10) w1 [S i1 j1 k1,U l1,U m1,B n1,U o1,S p1 q1 r1,B s1,S a1 b1 c1,S d1 e1 f1,B (decide (v1=false))] x1->f (SV.v (U t1)) w2 x1)/\(¬t1=0->f (SV.v (U t1)) w2 h1)) [J b false 41 w5,J a false 62 w6,J z false 35 [S a1 b1 c1,S d1 e1 f1],J u1 false 46 [S i1 j1 k1,U l1,U m1,B n1,U o1,S p1 q1 r1,B s1]])
abbrev Tz(r:Value)(aa:Nat)(e s:Heap)(f:SV->List Bx->Heap->Prop)(b:Nat)(id:Int)(fa:O)(fl fc:Nat)(ra:O)(rl rc:Nat)(wa:O)(wl wc:Nat)(aS:Int)(sa:O)(sl sc:Nat)(ta:O)(tl tc:Nat)(up:Bool)(na:O)(nl nc:Nat)(ma:O)(ml mc a:Nat)(w6:LV)(q:Nat)(w5:LV):Prop:=
 ∃t u v w x y z a1 b1 c1 d1,r=T #[A #[S t u v,U w,U x,B y,S z a1 b1,U c1],U d1]/\(X aa e s->∀e1:Nat,(d1=0->f (SV.v (U d1)) [J b false 41 [U id,S fa fl fc,S ra rl rc,S wa wl wc,U aS,S t u v,U w,U x,B y,S z a1 b1,U c1,S sa sl sc,S ta tl tc,B (decide (up=false)),S na nl nc,S ma ml mc],J a false 62 w6,J q false 35 [S sa sl sc,S ta tl tc],J e1 false 32 [S t u v,U w,U x,B y,S z a1 b1,U c1]] s)/\(¬d1=0->f (SV.v (U d1)) [J b false 41 w5,J a false 62 w6,J q false 35 [S sa sl sc,S ta tl tc],J e1 false 32 [S t u v,U w,U x,B y,S z a1 b1,U c1]] s))
theorem Zy(b:Nat)(id aS:Int)(fa ra wa:O)(fl fc rl rc wl wc:Nat)(aU ab nx:Int)(ac:Bool)(la ka:O)(ll lc kl kc:Nat)(sa ta:O)(sl sc tl tc:Nat)(up:Bool)(na ma:O)(nl nc ml mc:Nat)(hk hg hn:Int)(fM:Bool)(ha:O)(hl hc:Nat)(aa:Nat)(H0:Heap)(H:Heap)(f:SV->List Bx->Heap->Prop):
 (ld ⟨Tryz.prog,Tryz.f178.ntmps,⟨TryzListK,TryzSumS,true⟩,aa,H0⟩ Tryz.f178 [.loc 0 0,.v (A #[U hk,U hg,U hn,B fM,S ha hl hc])] [⟨b,false,41,[U id,S fa fl fc,S ra rl rc,S wa wl wc,U aS,S la ll lc,U aU,U ab,B ac,S ka kl kc,U nx,S sa sl sc,S ta tl tc,B up,S na nl nc,S ma ml mc]⟩] H f)=(
 (fun w7:AV=>(fun w6:LV=>(fun w5:LV=>∀a:Nat,(fun w4:LB=>(hg<0->∃c,aR Tryz.prog (aI BinOp.eql 4 (Operand.tmp 24) (Operand.tmp 27) (B up) (B (decide (hk=13)))) (B c)/\(c=true->f (SV.v (U 7)) w4 H)/\(¬c=true->Y 64 [A #[S sa sl sc,S ta tl tc]] H fun d e=>∃g h i j k l m n o p,d=T #[A #[S g h i,S j k l],S m n o,U p]/\(X aa H e->∀q:Nat,(¬p=0->f (SV.v (U p)) [J b false 41 w5,J a false 62 w6,J q false 35 [S g h i,S j k l]] e)/\(¬¬p=0->(hk=12->Y 66 [A w7,S none 0 0] e fun r s=>Tz r aa e s f b id fa fl fc ra rl rc wa wl wc aS sa sl sc ta tl tc up na nl nc ma ml mc a w6 q w5)/\(¬hk=12->Y 66 [A w7,S m n o] e fun r s=>Tz r aa e s f b id fa fl fc ra rl rc wa wl wc aS g h i j k l up na nl nc ma ml mc a w6 q w5)))))/\(¬hg<0->∃c d,na=some (D c d none)/\0<=hg/\hg<(nl:Int)/\∃e,C H c (d+N hg*10+9)=some (B e)/\∃g,aR Tryz.prog (aI BinOp.eql 4 (Operand.tmp 80) (Operand.tmp 83) (B e) (B (decide (hk=13)))) (B g)/\(g=true->f (SV.v (U 7)) w4 H)/\(¬g=true->∃(h:O)(i j:Nat)(k:O)(l m:Nat),(C H c (d+N hg*10+7)=some (S h i j)/\C H c (d+N hg*10+7+1)=some (S k l m)/\True)/\Y 64 [A #[S h i j,S k l m]] H fun n o=>∃p q r s t u v w x y,n=T #[A #[S p q r,S s t u],S v w x,U y]/\(X aa H o->∀z:Nat,(¬y=0->f (SV.v (U y)) [J b false 41 w5,J a false 62 w6,J z false 35 [S p q r,S s t u]] o)/\(¬¬y=0->(hk=12->∃(a1:O)(b1 c1:Nat)(d1:O)(e1 f1:Nat),(C o c (d+N hg*10+7)=some (S a1 b1 c1)/\C o c (d+N hg*10+7+1)=some (S d1 e1 f1)/\True)/\Y 67 [A #[U id,S fa fl fc],S none 0 0] o fun g1 h1=>Ty g1 aa o h1 c d hg a1 b1 c1 d1 e1 f1 f b w5 a w6 z)/\(¬hk=12->Y 67 [A #[U id,S fa fl fc],S v w x] o fun a1 b1=>Ty a1 aa o b1 c d hg p q r s t u f b w5 a w6 z)))))) [J b false 41 w5,J a false 62 w6]) [U id,S fa fl fc,S ra rl rc,S wa wl wc,U aS,S la ll lc,U aU,U ab,B ac,S ka kl kc,U nx,S sa sl sc,S ta tl tc,B up,S na nl nc,S ma ml mc]) [U hk,I
 Z hg,U hn,B fM,S ha hl hc]) #[U id,S fa fl fc,S ra rl rc,S wa wl wc,U aS]):=by kernel_rfl
end Go.Vg
