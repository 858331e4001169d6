/- What is proved here: a part of the proof of laws of this seat: what a contract is, how it comes of a condition, contracts of the functions that are reached, the plain laws. -/
import Derived.Test.YtgaegoefbekndaaGreatDoorWB1
import Derived.Laws.Externs
import Derived.Lib.Overlaps
set_option linter.unusedSimpArgs false
set_option linter.unusedVariables false
set_option maxRecDepth 100000
open Decidable renaming not_not → zx
open ByteArray renaming size → zp,extract → ye
open Classical renaming propDecidable → zh
open Int renaming toNat_natCast → zz
open Option renaming map → zA
open Option.some renaming inj → zy
open Bool renaming and_eq_true → zT
open Nat renaming succ_mul → yz,zero_add → zS,le_refl → ze,le_of_ble_eq_true → z8
open List renaming mem_cons_of_mem → zj,pairwise_cons → yU,mem_cons → zm,mem_cons_self → zr,range → yi,getElem?_eq_some_iff → zw,getElem?_map → zP,mem_map → zM,flatMap_cons → yq,getElem?_append_left → zU,getElem?_append_right → zY,length_take → zF,getElem?_take → zD,eq_nil_of_length_eq_zero → zG,flatten_cons → zW,length_append → zq,length_cons → zi,append_assoc → zE,flatten_append → zI,mem_append → zd,length → zo,flatten → yk,replicate → zk,length_drop → yv,take_of_length_le → zg,drop_eq_nil_of_le → zO,append_nil → zZ,mem_of_getElem? → zt,toArray → zQ,get?Internal → zV,map_cons → zB,filterMap_cons_none → zf,filterMap_cons_some → zR,mem_filterMap → zL,getElem?_set → yh
variable{n sz aa g m b o nn p l fl fc rc wl wc ll lc kl kc sc tl tc nl nc ml mc hl hc l' c':Nat}{v i k aS aU ab nx kd x:Int}{H H' H0 G:Go.Vg.Heap}{e:Go.TypeId}{a fa ra wa la ka sa ta na ma ha a':Go.Vg.O}{f:Go.FuncId}{args xs vs r ys zs cs:List Go.Value}{ss:List (List Go.Value)}{K:Go.Vg.KT}{fn:Go.Func}{sv:List Go.Vg.SV}{ac:Bool}{s:ByteArray}
namespace Go.Vg
open Go
structure Pin where
 name:Int
 fi:Int
 deriving DecidableEq
structure km where
 name:Int
 fi:Int
 uW:Int
 least:Int
 deriving DecidableEq
def gI(p:Pin):Prop:=p.name<1∨20<p.name∨p.fi<1∨99<p.fi
instance (p:Pin):Decidable (gI p):=by unfold gI;infer_instance
def gk:Int->List Pin->Int
 |_,[]=>0
 |last,p::r=>if gI p then 3 else if p.name<=last then 6 else gk p.name r
def aZ(l:List Pin):Int:=if 12<l.length then 2 else gk 0 l
def find:List Pin->Int->Int
 | [],_=>0
 |p::r,n=>if p.name=n then p.fi else find r n
structure Lk(l:List Pin):Prop where
 aP:∀p∈l,¬gI p
 Ec:l.Pairwise (fun p q=>p.name<q.name)
theorem Lk.nil:Lk []:=⟨by simp,List.Pairwise.nil⟩
theorem Lk.tail{p:Pin}{l:List Pin}(h:Lk (p::l)):Lk l:=⟨fun q hq=>h.aP q (zj _ hq),(yU.1 h.Ec).2⟩
theorem Lk.head{p:Pin}{l:List Pin}(h:Lk (p::l)):∀q∈l,p.name<q.name:=(yU.1 h.Ec).1
theorem Lk.cons{p:Pin}{l:List Pin}(h:Lk l)(hp:¬gI p)(hl:∀q∈l,p.name<q.name):Lk (p::l):=
 ⟨fun q hq=>by rcases zm.1 hq with rfl|hq;exact hp;exact h.aP q hq,yU.2 ⟨hl,h.Ec⟩⟩
theorem tp:∀(l:List Pin)(last:Int),gk last l=0↔Lk l/\∀p∈l,last<p.name
 | [],last=>by simp[gk,Lk.nil]
 |p::r,last=>by
  unfold gk;split
  ·rename_i h;constructor
   ·intro h';omega
   ·intro h';exact absurd h (h'.1.aP p zr)
  ·split
   ·rename_i h1 h2;constructor
    ·intro h';omega
    ·intro h';have:=h'.2 p zr;omega
   ·rename_i h1 h2;rw[tp r p.name];constructor
    ·rintro⟨h3,h4⟩;refine⟨h3.cons h1 h4,fun q hq=>?_⟩;rcases zm.1 hq with rfl|hq
     ·omega
     ·have:=h4 q hq;omega
    ·rintro⟨h3,h4⟩;exact⟨h3.tail,h3.head⟩
theorem Lk.name{l:List Pin}(h:Lk l){p:Pin}(hp:p∈l):1<=p.name/\p.name<=20/\1<=p.fi/\p.fi<=99:=by
 have:=h.aP p hp;unfold gI at this;omega
theorem bF{l:List Pin} :aZ l=0↔Lk l/\l.length<=12:=by
 unfold aZ;split
 ·constructor
  ·intro h;omega
  ·rintro⟨_,h⟩;omega
 ·rw[tp];constructor
  ·rintro⟨h,_⟩;exact⟨h,by omega⟩
  ·rintro⟨h,_⟩;exact⟨h,fun p hp=>by have:=h.name hp;omega⟩
theorem iB{l:List Pin}{n:Int}(h:∀p∈l,p.name≠n):find l n=0:=by
 induction l with
 |nil=>rfl
 |cons p r ih=>rw[find,nI (h p zr),ih fun q hq=>h q (zj _ hq)]
theorem fO{l:List Pin}(h:Lk l){p:Pin}(hp:p∈l):find l p.name=p.fi:=by
 induction l with
 |nil=>cases hp
 |cons q r ih=>
  rcases zm.1 hp with rfl|hp
  ·rw[find,pI rfl]
  ·have:=h.head p hp;rw[find,nI (by omega),ih h.tail hp]
theorem oZ{l:List Pin}{n:Int}(h:find l n≠0):∃p∈l,p.name=n/\p.fi=find l n:=by
 induction l with
 |nil=>exact absurd rfl h
 |cons q r ih=>
  rw[find] at h⊢;by_cases e:q.name=n
  ·rw[pI e];exact⟨q,zr,e,rfl⟩
  ·rw[nI e] at h⊢;obtain⟨p,h1,h2⟩:=ih h;exact⟨p,zj _ h1,h2⟩
theorem Lk.find_range{l:List Pin}(h:Lk l)(n:Int):0<=find l n/\find l n<=99:=by
 by_cases e:find l n=0
 ·omega
 ·obtain⟨p,h1,h2,h3⟩:=oZ e;have:=h.name h1;omega
theorem Lk.Ge{l:List Pin}(h:Lk l){n:Int}(hn:n<1∨20<n):find l n=0:=iB fun p hp=>by have:=h.name hp;omega
theorem Lk.ext:∀ {l m:List Pin},Lk l->Lk m->(∀n,find l n=find m n)->l=m
 | [],[],_,_,_=>rfl
 | [],q::m,_,hm,h=>by
  have:=h q.name;rw[fO hm zr] at this;have h2:=hm.name (p:=q) zr
  simp[find] at this;omega
 |p::l,[],hl,_,h=>by
  have:=h p.name;rw[fO hl zr] at this;have h2:=hl.name (p:=p) zr
  simp[find] at this;omega
 |p::l,q::m,hl,hm,h=>by
  have hp:=hl.name (p:=p) zr;have hq:=hm.name (p:=q) zr;have e1:=h p.name;have e2:=h q.name;rw[fO hl zr] at e1;rw[fO hm zr] at e2
  have key:p.name=q.name:=by
   rcases Int.lt_trichotomy p.name q.name with c|c|c
   ·rw[iB (fun x hx=>by
     rcases zm.1 hx with rfl|hx
     ·omega
     ·have:=hm.head x hx;omega)] at e1
    omega
   ·exact c
   ·rw[iB (fun x hx=>by
     rcases zm.1 hx with rfl|hx
     ·omega
     ·have:=hl.head x hx;omega)] at e2
    omega
  have hv:p.fi=q.fi:=by rw[e1,key,fO hm zr]
  have sS:p=q:=by cases p;cases q;simp_all
  subst sS;rw[Lk.ext hl.tail hm.tail fun n=>?_];by_cases e:p.name=n
  ·subst e;rw[iB fun x hx=>by have:=hl.head x hx;omega,iB fun x hx=>by have:=hm.head x hx;omega]
  ·have:=h n;rw[find,nI e,find,nI e] at this;exact this
def up(n v:Int):List Pin->List Pin
 | []=>[⟨n,v⟩]
 |p::r=>if n<=p.name then(if p.name=n then⟨n,v⟩::r else⟨n,v⟩::p::r) else p::up n v r
theorem I3{n v:Int}{q:Pin} :∀ {l:List Pin},q∈up n v l->q=⟨n,v⟩∨q∈l
 | [],h=>by simp[up] at h;exact .inl h
 |p::r,h=>by
  unfold up at h;split at h
  ·split at h
   ·rcases zm.1 h with h|h
    ·exact .inl h
    ·exact .inr (zj _ h)
   ·rcases zm.1 h with h|h
    ·exact .inl h
    ·exact .inr h
  ·rcases zm.1 h with rfl|h
   ·exact .inr zr
   ·rcases I3 h with h|h
    ·exact .inl h
    ·exact .inr (zj _ h)
theorem Lk.up{n:Int}(hn:1<=n/\n<=20)(hv:1<=v/\v<=99):∀ {l:List Pin},Lk l->Lk (up n v l)
 | [],_=>Lk.nil.cons (by unfold gI;simp;omega) (by simp)
 |p::r,h=>by
  have hb:¬gI ⟨n,v⟩:=by unfold gI;simp;omega
  unfold Vg.up;split
  ·split
   ·rename_i h1 h2;exact h.tail.cons hb fun q hq=>by have:=h.head q hq;simp;omega
   ·rename_i h1 h2;refine h.cons hb fun q hq=>?_;rcases zm.1 hq with rfl|hq
    ·simp;omega
    ·have:=h.head q hq;simp;omega
  ·rename_i h1;refine(h.tail.up hn hv).cons (h.aP p zr) fun q hq=>?_;rcases I3 hq with rfl|hq
   ·simp;omega
   ·exact h.head q hq
theorem Kl{n v:Int}(m:Int):∀ {l:List Pin},Lk l->find (up n v l) m=if m=n then v else find l m
 | [],_=>by
  unfold up find find;by_cases e:m=n
  ·subst e;simp
  ·rw[nI (by simp;omega),nI e]
 |p::r,h=>by
  unfold up;split
  ·split
   ·rename_i h1 h2;by_cases e:m=n
    ·subst e;simp[find]
    ·rw[nI e,find,nI (by simp;omega),find,nI (by omega)]
   ·rename_i h1 h2;by_cases e:m=n
    ·subst e;simp[find]
    ·rw[nI e,find,nI (by simp;omega)]
  ·rename_i h1;rw[find];by_cases e:p.name=m
   ·subst e;rw[pI rfl,nI (by omega),find,pI rfl]
   ·rw[nI e,Kl m h.tail,find,nI e]
def fR(r:km):Prop:=r.name<1∨20<r.name∨r.uW<1∨20<r.uW∨r.fi<1∨99<r.fi∨r.least<1∨99<r.least
instance (r:km):Decidable (fR r):=by unfold fR;infer_instance
def eR:List km->Int
 | []=>0
 |r::q=>if fR r then 3 else if r.name=r.uW then 4 else eR q
def eS(l:List km):Int:=if 10<l.length then 2 else eR l
theorem rj:∀ {l:List km},eR l=0↔ ∀r∈l,¬fR r/\r.name≠r.uW
 | []=>by simp[eR]
 |r::q=>by
  unfold eR;split
  ·rename_i h;constructor
   ·intro h';omega
   ·intro h';exact absurd h (h' r zr).1
  ·split
   ·rename_i h1 h2;constructor
    ·intro h';omega
    ·intro h';exact absurd h2 (h' r zr).2
   ·rename_i h1 h2;rw[rj];simp[h1,h2]
theorem qw{l:List km} :eS l=0↔l.length<=10/\∀r∈l,¬fR r/\r.name≠r.uW:=by
 unfold eS;split
 ·constructor
  ·intro h;omega
  ·rintro⟨h,_⟩;omega
 ·rw[rj];constructor
  ·intro h;exact⟨by omega,h⟩
  ·intro h;exact h.2
def breaks(l:List Pin)(r:km):Prop:=r.fi<=find l r.name/\find l r.uW<r.least
instance (l:List Pin)(r:km):Decidable (breaks l r):=by unfold breaks;infer_instance
def fI(l:List Pin):Int->List km->Int
 |_,[]=> -1
 |i,r::q=>if breaks l r then i else fI l (i+1) q
def cd(l:List Pin)(rs:List km):Int:=if aZ l=0 then eS rs else aZ l
def broken(l:List Pin)(rs:List km):Int:=if cd l rs=0 then fI l 0 rs else 0
def N0(l m:List Pin):Prop:=∀n,find l n<=find m n
theorem N0.refl(l:List Pin):N0 l l:=fun _=>Int.le_refl _
theorem N0.trans{a b c:List Pin}(h:N0 a b)(k:N0 b c):N0 a c:=fun n=>Int.le_trans (h n) (k n)
theorem N0.len:∀ {l m:List Pin},Lk l->Lk m->N0 l m->l.length<=m.length
 | [],m,_,_,_=>by simp
 |p::l,[],hl,_,h=>by
  have:=h p.name;rw[fO hl zr] at this;have h2:=hl.name (p:=p) zr
  simp[find] at this;omega
 |p::l,q::m,hl,hm,h=>by
  have hp:=hl.name (p:=p) zr;have hfp:=h p.name;rw[fO hl zr] at hfp;by_cases e:p.name=q.name
  ·have:=N0.len hl.tail hm.tail fun n=>by
    have h1:=h n;rw[find,find] at h1;by_cases e2:p.name=n
    ·rw[iB (l:=l) fun x hx=>by have:=hl.head x hx;omega];have:=hm.tail.find_range n;omega
    ·rw[nI e2,nI (by omega)] at h1;exact h1
   simp;omega
  ·have:=N0.len hl hm.tail fun n=>by
    have h1:=h n;rw[show find (q::m) n=if q.name=n then q.fi else find m n from rfl] at h1;by_cases e2:q.name=n
    ·have e3:find (p::l) n=0:=by
      have bK:q.name<p.name:=by
       rcases Int.lt_trichotomy p.name q.name with c|c|c
       ·rw[iB (l:=q::m) fun x hx=>by
         rcases zm.1 hx with rfl|hx
         ·omega
         ·have:=hm.head x hx;omega] at hfp
        omega
       ·exact absurd c e
       ·exact c
      exact iB fun x hx=>by
       rcases zm.1 hx with rfl|hx
       ·omega
       ·have:=hl.head x hx;omega
     rw[e3];have:=hm.tail.find_range n;omega
    ·rw[nI e2] at h1;exact h1
   simp at this⊢;omega
def Xt(rs:List km):Prop:=∀r∈rs,¬fR r/\r.name≠r.uW
theorem Xt.least{rs:List km}(h:Xt rs){r:km}(hr:r∈rs):(1<=r.uW/\r.uW<=20)/\1<=r.least/\r.least<=99:=by
 have:=(h r hr).1;unfold fR at this;omega
theorem iV{l:List Pin}{rs:List km} :cd l rs=0↔(Lk l/\l.length<=12)/\rs.length<=10/\Xt rs:=by
 unfold cd;rw[←bF];split
 ·rename_i h;rw[qw];simp[h,Xt]
 ·rename_i h;simp[h]
open Go
def di:Int->List Int->List Pin
 |_,[]=>[]
 |n,v::r=>if 0<v then⟨n,v⟩::di (n+1) r else di (n+1) r
def rk(l:List Pin):List Int:=(yi 21).map fun n:Nat=>find l (n:Int)
theorem iW{p:Pin} :∀ {t:List Int} {n:Int},p∈di n t->∃i:Nat,t[i]?=some p.fi/\p.name=n+i/\0<p.fi
 | [],n,h=>by cases h
 |v::r,n,h=>by
  unfold di at h;split at h
  ·rcases zm.1 h with rfl|h
   ·rename_i hv;exact⟨0,rfl,by simp,hv⟩
   ·obtain⟨i,h1,h2,h3⟩:=iW h;exact⟨i+1,by simpa using h1,by rw[h2];omega,h3⟩
  ·obtain⟨i,h1,h2,h3⟩:=iW h;exact⟨i+1,by simpa using h1,by rw[h2];omega,h3⟩
theorem mA:∀(t:List Int)(n:Int),(di n t).Pairwise (fun p q=>p.name<q.name)
 | [],n=>List.Pairwise.nil
 |v::r,n=>by
  unfold di;split
  ·refine yU.2 ⟨fun q hq=>?_,mA r (n+1)⟩;obtain⟨i,_,h2,_⟩:=iW hq;simp;omega
  ·exact mA r (n+1)
theorem qx:∀(t:List Int)(n:Int)(i:Nat)(v:Int),t[i]?=some v->0<v->find (di n t) (n+i)=v
 | [],n,i,v,h,_=>by simp at h
 |w::r,n,0,v,h,hv=>by
  simp at h;subst h;unfold di
  rw[pI hv,find,pI (by simp)]
 |w::r,n,i+1,v,h,hv=>by
  have ih:=qx r (n+1) i v (by simpa using h) hv;rw[show n+1+(i:Int)=n+((i+1:Nat):Int) from by omega] at ih;unfold di;split
  ·rw[find,nI (by simp;omega),ih]
  ·exact ih
theorem LX{t:List Int}{m:List Pin}(hm:Lk m)(hl:t.length=21)(h:∀i:Nat,i<21->t[i]?=some (find m i)):di 0 t=m:=by
 have hk:Lk (di 0 t):=⟨fun p hp=>by
  obtain⟨i,h1,h2,h3⟩:=iW hp;have hi:i<21:=by have:=(zw.1 h1).1;omega
  rw[h i hi] at h1;have e:find m i=p.fi:=by simpa using h1
  have:=hm.find_range i;have h0:i≠0:=by rintro rfl;have:=hm.Ge (n:=((0:Nat):Int)) (by omega);omega
  unfold gI;omega,mA t 0⟩
 refine hk.ext hm fun n=>?_;by_cases e:find m n=0
 ·rw[e];by_cases e2:find (di 0 t) n=0
  ·exact e2
  ·exfalso;obtain⟨p,h1,h2,h3⟩:=oZ e2;obtain⟨i,g1,g2,g3⟩:=iW h1;have hi:i<21:=by have:=(zw.1 g1).1;omega
   rw[h i hi] at g1;have:find m i=p.fi:=by simpa using g1
   rw[show(i:Int)=n from by omega] at this;omega
 ·have hr:=hm.find_range n
  have hn:1<=n/\n<=20:=by
   by_cases c:n<1∨20<n
   ·exact absurd (hm.Ge c) e
   ·omega
  have:=qx t 0 n.toNat (find m n) (by rw[h n.toNat (by omega),show(n.toNat:Int)=n from by omega]) (by omega);rw[show(0:Int)+(n.toNat:Int)=n from by omega] at this;exact this
theorem Ad(l:List Pin){i:Nat}(hi:i<21):(rk l)[i]?=some (find l i):=by
 unfold rk;rw[zP,List.getElem?_range hi];rfl
theorem I4{l:List Pin}(hl:Lk l):di 0 (rk l)=l:=LX hl (by simp[rk]) fun i hi=>Ad l hi
open Go
def gT{α:Type}(dk:α->List Value):jq α:=fun _ r x=>r=dk x
theorem gT.mono{α:Type}{dk:α->List Value} :(gT dk).oW:=fun _ _ _ _ _ h=>h
theorem wm{α:Type}(dk:α->List Value):∀xs:List α,(xs.map dk).flatten=xs.flatMap dk
 | []=>rfl
 |x::r=>by simp[wm dk r]
theorem nG{α:Type}{dk:α->List Value}{sz:Nat}(hs:∀x,(dk x).length=sz):∀xs:List α,(xs.flatMap dk).length=xs.length*sz
 | []=>by simp
 |x::r=>by simp[hs,nG hs r,yz];omega
theorem ik{α:Type}{dk:α->List Value}(hs:∀x,(dk x).length=sz)(h0:0<sz){c:Nat}{xs:List α}(h:bg aa H e sz a n c (xs.flatMap dk)):Sl (gT dk) sz H a n xs:=by
 have h1:=h.1;rw[nG hs] at h1;have hn:xs.length=n:=Nat.eq_of_mul_eq_mul_right h0 h1;refine Sl.oz (rows:=xs.map dk) (pN h (wm dk xs) (by intro r hr;obtain⟨x,_,rfl⟩:=zM.1 hr;exact hs x) (by simp[hn])) (by simp) ?_;intro i r x hr hx;rw[zP,hx] at hr;simpa[gT] using hr.symm
theorem Km{α:Type}{dk:α->List Value}(hs:∀x,(dk x).length=sz)(h0:0<sz){c:Nat}{xs:List α}(h:bg aa H e sz a n c (xs.flatMap dk)):xs.length=n:=(ik hs h0 h).len
theorem nH{α:Type}{dk:α->List Value}(hs:∀x,(dk x).length=sz){ty:TypeId}{xs:List α}(h:H g=some (ay ty (xs.flatMap dk)))(hn:xs.length=n)(hle:(n:Int)<=9223372036854775807):Sl (gT dk) sz H (some ⟨g,0,none⟩) n xs:=by
 refine Sl.oz (rows:=xs.map dk) (Has.ub h (wm dk xs) (by intro r hr;obtain⟨x,_,rfl⟩:=zM.1 hr;exact hs x) (by simp[hn]) hle) (by simp) ?_;intro i r x hr hx;rw[zP,hx] at hr;simpa[gT] using hr.symm
theorem jM{H:Heap}{b o:Nat} :∀(cs:List Value)(i:Nat),(∀(j:Nat) v,cs[j]?=some v->H.cell b (o+(i+j))=some v)->ba H b o i cs
 | [],_,_=>trivial
 |v::r,i,h=>⟨by simpa using h 0 v rfl,jM r (i+1) fun j u hj=>by
   have:=h (j+1) u (by simpa using hj)
   rw[show i+1+j=i+(j+1) from by omega];exact this⟩
theorem Ko{α:Type}{dk:α->List Value}{sz:Nat}(hs:∀x,(dk x).length=sz):∀(xs:List α)(j:Nat)(v:Value),(xs.flatMap dk)[j]?=some v->∃(i k:Nat)(x:α),j=i*sz+k/\xs[i]?=some x/\(dk x)[k]?=some v
 | [],j,v,h=>by simp at h
 |x::r,j,v,h=>by
  rw[yq] at h;by_cases hj:j<(dk x).length
  ·rw[zU hj] at h;exact⟨0,j,x,by simp,rfl,h⟩
  ·rw[zY (by omega)] at h;obtain⟨i,k,y,h1,h2,h3⟩:=Ko hs r _ v h;refine⟨i+1,k,y,?_,by simpa using h2,h3⟩;rw[hs x] at h1 hj;rw[yz];omega
theorem Sl.cells{α:Type}{dk:α->List Value}(hs:∀x,(dk x).length=sz){xs:List α}(h:Sl (gT dk) sz H a n xs)(e:aH H H'):
  (xs.flatMap dk).length=n*sz/\(n=0∨ ∃(b o:Nat),a=some ⟨b,o,none⟩/\ba H' b o 0 (xs.flatMap dk)):=by
 have hl:=h.len;refine⟨by rw[nG hs,hl],?_⟩;by_cases hn:n=0
 ·exact .inl hn
 ·obtain⟨b,o,ha,hc⟩:=h.ck (by omega);refine .inr ⟨b,o,ha,jM _ 0 fun j v hj=>?_⟩;obtain⟨i,k,x,rfl,hx,hk⟩:=Ko hs xs j v hj;obtain⟨r,hr,hv⟩:=hc i x hx;obtain rfl:r=dk x:=hr;have:=Heap.aJ e (hv k v hk);rw[show o+(0+(i*sz+k))=o+i*sz+k from by omega];exact this
theorem oA:∀(a b:List Value),aM a=true->aM b=true->aM (a++b)=true
 | [],b,_,h=>h
 |x::r,b,h,h'=>by
  simp only[aM,zT,List.cons_append] at h⊢;exact⟨h.1,oA r b h.2 h'⟩
theorem jZ{α:Type}{dk:α->List Value}(h:∀x,aM (dk x)=true):∀xs:List α,aM (xs.flatMap dk)=true
 | []=>rfl
 |x::r=>by rw[yq];exact oA _ _ (h x) (jZ h r)
def dm(p:Pin):List Value:=[i64 p.name,i64 p.fi]
def sj(r:km):List Value:=[i64 r.name,i64 r.fi,i64 r.uW,i64 r.least]
abbrev Ul:jq Pin:=gT dm
abbrev N1:jq km:=gT sj
abbrev aL(H:Heap)(a:O)(n:Nat)(l:List Pin):Prop:=Sl Ul 2 H a n l
abbrev ob(H:Heap)(a:O)(n:Nat)(l:List km):Prop:=Sl N1 4 H a n l
theorem cJ(p:Pin):(dm p).length=2:=rfl
theorem lQ(r:km):(sj r).length=4:=rfl
theorem aL.ext'{l:List Pin}(h:aL H a n l)(e:aH H H'):aL H' a n l:=Sl.ext gT.mono h e
theorem ob.ext'{l:List km}(h:ob H a n l)(e:aH H H'):ob H' a n l:=Sl.ext gT.mono h e
theorem Sl.LY{xs:List Pin}(h:aL H a n xs)(e:aH H H')(h0:0<=k)(h1:k<n){F:Int->Int->Prop}(hF:∀p,xs[k.toNat]?=some p->F p.name p.fi):
  ∃(b o:Nat),a=some ⟨b,o,none⟩/\0<=k/\k<n/\∃(x y:Int),(H'.cell b (o+k.toNat*2)=some (.int .i64 x)/\H'.cell b (o+k.toNat*2+1)=some (.int .i64 y)/\True)/\F x y:=by
 obtain⟨b,o,r,x,ha,hx,hr,hc⟩:=h.get h0 h1;obtain rfl:r=dm x:=hr;exact⟨b,o,ha,h0,h1,_,_,⟨Heap.aJ e (hc 0 _ rfl),Heap.aJ e (hc 1 _ rfl),trivial⟩,hF x hx⟩
theorem Sl.Kp{xs:List Pin}(h:aL H a n xs)(e:aH H H')(h0:0<=k)(h1:k<n){F:Int->Prop}(hF:∀p,xs[k.toNat]?=some p->F p.name):
  ∃(b o:Nat),a=some ⟨b,o,none⟩/\0<=k/\k<n/\∃(x:Int),H'.cell b (o+k.toNat*2)=some (.int .i64 x)/\F x:=by
 obtain⟨b,o,r,x,ha,hx,hr,hc⟩:=h.get h0 h1;obtain rfl:r=dm x:=hr;exact⟨b,o,ha,h0,h1,_,Heap.aJ e (hc 0 _ rfl),hF x hx⟩
theorem Sl.Um{xs:List Pin}(h:aL H a n xs)(e:aH H H')(h0:0<=k)(h1:k<n){F:Int->Prop}(hF:∀p,xs[k.toNat]?=some p->F p.fi):
  ∃(b o:Nat),a=some ⟨b,o,none⟩/\0<=k/\k<n/\∃(x:Int),H'.cell b (o+k.toNat*2+1)=some (.int .i64 x)/\F x:=by
 obtain⟨b,o,r,x,ha,hx,hr,hc⟩:=h.get h0 h1;obtain rfl:r=dm x:=hr;exact⟨b,o,ha,h0,h1,_,Heap.aJ e (hc 1 _ rfl),hF x hx⟩
theorem Sl.LZ{xs:List km}(h:ob H a n xs)(e:aH H H')(h0:0<=k)(h1:k<n){F:Int->Int->Int->Int->Prop}(hF:∀p,xs[k.toNat]?=some p->F p.name p.fi p.uW p.least):
  ∃(b o:Nat),a=some ⟨b,o,none⟩/\0<=k/\k<n/\∃(x y z u:Int),(H'.cell b (o+k.toNat*4)=some (.int .i64 x)/\H'.cell b (o+k.toNat*4+1)=some (.int .i64 y)/\H'.cell b (o+k.toNat*4+2)=some (.int .i64 z)/\H'.cell b (o+k.toNat*4+3)=some (.int .i64 u)/\True)/\F x y z u:=by
 obtain⟨b,o,r,x,ha,hx,hr,hc⟩:=h.get h0 h1;obtain rfl:r=sj x:=hr;exact⟨b,o,ha,h0,h1,_,_,_,_,⟨Heap.aJ e (hc 0 _ rfl),Heap.aJ e (hc 1 _ rfl),Heap.aJ e (hc 2 _ rfl),Heap.aJ e (hc 3 _ rfl),trivial⟩,hF x hx⟩
theorem bS.CE{P:Program}{Q:O->Nat->Nat->Heap->Prop}(h:bS P f args H fun v H'=>∃a n c,v= .slice a n c/\Q a n c H'){G:O->Nat->Nat->Heap->Prop}
  (hG:∀a n c H',aH H H'->Next aa H H'->Q a n c H'->G a n c H'):bS P f args H fun v H'=>∃(a:O)(n c:Nat),v= .slice a n c/\(Next aa H H'->G a n c H'):=
 h.mono fun v H' e hv=>by obtain⟨a,n,c,h1,h2⟩:=hv;exact⟨a,n,c,h1,fun hN=>hG a n c H' e hN h2⟩
theorem bS.Qp{P:Program}{m:Int}{Q:O->Nat->Nat->Heap->Prop}(h:bS P f args H fun v H'=>∃a n c,v= .tuple #[.slice a n c,i64 m]/\Q a n c H'){G:O->Nat->Nat->Int->Heap->Prop}
  (hG:∀a n c H',aH H H'->Next aa H H'->Q a n c H'->G a n c m H'):bS P f args H fun v H'=>∃(a:O)(n c:Nat)(m':Int),v= .tuple #[.slice a n c,.int .i64 m']/\(Next aa H H'->G a n c m' H'):=
 h.mono fun v H' e hv=>by obtain⟨a,n,c,h1,h2⟩:=hv;exact⟨a,n,c,m,h1,fun hN=>hG a n c H' e hN h2⟩
def okL{α:Type} :Except Int (List α)->List α
 | .ok l=>l
 | .error _=>[]
def bN{α:Type} :Except Int α->Int
 | .ok _=>0
 | .error e=>e
open Go
def bZ(H H':Heap)(e:TypeId)(sz:Nat)(a:O)(n c:Nat)(xs:List Value):Prop:=
 xs.length=n*sz/\n<=c/\c<=maxLen/\((n=0/\c=0)∨ ∃g k,a=some ⟨g,0,none⟩/\H g=none/\H' g=some k/\k.ty=e/\k.size=c*sz/\k.free=true/\∀j v,xs[j]?=some v->k.cells j=some v)
theorem bg.fresh(hb:∀b k,H b=some k->b<aa){c:Nat}(h:bg aa H' e sz a n c xs):bZ H H' e sz a n c xs:=
 ⟨h.1,h.2.1,h.2.2.1,h.2.2.2.imp id fun⟨g,k,h1,h2,h3⟩=>⟨g,k,h1,by
  cases hg:H g with
  |none=>rfl
  |some k=>have:=hb g k hg;omega,h3⟩⟩
theorem bZ.row{c:Nat}(h:bZ H H' e sz a n c xs)(hN:Next aa H H'):bg aa H' e sz a n c xs:=
 ⟨h.1,h.2.1,h.2.2.1,h.2.2.2.imp id fun⟨g,k,h1,h2,h3,h4⟩=>⟨g,k,h1,hN.fresh g _ h3 h2,h3,h4⟩⟩
theorem bg.N2{c:Nat}{k:KB}(h:bg aa H e sz a n c xs)(ha:a=some ⟨b,0,none⟩)(hc:c≠0)(hk:H b=some k)(ho:o+vs.length<=xs.length)
  (hu:kW H b o k vs H'):bg aa H' e sz a n c (aV xs o vs):=by
 obtain⟨h1,h2,h3,h4⟩:=h;rcases h4 with⟨_,h5⟩|⟨g,k',hg,N3,hH,h6,h7,h8,h9⟩
 ·exact absurd h5 hc
 ·rw[ha] at hg;simp only[Option.some.injEq,Addr.mk.injEq,and_true] at hg;subst hg;rw[hk] at hH;obtain rfl:=zy hH;refine⟨by rw[fG,h1],h2,h3,.inr ⟨b,_,ha,N3,hu.here,h6,h7,h8,fun j v hv=>?_⟩⟩;rw[eI _ _ _ _ ho] at hv;simp only[gA];split
  ·rename_i DP;rw[pI DP] at hv;exact hv
  ·rename_i DP;rw[nI DP] at hv;exact h9 j v hv
theorem bg.short{c:Nat}(h:bg aa H e sz a n c xs)(hm:m<=n):bg aa H e sz a m c (xs.take (m*sz)):=by
 obtain⟨h1,h2,h3,h4⟩:=h;have hle:m*sz<=n*sz:=Nat.mul_le_mul_right _ hm;refine⟨by rw[zF,h1];omega,by omega,h3,?_⟩;rcases h4 with⟨h5,h6⟩|⟨g,k,hg,N3,hH,h6,h7,h8,h9⟩
 ·exact .inl ⟨by omega,h6⟩
 ·refine .inr ⟨g,k,hg,N3,hH,h6,h7,h8,fun j v hv=>?_⟩;rw[zD] at hv;split at hv
  ·exact h9 j v hv
  ·cases hv
theorem kW.ext{k:KB}(hb:∀b k,H0 b=some k->b<aa)(e:aH H0 H)(fN:aa<=b)(hu:kW H b o k vs H'):aH H0 H':=fun x kx hx=>by
 rw[hu.there x (by have:=hb x kx hx;omega)];exact e x kx hx
theorem bg.block{c:Nat}(h:bg aa H e sz a n c xs)(hn:0<n):∃b k,a=some ⟨b,0,none⟩/\aa<=b/\c≠0/\H b=some k/\k.free=true/\k.size=c*sz/\∀j v,xs[j]?=some v->k.cells j=some v:=by
 obtain⟨h1,h2,h3,h4⟩:=h;rcases h4 with⟨h5,_⟩|⟨g,k,hg,N3,hH,h6,h7,h8,h9⟩
 ·omega
 ·exact⟨g,k,hg,N3,by omega,hH,h8,h7,h9⟩
theorem Sl.copied{α:Type}{dk:α->List Value}(hs:∀x,(dk x).length=sz)(h1:∀x,aM (dk x)=true){xs:List α}(h:Sl (gT dk) sz H a n xs)(e:aH H H'):
  (xs.flatMap dk).length=n*sz/\aM (xs.flatMap dk)=true/\(n=0∨ ∃(b o:Nat),a=some ⟨b,o,none⟩/\ba H' b o 0 (xs.flatMap dk)):=
 ⟨(h.cells hs e).1,jZ h1 xs,(h.cells hs e).2⟩
theorem bg.zero :bg aa H e sz a 0 0 []:=⟨by simp,by omega,by decide,.inl ⟨rfl,rfl⟩⟩
theorem bZ.zero :bZ H H' e sz a 0 0 []:=⟨by simp,by omega,by decide,.inl ⟨rfl,rfl⟩⟩
theorem bS.slF{P:Program}(h:bS P f args H fun v H'=>∃a n c,v= .slice a n c/\bZ H H' e sz a n c xs){G:O->Nat->Nat->Heap->Prop}
  (hG:∀a n c H',aH H H'->Next aa H H'->bg aa H' e sz a n c xs->G a n c H'):bS P f args H fun v H'=>∃(a:O)(n c:Nat),v= .slice a n c/\(Next aa H H'->G a n c H'):=
 h.mono fun v H' e hv=>by obtain⟨a,n,c,h1,h2⟩:=hv;exact⟨a,n,c,h1,fun hN=>hG a n c H' e hN (h2.row hN)⟩
theorem Sl.kC{α:Type}{R:jq α}{xs:List α}(h:Sl R sz H none n xs):n=0/\xs=[]:=by
 have hl:=h.len;by_cases hn:n=0
 ·exact⟨hn,zG (by omega)⟩
 ·obtain⟨b,o,ha,_⟩:=h.ck (by omega)
  cases ha
open Go
def dY{α:Type}(R:jq α)(H:Heap):List (List Value)->List α->Prop
 | [],[]=>True
 |r::rs,x::xs=>R H r x/\dY R H rs xs
 |_,_=>False
theorem dY.len{α:Type}{R:jq α} :∀ {rs:List (List Value)} {xs:List α},dY R H rs xs->rs.length=xs.length
 | [],[],_=>rfl
 |_::_,_::_,h=>by simp[dY.len h.2]
theorem dY.mono{α:Type}{R:jq α}(hR:R.oW)(e:aH H H'):∀ {rs:List (List Value)} {xs:List α},dY R H rs xs->dY R H' rs xs
 | [],[],_=>trivial
 |_::_,_::_,h=>⟨hR _ _ _ _ e h.1,dY.mono hR e h.2⟩
theorem dY.append{α:Type}{R:jq α}{ys:List α}(k:dY R H ss ys):∀ {rs:List (List Value)} {xs:List α},dY R H rs xs->dY R H (rs++ss) (xs++ys)
 | [],[],_=>k
 |_::_,_::_,h=>⟨h.1,dY.append k h.2⟩
theorem dY.one{α:Type}{R:jq α}{x:α}(h:R H r x):dY R H [r] [x]:=⟨h,trivial⟩
theorem dY.get{α:Type}{R:jq α} :∀ {rs:List (List Value)} {xs:List α},dY R H rs xs->∀ {i:Nat} {r:List Value} {x:α},rs[i]?=some r->xs[i]?=some x->R H r x
 | [],[],_,i,r,x,h,_=>by simp at h
 |_::_,_::_,h,0,r,x,h1,h2=>by simp at h1 h2;subst h1 h2;exact h.1
 |_::_,_::_,h,i+1,r,x,h1,h2=>dY.get h.2 (i:=i) (by simpa using h1) (by simpa using h2)
theorem dY.drop{α:Type}{R:jq α} :∀ {rs:List (List Value)} {xs:List α} (k:Nat),dY R H rs xs->dY R H (rs.drop k) (xs.drop k)
 | [],[],k,_=>by simp[dY]
 |_::_,_::_,0,h=>h
 |_::_,_::_,k+1,h=>dY.drop k h.2
theorem dY.take{α:Type}{R:jq α} :∀ {rs:List (List Value)} {xs:List α} (k:Nat),dY R H rs xs->dY R H (rs.take k) (xs.take k)
 | [],[],k,_=>by simp[dY]
 |_::_,_::_,0,h=>by simp[dY]
 |_::_,_::_,k+1,h=>⟨h.1,dY.take k h.2⟩
theorem iX{sz:Nat} :∀ {rs:List (List Value)},(∀r∈rs,r.length=sz)->rs.flatten.length=rs.length*sz
 | [],_=>by simp
 |r::rs,h=>by
  rw[zW,zq,iX fun x hx=>h x (zj _ hx),h r zr,zi,yz];omega
theorem mP(h:o+vs.length<=ys.length):aV (xs++ys) (xs.length+o) vs=xs++aV ys o vs:=by
 rw[ia _ _ _ (by simp;omega),ia _ _ _ h,List.take_length_add_append,show xs.length+o+vs.length=xs.length+(o+vs.length) from by omega,List.drop_length_add_append];simp only[zE]
theorem tq(h:o+vs.length<=ys.length):aV (ys++zs) o vs=aV ys o vs++zs:=by
 rw[ia _ _ _ (by simp;omega),ia _ _ _ h,List.take_append_of_le_length (by omega),List.drop_append_of_le_length h];simp only[zE]
theorem Be{rs:List (List Value)}(hw:∀x∈rs,x.length=sz)(hr:r.length=sz){k:Nat}(hk:k+vs.length<=sz):
  aV (rs++r::ss).flatten (rs.length*sz+k) vs=(rs++aV r k vs::ss).flatten:=by
 rw[zI,zW,←iX hw,mP (by simp;omega),tq (by omega),zI,zW]
theorem Sl.rows{α:Type}{R:jq α}{xs:List α}(hlen:∀ {H:Heap} {r:List Value} {x:α},R H r x->r.length=sz)(h:Sl R sz H a n xs):
  ∃rs:List (List Value),(∀r∈rs,r.length=sz)/\dY R H rs xs/\rs.flatten.length=n*sz/\(n=0∨ ∃(b o:Nat),a=some ⟨b,o,none⟩/\ba H b o 0 rs.flatten):=by
 have key:∀(b o:Nat)(ys:List α),(∀(i:Nat)(x:α),ys[i]?=some x->∃r,R H r x/\∀(j:Nat)(v:Value),r[j]?=some v->H.cell b (o+i*sz+j)=some v)->
   ∃rs:List (List Value),(∀r∈rs,r.length=sz)/\dY R H rs ys/\∀(j:Nat) v,rs.flatten[j]?=some v->H.cell b (o+j)=some v:=by
  intro b o ys
  induction ys generalizing o with
  |nil=>intro _;exact⟨[],by simp,trivial,by simp⟩
  |cons y ys ih=>
   intro hc;obtain⟨r,hr,hv⟩:=hc 0 y rfl
   obtain⟨rs,h1,h2,h3⟩:=ih (o+sz) fun i x hx=>by
    obtain⟨r',we,AM⟩:=hc (i+1) x (by simpa using hx);refine⟨r',we,fun j v hj=>?_⟩;have:=AM j v hj;rw[yz] at this;rw[show o+sz+i*sz+j=o+(i*sz+sz)+j from by omega];exact this
   have hl:=hlen hr;refine⟨r::rs,fun x hx=>by rcases zm.1 hx with rfl|hx;exact hl;exact h1 x hx,⟨hr,h2⟩,fun j v hj=>?_⟩;rw[zW] at hj;by_cases FT:j<r.length
   ·rw[zU FT] at hj;have:=hv j v hj;simpa using this
   ·rw[zY (by omega)] at hj;have:=h3 _ v hj;rw[show o+sz+(j-r.length)=o+j from by omega] at this;exact this
 by_cases hn:n=0
 ·subst hn;have:xs=[]:=zG h.len;subst this;exact⟨[],by simp,trivial,by simp,.inl rfl⟩
 ·obtain⟨b,o,ha,hc⟩:=h.ck (by omega);obtain⟨rs,h1,h2,h3⟩:=key b o xs hc;refine⟨rs,h1,h2,by rw[iX h1,h2.len,h.len],.inr ⟨b,o,ha,jM _ 0 fun j v hj=>by rw[zS];exact h3 j v hj⟩⟩
theorem fj{H H':Heap}(e:aH H H'){b o:Nat} :∀ {cs:List Value} {i:Nat},ba H b o i cs->ba H' b o i cs
 | [],_,_=>trivial
 |_::_,_,h=>⟨Heap.aJ e h.1,fj e h.2⟩
theorem ev{α:Type}{R:jq α}{H:Heap}(h:∀ {r:List Value} {x:α},R H r x->aM r=true):∀ {rs:List (List Value)} {xs:List α},dY R H rs xs->aM rs.flatten=true
 | [],[],_=>rfl
 |_::_,_::_,k=>by rw[zW];exact oA _ _ (h k.1) (ev h k.2)
def du(H H':Heap):Heap:=fun x=>match H x with|none=>H' x|some _=>none
def Heap.plus(G K:Heap):Heap:=fun x=>match G x with|some k=>some k|none=>K x
def sT(H G:Heap):Prop:=∀x k,G x=some k->H x=none
theorem ew :aH (du H H') H':=fun x k h=>by
 unfold du at h;split at h
 ·exact h
 ·cases h
theorem il :sT H (du H H'):=fun x k h=>by
 unfold du at h;split at h
 ·assumption
 ·cases h
theorem sT.sub(h:sT H G)(e:aH H0 H):sT H0 G:=fun x k hx=>by
 cases h0:H0 x with
 |none=>rfl
 |some k0=>have:=h x k hx;rw[e x k0 h0] at this;cases this
theorem lu{K:Heap} :aH G (G.plus K):=fun x k h=>by unfold Heap.plus;rw[h]
theorem uf{K:Heap}(h:∀x k,K x=some k->∀k',G x=some k'->k'=k):aH K (G.plus K):=fun x k hk=>by
 unfold Heap.plus
 cases hg:G x with
 |none=>exact hk
 |some k'=>rw[h x k hk k' hg]
theorem Bf{K:Heap}(h1:aH G H)(h2:aH K H):aH (G.plus K) H:=fun x k hx=>by
 unfold Heap.plus at hx
 cases hg:G x with
 |none=>rw[hg] at hx;exact h2 x k hx
 |some k'=>rw[hg] at hx;cases hx;exact h1 x _ hg
theorem o0{K:Heap}(h1:sT H G)(h2:sT H K):sT H (G.plus K):=fun x k hx=>by
 unfold Heap.plus at hx
 cases hg:G x with
 |none=>rw[hg] at hx;exact h2 x k hx
 |some k'=>exact h1 x _ hg
structure bV{α:Type}(R:jq α)(sz:Nat)(e:TypeId)(aa:Nat)(G H:Heap)(a:O)(n c:Nat)(rows:List (List Value))(xs:List α):Prop where
 row:bg aa H e sz a n c rows.flatten
 wid:∀r∈rows,r.length=sz
 all:dY R G rows xs
 sub:aH G H
 clear:c≠0->∀g,a=some ⟨g,0,none⟩->G g=none
structure nJ{α:Type}(R:jq α)(sz:Nat)(e:TypeId)(H G H':Heap)(a:O)(n c:Nat)(rows:List (List Value))(xs:List α):Prop where
 row:bZ H H' e sz a n c rows.flatten
 wid:∀r∈rows,r.length=sz
 all:dY R G rows xs
 sub:aH G H'
 clear:c≠0->∀g,a=some ⟨g,0,none⟩->G g=none
 im:sT H G
section
variable {α : Type} {R : jq α} {sz : Nat} {e : TypeId} {aa : Nat} {G H H' : Heap} {a a' : O} {n c n' c' : Nat} {rows : List (List Value)} {xs : List α}
theorem bV.new(h:bV R sz e aa G H' a n c rows xs)(hb:∀b k,H b=some k->b<aa)(ha:sT H G):nJ R sz e H G H' a n c rows xs:=⟨h.row.fresh hb,h.wid,h.all,h.sub,h.clear,ha⟩
theorem nJ.own(h:nJ R sz e H G H' a n c rows xs)(hN:Next aa H H'):bV R sz e aa G H' a n c rows xs:=⟨h.row.row hN,h.wid,h.all,h.sub,h.clear⟩
theorem bV.mb(h:bV R sz e aa G H a n c rows xs)(h0:0<sz):rows.length=n/\xs.length=n:=by
 have:=h.row.1;rw[iX h.wid] at this;have:=Nat.eq_of_mul_eq_mul_right h0 this;exact⟨this,by rw[←h.all.len];exact this⟩
theorem bV.sl(hR:R.oW)(h0:0<sz)(h:bV R sz e aa G H a n c rows xs):Sl R sz H a n xs:=
 Sl.oz (pN h.row rfl h.wid (h.mb h0).1) h.all.len fun i r x hr hx=>hR _ _ _ _ h.sub (h.all.get hr hx)
theorem bV.ext(h:bV R sz e aa G H a n c rows xs)(x:aH H H'):bV R sz e aa G H' a n c rows xs:=⟨h.row.ext x,h.wid,h.all,h.sub.trans x,h.clear⟩
theorem bV.block(h:bV R sz e aa G H a n c rows xs)(hc:c≠0):∃g k,a=some ⟨g,0,none⟩/\H g=some k:=by
 rcases h.row.2.2.2 with⟨_,h1⟩|⟨g,k,h1,h2,h3,_⟩
 ·exact absurd h1 hc
 ·exact⟨g,k,h1,h3⟩
theorem bV.grow(hR:R.oW)(h:bV R sz e aa G H a n c rows xs)(x:aH H H'):bV R sz e aa (G.plus (du H H')) H' a n c rows xs:=
 ⟨h.row.ext x,h.wid,h.all.mono hR lu,Bf (h.sub.trans x) ew,fun hc g hg=>by
  obtain⟨g',k,h1,h2⟩:=h.block hc;obtain rfl:g=g':=by rw[hg] at h1;simpa using h1
  unfold Heap.plus du
  rw[h.clear hc g hg,h2]⟩
theorem ib(h:aH G H):aH (du H H') (G.plus (du H H')):=uf fun x k hk k' hg=>by
 have:=il x k hk;rw[h x k' hg] at this;cases this
theorem nJ.Kq(hR:R.oW)(h:nJ R sz e H G H' a n c rows xs):dY R (du H H') rows xs:=h.all.mono hR fun x k hx=>by
 unfold du;rw[h.im x k hx];exact h.sub x k hx
theorem bV.oB{rows':List (List Value)}{ys:List α}(h:bV R sz e aa G H a n c rows xs)(hg:cu aa H H' a c a' c' nn)(hr:bg aa H' e sz a' n' c' (rows.flatten++rows'.flatten))(hw:∀r∈rows',r.length=sz)(ha:dY R G rows' ys):
  bV R sz e aa G H' a' n' c' (rows++rows') (xs++ys):=
 ⟨by rw[zI];exact hr,fun r hr=>by rcases zd.1 hr with hr|hr;exact h.wid r hr;exact hw r hr,ha.append h.all,fun x k hx=>hg.cR x k (h.sub x k hx) (by
  by_cases hc:c=0
  ·exact .inl hc
  ·exact .inr fun e=>by have:=h.clear hc x e;rw[hx] at this;cases this),fun hc g Un=>by
  rcases hg.place hc g Un with h1|⟨h1,h2⟩
  ·cases hG:G g with
   |none=>rfl
   |some k=>rw[h.sub g k hG] at h1;cases h1
  ·exact h.clear h2 g (h1▸Un)⟩
theorem nJ.sl(hR:R.oW)(h0:0<sz)(h:nJ R sz e H G H' a n c rows xs)(hN:Next aa H H'):Sl R sz H' a n xs:=(h.own hN).sl hR h0
theorem bV.zero(hn:aH G H):bV R sz e aa G H a 0 0 [] ([]:List α):=⟨bg.zero,by simp,trivial,hn,fun h=>absurd rfl h⟩
end
open Go Go.Proofs
open Go.Value renaming int → I, slice → S, bool → B, agg → A, tuple → T, pointer → P, string → bH
open Go.IntKind renaming i64 → Z, wrap → W
open Go.Addr renaming mk → D
open Go.Vg.Bx renaming mk → J
open Go.Vg renaming Next → X, Sp → Y, eZ → YO, i64 → U
open Go.Vg.Heap renaming cell → C
open Int renaming toNat → N
theorem Uo(a:O)(n c g:Nat)(i:Int)(aa:Nat)(H0:Heap)(own:List Bx)(H:Heap)(f:SV->List Bx->Heap->Prop):
 (ld ⟨Tryz.prog,Tryz.f235.ntmps,⟨TryzList,TryzIn2,true⟩,aa,H0⟩ Tryz.f235 [.v (S a n c),.v (U i),.v (S (some ⟨g,0,none⟩) 1 1)] own H f)=(
 0<=i/\i<=(n:Int)/\n<=c/\∀b:O,(i<(c:Int)->b=zA (fun d=>Addr.add d (N i*2)) a)->(Int.ofNat 1=0->f (SV.v (S a n c)) own H)/\(¬Int.ofNat 1=0->(i=(n:Int)->∃d e:List Value,bg aa H 91 2 a n c d/\zo e=1*2/\aM e=true/\(1=0∨∃h j,some (D g 0 none)=some (D h j none)/\ba H h j 0 e)/\(n+1)*16<=140737488355328/\n+1<=9223372036854775807/\∀(h:O)(j:Nat)(k:Heap),cu aa H k a c h j (n+1)->bg aa k 91 2 h (n+1) j (d++e)->f (SV.v (S h (n+1) j)) own k)/\(¬i=(n:Int)->∀d:Int,d=W Z ((n:Int)+1)->((c:Int)<d->0<=i/\i<=(c:Int)/\∀e:Int,e=W Z ((n:Int)+1)->∀h:Int,h=W Z (e-i)->∃(j:List Value)(k:Nat),h=(k:Int)/\0<k/\c<N i+k/\bg aa H 91 2 a (N i) c j/\(N i+k)*16<=140737488355328/\N i+k<=9223372036854775807/\∀(l m:Nat)(o:Heap),X aa H o->H l=none->bg aa o 91 2 (some (D l 0 none)) (N i+k) m (j++yk (zk k [U 0,U 0]))->0<=i/\i<=(↑(N i+k):Int)/\N i+k<=m/\∀p:O,(i<(m:Int)->p=zA (fun q=>Addr.add q (N i*2)) (some (D l 0 none)))->(min 1 (N i+k-N i)=0->∀q:Int,q=W Z (i+1)->0<=q/\q<=(↑(N i+k):Int)/\N i+k<=m/\∀r:O,(q<(m:Int)->r=zA (fun s=>Addr.add s (N q*2)) (some (D l 0 none)))->0<=i/\i<=(n:Int)/\n<=c/\∀s:O,(i<(c:Int)->s=zA (fun t=>Addr.add t (N i*2)) a)->(min (n-N i) (N i+k-N q)=0->f (SV.v (S (some (D l 0 none)) (N i+k) m)) own o)/\(min (n-N i) (N i+k-N q)≠0->∃(t:List Value)(u v w x:Nat)(y:KB),zo t=min (n-N i) (N i+k-N q)*2/\aM t=true/\s=some (D u v none)/\ba o u v 0 t/\r=some (D w x none)/\o w=some y/\KB.free y=true/\aa<=w/\x+zo t<=KB.size y/\∀z:Heap,kW o w x y t z->f (SV.v (S (some (D l 0 none)) (N i+k) m)) own z))/\(min 1 (N i+k-N i)≠0->∃(q:List Value)(r s t u:Nat)(v:KB),zo q=min 1 (N i+k-N i)*2/\aM q=true/\some (D g 0 none)=some (D r s none)/\ba o r s 0 q/\p=some (D t u none)/\o t=some v/\KB.free v=true/\aa<=t/\u+
 zo q<=KB.size v/\∀w:Heap,kW o t u v q w->∀x:Int,x=W Z (i+1)->0<=x/\x<=(↑(N i+k):Int)/\N i+k<=m/\∀y:O,(x<(m:Int)->y=zA (fun z=>Addr.add z (N x*2)) (some (D l 0 none)))->0<=i/\i<=(n:Int)/\n<=c/\∀z:O,(i<(c:Int)->z=zA (fun a1=>Addr.add a1 (N i*2)) a)->(min (n-N i) (N i+k-N x)=0->f (SV.v (S (some (D l 0 none)) (N i+k) m)) own w)/\(min (n-N i) (N i+k-N x)≠0->∃(a1:List Value)(b1 c1 d1 e1:Nat)(f1:KB),zo a1=min (n-N i) (N i+k-N x)*2/\aM a1=true/\z=some (D b1 c1 none)/\ba w b1 c1 0 a1/\y=some (D d1 e1 none)/\w d1=some f1/\KB.free f1=true/\aa<=d1/\e1+zo a1<=KB.size f1/\∀g1:Heap,kW w d1 e1 f1 a1 g1->f (SV.v (S (some (D l 0 none)) (N i+k) m)) own g1)))/\(¬(c:Int)<d->∀e:Int,e=W Z ((n:Int)+1)->0<=e/\e<=(c:Int)/\∀h:Int,h=W Z (i+1)->0<=h/\h<=(↑(N e):Int)/\N e<=c/\∀j:O,(h<(c:Int)->j=zA (fun k=>Addr.add k (N h*2)) a)->pw Tryz.prog H 258 [S (some (D g 0 none)) 1 1,S j (N e-N h) (c-N h)] (B false)/\∀k:Int,k=W Z (i+1)->0<=k/\k<=(↑(N e):Int)/\N e<=c/\∀l:O,(k<(c:Int)->l=zA (fun m=>Addr.add m (N k*2)) a)->0<=i/\i<=(↑(N e):Int)/\N e<=c/\∀m:O,(i<(c:Int)->m=zA (fun o=>Addr.add o (N i*2)) a)->(min (N e-N i) (N e-N k)=0->0<=i/\i<=(↑(N e):Int)/\N e<=c/\∀o:O,(i<(c:Int)->o=zA (fun p=>Addr.add p (N i*2)) a)->(min 1 (N e-N i)=0->f (SV.v (S a (N e) c)) own H)/\(min 1 (N e-N i)≠0->∃(p:List Value)(q r s t:Nat)(u:KB),zo p=min 1 (N e-N i)*2/\aM p=true/\some (D g 0 none)=some (D q r none)/\ba H q r 0 p/\o=some (D s t none)/\H s=some u/\KB.free u=true/\aa<=s/\t+zo p<=KB.size u/\∀v:Heap,kW H s t u p v->f (SV.v (S a (N e) c)) own v))/\(min (N e-N i) (N e-N k)≠0->∃(o:List Value)(p q r s:Nat)(t:KB),zo o=min (N e-N i) (N e-N k)*2/\aM o=true/\m=some (D p q none)/\ba H p q 0 o/\l=some (D r s none)/\H r=some t/\KB.free t=true/\aa<=
 r/\s+zo o<=KB.size t/\∀u:Heap,kW H r s t o u->0<=i/\i<=(↑(N e):Int)/\N e<=c/\∀v:O,(i<(c:Int)->v=zA (fun w=>Addr.add w (N i*2)) a)->(min 1 (N e-N i)=0->f (SV.v (S a (N e) c)) own u)/\(min 1 (N e-N i)≠0->∃(w:List Value)(x y z a1:Nat)(b1:KB),zo w=min 1 (N e-N i)*2/\aM w=true/\some (D g 0 none)=some (D x y none)/\ba u x y 0 w/\v=some (D z a1 none)/\u z=some b1/\KB.free b1=true/\aa<=z/\a1+zo w<=KB.size b1/\∀c1:Heap,kW u z a1 b1 w c1->f (SV.v (S a (N e) c)) own c1)))))):=by kernel_rfl
theorem Up(a:O)(n c:Nat)(i j:Int)(aa:Nat)(H0:Heap)(own:List Bx)(H:Heap)(f:SV->List Bx->Heap->Prop):
 (ld ⟨Tryz.prog,Tryz.f236.ntmps,⟨TryzList,TryzIn2,true⟩,aa,H0⟩ Tryz.f236 [.v (S a n c),.v (U i),.v (U j)] own H f)=(
 0<=i/\i<=j/\j<=(n:Int)/\(n:Int)<=(c:Int)/\∀b:O,(i<(n:Int)->b=zA (fun d=>Addr.add d (N i*2)) a)->(i=j->f (SV.v (S a n c)) own H)/\(¬i=j->0<=i/\i<=(c:Int)/\0<=j/\j<=(n:Int)/\n<=c/\∀d:O,(j<(c:Int)->d=zA (fun e=>Addr.add e (N j*2)) a)->∃e g:List Value,bg aa H 91 2 a (N i) c e/\zo g=(n-N j)*2/\aM g=true/\(n-N j=0∨∃h k,d=some (D h k none)/\ba H h k 0 g)/\(N i+(n-N j))*16<=140737488355328/\N i+(n-N j)<=9223372036854775807/\∀(h:O)(k:Nat)(l:Heap),cu aa H l a c h k (N i+(n-N j))->bg aa l 91 2 h (N i+(n-N j)) k (e++g)->0<=(↑(N i+(n-N j)):Int)/\(↑(N i+(n-N j)):Int)<=(n:Int)/\(n:Int)<=(k:Int)/\∀m:O,((↑(N i+(n-N j)):Int)<(k:Int)->m=zA (fun o=>Addr.add o (N (↑(N i+(n-N j)):Int)*2)) h)->(N (n:Int)-N (↑(N i+(n-N j)):Int)=0->f (SV.v (S h (N i+(n-N j)) k)) own l)/\(N (n:Int)-N (↑(N i+(n-N j)):Int)≠0->∃(o p:Nat)(q:KB),m=some (D o p none)/\l o=some q/\KB.free q=true/\aa<=o/\p+(N (n:Int)-N (↑(N i+(n-N j)):Int))*2<=KB.size q/\∀r:Heap,kW l o p q (yk (zk (N (n:Int)-N (↑(N i+(n-N j)):Int)) [U 0,U 0])) r->f (SV.v (S h (N i+(n-N j)) k)) own r))):=by kernel_rfl
theorem Xu(a:O)(n c:Nat)(i j:Int)(aa:Nat)(H0:Heap)(own:List Bx)(H:Heap)(f:SV->List Bx->Heap->Prop):
 (ld ⟨Tryz.prog,Tryz.f43.ntmps,⟨TryzList,TryzIn2,true⟩,aa,H0⟩ Tryz.f43 [.v (S a n c),.v (U i),.v (U j)] own H f)=(
 0<=i/\i<=j/\j<=(n:Int)/\(n:Int)<=(c:Int)/\∀b:O,(i<(n:Int)->b=zA (fun d=>Addr.add d (N i*6)) a)->(i=j->f (SV.v (S a n c)) own H)/\(¬i=j->0<=i/\i<=(c:Int)/\0<=j/\j<=(n:Int)/\n<=c/\∀d:O,(j<(c:Int)->d=zA (fun e=>Addr.add e (N j*6)) a)->∃e g:List Value,bg aa H 74 6 a (N i) c e/\zo g=(n-N j)*6/\aM g=true/\(n-N j=0∨∃h k,d=some (D h k none)/\ba H h k 0 g)/\(N i+(n-N j))*56<=140737488355328/\N i+(n-N j)<=9223372036854775807/\∀(h:O)(k:Nat)(l:Heap),cu aa H l a c h k (N i+(n-N j))->bg aa l 74 6 h (N i+(n-N j)) k (e++g)->0<=(↑(N i+(n-N j)):Int)/\(↑(N i+(n-N j)):Int)<=(n:Int)/\(n:Int)<=(k:Int)/\∀m:O,((↑(N i+(n-N j)):Int)<(k:Int)->m=zA (fun o=>Addr.add o (N (↑(N i+(n-N j)):Int)*6)) h)->(N (n:Int)-N (↑(N i+(n-N j)):Int)=0->f (SV.v (S h (N i+(n-N j)) k)) own l)/\(N (n:Int)-N (↑(N i+(n-N j)):Int)≠0->∃(o p:Nat)(q:KB),m=some (D o p none)/\l o=some q/\KB.free q=true/\aa<=o/\p+(N (n:Int)-N (↑(N i+(n-N j)):Int))*6<=KB.size q/\∀r:Heap,kW l o p q (yk (zk (N (n:Int)-N (↑(N i+(n-N j)):Int)) [U 0,U 0,B false,B false,U 0,S none 0 0])) r->f (SV.v (S h (N i+(n-N j)) k)) own r))):=by kernel_rfl
open Go Go.Proofs
theorem bg.ba{c:Nat}(h:bg aa H e sz (some ⟨g,0,none⟩) n c xs){k:Nat}(hk:k<=xs.length)(hn:0<n):ba H g k 0 (xs.drop k):=by
 obtain⟨b,kb,ha,_,_,hH,_,_,hc⟩:=h.block hn;obtain rfl:g=b:=by simpa using ha
 refine jM _ 0 fun j v hj=>?_;rw[List.getElem?_drop] at hj;unfold Heap.cell;rw[hH];have:=hc _ v hj;rw[zS];exact this
theorem rq(h:H g=some (ay e cs)):Vg.ba H g 0 0 cs:=
 jM _ 0 fun j v hj=>by unfold Heap.cell;rw[h];simpa[ay] using hj
theorem Bg :aM xs=true↔ ∀v∈xs,v.oneCell'=true:=by
 induction xs with
 |nil=>simp[aM]
 |cons x r ih=>simp[aM,ih]
theorem ru(h:aM xs=true)(k:Nat):aM (xs.drop k)=true:=Bg.2 fun v hv=>Bg.1 h v (List.mem_of_mem_drop hv)
theorem bg.past{c:Nat}{k:KB}(h:bg aa H e sz a n c xs)(ha:a=some ⟨b,0,none⟩)(hc:c≠0)(hk:H b=some k)(ho:xs.length<=o)(hu:kW H b o k vs H'):bg aa H' e sz a n c xs:=by
 obtain⟨h1,h2,h3,h4⟩:=h;rcases h4 with⟨_,h5⟩|⟨g,k',hg,N3,hH,h6,h7,h8,h9⟩
 ·exact absurd h5 hc
 ·rw[ha] at hg;simp only[Option.some.injEq,Addr.mk.injEq,and_true] at hg;subst hg;rw[hk] at hH;obtain rfl:=zy hH;refine⟨h1,h2,h3,.inr ⟨b,_,ha,N3,hu.here,h6,h7,h8,fun j v hv=>?_⟩⟩;have hj:=(zw.1 hv).1;simp only[gA];rw[nI (by omega)];exact h9 j v hv
theorem cu.refl{c:Nat} :cu aa H H a c a c nn:=
 ⟨fun _ _ h _=>h,fun x k h h'=>by(rw[h] at h';cases h'),fun hc _ _=> .inr ⟨rfl,hc⟩,fun _=>⟨rfl,rfl⟩⟩
theorem cu.N2{tV:Heap}{c:Nat}{k:KB}(h:cu aa H H' a c a c nn)(ha:a=some ⟨b,0,none⟩)(hc:c≠0)(hk:H' b=some k)(hu:kW H' b o k vs tV):cu aa H tV a c a c nn:=
 ⟨fun x kx hx eE=>by
  have hb:x≠b:=fun e=>by
   subst e;rcases eE with eE|eE
   ·exact hc eE
   ·exact eE ha
  rw[hu.there x hb];exact h.cR x kx hx eE,fun x kx hx hn=>by
  by_cases e:x=b
  ·subst e;exact h.fresh x k hk hn
  ·rw[hu.there x e] at hx;exact h.fresh x kx hx hn,h.place,h.room⟩
def Xv(aa sz:Nat)(e:TypeId)(bytes:Nat)(z:List Value)(own:List Bx)(H:Heap)(f:SV->List Bx->Heap->Prop)(a:O)(n c:Nat)(i j:Int):Prop:=
 0<=i/\i<=j/\j<=(↑n:Int)/\(↑n:Int)<=(↑c:Int)/\∀(a':O),(i<(↑n:Int)->a'=zA (fun(ad:Addr)=>Addr.add ad (Int.toNat i*sz)) a)->(i=j->f (SV.v (Value.slice a n c)) own H)/\(¬i=j->0<=i/\
 i<=(↑c:Int)/\0<=j/\j<=(↑n:Int)/\n<=c/\∀(a':O),(j<(↑c:Int)->a'=zA (fun(ad:Addr)=>Addr.add ad (Int.toNat j*sz)) a)->∃(xs:List Value),∃(cells:List Value),bg aa H e sz a (Int.toNat
 i) c xs/\zo cells=(n-Int.toNat j)*sz/\aM cells=true/\(n-Int.toNat j=0∨ ∃(b:Nat),∃(o:Nat),a'=some (Addr.mk b o none)/\ba H b o 0 cells)/\(Int.toNat i+(n-Int.toNat j))*bytes<=
 140737488355328/\Int.toNat i+(n-Int.toNat j)<=9223372036854775807/\∀(a':O)(c':Nat)(H':Heap),cu aa H H' a c a' c' (Int.toNat i+(n-Int.toNat j))->bg aa H' e sz a' (Int.toNat i+(n-Int.toNat j)) c' (xs++cells)->0<=(↑(Int.toNat
 i+(n-Int.toNat j)):Int)/\(↑(Int.toNat i+(n-Int.toNat j)):Int)<=(↑n:Int)/\(↑n:Int)<=(↑c':Int)/\∀(iE:O),((↑(Int.toNat i+(n-Int.toNat j)):Int)<(↑c':Int)->iE=zA (fun(ad:Addr)
 =>Addr.add ad (Int.toNat (↑(Int.toNat i+(n-Int.toNat j)):Int)*sz)) a')->(Int.toNat (↑n:Int)-Int.toNat (↑(Int.toNat i+(n-Int.toNat j)):Int)=0->f (SV.v (Value.slice a' (Int.toNat i+(n-Int.toNat j)) c')) own H')
 /\(Int.toNat (↑n:Int)-Int.toNat (↑(Int.toNat i+(n-Int.toNat j)):Int)≠0->∃(b:Nat),∃(o:Nat),∃(k:KB),iE=some (Addr.mk b o none)/\H' b=some k/\KB.free k=true/\aa<=b/\o+(Int.toNat (↑n:Int)-
 Int.toNat (↑(Int.toNat i+(n-Int.toNat j)):Int))*sz<=KB.size k/\∀(Ed:Heap),kW H' b o k (yk (zk (Int.toNat (↑n:Int)-Int.toNat (↑(Int.toNat i+(n-Int.toNat j)):Int)) z)) Ed->f (SV.v (Value.slice a' (Int.toNat i+(n-Int.toNat j)) c')) own Ed))
def Uq(aa sz:Nat)(e:TypeId)(own:List Bx)(H:Heap)(f:SV->List Bx->Heap->Prop)(a:O)(n c:Nat)(i j:Int):Prop:=
 ∃(xs:List Value)(k m:Nat),i=(k:Int)/\j=(m:Int)/\k<=m/\m<=n/\n<=1000000/\bg aa H e sz a n c xs/\aM xs=true/\
  ∀H',cu aa H H' a c a c (k+(n-m))->bg aa H' e sz a (k+(n-m)) c (xs.take (k*sz)++xs.drop (m*sz))->f (.v (.slice a (k+(n-m)) c)) own H'
theorem Kr{bytes:Nat}(hb:bytes<=100000){z:List Value}{own:List Bx}{f:SV->List Bx->Heap->Prop}{c:Nat}{j:Int}(h:Uq aa sz e own H f a n c i j):Xv aa sz e bytes z own H f a n c i j:=by
 obtain⟨xs,k,m,rfl,rfl,Ur,V3,hn6,hR,h1,h⟩:=h;have tR:=hR.2.1;have nb:=hR.1;have VZ:=hR.2.2.1;simp only[maxLen] at VZ;unfold Xv;simp only[zz];refine⟨by omega,by omega,by omega,by omega,fun a1 ha1=>⟨fun hkm2=>?_,fun eE=>⟨by omega,by omega,by omega,by omega,by omega,fun a2 Us=>?_⟩⟩⟩
 ·obtain rfl:k=m:=by omega
  have:=h H cu.refl (by rw[List.take_append_drop,show k+(n-k)=n from by omega];exact hR);rw[show k+(n-k)=n from by omega] at this;exact this
 have Fg:0<n:=by omega
 obtain⟨b,kb,ha,fN,qY,Cq,dj,kv,v8⟩:=hR.block Fg;subst ha;have hms:m*sz<=n*sz:=Nat.mul_le_mul_right _ V3;have Fh:(k+(n-m))*bytes<=1000000*100000:=Nat.mul_le_mul (by omega) hb;refine⟨xs.take (k*sz),xs.drop (m*sz),hR.short (by omega),by rw[yv,nb,Nat.sub_mul],ru h1 _,?_,by omega,by omega,fun a3 c3 H3 hG QX=>?_⟩
 ·by_cases hz:n-m=0
  ·exact .inl hz
  ·refine .inr ⟨b,m*sz,?_,hR.ba (by omega) Fg⟩;rw[Us (by omega)];simp[addr_add]
 ·obtain⟨rfl,rfl⟩:=hG.room (by omega);have bK:k+(n-m)<n:=by omega
  refine⟨by omega,by omega,by omega,fun a4 Ut=>⟨fun hz=>by omega,fun _=>?_⟩⟩;have hR3b:=QX.2.2.2;rcases hR3b with⟨_,h0⟩|⟨g,kg,hg,N4,hHg,_,hgs,hgf,_⟩
  ·exact absurd h0 qY
  obtain rfl:b=g:=by simpa using hg
  refine⟨b,(k+(n-m))*sz,kg,?_,hHg,hgf,fN,?_,fun H4 hu=>?_⟩
  ·rw[Ut (by omega)];simp[addr_add]
  ·rw[hgs,←Nat.add_mul];exact Nat.mul_le_mul_right _ (by omega)
  ·exact h H4 (hG.N2 rfl qY hHg hu) (QX.past rfl qY hHg (by rw[QX.1];exact ze _) hu)
def Uu(aa:Nat)(own:List Bx)(H:Heap)(f:SV->List Bx->Heap->Prop)(a:O)(n c:Nat)(i:Int)(g:Nat):Prop:=
 ∃(xs cells:List Value)(k:Nat),i=(k:Int)/\k<=n/\n<=1000000/\bg aa H 91 2 a n c xs/\aM xs=true/\cells.length=2/\aM cells=true/\H g=some (ay 91 cells)/\(c≠0->a≠some ⟨g,0,none⟩)/\
  ∀a' c' H',cu aa H H' a c a' c' (n+1)->bg aa H' 91 2 a' (n+1) c' (xs.take (k*2)++cells++xs.drop (k*2))->f (.v (.slice a' (n+1) c')) own H'
theorem Bh{lb cb:Nat}{k kg:KB}(hg:H g=some kg)(hgf:kg.free=true)(hb:H b=some k)(hks:k.size≠0)(eE:g≠b):
  pw Tryz.prog H 258 [.slice (some ⟨g,0,none⟩) 1 1,.slice (some ⟨b,o,none⟩) lb cb] (.bool false):=fun w hw=>by
 obtain⟨cg,frg,hcg,hsg,Xw,_⟩:=hw g _ hg;obtain rfl:=Xw hgf;obtain⟨cb',frb,hcb,hsb,_,_⟩:=hw b _ hb;have h48:∀w,(Go.sizeOf 91).run Tryz.prog w= .ok 2 w:=fun w=>by have z:= Tryz.sizeOf91;exact z w
 rw[run_callFunc_extern Tryz.func258 (by kernel_rfl) (by kernel_rfl) (by kernel_rfl) (e:=Extern.SlicesOverlaps.overlaps #[22,22] #[4]) (by kernel_rfl)];rw[Lib.run_overlaps_apart w 22 4 91 Tryz.underlying22 2 h48 ⟨g,0,none⟩ ⟨b,o,none⟩ 1 1 lb cb eE kg.ty k.ty cg.size cb'.size (by simp[World.shape?,hcg]) (by simp[World.shape?,hcb]) (by omega) (by simp[World.frozen?,hcg]) (by simp[World.frozen?,hcg])];rfl
theorem N5{cells:List Value}{k:Nat}(hk:k<=n)(hx:xs.length=n*2)(hc:cells.length=2)(hz:zs.length=(n+1-k)*2):
  aV (aV (xs.take (k*2)++zs) (k*2) cells) ((k+1)*2) (xs.drop (k*2))=xs.take (k*2)++cells++xs.drop (k*2):=by
 have e1:(xs.take (k*2)).length=k*2:=by rw[zF];omega
 have h1:aV (xs.take (k*2)++zs) (k*2) cells=xs.take (k*2)++aV zs 0 cells:=by
  have:=mP (xs:=xs.take (k*2)) (vs:=cells) (ys:=zs) (o:=0) (by omega);rw[e1,Nat.add_zero] at this;exact this
 have h2:aV zs 0 cells=cells++zs.drop 2:=by
  rw[ia _ _ _ (by omega)];simp[hc]
 rw[h1,h2,←zE];have h3:=mP (xs:=xs.take (k*2)++cells) (vs:=xs.drop (k*2)) (ys:=zs.drop 2) (o:=0) (by simp;omega);rw[show(xs.take (k*2)++cells).length+0=(k+1)*2 from by simp;omega] at h3;rw[h3,qW (by simp;omega)]
theorem QY{own:List Bx}{f:SV->List Bx->Heap->Prop}{c:Nat}(h:Uu aa own H f a n c i g):
  ld ⟨Tryz.prog,Tryz.f235.ntmps,⟨TryzList,TryzIn2,true⟩,aa,H0⟩ Tryz.f235 [.v (.slice a n c),.v (.int .i64 i),.v (.slice (some ⟨g,0,none⟩) 1 1)] own H f:=by
 rw[Uo];obtain⟨xs,cells,k,rfl,hk,hn6,hR,Sq,v8,Fb,hg,Un,h⟩:=h;have tR:=hR.2.1;have nb:=hR.1;have Sd:=hR.2.2.1;simp only[maxLen] at Sd;have hgc:=rq hg;simp only[zz];refine⟨by omega,by omega,tR,fun a1 _=>⟨fun h=>absurd h (by decide),fun _=>⟨fun CY=>?_,fun CY=>?_⟩⟩⟩
 ·obtain rfl:k=n:=by omega
  refine⟨xs,cells,hR,by omega,Fb,.inr ⟨g,0,rfl,hgc⟩,by omega,by omega,fun a2 c2 H2 hG qy=>h a2 c2 H2 hG ?_⟩;rw[zg (by omega),zO (by omega),zZ];exact qy
 rintro r rfl;rw[aj];have Fg:0<n:=by omega
 obtain⟨b,kb,ha,fN,qY,Cq,dj,kv,cI⟩:=hR.block Fg;subst ha;have N4:g≠b:=fun e=>Un qY (by rw[e]);refine⟨fun gJ=>?_,fun gJ=>?_⟩
 ·refine⟨by omega,by omega,?_⟩;rintro r rfl;rw[aj];rintro r rfl;rw[aj];refine⟨xs.take (k*2),n+1-k,by omega,by omega,by omega,hR.short hk,by omega,by omega,fun g1 c1 H1 fh kY L0=>?_⟩;have e1:k+(n+1-k)=n+1:=by omega
  rw[e1] at L0⊢;have hne1:g1≠g:=fun e=>by rw[e,hg] at kY;cases kY
  have hne2:g1≠b:=fun e=>by rw[e,Cq] at kY;cases kY
  refine⟨by omega,by omega,L0.2.1,fun a2 Us=>⟨fun h=>by omega,fun _=>?_⟩⟩;obtain⟨b1,k1,T6,Uv,Xx,hH1,hf1,hs1,_⟩:=L0.block (by omega);obtain rfl:g1=b1:=by simpa using T6
  have hc1n:=L0.2.1;refine⟨cells,g,0,g1,k*2,k1,by omega,Fb,rfl,fj fh.ext hgc,by rw[Us (by omega)];simp[addr_add],hH1,hf1,Uv,by rw[hs1];omega,fun H2 sb=>?_⟩;rintro r rfl
  try rw[aj]
  have qy:=L0.N2 rfl Xx hH1 (o:=k*2) (vs:=cells) (by rw[L0.1];omega) sb;refine⟨by omega,by omega,by omega,fun a3 Xy=>⟨by omega,by omega,tR,fun a4 Ut=>⟨fun h=>by omega,fun _=>?_⟩⟩⟩;have hHb2:H2 b=some kb:=by rw[sb.there b (fun e=>hne2 e.symm)];exact fh.ext b kb Cq
  have hRb2:bg aa H2 91 2 (some ⟨b,0,none⟩) n c xs:=⟨nb,tR,hR.2.2.1,.inr ⟨b,kb,rfl,fN,hHb2,by
   rcases hR.2.2.2 with⟨h0,_⟩|⟨b',vP,Fk,_,N6,Ki,_⟩
   ·omega
   ·obtain rfl:b=b':=by simpa using Fk
    rw[Cq] at N6;cases N6;exact Ki,kv,dj,cI⟩⟩
  obtain⟨b2,k2,Qk,_,_,M9,hf2,hs2,_⟩:=qy.block (by omega);obtain rfl:g1=b2:=by simpa using Qk
  refine⟨xs.drop (k*2),b,k*2,g1,(k+1)*2,k2,by rw[yv];omega,ru Sq _,by rw[Ut (by omega)];simp[addr_add],hRb2.ba (by omega) Fg,by rw[Xy (by omega)];simp[addr_add];try omega,M9,hf2,Uv,by rw[hs2,yv];omega,fun H3 DT=>?_⟩;have QX:=qy.N2 rfl Xx M9 (o:=(k+1)*2) (vs:=xs.drop (k*2)) (by rw[qy.1,yv];omega) DT;rw[N5 hk nb v8 (by simp)] at QX;refine h _ _ H3 ⟨fun x kx hx _=>?_,fun x kx hx hn=>?_,fun _ x hx=>?_,fun h=>by omega⟩ QX
  ·have eE:x≠g1:=fun e=>by rw[e,kY] at hx;cases hx
   rw[DT.there x eE,sb.there x eE];exact fh.ext x kx hx
  ·by_cases e:x=g1
   ·subst e;exact Uv
   ·rw[DT.there x e,sb.there x e] at hx;exact fh.fresh x kx hx hn
  ·obtain rfl:g1=x:=by simpa using hx
   exact .inl kY
 ·rintro r rfl;rw[aj];refine⟨by omega,by omega,?_⟩;rintro r rfl;rw[show Int.toNat ((n:Int)+1)=n+1 from by omega,show Int.toNat ((k:Int)+1)=k+1 from by omega];refine⟨by omega,by omega,by omega,fun a2 Us=>?_⟩;obtain rfl:a2=some ⟨b,(k+1)*2,none⟩:=by rw[Us (by omega)];simp[addr_add]
  refine⟨Bh hg rfl Cq (by omega) N4,?_⟩;rintro r rfl;rw[show Int.toNat ((k:Int)+1)=k+1 from by omega];refine⟨by omega,by omega,by omega,fun a3 Xy=>⟨by omega,by omega,by omega,fun a4 Ut=>⟨fun h=>by omega,fun _=>?_⟩⟩⟩;have hm:min (n+1-k) (n+1-(k+1))=n-k:=by omega
  refine⟨xs.drop (k*2),b,k*2,b,(k+1)*2,kb,by rw[yv,hm];omega,ru Sq _,by rw[Ut (by omega)];simp[addr_add],hR.ba (by omega) Fg,by rw[Xy (by omega)];simp[addr_add],Cq,dj,fN,by rw[kv,yv];omega,fun H3 DT=>⟨by omega,by omega,by omega,fun a5 ha5=>⟨fun h=>by omega,fun _=>?_⟩⟩⟩;have hm1:min 1 (n+1-k)=1:=by omega
  refine⟨cells,g,0,b,k*2,_,by rw[hm1];omega,Fb,rfl,rq (by rw[DT.there g N4];exact hg),by rw[ha5 (by omega)];simp[addr_add],DT.here,dj,fN,by show k*2+cells.length<=kb.size;rw[kv];omega,fun H4 V4=>?_⟩;refine h _ _ H4 (cu.N2 (cu.N2 cu.refl rfl qY Cq DT) rfl qY DT.here V4) ⟨by simp;omega,by omega,hR.2.2.1,.inr ⟨b,_,rfl,fN,V4.here,?_,kv,dj,fun j v hj=>?_⟩⟩
  ·rcases hR.2.2.2 with⟨h0,_⟩|⟨b',vP,Fk,_,N6,Ki,_⟩
   ·omega
   ·obtain rfl:b=b':=by simpa using Fk
    rw[Cq] at N6;cases N6;exact Ki
  ·simp only[gA,v8,yv,nb];rw[zE] at hj;by_cases c1:j<k*2
   ·rw[zU (by simp;omega),zD,pI c1] at hj;rw[nI (by omega),nI (by omega)];exact cI j v hj
   ·rw[zY (by simp;omega),show j-(xs.take (k*2)).length=j-k*2 from by simp;omega] at hj;by_cases c2:j<(k+1)*2
    ·rw[zU (by omega)] at hj;rw[pI (by omega)];exact hj
    ·rw[zY (by omega)] at hj;have bK:=(zw.1 hj).1;rw[yv] at bK;rw[nI (by omega),pI (by omega),show j-(k+1)*2=j-k*2-cells.length from by omega];exact hj
open Go Go.Proofs Go.RowKit Go.Shelf
set_option maxHeartbeats 1000000 in
theorem QZ{w:World}{cap:Nat}{p:Value}{cur:Array Value}{fz:Nat×Nat}{l:List UInt8}(Ic:w.heap[b]?=some (.cells #[p,.slice (some ⟨g,0,none⟩) l.length cap] 311 (0,0)))(h0:l≠[])
  (hg:w.heap[g]?=some (.cells cur 5 fz)) (hn:l.length<=cap) (Sd:cap<=maxLen) (Ib:cur.size=cap) (hc:∀(j:Nat)(x:UInt8),l[j]?=some x->w.cell? ⟨g,j,none⟩=some (.int .u8 x.toNat)):
  Calls Tryz.prog 285 #[.pointer (some ⟨b,0,none⟩)] w fun e w'=>e= .returned (.string ⟨l.toArray⟩)/\w'=w.drew.freeze ⟨g,0,none⟩ l.length:=by
 have hl0:l.length≠0:=by simpa using h0
 have c1:w.drew.cell? ⟨b,1,none⟩=some (.slice (some ⟨g,0,none⟩) l.length cap):=by
  have:w.drew.heap[b]?=some (.cells #[p,.slice (some ⟨g,0,none⟩) l.length cap] 311 (0,0)):=Ic;rw[Lib.cell_of_heap this];rfl
 have hSD:(Builtin.unsafeSliceData_ #[33] 333 #[.slice (some ⟨g,0,none⟩) l.length cap]).run Tryz.prog w.drew= .ok (.pointer (some ⟨g,0,none⟩)) w.drew:=
  Lib.run_unsafeSliceData_row _ _ _ _ _ _ (by omega)
 have hUS:(Builtin.unsafeString_ #[333,3] 9 #[.pointer (some ⟨g,0,none⟩),.int .i64 l.length]).run Tryz.prog w.drew= .ok (.string ⟨l.toArray⟩) (w.drew.freeze ⟨g,0,none⟩ l.length):=by
  refine Lib.run_unsafeString_row w.drew 333 3 9 5 Tryz.underlying333 (by kernel_rfl) g cur.size (by have gu:w.drew.heap[g]?=some (.cells cur 5 fz):=hg;simp[World.shape?,gu]) l h0 (by omega) (by unfold maxLen at Sd;omega) ?_;intro j x hx;have:=hc j x hx;simpa[addr_add] using this
 go_enter Tryz.func285,Tryz.ntmps285
 go_wp2
 go_region
 all_goals (go_wp2;go_ret;exact⟨rfl,rfl⟩)
def Xz(aa:Nat)(own:List Bx)(H:Heap)(f:SV->List Bx->Heap->Prop)(i:Nat):Prop:=
 match own[i]? with
 |some ⟨b,false,ty,[p,.slice a n c]⟩=>ty= 311/\0<n/\
  ∃l:List UInt8,bg aa H 5 1 a n c (qm l)/\∀H',(∀x k,H x=some k->a≠some ⟨x,0,none⟩->H' x=some k)->(∀x k,H' x=some k->H x=some k)->f (.v (.string ⟨l.toArray⟩)) own H'
 |_=>False
noncomputable def TryzSum:jV:=fun aa H0 g pre own H f=>
 if g= 285 then(match pre with
  | [.loc i 0]=>some (Xz aa own H f i)
  |_=>none)
 else if g= 235 then(match pre with
  | [.v (.slice a n c),.v (.int .i64 i),.v (.slice (some ⟨g',0,none⟩) 1 1)]=>some (Uu aa own H f a n c i g')
  |_=>none)
 else if g= 236 then(match pre with
  | [.v (.slice a n c),.v (.int .i64 i),.v (.int .i64 j)]=>some (Uq aa 2 91 own H f a n c i j)
  |_=>none)
 else if g= 43 then(match pre with
  | [.v (.slice a n c),.v (.int .i64 i),.v (.int .i64 j)]=>some (Uq aa 6 74 own H f a n c i j)
  |_=>none)
 else TryzIn3 aa H0 g pre own H f
theorem Gf(w:World)(g n:Nat){k:Nat}(hk:k≠g):(w.drew.freeze ⟨g,0,none⟩ n).heap[k]?=w.heap[k]?:=by
 unfold World.freeze;split
 ·rfl
 ·show(w.heap.modify g _)[k]?=_
  rw[Array.getElem?_modify,nI (fun e=>hk e.symm)]
theorem Gh(w:World)(g n:Nat):(w.drew.freeze ⟨g,0,none⟩ n).heap.size=w.heap.size:=by
 unfold World.freeze;split
 ·rfl
 ·show(w.heap.modify g _).size=_
  simp
theorem L1(w:World)(g n:Nat):(w.drew.freeze ⟨g,0,none⟩ n).os=w.os/\(w.drew.freeze ⟨g,0,none⟩ n).tape=w.tape/\(w.drew.freeze ⟨g,0,none⟩ n).output=w.output:=by
 unfold World.freeze;split<;>exact⟨rfl,rfl,rfl⟩
theorem I5{g:FuncId}(hl:vX g TryzFs=some fn){pre:List SV}(hn:pre.length<=fn.ntmps){own:List Bx}{f:SV->List Bx->Heap->Prop} :
  TryzIn3 aa H0 g pre own H f=some (ld ⟨Tryz.prog,fn.ntmps,⟨TryzList,TryzIn2,true⟩,aa,H0⟩ fn pre own H f):=by
 unfold TryzIn3 qT;rw[hl];dsimp only;rw[pI hn]
theorem Tryzsum(j:Bool):fy Tryz.prog ⟨TryzList,TryzSum,j⟩:=by
 have key:∀aa H0 g pre own H f p q,TryzIn3 aa H0 g pre own H f=some q->(p->q)->TryzList.contains g=true/\(p->∀(C:qG)(w0:World)(bc:List Nat)(w:World),C.aa=aa->C.H0=H0->iR C w0 bc own H w->(∀s∈pre,SV.wf own.length s)->
   Calls Tryz.prog g (pre.map (SV.val own)).toArray w fun e w'=>∃v dQ H',e= .returned v/\f (.v v) dQ H'/\aW own dQ/\iR C w0 bc dQ H' w'):=fun aa H0 g pre own H f p q hq sS=>by
  obtain⟨h1,h2⟩:= Tryzin3 j aa H0 g pre own H f q hq;exact⟨h1,fun hp=>h2 (sS hp)⟩
 intro aa H0 g pre own H f p hp;unfold TryzSum at hp;dsimp only at hp;split at hp
 ·rename_i e;subst e;split at hp
  ·rename_i i;obtain rfl:=zy hp;refine⟨by show TryzList.contains 285=true;decide,fun h C w0 bc w fN Xq hw oJ=>?_⟩;subst fN Xq;unfold Xz at h;split at h
   ·rename_i b ty p a n c hx;obtain⟨rfl,hn,l,hR,hf⟩:=h;have Ic:w.heap[b]?=some (.cells #[p,.slice a n c] 311 (0,0)):=hw.aE.ok _ (zt hx);obtain⟨h1,h2,h3,h4⟩:=hR;obtain rfl:l.length=n:=by simpa[qm] using h1
    rcases h4 with⟨h0,_⟩|⟨g,k,rfl,N4,hH,Ki,LJ,dj,v8⟩
    ·omega
    obtain⟨cur,fr,Sc,kv,_,cI⟩:=hw.dI g _ hH;rw[Ki] at Sc;have hbn:fW own i=b:=pB hx;have dE:(([SV.loc i 0]:List SV).map (SV.val own)).toArray= #[.pointer (some ⟨b,0,none⟩)]:=by simp[SV.val,hbn]
    rw[dE];refine(QZ Ic (by intro e;subst e;simp at hn) Sc h2 h3 (by rw[kv,LJ,Nat.mul_one]) (fun j x hj=>hw.dI.cell ?_)).mono fun e w' ⟨he,er⟩=>?_
    ·unfold Heap.cell;rw[hH];exact v8 j _ (by simp[qm,hj])
    have se:∀y∈own,y.b≠g:=fun y hy e=>by
     have:=hw.aE.hid y hy;rw[e,hH] at this;cases this
    obtain⟨o1,o2,o3⟩:=L1 w g l.length;refine⟨_,own,fun x=>if x=g then none else H x,he,hf _ (fun x k hk eE=>?_) (fun x k hk=>?_),aW.refl _,?_⟩
    ·have:x≠g:=fun e=>eE (by rw[e]);simp only[nI this];exact hk
    ·split at hk
     ·cases hk
     ·exact hk
    ·have mu:∀k,k≠g->w'.heap[k]?=w.heap[k]?:=fun k hk=>by rw[er];exact Gf w g _ hk
     refine⟨fun x k hk=>?_,⟨fun y hy=>Bx.nX (hw.aE.ok y hy) (mu _ (se y hy)),fun y hy=>?_,hw.aE.apart⟩,hw.mK,hw.step (by rw[er];exact o1) (by rw[er];exact o2) (by rw[er];exact o3) (by rw[er,Gh];exact ze _) fun k hk Ct=>mu k (by omega),⟨fun x k hk=>?_,fun x k hk hn=>?_⟩,hw.aa,hw.jo⟩
     ·split at hk
      ·cases hk
      ·rename_i eE;rw[mu x eE];exact hw.dI x k hk
     ·split
      ·rfl
      ·exact hw.aE.hid y hy
     ·have:=hw.FF hk;rw[nI (by omega)];exact hw.next.ext x k hk
     ·split at hk
      ·cases hk
      ·exact hw.next.fresh x k hk hn
   ·exact h.elim
  ·cases hp
 ·split at hp
  ·rename_i e;subst e;split at hp
   ·obtain rfl:=zy hp;exact key _ _ _ _ _ _ _ _ _ (I5 (fn:= Tryz.f235) (by rfl) (z8 (by kernel_rfl))) QY
   ·cases hp
  ·split at hp
   ·rename_i e;subst e;split at hp
    ·obtain rfl:=zy hp
     exact key _ _ _ _ _ _ _ _ _ (I5 (fn:= Tryz.f236) (by rfl) (z8 (by kernel_rfl))) fun h=>by
      show ld ⟨Tryz.prog,Tryz.f236.ntmps,⟨TryzList,TryzIn2,true⟩,aa,H0⟩ Tryz.f236 _ own H f
      rw[Up];exact Kr (bytes:=16) (by omega) h
    ·cases hp
   ·split at hp
    ·rename_i e;subst e;split at hp
     ·obtain rfl:=zy hp
      exact key _ _ _ _ _ _ _ _ _ (I5 (fn:= Tryz.f43) (by rfl) (z8 (by kernel_rfl))) fun h=>by
       show ld ⟨Tryz.prog,Tryz.f43.ntmps,⟨TryzList,TryzIn2,true⟩,aa,H0⟩ Tryz.f43 _ own H f
       rw[Xu];exact Kr (bytes:=56) (by omega) h
     ·cases hp
    ·exact Tryzin3 j aa H0 g pre own H f p hp
noncomputable def TryzMutsJ:xT:=⟨TryzList,TryzSum,true⟩
theorem TryzvcJ(hf: Tryz.prog.funcs[f]?=some fn)(eC:oV fn=true)(dE:Nat.ble args.length fn.ntmps=true)(Q:Value->Heap->Prop)(IY:args.map SV.v=sv)
  {F:Nat->(Value->List (List Value)->Heap->Prop)->Prop} (hv:∀aa K,qC ⟨Tryz.prog,fn.ntmps,TryzMutsJ,aa,H⟩ (gS fn) fn.results.toList sv [] K=F aa K)
  (h:∀aa,(∀b k,H b=some k->b<aa)->F aa (fun v _ H'=>Q v H')):Sp f args H Q:=
 sf (fE:= TryzMutsJ) (Tryzsum true) hf (dK eC) rfl Tryzmixed (ij eC) (z8 dE) fun aa hb=>by
  rw[IY,hv aa];exact h aa hb
theorem bh(hf: Tryz.prog.funcs[f]?=some fn){Q:Value->Heap->Prop}{F:Nat->(Value->List (List Value)->Heap->Prop)->Prop}(hv:∀aa K,qC ⟨Tryz.prog,fn.ntmps,TryzMutsJ,aa,H⟩ (gS fn) fn.results.toList (args.map SV.v) [] K=F aa K)(h:∀aa,(∀b k,H b=some k->b<aa)->F aa (fun v _ H'=>Q v H'))(eC:oV fn=true:=by kernel_rfl)(dE:Nat.ble args.length fn.ntmps=true:=by kernel_rfl):Sp f args H Q:=TryzvcJ hf eC dE Q rfl hv h
theorem Bi{p:O}{v:Value}(hp:p=none∨p=some ⟨b,0,none⟩):eZ Tryz.prog 298 [.pointer (some ⟨b,0,none⟩)] [⟨b,false,311,[.pointer p,v]⟩] H
  fun r iy H'=>r= .tuple #[]/\iy=[[.pointer (some ⟨b,0,none⟩),v]]/\H'=H:=fun w hw hb=>by
 have Ic:w.heap[b]?=some (.cells #[.pointer p,v] 311 (0,0)):=hb.ok _ zr;have hbn:H b=none:=hb.hid _ zr
 have bK:b<w.heap.size:=by
  rcases Nat.lt_or_ge b w.heap.size with h|h
  ·exact h
  ·simp[Array.getElem?_eq_none h] at Ic
 have hX:Builder.X72 Tryz.prog Tryz.rh:= { sizeBuilder:=by kernel_rfl,liesBuilder:=by kernel_rfl }
 rcases hp with rfl|rfl
 ·refine(Any.Builder_copyCheck_fresh { Tryz.uU with } hX b w (by rw[Lib.cell_of_heap Ic];rfl) (by simp[World.shape?,Ic];rfl) (by simp[World.frozen?,Ic])).mono fun e w' ⟨he,er⟩=>?_
  have mu:∀k,k≠b->w'.heap[k]?=w.heap[k]?:=fun k hk=>by
   rw[er];simp[World.setCell,Array.getElem?_modify,Ne.symm hk]
  have tY:w'.heap[b]?=some (.cells #[.pointer (some ⟨b,0,none⟩),v] 311 (0,0)):=by
   rw[er];simp[World.setCell,Array.getElem?_modify,Ic]
  have kv:w'.heap.size=w.heap.size:=by rw[er];simp[World.setCell]
  refine⟨_,[[.pointer (some ⟨b,0,none⟩),v]],H,he,rfl,⟨by rw[er];rfl,by rw[er];rfl,by rw[er];rfl,by omega,fun k _ hk=>mu k (by simpa using hk)⟩,fun x k hx=>?_,⟨fun y hy=>?_,fun y hy=>?_,by simp[gi]⟩,⟨fun _ _ h=>h,fun x k h h'=>(by rw[h] at h';cases h')⟩,rfl,rfl,rfl⟩
  ·rw[mu x (fun e=>by rw[e,hbn] at hx;cases hx)];exact hw x k hx
  ·obtain rfl:y=⟨b,false,311,[.pointer (some ⟨b,0,none⟩),v]⟩:=by simpa[gi,Bx.set] using hy
   exact tY
  ·obtain rfl:y=⟨b,false,311,[.pointer (some ⟨b,0,none⟩),v]⟩:=by simpa[gi,Bx.set] using hy
   exact hbn
 ·refine(Any.Builder_copyCheck_used { Tryz.uU with } hX b w (by rw[Lib.cell_of_heap Ic];rfl)).mono fun e w' ⟨he,er⟩=>?_;subst er;exact⟨_,[[.pointer (some ⟨b,0,none⟩),v]],H,he,rfl,bL.refl _ _,hw,hb,⟨fun _ _ h=>h,fun x k h h'=>(by rw[h] at h';cases h')⟩,rfl,rfl,rfl⟩
open Go Go.Proofs
def TryzListK:List FuncId:=1000000:: TryzList
theorem XA{g:FuncId}(h: TryzList.contains g=true): TryzListK.contains g=true:=by
 unfold TryzListK;rw[List.contains_cons,h,Bool.or_true]
theorem TryzsumK(j:Bool):fy Tryz.prog ⟨TryzListK,TryzSum,j⟩:=fun aa H0 g pre own H f p hp=>by
 obtain⟨h1,h2⟩:= Tryzsum j aa H0 g pre own H f p hp;exact⟨XA h1,h2⟩
noncomputable def TryzMutsK:xT:=⟨TryzListK,TryzSum,true⟩
theorem TryzvcK(hf: Tryz.prog.funcs[f]?=some fn)(eC:oV fn=true)(dE:Nat.ble args.length fn.ntmps=true)(Q:Value->Heap->Prop)(IY:args.map SV.v=sv)
  {F:Nat->(Value->List (List Value)->Heap->Prop)->Prop} (hv:∀aa K,qC ⟨Tryz.prog,fn.ntmps,TryzMutsK,aa,H⟩ (gS fn) fn.results.toList sv [] K=F aa K)
  (h:∀aa,(∀b k,H b=some k->b<aa)->F aa (fun v _ H'=>Q v H')):Sp f args H Q:=
 sf (fE:= TryzMutsK) (TryzsumK true) hf (dK eC) rfl Tryzmixed (ij eC) (z8 dE) fun aa hb=>by
  rw[IY,hv aa];exact h aa hb
theorem wo(hf: Tryz.prog.funcs[f]?=some fn){Q:Value->Heap->Prop}{F:Nat->(Value->List (List Value)->Heap->Prop)->Prop}(hv:∀aa K,qC ⟨Tryz.prog,fn.ntmps,TryzMutsK,aa,H⟩ (gS fn) fn.results.toList (args.map SV.v) [] K=F aa K)(h:∀aa,(∀b k,H b=some k->b<aa)->F aa (fun v _ H'=>Q v H'))(eC:oV fn=true:=by kernel_rfl)(dE:Nat.ble args.length fn.ntmps=true:=by kernel_rfl):Sp f args H Q:=TryzvcK hf eC dE Q rfl hv h
open Go Go.Proofs
abbrev ug(K:KT)(m3:Prop)(l3:Heap):Prop:=
 K (B (@decide m3 (zh m3))) [] l3
abbrev Ee(l5:Value)(aa:Nat)(i5 m5:Heap)(w8:LB)(k5:Prop):Prop:=
 ∃n5,l5=B n5/\(X aa i5 m5->w8=w8/\ak i5 m5/\(k5↔n5=true))
theorem vk4{id:Int}{rl:Nat}{sl:Nat}{up:Bool}{hk hg hn:Int}{fM:Bool}{V5 L2:Int}{V6 V7 V8:O}{V9 Wa Wb Wc Wd We:Nat}{nU qE:Int}{Ef Eg Eh:O}{Ei Ej Ek El Em En:Nat}{nK iY Cr:Int}{jr:Bool}{qH su:O}{sU sV qI uh:Nat}{L3 L4:O}{L5 L6 L7 L8:Nat}{L9:Bool}{Ma Mb:O}{Mc Md Me Mf:Nat}:
 (fV TryzMutsK Tryz.f4 aa H [.v (A #[U id,S fa fl fc,S ra rl rc,S wa wl wc,U aS,S la ll lc,U aU,U ab,B ac,S ka kl kc,U nx,S sa sl sc,S ta tl tc,B up,S na nl nc,S ma ml mc]),.v (A #[U hk,U hg,U hn,B fM,S ha hl hc]),.v (A #[U V5,S V6 V9 Wa,S V7 Wb Wc,S V8 Wd We,U L2]),.v (A #[U nU,S Ef Ei Ej,S Eg Ek El,S Eh Em En,U qE,S qH sU sV,U nK,U iY,B jr,S su qI uh,U Cr,S L3 L5 L6,S L4 L7 L8,B L9,S Ma Mc Md,S Mb Me Mf])] [] K)=(
 (fun CZ:LV=>(fun wq:LV=>(fun pr:LV=>(fun pQ:LV=>∀a b c d:Nat,Y 26 CZ H fun e g=>∃h i j k l m n o p q r s t u v w x y z a1 b1 c1 d1 e1 f1 g1 h1 i1 j1 k1 l1 m1 n1 o1 p1,e=T #[A #[U h,S i j k,S l m n,S o p q,U r,S s t u,U v,U w,B x,S y z a1,U b1,S c1 d1 e1,S f1 g1 h1,B i1,S j1 k1 l1,S m1 n1 o1],U p1]/\(X aa H g->∀q1:Nat,Y 27 pr g fun r1 s1=>∃t1 u1 v1 w1 x1 y1 z1 a2 b2 c2 d2 e2 f2 g2 h2 i2 j2 k2 l2 m2 n2 o2 p2 q2 r2 s2 t2 u2 v2 w2 x2 y2 z2 a3,(fun ui:LV=>∃b3,r1=T #[A #[U t1,S u1 v1 w1,S x1 y1 z1,S a2 b2 c2,U d2,S e2 f2 g2,U h2,U i2,B j2,S k2 l2 m2,U n2,S o2 p2 q2,S r2 s2 t2,B u2,S v2 w2 x2,S y2 z2 a3],U b3]/\(X aa g s1->∀c3:Nat,Y 19 wq s1 fun d3 e3=>∃f3,d3=U f3/\(X aa s1 e3->Y 28 CZ e3 fun g3 h3=>∃i3,g3=U i3/\(X aa e3 h3->∀j3:Nat,(fun tu:LB=>(i3=0->Y 29 CZ h3 fun k3 l3=>∃m3 n3 o3 p3 q3 r3 s3 t3 u3 v3 w3 x3 y3 z3 a4 b4 c4 d4 e4 f4 g4 h4 i4 j4 k4 l4 m4 n4 o4 p4 q4 r4 s4 t4,(fun w8:LB=>k3=A #[U m3,S n3 o3 p3,S q3 r3 s3,S t3 u3 v3,U w3,S x3 y3 z3,U a4,U b4,B c4,S d4 e4 f4,U g4,S h4 i4 j4,S k4 l4 m4,B n4,S o4 p4 q4,S r4 s4 t4]/\(X aa h3 l3->Y 30 [] l3 fun u4 v4=>∃w4,u4=B w4/\(X aa l3 v4->(w4=false->K (B false) [] v4)/\(¬w4=false->Y 31 wq v4 fun x4 y4=>∃z4,x4=U z4/\(X aa v4 y4->(¬z4=f3->K (B false) [] y4)/\(¬¬z4=f3->Y 32 pQ y4 fun a5 b5=>∃c5,a5=B c5/\(X aa y4 b5->Y 33 pQ b5 fun d5 e5=>∃f5,d5=B f5/\(X aa b5 e5->∃g5,aR Tryz.prog (aI BinOp.neq 4 (Operand.tmp 49) (Operand.tmp 52) (B c5) (B f5)) (B g5)/\(g5=true->K (B false) [] e5)/\(¬g5=true->(¬p1=i3->K (B false) [] e5)/\(¬¬p1=i3->Y 33 [A #[U h,S i j k,S l m n,S o p q,U r,S s t u,U v,U w,B x,S y z a1,U b1,S c1 d1 e1,S f1 g1 h1,B i1,S j1 k1 l1,S m1 n1 o1],A #[U m3,S n3 o3 p3,S q3 r3 s3,S t3 u3 v3,U w3,S x3 y3 z3,U a4,U b4,B c4,S d4 e4 f4,U g4,S h4 i4 j4,S k4 l4 m4,B n4,S o4 p4 q4,S r4 s4 t4]] e5 fun h5 i5=>∃j5,h5=
 B j5/\(X aa e5 i5->(j5=false->K (B false) [] i5)/\(¬j5=false->(¬f3=0->∃k5:Prop,((b3=f3->Y 33 ui i5 fun l5 m5=>Ee l5 aa i5 m5 w8 k5)/\(¬b3=f3->w8=w8/\ak i5 i5/\¬k5))/\ug K k5 i5)/\(¬¬f3=0->Y 34 pr i5 fun k5 l5=>∃m5 n5 o5 p5 q5 r5 s5 t5 u5 v5 w5 x5 y5 z5 a6 b6 c6 d6 e6 f6 g6 h6 i6 j6 k6 l6 m6 n6 o6 p6 q6 r6 s6 t6 u6,k5=T #[A #[U m5,S n5 o5 p5,S q5 r5 s5,S t5 u5 v5,U w5,S x5 y5 z5,U a6,U b6,B c6,S d6 e6 f6,U g6,S h6 i6 j6,S k6 l6 m6,B n6,S o6 p6 q6,S r6 s6 t6],U u6]/\(X aa i5 l5->∀v6:Nat,(fun w7:LB=>∃w6:Prop,((b3=u6->Y 33 [A #[U t1,S u1 v1 w1,S x1 y1 z1,S a2 b2 c2,U d2,S e2 f2 g2,U h2,U i2,B j2,S k2 l2 m2,U n2,S o2 p2 q2,S r2 s2 t2,B u2,S v2 w2 x2,S y2 z2 a3],A #[U m5,S n5 o5 p5,S q5 r5 s5,S t5 u5 v5,U w5,S x5 y5 z5,U a6,U b6,B c6,S d6 e6 f6,U g6,S h6 i6 j6,S k6 l6 m6,B n6,S o6 p6 q6,S r6 s6 t6]] l5 fun x6 y6=>Ee x6 aa l5 y6 w7 w6)/\(¬b3=u6->w7=w7/\ak l5 l5/\¬w6))/\ug K w6 l5) [J a false 41 [U id,S fa fl fc,S ra rl rc,S wa wl wc,U aS,S la ll lc,U aU,U ab,B ac,S ka kl kc,U nx,S sa sl sc,S ta tl tc,B up,S na nl nc,S ma ml mc],J b false 62 [U hk,U hg,U hn,B fM,S ha hl hc],J c false 28 [U V5,S V6 V9 Wa,S V7 Wb Wc,S V8 Wd We,U L2],J d false 41 [U nU,S Ef Ei Ej,S Eg Ek El,S Eh Em En,U qE,S qH sU sV,U nK,U iY,B jr,S su qI uh,U Cr,S L3 L5 L6,S L4 L7 L8,B L9,S Ma Mc Md,S Mb Me Mf],J q1 false 41 [U h,S i j k,S l m n,S o p q,U r,S s t u,U v,U w,B x,S y z a1,U b1,S c1 d1 e1,S f1 g1 h1,B i1,S j1 k1 l1,S m1 n1 o1],J c3 false 41 [U t1,S u1 v1 w1,S x1 y1 z1,S a2 b2 c2,U d2,S e2 f2 g2,U h2,U i2,B j2,S k2 l2 m2,U n2,S o2 p2 q2,S r2 s2 t2,B u2,S v2 w2 x2,S y2 z2 a3],J j3 false 41 [U m3,S n3 o3 p3,S q3 r3 s3,S t3 u3 v3,U w3,S x3 y3 z3,U a4,U b4,B c4,S d4 e4 f4,U g4,S h4 i4 j4,S k4 l4 m4,B n4,S o4 p4 q4,S r4 s4 t4],J v6 false 41 [U m5,S n5 o5 p5,S q5 r5 s5,S t5 u5 v5,U w5,S
 x5 y5 z5,U a6,U b6,B c6,S d6 e6 f6,U g6,S h6 i6 j6,S k6 l6 m6,B n6,S o6 p6 q6,S r6 s6 t6]])))))))))))))) [J a false 41 [U id,S fa fl fc,S ra rl rc,S wa wl wc,U aS,S la ll lc,U aU,U ab,B ac,S ka kl kc,U nx,S sa sl sc,S ta tl tc,B up,S na nl nc,S ma ml mc],J b false 62 [U hk,U hg,U hn,B fM,S ha hl hc],J c false 28 [U V5,S V6 V9 Wa,S V7 Wb Wc,S V8 Wd We,U L2],J d false 41 [U nU,S Ef Ei Ej,S Eg Ek El,S Eh Em En,U qE,S qH sU sV,U nK,U iY,B jr,S su qI uh,U Cr,S L3 L5 L6,S L4 L7 L8,B L9,S Ma Mc Md,S Mb Me Mf],J q1 false 41 [U h,S i j k,S l m n,S o p q,U r,S s t u,U v,U w,B x,S y z a1,U b1,S c1 d1 e1,S f1 g1 h1,B i1,S j1 k1 l1,S m1 n1 o1],J c3 false 41 [U t1,S u1 v1 w1,S x1 y1 z1,S a2 b2 c2,U d2,S e2 f2 g2,U h2,U i2,B j2,S k2 l2 m2,U n2,S o2 p2 q2,S r2 s2 t2,B u2,S v2 w2 x2,S y2 z2 a3],J j3 false 41 [U m3,S n3 o3 p3,S q3 r3 s3,S t3 u3 v3,U w3,S x3 y3 z3,U a4,U b4,B c4,S d4 e4 f4,U g4,S h4 i4 j4,S k4 l4 m4,B n4,S o4 p4 q4,S r4 s4 t4]])/\(¬i3=0->Y 30 [] h3 fun k3 l3=>∃m3,k3=B m3/\(X aa h3 l3->(m3=false->K (B false) [] l3)/\(¬m3=false->Y 31 wq l3 fun n3 o3=>∃p3,n3=U p3/\(X aa l3 o3->(¬p3=f3->K (B false) [] o3)/\(¬¬p3=f3->Y 32 pQ o3 fun q3 r3=>∃s3,q3=B s3/\(X aa o3 r3->Y 33 pQ r3 fun t3 u3=>∃v3,t3=B v3/\(X aa r3 u3->∃w3,aR Tryz.prog (aI BinOp.neq 4 (Operand.tmp 49) (Operand.tmp 52) (B s3) (B v3)) (B w3)/\(w3=true->K (B false) [] u3)/\(¬w3=true->(¬p1=i3->K (B false) [] u3)/\(¬¬p1=i3->Y 33 [A #[U h,S i j k,S l m n,S o p q,U r,S s t u,U v,U w,B x,S y z a1,U b1,S c1 d1 e1,S f1 g1 h1,B i1,S j1 k1 l1,S m1 n1 o1],A #[U 0,S none 0 0,S none 0 0,S none 0 0,U 0,S none 0 0,U 0,U 0,B false,S none 0 0,U 0,S none 0 0,S none 0 0,B false,S none 0 0,S none 0 0]] u3 fun x3 y3=>∃z3,x3=B z3/\(X aa u3 y3->(z3=false->K (B false) [] y3)/\(¬z3=false->(¬f3=0->∃a4:Prop,((b3=
 f3->Y 33 ui y3 fun b4 c4=>Ee b4 aa y3 c4 tu a4)/\(¬b3=f3->tu=tu/\ak y3 y3/\¬a4))/\ug K a4 y3)/\(¬¬f3=0->Y 34 pr y3 fun a4 b4=>∃c4 d4 e4 f4 g4 h4 i4 j4 k4 l4 m4 n4 o4 p4 q4 r4 s4 t4 u4 v4 w4 x4 y4 z4 a5 b5 c5 d5 e5 f5 g5 h5 i5 j5 k5,a4=T #[A #[U c4,S d4 e4 f4,S g4 h4 i4,S j4 k4 l4,U m4,S n4 o4 p4,U q4,U r4,B s4,S t4 u4 v4,U w4,S x4 y4 z4,S a5 b5 c5,B d5,S e5 f5 g5,S h5 i5 j5],U k5]/\(X aa y3 b4->∀l5:Nat,(fun w9:LB=>∃m5:Prop,((b3=k5->Y 33 [A #[U t1,S u1 v1 w1,S x1 y1 z1,S a2 b2 c2,U d2,S e2 f2 g2,U h2,U i2,B j2,S k2 l2 m2,U n2,S o2 p2 q2,S r2 s2 t2,B u2,S v2 w2 x2,S y2 z2 a3],A #[U c4,S d4 e4 f4,S g4 h4 i4,S j4 k4 l4,U m4,S n4 o4 p4,U q4,U r4,B s4,S t4 u4 v4,U w4,S x4 y4 z4,S a5 b5 c5,B d5,S e5 f5 g5,S h5 i5 j5]] b4 fun n5 o5=>Ee n5 aa b4 o5 w9 m5)/\(¬b3=k5->w9=w9/\ak b4 b4/\¬m5))/\ug K m5 b4) [J a false 41 [U id,S fa fl fc,S ra rl rc,S wa wl wc,U aS,S la ll lc,U aU,U ab,B ac,S ka kl kc,U nx,S sa sl sc,S ta tl tc,B up,S na nl nc,S ma ml mc],J b false 62 [U hk,U hg,U hn,B fM,S ha hl hc],J c false 28 [U V5,S V6 V9 Wa,S V7 Wb Wc,S V8 Wd We,U L2],J d false 41 [U nU,S Ef Ei Ej,S Eg Ek El,S Eh Em En,U qE,S qH sU sV,U nK,U iY,B jr,S su qI uh,U Cr,S L3 L5 L6,S L4 L7 L8,B L9,S Ma Mc Md,S Mb Me Mf],J q1 false 41 [U h,S i j k,S l m n,S o p q,U r,S s t u,U v,U w,B x,S y z a1,U b1,S c1 d1 e1,S f1 g1 h1,B i1,S j1 k1 l1,S m1 n1 o1],J c3 false 41 [U t1,S u1 v1 w1,S x1 y1 z1,S a2 b2 c2,U d2,S e2 f2 g2,U h2,U i2,B j2,S k2 l2 m2,U n2,S o2 p2 q2,S r2 s2 t2,B u2,S v2 w2 x2,S y2 z2 a3],J j3 false 41 [U 0,S none 0 0,S none 0 0,S none 0 0,U 0,S none 0 0,U 0,U 0,B false,S none 0 0,U 0,S none 0 0,S none 0 0,B false,S none 0 0,S none 0 0],J l5 false 41 [U c4,S d4 e4 f4,S g4 h4 i4,S j4 k4 l4,U m4,S n4 o4 p4,U q4,U r4,B s4,S t4 u4 v4,U w4,S x4 y4 z4,S a5 b5 c5,B d5,S e5 f5 g5,S
 h5 i5 j5]])))))))))))))) [J a false 41 [U id,S fa fl fc,S ra rl rc,S wa wl wc,U aS,S la ll lc,U aU,U ab,B ac,S ka kl kc,U nx,S sa sl sc,S ta tl tc,B up,S na nl nc,S ma ml mc],J b false 62 [U hk,U hg,U hn,B fM,S ha hl hc],J c false 28 [U V5,S V6 V9 Wa,S V7 Wb Wc,S V8 Wd We,U L2],J d false 41 [U nU,S Ef Ei Ej,S Eg Ek El,S Eh Em En,U qE,S qH sU sV,U nK,U iY,B jr,S su qI uh,U Cr,S L3 L5 L6,S L4 L7 L8,B L9,S Ma Mc Md,S Mb Me Mf],J q1 false 41 [U h,S i j k,S l m n,S o p q,U r,S s t u,U v,U w,B x,S y z a1,U b1,S c1 d1 e1,S f1 g1 h1,B i1,S j1 k1 l1,S m1 n1 o1],J c3 false 41 [U t1,S u1 v1 w1,S x1 y1 z1,S a2 b2 c2,U d2,S e2 f2 g2,U h2,U i2,B j2,S k2 l2 m2,U n2,S o2 p2 q2,S r2 s2 t2,B u2,S v2 w2 x2,S y2 z2 a3],J j3 false 41 [U 0,S none 0 0,S none 0 0,S none 0 0,U 0,S none 0 0,U 0,U 0,B false,S none 0 0,U 0,S none 0 0,S none 0 0,B false,S none 0 0,S none 0 0]])))) [A #[U t1,S u1 v1 w1,S x1 y1 z1,S a2 b2 c2,U d2,S e2 f2 g2,U h2,U i2,B j2,S k2 l2 m2,U n2,S o2 p2 q2,S r2 s2 t2,B u2,S v2 w2 x2,S y2 z2 a3],A #[U 0,S none 0 0,S none 0 0,S none 0 0,U 0,S none 0 0,U 0,U 0,B false,S none 0 0,U 0,S none 0 0,S none 0 0,B false,S none 0 0,S none 0 0]])) [A #[U id,S fa fl fc,S ra rl rc,S wa wl wc,U aS,S la ll lc,U aU,U ab,B ac,S ka kl kc,U nx,S sa sl sc,S ta tl tc,B up,S na nl nc,S ma ml mc],A #[U nU,S Ef Ei Ej,S Eg Ek El,S Eh Em En,U qE,S qH sU sV,U nK,U iY,B jr,S su qI uh,U Cr,S L3 L5 L6,S L4 L7 L8,B L9,S Ma Mc Md,S Mb Me Mf]]) [A #[U id,S fa fl fc,S ra rl rc,S wa wl wc,U aS,S la ll lc,U aU,U ab,B ac,S ka kl kc,U nx,S sa sl sc,S ta tl tc,B up,S na nl nc,S ma ml mc],A #[U hk,U hg,U hn,B fM,S ha hl hc]]) [A #[U id,S fa fl fc,S ra rl rc,S wa wl wc,U aS,S la ll lc,U aU,U ab,B ac,S ka kl kc,U nx,S sa sl sc,S ta tl tc,B up,S na nl nc,S ma ml mc]]) [A #[I
 Z V5,S V6 V9 Wa,S V7 Wb Wc,S V8 Wd We,U L2]]):=by kernel_rfl
abbrev N7(pQ:LV)(s1:Heap)(aa:Nat)(H:Heap)(hl:Nat)(ha:O)(tu:LL)(p1:Int)(m1:O)(n1 o1:Nat)(d:Int)(e:O)(g h:Nat)(i:O)(j k:Nat)(l:O)(m n:Nat)(o:Int)(p:O)(q r:Nat)(s t:Int)(u:Bool)(v:O)(w x:Nat)(y:Int)(z:O)(a1 b1:Nat)(c1:O)(d1 e1:Nat)(f1:Bool)(g1:O)(h1 i1:Nat)(j1:O)(k1 l1:Nat)(K:KT)(a q1:Nat):Prop:=
 ∃(w1:NI)(x1:Nat),w1 x1 pQ s1/\∀(y1:Nat)(z1:O)(a2 b2:Nat)(c2 d2:Int)(e2:O)(f2 g2:Nat)(h2:O)(i2 j2:Nat)(k2:O)(l2 m2:Nat)(n2:Int)(o2:O)(p2 q2:Nat)(r2 s2:Int)(t2:Bool)(u2:O)(v2 w2:Nat)(x2:Int)(y2:O)(z2 a3:Nat)(b3:O)(c3 d3:Nat)(e3:Bool)(f3:O)(g3 h3:Nat)(i3:O)(j3 k3:Nat)(l3:Heap),(fun w6:LB=>X aa H l3->w1 y1 [S z1 a2 b2,U c2,A #[U d2,S e2 f2 g2,S h2 i2 j2,S k2 l2 m2,U n2,S o2 p2 q2,U r2,U s2,B t2,S u2 v2 w2,U x2,S y2 z2 a3,S b3 c3 d3,B e3,S f3 g3 h3,S i3 j3 k3]] l3->(c2<(hl:Int)->∃m3 n3,ha=some (D m3 n3 none)/\0<=c2/\c2<(hl:Int)/\∃(o3 p3 q3:Int)(r3:Bool)(s3:O)(t3 u3:Nat),(C l3 m3 (n3+N c2*5)=some (U o3)/\C l3 m3 (n3+N c2*5+1)=some (U p3)/\C l3 m3 (n3+N c2*5+2)=some (U q3)/\C l3 m3 (n3+N c2*5+3)=some (B r3)/\C l3 m3 (n3+N c2*5+4)=some (S s3 t3 u3)/\True)/\∀v3:Nat,Y 34 [A #[U d2,S e2 f2 g2,S h2 i2 j2,S k2 l2 m2,U n2,S o2 p2 q2,U r2,U s2,B t2,S u2 v2 w2,U x2,S y2 z2 a3,S b3 c3 d3,B e3,S f3 g3 h3,S i3 j3 k3],A #[U o3,U p3,U q3,B r3,S s3 t3 u3]] l3 fun w3 x3=>∃(y3:Int)(z3:O)(a4 b4:Nat)(c4:O)(d4 e4:Nat)(f4:O)(g4 h4:Nat)(i4:Int)(j4:O)(k4 l4:Nat)(m4 n4:Int)(o4:Bool)(p4:O)(q4 r4:Nat)(s4:Int)(t4:O)(u4 v4:Nat)(w4:O)(x4 y4:Nat)(z4:Bool)(a5:O)(b5 c5:Nat)(d5:O)(e5 f5:Nat),(fun w5:AV=>∃g5,w3=T #[A w5,U g5]/\(X aa l3 x3->∀h5:Nat,(g5=0->∀i5:Nat,∃j5:List Value,bg aa x3 42 1 z1 a2 b2 j5/\(a2+1)*8<=140737488355328/\a2+1<=9223372036854775807/\∀(k5:O)(l5:Nat)(m5:Heap),cu aa x3 m5 z1 b2 k5 l5 (a2+1)->bg aa m5 42 1 k5 (a2+1) l5 (j5++[U g5])->∀n5:Int,n5=W Z (c2+1)->tu=tu/\∃o5:Nat,o5<y1/\w1 o5 [S k5 (a2+1) l5,U n5,A w5] m5)/\(¬g5=0->∀i5:Nat,∃j5:List Value,bg aa x3 42 1 z1 a2 b2 j5/\(a2+1)*8<=140737488355328/\a2+1<=9223372036854775807/\∀(k5:O)(l5:Nat)(m5:Heap),cu aa x3 m5 z1 b2 k5 l5 (a2+1)->bg aa m5 42 1 k5 (a2+1) l5 (j5++[U g5])->∀n5:Int,n5=W Z (c2+1)->tu=tu/\∃o5:Nat,o5<y1/\w1 o5
 [S k5 (a2+1) l5,U n5,A #[U d2,S e2 f2 g2,S h2 i2 j2,S k2 l2 m2,U n2,S o2 p2 q2,U r2,U s2,B t2,S u2 v2 w2,U x2,S y2 z2 a3,S b3 c3 d3,B e3,S f3 g3 h3,S i3 j3 k3]] m5))) #[U y3,S z3 a4 b4,S c4 d4 e4,S f4 g4 h4,U i4,S j4 k4 l4,U m4,U n4,B o4,S p4 q4 r4,U s4,S t4 u4 v4,S w4 x4 y4,B z4,S a5 b5 c5,S d5 e5 f5])/\(¬c2<(hl:Int)->∃m3:Prop,((p1=0->Y 40 [S m1 n1 o1,S z1 a2 b2] l3 fun n3 o3=>∃p3,n3=B p3/\(X aa l3 o3->(p3=true->Y 33 [A #[U d,S e g h,S i j k,S l m n,U o,S p q r,U s,U t,B u,S v w x,U y,S z a1 b1,S c1 d1 e1,B f1,S g1 h1 i1,S j1 k1 l1],A #[U d2,S e2 f2 g2,S h2 i2 j2,S k2 l2 m2,U n2,S o2 p2 q2,U r2,U s2,B t2,S u2 v2 w2,U x2,S y2 z2 a3,S b3 c3 d3,B e3,S f3 g3 h3,S i3 j3 k3]] o3 fun q3 r3=>∃s3,q3=B s3/\(X aa o3 r3->w6=w6/\ak l3 r3/\(m3↔s3=true)))/\(p3=false->w6=w6/\ak l3 o3/\¬m3)))/\(¬p1=0->w6=w6/\ak l3 l3/\¬m3))/\ug K m3 l3)) [J a false 41 [U d2,S e2 f2 g2,S h2 i2 j2,S k2 l2 m2,U n2,S o2 p2 q2,U r2,U s2,B t2,S u2 v2 w2,U x2,S y2 z2 a3,S b3 c3 d3,B e3,S f3 g3 h3,S i3 j3 k3],J q1 false 41 [U d,S e g h,S i j k,S l m n,U o,S p q r,U s,U t,B u,S v w x,U y,S z a1 b1,S c1 d1 e1,B f1,S g1 h1 i1,S j1 k1 l1]]
abbrev N8(n1:Nat)(ui:LV)(y1:Heap)(aa:Nat)(w9:LB)(s1:Heap)(w1:Prop):Prop:=
 ((n1:Int)=0->Y 33 ui y1 fun a2 b2=>∃c2,a2=B c2/\(X aa y1 b2->w9=w9/\ak s1 b2/\(w1↔c2=true)))/\(¬(n1:Int)=0->w9=w9/\ak s1 y1/\¬w1)
theorem vk9{id:Int}{rl:Nat}{sl:Nat}{up:Bool}:
 (fV TryzMutsK Tryz.f9 aa H [.v (A #[U id,S fa fl fc,S ra rl rc,S wa wl wc,U aS,S la ll lc,U aU,U ab,B ac,S ka kl kc,U nx,S sa sl sc,S ta tl tc,B up,S na nl nc,S ma ml mc]),.v (S ha hl hc)] [] K)=(
 (fun pQ:LV=>∀a:Nat,Y 39 [A #[U id,S fa fl fc,S ra rl rc,S wa wl wc,U aS,S la ll lc,U aU,U ab,B ac,S ka kl kc,U nx,S sa sl sc,S ta tl tc,B up,S na nl nc,S ma ml mc],S ha hl hc] H fun b c=>∃d e g h i j k l m n o p q r s t u v w x y z a1 b1 c1 d1 e1 f1 g1 h1 i1 j1 k1 l1,(fun ui:LV=>(fun tu:LL=>∃m1 n1 o1 p1,b=T #[A #[U d,S e g h,S i j k,S l m n,U o,S p q r,U s,U t,B u,S v w x,U y,S z a1 b1,S c1 d1 e1,B f1,S g1 h1 i1,S j1 k1 l1],S m1 n1 o1,U p1]/\(X aa H c->∀q1:Nat,(fun w9:LB=>Y 19 [A #[U id,S fa fl fc,S ra rl rc,S wa wl wc,U aS,S la ll lc,U aU,U ab,B ac,S ka kl kc,U nx,S sa sl sc,S ta tl tc,B up,S na nl nc,S ma ml mc]] c fun r1 s1=>∃t1,r1=U t1/\(X aa c s1->∃u1:Prop,((t1=0->w9=w9/\ak s1 s1/\(u1↔150<(hl:Int)))/\(¬t1=0->w9=w9/\ak s1 s1/\¬u1))/\(u1->∃v1:Prop,(Y 30 [] s1 fun w1 x1=>∃y1,w1=B y1/\(X aa s1 x1->(y1=false->w9=w9/\ak s1 x1/\v1)/\(¬y1=false->w9=w9/\ak s1 x1/\(v1↔¬Int.ofNat 2=0))))/\(v1->∃w1:Prop,(Y 30 [] s1 fun x1 y1=>∃z1,x1=B z1/\(X aa s1 y1->(z1=true->(p1=2->N8 n1 ui y1 aa w9 s1 w1)/\(¬p1=2->w9=w9/\ak s1 y1/\¬w1))/\(z1=false->w9=w9/\ak s1 y1/\¬w1)))/\ug K w1 s1)/\(¬v1->N7 pQ s1 aa H hl ha tu p1 m1 n1 o1 d e g h i j k l m n o p q r s t u v w x y z a1 b1 c1 d1 e1 f1 g1 h1 i1 j1 k1 l1 K a q1))/\(¬u1->∃v1:Prop,(Y 30 [] s1 fun w1 x1=>∃y1,w1=B y1/\(X aa s1 x1->(y1=false->w9=w9/\ak s1 x1/\v1)/\(¬y1=false->w9=w9/\ak s1 x1/\(v1↔¬t1=0))))/\(v1->∃w1:Prop,(Y 30 [] s1 fun x1 y1=>∃z1,x1=B z1/\(X aa s1 y1->(z1=true->(p1=t1->N8 n1 ui y1 aa w9 s1 w1)/\(¬p1=t1->w9=w9/\ak s1 y1/\¬w1))/\(z1=false->w9=w9/\ak s1 y1/\¬w1)))/\ug K w1 s1)/\(¬v1->N7 pQ s1 aa H hl ha tu p1 m1 n1 o1 d e g h i j k l m n o p q r s t u v w x y z a1 b1 c1 d1 e1 f1 g1 h1 i1 j1 k1 l1 K a q1)))) [J a false 41 [U id,S fa fl fc,S ra rl rc,S wa wl wc,U aS,S la ll lc,U aU,U ab,B ac,S ka kl kc,U nx,S sa sl sc,S ta
 tl tc,B up,S na nl nc,S ma ml mc],J q1 false 41 [U d,S e g h,S i j k,S l m n,U o,S p q r,U s,U t,B u,S v w x,U y,S z a1 b1,S c1 d1 e1,B f1,S g1 h1 i1,S j1 k1 l1]])) [[U d,S e g h,S i j k,S l m n,U o,S p q r,U s,U t,B u,S v w x,U y,S z a1 b1,S c1 d1 e1,B f1,S g1 h1 i1,S j1 k1 l1]]) [A #[U d,S e g h,S i j k,S l m n,U o,S p q r,U s,U t,B u,S v w x,U y,S z a1 b1,S c1 d1 e1,B f1,S g1 h1 i1,S j1 k1 l1],A #[U 0,S none 0 0,S none 0 0,S none 0 0,U 0,S none 0 0,U 0,U 0,B false,S none 0 0,U 0,S none 0 0,S none 0 0,B false,S none 0 0,S none 0 0]]) [S none 0 0,U 0,A #[U id,S fa fl fc,S ra rl rc,S wa wl wc,U aS,S la ll lc,U aU,U ab,B ac,S ka kl kc,U nx,S sa sl sc,S ta tl tc,B up,S na nl nc,S ma ml mc]]):=by kernel_rfl
open Go Go.Proofs
theorem XB{c:Nat}:
 (fV TryzMutsJ Tryz.f126 aa H [.v (S a l c)] [] K)=(
 ∃(b:LI)(d:LM),b [U 0,U 0] H/\∀(e g:Int)(h:Heap),X aa H h->b [U e,U g] h->(g<(l:Int)->∃i j,a=some (D i j none)/\0<=g/\g<(l:Int)/\∃k m n,C h i (j+N g*1)=some (S k m n)/\∀o:Int,o=W Z (e+(m:Int))->(o<0->False)/\(¬o<0->∀p:Int,p=W Z (g+1)->b [U o,U p] h/\d [U o,U p]<d [U e,U g]))/\(¬g<(l:Int)->Y 193 [S none 0 0,U e] h fun i j=>∃k m n,i=S k m n/\(X aa h j->∃(o:LI)(p:LM),o [S k m n,U 0] j/\∀(q:O)(r s:Nat)(t:Int)(u:Heap),X aa H u->o [S q r s,U t] u->(t<(l:Int)->∃v w,a=some (D v w none)/\0<=t/\t<(l:Int)/\∃x y z,C u v (w+N t*1)=some (S x y z)/\∃a1 b1:List Value,bg aa u 74 6 q r s a1/\zo b1=y*6/\aM b1=true/\(y=0∨∃c1 d1,x=some (D c1 d1 none)/\ba u c1 d1 0 b1)/\(r+y)*56<=140737488355328/\r+y<=9223372036854775807/\∀(c1:O)(d1:Nat)(e1:Heap),cu aa u e1 q s c1 d1 (r+y)->bg aa e1 74 6 c1 (r+y) d1 (a1++b1)->∀f1:Int,f1=W Z (t+1)->o [S c1 (r+y) d1,U f1] e1/\p [S c1 (r+y) d1,U f1]<p [S q r s,U t])/\(¬t<(l:Int)->K (S q r s) [] u)))):=by kernel_rfl
theorem XC{c:Nat}{n:Int}:
 (fV TryzMutsJ Tryz.f193 aa H [.v (S a l c),.v (U n)] [] K)=(
 (n<0->False)/\(¬n<0->∀b:Int,b=W Z ((c:Int)-(l:Int))->∀d:Int,d=W Z (n-b)->(0<d->0<=(c:Int)/\(c:Int)<=(c:Int)/\∃(e:List Value)(g:Nat),d=(g:Int)/\0<g/\c<N (c:Int)+g/\bg aa H 74 6 a (N (c:Int)) c e/\(N (c:Int)+g)*56<=140737488355328/\N (c:Int)+g<=9223372036854775807/\∀(h i:Nat)(j:Heap),X aa H j->H h=none->bg aa j 74 6 (some (D h 0 none)) (N (c:Int)+g) i (e++yk (zk g [U 0,U 0,B false,B false,U 0,S none 0 0]))->0<=(l:Int)/\(l:Int)<=(i:Int)/\K (S (some (D h 0 none)) (N (l:Int)) i) [] j)/\(¬0<d->K (S a l c) [] H))):=by kernel_rfl
theorem XD{e:Int}:
 (fV TryzMutsK Tryz.f117 aa H [.v (U e)] [] K)=(
 ∀a:Nat,K (T #[A #[U 0,S none 0 0,S none 0 0,S none 0 0,U 0,S none 0 0,U 0,U 0,B false,S none 0 0,U 0,S none 0 0,S none 0 0,B false,S none 0 0,S none 0 0],U e]) [] H):=by kernel_rfl
theorem XE{sl:Nat}{ag rt n Fm:Int}{rg:Bool}{qa:O}{ql qc:Nat}:
 (fV TryzMutsK Tryz.f119 aa H [.v (A #[S sa sl sc,S ta tl tc]),.v (A #[U kd,U ag,U rt,U n,B rg,U Fm,S qa ql qc])] [] K)=(
 ∀a b c:Nat,Y 120 [A #[S sa sl sc,S ta tl tc],A #[U kd,U ag,U rt,U n,B rg,U Fm,S qa ql qc]] H fun d e=>∃g h i j k l m,d=T #[A #[S g h i,S j k l],U m]/\(X aa H e->(¬m=0->K (T #[A #[S g h i,S j k l],U m]) [] e)/\(¬¬m=0->Y 121 [A #[S g h i,S j k l]] e fun o p=>∃q r s t u v w,o=T #[A #[S q r s,S t u v],U w]/\(X aa e p->K (T #[A #[S q r s,S t u v],U w]) [] p)))):=by kernel_rfl
open Go Go.Proofs
abbrev Kt(e:Value)(aa:Nat)(b g:Heap)(s:ByteArray)(K:KT)(c:Int):Prop:=
 ∃h,e=bH h/\(X aa b g->∃i,aR Tryz.prog (aI BinOp.eql 9 (Operand.tmp 16) (Operand.tmp 17) (bH h) (bH s)) (B i)/\K (T #[U c,B (decide (i=true))]) [] g)
theorem vd44:
 (fV TryzMuts Tryz.f251 aa H [.v (.string s)] [] K)=(
 Y 226 [bH s] H fun a b=>∃c,a=T #[U c,Value.nilIface]/\(X aa H b->∃d,aR Tryz.prog (aI BinOp.eql 263 (Operand.tmp 12) (Operand.const Value.nilIface) Value.nilIface Value.nilIface) (B d)/\(d=true->Y 223 [U c] b fun e g=>Kt e aa b g s K c)/\(¬d=true->K (T #[U c,B false]) [] b))∨∃(d:TypeId)(e:Value),a=T #[U c,Value.iface d e]/\(X aa H b->∃g,aR Tryz.prog (aI BinOp.eql 263 (Operand.tmp 12) (Operand.const Value.nilIface) (Value.iface d e) Value.nilIface) (B g)/\(g=true->Y 223 [U c] b fun h i=>Kt h aa b i s K c)/\(¬g=true->K (T #[U c,B false]) [] b))):=by kernel_rfl
theorem vd49:
 (fV TryzMuts Tryz.f210 aa H [.v (.string s)] [] K)=(
 Y 241 [bH s,U 10,U 64] H fun a b=>∃c,a=T #[U c,Value.nilIface]/\(X aa H b->∃d,aR Tryz.prog (aI BinOp.eql 263 (Operand.tmp 12) (Operand.const Value.nilIface) Value.nilIface Value.nilIface) (B d)/\(d=true->Y 242 [U c,U 10] b fun e g=>Kt e aa b g s K c)/\(¬d=true->K (T #[U c,B false]) [] b))∨∃(d:TypeId)(e:Value),a=T #[U c,Value.iface d e]/\(X aa H b->∃g,aR Tryz.prog (aI BinOp.eql 263 (Operand.tmp 12) (Operand.const Value.nilIface) (Value.iface d e) Value.nilIface) (B g)/\(g=true->Y 242 [U c,U 10] b fun h i=>Kt h aa b i s K c)/\(¬g=true->K (T #[U c,B false]) [] b))):=by kernel_rfl
theorem vd8{c:Nat}:
 (fV TryzMutsJ Tryz.f284 aa H [.v (S a l c)] [] K)=(
 Y 140 [S a l c] H fun b d=>∃e,b=U e/\(X aa H d->(¬e=0->K (T #[bH (ByteArray.mk #[]),U e]) [] d)/\(¬¬e=0->∃(g:LI)(h:LM),g [S none 0 0,U 0] d/\∀(i:O)(j k:Nat)(m:Int)(n:Heap),X aa H n->g [S i j k,U m] n->(m<(l:Int)->∃o p,a=some (D o p none)/\0<=m/\m<(l:Int)/\∃q r:Int,(C n o (p+N m*2)=some (U q)/\C n o (p+N m*2+1)=some (U r)/\True)/\∀s:Nat,Y 223 [U q] n fun t u=>∃v,t=bH v/\(X aa n u->∃w,aR Tryz.prog (aI BinOp.add 9 (Operand.tmp 22) (Operand.const (bH (ByteArray.mk #[64]))) (bH v) (bH (ByteArray.mk #[64]))) (bH w)/\Y 223 [U r] u fun x y=>∃z,x=bH z/\(X aa u y->∃a1,aR Tryz.prog (aI BinOp.add 9 (Operand.tmp 23) (Operand.tmp 26) (bH w) (bH z)) (bH a1)/\∀(b1:Nat)(c1:Heap),X aa y c1->y b1=none->c1 b1=some (ay 9 [bH a1])->∃d1 e1:List Value,bg aa c1 9 1 i j k d1/\zo e1=1*1/\aM e1=true/\(1=0∨∃f1 g1,some (D b1 0 none)=some (D f1 g1 none)/\ba c1 f1 g1 0 e1)/\(j+1)*16<=140737488355328/\j+1<=9223372036854775807/\∀(f1:O)(g1:Nat)(h1:Heap),cu aa c1 h1 i k f1 g1 (j+1)->bg aa h1 9 1 f1 (j+1) g1 (d1++e1)->∀i1:Int,i1=W Z (m+1)->g [S f1 (j+1) g1,U i1] h1/\h [S f1 (j+1) g1,U i1]<h [S i j k,U m])))/\(¬m<(l:Int)->Y 299 [S i j k,bH (ByteArray.mk #[44])] n fun o p=>∃q,o=bH q/\(X aa n p->K (T #[bH q,U 0]) [] p))))):=by kernel_rfl
abbrev Sr(aa:Nat)(f1:Heap)(n:O)(o p:Nat)(b1 g1 q:Int)(h:LI)(j:O)(k l:Nat)(m:Int)(i:LM):Prop:=
 ∀j1:Nat,∃k1:List Value,bg aa f1 91 2 n o p k1/\(o+1)*16<=140737488355328/\o+1<=9223372036854775807/\∀(l1:O)(m1:Nat)(n1:Heap),cu aa f1 n1 n p l1 m1 (o+1)->bg aa n1 91 2 l1 (o+1) m1 (k1++[U b1,U g1])->∀o1:Int,o1=W Z (q+1)->h [S j k l,U m,S l1 (o+1) m1,U o1] n1/\i [S j k l,U m,S l1 (o+1) m1,U o1]<i [S j k l,U m,S n o p,U q]
theorem vd11:
 (fV TryzMutsJ Tryz.f228 aa H [.v (.string s)] [] K)=(
 (60000<(↑(zp s):Int)->K (T #[S none 0 0,U 2]) [] H)/\(¬60000<(↑(zp s):Int)->∃a,aR Tryz.prog (aI BinOp.eql 9 (Operand.tmp 18) (Operand.const (bH (ByteArray.mk #[]))) (bH s) (bH (ByteArray.mk #[]))) (B a)/\(a=true->K (T #[S none 0 0,U 0]) [] H)/\(¬a=true->Y 208 [bH s,bH (ByteArray.mk #[44])] H fun b c=>∃d e g,b=S d e g/\(X aa H c->∃(h:LI)(i:LM),h [S none 0 0,U 0,S none 0 0,U 0] c/\∀(j:O)(k l:Nat)(m:Int)(n:O)(o p:Nat)(q:Int)(r:Heap),X aa H r->h [S j k l,U m,S n o p,U q] r->(q<(e:Int)->∃t u,d=some (D t u none)/\0<=q/\q<(e:Int)/\∃v,C r t (u+N q*1)=some (bH v)/\Y 195 [bH v,bH (ByteArray.mk #[64])] r fun w x=>∃y z a1,w=T #[bH y,bH z,B a1]/\(X aa r x->Y 251 [bH y] x fun b1 c1=>∃d1 e1,b1=T #[U d1,B e1]/\(X aa x c1->Y 251 [bH z] c1 fun f1 g1=>∃h1 i1,f1=T #[U h1,B i1]/\(X aa c1 g1->∃j1:Prop,((a1=false->ak g1 g1/\j1)/\(¬a1=false->(e1=false->ak g1 g1/\j1)/\(¬e1=false->ak g1 g1/\(j1↔i1=false))))/\(j1->K (T #[S none 0 0,U 1]) [] g1)/\(¬j1->Sr aa g1 n o p d1 h1 q h j k l m i)))))/\(¬q<(e:Int)->Y 140 [S n o p] r fun t u=>∃v,t=U v/\(X aa r u->(¬v=0->K (T #[S none 0 0,U v]) [] u)/\(¬¬v=0->K (T #[S n o p,U 0]) [] u))))))):=by kernel_rfl
theorem vd13{c:Nat}:
 (fV TryzMutsJ Tryz.f224 aa H [.v (S a l c)] [] K)=(
 ∃(b:LI)(d:LM),b [bH (ByteArray.mk #[]),U 0] H/\∀(e:ByteArray)(g:Int)(h:Heap),X aa H h->b [bH e,U g] h->(g<(l:Int)->∃i j,a=some (D i j none)/\0<=g/\g<(l:Int)/\∃k m:Int,(C h i (j+N g*2)=some (U k)/\C h i (j+N g*2+1)=some (U m)/\True)/\∀n:Nat,(0<g->∃o,aR Tryz.prog (aI BinOp.add 9 (Operand.tmp 15) (Operand.const (bH (ByteArray.mk #[44]))) (bH e) (bH (ByteArray.mk #[44]))) (bH o)/\Y 223 [U k] h fun p q=>∃r,p=bH r/\(X aa h q->∃s,aR Tryz.prog (aI BinOp.add 9 (Operand.tmp 20) (Operand.const (bH (ByteArray.mk #[64]))) (bH r) (bH (ByteArray.mk #[64]))) (bH s)/\Y 223 [U m] q fun t u=>∃v,t=bH v/\(X aa q u->∃w,aR Tryz.prog (aI BinOp.add 9 (Operand.tmp 21) (Operand.tmp 24) (bH s) (bH v)) (bH w)/\∃x,aR Tryz.prog (aI BinOp.add 9 (Operand.tmp 17) (Operand.tmp 25) (bH o) (bH w)) (bH x)/\∀y:Int,y=W Z (g+1)->b [bH x,U y] u/\d [bH x,U y]<d [bH e,U g])))/\(¬0<g->Y 223 [U k] h fun o p=>∃q,o=bH q/\(X aa h p->∃r,aR Tryz.prog (aI BinOp.add 9 (Operand.tmp 20) (Operand.const (bH (ByteArray.mk #[64]))) (bH q) (bH (ByteArray.mk #[64]))) (bH r)/\Y 223 [U m] p fun s t=>∃u,s=bH u/\(X aa p t->∃v,aR Tryz.prog (aI BinOp.add 9 (Operand.tmp 21) (Operand.tmp 24) (bH r) (bH u)) (bH v)/\∃w,aR Tryz.prog (aI BinOp.add 9 (Operand.tmp 17) (Operand.tmp 25) (bH e) (bH v)) (bH w)/\∀x:Int,x=W Z (g+1)->b [bH w,U x] t/\d [bH w,U x]<d [bH e,U g]))))/\(¬g<(l:Int)->K (bH e) [] h)):=by kernel_rfl
theorem vd17:
 (fV TryzMutsJ Tryz.f211 aa H [.v (.string s)] [] K)=(
 ∃a,aR Tryz.prog (aI BinOp.neq 9 (Operand.tmp 13) (Operand.const (bH (ByteArray.mk #[]))) (bH s) (bH (ByteArray.mk #[]))) (B a)/\(a=true->Y 208 [bH s,bH (ByteArray.mk #[44])] H fun b c=>∃d e g,b=S d e g/\(X aa H c->∃(h:LI)(i:LM),h [S none 0 0,U 0,S none 0 0,U 0] c/\∀(j:O)(k l:Nat)(m:Int)(n:O)(o p:Nat)(q:Int)(r:Heap),X aa H r->h [S j k l,U m,S n o p,U q] r->(q<(e:Int)->∃t u,d=some (D t u none)/\0<=q/\q<(e:Int)/\∃v,C r t (u+N q*1)=some (bH v)/\Y 239 [bH v,bH (ByteArray.mk #[64])] r fun w x=>∃y,w=U y/\(X aa r x->(y<0->K (T #[S none 0 0,U 1]) [] x)/\(¬y<0->0<=y/\y<=(↑(zp v):Int)/\Y 210 [bH (ye v 0 (N y))] x fun z a1=>∃b1 c1,z=T #[U b1,B c1]/\(X aa x a1->∀d1:Int,d1=W Z (y+1)->0<=d1/\d1<=(↑(zp v):Int)/\Y 210 [bH (ye v (N d1) (zp v))] a1 fun e1 f1=>∃g1 h1,e1=T #[U g1,B h1]/\(X aa a1 f1->∃i1:Prop,((c1=false->ak f1 f1/\i1)/\(¬c1=false->ak f1 f1/\(i1↔h1=false)))/\(i1->K (T #[S none 0 0,U 1]) [] f1)/\(¬i1->Sr aa f1 n o p b1 g1 q h j k l m i))))))/\(¬q<(e:Int)->Y 159 [S n o p] r fun t u=>∃v,t=U v/\(X aa r u->(¬v=0->K (T #[S none 0 0,U v]) [] u)/\(¬¬v=0->K (T #[S n o p,U 0]) [] u)))))/\(¬a=true->Y 159 [S none 0 0] H fun b c=>∃d,b=U d/\(X aa H c->(¬d=0->K (T #[S none 0 0,U d]) [] c)/\(¬¬d=0->K (T #[S none 0 0,U 0]) [] c)))):=by kernel_rfl
open Go Go.Proofs
theorem vd22(kd ag tr n id:Int)(gd:Bool)(a:O)(l c:Nat)(aa:Nat)(H:Heap)(K:KT):
 (fV TryzMutsJ Tryz.f192 aa H [.v (A #[U kd,U ag,U tr,U n,B gd,U id,S a l c])] [] K)=(
 ∀b:Nat,Y 156 [A #[U kd,U ag,U tr,U n,B gd,U id,S a l c]] H fun d e=>∃g,d=U g/\(X aa H e->(¬g=0->K (T #[bH (ByteArray.mk #[]),U g]) [] e)/\(¬¬g=0->∀h:Nat,∃i:List Value,(fun w1:LL=>bI (B true) (U 1) []=some i/\∃(j:Int)(k:Bool),ii (U 0) (B gd) i=some (U j,k)/\∀(m:Nat)(o:Heap),X aa e o->e m=none->o m=some (ay 3 [U kd,U ag,U tr,U n,U j,U id])->∃(p:LI)(q:LM),p [bH (ByteArray.mk #[]),U 0] o/\∀(r:ByteArray)(s:Int)(t:Heap),X aa H t->p [bH r,U s] t->(s<6->∃u v,some (D m 0 none)=some (D u v none)/\0<=s/\s<6/\∃w,C t u (v+N s*1)=some (U w)/\Y 223 [U w] t fun x y=>∃z,x=bH z/\(X aa t y->∃a1,aR Tryz.prog (aI BinOp.add 9 (Operand.tmp 39) (Operand.const (bH (ByteArray.mk #[32]))) (bH z) (bH (ByteArray.mk #[32]))) (bH a1)/\∃b1,aR Tryz.prog (aI BinOp.add 9 (Operand.tmp 37) (Operand.tmp 40) (bH r) (bH a1)) (bH b1)/\∀c1:Int,c1=W Z (s+1)->w1=w1/\p [bH b1,U c1] y/\q [bH b1,U c1]<q [bH r,U s]))/\(¬s<6->∃u,aR Tryz.prog (aI BinOp.add 9 (Operand.tmp 43) (Operand.const (bH (ByteArray.mk #[61]))) (bH r) (bH (ByteArray.mk #[61]))) (bH u)/\Y 224 [S a l c] t fun v w=>∃x,v=bH x/\(X aa t w->∃y,aR Tryz.prog (aI BinOp.add 9 (Operand.tmp 44) (Operand.tmp 48) (bH u) (bH x)) (bH y)/\K (T #[bH y,U 0]) [] w))) [[U kd,U ag,U tr,U n,B gd,U id,S a l c],i]))):=by kernel_rfl
abbrev Ss(s:Int)(r:Heap)(aa h:Nat)(m:Value)(o:O)(p q:Nat)(k:Int)(w1:LL)(i:LI)(j:LM):Prop:=
 Y 223 [U s] r fun t u=>∃v,t=bH v/\(X aa r u->∃w,aR Tryz.prog (aI BinOp.add 9 (Operand.tmp 35) (Operand.const (bH (ByteArray.mk #[32]))) (bH v) (bH (ByteArray.mk #[32]))) (bH w)/\YO Tryz.prog 298 [P (some (D h 0 none))] [J h false 311 [m,S o p q]] u fun x y z=>x=T #[]/\∃(a1:Value)(b1:O)(c1 d1:Nat),y=[[a1,S b1 c1 d1]]/\(X aa u z->∃e1:List Value,bg aa z 5 1 b1 c1 d1 e1/\c1+zp w<=140737488355328/\∀(f1:O)(g1:Nat)(h1:Heap),cu aa z h1 b1 d1 f1 g1 (c1+zp w)->bg aa h1 5 1 f1 (c1+zp w) g1 (e1++qm (Array.toList (ByteArray.data w)))->∀i1:Int,i1=W Z (k+1)->w1=w1/\i [U i1,A #[a1,S f1 (c1+zp w) g1]] h1/\j [U i1,A #[a1,S f1 (c1+zp w) g1]]<j [U k,A #[m,S o p q]]))
abbrev Su(a:O)(l c:Nat)(r:Heap)(aa p:Nat)(o:O)(q:Nat)(K:KT):Prop:=
 Y 284 [S a l c] r fun s t=>∃u v,s=T #[bH u,U v]/\(X aa r t->311=311/\0<p/\∃w:List UInt8,bg aa t 5 1 o p q (qm w)/\∀x:Heap,(∀(y:Nat)(z:KB),t y=some z->o≠some (D y 0 none)->x y=some z)->(∀(y:Nat)(z:KB),x y=some z->t y=some z)->∃y,aR Tryz.prog (aI BinOp.add 9 (Operand.tmp 46) (Operand.const (bH (ByteArray.mk #[61]))) (bH (ByteArray.mk (zQ w))) (bH (ByteArray.mk #[61]))) (bH y)/\∃z,aR Tryz.prog (aI BinOp.add 9 (Operand.tmp 47) (Operand.tmp 48) (bH y) (bH u)) (bH z)/\K (T #[bH z,U v]) [] x)
theorem vd18(kd ag tr n id:Int)(gd:Bool)(a:O)(l c:Nat)(aa:Nat)(H:Heap)(K:KT):
 (fV TryzMutsJ Tryz.f265 aa H [.v (A #[U kd,U ag,U tr,U n,B gd,U id,S a l c])] [] K)=(
 (fun w1:LL=>∀b:Nat,Y 198 [A #[U kd,U ag,U tr,U n,B gd,U id,S a l c]] H fun d e=>∃g,d=U g/\(X aa H e->(¬g=0->K (T #[bH (ByteArray.mk #[]),U g]) [] e)/\(¬¬g=0->(gd=true->∀h:Nat,∃(i:LI)(j:LM),i [U 0,A #[P none,S none 0 0]] e/\∀(k:Int)(m:Value)(o:O)(p q:Nat)(r:Heap),X aa H r->i [U k,A #[m,S o p q]] r->(k<6->0<=k/\k<6/\∃s,zV [U kd,U ag,U tr,U n,U 1,U id] (N k*1)=some (U s)/\Ss s r aa h m o p q k w1 i j)/\(¬k<6->Su a l c r aa p o q K))/\(gd=false->∀h:Nat,∃(i:LI)(j:LM),i [U 0,A #[P none,S none 0 0]] e/\∀(k:Int)(m:Value)(o:O)(p q:Nat)(r:Heap),X aa H r->i [U k,A #[m,S o p q]] r->(k<6->0<=k/\k<6/\∃s,zV [U kd,U ag,U tr,U n,U 0,U id] (N k*1)=some (U s)/\Ss s r aa h m o p q k w1 i j)/\(¬k<6->Su a l c r aa p o q K))))) [[U kd,U ag,U tr,U n,B gd,U id,S a l c]]):=by kernel_rfl
theorem vd58{e:Int}:
 (fV TryzMutsJ Tryz.f207 aa H [.v (U e)] [] K)=(
 ∀a:Nat,K (T #[A #[U 0,U 0,U 0,U 0,B false,U 0,S none 0 0],U e]) [] H):=by kernel_rfl
abbrev Sv(e1:Bool)(K:KT)(w6:AV)(c1:Heap)(d:O)(l:Int)(e:Nat)(d1:Int)(aa:Nat)(w:List Value)(i:LI)(j:LM)(w5:LV)(k m n o p:Int)(q:Bool)(r:Int)(t:O)(u v:Nat):Prop:=
 (e1=true->K (T #[A w6,U 1]) [] c1)/\(¬e1=true->∃f1 g1,d=some (D f1 g1 none)/\0<=l/\l<(e:Int)/\∃h1,C c1 f1 (g1+N l*1)=some (bH h1)/\Y 223 [U d1] c1 fun i1 j1=>∃k1,i1=bH k1/\(X aa c1 j1->∃l1,aR Tryz.prog (aI BinOp.neq 9 (Operand.tmp 40) (Operand.tmp 44) (bH k1) (bH h1)) (B l1)/\(l1=true->K (T #[A w6,U 1]) [] j1)/\(¬l1=true->0<=l/\l<6/\0+N l*1+1<=zo w/\∀m1:Int,(fun w1:LV=>m1=W Z (l+1)->zo (List.set w (0+N l*1) (U d1))=6/\i w1 j1/\j w1<j w5) [U k,U m1,A #[U m,U n,U o,U p,B q,U r,S t u v],A (zQ (List.set w (0+N l*1) (U d1)))])))
theorem vd21:
 (fV TryzMutsJ Tryz.f196 aa H [.v (.string s)] [] K)=(
 (fun w6:AV=>∀a:Nat,(60000<(↑(zp s):Int)->K (T #[A w6,U 2]) [] H)/\(¬60000<(↑(zp s):Int)->Y 208 [bH s,bH (ByteArray.mk #[32])] H fun b c=>∃d e g,b=S d e g/\(X aa H c->(¬(e:Int)=7->K (T #[A w6,U 1]) [] c)/\(¬¬(e:Int)=7->∀h:Nat,zo [U 0,U 0,U 0,U 0,U 0,U 0]=6/\∃(i:LI)(j:LM),i [U 0,U 0,A w6,A #[U 0,U 0,U 0,U 0,U 0,U 0]] c/\∀(k l m n o p:Int)(q:Bool)(r:Int)(t:O)(u v:Nat)(w:List Value),(fun w5:LV=>(fun w4:LB=>zo w=6->∀x,X aa H x->i w5 x->(l<6->∃y z,d=some (D y z none)/\0<=l/\l<(e:Int)/\∃a1,C x y (z+N l*1)=some (bH a1)/\Y 226 [bH a1] x fun b1 c1=>∃d1,b1=T #[U d1,Value.nilIface]/\(X aa x c1->∃e1,aR Tryz.prog (aI BinOp.neq 263 (Operand.tmp 36) (Operand.const Value.nilIface) Value.nilIface Value.nilIface) (B e1)/\Sv e1 K w6 c1 d l e d1 aa w i j w5 k m n o p q r t u v)∨∃(e1:TypeId)(f1:Value),b1=T #[U d1,Value.iface e1 f1]/\(X aa x c1->∃g1,aR Tryz.prog (aI BinOp.neq 263 (Operand.tmp 36) (Operand.const Value.nilIface) (Value.iface e1 f1) Value.nilIface) (B g1)/\Sv g1 K w6 c1 d l e d1 aa w i j w5 k m n o p q r t u v))/\(¬l<6->∃y z,d=some (D y z none)/\Int.ofNat 0<=6/\6<(e:Int)/\∃a1,C x y (z+6*1)=some (bH a1)/\Y 227 [bH a1,bH (ByteArray.mk #[61])] x fun b1 c1=>∃d1 e1,b1=T #[bH d1,B e1]/\(X aa x c1->∃f1:Prop,((e1=false->w4=w4/\ak c1 c1/\f1)/\(¬e1=false->∃g1,zV w (0+4*1)=some (U g1)/\(g1<0->w4=w4/\ak c1 c1/\f1)/\(¬g1<0->∃h1,zV w (0+4*1)=some (U h1)/\w4=w4/\ak c1 c1/\(f1↔1<h1))))/\(f1->K (T #[A w6,U 1]) [] c1)/\(¬f1->Y 228 [bH d1] c1 fun g1 h1=>∃i1 j1 k1 l1,g1=T #[S i1 j1 k1,U l1]/\(X aa c1 h1->(¬l1=0->K (T #[A w6,U l1]) [] h1)/\(¬¬l1=0->∃m1,zV w (0+0*1)=some (U m1)/\∃n1,zV w (0+1*1)=some (U n1)/\∃o1,zV w (0+2*1)=some (U o1)/\∃p1,zV w (0+3
 *1)=some (U p1)/\∃q1,zV w (0+4*1)=some (U q1)/\∃r1,(fun w3:AV=>zV w (0+5*1)=some (U r1)/\∀s1:Nat,Y 198 [A w3] h1 fun t1 u1=>∃v1,t1=U v1/\(X aa h1 u1->(¬v1=0->K (T #[A w6,U v1]) [] u1)/\(¬¬v1=0->K (T #[A w3,U 0]) [] u1))) #[U m1,U n1,U o1,U p1,B (decide (q1=1)),U r1,S i1 j1 k1])))))) [J a false 126 [U m,U n,U o,U p,B q,U r,S t u v],J h false 261 w]) [U k,U l,A #[U m,U n,U o,U p,B q,U r,S t u v],A (zQ w)])))) #[U 0,U 0,U 0,U 0,B false,U 0,S none 0 0]):=by kernel_rfl
abbrev Gi(i:Value)(aa:Nat)(c j:Heap)(K:KT):Prop:=
 ∃(k l m n:Int)(o:Bool)(p:Int)(q:O)(r t:Nat)(u:Int),(fun w3:AV=>i=T w3/\(X aa c j->K (T w3) [] j)) #[A #[U k,U l,U m,U n,B o,U p,S q r t],U u]
theorem vd29:
 (fV TryzMutsJ Tryz.f151 aa H [.v (.string s)] [] K)=(
 ∀a:Nat,(fun ui:LB=>Y 208 [bH s,bH (ByteArray.mk #[32])] H fun b c=>∃d e g,b=S d e g/\(X aa H c->∃h:Prop,((¬(e:Int)=7->ui=ui/\ak c c/\h)/\(¬¬(e:Int)=7->∃i j,d=some (D i j none)/\Int.ofNat 0<=6/\6<(e:Int)/\∃k,C c i (j+6*1)=some (bH k)/\Y 209 [bH k,bH (ByteArray.mk #[61])] c fun l m=>∃n,l=B n/\(X aa c m->ui=ui/\ak c m/\(h↔n=false))))/\(h->Y 207 [U 1] c fun i j=>Gi i aa c j K)/\(¬h->Int.ofNat 0<=6/\6<=(g:Int)/\∃(i:LI)(j:LM),i [U 0,S none 0 0,U 0,A #[U 0,U 0,U 0,U 0,B false,U 0,S none 0 0]] c/\∀(k:Int)(l:O)(m n:Nat)(o p q r t:Int)(u:Bool)(v:Int)(w:O)(x y:Nat)(z:Heap),(fun tu:AV=>X aa H z->i [U k,S l m n,U o,A tu] z->(o<6->∃a1 b1,d=some (D a1 b1 none)/\0<=o/\o<6/\∃c1,C z a1 (b1+N o*1)=some (bH c1)/\Y 210 [bH c1] z fun d1 e1=>∃f1 g1,d1=T #[U f1,B g1]/\(X aa z e1->(g1=false->Y 207 [U 1] e1 fun h1 i1=>Gi h1 aa e1 i1 K)/\(¬g1=false->∀h1:Nat,∃i1:List Value,bg aa e1 3 1 l m n i1/\(m+1)*8<=140737488355328/\m+1<=9223372036854775807/\∀(j1:O)(k1:Nat)(l1:Heap),cu aa e1 l1 l n j1 k1 (m+1)->bg aa l1 3 1 j1 (m+1) k1 (i1++[U f1])->∀m1:Int,(fun w5:LV=>m1=W Z (o+1)->i w5 l1/\j w5<j [U k,S l m n,U o,A tu]) [U k,S j1 (m+1) k1,U m1,A tu])))/\(¬o<6->∃a1 b1,l=some (D a1 b1 none)/\Int.ofNat 0<=4/\4<(m:Int)/\∃c1,C z a1 (b1+4*1)=some (U c1)/\Y 92 [U c1,U 0,U 1] z fun d1 e1=>∃f1,d1=B f1/\(X aa z e1->(f1=false->Y 207 [U 1] e1 fun g1 h1=>Gi g1 aa e1 h1 K)/\(¬f1=false->∃g1 h1,d=some (D g1 h1 none)/\Int.ofNat 0<=6/\6<(e:Int)/\∃i1,C e1 g1 (h1+6*1)=some (bH i1)/\Int.ofNat 0<=1/\1<=(↑(zp i1):Int)/\Y 211 [bH (ye i1 1 (zp i1))] e1 fun j1 k1=>∃l1 m1 n1 o1,j1=T #[S l1 m1 n1,U o1]/\(X aa e1 k1->(¬o1=0->Y 207 [U o1] k1 fun p1 q1=>Gi p1 aa k1 q1 K)/\(¬¬o1=0->∃p1 q1,l=some (D p1 q1 none)/\Int.ofNat
 0<=0/\0<(m:Int)/\∃r1,C k1 p1 (q1+0*1)=some (U r1)/\∃s1 t1,l=some (D s1 t1 none)/\Int.ofNat 0<=1/\1<(m:Int)/\∃u1,C k1 s1 (t1+1*1)=some (U u1)/\∃v1 w1,l=some (D v1 w1 none)/\Int.ofNat 0<=2/\2<(m:Int)/\∃x1,C k1 v1 (w1+2*1)=some (U x1)/\∃y1 z1,l=some (D y1 z1 none)/\Int.ofNat 0<=3/\3<(m:Int)/\∃a2,C k1 y1 (z1+3*1)=some (U a2)/\∃b2 c2,l=some (D b2 c2 none)/\Int.ofNat 0<=4/\4<(m:Int)/\∃d2,C k1 b2 (c2+4*1)=some (U d2)/\∃e2 f2,l=some (D e2 f2 none)/\Int.ofNat 0<=5/\5<(m:Int)/\∃g2,(fun w9:AV=>C k1 e2 (f2+5*1)=some (U g2)/\∀h2:Nat,Y 156 [A w9] k1 fun i2 j2=>∃k2,i2=U k2/\(X aa k1 j2->(¬k2=0->Y 207 [U k2] j2 fun l2 m2=>Gi l2 aa j2 m2 K)/\(¬¬k2=0->K (T #[A w9,U 0]) [] j2))) #[U r1,U u1,U x1,U a2,B (decide (d2=1)),U g2,S l1 m1 n1])))))) #[U p,U q,U r,U t,B u,U v,S w x y]))) [J a false 126 [U 0,U 0,U 0,U 0,B false,U 0,S none 0 0]]):=by kernel_rfl
open Go Go.Proofs
open Go Go.Proofs
abbrev Ku(y:Nat)(x:O)(u:Heap)(b1:List Value):Prop:=
 y=0∨∃c1 d1,x=some (D c1 d1 none)/\ba u c1 d1 0 b1
theorem vd61{c:Nat}:
 (fV TryzMutsJ Tryz.f169 aa H [.v (S a l c)] [] K)=(
 ∃b,aR Tryz.prog (aI BinOp.eql 33 (Operand.tmp 3) (Operand.const (S none 0 0)) (S a l c) (S none 0 0)) (B b)/\(b=true->K (S none 0 0) [] H)/\(¬b=true->∀(d:Nat)(e:Heap),X aa H e->H d=none->e d=some (ay 5 [])->∃g h:List Value,bg aa e 5 1 (some (D d 0 none)) 0 0 g/\zo h=l*1/\aM h=true/\(Ku l a e h)/\(0+l)*1<=140737488355328/\0+l<=9223372036854775807/\∀(i:O)(j:Nat)(k:Heap),cu aa e k (some (D d 0 none)) 0 i j (0+l)->bg aa k 5 1 i (0+l) j (g++h)->K (S i (0+l) j) [] k)):=by kernel_rfl
abbrev Sw(g:Int)(l:Nat)(a:O)(h:Heap)(e:Int)(b:LI)(d:LM):Prop:=
 g<(l:Int)->∃i j,a=some (D i j none)/\0<=g/\g<(l:Int)/\∃k m n,C h i (j+N g*1)=some (S k m n)/\∀o:Int,o=W Z (e+(m:Int))->(o<0->False)/\(¬o<0->∀p:Int,p=W Z (g+1)->b [U o,U p] h/\d [U o,U p]<d [U e,U g])
theorem vd62{c:Nat}:
 (fV TryzMutsJ Tryz.f80 aa H [.v (S a l c)] [] K)=(
 ∃(b:LI)(d:LM),b [U 0,U 0] H/\∀(e g:Int)(h:Heap),X aa H h->b [U e,U g] h->(Sw g l a h e b d)/\(¬g<(l:Int)->Y 152 [S none 0 0,U e] h fun i j=>∃k m n,i=S k m n/\(X aa h j->∃(o:LI)(p:LM),o [S k m n,U 0] j/\∀(q:O)(r s:Nat)(t:Int)(u:Heap),X aa H u->o [S q r s,U t] u->(t<(l:Int)->∃v w,a=some (D v w none)/\0<=t/\t<(l:Int)/\∃x y z,C u v (w+N t*1)=some (S x y z)/\∃a1 b1:List Value,bg aa u 5 1 q r s a1/\zo b1=y*1/\aM b1=true/\(Ku y x u b1)/\(r+y)*1<=140737488355328/\r+y<=9223372036854775807/\∀(c1:O)(d1:Nat)(e1:Heap),cu aa u e1 q s c1 d1 (r+y)->bg aa e1 5 1 c1 (r+y) d1 (a1++b1)->∀f1:Int,f1=W Z (t+1)->o [S c1 (r+y) d1,U f1] e1/\p [S c1 (r+y) d1,U f1]<p [S q r s,U t])/\(¬t<(l:Int)->K (S q r s) [] u)))):=by kernel_rfl
theorem vd63{most:Int}:
 (fV TryzMutsJ Tryz.f143 aa H [.v (.string s),.v (U most)] [] K)=(
 ∃(a:LI)(b:LM),a [bH s,S none 0 0,U 0,U 0,S none 0 0] H/\∀(c:ByteArray)(d:O)(e g:Nat)(h i:Int)(j:O)(k l:Nat)(m:Heap),X aa H m->a [bH c,S d e g,U h,U i,S j k l] m->∃n,aR Tryz.prog (aI BinOp.neq 9 (Operand.tmp 16) (Operand.const (bH (ByteArray.mk #[]))) (bH c) (bH (ByteArray.mk #[]))) (B n)/\(n=true->Y 195 [bH c,bH (ByteArray.mk #[10])] m fun o p=>∃q r t,o=T #[bH q,bH r,B t]/\(X aa m p->(t=false->∀u:Int,u=W Z ((↑(zp s):Int)-(↑(zp c):Int))->K (T #[S j k l,U u,U 9]) [] p)/\(¬t=false->Y 196 [bH q] p fun u v=>∃w x y z a1 b1 c1 d1 e1 f1,u=T #[A #[U w,U x,U y,U z,B a1,U b1,S c1 d1 e1],U f1]/\(X aa p v->∀g1:Nat,(¬f1=0->∀h1:Int,h1=W Z ((↑(zp s):Int)-(↑(zp c):Int))->K (T #[S j k l,U h1,U f1]) [] v)/\(¬¬f1=0->((k:Int)=most->∀h1:Int,h1=W Z ((↑(zp s):Int)-(↑(zp c):Int))->K (T #[S j k l,U h1,U 2]) [] v)/\(¬(k:Int)=most->∀h1:Nat,∃i1:List Value,bg aa v 126 7 j k l i1/\(k+1)*72<=140737488355328/\k+1<=9223372036854775807/\∀(j1:O)(k1:Nat)(l1:Heap),cu aa v l1 j l j1 k1 (k+1)->bg aa l1 126 7 j1 (k+1) k1 (i1++[U w,U x,U y,U z,B a1,U b1,S c1 d1 e1])->a [bH r,S d e g,U h,U i,S j1 (k+1) k1] l1/\b [bH r,S d e g,U h,U i,S j1 (k+1) k1]<b [bH c,S d e g,U h,U i,S j k l]))))))/\(¬n=true->K (T #[S j k l,U (↑(zp s):Int),U 0]) [] m)):=by kernel_rfl
theorem vd65{c:Nat}:
 (fV TryzMutsJ Tryz.f129 aa H [.v (S a l c),.v (S a' l' c')] [] K)=(
 (¬(l:Int)=(l':Int)->K (B false) [] H)/\(¬¬(l:Int)=(l':Int)->∃(b:LI)(d:LM),b [B false,U 0] H/\∀(e:Bool)(g:Int)(h:Heap),X aa H h->b [B e,U g] h->(g<(l:Int)->∃i j,a=some (D i j none)/\0<=g/\g<(l:Int)/\∃k:Int,C h i (j+N g*1)=some (I IntKind.u8 k)/\∃m n,a'=some (D m n none)/\0<=g/\g<(l':Int)/\∃o:Int,C h m (n+N g*1)=some (I IntKind.u8 o)/\(¬k=o->K (B false) [] h)/\(¬¬k=o->∀p:Int,p=W Z (g+1)->b [B e,U p] h/\d [B e,U p]<d [B e,U g]))/\(¬g<(l:Int)->K (B true) [] h))):=by kernel_rfl
abbrev I6(l:Nat)(a:O)(g:Heap)(i:List UInt8):Prop:=
 l=0∨∃j k,a=some (D j k none)/\ba g j k 0 (qm i)
theorem vd60{c:Nat}:
 (fV TryzMutsJ Tryz.f142 aa H [.v (A #[S a l c,S a' l' c'])] [] K)=(
 ∀b:Nat,(fun w1:LB=>∃d:Prop,((60000<(l:Int)->w1=w1/\ak H H/\d)/\(¬60000<(l:Int)->∀e:Int,e=W Z (60000-(l:Int))->w1=w1/\ak H H/\(d↔e<(l':Int))))/\(d->K (U 2) [] H)/\(¬d->∃e:List UInt8,zo e=l/\(I6 l a H e)/\Y 143 [bH (ByteArray.mk (zQ e)),U 200] H fun g h=>∃i j k m n,g=T #[S i j k,U m,U n]/\(X aa H h->K (U n) [] h))) [J b false 35 [S a l c,S a' l' c']]):=by kernel_rfl
abbrev Sx(aa:Nat)(h1:Heap)(f1:O)(a1:Nat)(m:ByteArray)(g1 c1:Nat)(K:KT)(u:O)(v w:Nat):Prop:=
 ∃i1 j1:List Value,bg aa h1 5 1 f1 (a1+zp m) g1 i1/\zo j1=1*1/\aM j1=true/\(1=0∨∃k1 l1,some (D c1 0 none)=some (D k1 l1 none)/\ba h1 k1 l1 0 j1)/\(a1+zp m+1)*1<=140737488355328/\a1+zp m+1<=9223372036854775807/\∀(k1:O)(l1:Nat)(m1:Heap),cu aa h1 m1 f1 g1 k1 l1 (a1+zp m+1)->bg aa m1 5 1 k1 (a1+zp m+1) l1 (i1++j1)->K (T #[A #[S u v w,S k1 (a1+zp m+1) l1],U 0]) [] m1
abbrev N9(aa:Nat)(d1:Heap)(z:O)(a1 b1:Nat)(m:ByteArray)(c1:Nat)(K:KT)(u:O)(v w:Nat):Prop:=
 ∃e1:List Value,bg aa d1 5 1 z a1 b1 e1/\a1+zp m<=140737488355328/\∀(f1:O)(g1:Nat)(h1:Heap),cu aa d1 h1 z b1 f1 g1 (a1+zp m)->bg aa h1 5 1 f1 (a1+zp m) g1 (e1++qm (Array.toList (ByteArray.data m)))->Sx aa h1 f1 a1 m g1 c1 K u v w
abbrev Kv(h:Int)(K:KT)(g:Heap):Prop:=
 ¬h=0->K (T #[A #[S none 0 0,S none 0 0],U h]) [] g
theorem vd32{c:Nat}{ag tr n id:Int}{gd:Bool}{rl:Nat}:
 (fV TryzMutsJ Tryz.f243 aa H [.v (A #[S a l c,S a' l' c']),.v (A #[U kd,U ag,U tr,U n,B gd,U id,S ra rl rc])] [] K)=(
 ∀b d e:Nat,Y 142 [A #[S a l c,S a' l' c']] H fun g h=>∃i,g=U i/\(X aa H h->(Kv i K h)/\(¬¬i=0->Y 265 [A #[U kd,U ag,U tr,U n,B gd,U id,S ra rl rc]] h fun j k=>∃m o,j=T #[bH m,U o]/\(X aa h k->(Kv o K k)/\(¬¬o=0->∀p:Int,p=W Z ((↑(zp m):Int)+1)->∀q:Int,q=W Z (60000-(l:Int))->∀r:Int,r=W Z (q-(l':Int))->(r<p->K (T #[A #[S none 0 0,S none 0 0],U 2]) [] k)/\(¬r<p->(Y 169 [S a l c] k fun s t=>∃u v w,s=S u v w/\(X aa k t->(Y 169 [S a' l' c'] t fun x y=>∃z a1 b1,x=S z a1 b1/\(X aa t y->(∃c1:List Value,bg aa y 5 1 z a1 b1 c1/\a1+zp m<=140737488355328/\∀(d1:O)(e1:Nat)(f1:Heap),cu aa y f1 z b1 d1 e1 (a1+zp m)->bg aa f1 5 1 d1 (a1+zp m) e1 (c1++qm (Array.toList (ByteArray.data m)))->∀(g1:Nat)(h1:Heap),X aa f1 h1->f1 g1=none->h1 g1=some (ay 5 [I IntKind.u8 10])->Sx aa h1 d1 a1 m e1 g1 K u v w)/\∀(c1:Nat)(d1:Heap),X aa y d1->y c1=none->d1 c1=some (ay 5 [I IntKind.u8 10])->N9 aa d1 z a1 b1 m c1 K u v w))/\∀(x:Nat)(y:Heap),X aa t y->t x=none->y x=some (ay 5 [I IntKind.u8 10])->Y 169 [S a' l' c'] y fun z a1=>∃b1 c1 d1,z=S b1 c1 d1/\(X aa y a1->N9 aa a1 b1 c1 d1 m x K u v w)))/\∀(s:Nat)(t:Heap),X aa k t->k s=none->t s=some (ay 5 [I IntKind.u8 10])->Y 169 [S a l c] t fun u v=>∃w x y,u=S w x y/\(X aa t v->Y 169 [S a' l' c'] v fun z a1=>∃b1 c1 d1,z=S b1 c1 d1/\(X aa v a1->N9 aa a1 b1 c1 d1 m s K w x y)))))))):=by kernel_rfl
theorem vd33{c:Nat}:
 (fV TryzMutsJ Tryz.f244 aa H [.v (A #[S a l c,S a' l' c'])] [] K)=(
 ∀b d:Nat,Y 142 [A #[S a l c,S a' l' c']] H fun e g=>∃h,e=U h/\(X aa H g->(Kv h K g)/\(¬¬h=0->∀(i:Nat)(j:Heap),X aa g j->g i=none->j i=some (ay 33 [S a l c,S a' l' c'])->Y 80 [S (some (D i 0 none)) 2 2] j fun k m=>∃n o p,k=S n o p/\(X aa j m->∀q:Nat,Y 142 [A #[S n o p,S none 0 0]] m fun r s=>∃t,r=U t/\(X aa m s->(Kv t K s)/\(¬¬t=0->K (T #[A #[S n o p,S none 0 0],U 0]) [] s)))))):=by kernel_rfl
theorem vd36{c:Nat}:
 (fV TryzMutsJ Tryz.f64 aa H [.v (A #[S a l c,S a' l' c'])] [] K)=(
 ∀b d:Nat,Y 142 [A #[S a l c,S a' l' c']] H fun e g=>∃h,e=U h/\(X aa H g->(¬h=0->K (T #[A #[S none 0 0,S none 0 0],S none 0 0,U h]) [] g)/\(¬¬h=0->∃i:List UInt8,zo i=l/\(I6 l a g i)/\Y 143 [bH (ByteArray.mk (zQ i)),U 200] g fun j k=>∃m n o p q,j=T #[S m n o,U p,U q]/\(X aa g k->∃r:List UInt8,zo r=l'/\(I6 l' a' k r)/\∀s:Int,s=W Z (200-(n:Int))->Y 143 [bH (ByteArray.mk (zQ r)),U s] k fun t u=>∃v w x y z,t=T #[S v w x,U y,U z]/\(X aa k u->0<=y/\y<=(c':Int)/\∀(a1:Nat)(b1:Heap),X aa u b1->u a1=none->b1 a1=some (ay 33 [S a l c,S a' (N y) c'])->Y 80 [S (some (D a1 0 none)) 2 2] b1 fun c1 d1=>∃e1 f1 g1,c1=S e1 f1 g1/\(X aa b1 d1->∃h1 i1:List Value,bg aa d1 126 7 m n o h1/\zo i1=w*7/\aM i1=true/\(Ku w v d1 i1)/\(n+w)*72<=140737488355328/\n+w<=9223372036854775807/\∀(j1:O)(k1:Nat)(l1:Heap),cu aa d1 l1 m o j1 k1 (n+w)->bg aa l1 126 7 j1 (n+w) k1 (h1++i1)->K (T #[A #[S e1 f1 g1,S none 0 0],S j1 (n+w) k1,U 0]) [] l1)))))):=by kernel_rfl
theorem vd39{b b':O}{c d m' d':Nat}:
 (fV TryzMutsJ Tryz.f37 aa H [.v (A #[S a l c,S a' l' c']),.v (A #[S b m d,S b' m' d'])] [] K)=(
 ∀e g:Nat,(fun w1:LB=>∃h:Prop,(Y 129 [S a l c,S b m d] H fun i j=>∃k,i=B k/\(X aa H j->(k=true->Y 129 [S a' l' c',S b' m' d'] j fun n o=>∃p,n=B p/\(X aa j o->w1=w1/\ak H o/\(h↔p=true)))/\(k=false->w1=w1/\ak H j/\¬h)))/\K (B (@decide h (zh h))) [] H) [J e false 35 [S a l c,S a' l' c'],J g false 35 [S b m d,S b' m' d']]):=by kernel_rfl
theorem vd38{c:Nat}:
 (fV TryzMutsJ Tryz.f81 aa H [.v (S a l c)] [] K)=(
 ∃(b:LI)(d:LM),b [U 0,U 0] H/\∀(e g:Int)(h:Heap),X aa H h->b [U e,U g] h->(Sw g l a h e b d)/\(¬g<(l:Int)->Y 153 [S none 0 0,U e] h fun i j=>∃k m n,i=S k m n/\(X aa h j->∃(o:LI)(p:LM),o [S k m n,U 0] j/\∀(q:O)(r s:Nat)(t:Int)(u:Heap),X aa H u->o [S q r s,U t] u->(t<(l:Int)->∃v w,a=some (D v w none)/\0<=t/\t<(l:Int)/\∃x y z,C u v (w+N t*1)=some (S x y z)/\∃a1 b1:List Value,bg aa u 126 7 q r s a1/\zo b1=y*7/\aM b1=true/\(Ku y x u b1)/\(r+y)*72<=140737488355328/\r+y<=9223372036854775807/\∀(c1:O)(d1:Nat)(e1:Heap),cu aa u e1 q s c1 d1 (r+y)->bg aa e1 126 7 c1 (r+y) d1 (a1++b1)->∀f1:Int,f1=W Z (t+1)->o [S c1 (r+y) d1,U f1] e1/\p [S c1 (r+y) d1,U f1]<p [S q r s,U t])/\(¬t<(l:Int)->K (S q r s) [] u)))):=by kernel_rfl
theorem vd79{c:Nat}:
 (fV TryzMutsJ Tryz.f152 aa H [.v (S a l c),.v (U k)] [] K)=(
 (k<0->False)/\(¬k<0->∀b:Int,b=W Z ((c:Int)-(l:Int))->∀d:Int,d=W Z (k-b)->(0<d->0<=(c:Int)/\(c:Int)<=(c:Int)/\∃(e:List Value)(g:Nat),d=(g:Int)/\0<g/\c<N (c:Int)+g/\bg aa H 5 1 a (N (c:Int)) c e/\(N (c:Int)+g)*1<=140737488355328/\N (c:Int)+g<=9223372036854775807/\∀(h i:Nat)(j:Heap),X aa H j->H h=none->bg aa j 5 1 (some (D h 0 none)) (N (c:Int)+g) i (e++yk (zk g [I IntKind.u8 0]))->0<=(l:Int)/\(l:Int)<=(i:Int)/\K (S (some (D h 0 none)) (N (l:Int)) i) [] j)/\(¬0<d->K (S a l c) [] H))):=by kernel_rfl
theorem vd64{c:Nat}:
 (fV TryzMutsJ Tryz.f153 aa H [.v (S a l c),.v (U k)] [] K)=(
 (k<0->False)/\(¬k<0->∀b:Int,b=W Z ((c:Int)-(l:Int))->∀d:Int,d=W Z (k-b)->(0<d->0<=(c:Int)/\(c:Int)<=(c:Int)/\∃(e:List Value)(g:Nat),d=(g:Int)/\0<g/\c<N (c:Int)+g/\bg aa H 126 7 a (N (c:Int)) c e/\(N (c:Int)+g)*72<=140737488355328/\N (c:Int)+g<=9223372036854775807/\∀(h i:Nat)(j:Heap),X aa H j->H h=none->bg aa j 126 7 (some (D h 0 none)) (N (c:Int)+g) i (e++yk (zk g [U 0,U 0,U 0,U 0,B false,U 0,S none 0 0]))->0<=(l:Int)/\(l:Int)<=(i:Int)/\K (S (some (D h 0 none)) (N (l:Int)) i) [] j)/\(¬0<d->K (S a l c) [] H))):=by kernel_rfl
open Go Go.Proofs
open Go
structure Step where
 ae:Int
 name:Int
 fi:Int
 deriving DecidableEq
def ly(b:List Pin)(p:Pin):Option Step:=if find b p.name=0 then some ⟨2,p.name,0⟩ else none
def o7(a:List Pin)(p:Pin):Option Step:=if find a p.name=p.fi then none else if find a p.name=0 then some ⟨1,p.name,p.fi⟩ else some ⟨3,p.name,p.fi⟩
def o8(a b:List Pin):List Step:=a.filterMap (ly b)
def Gj(a b:List Pin):List Step:=b.filterMap (o7 a)
def jz(a b:List Pin):List Step:=o8 a b++Gj a b
def eO(a b:List Pin):Int:=if aZ a=0 then aZ b else aZ a
def del(n:Int)(l:List Pin):List Pin:=l.filter fun p=>p.name≠n
def bi(l:List Pin)(o:Step):List Pin:=if o.ae=2 then del o.name l else up o.name o.fi l
def kD(o:Step):Prop:=o.name<1∨20<o.name∨(o.ae≠2/\(o.fi<1∨99<o.fi))∨(o.ae=2/\o.fi≠0)
instance (o:Step):Decidable (kD o):=by unfold kD;infer_instance
def bP(l:List Pin)(o:Step):Int:=
 if aZ l≠0 then aZ l else
 if o.ae<1∨3<o.ae then 4 else
 if kD o then 3 else
 if o.ae=1/\find l o.name≠0 then 6 else
 if o.ae≠1/\find l o.name=0 then 5 else
 if o.ae=1/\l.length=12 then 2 else 0
theorem Oa{l:List Pin}(n m:Int):find (del n l) m=if m=n then 0 else find l m:=by
 induction l with
 |nil=>simp[del,find]
 |cons p r ih=>
  unfold del at ih⊢;rw[List.filter_cons];by_cases h:p.name=n
  ·rw[nI (by simp[h]),ih];by_cases e:m=n
   ·rw[pI e,pI e]
   ·rw[nI e,nI e,find,nI (by omega)]
  ·rw[pI (by simp[h]),find,ih,find];by_cases e:p.name=m
   ·rw[pI e,pI e,nI (by omega)]
   ·rw[nI e,nI e]
theorem Lk.del{l:List Pin}(h:Lk l)(n:Int):Lk (del n l):=
 ⟨fun p hp=>h.aP p (List.mem_filter.1 hp).1,h.Ec.sublist List.filter_sublist⟩
theorem pR{l:List Pin}(h:Lk l)(o:Step)(m:Int)(hk:o.ae=2->o.fi=0):find (bi l o) m=if m=o.name then o.fi else find l m:=by
 unfold bi;split
 ·rename_i e;rw[Oa,hk e]
 ·rw[Kl m h]
theorem wu:∀ {l m:List Pin},Lk l->Lk m->(∀p∈l,find m p.name≠0)->l.length<=m.length:=by
 intro l m hl hm h
 have Ae:∀ {x:List Pin},Lk x->Lk (x.map fun p=>⟨p.name,1⟩):=fun hx=>⟨fun p hp=>by
  obtain⟨q,hq,rfl⟩:=zM.1 hp;have:=hx.name hq;unfold gI;simp;omega,by
  rw[List.pairwise_map];exact hx.Ec⟩
 have hf:∀(x:List Pin)(n:Int),Lk x->find (x.map fun p=>⟨p.name,1⟩) n=if find x n=0 then 0 else 1:=by
  intro x n hx
  induction x with
  |nil=>rfl
  |cons p r ih=>
   rw[zB,find,find];by_cases e:p.name=n
   ·have:=hx.name (p:=p) zr;rw[pI e,pI e,nI (by omega)]
   ·rw[nI e,nI e,ih hx.tail]
 have:=N0.len (Ae hl) (Ae hm) fun n=>by
  rw[hf l n hl,hf m n hm];by_cases e:find l n=0
  ·rw[pI e];split<;>omega
  ·obtain⟨p,h1,h2,_⟩:=oZ e;have:=h p h1;rw[h2] at this;rw[nI e,nI this];exact Int.le_refl _
 simpa using this
theorem lz{f g:Pin->Option Step} :∀ {l:List Pin},(∀x∈l,g x=f x)->l.filterMap g=l.filterMap f
 | [],_=>rfl
 |x::r,h=>by
  have ih:=lz (l:=r) fun y hy=>h y (zj _ hy);have hx:=h x zr
  cases hf:f x with
  |none=>rw[zf hf,zf (hx.trans hf),ih]
  |some s=>rw[zR hf,zR (hx.trans hf),ih]
theorem uj{f g:Pin->Option Step}{n:Int}(hn:∀q s,f q=some s->s.name=q.name):∀ {l:List Pin},l.Pairwise (fun p q=>p.name<q.name)->(∀q∈l,q.name≠n->g q=f q)->(∀q∈l,q.name=n->g q=none)->
  ∀ {o:Step} {rest:List Step},l.filterMap f=o::rest->o.name=n->l.filterMap g=rest
 | [],_,_,_,o,rest,h,_=>by cases h
 |q::r,hp,h1,h2,o,rest,h,ho=>by
  obtain⟨hq,hr⟩:=yU.1 hp
  cases hf:f q with
  |none=>
   rw[zf hf] at h
   have hg:g q=none:=by
    by_cases e:q.name=n
    ·exact h2 q zr e
    ·rw[h1 q zr e,hf]
   rw[zf hg]
   exact uj hn hr (fun x hx=>h1 x (zj _ hx)) (fun x hx=>h2 x (zj _ hx)) h ho
  |some s=>
   rw[zR hf] at h;obtain⟨rfl,rfl⟩:s=o/\r.filterMap f=rest:=by simpa using h
   have e:=hn q s hf;rw[zf (h2 q zr (by omega))];exact lz fun x hx=>h1 x (zj _ hx) (by have:=hq x hx;omega)
theorem j0{b:List Pin}(q:Pin)(s:Step)(h:ly b q=some s):s.name=q.name/\s.ae=2/\s.fi=0/\find b q.name=0:=by
 unfold ly at h;split at h
 ·cases h;rename_i e;exact⟨rfl,rfl,rfl,e⟩
 ·cases h
theorem pS{a:List Pin}(q:Pin)(s:Step)(h:o7 a q=some s):s.name=q.name/\s.fi=q.fi/\find a q.name≠q.fi/\(s.ae=1/\find a q.name=0∨s.ae=3/\find a q.name≠0):=by
 unfold o7 at h;split at h
 ·cases h
 ·rename_i e;split at h
  ·cases h;rename_i e2;exact⟨rfl,rfl,e,.inl ⟨rfl,e2⟩⟩
  ·cases h;rename_i e2;exact⟨rfl,rfl,e,.inr ⟨rfl,e2⟩⟩
theorem C0{a b:List Pin}(h:o8 a b=[]):∀p∈a,find b p.name≠0:=fun p hp e=>by
 have:=List.filterMap_eq_nil_iff.1 h p hp;unfold ly at this;rw[pI e] at this;cases this
structure Bj(a b:List Pin)(o:Step):Prop where
 name:1<=o.name/\o.name<=20
 fi:o.fi=find b o.name
 Q0:find a o.name≠find b o.name
 ae:(o.ae=2/\find b o.name=0/\find a o.name≠0)∨(o.ae=1/\find a o.name=0/\find b o.name≠0)∨(o.ae=3/\find a o.name≠0/\find b o.name≠0)
theorem sA{a b:List Pin}(ha:Lk a)(hb:Lk b){o:Step}(h:o∈jz a b):Bj a b o:=by
 rcases zd.1 h with h|h
 ·obtain⟨p,hp,he⟩:=zL.1 h;obtain⟨h1,h2,h3,h4⟩:=j0 p o he;have hn:=ha.name hp;have hf:=fO ha hp;rw[←h1] at h4 hn hf;exact⟨⟨hn.1,hn.2.1⟩,by rw[h3,h4],by rw[hf,h4];omega,.inl ⟨h2,h4,by rw[hf];omega⟩⟩
 ·obtain⟨p,hp,he⟩:=zL.1 h;obtain⟨h1,h2,h3,h4⟩:=pS p o he;have hn:=hb.name hp;have hf:=fO hb hp;rw[←h1] at h3 h4 hn hf;refine⟨⟨hn.1,hn.2.1⟩,by rw[h2,hf],by rw[hf];exact h3,?_⟩;rcases h4 with⟨h5,h6⟩|⟨h5,h6⟩
  ·exact .inr (.inl ⟨h5,h6,by rw[hf];omega⟩)
  ·exact .inr (.inr ⟨h5,h6,by rw[hf];omega⟩)
theorem Bj.aP{a b:List Pin}(hb:Lk b){o:Step}(h:Bj a b o):¬kD o/\1<=o.ae/\o.ae<=3/\(o.ae=2->o.fi=0)/\(o.ae≠2->1<=o.fi/\o.fi<=99):=by
 have h1:=h.name;have h2:=h.fi;have h3:=hb.find_range o.name;unfold kD;rcases h.ae with h4|h4|h4<;>omega
theorem Bj.bi{a b:List Pin}(ha:Lk a)(hb:Lk b){o:Step}(h:Bj a b o):Lk (bi a o)/\∀m,find (bi a o) m=if m=o.name then find b m else find a m:=by
 have hg:=h.aP hb;refine⟨?_,fun m=>?_⟩
 ·unfold Vg.bi;split
  ·exact ha.del _
  ·rename_i e;exact ha.up h.name (hg.2.2.2.2 e)
 ·rw[pR ha o m hg.2.2.2.1];by_cases e:m=o.name
  ·rw[pI e,pI e,e,h.fi]
  ·rw[nI e,nI e]
theorem I7{a b:List Pin}(ha:Lk a)(hb:Lk b){o:Step}{rest:List Step}(h:jz a b=o::rest):jz (bi a o) b=rest:=by
 have eC:=sA ha hb (h▸zr:o∈jz a b);obtain⟨hL,hf⟩:=eC.bi ha hb;unfold jz at h⊢
 cases hd:o8 a b with
 |nil=>
  rw[hd,List.nil_append] at h
  have h1:o8 (bi a o) b=[]:=List.filterMap_eq_nil_iff.2 fun p hp=>by
   have hm:=hL.name hp;have:=hf p.name;rw[fO hL hp] at this;rw[ly,nI];intro e;by_cases e2:p.name=o.name
   ·rw[pI e2] at this;omega
   ·rw[nI e2] at this;obtain⟨q,hq,hqn,_⟩:=oZ (l:=a) (n:=p.name) (by omega);have:=C0 hd q hq;rw[hqn] at this;exact this e
  rw[h1,List.nil_append];refine uj (f:=o7 a) (g:=o7 (bi a o)) (n:=o.name) (fun q s hs=>(pS q s hs).1) hb.Ec (fun q hq hn=>?_) (fun q hq hn=>?_) h rfl
  ·unfold o7;rw[hf,nI hn]
  ·unfold o7;rw[hf,pI hn,pI (fO hb hq)]
 |cons o' r=>
  rw[hd] at h;obtain⟨rfl,rfl⟩:o'=o/\r++Gj a b=rest:=by simpa using h
  obtain⟨p,hp,he⟩:=zL.1 (hd▸zr:o'∈o8 a b);obtain⟨h1,h2,h3,h4⟩:=j0 p o' he;have happ:bi a o'=del o'.name a:=by unfold bi;rw[pI h2]
  have Na:o8 (bi a o') b=r:=by
   have e1:(del o'.name a).filterMap (ly b)=a.filterMap fun q=>if q.name≠o'.name then ly b q else none:=by
    unfold del;generalize a=x
    induction x with
    |nil=>rfl
    |cons q x ih=>
     rw[List.filter_cons];by_cases e:q.name=o'.name
     ·rw[nI (by simp[e]),ih,zf (by simp[e])]
     ·rw[pI (by simp[e])]
      cases hq:ly b q with
      |none=>rw[zf hq,zf (by simp[e,hq]),ih]
      |some s=>rw[zR hq,zR (b:=s) (by simp[e,hq]),ih]
   unfold o8;rw[happ,e1];refine uj (f:=ly b) (n:=o'.name) (fun q s hs=>(j0 q s hs).1) ha.Ec (fun q hq hn=>?_) (fun q hq hn=>?_) hd rfl
   ·rw[pI hn]
   ·rw[nI (by simp[hn])]
  have had:Gj (bi a o') b=Gj a b:=by
   unfold Gj;refine lz fun q hq=>?_
   have eE:q.name≠o'.name:=fun e=>by
    have:=hb.name hq;rw[←e] at h1;rw[←h1,fO hb hq] at h4;omega
   unfold o7;rw[hf,nI eE]
  rw[Na,had]
theorem Bk{a b:List Pin}(ha:Lk a)(hb:Lk b)(ha12:a.length<=12)(hb12:b.length<=12){o:Step}{rest:List Step}(h:jz a b=o::rest):bP a o=0/\(bi a o).length<=12:=by
 have eC:=sA ha hb (h▸zr:o∈jz a b);obtain⟨hL,hf⟩:=eC.bi ha hb;have hg:=eC.aP hb
 have hlen:(bi a o).length<=12/\(o.ae=1->a.length+1<=(bi a o).length):=by
  rcases eC.ae with⟨h1,h2,h3⟩|⟨h1,h2,h3⟩|⟨h1,h2,h3⟩
  ·refine⟨?_,by omega⟩;unfold bi;rw[pI h1];have:=List.length_filter_le (fun p:Pin=>p.name≠o.name) a;unfold del;omega
  ·have Mg:o8 a b=[]:=by
    cases hd:o8 a b with
    |nil=>rfl
    |cons o' r=>
     obtain⟨p,hp,he⟩:=zL.1 (hd▸zr:o'∈o8 a b);have:=j0 p o' he;unfold jz at h;rw[hd] at h;obtain⟨rfl,_⟩:o'=o/\r++Gj a b=rest:=by simpa using h
     omega
   have h5:=wu hL hb fun p hp=>by
    by_cases e:p.name=o.name
    ·rw[e];exact h3
    ·have hm:=hL.name hp;have:=hf p.name;rw[fO hL hp,nI e] at this;obtain⟨q,hq,hqn,_⟩:=oZ (l:=a) (n:=p.name) (by omega);have:=C0 Mg q hq;rw[hqn] at this;exact this
   refine⟨by omega,fun _=>?_⟩;unfold bi;rw[nI (by omega)]
   have:∀ {l:List Pin},find l o.name=0->(∀p∈l,p.fi≠0)->(up o.name o.fi l).length=l.length+1:=by
    intro l
    induction l with
    |nil=>intro _ _;rfl
    |cons p r ih=>
     intro h hv;rw[find] at h;have hp:=hv p zr;by_cases e:p.name=o.name
     ·rw[pI e] at h;exact absurd h hp
     ·rw[nI e] at h;unfold up;split
      ·simp
      ·simp[ih h fun q hq=>hv q (zj _ hq)]
   rw[this h2 fun p hp=>by have:=ha.name hp;omega];exact ze _
  ·refine⟨?_,by omega⟩
   have h5:=wu hL ha fun p hp=>by
    by_cases e:p.name=o.name
    ·rw[e];exact h2
    ·have hm:=hL.name hp;have:=hf p.name;rw[fO hL hp,nI e] at this;omega
   omega
 refine⟨?_,hlen.1⟩;unfold bP;rw[nI (by simp[bF.2 ⟨ha,ha12⟩]),nI (by omega),nI hg.1];rcases eC.ae with⟨h1,h2,h3⟩|⟨h1,h2,h3⟩|⟨h1,h2,h3⟩
 ·rw[nI (by omega),nI (by omega),nI (by omega)]
 ·rw[nI (by omega),nI (by omega),nI (by have:=hlen.2 h1;omega)]
 ·rw[nI (by omega),nI (by omega),nI (by omega)]
def after(a:List Pin)(ops:List Step):List Pin:=ops.foldl bi a
theorem Gk{a b:List Pin}(ha:Lk a)(hb:Lk b):((jz a b).map Step.name).Nodup:=by
 have kX:∀(f:Pin->Option Step),(∀q s,f q=some s->s.name=q.name)->∀ {l:List Pin},l.Pairwise (fun p q=>p.name<q.name)->((l.filterMap f).map Step.name).Nodup/\∀s∈l.filterMap f,∃p∈l,p.name=s.name:=by
  intro f hf l hl;refine⟨?_,fun s hs=>by obtain⟨p,hp,he⟩:=zL.1 hs;exact⟨p,hp,(hf p s he).symm⟩⟩
  induction l with
  |nil=>exact List.nodup_nil
  |cons q r ih=>
   obtain⟨hq,hr⟩:=yU.1 hl
   cases h:f q with
   |none=>rw[zf h];exact ih hr
   |some s=>
    rw[zR h,zB,List.nodup_cons];refine⟨fun hm=>?_,ih hr⟩;obtain⟨t,ht,he⟩:=zM.1 hm;obtain⟨p,hp,h2⟩:=zL.1 ht;have:=hq p hp;have e1:=hf q s h;have e2:=hf p t h2;omega
 unfold jz;rw[List.map_append,List.nodup_append];refine⟨(kX _ (fun q s h=>(j0 q s h).1) ha.Ec).1,(kX _ (fun q s h=>(pS q s h).1) hb.Ec).1,fun x hx y hy=>?_⟩;rintro rfl;obtain⟨s,hs,rfl⟩:=zM.1 hx;obtain⟨t,ht,he⟩:=zM.1 hy;obtain⟨p,hp,h1⟩:=zL.1 hs;obtain⟨q,hq,h2⟩:=zL.1 ht;have e1:=j0 p s h1;have e2:=pS q t h2;have:=hb.name hq;have h3:=fO hb hq;rw[←e2.1,he,e1.1,e1.2.2.2] at h3;omega
def Q1(ops:List Step)(l:List Pin):Int->List Pin->Int
 |k,aU=>match ops with
  | []=>if aU=l then k else-1
  |o::r=>if aU=l then k else Q1 r l (k+1) (bi aU o)
theorem mQ{a b:List Pin} :eO a b=0↔(Lk a/\a.length<=12)/\(Lk b/\b.length<=12):=by
 unfold eO;rw[←bF,←bF];split<;>rename_i h<;>simp[h]
theorem tv{l:List Pin}{o:Step}(h:bP l o=0):(Lk l/\l.length<=12)/\1<=o.ae/\o.ae<=3/\¬kD o/\(o.ae=1->find l o.name=0/\l.length<12)/\(o.ae≠1->find l o.name≠0):=by
 unfold bP at h;split at h
 ·omega
 ·rename_i h1;have h1:aZ l=0:=zx.1 h1;have h0:=bF.1 h1;split at h
  ·omega
  ·split at h
   ·omega
   ·split at h
    ·omega
    ·split at h
     ·omega
     ·split at h
      ·omega
      ·exact⟨h0,by omega,by omega,by assumption,fun h=>by omega,fun h=>by omega⟩
theorem Bl{l:List Pin}{o:Step}(h:bP l o=0):Lk (bi l o)/\(bi l o).length<=12/\∀m,find (bi l o) m=if m=o.name then o.fi else find l m:=by
 obtain⟨⟨hl,Q2⟩,h1,h2,h3,h4,h5⟩:=tv h;unfold kD at h3
 have hL:Lk (bi l o):=by
  unfold bi;split
  ·exact hl.del _
  ·exact hl.up (by omega) (by omega)
 have hf:∀m,find (bi l o) m=if m=o.name then o.fi else find l m:=fun m=>pR hl o m (by omega)
 refine⟨hL,?_,hf⟩;by_cases e:o.ae=1
 ·have:∀(l:List Pin),(up o.name o.fi l).length<=l.length+1:=by
   intro l
   induction l with
   |nil=>simp[up]
   |cons p r ih=>
    unfold up;split
    ·split<;>simp
    ·simp;omega
  have:=this l;have:=h4 e;unfold bi;rw[nI (by omega)];omega
 ·have:=wu hL hl fun p hp=>by
   have hm:=hL.name hp;have:=hf p.name;rw[fO hL hp] at this;by_cases e2:p.name=o.name
   ·rw[e2];exact h5 e
   ·rw[nI e2] at this;omega
  omega
theorem undone{l:List Pin}{o:Step}(h:bP l o=0):(jz (bi l o) l).length<=1:=by
 obtain⟨hL,_,hf⟩:=Bl h;have hl:=(tv h).1.1
 have kj:∀s∈jz (bi l o) l,s.name=o.name:=fun s hs=>by
  have:=(sA hL hl hs).Q0;rw[hf] at this;by_cases e:s.name=o.name
  ·exact e
  ·rw[nI e] at this;exact absurd rfl this
 have Lx:=Gk hL hl
 match hd:jz (bi l o) l,kj,Lx with
 | [],_,_=>simp
 | [s],_,_=>simp
 |s::t::r,kj,Lx=>
  have h1:=kj s zr;have h2:=kj t (zj _ zr);simp at Lx;exact absurd (h1.trans h2.symm) Lx.1.1
def lR:Nat->Int->List Int
 |0,_=>[]
 |k+1,n=>n::lR k (n+1)
theorem kE{f:Pin->Option Step}{g:Int->Option Step} :∀(k:Nat)(n:Int) {l:List Pin},Lk l->(∀p∈l,n<=p.name/\p.name<n+k)->(∀m,n<=m->g m=if find l m=0 then none else f ⟨m,find l m⟩)->(lR k n).filterMap g=l.filterMap f
 |0,n,[],_,_,_=>rfl
 |0,n,p::r,_,h,_=>by have:=h p zr;omega
 |k+1,n,[],hl,_,hg=>by
  have:=kE (f:=f) (g:=g) k (n+1) hl (by simp) fun m hm=>hg m (by omega);unfold lR
  rw[zf (by rw[hg n (Int.le_refl n)];rfl),this]
 |k+1,n,p::r,hl,h,hg=>by
  have hp:=h p zr;have hn:=hl.name (p:=p) zr;unfold lR;by_cases e:p.name=n
  ·have ih:=kE (f:=f) (g:=g) k (n+1) hl.tail (fun q hq=>by have:=hl.head q hq;have:=h q (zj _ hq);omega) fun m hm=>by
    have hfm:find (p::r) m=find r m:=by rw[find,nI (by omega)]
    rw[hg m (by omega),hfm]
   have Gl:=hg n (Int.le_refl n);rw[find,pI e,nI (by omega)] at Gl;have hpe:(⟨n,p.fi⟩:Pin)=p:=by cases p;simp at e;subst e;rfl
   rw[hpe] at Gl
   cases hf:f p with
   |none=>rw[zf (Gl.trans hf),zf hf,ih]
   |some s=>rw[zR (Gl.trans hf),zR hf,ih]
  ·have ih:=kE (f:=f) (g:=g) k (n+1) hl (fun q hq=>by
    have:=h q hq;rcases zm.1 hq with rfl|hq
    ·omega
    ·have:=hl.head q hq;omega) fun m hm=>hg m (by omega)
   have eE:∀q∈p::r,q.name≠n:=fun q hq=>by
    rcases zm.1 hq with rfl|hq
    ·exact e
    ·have:=hl.head q hq;omega
   rw[zf (by rw[hg n (Int.le_refl n),pI (iB eE)]),ih]
def Bm(a b:List Pin)(n:Int):Option Step:=if find a n=find b n then none else if find b n=0 then some ⟨2,n,0⟩ else none
def Bn(a b:List Pin)(n:Int):Option Step:=if find a n=find b n then none else if find b n=0 then none else if find a n=0 then some ⟨1,n,find b n⟩ else some ⟨3,n,find b n⟩
theorem Mh{a b:List Pin}(ha:Lk a):(lR 21 0).filterMap (Bm a b)=o8 a b:=
 kE 21 0 ha (fun p hp=>by have:=ha.name hp;omega) fun m _=>by
  unfold Bm ly;by_cases h1:find a m=0
  ·rw[pI h1,h1];split
   ·rfl
   ·rw[nI (by omega)]
  ·rw[nI h1];split
   ·rw[nI (by simp;omega)]
   ·rfl
theorem Mi{a b:List Pin}(hb:Lk b):(lR 21 0).filterMap (Bn a b)=Gj a b:=
 kE 21 0 hb (fun p hp=>by have:=hb.name hp;omega) fun m _=>by
  unfold Bn o7;by_cases h1:find b m=0
  ·rw[pI h1,pI h1];split<;>rfl
  ·rw[nI h1,nI h1]
theorem Gm{l:List Pin}(hl:Lk l){o:Step}(hn:1<=o.name/\o.name<=20)(hk:o.ae=2->o.fi=0):(rk l).set o.name.toNat o.fi=rk (bi l o):=by
 apply List.ext_getElem?;intro i;by_cases hi:i<21
 ·rw[Ad _ hi,yh,pR hl o _ hk];split
  ·rename_i e;rw[pI (by simp[rk];omega),pI (by omega)]
  ·rw[Ad _ hi,nI (by omega)]
 ·rw[List.getElem?_eq_none (by simp[rk];omega),List.getElem?_eq_none (by simp[rk];omega)]
open Go
def me(n a b:Int):Bool:=decide (a<=n/\n<=b)
def iZ(k:Int):List Int->List Int->Except Int (List Int)
 |seen,[]=> .ok seen
 |seen,a::r=>if a<0 then .error 5 else if k<=a then .error 5 else if a∈seen then .error 6 else iZ k (seen++[a]) r
def io(k:Int):List Int->List (List Int)->Int
 |seen,[]=>if(seen.length:Int)<k then 4 else 0
 |seen,w::r=>if w=[] then 4 else match iZ k seen w with| .error e=>e| .ok s=>io k s r
def dq(l:List (List Int))(k:Int):Int:=if k<1 then 3 else if 6<k then 3 else io k [] l
def fJ(k:Int):List Int->List (List Int)->Int
 |seen,[]=>if(seen.length:Int)=k then 0 else 4
 |seen,w::r=>if w=[] then 4 else match iZ k seen w with| .error e=>e| .ok s=>fJ k s r
def jl(l:List (List Int))(k:Int):Int:=if me k 1 6=false then 3 else fJ k [] l
def Nb(k:Int)(s:List Int):Prop:=s.Nodup/\∀a∈s,0<=a/\a<k
theorem Af(k:Int):Nb k []:=⟨List.nodup_nil,by simp⟩
theorem Bo{s:List Int}(h:Nb k s){a:Int}(h0:0<=a)(h1:a<k)(hn:a∉s):Nb k (s++[a]):=by
 refine⟨?_,fun b hb=>?_⟩
 ·rw[List.nodup_append];refine⟨h.1,by simp,fun x hx y hy=>?_⟩;simp at hy;subst hy;rintro rfl;exact hn hx
 ·rw[zd] at hb;rcases hb with hb|hb
  ·exact h.2 b hb
  ·simp at hb;subst hb;exact⟨h0,h1⟩
theorem sB:∀(n:Nat)(s:List Int),s.Nodup->(∀a∈s,0<=a/\a<n)->s.length<=n
 |0,s,_,h=>by
  cases s with
  |nil=>simp
  |cons a r=>have:=h a zr;omega
 |n+1,s,hn,h=>by
  by_cases hm:(n:Int)∈s
  ·have h1:=List.length_erase_of_mem hm
   have h2:=sB n (s.erase n) (hn.erase _) (fun a ha=>by
    rw[hn.mem_erase_iff] at ha;have:=h a ha.2;have:=ha.1
    omega)
   have h3:0<s.length:=List.length_pos_of_mem hm;omega
  ·have h2:=sB n s hn (fun a ha=>by
    have:=h a ha;have:a≠n:=by rintro rfl;exact hm ha
    omega)
   omega
theorem Nb.len{s:List Int}(h:Nb k s)(hk:0<=k):(s.length:Int)<=k:=by
 have:=sB k.toNat s h.1 (fun a ha=>by have:=h.2 a ha;omega);omega
theorem wv{k:Int} :∀(w:List Int) {s s':List Int},Nb k s->iZ k s w= .ok s'->s'=s++w/\Nb k s'
 | [],s,s',h,e=>by simp[iZ] at e;subst e;simp[h]
 |a::r,s,s',h,e=>by
  unfold iZ at e;split at e
  ·cases e
  ·split at e
   ·cases e
   ·split at e
    ·cases e
    ·rename_i h0 h1 h2;obtain⟨e1,e2⟩:=wv r (Bo h (by omega) (by omega) h2) e;exact⟨by rw[e1];simp,e2⟩
theorem xe{k:Int}(hk:0<=k):∀(l:List (List Int)) {s:List Int},Nb k s->io k s l=fJ k s l
 | [],s,h=>by
  have:=h.len hk;unfold io fJ
  split<;>split<;>first|rfl|omega
 |w::r,s,h=>by
  unfold io fJ;split
  ·rfl
  ·cases e:iZ k s w with
   |error x=>rfl
   |ok s'=>exact xe hk r (wv w h e).2
theorem CF(l:List (List Int))(k:Int):dq l k=jl l k:=by
 unfold dq jl me;by_cases h1:k<1
 ·rw[pI h1,pI (by simp;omega)]
 ·by_cases h2:6<k
  ·rw[nI h1,pI h2,pI (by simp;omega)]
  ·rw[nI h1,nI h2,nI (by simp;omega)];exact xe (by omega) l (Af k)
theorem pT{k:Int}(hk:0<=k):∀(l:List (List Int)) {s:List Int},Nb k s->io k s l=0->Nb k (s++l.flatten)/\((s++l.flatten).length:Int)=k/\∀w∈l,w≠[]
 | [],s,h,e=>by
  unfold io at e;split at e
  ·omega
  ·have:=h.len hk;simp only[List.flatten_nil,zZ]
   exact⟨h,by omega,by simp⟩
 |w::r,s,h,e=>by
  unfold io at e;split at e
  ·omega
  ·rename_i hw
   cases e2:iZ k s w with
   |error x=>
    rw[e2] at e;simp only at e;exfalso
    clear hk
    induction w generalizing s with
    |nil=>simp[iZ] at e2
    |cons a q ih=>
     unfold iZ at e2;split at e2
     ·cases e2;omega
     ·split at e2
      ·cases e2;omega
      ·split at e2
       ·cases e2;omega
       ·rename_i h0 h1 h2;by_cases hq:q=[]
        ·subst hq;simp[iZ] at e2
        ·exact ih _ (Bo h (by omega) (by omega) h2) hq e2
   |ok s'=>
    rw[e2] at e;obtain⟨e3,e4⟩:=wv w h e2;obtain⟨a1,a2,a3⟩:=pT hk r e4 e;subst e3;rw[zW,←zE]
    exact⟨a1,a2,fun x hx=>by
     rcases zm.1 hx with rfl|hx
     ·exact hw
     ·exact a3 x hx⟩
theorem I8:∀(n:Nat)(s:List Int),s.Nodup->(∀a∈s,0<=a/\a<n)->s.length=n->∀a:Int,0<=a->a<n->a∈s:=by
 intro n s hn h hl a h0 h1;by_cases hm:a∈s
 ·exact hm
 ·have:=sB n (a::s) (List.nodup_cons.2 ⟨hm,hn⟩) (fun b hb=>by
   rcases zm.1 hb with rfl|hb
   ·exact⟨h0,h1⟩
   ·exact h b hb)
  simp at this;omega
theorem fk{l:List (List Int)}(h:dq l k=0):1<=k/\k<=6/\l.flatten.Nodup/\(∀a:Int,a∈l.flatten↔0<=a/\a<k)/\∀w∈l,w≠[]:=by
 unfold dq at h;split at h
 ·omega
 ·split at h
  ·omega
  ·obtain⟨h1,h2,h3⟩:=pT (by omega) l (Af k) h;simp only[List.nil_append] at h1 h2;refine⟨by omega,by omega,h1.1,fun a=>⟨h1.2 a,fun⟨ha,hb⟩=>?_⟩,h3⟩;exact I8 k.toNat _ h1.1 (fun b hb=>by have:=h1.2 b hb;omega) (by omega) a ha (by omega)

def ja(a:Int):Int->List (List Int)->Int
 |_,[]=> -1
 |i,w::r=>if a∈w then i else ja a (i+1) r
def lB(l:List (List Int))(a:Int):Int:=ja a 0 l
theorem mB(a:Int):∀(l:List (List Int))(i:Int),(ja a i l= -1/\a∉l.flatten)∨ ∃(j:Nat)(w:List Int),ja a i l=i+j/\l[j]?=some w/\a∈w/\∀(m:Nat)(v:List Int),m<j->l[m]?=some v->a∉v
 | [],i=> .inl ⟨rfl,by simp⟩
 |w::r,i=>by
  unfold ja;by_cases h:a∈w
  ·rw[pI h];exact .inr ⟨0,w,by simp,rfl,h,fun m v hm=>by omega⟩
  ·rw[nI h];rcases mB a r (i+1) with⟨h1,h2⟩|⟨j,v,h1,h2,h3,h4⟩
   ·exact .inl ⟨h1,by simp[h];simpa using h2⟩
   ·refine .inr ⟨j+1,v,by rw[h1];omega,h2,h3,fun m u hm hu=>?_⟩
    cases m with
    |zero=>simp at hu;subst hu;exact h
    |succ m=>exact h4 m u (by omega) hu
def eT(th:List Bool)(a:Int):Bool:=th[a.toNat]?==some false
def jG(th:List Bool):Int->List (List Int)->Int
 |i,[]=>i
 |i,w::r=>if w.any (eT th) then i else jG th (i+1) r
structure Sy(l:List (List Int))(th:List Bool)(n:Nat):Prop where
 ahead:∀(i:Nat) w,l[i]?=some w->i<n->∀a∈w,eT th a=false
 le:n<=l.length
 here:n<l.length->∃w,l[n]?=some w/\∃a∈w,eT th a=true
theorem uX(th:List Bool):∀(l:List (List Int))(i:Int),∃n:Nat,jG th i l=i+n/\Sy l th n
 | [],i=>⟨0,by simp[jG],⟨fun i w hw h=>by omega,by simp,fun h=>by simp at h⟩⟩
 |w::r,i=>by
  unfold jG;by_cases h:w.any (eT th)=true
  ·rw[pI h];refine⟨0,by simp,⟨fun i w hw h=>by omega,by omega,fun _=>⟨w,rfl,?_⟩⟩⟩;simpa using h
  ·rw[nI h];obtain⟨n,hn,hI⟩:=uX th r (i+1);refine⟨n+1,by rw[hn];omega,⟨fun j v hv hj a ha=>?_,by have:=hI.le;simp;omega,fun hl=>?_⟩⟩
   ·cases j with
    |zero=>
     simp at hv;subst hv
     cases hx:eT th a with
     |false=>rfl
     |true=>exact absurd (List.any_eq_true.2 ⟨a,ha,hx⟩) h
    |succ j=>exact hI.ahead j v (by simpa using hv) (by omega) a ha
   ·simpa using hI.here (by simp at hl;omega)
open Go Go.Proofs
theorem XF{n a b:Int}:
 (fV TryzMuts Tryz.f92 aa H [.v (U n),.v (U a),.v (U b)] [] K)=(
 (a<=n->K (B (decide (n<=b))) [] H)/\(¬a<=n->K (B false) [] H)):=by kernel_rfl
theorem XG{c:Nat}:
 (fV TryzMuts Tryz.f194 aa H [.v (S a l c),.v (U x)] [] K)=(
 ∃(b:LI)(d:LM),b [U 0,U 0] H/\∀(e g:Int)(h:Heap),X aa H h->b [U e,U g] h->(g<(l:Int)->∃i j,a=some (D i j none)/\0<=g/\g<(l:Int)/\∃k,C h i (j+N g*1)=some (U k)/\(x=k->K (U g) [] h)/\(¬x=k->∀m:Int,m=W Z (g+1)->b [U e,U m] h/\d [U e,U m]<d [U e,U g]))/\(¬g<(l:Int)->K (U (-1)) [] h)):=by kernel_rfl
theorem XH{c:Nat}:
 (fV TryzMuts Tryz.f137 aa H [.v (S a l c),.v (U x)] [] K)=(
 Y 194 [S a l c,U x] H fun b d=>∃e,b=U e/\(X aa H d->K (B (decide (0<=e))) [] d)):=by kernel_rfl
theorem vc26{c:Nat}:
 (fV TryzMuts Tryz.f187 aa H [.v (S a l c),.v (U k)] [] K)=(
 (k<1->K (U 3) [] H)/\(¬k<1->(6<k->K (U 3) [] H)/\(¬6<k->∀b:Nat,∃(d:LI)(e:LM),d [U 0,U 0,A #[]] H/\∀(g h:Int)(i:List Value)(j:Heap),X aa H j->d [U g,U h,A (zQ i)] j->(h<(l:Int)->∃m n,a=some (D m n none)/\0<=h/\h<(l:Int)/\∃o p q,C j m (n+N h*1)=some (S o p q)/\((p:Int)=0->K (U 4) [] j)/\(¬(p:Int)=0->∃(r:LI)(s:LM),r [U g,U 0,A (zQ i)] j/\∀(t u:Int)(v:List Value)(w:Heap),X aa H w->r [U t,U u,A (zQ v)] w->(u<(p:Int)->∃x y,o=some (D x y none)/\0<=u/\u<(p:Int)/\∃z,C w x (y+N u*1)=some (U z)/\(z<0->K (U 5) [] w)/\(¬z<0->(k<=z->K (U 5) [] w)/\(¬k<=z->∃a1 b1:Bool,ii (B false) (U z) v=some (B a1,b1)/\(a1=true->K (U 6) [] w)/\(a1=false->∃c1:List Value,bI (U z) (B true) v=some c1/\∀d1:Int,d1=W Z (u+1)->r [U t,U d1,A (zQ c1)] w/\s [U t,U d1,A (zQ c1)]<s [U t,U u,A (zQ v)]))))/\(¬u<(p:Int)->∀x:Int,x=W Z (h+1)->d [U t,U x,A (zQ v)] w/\e [U t,U x,A (zQ v)]<e [U g,U h,A (zQ i)])))/\(¬h<(l:Int)->((↑(zo i/2):Int)<k->K (U 4) [] j)/\(¬(↑(zo i/2):Int)<k->K (U 0) [] j))))):=by kernel_rfl
theorem vc24{c:Nat}:
 (fV TryzMuts Tryz.f94 aa H [.v (S a l c),.v (U k)] [] K)=(
 Y 92 [U k,U 1,U 6] H fun b d=>∃e,b=B e/\(X aa H d->(e=false->K (U 3) [] d)/\(¬e=false->∃(g:LI)(h:LM),g [U 0,S none 0 0,U 0] d/\∀(i:Int)(j:O)(m n:Nat)(o:Int)(p:Heap),X aa H p->g [U i,S j m n,U o] p->(o<(l:Int)->∃q r,a=some (D q r none)/\0<=o/\o<(l:Int)/\∃s t u,C p q (r+N o*1)=some (S s t u)/\((t:Int)=0->K (U 4) [] p)/\(¬(t:Int)=0->∃(v:LI)(w:LM),v [U i,S j m n,U 0] p/\∀(x:Int)(y:O)(z a1:Nat)(b1:Int)(c1:Heap),X aa H c1->v [U x,S y z a1,U b1] c1->(b1<(t:Int)->∃d1 e1,s=some (D d1 e1 none)/\0<=b1/\b1<(t:Int)/\∃f1,C c1 d1 (e1+N b1*1)=some (U f1)/\∀g1:Int,g1=W Z (k-1)->Y 92 [U f1,U 0,U g1] c1 fun h1 i1=>∃j1,h1=B j1/\(X aa c1 i1->(j1=false->K (U 5) [] i1)/\(¬j1=false->Y 137 [S y z a1,U f1] i1 fun k1 l1=>∃m1,k1=B m1/\(X aa i1 l1->(m1=true->K (U 6) [] l1)/\(m1=false->∀n1:Nat,∃o1:List Value,bg aa l1 3 1 y z a1 o1/\(z+1)*8<=140737488355328/\z+1<=9223372036854775807/\∀(p1:O)(q1:Nat)(r1:Heap),cu aa l1 r1 y a1 p1 q1 (z+1)->bg aa r1 3 1 p1 (z+1) q1 (o1++[U f1])->∀s1:Int,s1=W Z (b1+1)->v [U x,S p1 (z+1) q1,U s1] r1/\w [U x,S p1 (z+1) q1,U s1]<w [U x,S y z a1,U b1])))))/\(¬b1<(t:Int)->∀d1:Int,d1=W Z (o+1)->g [U x,S y z a1,U d1] c1/\h [U x,S y z a1,U d1]<h [U i,S j m n,U o])))/\(¬o<(l:Int)->(¬(m:Int)=k->K (U 4) [] p)/\(¬¬(m:Int)=k->K (U 0) [] p))))):=by kernel_rfl
theorem XI{c:Nat}:
 (fV TryzMuts Tryz.f136 aa H [.v (S a l c),.v (.pointer (some ⟨p,0,none⟩))] [] K)=(
 ∃b,C H p 0=some (U b)/\Y 137 [S a l c,U b] H fun d e=>∃g,d=B g/\(X aa H e->K (B g) [] e)):=by kernel_rfl
theorem XJ{c:Nat}:
 (fV TryzMuts Tryz.f135 aa H [.v (S a l c),.v (.func (.func 136) #[] #[.pointer (some ⟨p,0,none⟩)])] [] K)=(
 ∃(b:LI)(d:LM),b [U 0,U 0] H/\∀(e g:Int)(h:Heap),X aa H h->b [U e,U g] h->(g<(l:Int)->∃i j,a=some (D i j none)/\0<=g/\g<(l:Int)/\∃k m n,C h i (j+N g*1)=some (S k m n)/\Y 136 [S k m n,P (some (D p 0 none))] h fun o q=>∃r,o=B r/\(X aa h q->(r=true->K (U g) [] q)/\(r=false->∀s:Int,s=W Z (g+1)->b [U e,U s] q/\d [U e,U s]<d [U e,U g])))/\(¬g<(l:Int)->K (U (-1)) [] h)):=by kernel_rfl
theorem vc27(a:O)(l c:Nat)(k:Int)(aa:Nat)(H:Heap)(K:KT):
 (fV TryzMuts Tryz.f49 aa H [.v (S a l c),.v (U k)] [] K)=(
 ∀b:Nat,true=true/\∀d:Heap,X 0 H d->d b=some (ay 3 [U k])/\True->Y 135 [S a l c,Value.func (Fn.func 136) #[] #[P (some (D b 0 none))]] d fun e g=>∃h,e=U h/\∀i,X aa H i->(∀(j:Nat)(m:KB),g j=some m->(∀n:Bx,n∈ [J b false 3 [U k]]->j≠Bx.b n)->i j=some m)->K (U h) [] i):=by kernel_rfl
theorem vc23{c:Nat}:
 (fV TryzMuts Tryz.f252 aa H [.v (S a l c),.v (S a' l' c')] [] K)=(
 Y 187 [S a l c,U (l':Int)] H fun b d=>∃e,b=U e/\(X aa H d->(¬e=0->K (T #[U 0,U e]) [] d)/\(¬¬e=0->∃(g:LI)(h:LM),g [U 0,U 0,U 0] d/\∀(i j k:Int)(m:Heap),X aa H m->g [U i,U j,U k] m->(k<(l:Int)->∃n o,a=some (D n o none)/\0<=k/\k<(l:Int)/\∃p q r,C m n (o+N k*1)=some (S p q r)/\∃(s:LI)(t:LM),s [U i,U j,U 0] m/\∀(u v w:Int)(x:Heap),X aa H x->s [U u,U v,U w] x->(w<(q:Int)->∃y z,p=some (D y z none)/\0<=w/\w<(q:Int)/\∃a1,C x y (z+N w*1)=some (U a1)/\∃b1 c1,a'=some (D b1 c1 none)/\0<=a1/\a1<(l':Int)/\∃d1,C x b1 (c1+N a1*1)=some (B d1)/\(d1=false->K (T #[U k,U 0]) [] x)/\(¬d1=false->∀e1:Int,e1=W Z (w+1)->s [U u,U v,U e1] x/\t [U u,U v,U e1]<t [U u,U v,U w]))/\(¬w<(q:Int)->∀y:Int,y=W Z (k+1)->g [U u,U v,U y] x/\h [U u,U v,U y]<h [U i,U j,U k]))/\(¬k<(l:Int)->K (T #[U (l:Int),U 0]) [] m)))):=by kernel_rfl
open Go Go.Proofs
abbrev C1(j:Heap)(k m:Nat)(h n o:Int):Prop:=
 C j k (m+N h*2)=some (U n)/\C j k (m+N h*2+1)=some (U o)/\True
abbrev Gn(g:Int)(b:LI)(e:Int)(r:Heap)(d:LM):Prop:=
 ∀t:Int,t=W Z (g+1)->b [U e,U t] r/\d [U e,U t]<d [U e,U g]
theorem vc62{c:Nat}:
 (fV TryzMuts Tryz.f140 aa H [.v (S a l c)] [] K)=(
 (12<(l:Int)->K (U 2) [] H)/\(¬12<(l:Int)->∃(b:LI)(d:LM),b [U 0,U 0] H/\∀(e g:Int)(h:Heap),X aa H h->b [U e,U g] h->(g<(l:Int)->∃i j,a=some (D i j none)/\0<=g/\g<(l:Int)/\∃k m:Int,(C1 h i j g k m)/\∀n:Nat,(k<1->K (U 3) [] h)/\(¬k<1->(20<k->K (U 3) [] h)/\(¬20<k->(m<1->K (U 3) [] h)/\(¬m<1->(99<m->K (U 3) [] h)/\(¬99<m->(0<g->∀o:Int,o=W Z (g-1)->∃p q,a=some (D p q none)/\0<=o/\o<(l:Int)/\∃r,C h p (q+N o*2)=some (U r)/\(k<=r->K (U 6) [] h)/\(¬k<=r->Gn g b e h d))/\(¬0<g->Gn g b e h d))))))/\(¬g<(l:Int)->K (U 0) [] h))):=by kernel_rfl
theorem XK{c:Nat}:
 (fV TryzMuts Tryz.f159 aa H [.v (S a l c)] [] K)=(
 (12<(l:Int)->K (U 2) [] H)/\(¬12<(l:Int)->∃(b:LI)(d:LM),b [U 0,U 0,U 0] H/\∀(e g h:Int)(i:Heap),X aa H i->b [U e,U g,U h] i->(h<(l:Int)->∃j k,a=some (D j k none)/\0<=h/\h<(l:Int)/\∃m n:Int,(C1 i j k h m n)/\∀o:Nat,Y 92 [U m,U 1,U 20] i fun p q=>∃r,p=B r/\(X aa i q->(r=false->K (U 3) [] q)/\(¬r=false->Y 92 [U n,U 1,U 99] q fun s t=>∃u,s=B u/\(X aa q t->(u=false->K (U 3) [] t)/\(¬u=false->(m<=g->K (U 6) [] t)/\(¬m<=g->∀v:Int,v=W Z (h+1)->b [U e,U m,U v] t/\d [U e,U m,U v]<d [U e,U g,U h]))))))/\(¬h<(l:Int)->K (U 0) [] i))):=by kernel_rfl
theorem XL{n:Int}:
 (fV TryzMuts Tryz.f148 aa H [.v (A #[U n,U v]),.v (.pointer (some ⟨p,0,none⟩))] [] K)=(
 ∀a:Nat,∃b,C H p 0=some (U b)/\K (B (decide (n=b))) [] H):=by kernel_rfl
theorem XM{c:Nat}:
 (fV TryzMuts Tryz.f147 aa H [.v (S a l c),.v (.func (.func 148) #[] #[.pointer (some ⟨p,0,none⟩)])] [] K)=(
 ∃(b:LI)(d:LM),b [U 0,U 0] H/\∀(e g:Int)(h:Heap),X aa H h->b [U e,U g] h->(g<(l:Int)->∃i j,a=some (D i j none)/\0<=g/\g<(l:Int)/\∃k m:Int,(C1 h i j g k m)/\Y 148 [A #[U k,U m],P (some (D p 0 none))] h fun n o=>∃q,n=B q/\(X aa h o->(q=true->K (U g) [] o)/\(q=false->Gn g b e o d)))/\(¬g<(l:Int)->K (U (-1)) [] h)):=by kernel_rfl
theorem vc42{c:Nat}:
 (fV TryzMuts Tryz.f75 aa H [.v (S a l c),.v (U k)] [] K)=(
 ∀b:Nat,true=true/\∀d:Heap,X 0 H d->d b=some (ay 3 [U k])/\True->Y 147 [S a l c,Value.func (Fn.func 148) #[] #[P (some (D b 0 none))]] d fun e g=>∃h,e=U h/\∀i,X aa H i->(∀(j:Nat)(m:KB),g j=some m->(∀n:Bx,n∈ [J b false 3 [U k]]->j≠Bx.b n)->i j=some m)->(h<0->K (U 0) [] i)/\(¬h<0->∃j m,a=some (D j m none)/\0<=h/\h<(l:Int)/\∃n,C i j (m+N h*2+1)=some (U n)/\K (U n) [] i)):=by kernel_rfl
theorem vc41{c:Nat}:
 (fV TryzMuts Tryz.f47 aa H [.v (S a l c),.v (S a' l' c')] [] K)=(
 (¬(l:Int)=(l':Int)->K (B false) [] H)/\(¬¬(l:Int)=(l':Int)->∃(b:LI)(d:LM),b [B false,U 0] H/\∀(e:Bool)(g:Int)(h:Heap),X aa H h->b [B e,U g] h->(g<(l:Int)->∃i j,a=some (D i j none)/\0<=g/\g<(l:Int)/\∃k m:Int,(C1 h i j g k m)/\∃n o,a'=some (D n o none)/\0<=g/\g<(l':Int)/\∃p q:Int,(C1 h n o g p q)/\∃r,aR Tryz.prog (aI BinOp.neq 91 (Operand.tmp 19) (Operand.tmp 23) (A #[U k,U m]) (A #[U p,U q])) (B r)/\(r=true->K (B false) [] h)/\(¬r=true->∀s:Int,s=W Z (g+1)->b [B e,U s] h/\d [B e,U s]<d [B e,U g]))/\(¬g<(l:Int)->K (B true) [] h))):=by kernel_rfl
abbrev Kw(h:Heap)(i j:Nat)(g k m n o:Int):Prop:=
 C h i (j+N g*4)=some (U k)/\C h i (j+N g*4+1)=some (U m)/\C h i (j+N g*4+2)=some (U n)/\C h i (j+N g*4+3)=some (U o)/\True
theorem vc39{c:Nat}:
 (fV TryzMuts Tryz.f222 aa H [.v (S a l c)] [] K)=(
 (10<(l:Int)->K (U 2) [] H)/\(¬10<(l:Int)->∃(b:LI)(d:LM),b [U 0,U 0] H/\∀(e g:Int)(h:Heap),X aa H h->b [U e,U g] h->(g<(l:Int)->∃i j,a=some (D i j none)/\0<=g/\g<(l:Int)/\∃k m n o:Int,(fun w1:LL=>(Kw h i j g k m n o)/\∀p:Nat,∃(q:LI)(r:LM),q [U e,U 0] h/\∀(s t:Int)(u:Heap),X aa H u->q [U s,U t] u->(t<2->0<=t/\t<2/\∃v,zV [U k,U n] (N t*1)=some (U v)/\(v<1->K (U 3) [] u)/\(¬v<1->(20<v->K (U 3) [] u)/\(¬20<v->∀w:Int,w=W Z (t+1)->w1=w1/\q [U s,U w] u/\r [U s,U w]<r [U s,U t])))/\(¬t<2->∃(v:LI)(w:LM),v [U s,U 0] u/\∀(x y:Int)(z:Heap),X aa H z->v [U x,U y] z->(y<2->0<=y/\y<2/\∃a1,zV [U m,U o] (N y*1)=some (U a1)/\(a1<1->K (U 3) [] z)/\(¬a1<1->(99<a1->K (U 3) [] z)/\(¬99<a1->∀b1:Int,b1=W Z (y+1)->w1=w1/\v [U x,U b1] z/\w [U x,U b1]<w [U x,U y])))/\(¬y<2->(k=n->K (U 4) [] z)/\(¬k=n->∀a1:Int,a1=W Z (g+1)->b [U x,U a1] z/\d [U x,U a1]<d [U e,U g])))) [[U k,U m,U n,U o]])/\(¬g<(l:Int)->K (U 0) [] h))):=by kernel_rfl
theorem vc40{c:Nat}:
 (fV TryzMuts Tryz.f181 aa H [.v (S a l c)] [] K)=(
 (10<(l:Int)->K (U 2) [] H)/\(¬10<(l:Int)->∃(b:LI)(d:LM),b [U 0,U 0] H/\∀(e g:Int)(h:Heap),X aa H h->b [U e,U g] h->(g<(l:Int)->∃i j,a=some (D i j none)/\0<=g/\g<(l:Int)/\∃k m n o:Int,(Kw h i j g k m n o)/\∀p:Nat,Y 92 [U k,U 1,U 20] h fun q r=>∃s,q=B s/\(X aa h r->(s=false->K (U 3) [] r)/\(¬s=false->Y 92 [U n,U 1,U 20] r fun t u=>∃v,t=B v/\(X aa r u->(v=false->K (U 3) [] u)/\(¬v=false->Y 92 [U m,U 1,U 99] u fun w x=>∃y,w=B y/\(X aa u x->(y=false->K (U 3) [] x)/\(¬y=false->Y 92 [U o,U 1,U 99] x fun z a1=>∃b1,z=B b1/\(X aa x a1->(b1=false->K (U 3) [] a1)/\(¬b1=false->(n=k->K (U 4) [] a1)/\(¬n=k->Gn g b e a1 d))))))))))/\(¬g<(l:Int)->K (U 0) [] h))):=by kernel_rfl
abbrev Sz(o:Int)(j:LI)(m n:Int)(b1:Heap)(k:LM):Prop:=
 ∀d1:Int,d1=W Z (o+1)->j [U m,U n,U d1] b1/\k [U m,U n,U d1]<k [U m,U n,U o]
theorem vc34{c:Nat}:
 (fV TryzMuts Tryz.f186 aa H [.v (S a l c),.v (S a' l' c')] [] K)=(
 Y 140 [S a l c] H fun b d=>∃e,b=U e/\(X aa H d->(¬e=0->K (T #[U 0,U e]) [] d)/\(¬¬e=0->Y 222 [S a' l' c'] d fun g h=>∃i,g=U i/\(X aa d h->(¬i=0->K (T #[U 0,U i]) [] h)/\(¬¬i=0->∃(j:LI)(k:LM),j [U 0,U 0,U 0] h/\∀(m n o:Int)(p:Heap),X aa H p->j [U m,U n,U o] p->(o<(l':Int)->∃q r,a'=some (D q r none)/\0<=o/\o<(l':Int)/\∃s t u v:Int,(Kw p q r o s t u v)/\∀w:Nat,Y 75 [S a l c,U s] p fun x y=>∃z,x=U z/\(X aa p y->(t<=z->Y 75 [S a l c,U u] y fun a1 b1=>∃c1,a1=U c1/\(X aa y b1->(c1<v->K (T #[U o,U 0]) [] b1)/\(¬c1<v->Sz o j m n b1 k)))/\(¬t<=z->Sz o j m n y k)))/\(¬o<(l':Int)->K (T #[U (-1),U 0]) [] p)))))):=by kernel_rfl
theorem XN{c:Nat}:
 (fV TryzMuts Tryz.f182 aa H [.v (S a l c)] [] K)=(
 (fun w2:LL=>∀b d:Nat,zo [U 0,U 0,U 0,U 0,U 0,U 0,U 0,U 0,U 0,U 0,U 0,U 0,U 0,U 0,U 0,U 0,U 0,U 0,U 0,U 0,U 0]=21/\∃(e:LI)(g:LM),e [U 0,A #[U 0,U 0,U 0,U 0,U 0,U 0,U 0,U 0,U 0,U 0,U 0,U 0,U 0,U 0,U 0,U 0,U 0,U 0,U 0,U 0,U 0]] H/\∀(h:Int)(i:List Value),zo i=21->∀j,X aa H j->e [U h,A (zQ i)] j->(h<(l:Int)->∃k m,a=some (D k m none)/\0<=h/\h<(l:Int)/\∃n o:Int,(C1 j k m h n o)/\∀p:Nat,0<=n/\n<21/\0+N n*1+1<=zo i/\∀q:Int,(fun w1:LV=>q=W Z (h+1)->zo (List.set i (0+N n*1) (U o))=21/\w2=w2/\e w1 j/\g w1<g [U h,A (zQ i)]) [U q,A (zQ (List.set i (0+N n*1) (U o)))])/\(¬h<(l:Int)->zo i=21/\zo i=21/\aM i=true/\zo [U 0,U 0,U 0,U 0,U 0,U 0,U 0,U 0,U 0,U 0,U 0,U 0,U 0,U 0,U 0,U 0,U 0,U 0,U 0,U 0,U 0]=21/\zo i=21/\K (A (zQ i)) [] j)) [[U 0,U 0,U 0,U 0,U 0,U 0,U 0,U 0,U 0,U 0,U 0,U 0,U 0,U 0,U 0,U 0,U 0,U 0,U 0,U 0,U 0]]):=by kernel_rfl
theorem XO:
 (fV TryzMuts Tryz.f215 aa H [.v (A cs.toArray)] [] K)=(
 ∀a:Nat,zo cs=21/\∃(b:LI)(c:LM),b [S none 0 0,U 0] H/\∀(d:O)(e g:Nat)(h:Int)(i:Heap),X aa H i->b [S d e g,U h] i->(h<21->0<=h/\h<21/\∃j,zV cs (N h*1)=some (U j)/\(0<j->∀k:Nat,∃l:List Value,bg aa i 91 2 d e g l/\(e+1)*16<=140737488355328/\e+1<=9223372036854775807/\∀(m:O)(n:Nat)(o:Heap),cu aa i o d g m n (e+1)->bg aa o 91 2 m (e+1) n (l++[U h,U j])->∀p:Int,p=W Z (h+1)->[cs]=[cs]/\b [S m (e+1) n,U p] o/\c [S m (e+1) n,U p]<c [S d e g,U h])/\(¬0<j->∀k:Int,k=W Z (h+1)->[cs]=[cs]/\b [S d e g,U k] i/\c [S d e g,U k]<c [S d e g,U h]))/\(¬h<21->K (S d e g) [] i)):=by kernel_rfl
theorem vc36{c:Nat}:
 (fV TryzMuts Tryz.f93 aa H [.v (S a l c),.v (S a' l' c')] [] K)=(
 Y 159 [S a l c] H fun b d=>∃e,b=U e/\(X aa H d->(¬e=0->K (T #[U 0,U e]) [] d)/\(¬¬e=0->Y 181 [S a' l' c'] d fun g h=>∃i,g=U i/\(X aa d h->(¬i=0->K (T #[U 0,U i]) [] h)/\(¬¬i=0->Y 182 [S a l c] h fun j k=>∃m:List Value,zo m=21/\j=A (zQ m)/\(X aa h k->∀n:Nat,zo m=21/\aM m=true/\21=21/\true=true/\∀o:Heap,X 0 k o->o n=some (ay 220 m)/\True->Y 183 [S a' l' c',Value.func (Fn.func 184) #[] #[P (some (D n 0 none))]] o fun p q=>∃r,p=U r/\∀s,X aa k s->(∀(t:Nat)(u:KB),q t=some u->(∀v:Bx,v∈ [J n false 220 m]->t≠Bx.b v)->s t=some u)->K (T #[U r,U 0]) [] s)))))):=by kernel_rfl
theorem XP{c:Nat}:
 (fV TryzMuts Tryz.f183 aa H [.v (S a l c),.v (.func (.func 184) #[] #[.pointer (some ⟨p,0,none⟩)])] [] K)=(
 ∃(b:LI)(d:LM),b [U 0,U 0] H/\∀(e g:Int)(h:Heap),X aa H h->b [U e,U g] h->(g<(l:Int)->∃i j,a=some (D i j none)/\0<=g/\g<(l:Int)/\∃k m n o:Int,(Kw h i j g k m n o)/\Y 184 [A #[U k,U m,U n,U o],P (some (D p 0 none))] h fun q r=>∃s,q=B s/\(X aa h r->(s=true->K (U g) [] r)/\(s=false->Gn g b e r d)))/\(¬g<(l:Int)->K (U (-1)) [] h)):=by kernel_rfl
theorem XQ{y z u:Int}:
 (fV TryzMuts Tryz.f184 aa H [.v (A #[U x,U y,U z,U u]),.v (.pointer (some ⟨p,0,none⟩))] [] K)=(
 ∀a:Nat,0<=x/\x<21/\∃b,C H p (0+N x*1)=some (U b)/\(y<=b->0<=z/\z<21/\∃c,C H p (0+N z*1)=some (U c)/\K (B (decide (c<u))) [] H)/\(¬y<=b->K (B false) [] H)):=by kernel_rfl
end Go.Vg
