/- What is proved here: a part of the proof of laws of this seat: what a contract is, how it comes of a condition, contracts of the functions that are reached, the plain laws. -/
import Derived.Orders
import Derived.Scope
import Derived.WalkKit
import Derived.Great.BuildSlice
import Derived.Laws.IdiomStrings
import Derived.Maps.AppendAt
import Derived.Lib.AppendZerosOnto
set_option linter.unusedSimpArgs false
set_option linter.unusedVariables false
set_option maxRecDepth 100000
open Bool renaming and_eq_true → zT
open Option renaming bind_some → yj,isSome_iff_exists → yW,map_some → yy
open Option.some renaming inj → zy
open Nat renaming le_refl → ze,lt_of_lt_of_le → yg,succ_mul → yz,zero_add → zS
open Array renaming replicate → yT,getElem?_setIfInBounds_ne → yX,getElem?_eq_some_iff → zK,ext' → yu
open Classical renaming propDecidable → zh
open List renaming replicate → zk,length → zo,range → yi,getElem?_append_left → zU,getElem?_eq_some_iff → zw,getElem?_set_ne → yO,mem_of_getElem? → zt,getElem?_take → zD,mem_cons → zm,length_nil → zX,length_cons → zi,append_assoc → zE,getElem?_append_right → zY,mem_iff_getElem? → yr,mem_append → zd,mem_singleton → zN,mem_map → zM,flatten_append → zI,flatten_cons → zW,append_nil → zZ,eq_nil_of_length_eq_zero → zG
theorem nI.{u}{c:Prop}{h:Decidable c}(tR:¬c){α:Sort u}{t e:α}:ite c t e=e:=if_neg tR
theorem pI.{u}{c:Prop}{h:Decidable c}(hc:c){α:Sort u}{t e:α}:ite c t e=t:=if_pos hc
variable{i n m nt b aa j r size xc:Nat}{t ty kt e bt:Go.TypeId}{a w w':Go.World}{o:Go.Oper}{v key k v':Go.Value}{vs cs z xs oI:List Go.Value}{x xo dop:Go.Operand}{f:Prop}
namespace Go.Vg
open Go

structure KB where
 ty:TypeId
 size:Nat
 free:Bool
 cells:Nat->Option Value
abbrev Heap:=Nat->Option KB
abbrev KT:=Value->List (List Value)->Heap->Prop
abbrev O:=Option Addr
abbrev LI:=List Value->Heap->Prop
abbrev LM:=List Value->Nat
abbrev NI:=Nat->List Value->Heap->Prop
def Heap.cell(H:Heap)(b o:Nat):Option Value:=(H b).bind fun k=>k.cells o
def KB.dI(k:KB)(o:Option Obj):Prop:=
 ∃cur fr,o=some (.cells cur k.ty fr)/\cur.size=k.size/\(k.free=true->fr=(0,0))/\∀j v,k.cells j=some v->cur[j]?=some v
def fD(H:Heap)(w:World):Prop:=∀b k,H b=some k->k.dI w.heap[b]?
structure Next(aa:Nat)(H H':Heap):Prop where
 ext:∀b k,H b=some k->H' b=some k
 fresh:∀b k,H' b=some k->H b=none->aa<=b
def ay(ty:TypeId)(cs:List Value):KB:=⟨ty,cs.length,true,fun j=>cs[j]?⟩
def ba(H:Heap)(b o:Nat):Nat->List Value->Prop
 |_,[]=>True
 |i,v::vs=>H.cell b (o+i)=some v/\ba H b o (i+1) vs

structure Bx where
 b:Nat
 map:Bool
 ty:TypeId
 cs:List Value
def ch:List MapEntry->List Value
 | []=>[]
 |e::es=>e.key::e.val::ch es
def Bx.ok(x:Bx)(w:World):Prop:=
 match x.map with
 |false=>w.heap[x.b]?=some (.cells x.cs.toArray x.ty (0,0))
 |true=>∃es clock,w.heap[x.b]?=some (.map es clock)/\ch es.toList=x.cs
structure dx(own:List Bx)(H:Heap)(w:World):Prop where
 ok:∀x∈own,x.ok w
 hid:∀x∈own,H x.b=none
 apart:(own.map Bx.b).Nodup
structure bL(own:List Nat)(w w':World):Prop where
 os:w'.os=w.os
 tape:w'.tape=w.tape
 output:w'.output=w.output
 size:w.heap.size<=w'.heap.size
 block:∀k,k<w.heap.size->k∉own->w'.heap[k]?=w.heap[k]?

def Bx.set(x:Bx)(cs:List Value):Bx:= { x with cs }
def gi:List Bx->List (List Value)->List Bx
 |x::xs,c::cs=>x.set c::gi xs cs
 |_,_=>[]

def eZ(P:Program)(f:FuncId)(args:List Value)(own:List Bx)(H:Heap)(Q:Value->List (List Value)->Heap->Prop):Prop:=
 ∀w,fD H w->dx own H w->Calls P f args.toArray w fun e w'=>∃v iy H',e= .returned v/\iy.length=own.length/\bL (own.map Bx.b) w w'/\
  fD H' w'/\dx (gi own iy) H' w'/\Next w.heap.size H H'/\Q v iy H'
def bS(P:Program)(f:FuncId)(args:List Value)(H:Heap)(Q:Value->Heap->Prop):Prop:=
 eZ P f args [] H fun v _ H'=>Q v H'

inductive SV where
 |v (x:Value)
 |p (q:Prop) (d:Decidable q)
 |tt
 |ff
 /-- a pointer into box i -/
 |loc (i off:Nat)
 /-- the same, at a place that is no numeral -/
 |qK (i off:Nat)
 /-- the map that is box i -/
 |mp (i:Nat)
 /-- a function value that captures WS to aE -/
 |fn (g:Fn) (lV:List Nat)
 /-- a slice of n elements that is box i whole, on its way into an append -/
 |TU (i n:Nat)
def fW(own:List Bx)(i:Nat):Nat:=match own[i]? with|some x=>x.b|none=>0
def SV.val(own:List Bx):SV->Value
 | .v x=>x
 | .p q d=> .bool (@decide q d)
 | .tt=> .bool true
 | .ff=> .bool false
 | .loc i off=> .pointer (some ⟨fW own i,off,none⟩)
 | .qK i off=> .pointer (some ⟨fW own i,off,none⟩)
 | .mp i=> .map (some (fW own i))
 | .TU i n=> .slice (some ⟨fW own i,0,none⟩) n n
 | .fn g lV=> .func g #[] (lV.map fun i=>Value.pointer (some ⟨fW own i,0,none⟩)).toArray

abbrev LB:=List Bx
abbrev LL:=List (List Value)
abbrev LV:=List Value
abbrev AV:=Array Value
structure St where
 env:List (Nat×SV)
 own:List Bx
 H:Heap
def look(s:Nat):List (Nat×SV)->Option SV
 | []=>none
 |(t,v)::r=>if t=s then some v else look s r
def Ay:Value->SV
 | .bool true=> .tt
 | .bool false=> .ff
 |x=> .v x
def St.get(st:St):Operand->Option SV
 | .tmp t=>look t st.env
 | .const x=>some (Ay x)
 | .func f=>some (.v (.func (.func f) #[] #[]))
 | .global g=>some (.v (.pointer (some ⟨g,0,none⟩)))
def St.put(st:St)(d:Option Tmp)(v:SV):St:=
 match d with
 |some t=> { st with env:=(t,v)::st.env }
 |none=>st

inductive LK where
 |int (k:IntKind)
 |bool
 |str
 |slice
 /-- an R6 value: nil, or some one -/
 |iface
 |any
inductive K1 where
 |one (k:LK)
 |agg (ks:List LK)
 |arr (n:Nat)
 /-- a row of cells of whatever length -/
 |R7
inductive K2 where
 |k1 (k:K1)
 |tup (ks:List K1)
def LK.ex:LK->(Value->Prop)->Prop
 | .int k,f=>∃n:Int,f (.int k n)
 | .bool,f=>∃b:Bool,f (.bool b)
 | .str,f=>∃s:ByteArray,f (.string s)
 | .slice,f=>∃(a:Option Addr)(n c:Nat),f (.slice a n c)
 | .iface,f=>f .nilIface∨ ∃(t:TypeId)(p:Value),f (.iface t p)
 | .any,f=>∃v:Value,f v
def LK.al:LK->(Value->Prop)->Prop
 | .int k,f=>∀n:Int,f (.int k n)
 | .bool,f=>∀b:Bool,f (.bool b)
 | .str,f=>∀s:ByteArray,f (.string s)
 | .slice,f=>∀(a:Option Addr)(n c:Nat),f (.slice a n c)
 | .iface,f=>f .nilIface/\∀(t:TypeId)(p:Value),f (.iface t p)
 | .any,f=>∀v:Value,f v
def LK.R8:List LK->(List Value->Prop)->Prop
 | [],f=>f []
 |k::ks,f=>k.ex fun v=>LK.R8 ks fun vs=>f (v::vs)
def LK.Lz:List LK->(List Value->Prop)->Prop
 | [],f=>f []
 |k::ks,f=>k.al fun v=>LK.Lz ks fun vs=>f (v::vs)
def K1.ex:K1->(Value->Prop)->Prop
 | .one k,f=>k.ex f
 | .agg ks,f=>LK.R8 ks fun vs=>f (.agg vs.toArray)
 | .arr n,f=>∃cs:List Value,cs.length=n/\f (.agg cs.toArray)
 | .R7,f=>∃cs:List Value,f (.agg cs.toArray)
def K1.al:K1->(Value->Prop)->Prop
 | .one k,f=>k.al f
 | .agg ks,f=>LK.Lz ks fun vs=>f (.agg vs.toArray)
 | .arr n,f=>∀cs:List Value,cs.length=n->f (.agg cs.toArray)
 | .R7,f=>∀cs:List Value,f (.agg cs.toArray)
def K1.R8:List K1->(List Value->Prop)->Prop
 | [],f=>f []
 |k::ks,f=>k.ex fun v=>K1.R8 ks fun vs=>f (v::vs)
def K1.Lz:List K1->(List Value->Prop)->Prop
 | [],f=>f []
 |k::ks,f=>k.al fun v=>K1.Lz ks fun vs=>f (v::vs)
def K2.ex:K2->(Value->Prop)->Prop
 | .k1 k,f=>k.ex f
 | .tup ks,f=>K1.R8 ks fun vs=>f (.tuple vs.toArray)
def LK.fit:LK->Value->Bool
 | .int k,.int j _=>k==j
 | .bool,.bool _=>true
 | .str,.string _=>true
 | .slice,.slice _ _ _=>true
 | .iface,.nilIface=>true
 | .iface,.iface _ _=>true
 | .any,_=>true
 |_,_=>false
def LK.fits:List LK->List Value->Bool
 | [],[]=>true
 |k::ks,v::vs=>k.fit v&&LK.fits ks vs
 |_,_=>false
def sQ:List K1->List Value->Prop->Prop
 | [],[],f=>f
 |k::ks,v::vs,f=>
  (match k,v with
   | .one lk,v=>if lk.fit v=true then sQ ks vs f else False
   | .agg lks,.agg cs=>if LK.fits lks cs.toList=true then sQ ks vs f else False
   | .arr n,.agg cs=>cs.toList.length=n/\sQ ks vs f
   | .R7,.agg _=>sQ ks vs f
   |_,_=>False)
 |_,_,_=>False
section
variable (P : Program)
def Fz(t:TypeId):LK:=
 match P.underlying t with
 |some (.int k)=> .int k
 |some .bool=> .bool
 |some .string=> .str
 |some (.slice _)=> .slice
 |some (.interface _)=> .iface
 |_=> .any
def leaves:Nat->TypeId->List LK
 |0,_=>[]
 |n+1,t=>
  match P.underlying t with
  |some (.struct fs)=>fs.toList.flatMap fun f=>leaves n f.type
  |some (.array m e)=>(zk m (leaves n e)).flatten
  |_=>[Fz P t]
def ju(t:TypeId):K1:=
 match P.underlying t with
 |some (.struct _)=>if(leaves P 9 t).length=P.cellsOf t then .agg (leaves P 9 t) else .arr (P.cellsOf t)
 |some (.array _ _)=> .arr (P.cellsOf t)
 |_=> .one (Fz P t)
def QB(t:TypeId):K2:=
 match P.underlying t with
 |some (.tuple ts)=> .tup (ts.toList.map (ju P))
 |_=> .k1 (ju P t)
end

def Ip(op:BinOp)(k:IntKind)(a b:Int)(f:SV->Prop):Prop:=
 match op with
 | .add=>∀r,r=k.wrap (a+b)->f (.v (.int k r))
 | .sub=>∀r,r=k.wrap (a-b)->f (.v (.int k r))
 | .mul=>∀r,r=k.wrap (a*b)->f (.v (.int k r))
 | .rem=>b≠0/\f (.v (.int k (a.tmod b)))
 | .quo=>b≠0/\∀r,r=k.wrap (a.tdiv b)->f (.v (.int k r))
 | .eql=>f (.p (a=b) inferInstance)
 | .neq=>f (.p (¬a=b) inferInstance)
 | .lss=>f (.p (a<b) inferInstance)
 | .leq=>f (.p (a<=b) inferInstance)
 | .gtr=>f (.p (b<a) inferInstance)
 | .geq=>f (.p (b<=a) inferInstance)
 |_=>False
def WT:BinOp->Bool
 | .eql| .neq| .lss| .leq| .gtr| .geq=>true
 |_=>false

def aV:List Value->Nat->List Value->List Value
 |cs,_,[]=>cs
 |cs,off,v::vs=>aV (cs.set off v) (off+1) vs
def aM:List Value->Bool
 | []=>true
 |v::vs=>v.oneCell'&&aM vs
def gA(f:Nat->Option Value)(o:Nat)(vs:List Value):Nat->Option Value:=
 fun j=>if o<=j/\j<o+vs.length then vs[j-o]? else f j
structure kW(H:Heap)(b o:Nat)(k:KB)(vs:List Value)(H':Heap):Prop where
 here:H' b=some { k with cells:=gA k.cells o vs }
 there:∀x,x≠b->H' x=H x
def bg(aa:Nat)(H:Heap)(e:TypeId)(size:Nat)(a:Option Addr)(n c:Nat)(xs:List Value):Prop:=
 xs.length=n*size/\n<=c/\c<=maxLen/\
 ((n=0/\c=0)∨ ∃g k,a=some ⟨g,0,none⟩/\aa<=g/\H g=some k/\k.ty=e/\k.size=c*size/\k.free=true/\∀j v,xs[j]?=some v->k.cells j=some v)
structure cu(aa:Nat)(H H':Heap)(a:Option Addr)(c:Nat)(a':Option Addr)(c' nn:Nat):Prop where
 cR:∀x k,H x=some k->(c=0∨a≠some ⟨x,0,none⟩)->H' x=some k
 fresh:∀x k,H' x=some k->H x=none->aa<=x
 place:c'≠0->∀g,a'=some ⟨g,0,none⟩->H g=none∨(a'=a/\c≠0)
 room:nn<=c->a'=a/\c'=c
def kq:Value->Value->Option Bool
 | .int j a,.int k b=>if j=k then some (decide (a=b)) else none
 | .bool a,.bool b=>some (a==b)
 | .string a,.string b=>some (a==b)
 |_,_=>none
def ii(z:Value)(key:Value):List Value->Option (Value×Bool)
 |k::v::r=>(match kq key k with
  |some true=>some (v,true)
  |some false=>ii z key r
  |none=>none)
 |_=>some (z,false)
def bI(key val:Value):List Value->Option (List Value)
 |k::v::r=>(match kq key k with
  |some true=>some (key::val::r)
  |some false=>(bI key val r).map fun r'=>k::v::r'
  |none=>none)
 |_=>some [key,val]
open Go

abbrev jV:=(aa:Nat)->(H0:Heap)->FuncId->List SV->List Bx->Heap->(SV->List Bx->Heap->Prop)->Option Prop
structure xT where
 list:List FuncId
 inl:jV
 join:Bool
structure qG where
 P:Program
 nt:Nat
 fE:xT
 aa:Nat
 H0:Heap

def aR(P:Program)(m:Sem Value)(r:Value):Prop:=∀w,m.run P w= .ok r w
def aI(op:BinOp)(ty:TypeId)(x y:Operand)(a b:Value):Sem Value:=do eqGuard op ty x y a b;binOp op ty a b
def Iq(cs:List Value)(off:Nat):Nat->List Value->Prop
 |_,[]=>True
 |i,v::vs=>cs[off+i]?=some v/\Iq cs off (i+1) vs
def tb(place:Nat->Option (Nat×Nat)):List Value->List (Nat×Value)->Option (List Value)
 |cells,[]=>some cells
 |cells,(i,v)::rest=>
  match place i with
  |none=>none
  |some (off,size)=>
   if v.cells.toList.length=size/\off+size<=cells.length then tb place (aV cells off v.cells.toList) rest else none
def ep(P:Program)(t:TypeId):Option (List Value):=((P.info? t).bind (·.zero)).map fun z=>z.cells.toList

section
variable (C : qG)

def typed(t:TypeId)(f:Prop):Prop:=match C.P.underlying t with|some _=>f|none=>False
def sized(t:TypeId)(f:Prop):Prop:=match C.P.info? t with|some _=>f|none=>False
def Nv(t:TypeId)(cs:List Value)(off:Nat)(f:SV->Prop):Prop:=
 typed C t<|match ju C.P t with
 | .one _=>match cs[off]? with|some v=>f (.v v)|none=>False
 |_=>f (.v (.agg ((cs.drop off).take (C.P.cellsOf t)).toArray))

def TV(op:BinOp)(ty Fc:TypeId)(xo yo:Operand)(own:List Bx)(sx sy:SV)(f:SV->Prop):Prop:=
 match sx,sy with
 | .v (.int k a),.v (.int k' b)=>if k=k' then Ip op k a b f else False
 |_,_=>
  match WT op with
  |true=>∃b:Bool,aR C.P (aI op ty xo yo (sx.val own) (sy.val own)) (.bool b)/\f (.p (b=true) inferInstance)
  |false=>(ju C.P Fc).ex fun r=>aR C.P (aI op ty xo yo (sx.val own) (sy.val own)) r/\f (.v r)

def TW(f:SV->Prop):SV->Prop
 | .tt=>f .ff
 | .ff=>f .tt
 | .p q d=>f (.p (¬q) (@instDecidableNot q d))
 | .v (.bool b)=>f (.p (b=false) inferInstance)
 |_=>False

def Nw(f:SV->Prop)(x y:Option SV):SV->Prop
 | .tt=>(match x with|some s=>f s|none=>False)
 | .ff=>(match y with|some s=>f s|none=>False)
 | .p q _=>(match x,y with|some s,some t=>(q->f s)/\(¬q->f t)|_,_=>False)
 | .v (.bool b)=>(match x,y with|some s,some t=>(b=true->f s)/\(b=false->f t)|_,_=>False)
 |_=>False

def FA(ty:TypeId)(st:St)(f:SV->Prop):SV->Prop
 | .loc i off=>
  match st.own[i]? with
  |some ⟨_,false,_,cs⟩=>
   typed C ty (match ju C.P ty with
    | .one _=>(match cs[off]? with|some v=>f (.v v)|none=>False)
    | .arr _=>(match off with
     |0=>cs.length=C.P.cellsOf ty/\f (.v (.agg cs.toArray))
     |_=>if((cs.drop off).take (C.P.cellsOf ty)).length=C.P.cellsOf ty then f (.v (.agg ((cs.drop off).take (C.P.cellsOf ty)).toArray)) else False)
    |_=>if((cs.drop off).take (C.P.cellsOf ty)).length=C.P.cellsOf ty then f (.v (.agg ((cs.drop off).take (C.P.cellsOf ty)).toArray)) else False)
  |_=>False
 | .qK i off=>
  match st.own[i]? with
  |some ⟨_,false,_,cs⟩=>typed C ty (match ju C.P ty with
   | .one k=>k.ex fun v=>cs[off]?=some v/\f (.v v)
   |k=>k.ex fun v=>Iq cs off 0 v.cells.toList/\f (.v v))
  |_=>False
 | .v (.pointer (some ⟨b,o,none⟩))=>typed C ty (match ju C.P ty with
   | .one k=>k.ex fun v=>st.H.cell b o=some v/\f (.v v)
   |k=>k.ex fun v=>ba st.H b o 0 v.cells.toList/\f (.v v))
 |_=>False

def tS(s:TypeId)(Fe:Nat)(f:SV->Prop)(x:SV):Prop:=
 match C.P.underlying s with
 |some (.struct fs)=>
  (match fs[Fe]? with
   |some fd=>
    if C.P.cellsOf fd.type=0 then False else
    (match x with
    | .loc i off=>f (.loc i (off+fd.offset))
    | .qK i off=>f (.qK i (off+fd.offset))
    | .v (.pointer (some ⟨b,o,none⟩))=>f (.v (.pointer (some ⟨b,o+fd.offset,none⟩)))
    |_=>False)
   |none=>False)
 |_=>False

def numeral:Operand->Option Nat
 | .const (.int _ (.ofNat m))=>some m
 |_=>none

def tT(t:TypeId)(ixo:Operand)(f:SV->Prop)(x ix:SV):Prop:=
 match C.P.underlying t with
 |some (.slice e)=>sized C e
  (match x,ix with
   | .v (.slice a n _),.v (.int _ i)=>∃(b o:Nat),a=some ⟨b,o,none⟩/\0<=i/\i<n/\f (.v (.pointer (some ⟨b,o+i.toNat*C.P.cellsOf e,none⟩)))
   |_,_=>False)
 |some (.array n e)=>sized C e
  (match numeral ixo with
   |some m=>
    if m<n then
     (match x with
     | .loc j off=>f (.qK j (off+m*C.P.cellsOf e))
     | .qK j off=>f (.qK j (off+m*C.P.cellsOf e))
     | .v (.pointer (some ⟨b,o,none⟩))=>f (.v (.pointer (some ⟨b,o+m*C.P.cellsOf e,none⟩)))
     |_=>False)
    else False
   |none=>
    (match x,ix with
    | .loc j off,.v (.int _ i)=>0<=i/\i<n/\f (.qK j (off+i.toNat*C.P.cellsOf e))
    | .qK j off,.v (.int _ i)=>0<=i/\i<n/\f (.qK j (off+i.toNat*C.P.cellsOf e))
    | .v (.pointer (some ⟨b,o,none⟩)),.v (.int _ i)=>0<=i/\i<n/\f (.v (.pointer (some ⟨b,o+i.toNat*C.P.cellsOf e,none⟩)))
    |_,_=>False))
 |_=>False

def Ir(t Fc:TypeId)(f:SV->Prop)(x ix:SV):Prop:=
 match C.P.underlying t,x,ix with
 |some (.array n e),.v (.agg cs),.v (.int _ i)=>typed C e
  (match ju C.P e with
   | .one k=>0<=i/\i<n/\k.ex fun r=>cs.toList[i.toNat*C.P.cellsOf e]?=some r/\f (.v r)
   |_=>False)
 |some .string,.v (.string s),.v (.int k i)=>(ju C.P Fc).ex fun r=>aR C.P (Instr.index t (.string s) (.int k i)) r/\f (.v r)
 |_,_,_=>False

def Is(t:TypeId)(Fe:Nat)(f:SV->Prop)(x:SV):Prop:=
 match C.P.underlying t,x with
 |some (.struct fs),.v (.agg cs)=>(match fs[Fe]? with|some fd=>Nv C fd.type cs.toList fd.offset f|none=>False)
 |_,_=>False

def vV(st:St):List (Nat×Operand)->Option (List (Nat×Value))
 | []=>some []
 |(i,x)::r=>match st.get x,vV st r with
  |some s,some l=>some ((i,s.val st.own)::l)
  |_,_=>none
def wO(st:St):List Operand->Option (List SV)
 | []=>some []
 |x::r=>match st.get x,wO st r with
  |some s,some l=>some (s::l)
  |_,_=>none

def placesOf(P:Program):List Field->Option (List (Nat×Nat))
 | []=>some []
 |fd::r=>match P.info? fd.type,placesOf P r with
  |some i,some l=>some ((fd.offset,i.size)::l)
  |_,_=>none
def It(t:TypeId)(parts:List (Nat×Operand))(st:St)(f:SV->Prop):Prop:=
 match ep C.P t,vV st parts with
 |some z,some vs=>
  (match C.P.underlying t with
   |some (.struct fs)=>
    (match(placesOf C.P fs.toList).bind fun places=>tb (fun i=>places[i]?) z vs with
    |some cells=>f (.v (.agg cells.toArray))
    |none=>False)
   |some (.array _ e)=>
    (match(C.P.info? e).bind fun ie=>tb (fun i=>some (i*ie.size,ie.size)) z vs with
    |some cells=>f (.v (.agg cells.toArray))
    |none=>False)
   |_=>False)
 |_,_=>False

def Iu(t:TypeId)(st:St)(x:Operand)(lo hi mx:Option Operand)(f:SV->Prop):Prop:=
 match C.P.underlying t,st.get x,mx with
 |some (.slice e),some (.v (.slice a n c)),none=>sized C e
  (match lo,hi with
   |none,none=>f (.v (.slice a n c))
   |none,some ho=>(match st.get ho with
    |some (.v (.int _ h))=>0<=h/\h<=c/\f (.v (.slice a h.toNat c))
    |_=>False)
   |some l,none=>(match st.get l with
    |some (.v (.int _ l))=>0<=l/\l<=n/\n<=c/\∀a',(l<c->a'=a.map fun ad=>ad.add (l.toNat*C.P.cellsOf e))->f (.v (.slice a' (n-l.toNat) (c-l.toNat)))
    |_=>False)
   |some l,some ho=>(match st.get l,st.get ho with
    |some (.v (.int _ l)),some (.v (.int _ h))=>0<=l/\l<=h/\h<=c/\∀a',(l<c->a'=a.map fun ad=>ad.add (l.toNat*C.P.cellsOf e))->f (.v (.slice a' (h.toNat-l.toNat) (c-l.toNat)))
    |_,_=>False))
 |some (.slice e),some (.v (.slice a n c)),some mo=>sized C e
  (match lo,hi with
   |none,some ho=>(match numeral ho,numeral mo with
    |some 0,some 0=>f (.v (.slice a 0 0))
    |_,_=>False)
   |some l,some ho=>(match st.get l,st.get ho,st.get mo with
    |some (.v (.int _ l)),some (.v (.int _ h)),some (.v (.int _ m))=>0<=l/\l<=h/\h<=m/\m<=c/\∀a',(l<m->a'=a.map fun ad=>ad.add (l.toNat*C.P.cellsOf e))->f (.v (.slice a' (h.toNat-l.toNat) (m.toNat-l.toNat)))
    |_,_,_=>False)
   |_,_=>False)
 |some .string,some (.v (.string s)),none=>
  (match lo,hi with
   |none,none=>f (.v (.string (s.extract 0 s.size)))
   |none,some ho=>(match st.get ho with
    |some (.v (.int _ h))=>0<=h/\h<=s.size/\f (.v (.string (s.extract 0 h.toNat)))
    |_=>False)
   |some l,none=>(match st.get l with
    |some (.v (.int _ l))=>0<=l/\l<=s.size/\f (.v (.string (s.extract l.toNat s.size)))
    |_=>False)
   |some l,some ho=>(match st.get l,st.get ho with
    |some (.v (.int _ l)),some (.v (.int _ h))=>0<=l/\l<=h/\h<=s.size/\f (.v (.string (s.extract l.toNat h.toNat)))
    |_,_=>False))
 |_,_,_=>False

def Az(st:St):List Operand->Option (List Nat)
 | []=>some []
 |x::r=>match st.get x,Az st r with
  |some (.loc i 0),some l=>some (i::l)
  |_,_=>none
def uH(st:St):List Operand->Option (List Value)
 | []=>some []
 |x::r=>match st.get x,uH st r with
  |some (.v v),some l=>some (v::l)
  |_,_=>none
def vW(fn:Fn)(first lV:List Operand)(st:St)(f:SV->Prop):Prop:=
 match first,Az st lV with
 | [],some l=>f (.fn fn l)
 | [],none=>(match uH st lV with|some vs=>f (.v (.func fn #[] vs.toArray))|none=>False)
 |_,_=>False

def TX(t:TypeId)(st:St)(f:SV->Prop):SV->Prop
 | .v (.slice _ n _)=>(match C.P.underlying t with|some (.slice _)=>f (.v (.int .i64 n))|_=>False)
 | .v (.string s)=>(match C.P.underlying t with|some .string=>f (.v (.int .i64 s.size))|_=>False)
 | .mp i=>(match C.P.underlying t,st.own[i]? with|some (.map _ _),some ⟨_,true,_,cs⟩=>f (.v (.int .i64 (cs.length/2:Nat)))|_,_=>False)
 |_=>False
def TY(t:TypeId)(f:SV->Prop):SV->Prop
 | .v (.slice _ _ c)=>(match C.P.underlying t with|some (.slice _)=>f (.v (.int .i64 c))|_=>False)
 |_=>False
def rY(kt:TypeId)(key:SV):Bool:=
 match C.P.underlying kt,key with
 |some (.int _),.v (.int _ _)=>true
 |some .bool,.v (.bool _)=>true
 |some .bool,.p _ _=>true
 |some .bool,.tt=>true
 |some .bool,.ff=>true
 |_,_=>false
def DF(t:TypeId)(Kc:Bool)(st:St)(f:SV->Prop)(m key:SV):Prop:=
 match C.P.underlying t,m with
 |some (.map kt e),.mp i=>
  (match rY C kt key,st.own[i]?,(C.P.info? e).bind (·.zero),ju C.P e with
   |true,some ⟨_,true,_,cs⟩,some z,.one lk=>
    (match Kc with
    |false=>lk.ex fun r=>∃b:Bool,ii z (key.val st.own) cs=some (r,b)/\f (.v r)
    |true=>lk.ex fun r=>∃b:Bool,ii z (key.val st.own) cs=some (r,b)/\f (.v (.tuple #[r,.bool b])))
   |true,some ⟨_,true,_,cs⟩,some z,k=>
    (match Kc with
    |false=>k.ex fun r=>∃b:Bool,ii z (key.val st.own) cs=some (r,b)/\f (.v r)
    |true=>False)
   |_,_,_,_=>False)
 |_,_=>False

def qm(l:List UInt8):List Value:=l.map fun b=> .int .u8 b.toNat
def Nx(src dst:TypeId)(st:St)(a:O)(n:Nat)(f:SV->Prop):Prop:=
 match C.P.underlying src,C.P.underlying dst with
 |some (.slice e),some .string=>(match C.P.underlying e with
  |some (.int .u8)=>∃l:List UInt8,l.length=n/\(n=0∨ ∃(b o:Nat),a=some ⟨b,o,none⟩/\ba st.H b o 0 (qm l))/\f (.v (.string ⟨l.toArray⟩))
  |_=>False)
 |_,_=>False

def AA(o:Oper)(st:St):Option ((SV->Prop)->Prop):=
 match o.op with
 | .move x| .assign x=>some fun f=>match st.get x with|some s=>f s|none=>False
 | .pick c a b=>some fun f=>match st.get c with|some s=>Nw f (st.get a) (st.get b) s|none=>False
 | .binOp op ty x y _=>some fun f=>match st.get x,st.get y with|some sx,some sy=>TV C op ty o.type x y st.own sx sy f|_,_=>False
 | .unOp .not _ x=>some fun f=>match st.get x with|some s=>TW f s|none=>False
 | .unOp .neg _ x=>some fun f=>match st.get x with|some (.v (.int k a))=>∀r,r=k.wrap (0-a)->f (.v (.int k r))|_=>False
 | .load t a=>some fun f=>match st.get a with|some s=>FA C t st f s|none=>False
 | .fieldAddr s x Fe=>some fun f=>match st.get x with|some sx=>tS C s Fe f sx|none=>False
 | .indexAddr t x ix=>some fun f=>match st.get x,st.get ix with|some sx,some si=>tT C t ix f sx si|_,_=>False
 | .index t x ix=>some fun f=>match st.get x,st.get ix with|some sx,some si=>Ir C t o.type f sx si|_,_=>False
 | .field t x Fe=>some fun f=>match st.get x with|some sx=>Is C t Fe f sx|none=>False
 | .extract x i=>some fun f=>match st.get x with|some (.v (.tuple vs))=>(match vs.toList[i]? with|some v=>f (.v v)|none=>False)|_=>False
 | .build t parts=>some fun f=>It C t parts.toList st f
 | .slice t x lo hi mx=>some fun f=>Iu C t st x lo hi mx f
 | .makeFunc fn first lV=>some fun f=>vW fn first.toList lV.toList st f
 | .lookup t m k ok=>some fun f=>match st.get m,st.get k with|some sm,some sk=>DF C t ok st f sm sk|_,_=>False
 | .call { callee:= .builtin .len,args:=args,argTypes:=ts } =>some fun f=>match args.toList,ts.toList with
   | [x],[t]=>(match st.get x with|some s=>TX C t st f s|none=>False)
   |_,_=>False
 | .call { callee:= .builtin .cap,args:=args,argTypes:=ts } =>some fun f=>match args.toList,ts.toList with
   | [x],[t]=>(match st.get x with|some s=>TY C t f s|none=>False)
   |_,_=>False
 | .call { callee:= .builtin .min,args:=args,argTypes:=_ } =>some fun f=>match args.toList with
   | [x,y]=>(match st.get x,st.get y with|some (.v (.int k a)),some (.v (.int _ b))=>f (.v (.int k (if b<a then b else a)))|_,_=>False)
   |_=>False
 | .call { callee:= .builtin .max,args:=args,argTypes:=_ } =>some fun f=>match args.toList with
   | [x,y]=>(match st.get x,st.get y with|some (.v (.int k a)),some (.v (.int _ b))=>f (.v (.int k (if b>a then b else a)))|_,_=>False)
   |_=>False
 | .nilCheck x=>some fun f=>match st.get x with
   |some (.loc i off)=>f (.loc i off)
   |some (.qK i off)=>f (.qK i off)
   |some (.v (.pointer (some a)))=>f (.v (.pointer (some a)))
   |_=>False
 | .convert src dst x=>match st.get x with
   |some (.v (.int _ n))=>some fun f=>match C.P.underlying src,C.P.underlying dst with|some _,some (.int k)=>∀r,r=k.wrap n->f (.v (.int k r))|_,_=>False
   |some (.v (.string s))=>match C.P.underlying dst with|some .string=>some fun f=>(match C.P.underlying src with|some .string=>f (.v (.string s))|_=>False)|_=>none
   |some (.v (.slice a n _))=>some fun f=>Nx C src dst st a n f
   |_=>none
 |_=>none
end
open Go

section
variable (C : qG)

def storable(ty:TypeId)(vs:List Value)(f:Prop):Prop:=
 sized C ty<|match ju C.P ty with
 | .arr n=>vs.length=n/\aM vs=true/\f
 |_=>if vs.length=C.P.cellsOf ty/\aM vs=true then f else False

def Iv(ty:TypeId)(st:St)(vs:List Value)(f:List Bx->Heap->Prop):SV->Prop
 | .loc i off=>
  (match st.own[i]? with
   |some ⟨b,false,bt,cs⟩=>
    (match ju C.P ty,off with
    | .arr _,0=>storable C ty vs (cs.length=C.P.cellsOf ty/\f (st.own.set i ⟨b,false,bt,vs⟩) st.H)
    |_,_=>storable C ty vs (if off+C.P.cellsOf ty<=cs.length then f (st.own.set i ⟨b,false,bt,aV cs off vs⟩) st.H else False))
   |_=>False)
 | .qK i off=>
  (match st.own[i]? with
   |some ⟨b,false,bt,cs⟩=>storable C ty vs (off+C.P.cellsOf ty<=cs.length/\f (st.own.set i ⟨b,false,bt,aV cs off vs⟩) st.H)
   |_=>False)
 | .v (.pointer (some ⟨b,o,none⟩))=>storable C ty vs (∃k,st.H b=some k/\k.free=true/\C.aa<=b/\o+C.P.cellsOf ty<=k.size/\∀H',kW st.H b o k vs H'->f st.own H')
 |_=>False

def FB(o:Oper):Option Oper->Bool
 |some ⟨_,.call { callee:= .builtin .append,args:=args,argTypes:=_ },_,_,_,none⟩=>
  (match o.dst,args.toList with
   |some t,[_,.tmp u]=>t==u
   |_,_=>false)
 |_=>false

def qL(t:TypeId)(n:Nat)(parts:List (Nat×Operand))(st:St)(Ny:Bool)(f:SV->List Bx->Heap->Prop):Prop:=
 match C.P.underlying t with
 |some (.slice e)=>
  (match ep C.P e,vV st parts with
   |some z,some vs=>
    if n*C.P.cellsOf e<=16777216/\z.length=C.P.cellsOf e/\0<C.P.cellsOf e then
     (match tb (fun i=>some (i*C.P.cellsOf e,C.P.cellsOf e)) (zk n z).flatten vs with
     |some cells=>
      (match Ny with
       |true=>∀b:Nat,f (.TU st.own.length n) (st.own++[⟨b,false,e,cells⟩]) st.H
       |false=>∀(g:Nat)(H':Heap),Next C.aa st.H H'->st.H g=none->H' g=some (ay e cells)->f (.v (.slice (some ⟨g,0,none⟩) n n)) st.own H')
     |none=>False)
    else False
   |_,_=>False)
 |_=>False

def DG(t:TypeId)(st:St)(f:SV->List Bx->Heap->Prop)(s x:SV):Prop:=
 match C.P.underlying t,s with
 |some (.slice e),.v (.slice a n c)=>
  if 0<C.P.cellsOf e/\(ep C.P e).map zo=some (C.P.cellsOf e) then
   (match x with
    | .TU i m=>
     (match st.own[i]? with
     |some ⟨_,false,_,cells⟩=>
      if cells.length=m*C.P.cellsOf e/\aM cells=true/\0<m then
       ∃xs,bg C.aa st.H e (C.P.cellsOf e) a n c xs/\(n+m)*C.P.bytesOf e<=140737488355328/\n+m<=maxLen/\
        ∀a' c' H',cu C.aa st.H H' a c a' c' (n+m)->bg C.aa H' e (C.P.cellsOf e) a' (n+m) c' (xs++cells)->f (.v (.slice a' (n+m) c')) st.own H'
      else False
     |_=>False)
    | .v (.slice xa m _)=>
     ∃xs cells,bg C.aa st.H e (C.P.cellsOf e) a n c xs/\cells.length=m*C.P.cellsOf e/\aM cells=true/\
      (m=0∨ ∃(b o:Nat),xa=some ⟨b,o,none⟩/\ba st.H b o 0 cells)/\(n+m)*C.P.bytesOf e<=140737488355328/\n+m<=maxLen/\
      ∀a' c' H',cu C.aa st.H H' a c a' c' (n+m)->bg C.aa H' e (C.P.cellsOf e) a' (n+m) c' (xs++cells)->f (.v (.slice a' (n+m) c')) st.own H'
    |_=>False)
  else False
 |_,_=>False

def AB(e:TypeId)(st:St)(f:SV->List Bx->Heap->Prop)(a:O)(n c:Nat)(s:ByteArray):Prop:=
 match(C.P.info? e).bind (·.zero) with
 |some (.int .u8 0)=>if C.P.cellsOf e=1/\C.P.bytesOf e=1 then
   ∃xs,bg C.aa st.H e 1 a n c xs/\n+s.size<=140737488355328/\
    ∀a' c' H',cu C.aa st.H H' a c a' c' (n+s.size)->bg C.aa H' e 1 a' (n+s.size) c' (xs++qm s.data.toList)->f (.v (.slice a' (n+s.size) c')) st.own H'
  else False
 |_=>False
def AD(src dst:TypeId)(st:St)(f:SV->List Bx->Heap->Prop)(s:ByteArray):Prop:=
 match C.P.underlying src,C.P.underlying dst with
 |some _,some (.slice e)=>(match C.P.underlying e with
  |some (.int .u8)=>∀(g c:Nat)(H':Heap),s.size<=c->Next C.aa st.H H'->st.H g=none->ba H' g 0 0 (qm s.data.toList)->f (.v (.slice (some ⟨g,0,none⟩) s.size c)) st.own H'
  |_=>False)
 |_,_=>False
def AE(t u:TypeId)(st:St)(f:SV->List Bx->Heap->Prop)(s x:SV):Prop:=
 match C.P.underlying t,C.P.underlying u,s,x with
 |some (.slice e),some (.int _),.v (.slice a n c),.v (.int _ k)=>
  (match ep C.P e with
   |some z=>if z.length=C.P.cellsOf e/\0<C.P.cellsOf e then
     ∃(xs:List Value)(m:Nat),k=m/\0<m/\c<n+m/\bg C.aa st.H e (C.P.cellsOf e) a n c xs/\(n+m)*C.P.bytesOf e<=140737488355328/\n+m<=maxLen/\
      ∀(g c':Nat)(H':Heap),Next C.aa st.H H'->st.H g=none->bg C.aa H' e (C.P.cellsOf e) (some ⟨g,0,none⟩) (n+m) c' (xs++(zk m z).flatten)->f (.v (.slice (some ⟨g,0,none⟩) (n+m) c')) st.own H'
    else False
   |none=>False)
 |some (.slice e),some .string,.v (.slice a n c),.v (.string x)=>AB C e st f a n c x
 |_,_,_,_=>False
def tU(t:TypeId)(st:St)(f:SV->List Bx->Heap->Prop)(l c:SV):Prop:=
 match C.P.underlying t,l,c with
 |some (.slice e),.v (.int .i64 l),.v (.int .i64 c)=>
  (match ep C.P e with
   |some z=>if z.length=C.P.cellsOf e then
     0<=l/\l<=c/\c.toNat*C.P.bytesOf e<=140737488355328/\c<=9223372036854775807/\
     ∀(g:Nat)(H':Heap),Next C.aa st.H H'->st.H g=none->H' g=some (ay e (zk c.toNat z).flatten)->f (.v (.slice (some ⟨g,0,none⟩) l.toNat c.toNat)) st.own H'
    else False
   |none=>False)
 |_,_,_=>False

def copyV(t:TypeId)(st:St)(f:SV->List Bx->Heap->Prop)(d s:SV):Prop:=
 match C.P.underlying t,d,s with
 |some (.slice e),.v (.slice da dn _),.v (.slice sa sn _)=>sized C e
   ((min sn dn=0->f (.v (.int .i64 0)) st.own st.H)/\(min sn dn≠0->∃(cells:List Value)(b o b' o':Nat)(k:KB),cells.length=min sn dn*C.P.cellsOf e/\aM cells=true/\sa=some ⟨b,o,none⟩/\ba st.H b o 0 cells/\
    da=some ⟨b',o',none⟩/\st.H b'=some k/\k.free=true/\C.aa<=b'/\o'+cells.length<=k.size/\∀H',kW st.H b' o' k cells H'->f (.v (.int .i64 (min sn dn:Nat))) st.own H'))
 |_,_,_=>False
def Iw(t:TypeId)(st:St)(f:SV->List Bx->Heap->Prop)(d:SV):Prop:=
 match C.P.underlying t,d with
 |some (.slice e),.v (.slice da dn _)=>
  (match ep C.P e with
   |some z=>if z.length=C.P.cellsOf e/\aM z=true then
     (dn=0->f (.v (.tuple #[])) st.own st.H)/\(dn≠0->∃(b o:Nat)(k:KB),da=some ⟨b,o,none⟩/\st.H b=some k/\k.free=true/\C.aa<=b/\o+dn*C.P.cellsOf e<=k.size/\
      ∀H',kW st.H b o k (zk dn z).flatten H'->f (.v (.tuple #[])) st.own H')
    else False
   |none=>False)
 |_,_=>False
def ox:List SV->List Nat
 | []=>[]
 | .loc i _::r=>i::ox r
 | .qK i _::r=>i::ox r
 | .fn _ lV::r=>lV++ox r
 | .TU i _::r=>i::ox r
 | .mp i::r=>i::ox r
 |_::r=>ox r
def dedup:List Nat->List Nat
 | []=>[]
 |x::r=>if(dedup r).contains x then dedup r else x::dedup r
def pick(own:List Bx):List Nat->Option (List Bx)
 | []=>some []
 |i::r=>match own[i]?,pick own r with
  |some x,some l=>some (x::l)
  |_,_=>none
def qn(i:Nat):List (Nat×List Value)->Option (List Value)
 | []=>none
 |(j,c)::r=>if j=i then some c else qn i r
def nW(al:List (Nat×List Value)):Nat->List Bx->List Bx
 |_,[]=>[]
 |i,x::r=>(match qn i al with|some c=>x.set c|none=>x)::nW al (i+1) r
def gr(own:List Bx)(is:List Nat)(cs:List (List Value)):List Bx:=nW (is.zip cs) 0 own
def Nz(H:Heap):List Bx->Prop
 | []=>True
 |x::r=>H x.b=some (ay x.ty x.cs)/\Nz H r
def WU(P:Program)(x:Bx):K1:=match x.map with
 |true=> .R7
 |false=>(match ju P x.ty with| .one k=> .agg [k]|k=>k)
def AF(P:Program):List Bx->List K1:=List.map (WU P)
def fP(vs:List Value):List (List Value):=vs.map fun v=>v.cells.toList

def Ix(P:Program)(g:FuncId):Bool:=
 match P.funcs[g]? with
 |some fn=>fn.body.isSome&&fn.name != "runtime.NumGoroutine"
 |none=>false
def pw(P:Program)(H:Heap)(g:FuncId)(args:List Value)(r:Value):Prop:=∀w,fD H w->(callFunc g args.toArray).run P w= .ok (.value r) w
def DH(g:FuncId)(pre:List SV)(st:St)(Fc:TypeId)(f:SV->List Bx->Heap->Prop):Prop:=
 if Ix C.P g=true then
  (match C.fE.inl C.aa C.H0 g pre st.own st.H f with
   |some p=>p
   |none=>
   (match dedup (ox pre) with
   | []=>bS C.P g (pre.map (SV.val st.own)) st.H fun v H'=>(QB C.P Fc).ex fun r=>v=r/\(Next C.aa st.H H'->f (.v r) st.own H')
   |is=>
    (match pick st.own is with
    |some xs=>
     (match C.fE.list.contains g with
      |true=>eZ C.P g (pre.map (SV.val st.own)) xs st.H fun v iy H'=>(QB C.P Fc).ex fun r=>v=r/\
        (K1.R8 (AF C.P xs) fun ws=>iy=fP ws/\(Next C.aa st.H H'->f (.v r) (gr st.own is (fP ws)) H'))
      |false=>xs.all (fun x=> !x.map)=true/\∀Hl,Next 0 st.H Hl->Nz Hl xs->bS C.P g (pre.map (SV.val st.own)) Hl fun v tV=>(QB C.P Fc).ex fun r=>v=r/\
        ∀H',Next C.aa st.H H'->(∀b k,tV b=some k->(∀x∈xs,b≠x.b)->H' b=some k)->f (.v r) st.own H')
    |none=>False)))
 else
  (match dedup (ox pre) with
   | []=>(match Fz C.P Fc with
    | .bool=>pw C.P st.H g (pre.map (SV.val st.own)) (.bool false)/\f .ff st.own st.H
    |_=>(QB C.P Fc).ex fun r=>pw C.P st.H g (pre.map (SV.val st.own)) r/\f (.v r) st.own st.H)
   |_=>False)
def NB(fo:Operand)(args:List Operand)(st:St)(Fc:TypeId)(f:SV->List Bx->Heap->Prop):Prop:=
 match wO st args with
 |some as1=>
  (match st.get fo with
   |some (.v (.func (.func g) first lV))=>DH C g (first.toList.map SV.v++as1++lV.toList.map SV.v) st Fc f
   |some (.fn (.func g) lV)=>DH C g (as1++lV.map fun i=>SV.loc i 0) st Fc f
   |_=>False)
 |none=>False

def NC(o:Oper)(next:Option Oper)(st:St)(f:SV->List Bx->Heap->Prop):Prop:=
 match o.op with
 | .store t a x=>(match st.get a,st.get x with|some sa,some sx=>Iv C t st (sx.val st.own).cells.toList (fun own H=>f (.v undef) own H) sa|_,_=>False)
 | .alloc t=>(match ep C.P t with|some z=>∀b:Nat,f (.loc st.own.length 0) (st.own++[⟨b,false,t,z⟩]) st.H|none=>False)
 | .box t x=>(match st.get x with|some s=>∀b:Nat,f (.loc st.own.length 0) (st.own++[⟨b,false,t,(s.val st.own).cells.toList⟩]) st.H|none=>False)
 | .buildSlice t n parts=>qL C t n parts.toList st (FB o next) f
 | .makeMap t none=>∀b:Nat,f (.mp st.own.length) (st.own++[⟨b,true,t,[]⟩]) st.H
 | .mapUpdate t m k x| .insert t m k x=>
  (match C.P.underlying t,st.get m,st.get k,st.get x with
   |some (.map kt _),some (.mp i),some sk,some sx=>
    (match rY C kt sk,st.own[i]? with
    |true,some ⟨b,true,bt,cs⟩=>∃oI,bI (sk.val st.own) (sx.val st.own) cs=some oI/\f (.v undef) (st.own.set i ⟨b,true,bt,oI⟩) st.H
    |_,_=>False)
   |_,_,_,_=>False)
 | .makeSlice t l c=>(match st.get l,st.get c with|some sl,some sc=>tU C t st f sl sc|_,_=>False)
 | .call { callee:= .builtin .append,args:=args,argTypes:=ts } =>
  (match args.toList,ts.toList with
   | [s,x],[t,u]=>(match st.get s,st.get x with|some ss,some sx=>if t=u then DG C t st f ss sx else AE C t u st f ss sx|_,_=>False)
   |_,_=>False)
 | .call { callee:= .builtin .copy,args:=args,argTypes:=ts } =>
  (match args.toList,ts.toList with
   | [d,x],[t,u]=>(match st.get d,st.get x with|some sd,some sx=>if t=u then copyV C t st f sd sx else False|_,_=>False)
   |_,_=>False)
 | .call { callee:= .builtin .clear,args:=args,argTypes:=ts } =>
  (match args.toList,ts.toList with
   | [d],[t]=>(match st.get d with|some sd=>Iw C t st f sd|_=>False)
   |_,_=>False)
 | .call { callee:= .value fo,args:=args,argTypes:=_ } =>NB C fo args.toList st o.type f
 | .convert src dst x=>(match st.get x with|some (.v (.string s))=>AD C src dst st f s|_=>False)
 |_=>False

def VU(o:Oper)(next:Option Oper)(st:St)(f:SV->List Bx->Heap->Prop):Prop:=
 match AA C o st with
 |some q=>q fun s=>f s st.own st.H
 |none=>NC C o next st f

def nr(want:Bool)(yes no:Prop):Prop:=match want with|true=>yes|false=>no
def AG(ops:Array Oper)(o:Oper)(st:St)(yes no:St->Prop):Prop:=
 match o.guard with
 |none=>yes st
 |some (j,want)=>
  (match(ops[j]?).bind (·.dst) with
   |some t=>
    (match look t st.env with
    |some .tt=>nr want (yes st) (no st)
    |some .ff=>nr want (no st) (yes st)
    |some (.p q _)=>(q->nr want (yes (st.put (some t) .tt)) (no (st.put (some t) .tt)))/\(¬q->nr want (no (st.put (some t) .ff)) (yes (st.put (some t) .ff)))
    |some (.v (.bool b))=>(b=true->nr want (yes (st.put (some t) .tt)) (no (st.put (some t) .tt)))/\(b=false->nr want (no (st.put (some t) .ff)) (yes (st.put (some t) .ff)))
    |some (.v (.tuple _))=>no st
    |_=>False)
   |none=>False)

def opsV(ops:Array Oper):List Oper->St->(St->Prop)->Prop
 | [],st,k=>k st
 |o::rest,st,k=>AG ops o st
   (fun st=>VU C o rest.head? st fun s own H=>opsV ops rest (St.put ⟨st.env,own,H⟩ o.dst s) k)
   (fun st=>opsV ops rest (st.put o.dst (.v undef)) k)

def worldless(o:Oper):Bool:=
 match o.op with
 | .call { callee:= .builtin .len,args:=_,argTypes:=ts } =>(match ts.toList with| [t]=>(match C.P.underlying t with|some (.map _ _)=>false|_=>true)|_=>false)
 | .move _| .assign _| .pick .. | .binOp .. | .unOp .not .. | .unOp .neg .. | .fieldAddr .. | .indexAddr .. | .index .. | .field .. | .extract .. | .build .. | .slice .. | .makeFunc .. | .nilCheck _=>true
 | .call { callee:= .builtin .cap, .. } | .call { callee:= .builtin .min, .. } | .call { callee:= .builtin .max, .. } =>true
 |_=>false
def qM(o:Oper):Bool:=match o.op with| .load .. =>true|_=>false
def waits(ops:Array Oper):Nat->Nat->Nat->Bool
 |0,j,i=>(match ops[j]? with|some o=>o.after.any (fun e=>Region.binds .any e&&e.on==i)|none=>false)
 |n+1,j,i=>(match ops[j]? with|some o=>o.after.any (fun e=>Region.binds .any e&&e.on==i)||o.after.any (fun e=>Region.binds .any e&&waits ops n e.on i)|none=>false)
def turns(o:Oper):Bool:=
 match o.op with
 | .store .. | .mapUpdate .. | .insert .. | .entryStore .. | .mapEntry .. =>true
 | .call { callee:= .builtin b, .. } =>(match b with| .len| .cap| .min| .max=>false|_=>true)
 | .call { callee:= .value (.func g), .. } =>C.fE.list.contains g
 | .call _=>true
 |_=>false
def qN(ops:Array Oper)(listed:Array Bool)(t k:Nat):Bool:=
 (yi ops.size).all fun j=>listed.getD j true||j==k||(match ops[j]? with|some x=>x.dst !=some t|none=>true)
def rZ(ops:Array Oper)(listed:Array Bool)(st:St)(t k:Nat):Option Value:=
 match ops[k]? with
 |some lo=>
  (match lo.op with
   | .load ty (.tmp x)=>
    (match !listed.getD k true&&lo.dst==some t&&lo.guard.isNone&&qN ops listed t k&&qN ops listed x ops.size with
    |true=>
     (match ju C.P ty,C.P.underlying ty,look x st.env with
      | .one _,some _,some (.loc i off)=>(match st.own[i]? with
       |some ⟨_,false,_,cs⟩=>cs[off]?
       |_=>none)
      |_,_,_=>none)
    |false=>none)
   |_=>none)
 |none=>none
def FC(ops:Array Oper)(listed:Array Bool)(st:St)(o:Oper)(t:Nat):Bool:=
 o.after.any fun e=>Region.binds .any e&&(match rZ C ops listed st t e.on with
  |some (.func (.func g) _ _)=> !C.fE.list.contains g
  |_=>false)
def qO(ops:Array Oper)(listed:Array Bool)(st:St)(o:Oper):Bool:=
 match C.fE.list.contains 1000000 with
 |false=>turns C o
 |true=>
  match o.op with
  | .call { callee:= .value (.tmp t), .. } =>
   (match(yi ops.size).all (fun j=>listed.getD j true||(match ops[j]? with|some x=>x.dst !=some t|none=>true)) with
    |true=>(match look t st.env with
     |some (.v (.func (.func g) _ _))=>C.fE.list.contains g
     |some (.fn (.func g) _)=>C.fE.list.contains g
     |_=>true)
    |false=>(match C.fE.list.contains 1000002 with
     |true=> !FC C ops listed st o t
     |false=>true))
  | .insert .. =>false
  |_=>turns C o
def Kd(T:Oper->Bool)(ops:Array Oper)(listed:Array Bool)(i:Nat):Bool:=
 match ops[i]? with
 |some o=>Region.free .any ops listed i&&
  (worldless C o||(qM o&&((yi ops.size).all fun j=>listed.getD j true||(match ops[j]? with|some oj=> !T oj||waits ops 4 j i|none=>true))&&
   ((yi ops.size).all fun k=> !waits ops 4 k i|| !listed.getD k true)))
 |none=>false
def TZ:List Nat->(Nat->Prop)->Prop
 | [],_=>True
 | [i],f=>f i
 |i::r,f=>f i/\TZ r f
def qP(ops:Array Oper):Nat->Array Bool->St->(St->Prop)->Prop
 |0,listed,st,k=>(match Region.ready .any ops listed with| []=>k st|_=>False)
 |n+1,listed,st,k=>
  (match Region.ready .any ops listed with
   | []=>k st
   |rs=>
    let go:=fun i=>(match ops[i]? with
     |some o=>AG ops o st
       (fun st=>VU C o none st fun s own H=>qP ops n (listed.setIfInBounds i true) (St.put ⟨st.env,own,H⟩ o.dst s) k)
       (fun st=>qP ops n (listed.setIfInBounds i true) (st.put o.dst (.v undef)) k)
     |none=>False)
    match rs.find? (Kd C (qO C ops listed st) ops listed) with
    |some i=>go i
    |none=>TZ rs go)

structure Ks where
 n:St->Prop
 x:Nat->St->Prop
 r:St->Prop
def aT:Code->List Oper
 | .region _ ops _=>ops.toList
 | .seq a b=>aT a++aT b
 | .cond _ a b=>aT a++aT b
 | .block _ a=>aT a
 | .loop a=>aT a
 | .scope a=>aT a
 |_=>[]
def writes(ops:List Oper):List Nat:=ops.filterMap fun o=>o.dst
def QC(s:Nat)(env:List (Nat×SV)):Bool:=
 match look s env with
 |some (.v (.tuple _))=>false
 |some _=>true
 |none=>false
def qQ(ops:List Oper)(env:List (Nat×SV)):List Nat:=
 (yi C.nt).filter fun s=>QC s env&&(writes ops).contains s
def gh(ops:List Oper)(env:List (Nat×SV)):List (Nat×SV):=env.filter fun p=> !(writes ops).contains p.1
def wP(ops:List Oper)(s:Nat):K1:=
 match ops.find? fun o=>o.dst==some s with
 |some o=>ju C.P o.type
 |none=> .one .any
def rootOf(ops:List Oper)(env:List (Nat×SV)):Nat->Nat->List Nat
 |0,_=>[]
 |n+1,t=>
  match ops.find? fun o=>o.dst==some t with
  |some o=>
   (match o.op with
    | .fieldAddr _ (.tmp u) _| .indexAddr _ (.tmp u) _| .move (.tmp u)| .assign (.tmp u)| .nilCheck (.tmp u)=>rootOf ops env n u
    |_=>[])
  |none=>(match look t env with|some s=>ox [s]|none=>[])
def px(ops:List Oper)(env:List (Nat×SV)):List Operand->List Nat
 | []=>[]
 | .tmp t::r=>rootOf ops env 9 t++px ops env r
 |_::r=>px ops env r
def AH(ops:List Oper)(env:List (Nat×SV)):List Nat:=
 let l:=ops.flatMap fun o=>match o.op with
  | .store _ a _=>px ops env [a]
  | .mapUpdate _ m _ _=>px ops env [m]
  | .insert _ m _ _=>px ops env [m]
  | .call { callee:= .value (.func g),args:=args,argTypes:=_ } =>if C.fE.list.contains g then px ops env args.toList else []
  | .call { callee:= .value (.tmp t),args:=args,argTypes:=_ } =>px ops env (.tmp t::args.toList)
  |_=>[]
 (yi 40).filter fun i=>(l.contains i||C.fE.list.contains (2000000+i))&& !C.fE.list.contains (3000000+i)
def oL(st:St):List Nat->Option (List Value)
 | []=>some []
 |s::r=>match look s st.env,oL st r with
  |some v,some l=>some (v.val st.own::l)
  |_,_=>none
def pz(own:List Bx):List Nat->Option (List Value)
 | []=>some []
 |i::r=>match own[i]?,pz own r with
  |some x,some l=>some (.agg x.cs.toArray::l)
  |_,_=>none
def lW(dF aE:List Nat)(st:St):Option (List Value):=
 match oL st dF,pz st.own aE with
 |some a,some b=>some (a++b)
 |_,_=>none
def lj:List Nat->List Value->List (Nat×SV)->List (Nat×SV)
 |s::r,v::vs,env=>(s,.v v)::lj r vs env
 |_,_,env=>env
def jJ(aE:List Nat)(own:List Bx)(n:Nat):List (List Value):=
 ((yi n).filter fun i=> !aE.contains i).filterMap fun i=>(own[i]?).map Bx.cs
def oM(VV aU:List (List Value))(f:Prop):Prop:=
 match VV with
 | []=>f
 |_=>aU=VV/\f
def ak(H H':Heap):Prop:=∀b k,H b=some k->H' b=some k
def Ke(φ:Prop):SV->Prop
 | .tt=>φ
 | .ff=>¬φ
 | .p q _=>φ↔q
 | .v (.bool b)=>φ↔b=true
 |_=>False
def bare:SV->Bool
 | .v (.tuple _)=>false
 |_=>true
def ND(ops:List Oper):Option Tmp:=
 match ops.any (fun o=>o.guard.isSome),ops.getLast? with
 |true,some o=>(match C.P.underlying o.type,o.guard with
  |some .bool,none=>o.dst
  |_,_=>none)
 |_,_=>none
def r7(f:Prop):List Bx->List Bx->Prop
 | [],[]=>f
 |a,b=>b=a/\f
def WV(ops:Array Oper)(t:Tmp)(st:St)(k:St->Prop):Prop:=
 ∃φ:Prop,opsV C ops ops.toList st (fun gM=>r7 (ak st.H gM.H/\(match look t gM.env with|some s=>Ke φ s|none=>False)) st.own gM.own)/\
  k ⟨(t,.p φ (zh φ))::gh ops.toList st.env,st.own,st.H⟩
def DI(ops:Array Oper)(st:St)(k:St->Prop):Prop:=
 match C.fE.join with
 |true=>(match ND C ops.toList with|some t=>WV C ops t st k|none=>opsV C ops ops.toList st k)
 |false=>opsV C ops ops.toList st k
def DJ:Code->Code->Option Tmp
 | .seq (.region _ ops false) (.cond (.tmp t) .skip _),.cond (.tmp u) _ _=>(match t==u&&ops.any (fun o=>o.dst==some t) with|true=>some t|false=>none)
 |_,_=>none
def qR:List Oper->List (Nat×TypeId)
 | []=>[]
 |o::r=>match o.op,o.guard,o.dst with
  | .alloc t,none,some d=>(d,t)::qR r
  |_,_,_=>qR r
def oN(n:Nat)(st:St):List (Nat×TypeId)->Option (List Nat)
 | []=>some []
 |(s,t)::r=>match look s st.env,oN n st r with
  |some (.loc i 0),some l=>(match st.own[i]? with
   |some x=>(match !x.map&&Nat.ble n i&&Nat.beq x.ty t&& !l.contains i with
    |true=>some (i::l)
    |false=>none)
   |none=>none)
  |_,_=>none
def uI(P:Program)(ts:List (Nat×TypeId)):List K1:=ts.map fun p=>WU P ⟨0,false,p.2,[]⟩
def pA(xs:List Bx):List Value:=xs.map fun x=> .agg x.cs.toArray
def uJ:List (Nat×TypeId)->List Nat->List (List Value)->List Bx
 |(_,t)::r,b::bs,c::cs=>⟨b,false,t,c⟩::uJ r bs cs
 |_,_,_=>[]
def qS(env:List (Nat×SV)):Nat->List (Nat×TypeId)->List (Nat×SV)
 |_,[]=>env
 |n,(s,_)::r=>(s,.loc n 0)::qS env (n+1) r
def alN:Nat->(List Nat->Prop)->Prop
 |0,f=>f []
 |n+1,f=>∀b:Nat,alN n fun l=>f (b::l)
def AJ(ts:List (Nat×TypeId))(kinds:List K1)(p:List Value->Prop)(st gM:St):Prop:=
 match oN st.own.length gM ts with
 |some is=>(match pick gM.own is with
  |some xs=>r7 (ak st.H gM.H/\sQ kinds (pA xs) (p (pA xs))) st.own (gM.own.take st.own.length)
  |none=>False)
 |none=>False
def QD(ops:Array Oper)(st:St)(k:St->Prop)(ts:List (Nat×TypeId)):Prop:=
 ∃p:List Value->Prop,qP C ops ops.size (yT ops.size false) st (AJ ts (uI C.P ts) p st)/\
  alN ts.length fun bs=>K1.Lz (uI C.P ts) fun vs=>p vs->k ⟨qS (gh ops.toList st.env) st.own.length ts,st.own++uJ ts bs (fP vs),st.H⟩
def AK(dF aE:List Nat)(kinds:List K1)(I:List Value->Heap->Prop)(own:List Bx)(gM:St):Prop:=
 match lW dF aE gM with
 |some oO=>sQ kinds oO (oM (jJ aE own own.length) (jJ aE gM.own own.length) (I oO gM.H))
 |none=>False
def Kf(ops:Array Oper)(st:St)(k:St->Prop)(dF aE:List Nat):Prop:=
 match pick st.own aE with
 |some xs=>∃I:List Value->Heap->Prop,qP C ops ops.size (yT ops.size false) st (AK dF aE (dF.map (wP C ops.toList)++AF C.P xs) I st.own)/\
   K1.Lz (dF.map (wP C ops.toList)++AF C.P xs) fun vs=>∀H',Next C.aa C.H0 H'->I vs H'->k ⟨lj dF (vs.take dF.length) (gh ops.toList st.env),gr st.own aE (fP (vs.drop dF.length)),H'⟩
 |none=>False
def r8:Code->Bool
 | .skip=>true
 | .region .. =>true
 | .exit _=>true
 | .seq a b=>r8 a&&r8 b
 | .cond _ a b=>r8 a&&r8 b
 | .block _ a=>r8 a
 |_=>false
def WW(a:Code)(env:List (Nat×SV)):Option Tmp:=
 match a with
 | .block _ x=>(match r8 x,qQ C (aT a) env with
  |true,[t]=>some t
  |_,_=>none)
 |_=>none
def gw:Code->Ks->St->Prop
 | .skip,ks,st=>ks.n st
 | .label _,ks,st=>ks.n st
 | .seq a b,ks,st=>
  (match C.fE.list.contains 1000001 with
   |false=>(match C.fE.list.contains 1000003 with
    |false=>gw a ⟨gw b ks,ks.x,ks.r⟩ st
    |true=>(match WW C a st.env with
     |none=>gw a ⟨gw b ks,ks.x,ks.r⟩ st
     |some t=>∃P:List Value->Prop,gw a ⟨fun gM=>r7 (ak st.H gM.H/\(match look t gM.env with|some s=>sQ [wP C (aT a) t] [s.val gM.own] (P [s.val gM.own])|none=>False)) st.own gM.own,fun _ _=>False,fun _=>False⟩ st/\
       K1.Lz [wP C (aT a) t] fun vs=>P vs->gw b ks ⟨lj [t] vs (gh (aT a) st.env),st.own,st.H⟩))
   |true=>(match DJ a b with
    |none=>gw a ⟨gw b ks,ks.x,ks.r⟩ st
    |some t=>∃φ:Prop,gw a ⟨fun gM=>r7 (ak st.H gM.H/\(match look t gM.env with|some s=>Ke φ s|none=>False)) st.own gM.own,fun _ _=>False,fun _=>False⟩ st/\
      gw b ks ⟨(t,.p φ (zh φ))::gh (aT a) st.env,st.own,st.H⟩))
 | .cond c a b,ks,st=>
  (match st.get c with
   |some .tt=>gw a ks st
   |some .ff=>gw b ks st
   |some (.p q _)=>(q->gw a ks st)/\(¬q->gw b ks st)
   |some (.v (.bool x))=>(x=true->gw a ks st)/\(x=false->gw b ks st)
   |_=>False)
 | .block id a,ks,st=>gw a ⟨ks.n,fun i=>if i=id then ks.n else ks.x i,ks.r⟩ st
 | .scope a,ks,st=>gw a ks st
 | .exit id,ks,st=>ks.x id st
 | .ret,ks,st=>ks.r st
 | .region id ops draw,ks,st=>(match draw with|true=>(match C.fE.list.contains (4000000+id) with|true=>Kf C ops st ks.n (qQ C ops.toList st.env) (AH C ops.toList st.env)|false=>(match C.fE.list.contains 1000003,qR ops.toList with|true,(x::r)=>QD C ops st ks.n (x::r)|_,_=>qP C ops ops.size (yT ops.size false) st ks.n))|false=>DI C ops st ks.n)
 | .loop a,ks,st=>
  let ops:=aT a
  let dF:=qQ C ops st.env
  let aE:=AH C ops st.env
  (match lW dF aE st,pick st.own aE with
   |some Qj,some xs=>
    let kinds:=dF.map (wP C ops)++AF C.P xs
    sQ kinds Qj (match C.fE.list.contains 1000000 with
     |false=>∃(I:List Value->Heap->Prop)(μ:List Value->Nat),I Qj st.H/\K1.Lz kinds fun vs=>∀H',Next C.aa C.H0 H'->I vs H'->
      gw a ⟨fun gM=>(match lW dF aE gM with
        |some oO=>sQ kinds oO (oM (jJ aE st.own st.own.length) (jJ aE gM.own st.own.length) (I oO gM.H/\μ oO<μ vs))
        |none=>False),ks.x,ks.r⟩
       ⟨lj dF (vs.take dF.length) (gh ops st.env),gr st.own aE (fP (vs.drop dF.length)),H'⟩
     |true=>∃(I:Nat->List Value->Heap->Prop)(m:Nat),I m Qj st.H/\∀m,K1.Lz kinds fun vs=>∀H',Next C.aa C.H0 H'->I m vs H'->
      gw a ⟨fun gM=>(match lW dF aE gM with
        |some oO=>sQ kinds oO (oM (jJ aE st.own st.own.length) (jJ aE gM.own st.own.length) (∃m',m'<m/\I m' oO gM.H))
        |none=>False),ks.x,ks.r⟩
       ⟨lj dF (vs.take dF.length) (gh ops st.env),gr st.own aE (fP (vs.drop dF.length)),H'⟩)
   |_,_=>False)
 |_,_,_=>False

def DK(st:St):List ResultVar->(List Value->Prop)->Prop
 | [],f=>f []
 | .tmp t::r,f=>(match look t st.env with|some s=>DK st r fun l=>f (s.val st.own::l)|none=>False)
 | .cell a t::r,f=>
  (match look a st.env with
   |some (.loc i 0)=>
    (match st.own[i]? with
    |some ⟨_,false,_,cs⟩=>
     (match C.P.underlying t,ju C.P t with
      |some _,.one _=>(match cs with| [v]=>DK st r fun l=>f (v::l)|_=>False)
      |some _,.arr _=>cs.length=C.P.cellsOf t/\DK st r fun l=>f (.agg cs.toArray::l)
      |some _,_=>if cs.length=C.P.cellsOf t then DK st r fun l=>f (.agg cs.toArray::l) else False
      |none,_=>False)
    |_=>False)
   |_=>False)
def T0(rs:List ResultVar)(m:Nat)(K:KT)(st:St):Prop:=
 DK C st rs fun vs=>match vs with
  | [v]=>K v ((st.own.take m).map Bx.cs) st.H
  |vs=>K (.tuple vs.toArray) ((st.own.take m).map Bx.cs) st.H
def lM:Nat->List SV->List (Nat×SV)
 |_,[]=>[]
 |i,s::r=>(i,s)::lM (i+1) r
def qC(c:Code)(rs:List ResultVar)(args:List SV)(own:List Bx)(K:KT):Prop:=
 gw C c ⟨T0 C rs own.length K,fun _ _=>False,T0 C rs own.length K⟩ ⟨lM 0 args,own,C.H0⟩
end
def WX:jV:=fun _ _ _ _ _ _ _=>none
def vX(g:FuncId):List (FuncId×Func)->Option Func
 | []=>none
 |(h,fn)::r=>if h=g then some fn else vX g r
def T1(C:qG)(rs:List ResultVar)(f:SV->List Bx->Heap->Prop)(st:St):Prop:=
 DK C st rs fun vs=>match vs with
  | [v]=>f (.v v) st.own st.H
  |vs=>f (.v (.tuple vs.toArray)) st.own st.H
def ld(C:qG)(fn:Func)(pre:List SV)(own:List Bx)(H:Heap)(f:SV->List Bx->Heap->Prop):Prop:=
 gw C (fn.body.getD .skip) ⟨T1 C fn.results.toList f,fun _ _=>False,T1 C fn.results.toList f⟩ ⟨lM 0 pre,own,H⟩
def qT(P:Program)(list:List FuncId)(fs:List (FuncId×Func))(prev:jV):jV:=fun aa H0 g pre own H f=>
 match vX g fs with
 |none=>none
 |some fn=>if pre.length<=fn.ntmps then some (ld ⟨P,fn.ntmps,⟨list,prev,true⟩,aa,H0⟩ fn pre own H f) else none
open Go

def SV.wf(n:Nat):SV->Prop
 | .loc i _=>i<n
 | .qK i _=>i<n
 | .mp i=>i<n
 | .TU i _=>i<n
 | .fn _ lV=>∀i∈lV,i<n
 |_=>True
structure aW(own dQ:List Bx):Prop where
 len:own.length<=dQ.length
 same:∀(i:Nat)(x:Bx),own[i]?=some x->∃x':Bx,dQ[i]?=some x'/\x'.b=x.b/\x'.map=x.map/\x'.ty=x.ty
theorem aW.refl(own:List Bx):aW own own:=⟨ze _,fun _ x h=>⟨x,h,rfl,rfl,rfl⟩⟩
theorem aW.trans{a b c:List Bx}(h:aW a b)(k:aW b c):aW a c:=
 ⟨Nat.le_trans h.len k.len,fun i x hx=>by
  obtain⟨y,hy,e1,e2,e3⟩:=h.same i x hx;obtain⟨z,hz,f1,f2,f3⟩:=k.same i y hy
  exact⟨z,hz,f1.trans e1,f2.trans e2,f3.trans e3⟩⟩
theorem aW.append(own more:List Bx):aW own (own++more):=
 ⟨by simp,fun i x hx=>⟨x,by rw[zU (by have:=zw.1 hx;exact this.1)];exact hx,rfl,rfl,rfl⟩⟩
theorem aW.set{own:List Bx}{x x':Bx}(hx:own[i]?=some x)(hb:x'.b=x.b)(hm:x'.map=x.map)(ht:x'.ty=x.ty):aW own (own.set i x'):=by
 refine⟨by simp,fun j y hy=>?_⟩;by_cases e:i=j
 ·subst e;rw[hx] at hy;obtain rfl:=zy hy;have hl:=(zw.1 hx).1;exact⟨x',by simp[hl],hb,hm,ht⟩
 ·exact⟨y,by rw[yO e];exact hy,rfl,rfl,rfl⟩
theorem oP{own dQ:List Bx}(h:aW own dQ)(hi:i<own.length):fW dQ i=fW own i:=by
 have hx:own[i]?=some own[i]:=by simp
 obtain⟨y,hy,e,_,_⟩:=h.same i _ hx;simp[fW,hy,e,hi]
theorem SV.y7{own dQ:List Bx}(h:aW own dQ){s:SV}(hs:s.wf own.length):s.val dQ=s.val own:=by
 cases s with
 |loc i off=>simp only[SV.val,oP h hs]
 |qK i off=>simp only[SV.val,oP h hs]
 |mp i=>simp only[SV.val,oP h hs]
 |TU i n=>simp only[SV.val,oP h hs]
 |fn g lV=>
  simp only[SV.val]
  congr 2
  exact List.map_congr_left fun i hi=>by rw[oP h (hs i hi)]
 |_=>rfl
theorem SV.y8(h:n<=m){s:SV}(hs:s.wf n):s.wf m:=by
 cases s with
 |fn g lV=>exact fun i hi=>yg (hs i hi) h
 |loc i off=>exact yg hs h
 |qK i off=>exact yg hs h
 |mp i=>exact yg hs h
 |TU i n=>exact yg hs h
 |_=>trivial

structure dy(nt:Nat)(env:List (Nat×SV))(own:List Bx)(a:Act):Prop where
 size:a.tmps.size=nt
 defers:a.defers=[]
 ck:∀s sv,look s env=some sv->s<nt/\a.tmps.getD s undef=sv.val own/\sv.wf own.length
theorem dy.ext{env:List (Nat×SV)}{own dQ:List Bx}{a:Act}(h:dy nt env own a)(e:aW own dQ):dy nt env dQ a:=
 ⟨h.size,h.defers,fun s sv hs=>by
  obtain⟨h1,h2,h3⟩:=h.ck s sv hs
  exact⟨h1,by rw[SV.y7 e h3];exact h2,SV.y8 e.len h3⟩⟩
theorem dy.put{env:List (Nat×SV)}{own:List Bx}{a:Act}(h:dy nt env own a){t:Nat}(ht:t<nt){sv:SV}(hw:sv.wf own.length):
  dy nt ((t,sv)::env) own (a.put (some t) (sv.val own)):=by
 refine⟨by simp[Act.put,h.size],h.defers,fun s sv' hs=>?_⟩;simp only[look] at hs;split at hs
 ·rename_i e;subst e;obtain rfl:=zy hs;refine⟨ht,?_,hw⟩;simp[Act.put,h.size,ht]
 ·rename_i e;obtain⟨h1,h2,h3⟩:=h.ck s sv' hs;refine⟨h1,?_,h3⟩;simp only[Act.put,Array.getD_eq_getD_getElem?] at*;rw[yX e];exact h2
theorem dy.y9{env:List (Nat×SV)}{own:List Bx}{a:Act}(h:dy nt env own a){t:Nat}{s s':SV}(hs:look t env=some s)(hv:s'.val own=s.val own)(hw:s'.wf own.length):
  dy nt ((t,s')::env) own a:=by
 refine⟨h.size,h.defers,fun u sv hu=>?_⟩;simp only[look] at hu;split at hu
 ·rename_i e;subst e;obtain rfl:=zy hu;obtain⟨h1,h2,_⟩:=h.ck _ _ hs;exact⟨h1,h2.trans hv.symm,hw⟩
 ·exact h.ck u sv hu
theorem jW{p:Nat->Bool}{env:List (Nat×SV)}{s:Nat}{sv:SV}(h:look s (env.filter fun x=>p x.1)=some sv):look s env=some sv/\p s=true:=by
 induction env with
 |nil=>simp[look] at h
 |cons x r ih=>
  obtain⟨t,v⟩:=x;by_cases hp:p t=true
  ·rw[List.filter_cons_of_pos (by simpa using hp)] at h;simp only[look] at h⊢;split at h
   ·rename_i e;subst e;exact⟨by simpa using h,hp⟩
   ·rename_i e;rw[nI e];exact ih h
  ·rw[List.filter_cons_of_neg (by simpa using hp)] at h;obtain⟨h1,h2⟩:=ih h;refine⟨?_,h2⟩;simp only[look];rw[nI (fun e=>hp (by rw[e];exact h2))];exact h1

theorem bL.refl(own:List Nat)(w:World):bL own w w:=⟨rfl,rfl,rfl,ze _,fun _ _ _=>rfl⟩
theorem bL.trans{own:List Nat}{b c:World}(h:bL own a b)(k:bL own b c):bL own a c:=
 ⟨k.os.trans h.os,k.tape.trans h.tape,k.output.trans h.output,Nat.le_trans h.size k.size,fun i hi hn=>(k.block i (yg hi h.size) hn).trans (h.block i hi hn)⟩
theorem bL.mono{own dQ:List Nat}{b:World}(h:bL own a b)(hs:∀k∈own,k∈dQ):bL dQ a b:=
 ⟨h.os,h.tape,h.output,h.size,fun k hk hn=>h.block k hk fun hm=>hn (hs k hm)⟩
theorem bL.drew(own:List Nat)(w:World):bL own w { w with drawn:=w.drawn+1 } :=⟨rfl,rfl,rfl,ze _,fun _ _ _=>rfl⟩
theorem bL.alloc(own:List Nat)(w:World)(o:Obj):bL own w (w.alloc o):=
 ⟨rfl,rfl,rfl,by simp,fun k hk _=>by show(w.heap.push o)[k]?=_;rw[Array.getElem?_push,nI (by omega)]⟩
theorem fD.of_same{H:Heap}(h:fD H w)(hb:∀b k,H b=some k->w'.heap[b]?=w.heap[b]?):fD H w':=
 fun b k hk=>by rw[hb b k hk];exact h b k hk
theorem KB.QE{k:KB}(h:k.dI w.heap[b]?):b<w.heap.size:=by
 obtain⟨cur,fr,e,_⟩:=h;exact(zK.1 e).1
theorem fD.lt{H:Heap}(h:fD H w){k:KB}(hk:H b=some k):b<w.heap.size:=KB.QE (h b k hk)
theorem fD.below{H:Heap}(h:fD H w)(hb:bL [] w w'):fD H w':=
 h.of_same fun b _ hk=>hb.block b (h.lt hk) (by simp)
structure qU(w w':World):Prop where
 cells:∀(k:Nat) c t f,w.heap[k]?=some (.cells c t f)->w'.heap[k]?=some (.cells c t f)
theorem bL.Iy(h:bL [] w w'):qU w w':=⟨fun k c t f hk=>by rw[h.block k (zK.1 hk).1 (by simp)];exact hk⟩
theorem fD.Iz{H:Heap}(h:fD H w)(hb:qU w w'):fD H w':=fun b k hk=>by
 obtain⟨cur,fr,e,hr⟩:=h b k hk;exact⟨cur,fr,hb.cells _ _ _ _ e,hr⟩
theorem Bx.qo{x:Bx}(h:x.ok w):x.b<w.heap.size:=by
 unfold Bx.ok at h;split at h
 ·exact(zK.1 h).1
 ·obtain⟨es,c,e,_⟩:=h;exact(zK.1 e).1
theorem Bx.nX{x:Bx}(h:x.ok w)(e:w'.heap[x.b]?=w.heap[x.b]?):x.ok w':=by
 unfold Bx.ok at*;rw[e];exact h
theorem dx.below{own:List Bx}{H:Heap}(h:dx own H w)(hb:bL [] w w'):dx own H w':=
 ⟨fun x hx=>Bx.nX (h.ok x hx) (hb.block _ (Bx.qo (h.ok x hx)) (by simp)),h.hid,h.apart⟩
def nu(own:List Bx)(w:World):Prop:=∀x∈own,x.map=false->x.ok w
theorem dx.c{own:List Bx}{H:Heap}(h:dx own H w):nu own w:=fun x hx _=>h.ok x hx
theorem nu.Iz{own:List Bx}(h:nu own w)(hb:qU w w'):nu own w':=fun x hx hm=>by
 have:=h x hx hm;unfold Bx.ok at*;rw[hm] at this⊢;exact hb.cells _ _ _ _ this
theorem fD.cell{H:Heap}(h:fD H w){o:Nat}(hc:H.cell b o=some v):w.cell? ⟨b,o,none⟩=some v:=by
 unfold Heap.cell at hc
 cases hk:H b with
 |none=>simp[hk] at hc
 |some k=>
  simp only[hk,yj] at hc;obtain⟨cur,fr,e,_,_,cI⟩:=h b k hk;simp[World.cell?,e,cI o v hc]
theorem Next.refl(aa:Nat)(H:Heap):Next aa H H:=⟨fun _ _ h=>h,fun b k h h'=>by rw[h] at h';cases h'⟩
theorem Next.trans{a b c:Heap}(h:Next aa a b)(k:Next aa b c):Next aa a c:=
 ⟨fun x y hx=>k.ext x y (h.ext x y hx),fun x y hy hn=>by
  cases hb:b x with
  |none=>exact k.fresh x y hy hb
  |some z=>exact h.fresh x z hb hn⟩
theorem Next.mono{R9:Nat}{a b:Heap}(h:Next aa a b)(hb:R9<=aa):Next R9 a b:=
 ⟨h.ext,fun x y hx hn=>Nat.le_trans hb (h.fresh x y hx hn)⟩

theorem LK.Aa{k:LK}{f:Value->Prop}(h:k.al f)(hv:k.fit v=true):f v:=by
 cases k<;>cases v<;>simp[LK.fit] at hv<;>first|exact h _|(subst hv;exact h _)|exact h _ _ _|exact h.1|exact h.2 _ _
theorem LK.fv{k:LK}{f:Value->Prop}(h:k.ex f):∃v,f v/\k.fit v=true:=by
 cases k with
 |int k=>obtain⟨n,hn⟩:=h;exact⟨_,hn,by simp[LK.fit]⟩
 |bool=>obtain⟨n,hn⟩:=h;exact⟨_,hn,rfl⟩
 |str=>obtain⟨n,hn⟩:=h;exact⟨_,hn,rfl⟩
 |slice=>obtain⟨a,n,c,hn⟩:=h;exact⟨_,hn,rfl⟩
 |iface=>
  rcases h with h|⟨t,p,h⟩
  ·exact⟨_,h,rfl⟩
  ·exact⟨_,h,rfl⟩
 |any=>obtain⟨n,hn⟩:=h;exact⟨_,hn,rfl⟩
theorem LK.lX:∀ {ks:List LK} {f:List Value->Prop},LK.Lz ks f->∀ {vs:List Value},LK.fits ks vs=true->f vs
 | [],_,h,[],_=>h
 | [],_,_,_::_,hv=>by simp[LK.fits] at hv
 |_::_,_,_,[],hv=>by simp[LK.fits] at hv
 |k::ks,f,h,v::vs,hv=>by
  simp only[LK.fits,zT] at hv;exact LK.lX (ks:=ks) (f:=fun vs=>f (v::vs)) (LK.Aa h hv.1) hv.2
theorem LK.oQ:∀ {ks:List LK} {f:List Value->Prop},LK.R8 ks f->∃vs,f vs/\LK.fits ks vs=true/\vs.length=ks.length
 | [],_,h=>⟨[],h,rfl,rfl⟩
 |k::ks,f,h=>by
  obtain⟨v,hv,hf⟩:=LK.fv h;obtain⟨vs,cv,WY,hl⟩:=LK.oQ (ks:=ks) hv;exact⟨v::vs,cv,by simp[LK.fits,hf,WY],by simp[hl]⟩
def K1.Fit:K1->Value->Prop
 | .one k,v=>k.fit v=true
 | .agg ks,v=>∃cs:List Value,v= .agg cs.toArray/\LK.fits ks cs=true
 | .arr n,v=>∃cs:List Value,v= .agg cs.toArray/\cs.length=n
 | .R7,v=>∃cs:List Value,v= .agg cs.toArray
inductive Fits:List K1->List Value->Prop
 |nil:Fits [] []
 |cons {k:K1} {ks:List K1} {v:Value} {vs:List Value} (h:k.Fit v) (t:Fits ks vs):Fits (k::ks) (v::vs)
theorem K1.Aa{k:K1}{f:Value->Prop}(h:k.al f)(hv:k.Fit v):f v:=by
 cases k with
 |one k=>exact LK.Aa h hv
 |agg ks=>obtain⟨cs,rfl,hf⟩:=hv;exact LK.lX (f:=fun vs=>f (.agg vs.toArray)) h hf
 |arr n=>obtain⟨cs,rfl,hl⟩:=hv;exact h cs hl
 |R7=>obtain⟨cs,rfl⟩:=hv;exact h cs
theorem K1.lX{ks:List K1}(hv:Fits ks vs):∀ {f:List Value->Prop},K1.Lz ks f->f vs:=by
 induction hv with
 |nil=>exact fun h=>h
 |cons h _ ih=>exact fun{f} hf=>ih (f:=fun vs=>f (_::vs)) (K1.Aa hf h)
theorem K1.fv{k:K1}{f:Value->Prop}(h:k.ex f):∃v,f v/\k.Fit v:=by
 cases k with
 |one k=>exact LK.fv h
 |agg ks=>obtain⟨vs,h1,h2,_⟩:=LK.oQ h;exact⟨_,h1,vs,rfl,h2⟩
 |arr n=>obtain⟨cs,hl,hf⟩:=h;exact⟨_,hf,cs,rfl,hl⟩
 |R7=>obtain⟨cs,hf⟩:=h;exact⟨_,hf,cs,rfl⟩
theorem K1.oQ:∀ {ks:List K1} {f:List Value->Prop},K1.R8 ks f->∃vs,f vs/\Fits ks vs
 | [],_,h=>⟨[],h,.nil⟩
 |k::ks,f,h=>by
  obtain⟨v,hv,hf⟩:=K1.fv h;obtain⟨vs,cv,WY⟩:=K1.oQ (ks:=ks) hv;exact⟨v::vs,cv,.cons hf WY⟩
theorem K2.fv{k:K2}{f:Value->Prop}(h:k.ex f):∃v,f v:=by
 cases k with
 |k1 k=>obtain⟨v,hv,_⟩:=K1.fv h;exact⟨v,hv⟩
 |tup ks=>obtain⟨vs,cv,_⟩:=K1.oQ h;exact⟨_,cv⟩
theorem jj:∀ {ks:List K1} {vs:List Value} {f:Prop},sQ ks vs f->Fits ks vs/\f
 | [],[],_,h=>⟨.nil,h⟩
 | [],_::_,_,h=>h.elim
 |_::_,[],_,h=>h.elim
 | .one k::ks,v::vs,f,h=>by
  simp only[sQ] at h;split at h
  ·rename_i hk;obtain⟨h1,h2⟩:=jj h;exact⟨.cons hk h1,h2⟩
  ·exact h.elim
 | .agg k::ks,v::vs,f,h=>by
  cases v with
  |agg cs=>
   simp only[sQ] at h;split at h
   ·rename_i hk;obtain⟨h1,h2⟩:=jj h;exact⟨.cons ⟨cs.toList,by simp,hk⟩ h1,h2⟩
   ·exact h.elim
  |_=>exact h.elim
 | .arr n::ks,v::vs,f,h=>by
  cases v with
  |agg cs=>
   simp only[sQ] at h;obtain⟨h1,h2⟩:=jj h.2
   exact⟨.cons ⟨cs.toList,by simp,h.1⟩ h1,h2⟩
  |_=>exact h.elim
 | .R7::ks,v::vs,f,h=>by
  cases v with
  |agg cs=>
   simp only[sQ] at h;obtain⟨h1,h2⟩:=jj h
   exact⟨.cons ⟨cs.toList,by simp⟩ h1,h2⟩
  |_=>exact h.elim
open Go

theorem IA(own:List Bx)(x:Value):(Ay x).val own=x:=by
 unfold Ay;split<;>rfl
theorem LA(n:Nat)(x:Value):(Ay x).wf n:=by
 unfold Ay;split<;>trivial
theorem ai{st:St}{a:Act}(h:dy nt st.env st.own a){s:SV}(hs:st.get x=some s):a.eval x=s.val st.own/\s.wf st.own.length:=by
 cases x with
 |tmp t=>obtain⟨_,h2,h3⟩:=h.ck t s hs;exact⟨h2,h3⟩
 |const v=>obtain rfl:=zy hs;exact⟨(IA _ _).symm,LA _ _⟩
 |global g=>obtain rfl:=zy hs;exact⟨rfl,trivial⟩
 |func f=>obtain rfl:=zy hs;exact⟨rfl,trivial⟩

section
variable {C : qG}

theorem Kg(a b:Int):(a==b)=decide (a=b):=by
 rw[Bool.eq_iff_iff];simp
theorem QF(a b:Int):(a !=b)=decide (¬a=b):=by
 rw[Bool.eq_iff_iff];simp

def qp(P:Program)(own:List Bx)(m:Sem Value)(s:SV):Prop:=s.wf own.length/\∀w,m.run P w= .ok (s.val own) w

theorem DL(own:List Bx)(op:BinOp)(ty:TypeId)(xo yo:Operand)(k:IntKind)(a b:Int)(f:SV->Prop)(h:Ip op k a b f):
  ∃s,f s/\qp C.P own (aI op ty xo yo (.int k a) (.int k b)) s:=by
 cases op<;>simp only[Ip] at h
 case add=>exact⟨_,h _ rfl,trivial,fun w=>by simp[aI,eqGuard,binOp,Op.intArith,SV.val]⟩
 case sub=>exact⟨_,h _ rfl,trivial,fun w=>by simp[aI,eqGuard,binOp,Op.intArith,SV.val]⟩
 case mul=>exact⟨_,h _ rfl,trivial,fun w=>by simp[aI,eqGuard,binOp,Op.intArith,SV.val]⟩
 case quo=>exact⟨_,h.2 _ rfl,trivial,fun w=>by simp[aI,eqGuard,binOp,Op.intDiv,SV.val,h.1]⟩
 case rem=>exact⟨_,h.2,trivial,fun w=>by simp[aI,eqGuard,binOp,Op.intDiv,SV.val,h.1]⟩
 case eql=>exact⟨_,h,trivial,fun w=>by simp[aI,eqGuard,binOp,Op.intCmp,SV.val,Kg]⟩
 case neq=>exact⟨_,h,trivial,fun w=>by simp[aI,eqGuard,binOp,Op.intCmp,SV.val,QF]⟩
 case lss=>exact⟨_,h,trivial,fun w=>by simp[aI,eqGuard,binOp,Op.intCmp,SV.val]⟩
 case leq=>exact⟨_,h,trivial,fun w=>by simp[aI,eqGuard,binOp,Op.intCmp,SV.val]⟩
 case gtr=>exact⟨_,h,trivial,fun w=>by simp[aI,eqGuard,binOp,Op.intCmp,SV.val]⟩
 case geq=>exact⟨_,h,trivial,fun w=>by simp[aI,eqGuard,binOp,Op.intCmp,SV.val]⟩

theorem IB(op:BinOp)(ty Fc:TypeId)(xo yo:Operand)(own:List Bx)(sx sy:SV)(f:SV->Prop)(h:TV C op ty Fc xo yo own sx sy f):
  ∃s,f s/\qp C.P own (aI op ty xo yo (sx.val own) (sy.val own)) s:=by
 unfold TV at h;split at h
 ·rename_i k a k' b;split at h
  ·rename_i e;subst e;exact DL own op ty xo yo k a b f h
  ·exact h.elim
 ·split at h
  ·obtain⟨b,hr,hf⟩:=h;refine⟨_,hf,trivial,fun w=>?_⟩;rw[hr w];simp[SV.val]
  ·obtain⟨v,⟨hr,hf⟩,_⟩:=K1.fv h;exact⟨_,hf,trivial,hr⟩

theorem IC(own:List Bx)(f:SV->Prop)(s:SV)(h:TW f s):∃r,f r/\qp C.P own (Op.unary .not (s.val own)) r:=by
 unfold TW at h;split at h
 ·exact⟨_,h,trivial,fun w=>by simp[SV.val,Op.unary]⟩
 ·exact⟨_,h,trivial,fun w=>by simp[SV.val,Op.unary]⟩
 ·exact⟨_,h,trivial,fun w=>by simp[SV.val,Op.unary]⟩
 ·rename_i b;exact⟨_,h,trivial,fun w=>by cases b<;>simp[SV.val,Op.unary]⟩
 ·exact h.elim

theorem FD{st:St}(f:SV->Prop)(x y:Operand)(s:SV)(h:Nw f (st.get x) (st.get y) s):
  ∃r,f r/\∀a:Act,dy nt st.env st.own a->r.wf st.own.length/\∃b,s.val st.own= .bool b/\(if b then a.eval x else a.eval y)=r.val st.own:=by
 unfold Nw at h;split at h
 ·split at h
  ·rename_i r hr;exact⟨r,h,fun a ha=>⟨(ai ha hr).2,true,rfl,(ai ha hr).1⟩⟩
  ·exact h.elim
 ·split at h
  ·rename_i r hr;exact⟨r,h,fun a ha=>⟨(ai ha hr).2,false,rfl,(ai ha hr).1⟩⟩
  ·exact h.elim
 ·rename_i q d;split at h
  ·rename_i r t hr ht;by_cases hq:q
   ·exact⟨r,h.1 hq,fun a ha=>⟨(ai ha hr).2,true,by simp[SV.val,hq],(ai ha hr).1⟩⟩
   ·exact⟨t,h.2 hq,fun a ha=>⟨(ai ha ht).2,false,by simp[SV.val,hq],(ai ha ht).1⟩⟩
  ·exact h.elim
 ·rename_i b;split at h
  ·rename_i r t hr ht
   cases b with
   |true=>exact⟨r,h.1 rfl,fun a ha=>⟨(ai ha hr).2,true,rfl,(ai ha hr).1⟩⟩
   |false=>exact⟨t,h.2 rfl,fun a ha=>⟨(ai ha ht).2,false,rfl,(ai ha ht).1⟩⟩
  ·exact h.elim
 ·exact h.elim

theorem addr_add(b o n:Nat):(⟨b,o,none⟩:Addr).add n=⟨b,o+n,none⟩:=by unfold Addr.add;split<;>simp_all
theorem jE{P:Program}{lk:LK}(hk:ju P ty= .one lk){o:Nat}(hd:(P.underlying ty).isSome=true)(hc:w.cell? ⟨b,o,none⟩=some v):
  (loadVar ty ⟨b,o,none⟩).run P w= .ok v w:=by
 obtain⟨d,hd⟩:=yW.1 hd
 have T2:(isAgg ty).run P w= .ok false w:=by
  unfold isAgg;rw[Sem.run_bind,run_underlying hd w];unfold ju at hk;rw[hd] at hk
  cases d<;>simp_all
  split at hk<;>simp at hk
 simp[loadVar,Sem.run_bind,T2,run_load,hc]
theorem fF{P:Program}(hk:∀lk,ju P ty≠ .one lk){o:Nat}(hn:cs.length=P.cellsOf ty)(hi:(P.info? ty).isSome=true)
  (hc:∀j v,cs[j]?=some v->w.cell? ⟨b,o+j,none⟩=some v):
  (loadVar ty ⟨b,o,none⟩).run P w= .ok (.agg cs.toArray) w:=by
 have hl:(loadCells ⟨b,o,none⟩ cs.length).run P w= .ok cs.toArray w:=
  run_loadCells_list (P:=P) w ⟨b,o,none⟩ cs (fun j v hv=>by rw[addr_add];exact hc j v hv)
 obtain⟨i,hi⟩:=yW.1 hi;have hs:i.size=cs.length:=by rw[hn];simp[Program.cellsOf,hi]
 cases hd:P.underlying ty with
 |none=>exact absurd (by simp[ju,hd]) (hk (Fz P ty))
 |some d=>
  have T2:(isAgg ty).run P w= .ok true w:=by
   unfold isAgg;rw[Sem.run_bind,run_underlying hd w]
   cases d with
   |struct fs=>rfl
   |array n e=>rfl
   |_=>exact absurd (by simp[ju,hd]) (hk (Fz P ty))
  simp[loadVar,Sem.run_bind,T2,sizeOf,typeInfo,hi,hs,hl]
theorem info_of_underlying{P:Program}(h:(P.underlying t).isSome=true):(P.info? t).isSome=true:=by
 unfold Program.underlying at h
 cases hi:P.info? t with
 |none=>simp[hi] at h
 |some i=>rfl
theorem kr{H:Heap}{b o:Nat} :∀ {vs:List Value} {i:Nat},ba H b o i vs->∀j v,vs[j]?=some v->H.cell b (o+i+j)=some v
 | [],_,_,j,v,h=>by simp at h
 |x::vs,i,h,0,v,hv=>by simp at hv;subst hv;exact h.1
 |x::vs,i,h,j+1,v,hv=>by
  have:=kr (i:=i+1) h.2 j v (by simpa using hv);rw[show o+i+(j+1)=o+(i+1)+j from by omega];exact this
theorem wQ{cs:List Value}{o:Nat} :∀ {vs:List Value} {i:Nat},Iq cs o i vs->∀j v,vs[j]?=some v->cs[o+i+j]?=some v
 | [],_,_,j,v,h=>by simp at h
 |x::vs,i,h,0,v,hv=>by simp at hv;subst hv;exact h.1
 |x::vs,i,h,j+1,v,hv=>by
  have:=wQ (i:=i+1) h.2 j v (by simpa using hv);rw[show o+i+(j+1)=o+(i+1)+j from by omega];exact this
theorem lm{own:List Bx}(h:nu own w)(hx:own[i]?=some ⟨b,false,ty,cs⟩)(hv:cs[j]?=some v):
  fW own i=b/\w.cell? ⟨b,j,none⟩=some v:=by
 have hm:(⟨b,false,ty,cs⟩:Bx)∈own:=zt hx;have:=h _ hm rfl;simp only[Bx.ok] at this;exact⟨by simp[fW,hx],by simp[World.cell?,this,hv]⟩

theorem uK{own:List Bx}{H:Heap}(h:dx own H w)(hx:own[i]?=some ⟨b,false,ty,cs⟩)(hv:cs[j]?=some v):
  fW own i=b/\w.cell? ⟨b,j,none⟩=some v:=lm h.c hx hv
theorem CW{P:Program}(h:(ju P t).Fit v)(hk:∀lk,ju P t≠ .one lk):∃cs:List Value,v= .agg cs.toArray/\cs.length=P.cellsOf t:=by
 have M6:∀(ks:List LK)(vs:List Value),LK.fits ks vs=true->vs.length=ks.length:=by
  intro ks
  induction ks with
  |nil=>intro vs h;cases vs<;>simp_all[LK.fits]
  |cons k ks ih=>intro vs h;cases vs with
   |nil=>simp[LK.fits] at h
   |cons v vs=>simp only[LK.fits,zT] at h;simp[ih vs h.2]
 unfold ju at h hk;split at h
 ·split at h
  ·rename_i hl;obtain⟨cs,rfl,hf⟩:=h;exact⟨cs,rfl,(M6 _ _ hf).trans hl⟩
  ·obtain⟨cs,rfl,hl⟩:=h;exact⟨cs,rfl,hl⟩
 ·obtain⟨cs,rfl,hl⟩:=h;exact⟨cs,rfl,hl⟩
 ·rename_i h1 h2;exfalso;refine hk (Fz P t) ?_;split
  ·rename_i fs e;exact absurd e (h1 fs)
  ·rename_i n e' e;exact absurd e (h2 n e')
  ·rfl

def T3(P:Program)(st:St)(m:Sem Value)(s:SV):Prop:=s.wf st.own.length/\∀w,fD st.H w->nu st.own w->m.run P w= .ok (s.val st.own) w
def Reads(P:Program)(st:St)(m:Sem Value)(s:SV):Prop:=s.wf st.own.length/\∀w,fD st.H w->dx st.own st.H w->m.run P w= .ok (s.val st.own) w
end
open Go
section
variable {C : qG}
theorem nv(h:typed C t f):(C.P.underlying t).isSome=true/\f:=by
 unfold typed at h;split at h
 ·rename_i d e;exact⟨by rw[e];rfl,h⟩
 ·exact h.elim
theorem pB{own:List Bx}{x:Bx}(hx:own[i]?=some x):fW own i=x.b:=by simp[fW,hx]
theorem pC{α:Type}{l:List α}{x:α}(h:l[i]?=some x):i<l.length:=(zw.1 h).1

theorem wR(ty:TypeId)(st:St)(f:SV->Prop)(s:SV)(h:FA C ty st f s):∃r,f r/\T3 C.P st (Instr.loadAt ty (s.val st.own)) r:=by
 have lift:∀(b o:Nat)(v:Value)(w:World),(loadVar ty ⟨b,o,none⟩).run C.P w= .ok v w->(Instr.loadAt ty (.pointer (some ⟨b,o,none⟩))).run C.P w= .ok v w:=fun b o v w h=>by
  simp only[Instr.loadAt,Instr.sureAddr,Sem.run_bind,Sem.run_pure,Result.andThen_ok,h]
 unfold FA at h;split at h
 ·rename_i i off;split at h
  ·rename_i b bt cs hx;obtain⟨hd,h⟩:=nv h;split at h
   ·rename_i lk hk;split at h
    ·rename_i v hv;refine⟨_,h,trivial,fun w _ hb=>?_⟩;obtain⟨e,hc⟩:=lm hb hx hv;simp only[SV.val,e];exact lift _ _ _ _ (jE hk hd hc)
    ·exact h.elim
   ·rename_i n hk;have Ct:∀lk,ju C.P ty≠ .one lk:=fun lk h=>by rw[hk] at h;cases h
    split at h
    ·obtain⟨hl,h⟩:=h;refine⟨_,h,trivial,fun w _ hb=>?_⟩;have e:fW st.own i=b:=pB hx;simp only[SV.val,e];exact lift _ _ _ _ (fF Ct hl (info_of_underlying hd) fun j v hv=>(lm hb hx (by simpa using hv)).2)
    ·split at h
     ·rename_i hl;refine⟨_,h,trivial,fun w _ hb=>?_⟩;have e:fW st.own i=b:=pB hx;simp only[SV.val,e];refine lift _ _ _ _ (fF Ct hl (info_of_underlying hd) fun j v hv=>?_);rw[zD] at hv;split at hv
      ·rw[List.getElem?_drop] at hv;exact(lm hb hx hv).2
      ·cases hv
     ·exact h.elim
   ·rename_i NE WZ;split at h
    ·rename_i hl;refine⟨_,h,trivial,fun w _ hb=>?_⟩;have e:fW st.own i=b:=pB hx;simp only[SV.val,e];refine lift _ _ _ _ (fF (fun lk h=>NE lk h) hl (info_of_underlying hd) fun j v hv=>?_);rw[zD] at hv;split at hv
     ·rw[List.getElem?_drop] at hv;exact(lm hb hx hv).2
     ·cases hv
    ·exact h.elim
  ·exact h.elim
 ·rename_i i off;split at h
  ·rename_i b bt cs hx;obtain⟨hd,h⟩:=nv h;have e:fW st.own i=b:=pB hx;split at h
   ·rename_i k hk;obtain⟨v,⟨hl,hf⟩,_⟩:=LK.fv h;refine⟨_,hf,trivial,fun w _ hb=>?_⟩;simp only[SV.val,e];exact lift _ _ _ _ (jE hk hd (lm hb hx hl).2)
   ·rename_i hk;obtain⟨v,⟨hl,hf⟩,oR⟩:=K1.fv h;refine⟨_,hf,trivial,fun w _ hb=>?_⟩;simp only[SV.val,e];have Ct:∀lk,ju C.P ty≠ .one lk:=fun lk h=>hk lk h;obtain⟨oI,rfl,hn⟩:=CW oR Ct;refine lift _ _ _ _ (fF Ct hn (info_of_underlying hd) fun j v hv=>?_);have:=wQ (vs:=oI) (by simpa[Value.cells] using hl) j v hv;exact(lm hb hx (by simpa using this)).2
  ·exact h.elim
 ·rename_i b o;obtain⟨hd,h⟩:=nv h;split at h
  ·rename_i k hk;obtain⟨v,⟨hl,hf⟩,_⟩:=LK.fv h;refine⟨_,hf,trivial,fun w hs _=>?_⟩;exact lift _ _ _ _ (jE hk hd (hs.cell hl))
  ·rename_i hk;obtain⟨v,⟨hl,hf⟩,oR⟩:=K1.fv h;refine⟨_,hf,trivial,fun w hs _=>?_⟩;have Ct:∀lk,ju C.P ty≠ .one lk:=fun lk h=>hk lk h;obtain⟨oI,rfl,hn⟩:=CW oR Ct;refine lift _ _ _ _ (fF Ct hn (info_of_underlying hd) fun j v hv=>?_);have:=kr (vs:=oI) (by simpa[Value.cells] using hl) j v hv;exact hs.cell (by simpa using this)
 ·exact h.elim

theorem vY(s:TypeId)(Fe:Nat)(st:St)(f:SV->Prop)(x:SV)(hx:x.wf st.own.length)(h:tS C s Fe f x):∃r,f r/\qp C.P st.own (Instr.fieldAt s (x.val st.own) Fe) r:=by
 unfold tS at h;split at h
 ·rename_i fs hu;split at h
  ·rename_i fd hfd;split at h
   ·exact h.elim
   ·rename_i hn
    have hi:(C.P.info? fd.type).isSome=true:=by
     cases hi:C.P.info? fd.type with
     |none=>simp[Program.cellsOf,hi] at hn
     |some i=>rfl
    obtain⟨i,hi⟩:=yW.1 hi;have hs:i.size≠0:=by simpa[Program.cellsOf,hi] using hn
    have key:∀(b o:Nat)(w:World),(Instr.fieldAt s (.pointer (some ⟨b,o,none⟩)) Fe).run C.P w= .ok (.pointer (some ⟨b,o+fd.offset,none⟩)) w:=fun b o w=>by
     simp[Instr.fieldAt,run_underlying hu,hfd,Instr.sureAddr,fieldPlace,sizeOf,typeInfo,hi,hs,addr_add]
    split at h
    ·exact⟨_,h,hx,fun w=>key _ _ w⟩
    ·exact⟨_,h,hx,fun w=>key _ _ w⟩
    ·exact⟨_,h,trivial,fun w=>key _ _ w⟩
    ·exact h.elim
  ·exact h.elim
 ·exact h.elim
theorem dt{P:Program}(h:(P.info? t).isSome=true)(w:World):(sizeOf t).run P w= .ok (P.cellsOf t) w:=by
 obtain⟨i,hi⟩:=yW.1 h;simp[sizeOf,typeInfo,hi,Program.cellsOf]
theorem DM{a:Act}(h:numeral x=some m):∃k,a.eval x= .int k (m:Int):=by
 unfold numeral at h;split at h
 ·obtain rfl:=zy h;exact⟨_,rfl⟩
 ·cases h
theorem lp(h:sized C t f):(C.P.info? t).isSome=true/\f:=by
 unfold sized at h;split at h
 ·rename_i d e;exact⟨by rw[e];rfl,h⟩
 ·exact h.elim
theorem vZ(t:TypeId)(ixo:Operand)(st:St)(f:SV->Prop)(x ix:SV)(hx:x.wf st.own.length)(h:tT C t ixo f x ix)
  (hn:∀m,numeral ixo=some m->∃k,ix.val st.own= .int k (m:Int)):
  ∃r,f r/\qp C.P st.own (Instr.indexAt t (x.val st.own) (ix.val st.own)) r:=by
 unfold tT at h;split at h
 ·rename_i e hu;obtain⟨hi,h⟩:=lp h;split at h
  ·rename_i a n c k i;obtain⟨b,o,rfl,h0,h1,hf⟩:=h;refine⟨_,hf,trivial,fun w=>?_⟩;simp[SV.val,Instr.indexAt,asIntOf,run_underlying hu,h0,h1,dt hi,addr_add]
  ·exact h.elim
 ·rename_i n e hu;obtain⟨hi,h⟩:=lp h
  have key:∀(b o:Nat)(k:IntKind)(i:Int)(w:World),0<=i->i<n->(Instr.indexAt t (.pointer (some ⟨b,o,none⟩)) (.int k i)).run C.P w= .ok (.pointer (some ⟨b,o+i.toNat*C.P.cellsOf e,none⟩)) w:=fun b o k i w h0 h1=>by
   simp[Instr.indexAt,asIntOf,run_underlying hu,Instr.sureAddr,h0,h1,dt hi,addr_add]
  split at h
  ·rename_i m hm;obtain⟨k,hk⟩:=hn m hm;split at h
   ·rename_i bK
    have T4:∀(b o:Nat)(w:World),(Instr.indexAt t (.pointer (some ⟨b,o,none⟩)) (ix.val st.own)).run C.P w= .ok (.pointer (some ⟨b,o+m*C.P.cellsOf e,none⟩)) w:=fun b o w=>by
     rw[hk,key b o k m w (by omega) (by omega)];simp
    split at h
    ·exact⟨_,h,hx,fun w=>T4 _ _ w⟩
    ·exact⟨_,h,hx,fun w=>T4 _ _ w⟩
    ·exact⟨_,h,trivial,fun w=>T4 _ _ w⟩
    ·exact h.elim
   ·exact h.elim
  ·split at h
   ·exact⟨_,h.2.2,hx,fun w=>key _ _ _ _ w h.1 h.2.1⟩
   ·exact⟨_,h.2.2,hx,fun w=>key _ _ _ _ w h.1 h.2.1⟩
   ·exact⟨_,h.2.2,trivial,fun w=>key _ _ _ _ w h.1 h.2.1⟩
   ·exact h.elim
 ·exact h.elim

theorem td{P:Program}{lk:LK}(hk:ju P ty= .one lk)(hd:(P.underlying ty).isSome=true)(w:World):(isAgg ty).run P w= .ok false w:=by
 obtain⟨d,hd⟩:=yW.1 hd;unfold isAgg;rw[Sem.run_bind,run_underlying hd w];unfold ju at hk;rw[hd] at hk
 cases d<;>simp_all
 split at hk<;>simp at hk
theorem Cu{P:Program}(hk:∀lk,ju P ty≠ .one lk)(w:World):(isAgg ty).run P w= .ok true w:=by
 cases hd:P.underlying ty with
 |none=>exact absurd (by simp[ju,hd]) (hk (Fz P ty))
 |some d=>
  unfold isAgg;rw[Sem.run_bind,run_underlying hd w]
  cases d with
  |struct fs=>rfl
  |array n e=>rfl
  |_=>exact absurd (by simp[ju,hd]) (hk (Fz P ty))
theorem FE(t:TypeId)(st:St)(cs:List Value)(off:Nat)(f:SV->Prop)(h:Nv C t cs off f):∃r,f r/\qp C.P st.own (part t cs.toArray off) r:=by
 unfold Nv at h;obtain⟨hd,h⟩:=nv h;split at h
 ·rename_i lk hk;split at h
  ·rename_i v hv;exact⟨_,h,trivial,fun w=>by simp[part,td hk hd,hv,SV.val]⟩
  ·exact h.elim
 ·rename_i hk;refine⟨_,h,trivial,fun w=>?_⟩
  have e:(cs.toArray.extract off (off+C.P.cellsOf t))=((cs.drop off).take (C.P.cellsOf t)).toArray:=by
   rw[List.extract_toArray];simp[List.extract]
  simp[part,Cu (fun lk h=>hk lk h),dt (info_of_underlying hd),e,SV.val]
theorem DN(t:TypeId)(Fe:Nat)(st:St)(f:SV->Prop)(x:SV)(h:Is C t Fe f x):∃r,f r/\qp C.P st.own (Instr.field t (x.val st.own) Fe) r:=by
 unfold Is at h;split at h
 ·rename_i fs cs hu;split at h
  ·rename_i fd hfd;obtain⟨r,hf,hw,hr⟩:=FE fd.type st cs.toList fd.offset f h;refine⟨r,hf,hw,fun w=>?_⟩;have:=hr w;simp at this;simp[Instr.field,run_underlying hu,hfd,asAgg,SV.val,this]
  ·exact h.elim
 ·exact h.elim
theorem DO(t Fc:TypeId)(st:St)(f:SV->Prop)(x ix:SV)(h:Ir C t Fc f x ix):∃r,f r/\qp C.P st.own (Instr.index t (x.val st.own) (ix.val st.own)) r:=by
 unfold Ir at h;split at h
 ·rename_i n e cs k i hu;obtain⟨hd,h⟩:=nv h;split at h
  ·rename_i lk hk;obtain⟨h0,h1,h⟩:=h;obtain⟨v,⟨hc,hf⟩,_⟩:=LK.fv h;refine⟨_,hf,trivial,fun w=>?_⟩;have DP:cs[i.toNat*C.P.cellsOf e]?=some v:=by simpa using hc
   simp[Instr.index,SV.val,asIntOf,run_underlying hu,h0,h1,dt (info_of_underlying hd),part,td hk hd,DP]
  ·exact h.elim
 ·rename_i s k i hu;obtain⟨v,⟨hr,hf⟩,_⟩:=K1.fv h;exact⟨_,hf,trivial,hr⟩
 ·exact h.elim

theorem mJ{nt:Nat}{st:St}{a:Act}(h:dy nt st.env st.own a):∀ {ps:List (Nat×Operand)} {vs:List (Nat×Value)},vV st ps=some vs->ps.map (fun p=>(p.1,a.eval p.2))=vs
 | [],vs,hv=>by simp[vV] at hv;subst hv;rfl
 |(i,x)::r,vs,hv=>by
  simp only[vV] at hv;split at hv
  ·rename_i s l hs hl;obtain rfl:=zy hv;simp[mJ h hl,(ai h hs).1]
  ·cases hv
theorem qV:∀(vs:List Value)(off i:Nat)(cells:List Value),
  (vs.zipIdx i).foldl (fun cs (x:Value×Nat)=>cs.setIfInBounds (off+x.2) x.1) cells.toArray=(aV cells (off+i) vs).toArray
 | [],off,i,cells=>rfl
 |v::vs,off,i,cells=>by
  simp only[List.zipIdx_cons,List.foldl_cons,aV];rw[List.setIfInBounds_toArray,qV vs off (i+1)];rfl
theorem fG:∀(vs:List Value)(off:Nat)(cells:List Value),(aV cells off vs).length=cells.length
 | [],_,_=>rfl
 |v::vs,off,cells=>by simp[aV,fG vs]
theorem fill_eq(place:Nat->Option (Nat×Nat)):∀(parts:List (Nat×Value))(cells out:List Value),tb place cells parts=some out->Instr.fill place cells.toArray parts=some out.toArray
 | [],cells,out,h=>by simp[tb] at h;subst h;rfl
 |(i,v)::rest,cells,out,h=>by
  simp only[tb] at h;unfold Instr.fill;split at h
  ·cases h
  ·rename_i off size hp;split at h
   ·rename_i hc;have e1:v.cells.size=size:=by simpa using hc.1
    have e2:¬(cells.length<off+size):=by omega
    have:=fill_eq place rest _ _ h;have hf:=qV v.cells.toList off 0 cells;simp only[Nat.add_zero] at hf;rw[hp];simp only[e1,ne_eq,not_true_eq_false,decide_false,Bool.false_or,List.size_toArray,gt_iff_lt,e2,Bool.false_eq_true,if_false];rw[←this,←hf]
    congr 1
    rw[←Array.foldl_toList];simp
   ·cases h
theorem te{P:Program} :∀ {fs:List Field} {l:List (Nat×Nat)},placesOf P fs=some l->fs.mapM (fun f=>(P.info? f.type).map fun i=>(f.offset,i.size))=some l
 | [],l,h=>by simp[placesOf] at h;subst h;rfl
 |fd::r,l,h=>by
  simp only[placesOf] at h;split at h
  ·rename_i i l' hi hl;obtain rfl:=zy h;simp[List.mapM_cons,hi,te hl]
  ·cases h
theorem DQ(t:TypeId)(parts:Array (Nat×Operand))(st:St)(f:SV->Prop)(h:It C t parts.toList st f):
  ∃r,f r/\∀a:Act,dy C.nt st.env st.own a->qp C.P st.own (Instr.build t (parts.map fun(i,x)=>(i,a.eval x))) r:=by
 unfold It at h;split at h
 ·rename_i z vs hz cv
  have hz':∃it zv,C.P.info? t=some it/\it.zero=some zv/\zv.cells.toList=z:=by
   unfold ep at hz
   cases hi:C.P.info? t with
   |none=>simp[hi] at hz
   |some it=>
    cases uG:it.zero with
    |none=>simp[hi,uG] at hz
    |some zv=>exact⟨it,zv,rfl,uG,by simpa[hi,uG] using hz⟩
  obtain⟨it,zv,hit,uG,rfl⟩:=hz'
  have hev:∀a:Act,dy C.nt st.env st.own a->(parts.map fun(i,x)=>(i,a.eval x)).toList=vs:=fun a ha=>by
   rw[Array.toList_map];exact mJ ha cv
  split at h
  ·rename_i fs hu;split at h
   ·rename_i cells hc;refine⟨_,h,fun a ha=>⟨trivial,fun w=>?_⟩⟩;refine run_build w t _ _ ?_;rw[hev a ha]
    cases hp:placesOf C.P fs.toList with
    |none=>simp[hp] at hc
    |some places=>
     simp only[hp,yj] at hc;have hf:=fill_eq _ _ _ _ hc;simp only[Program.built,hit,hu,uG,te hp];simpa using hf
   ·exact h.elim
  ·rename_i n e hu;split at h
   ·rename_i cells hc;refine⟨_,h,fun a ha=>⟨trivial,fun w=>?_⟩⟩;refine run_build w t _ _ ?_;rw[hev a ha]
    cases hp:C.P.info? e with
    |none=>simp[hp] at hc
    |some ie=>
     simp only[hp,yj] at hc;have hf:=fill_eq _ _ _ _ hc;simp only[Program.built,hit,hu,uG,hp];simpa using hf
   ·exact h.elim
  ·exact h.elim
 ·exact h.elim
end
open Go
section
variable {C : qG}
theorem pD(a:O):a.map (fun x=>x.add 0)=a:=by cases a<;>simp[Addr.add]
theorem run_sliceBound{P:Program}{k:IntKind}{i:Int}{y:Nat}{c:BoundsCode}(h0:0<=i)(h1:i<=y):(Instr.sliceBound (.int k i) y c).run P w= .ok i.toNat w:=by
 simp[Instr.sliceBound,asIntOf,h0,h1]
theorem uL{o:Operand}(h:numeral o=some 0):∃k,o= .const (.int k 0):=by
 unfold numeral at h;split at h
 ·rename_i k m;obtain rfl:=zy h;exact⟨k,rfl⟩
 ·cases h
theorem DR(t:TypeId)(st:St)(x:Operand)(lo hi mx:Option Operand)(f:SV->Prop)(h:Iu C t st x lo hi mx f):
  ∃r,f r/\∀a:Act,dy C.nt st.env st.own a->qp C.P st.own (Instr.sliceAt t (a.eval x) (lo.map a.eval) (hi.map a.eval) (mx.map a.eval)) r:=by
 unfold Iu at h;split at h
 ·rename_i e sl n c hu hx;obtain⟨LC,h⟩:=lp h;split at h
  ·refine⟨_,h,fun a ha=>⟨trivial,fun w=>?_⟩⟩;rw[(ai ha hx).1];simp[SV.val,Instr.sliceAt,Instr.slice,run_underlying hu,Instr.sliceBounds,dt LC,pD]
  ·rename_i ho;split at h
   ·rename_i k hv NF;obtain⟨h0,h1,hf⟩:=h;refine⟨_,hf,fun a ha=>⟨trivial,fun w=>?_⟩⟩;rw[(ai ha hx).1];simp[SV.val,Instr.sliceAt,Instr.slice,run_underlying hu,Instr.sliceBounds,dt LC,pD,(ai ha NF).1,run_sliceBound h0 h1]
   ·exact h.elim
  ·rename_i l;split at h
   ·rename_i k lv hl;obtain⟨h0,h1,h2,hf⟩:=h;by_cases e1:lv<c
    ·have e2:¬c=lv.toNat:=by omega
     refine⟨_,hf _ (fun _=>rfl),fun a ha=>⟨trivial,fun w=>?_⟩⟩;rw[(ai ha hx).1];simp[SV.val,Instr.sliceAt,Instr.slice,run_underlying hu,Instr.sliceBounds,dt LC,(ai ha hl).1,run_sliceBound h0 h1,e2]
    ·have e2:c=lv.toNat:=by omega
     refine⟨_,hf sl (fun h=>absurd h e1),fun a ha=>⟨trivial,fun w=>?_⟩⟩;rw[(ai ha hx).1];simp[SV.val,Instr.sliceAt,Instr.slice,run_underlying hu,Instr.sliceBounds,dt LC,(ai ha hl).1,run_sliceBound h0 h1,e2]
   ·exact h.elim
  ·rename_i l ho;split at h
   ·rename_i k lv k' hv hl NF;obtain⟨h0,h1,h2,hf⟩:=h;have h3:0<=hv:=by omega
    have h4:lv<=(hv.toNat:Int):=by omega
    by_cases e1:lv<c
    ·have e2:¬c=lv.toNat:=by omega
     refine⟨_,hf _ (fun _=>rfl),fun a ha=>⟨trivial,fun w=>?_⟩⟩;rw[(ai ha hx).1];simp[SV.val,Instr.sliceAt,Instr.slice,run_underlying hu,Instr.sliceBounds,dt LC,(ai ha hl).1,(ai ha NF).1,run_sliceBound h3 h2,run_sliceBound h0 h4,e2]
    ·have e2:hv.toNat=c:=by omega
     have e3:lv.toNat=c:=by omega
     refine⟨_,hf sl (fun h=>absurd h e1),fun a ha=>⟨trivial,fun w=>?_⟩⟩;rw[(ai ha hx).1];simp[SV.val,Instr.sliceAt,Instr.slice,run_underlying hu,Instr.sliceBounds,dt LC,(ai ha hl).1,(ai ha NF).1,run_sliceBound h3 h2,e2,e3,run_sliceBound (y:=c) h0 (by omega)]
   ·exact h.elim
 ·rename_i e sl n c mo hu hx;obtain⟨LC,h⟩:=lp h;split at h
  ·rename_i ho;split at h
   ·rename_i h1 h2;refine⟨_,h,fun a ha=>⟨trivial,fun w=>?_⟩⟩;obtain⟨k1,rfl⟩:=uL h1;obtain⟨k2,rfl⟩:=uL h2;rw[(ai ha hx).1];have e1:=run_sliceBound (P:=C.P) (w:=w) (k:=k2) (i:=0) (y:=c) (c:= .slice3Acap) (by omega) (by omega);simp[SV.val,Act.eval,Instr.sliceAt,Instr.slice,run_underlying hu,Instr.sliceBounds,dt LC,pD,Instr.sliceBound,asIntOf]
   ·exact h.elim
  ·rename_i l ho;split at h
   ·rename_i k lv k' hv k'' mv hl NF hmo;obtain⟨h0,h1,h2,Kh,hf⟩:=h;have h3:0<=hv:=by omega
    have W1:0<=mv:=by omega
    have h4:lv<=(hv.toNat:Int):=by omega
    have h5:hv<=(mv.toNat:Int):=by omega
    by_cases e1:lv<mv
    ·have e2:¬mv.toNat=lv.toNat:=by omega
     refine⟨_,hf _ (fun _=>rfl),fun a ha=>⟨trivial,fun w=>?_⟩⟩;rw[(ai ha hx).1];simp[SV.val,Instr.sliceAt,Instr.slice,run_underlying hu,Instr.sliceBounds,dt LC,(ai ha hl).1,(ai ha NF).1,(ai ha hmo).1,run_sliceBound W1 Kh,run_sliceBound h3 h5,run_sliceBound h0 h4,e2]
    ·have e2:mv.toNat=lv.toNat:=by omega
     have e3:hv.toNat=lv.toNat:=by omega
     refine⟨_,hf sl (fun h=>absurd h e1),fun a ha=>⟨trivial,fun w=>?_⟩⟩;rw[(ai ha hx).1];simp[SV.val,Instr.sliceAt,Instr.slice,run_underlying hu,Instr.sliceBounds,dt LC,(ai ha hl).1,(ai ha NF).1,(ai ha hmo).1,run_sliceBound W1 Kh,run_sliceBound (y:=lv.toNat) h3 (by omega),run_sliceBound (y:=lv.toNat) h0 (by omega),e2,e3]
   ·exact h.elim
  ·exact h.elim
 ·rename_i s hu hx;split at h
  ·refine⟨_,h,fun a ha=>⟨trivial,fun w=>?_⟩⟩;rw[(ai ha hx).1];simp[SV.val,Instr.sliceAt,Instr.slice,run_underlying hu,Instr.sliceBounds]
  ·rename_i ho;split at h
   ·rename_i k hv NF;obtain⟨h0,h1,hf⟩:=h;refine⟨_,hf,fun a ha=>⟨trivial,fun w=>?_⟩⟩;rw[(ai ha hx).1];simp[SV.val,Instr.sliceAt,Instr.slice,run_underlying hu,Instr.sliceBounds,(ai ha NF).1,run_sliceBound h0 h1]
   ·exact h.elim
  ·rename_i l;split at h
   ·rename_i k lv hl;obtain⟨h0,h1,hf⟩:=h;refine⟨_,hf,fun a ha=>⟨trivial,fun w=>?_⟩⟩;rw[(ai ha hx).1];simp[SV.val,Instr.sliceAt,Instr.slice,run_underlying hu,Instr.sliceBounds,(ai ha hl).1,run_sliceBound h0 h1]
   ·exact h.elim
  ·rename_i l ho;split at h
   ·rename_i k lv k' hv hl NF;obtain⟨h0,h1,h2,hf⟩:=h;have h3:0<=hv:=by omega
    have h4:lv<=(hv.toNat:Int):=by omega
    refine⟨_,hf,fun a ha=>⟨trivial,fun w=>?_⟩⟩;rw[(ai ha hx).1];simp[SV.val,Instr.sliceAt,Instr.slice,run_underlying hu,Instr.sliceBounds,(ai ha hl).1,(ai ha NF).1,run_sliceBound h3 h2,run_sliceBound h0 h4]
   ·exact h.elim
 ·exact h.elim

theorem uM{nt:Nat}{st:St}{a:Act}(h:dy nt st.env st.own a):∀ {xs:List Operand} {l:List Nat},Az st xs=some l->
  xs.map a.eval=l.map (fun i=>Value.pointer (some ⟨fW st.own i,0,none⟩))/\∀i∈l,i<st.own.length
 | [],l,hl=>by simp[Az] at hl;subst hl;simp
 |x::r,l,hl=>by
  simp only[Az] at hl;split at hl
  ·rename_i i l' hi W2;obtain rfl:=zy hl;obtain⟨h1,h2⟩:=uM h W2;obtain⟨h3,h4⟩:=ai h hi;refine⟨by simp[h1,h3,SV.val],?_⟩;intro j hj;rcases zm.1 hj with rfl|hj
   ·exact h4
   ·exact h2 j hj
  ·cases hl
theorem tf{nt:Nat}{st:St}{a:Act}(h:dy nt st.env st.own a):∀ {xs:List Operand} {l:List Value},uH st xs=some l->xs.map a.eval=l
 | [],l,hl=>by simp[uH] at hl;subst hl;rfl
 |x::r,l,hl=>by
  simp only[uH] at hl;split at hl
  ·rename_i v l' hi W2;obtain rfl:=zy hl;simp[tf h W2,(ai h hi).1,SV.val]
  ·cases hl
theorem xU(fn:Fn)(first lV:Array Operand)(st:St)(f:SV->Prop)(h:vW fn first.toList lV.toList st f):
  ∃r,f r/\∀a:Act,dy C.nt st.env st.own a->qp C.P st.own (Instr.makeFunc fn (first.map a.eval) (lV.map a.eval)) r:=by
 unfold vW at h;split at h
 ·rename_i l hf hl;have e1:first= #[]:=Array.toList_eq_nil_iff.1 hf
  subst e1;refine⟨_,h,fun a ha=>?_⟩;obtain⟨h1,h2⟩:=uM ha hl;refine⟨h2,fun w=>?_⟩
  have e2:lV.map a.eval=(l.map (fun i=>Value.pointer (some ⟨fW st.own i,0,none⟩))).toArray:=by
   apply yu;simpa using h1
  simp[Instr.makeFunc,e2,SV.val]
 ·rename_i hf hl;have e1:first= #[]:=Array.toList_eq_nil_iff.1 hf
  subst e1;split at h
  ·rename_i vs cv;refine⟨_,h,fun a ha=>⟨trivial,fun w=>?_⟩⟩;have e2:lV.map a.eval=vs.toArray:=by apply yu;simpa using tf ha cv
   simp[Instr.makeFunc,e2,SV.val]
  ·exact h.elim
 ·exact h.elim

theorem run_getObj_map{P:Program}{es:Array MapEntry}{c:Nat}(h:w.heap[r]?=some (.map es c)):(getObj r).run P w= .ok (.map es c) w:=by
 simp[getObj,Sem.run,h]
theorem tg{key:SV}{own:List Bx}(h:rY C kt key=true):
  (∃d k a,C.P.underlying kt=some (.int d)/\key.val own= .int k a)∨(∃b,C.P.underlying kt=some .bool/\key.val own= .bool b):=by
 unfold rY at h;split at h
 ·rename_i d k a hu;exact .inl ⟨d,k,a,hu,rfl⟩
 ·rename_i b hu;exact .inr ⟨b,hu,rfl⟩
 ·rename_i q d hu;exact .inr ⟨_,hu,rfl⟩
 ·rename_i hu;exact .inr ⟨true,hu,rfl⟩
 ·rename_i hu;exact .inr ⟨false,hu,rfl⟩
 ·cases h
theorem pE{d:TypeDesc}{t:Bool}(hs:kq key k=some t)
  (hd:(∃i j a,d= .int i/\key= .int j a)∨(∃b,d= .bool/\key= .bool b)):Instr.sameNow d key k=some t:=by
 rcases hd with⟨i,j,a,rfl,rfl⟩|⟨b,rfl,rfl⟩
 ·cases k<;>simp[kq] at hs
  rename_i j' a';obtain⟨rfl,rfl⟩:=hs;simp[Instr.sameNow,Kg]
 ·cases k<;>simp[kq] at hs
  subst hs;rfl
theorem AL{d:TypeDesc}{z key:Value}(hd:(∃i j a,d= .int i/\key= .int j a)∨(∃b,d= .bool/\key= .bool b)):
  ∀(es:List MapEntry)(i:Nat) {r:Value} {b:Bool},ii z key (ch es)=some (r,b)->
   (b=true/\∃j,Instr.findNow d key es i=some (some (j,r)))∨(b=false/\r=z/\Instr.findNow d key es i=some none)
 | [],i,r,b,h=>by
  simp only[ch,ii] at h;obtain⟨rfl,rfl⟩:=Prod.mk.inj (zy h)
  exact .inr ⟨rfl,rfl,rfl⟩
 |e::es,i,r,b,h=>by
  simp only[ch,ii] at h;split at h
  ·rename_i hk;have hs:=pE hk hd;obtain⟨rfl,rfl⟩:=Prod.mk.inj (zy h);refine .inl ⟨rfl,i,?_⟩;simp[Instr.findNow,hs]
  ·rename_i hk;have hs:=pE hk hd;have:=AL hd es (i+1) h;simpa[Instr.findNow,hs] using this
  ·cases h
theorem run_checkKey{P:Program}(b:Bool)(n:Nat)(hd:(∃d k a,P.underlying kt=some (.int d)/\key= .int k a)∨(∃b,P.underlying kt=some .bool/\key= .bool b))(w:World):
  (Instr.checkKey b (n+1) kt key).run P w= .ok () w:=by
 rcases hd with⟨d,k,a,hu,rfl⟩|⟨b,hu,rfl⟩<;>simp[Instr.checkKey,run_underlying hu]
theorem ID{P:Program}{i:TypeInfo}{z:Value}(hu:P.underlying t=some (.map kt e))(hi:P.info? e=some i)(hz:i.zero=some z)
  (hd:(∃d k a,P.underlying kt=some (.int d)/\key= .int k a)∨(∃b,P.underlying kt=some .bool/\key= .bool b))
    {es:Array MapEntry} {c:Nat} (hw:w.heap[r]?=some (.map es c))  {b:Bool} (hg:ii z key (ch es.toList)=some (v,b)) (ok:Bool):
  (Instr.lookup t (.map (some r)) key ok).run P w= .ok (if ok then .tuple #[v,.bool b] else v) w:=by
 have T5:∃d,P.underlying kt=some d/\((∃i j a,d= .int i/\key= .int j a)∨(∃b,d= .bool/\key= .bool b)):=by
  rcases hd with⟨d,k,a,hu,rfl⟩|⟨b,hu,rfl⟩
  ·exact⟨_,hu,.inl ⟨_,_,_,rfl,rfl⟩⟩
  ·exact⟨_,hu,.inr ⟨_,rfl,rfl⟩⟩
 obtain⟨d,W3,T5⟩:=T5;have W4:=run_checkKey (P:=P) es.isEmpty 9999 hd w;rcases AL T5 es.toList 0 hg with⟨rfl,j,hj⟩|⟨rfl,rfl,hj⟩
 ·simp[Instr.lookup,run_underlying hu,run_getObj_map hw,W4,Instr.findKey,run_underlying W3,hj]
 ·simp[Instr.lookup,run_underlying hu,run_getObj_map hw,W4,Instr.findKey,run_underlying W3,hj,zeroValue,typeInfo,hi,hz]
theorem DS{own:List Bx}{H:Heap}(h:dx own H w)(hx:own[i]?=some ⟨b,true,ty,cs⟩):
  fW own i=b/\∃es c,w.heap[b]?=some (.map es c)/\ch es.toList=cs:=by
 have hm:(⟨b,true,ty,cs⟩:Bx)∈own:=zt hx;have:=h.ok _ hm;simp only[Bx.ok] at this;exact⟨by simp[fW,hx],this⟩
theorem Cv(t:TypeId)(ok:Bool)(st:St)(f:SV->Prop)(m key:SV)(h:DF C t ok st f m key):
  ∃r,f r/\Reads C.P st (Instr.lookup t (m.val st.own) (key.val st.own) ok) r:=by
 unfold DF at h;split at h
 ·rename_i kt e i hu
  have main:∀ {b:Nat} {ty:TypeId} {cs:List Value} {z r:Value} {t':Bool},rY C kt key=true->st.own[i]?=some ⟨b,true,ty,cs⟩->(C.P.info? e).bind (·.zero)=some z->ii z (key.val st.own) cs=some (r,t')->
    ∀w,fD st.H w->dx st.own st.H w->(Instr.lookup t (SV.val st.own (.mp i)) (key.val st.own) ok).run C.P w= .ok (if ok then .tuple #[r,.bool t'] else r) w:=by
   intro b ty cs z r t' hk hx hz hg w _ hb;obtain⟨e1,es,c,hw,W5⟩:=DS hb hx
   cases hi:C.P.info? e with
   |none=>simp[hi] at hz
   |some ie=>
    simp only[hi,yj] at hz;simp only[SV.val,e1];exact ID hu hi hz (tg hk) hw (by rw[W5];exact hg) ok
  split at h
  ·rename_i b ty cs z lk hk hx hz Sa;split at h
   ·obtain⟨r,⟨t',hg,hf⟩,_⟩:=LK.fv h;exact⟨_,hf,trivial,fun w hs hb=>by simpa[SV.val] using main hk hx hz hg w hs hb⟩
   ·obtain⟨r,⟨t',hg,hf⟩,_⟩:=LK.fv h;exact⟨_,hf,trivial,fun w hs hb=>by simpa[SV.val] using main hk hx hz hg w hs hb⟩
  ·rename_i b ty cs z hk hx hz Sa;split at h
   ·obtain⟨r,⟨t',hg,hf⟩,_⟩:=K1.fv h;exact⟨_,hf,trivial,fun w hs hb=>by simpa[SV.val] using main hk hx hz hg w hs hb⟩
   ·exact h.elim
  ·exact h.elim
 ·exact h.elim

theorem IE(t:TypeId)(st:St)(f:SV->Prop)(x:SV)(h:TX C t st f x):
  ∃r,f r/\r.wf st.own.length/\∀(ty:TypeId) w,((∀kt e,C.P.underlying t≠some (.map kt e))∨(fD st.H w/\dx st.own st.H w))->(Builtin.len_ #[t] ty #[x.val st.own]).run C.P w= .ok (r.val st.own) w:=by
 unfold TX at h;split at h
 ·split at h
  ·rename_i e hu;exact⟨_,h,trivial,fun ty w _=>by simp[Builtin.len_,run_underlying hu,SV.val,goInt]⟩
  ·exact h.elim
 ·split at h
  ·rename_i hu;exact⟨_,h,trivial,fun ty w _=>by simp[Builtin.len_,run_underlying hu,SV.val,goInt]⟩
  ·exact h.elim
 ·split at h
  ·rename_i kt e b ty' cs hu hx;refine⟨_,h,trivial,fun ty w hw=>?_⟩;rcases hw with hw|⟨_,hb⟩
   ·exact absurd hu (hw kt e)
   ·obtain⟨e1,es,c,hh,W5⟩:=DS hb hx
    have hl:∀l:List MapEntry,(ch l).length=2*l.length:=by
     intro l;induction l with
     |nil=>rfl
     |cons e l ih=>simp[ch,ih];omega
    have:cs.length/2=es.size:=by rw[←W5,hl];simp
    simp[Builtin.len_,run_underlying hu,SV.val,goInt,e1,run_getObj_map hh,this]
  ·exact h.elim
 ·exact h.elim
theorem IF(t:TypeId)(own:List Bx)(f:SV->Prop)(x:SV)(h:TY C t f x):∃r,f r/\∀ty,qp C.P own (Builtin.cap_ #[t] ty #[x.val own]) r:=by
 unfold TY at h;split at h
 ·split at h
  ·rename_i e hu;exact⟨_,h,fun ty=>⟨trivial,fun w=>by simp[Builtin.cap_,run_underlying hu,SV.val,goInt]⟩⟩
  ·exact h.elim
 ·exact h.elim
def Yields(C:qG)(st:St)(o:Oper)(s:SV):Prop:=
 ∀a w,dy C.nt st.env st.own a->(worldless C o=true∨(fD st.H w/\nu st.own w/\(qM o=true∨dx st.own st.H w)))->(execOp a.eval o).run C.P w= .ok (.value (s.val st.own)) w
set_option maxHeartbeats 1000000 in
theorem wS(o:Oper)(st:St){q:(SV->Prop)->Prop}(hq:AA C o st=some q){f:SV->Prop}(h:q f)(dX:Act)(v7:dy C.nt st.env st.own dX):
  ∃s,f s/\s.wf st.own.length/\Yields C st o s:=by
 unfold AA at hq;split at hq
 case h_1 x ho=>
  obtain rfl:=zy hq;split at h
  ·rename_i s hs;exact⟨s,h,(ai v7 hs).2,fun a w ha _=>by simp[execOp,ho,(ai ha hs).1]⟩
  ·exact h.elim
 case h_2 x ho=>
  obtain rfl:=zy hq;split at h
  ·rename_i s hs;exact⟨s,h,(ai v7 hs).2,fun a w ha _=>by simp[execOp,ho,(ai ha hs).1]⟩
  ·exact h.elim
 case h_3 c x y ho=>
  obtain rfl:=zy hq;split at h
  ·rename_i s hs;obtain⟨r,hf,hr⟩:=FD (nt:=C.nt) f x y s h;refine⟨r,hf,(hr dX v7).1,fun a w ha _=>?_⟩;obtain⟨_,b,hb,he⟩:=hr a ha;simp only[execOp,ho,(ai ha hs).1,hb,asBool,Sem.run_bind,Sem.run_pure,Result.andThen_ok,he]
  ·exact h.elim
 case h_4 op ty x y yt ho=>
  obtain rfl:=zy hq;split at h
  ·rename_i sx sy hx hy;obtain⟨r,hf,hw,hr⟩:=IB op ty o.type x y st.own sx sy f h;refine⟨r,hf,hw,fun a w ha _=>?_⟩;have:=hr w;simp only[aI] at this;simp only[execOp,ho,(ai ha hx).1,(ai ha hy).1];rw[Sem.run_bind,this];rfl
  ·exact h.elim
 case h_5 ty x ho=>
  obtain rfl:=zy hq;split at h
  ·rename_i s hs;obtain⟨r,hf,hw,hr⟩:=IC (C:=C) st.own f s h;exact⟨r,hf,hw,fun a w ha _=>by simp[execOp,ho,(ai ha hs).1,hr w]⟩
  ·exact h.elim
 case h_6 ty x ho=>
  obtain rfl:=zy hq;split at h
  ·rename_i k n hs;exact⟨_,h _ rfl,trivial,fun a w ha _=>by simp[execOp,ho,(ai ha hs).1,SV.val,Op.unary,Op.intArith]⟩
  ·exact h.elim
 case h_7 ty x ho=>
  obtain rfl:=zy hq;split at h
  ·rename_i s hs;obtain⟨r,hf,hw,hr⟩:=wR ty st f s h;refine⟨r,hf,hw,fun a w ha hc=>?_⟩;rcases hc with hc|⟨h1,h2,_⟩
   ·simp[worldless,ho] at hc
   ·simp[execOp,ho,(ai ha hs).1,hr w h1 h2]
  ·exact h.elim
 case h_8 s x Fe ho=>
  obtain rfl:=zy hq;split at h
  ·rename_i sx hs;obtain⟨r,hf,hw,hr⟩:=vY s Fe st f sx (ai v7 hs).2 h;exact⟨r,hf,hw,fun a w ha _=>by simp[execOp,ho,(ai ha hs).1,hr w]⟩
  ·exact h.elim
 case h_9 t x ix ho=>
  obtain rfl:=zy hq;split at h
  ·rename_i sx si hx hi
   obtain⟨r,hf,hw,hr⟩:=vZ t ix st f sx si (ai v7 hx).2 h (fun m hm=>by
    obtain⟨k,hk⟩:=DM (a:=dX) hm
    exact⟨k,by rw[←(ai v7 hi).1];exact hk⟩)
   exact⟨r,hf,hw,fun a w ha _=>by simp[execOp,ho,(ai ha hx).1,(ai ha hi).1,hr w]⟩
  ·exact h.elim
 case h_10 t x ix ho=>
  obtain rfl:=zy hq;split at h
  ·rename_i sx si hx hi;obtain⟨r,hf,hw,hr⟩:=DO t o.type st f sx si h;exact⟨r,hf,hw,fun a w ha _=>by simp[execOp,ho,(ai ha hx).1,(ai ha hi).1,hr w]⟩
  ·exact h.elim
 case h_11 t x Fe ho=>
  obtain rfl:=zy hq;split at h
  ·rename_i sx hs;obtain⟨r,hf,hw,hr⟩:=DN t Fe st f sx h;exact⟨r,hf,hw,fun a w ha _=>by simp[execOp,ho,(ai ha hs).1,hr w]⟩
  ·exact h.elim
 case h_12 x i ho=>
  obtain rfl:=zy hq;split at h
  ·rename_i vs hs;split at h
   ·rename_i v hv;have AM:vs[i]?=some v:=by simpa using hv
    exact⟨_,h,trivial,fun a w ha _=>by simp[execOp,ho,(ai ha hs).1,SV.val,Instr.extract,AM]⟩
   ·exact h.elim
  ·exact h.elim
 case h_13 t parts ho=>
  obtain rfl:=zy hq;obtain⟨r,hf,hr⟩:=DQ t parts st f h;refine⟨r,hf,(hr dX v7).1,fun a w ha _=>?_⟩;have:=(hr a ha).2 w;simp only[execOp,ho];rw[Sem.run_bind,this];rfl
 case h_14 t x lo hi mx ho=>
  obtain rfl:=zy hq;obtain⟨r,hf,hr⟩:=DR t st x lo hi mx f h;refine⟨r,hf,(hr dX v7).1,fun a w ha _=>?_⟩;have:=(hr a ha).2 w;simp only[execOp,ho];rw[Sem.run_bind,this];rfl
 case h_15 fn first lV ho=>
  obtain rfl:=zy hq;obtain⟨r,hf,hr⟩:=xU (C:=C) fn first lV st f h
  refine⟨r,hf,(hr dX v7).1,fun a w ha _=>?_⟩;have:=(hr a ha).2 w;simp only[execOp,ho];rw[Sem.run_bind,this];rfl
 case h_16 t m k ok ho=>
  obtain rfl:=zy hq;split at h
  ·rename_i sm sk hm hk;obtain⟨r,hf,hw,hr⟩:=Cv t ok st f sm sk h;refine⟨r,hf,hw,fun a w ha hc=>?_⟩;rcases hc with hc|⟨h1,_,h2⟩
   ·simp[worldless,ho] at hc
   ·rcases h2 with h2|h2
    ·simp[qM,ho] at h2
    ·simp[execOp,ho,(ai ha hm).1,(ai ha hk).1,hr w h1 h2]
  ·exact h.elim
 case h_17 args ts ho=>
  obtain rfl:=zy hq;split at h
  ·rename_i x t hx ht;obtain rfl:args= #[x]:=by apply yu;simpa using hx
   obtain rfl:ts= #[t]:=by apply yu;simpa using ht
   split at h
   ·rename_i s hs;obtain⟨r,hf,hw,hr⟩:=IE t st f s h;refine⟨r,hf,hw,fun a w ha hc=>?_⟩
    have DP:(∀kt e,C.P.underlying t≠some (.map kt e))∨(fD st.H w/\dx st.own st.H w):=by
     rcases hc with hc|hc
     ·refine .inl fun kt e hu=>?_;simp[worldless,ho,hu] at hc
     ·rcases hc with⟨h1,_,h2⟩;rcases h2 with h2|h2
      ·simp[qM,ho] at h2
      ·exact .inr ⟨h1,h2⟩
    simp[execOp,ho,resolve,invoke,builtin,(ai ha hs).1,hr o.type w DP]
   ·exact h.elim
  ·exact h.elim
 case h_18 args ts ho=>
  obtain rfl:=zy hq;split at h
  ·rename_i x t hx ht;obtain rfl:args= #[x]:=by apply yu;simpa using hx
   obtain rfl:ts= #[t]:=by apply yu;simpa using ht
   split at h
   ·rename_i s hs;obtain⟨r,hf,hr⟩:=IF t st.own f s h;exact⟨r,hf,(hr o.type).1,fun a w ha _=>by simp[execOp,ho,resolve,invoke,builtin,(ai ha hs).1,(hr o.type).2 w]⟩
   ·exact h.elim
  ·exact h.elim
 case h_19 args ts ho=>
  obtain rfl:=zy hq;split at h
  ·rename_i x y hx;obtain rfl:args= #[x,y]:=by apply yu;simpa using hx
   split at h
   ·rename_i k n k' m h1 h2;exact⟨_,h,trivial,fun a w ha _=>by simp[execOp,ho,resolve,invoke,builtin,(ai ha h1).1,(ai ha h2).1,SV.val,Builtin.min_,Builtin.min2]⟩
   ·exact h.elim
  ·exact h.elim
 case h_20 args ts ho=>
  obtain rfl:=zy hq;split at h
  ·rename_i x y hx;obtain rfl:args= #[x,y]:=by apply yu;simpa using hx
   split at h
   ·rename_i k n k' m h1 h2;exact⟨_,h,trivial,fun a w ha _=>by simp[execOp,ho,resolve,invoke,builtin,(ai ha h1).1,(ai ha h2).1,SV.val,Builtin.max_,Builtin.max2]⟩
   ·exact h.elim
  ·exact h.elim
 case h_21 x ho=>
  obtain rfl:=zy hq;split at h
  ·rename_i i off hs;exact⟨_,h,(ai v7 hs).2,fun a w ha _=>by simp[execOp,ho,(ai ha hs).1,SV.val]⟩
  ·rename_i i off hs;exact⟨_,h,(ai v7 hs).2,fun a w ha _=>by simp[execOp,ho,(ai ha hs).1,SV.val]⟩
  ·rename_i p hs;exact⟨_,h,trivial,fun a w ha _=>by simp[execOp,ho,(ai ha hs).1,SV.val]⟩
  ·exact h.elim
 case h_22 src dst x ho=>
  split at hq
  ·rename_i k n hs;obtain rfl:=zy hq;split at h
   ·rename_i d k' M7 sb;refine⟨_,h _ rfl,trivial,fun a w ha _=>?_⟩;simp[execOp,ho,(ai ha hs).1,SV.val,convert,run_underlying M7,run_underlying sb,Conv.intToInt]
   ·exact h.elim
  ·rename_i s hs;split at hq
   ·rename_i sb;obtain rfl:=zy hq;split at h
    ·rename_i M7;refine⟨_,h,trivial,fun a w ha _=>?_⟩;simp[execOp,ho,(ai ha hs).1,SV.val,convert,run_underlying M7,run_underlying sb]
    ·exact h.elim
   ·cases hq
  ·rename_i xa n xc hs;obtain rfl:=zy hq;unfold Nx at h;split at h
   ·rename_i e M7 sb;split at h
    ·rename_i DT;obtain⟨l,rfl,Ff,hf⟩:=h;refine⟨_,hf,trivial,fun a w ha hc=>?_⟩;rcases hc with hc|⟨h1,h2⟩
     ·simp[worldless,ho] at hc
     ·have hr:(convert src dst (.slice xa l.length xc)).run C.P w= .ok (.string ⟨l.toArray⟩) w:=by
       by_cases hl:l=[]
       ·subst hl;rw[zX,run_convert_bytes_string w src dst e xa 0 xc M7 DT sb]
        cases xa<;>simp[Conv.bytesToString,loadCells,loadCellsFrom]<;>rfl
       ·obtain⟨b,o',rfl,ku⟩:=Ff.resolve_left (by simpa using hl);refine run_convert_bytes_back w src dst e ⟨b,o',none⟩ xc l M7 DT sb fun j hj=>?_;have:=h1.cell (kr ku j (.int .u8 (l[j].toNat:Int)) (by simp[qm,hj]));rw[addr_add];simpa using this
      simp[execOp,ho,(ai ha hs).1,SV.val,hr]
    ·exact h.elim
   ·exact h.elim
  ·cases hq
 case h_23=>cases hq
end
open Go

structure iR(C:qG)(w0:World)(bc:List Nat)(own:List Bx)(H:Heap)(w:World):Prop where
 dI:fD H w
 aE:dx own H w
 mK:∀x∈own,C.aa<=x.b∨x.b∈bc
 below:bL bc w0 w
 next:Next C.aa C.H0 H
 aa:C.aa=w0.heap.size
 jo:fD C.H0 w0

section
variable {C : qG} {w0 : World} {bc : List Nat}
theorem iR.fx{own:List Bx}{H:Heap}(h:iR C w0 bc own H w):C.aa<=w.heap.size:=by rw[h.aa];exact h.below.size
theorem iR.FF{own:List Bx}{H:Heap}(h:iR C w0 bc own H w){k:KB}(hb:C.H0 b=some k):b<C.aa:=by rw[h.aa];exact h.jo.lt hb

theorem gB:∀ {vs:List Value},aM vs=true->∀v∈vs,v.oneCell'=true
 | [],_,v,h=>by cases h
 |x::r,h,v,hv=>by
  simp only[aM,zT] at h;rcases zm.1 hv with rfl|hv
  ·exact h.1
  ·exact gB h.2 v hv
theorem eI:∀(vs cs:List Value)(o j:Nat),o+vs.length<=cs.length->(aV cs o vs)[j]?=if o<=j/\j<o+vs.length then vs[j-o]? else cs[j]?
 | [],cs,o,j,_=>by simp[aV];intros;omega
 |v::vs,cs,o,j,h=>by
  simp only[aV];rw[eI vs (cs.set o v) (o+1) j (by simp at h⊢;omega)];simp only[zi] at*;by_cases h1:o+1<=j/\j<o+1+vs.length
  ·rw[pI h1,pI (by omega)];obtain⟨d,rfl⟩:∃d,j=o+1+d:=⟨j-(o+1),by omega⟩
   rw[show o+1+d-(o+1)=d from by omega,show o+1+d-o=d+1 from by omega];simp
  ·rw[nI h1];by_cases h2:o=j
   ·subst h2;rw[pI (by omega)];simp only[Nat.sub_self,List.getElem?_cons_zero];rw[List.getElem?_set_self (by omega)]
   ·rw[nI (by omega),yO h2]
theorem ia(cs vs:List Value)(o:Nat)(h:o+vs.length<=cs.length):aV cs o vs=cs.take o++vs++cs.drop (o+vs.length):=by
 apply List.ext_getElem?;intro j;rw[eI vs cs o j h];by_cases h1:j<o
 ·rw[nI (by omega),zE,zU (by simp;omega),zD,pI h1]
 ·by_cases h2:j<o+vs.length
  ·rw[pI (by omega),zE,zY (by simp;omega),zU (by simp;omega)]
   congr 1
   simp;omega
  ·rw[nI (by omega),zY (by simp;omega),List.getElem?_drop]
   congr 1
   simp;omega
theorem uN{o:Nat}{cur:Array Value}(hi:(C.P.info? ty).isSome=true)(hl:v.cells.toList.length=C.P.cellsOf ty)(h1:aM v.cells.toList=true)
  (hb:w.heap[b]?=some (.cells cur bt (0,0))) (ho:o+C.P.cellsOf ty<=cur.size):
  (Instr.storeAt ty (.pointer (some ⟨b,o,none⟩)) v).run C.P w= .ok () (w.setRow b (aV cur.toList o v.cells.toList).toArray):=by
 have hs:v.cells.size=C.P.cellsOf ty:=by simpa using hl
 have:=run_storeCells_at C.P b o bt v.cells.toList 0 cur w hb (by simp;omega) (gB h1);simp only[Nat.add_zero] at this;rw[←ia _ _ _ (by simp;omega)] at this;simp[Instr.storeAt,Instr.sureAddr,storeVar,dt hi,hs,this]
theorem lN(h:storable C ty vs f):(C.P.info? ty).isSome=true/\vs.length=C.P.cellsOf ty/\aM vs=true/\f:=by
 unfold storable at h;obtain⟨hi,h⟩:=lp h;refine⟨hi,?_⟩;split at h
 ·rename_i n hk;obtain⟨h1,h2,h3⟩:=h;refine⟨?_,h2,h3⟩;rw[h1];unfold ju at hk;split at hk
  ·split at hk
   ·cases hk
   ·cases hk;rfl
  ·cases hk;rfl
  ·cases hk
 ·split at h
  ·rename_i hc;exact⟨hc.1,hc.2,h⟩
  ·exact h.elim

theorem pF{own:List Bx}{H:Heap}(h:dx own H w){x y:Bx}(hx:own[i]?=some x)(hy:own[j]?=some y)(e:x.b=y.b):i=j:=by
 have hi:=pC hx;have hj:=pC hy;have:=h.apart;have e1:(own.map Bx.b)[i]?=(own.map Bx.b)[j]?:=by simp[hx,hy,e]
 exact(List.getElem?_inj (by simpa using hi) this).1 e1
theorem mem_set{α:Type}{l:List α}{x y:α}(h:y∈l.set i x):y=x∨ ∃j:Nat,j≠i/\l[j]?=some y:=by
 obtain⟨j,hj⟩:=yr.1 h;by_cases e:i=j
 ·subst e;have hl:=pC hj;simp at hl;simp[hl] at hj;exact .inl hj.symm
 ·rw[yO e] at hj;exact .inr ⟨j,Ne.symm e,hj⟩
theorem LD{own:List Bx}{H:Heap}(h:dx own H w){x x':Bx}(hx:own[i]?=some x)(hb:x'.b=x.b)(eC:x'.ok w')
  (ny:∀k,k≠x.b->k<w.heap.size->w'.heap[k]?=w.heap[k]?):dx (own.set i x') H w':=by
 have hm:=zt hx;refine⟨fun y hy=>?_,fun y hy=>?_,?_⟩
 ·rcases mem_set hy with rfl|⟨j,LF,hj⟩
  ·exact eC
  ·have VW:=zt hj;have eE:y.b≠x.b:=fun e=>LF (pF h hj hx e);exact Bx.nX (h.ok y VW) (ny _ eE (Bx.qo (h.ok y VW)))
 ·rcases mem_set hy with rfl|⟨j,LF,hj⟩
  ·rw[hb];exact h.hid x hm
  ·exact h.hid y (zt hj)
 ·have:(own.set i x').map Bx.b=own.map Bx.b:=by
   rw[List.map_set,hb];apply List.ext_getElem?;intro j;by_cases e:i=j
   ·subst e;rw[List.getElem?_set_self (by simpa using pC hx)];simp[hx]
   ·rw[yO e]
  rw[this];exact h.apart
theorem iR.step{own:List Bx}{H:Heap}(h:iR C w0 bc own H w)(hos:w'.os=w.os)(hta:w'.tape=w.tape)(hou:w'.output=w.output)(kv:w.heap.size<=w'.heap.size)
  (ny:∀k,k<C.aa->k∉bc->w'.heap[k]?=w.heap[k]?):bL bc w0 w':=
 ⟨hos.trans h.below.os,hta.trans h.below.tape,hou.trans h.below.output,Nat.le_trans h.below.size kv,fun k hk hn=>(ny k (by rw[h.aa];exact hk) hn).trans (h.below.block k hk hn)⟩
theorem iR.NG{own:List Bx}{H:Heap}(h:iR C w0 bc own H w){x x':Bx}(hx:own[i]?=some x)(hb:x'.b=x.b)(eC:x'.ok w')
  (ny:∀k,k≠x.b->k<w.heap.size->w'.heap[k]?=w.heap[k]?) (hos:w'.os=w.os) (hta:w'.tape=w.tape) (hou:w'.output=w.output) (kv:w'.heap.size=w.heap.size):iR C w0 bc (own.set i x') H w':=by
 have hm:=zt hx;have Ia:=h.fx;refine⟨h.dI.of_same fun b k hk=>ny b (fun e=>?_) (h.dI.lt hk),LD h.aE hx hb eC ny,fun y hy=>?_,h.step hos hta hou (by omega) fun k hk hn=>ny k (fun e=>?_) (by omega),h.next,h.aa,h.jo⟩
 ·rw[e,h.aE.hid x hm] at hk;cases hk
 ·rcases mem_set hy with rfl|⟨j,_,hj⟩
  ·rw[hb];exact h.mK x hm
  ·exact h.mK y (zt hj)
 ·subst e;rcases h.mK x hm with hl|hl
  ·omega
  ·exact hn hl
theorem iR.DU{own:List Bx}{H:Heap}(h:iR C w0 bc own H w){o:Obj}{x:Bx}(hb:x.b=w.heap.size)(eC:x.ok (w.alloc o)):iR C w0 bc (own++[x]) H (w.alloc o):=by
 have hB:bL [] w (w.alloc o):=bL.alloc [] w o;have Ia:=h.fx;refine⟨h.dI.below hB,⟨fun y hy=>?_,fun y hy=>?_,?_⟩,fun y hy=>?_,h.step rfl rfl rfl hB.size fun k hk _=>hB.block k (by omega) (by simp),h.next,h.aa,h.jo⟩
 ·rcases zd.1 hy with hy|hy
  ·exact(h.aE.below hB).ok y hy
  ·obtain rfl:=zN.1 hy;exact eC
 ·rcases zd.1 hy with hy|hy
  ·exact h.aE.hid y hy
  ·obtain rfl:=zN.1 hy
   cases hk:H y.b with
   |none=>rfl
   |some k=>have:=h.dI.lt hk;omega
 ·rw[List.map_append,List.nodup_append];refine⟨h.aE.apart,by simp,fun b T6 b2 Qk e=>?_⟩;obtain⟨y,hy,rfl⟩:=zM.1 T6;simp at Qk;have:=Bx.qo (h.aE.ok y hy);omega
 ·rcases zd.1 hy with hy|hy
  ·exact h.mK y hy
  ·obtain rfl:=zN.1 hy;exact .inl (by omega)
theorem iR.AN{own:List Bx}{H:Heap}(h:iR C w0 bc own H w){o:Obj}{k:KB}(hk:k.dI (some o)):iR C w0 bc own (fun b=>if b=w.heap.size then some k else H b) (w.alloc o)/\Next w.heap.size H (fun b=>if b=w.heap.size then some k else H b)/\H w.heap.size=none:=by
 have hB:bL [] w (w.alloc o):=bL.alloc [] w o;have Ia:=h.fx
 have hn:H w.heap.size=none:=by
  cases hk:H w.heap.size with
  |none=>rfl
  |some k=>exact absurd (h.dI.lt hk) (by omega)
 have hx:Next w.heap.size H (fun b=>if b=w.heap.size then some k else H b):=by
  refine⟨fun b k' hb=>?_,fun b k' hb hnb=>?_⟩
  ·by_cases e:b=w.heap.size
   ·subst e;rw[hn] at hb;cases hb
   ·simpa[e] using hb
  ·by_cases e:b=w.heap.size
   ·omega
   ·simp[e,hnb] at hb
 refine⟨⟨fun b k' hb=>?_,⟨(h.aE.below hB).ok,fun y hy=>?_,h.aE.apart⟩,h.mK,h.step rfl rfl rfl hB.size fun k hk _=>hB.block k (by omega) (by simp),h.next.trans (hx.mono Ia),h.aa,h.jo⟩,hx,hn⟩
 ·by_cases e:b=w.heap.size
  ·subst e;simp only[pI] at hb;obtain rfl:=zy hb
   show k.dI ((w.heap.push o)[w.heap.size]?)
   simpa using hk
  ·simp only[nI e] at hb;exact(h.dI.below hB) b k' hb
 ·have:=Bx.qo (h.aE.ok y hy);rw[nI (by omega)];exact h.aE.hid y hy
theorem tW(ty:TypeId)(cs:List Value):(ay ty cs).dI (some (.cells cs.toArray ty (0,0))):=
 ⟨cs.toArray,(0,0),rfl,by simp[ay],fun _=>rfl,fun j v hv=>by simpa[ay] using hv⟩
end
open Go
section
variable {C : qG} {w0 : World} {bc : List Nat}
theorem NH{own:List Bx}{H:Heap}(h:dx own H w)(hx:own[i]?=some ⟨b,false,ty,cs⟩):w.heap[b]?=some (.cells cs.toArray ty (0,0)):=by
 have:=h.ok _ (zt hx);simpa[Bx.ok] using this
theorem AO{own:List Bx}{H:Heap}(hw:iR C w0 bc own H w){off:Nat}(hx:own[i]?=some ⟨b,false,bt,cs⟩)
  (hi:(C.P.info? ty).isSome=true) (hl:v.cells.toList.length=C.P.cellsOf ty) (h1:aM v.cells.toList=true) (ho:off+C.P.cellsOf ty<=cs.length):
  ∃w',(Instr.storeAt ty (.pointer (some ⟨fW own i,off,none⟩)) v).run C.P w= .ok () w'/\iR C w0 bc (own.set i ⟨b,false,bt,aV cs off v.cells.toList⟩) H w':=by
 have hb:=NH hw.aE hx;have e:fW own i=b:=pB hx;have hr:=uN (ty:=ty) (o:=off) (v:=v) hi hl h1 hb (by simpa using ho);rw[e];refine⟨_,hr,hw.NG (x':=⟨b,false,bt,aV cs off v.cells.toList⟩) hx rfl ?_ (fun k hk _=>setRow_other w b k _ hk) rfl rfl rfl (by simp)⟩;simp only[Bx.ok];exact setRow_heap w b _ _ bt _ hb
theorem qW(h:cs.length=vs.length):aV cs 0 vs=vs:=by
 apply List.ext_getElem?;intro j;rw[eI _ _ _ _ (by omega)];split
 ·simp
 ·rw[List.getElem?_eq_none (by omega),List.getElem?_eq_none (by omega)]
theorem DV(ty:TypeId)(st:St)(v:Value)(f:List Bx->Heap->Prop)(sa:SV)(hw:iR C w0 bc st.own st.H w)(h:Iv C ty st v.cells.toList f sa):
  ∃dQ H' w',f dQ H'/\aW st.own dQ/\iR C w0 bc dQ H' w'/\(Instr.storeAt ty (sa.val st.own) v).run C.P w= .ok () w':=by
 unfold Iv at h;split at h
 ·rename_i i off;split at h
  ·rename_i b bt cs hx;split at h
   ·rename_i hk;obtain⟨hi,hl,h1,v8,h⟩:=lN h;obtain⟨w',hr,er⟩:=AO (off:=0) hw hx hi hl h1 (by omega);rw[qW (by omega)] at er;exact⟨_,_,w',h,aW.set hx rfl rfl rfl,er,hr⟩
   ·obtain⟨hi,hl,h1,h⟩:=lN h;split at h
    ·rename_i ho;obtain⟨w',hr,er⟩:=AO hw hx hi hl h1 ho;exact⟨_,_,w',h,aW.set hx rfl rfl rfl,er,hr⟩
    ·exact h.elim
  ·exact h.elim
 ·rename_i i off;split at h
  ·rename_i b bt cs hx;obtain⟨hi,hl,h1,ho,h⟩:=lN h;obtain⟨w',hr,er⟩:=AO hw hx hi hl h1 ho;exact⟨_,_,w',h,aW.set hx rfl rfl rfl,er,hr⟩
  ·exact h.elim
 ·rename_i b o;obtain⟨hi,hl,h1,k,hk,dj,fN,ho,h⟩:=lN h;obtain⟨cur,fr,IG,kv,IH,ku⟩:=hw.dI b k hk;obtain rfl:=IH dj;have hr:=uN (ty:=ty) (o:=o) (v:=v) hi hl h1 IG (by omega);have hlen:o+v.cells.toList.length<=cur.toList.length:=by simp at hl⊢;omega
  let H':Heap:=fun x=>if x=b then some { k with cells:=gA k.cells o v.cells.toList } else st.H x
  have hu:kW st.H b o k v.cells.toList H':=⟨by simp[H'],fun x hx=>by simp[H',hx]⟩
  have ny:∀x,x≠b->(w.setRow b (aV cur.toList o v.cells.toList).toArray).heap[x]?=w.heap[x]?:=fun x hx=>setRow_other w b x _ hx
  have Fg:C.H0 b=none:=by
   cases h0:C.H0 b with
   |none=>rfl
   |some k0=>have:=hw.FF h0;omega
  refine⟨_,H',w.setRow b (aV cur.toList o v.cells.toList).toArray,h H' hu,aW.refl _,⟨fun x k' hx=>?_,⟨fun y hy=>?_,fun y hy=>?_,hw.aE.apart⟩,hw.mK,hw.step rfl rfl rfl (by simp) (fun x hx _=>ny x (by omega)),⟨fun x k' hx=>?_,fun x k' hx hx0=>?_⟩,hw.aa,hw.jo⟩,hr⟩
  ·by_cases e:x=b
   ·subst e;simp only[H',pI] at hx;obtain rfl:=zy hx;rw[setRow_heap w x cur _ k.ty _ IG];refine⟨_,_,rfl,by simp[fG,kv],fun _=>rfl,fun j v' AM=>?_⟩;simp only[List.getElem?_toArray];rw[eI _ _ _ _ hlen];simp only[gA] at AM;split
    ·rename_i hc;rw[pI hc] at AM;exact AM
    ·rename_i hc;rw[nI hc] at AM;simpa using ku j v' AM
   ·simp only[H',nI e] at hx;rw[ny x e];exact hw.dI x k' hx
  ·have eE:y.b≠b:=fun e=>by have:=hw.aE.hid y hy;rw[e,hk] at this;cases this
   exact Bx.nX (hw.aE.ok y hy) (ny _ eE)
  ·have eE:y.b≠b:=fun e=>by have:=hw.aE.hid y hy;rw[e,hk] at this;cases this
   simp only[H',nI eE];exact hw.aE.hid y hy
  ·have eE:x≠b:=fun e=>by rw[e,Fg] at hx;cases hx
   simp only[H',nI eE];exact hw.next.ext x k' hx
  ·by_cases e:x=b
   ·omega
   ·simp only[H',nI e] at hx;exact hw.next.fresh x k' hx hx0
 ·exact h.elim

def dJ(C:qG)(a:Act)(o:Oper):Bool:=
 match o.op with
 | .call { callee:= .value (.tmp t), .. } =>(match a.tmps.getD t undef with| .func (.func g) _ _=>C.fE.list.contains g|_=>true)
 | .insert .. =>false
 |_=>turns C o
def sR(C:qG)(w0:World)(bc:List Nat)(st:St)(o:Oper)(a:Act)(w:World)(f:SV->List Bx->Heap->Prop)(K:Act->World->Prop):Prop:=
 ∀s dQ H' w',f s dQ H'->s.wf dQ.length->aW st.own dQ->iR C w0 bc dQ H' w'->(dJ C a o=false->qU w w')->K (a.put o.dst (s.val dQ)) w'
theorem dG{P:Program}{a:Act}{K:Act->World->Prop}{Q:Exit->Act->World->Prop}(hr:(execOp a.eval o).run P w= .ok (.value v) w')(h:K (a.put o.dst v) w'):o.wp P a w K Q:=by
 unfold Oper.wp;rw[hr];exact h
theorem FG{P:Program}{a:Act}{K:Act->World->Prop}{Q:Exit->Act->World->Prop}(hr:(execOp a.eval o).run P w= .ok .skip w')(h:K (a.put o.dst undef) w'):o.wp P a w K Q:=by
 unfold Oper.wp;rw[hr];exact h

theorem gQ(h:ep C.P t=some z):∃i zv,C.P.info? t=some i/\i.zero=some zv/\zv.cells.toList=z:=by
 unfold ep at h
 cases hi:C.P.info? t with
 |none=>simp[hi] at h
 |some it=>
  cases uG:it.zero with
  |none=>simp[hi,uG] at h
  |some zv=>exact⟨it,zv,rfl,uG,by simpa[hi,uG] using h⟩
theorem Ab(z:Array Value):∀n:Nat,madeCells z (n*z.size)=((zk n z.toList).flatten).toArray:=by
 intro n;apply yu;simp only[madeCells,Array.toList_map,Array.toList_range]
 induction n with
 |zero=>simp
 |succ n ih=>
  rw[yz,List.range_add,List.map_append,ih,List.replicate_succ',zI]
  congr 1
  simp only[List.map_map,zW,List.flatten_nil,zZ];apply List.ext_getElem?;intro j;by_cases hj:j<z.size
  ·simp[hj,Nat.mod_eq_of_lt hj,Nat.mul_add_mod',getElem!_pos,Nat.add_mod]
  ·simp[hj,Nat.le_of_not_lt hj]
end
open Go Go.RowKit
section
variable {C : qG} {w0 : World} {bc : List Nat}
theorem pG{own:List Bx}(x:Bx):own.length<(own++[x]).length:=by simp
theorem mL{own:List Bx}(x:Bx):fW (own++[x]) own.length=x.b:=by simp[fW]

theorem FH(ho:o.op= .alloc t){st:St}{a:Act}(hw:iR C w0 bc st.own st.H w){f:SV->List Bx->Heap->Prop}{K:Act->World->Prop}{Q:Exit->Act->World->Prop}
  (hK:sR C w0 bc st o a w f K)  (hz:ep C.P t=some z) (h:∀b:Nat,f (.loc st.own.length 0) (st.own++[⟨b,false,t,z⟩]) st.H):o.wp C.P a w K Q:=by
 obtain⟨i,zv,hi,uG,rfl⟩:=gQ hz
 have hr:(execOp a.eval o).run C.P w= .ok (.value (.pointer (some ⟨w.heap.size,0,none⟩))) (w.alloc (.cells zv.cells t)):=by
  simp[execOp,ho,Instr.alloc,zeroValue,typeInfo,hi,uG,newVar,newRow]
 refine dG hr ?_
 have:=hK _ _ _ (w.alloc (.cells zv.cells t)) (h w.heap.size) (pG _) (aW.append _ _) (hw.DU rfl (by
  simp only[Bx.ok];show(w.heap.push _)[w.heap.size]?=_;simp)) (fun _=>(bL.alloc [] w _).Iy)
 simpa[SV.val,mL] using this
theorem LG(ho:o.op= .box t x){st:St}{a:Act}(ha:dy C.nt st.env st.own a)(hw:iR C w0 bc st.own st.H w){f:SV->List Bx->Heap->Prop}{K:Act->World->Prop}{Q:Exit->Act->World->Prop}
  (hK:sR C w0 bc st o a w f K) {s:SV} (hs:st.get x=some s) (h:∀b:Nat,f (.loc st.own.length 0) (st.own++[⟨b,false,t,(s.val st.own).cells.toList⟩]) st.H):o.wp C.P a w K Q:=by
 have hr:(execOp a.eval o).run C.P w= .ok (.value (.pointer (some ⟨w.heap.size,0,none⟩))) (w.alloc (.cells (s.val st.own).cells t)):=by
  simp[execOp,ho,Instr.box,newVar,newRow,(ai ha hs).1]
 refine dG hr ?_
 have:=hK _ _ _ (w.alloc (.cells (s.val st.own).cells t)) (h w.heap.size) (pG _) (aW.append _ _) (hw.DU rfl (by
  simp only[Bx.ok];show(w.heap.push _)[w.heap.size]?=_;simp)) (fun _=>(bL.alloc [] w _).Iy)
 simpa[SV.val,mL] using this
theorem Cw(ho:o.op= .makeMap t none){st:St}{a:Act}(hw:iR C w0 bc st.own st.H w){f:SV->List Bx->Heap->Prop}{K:Act->World->Prop}{Q:Exit->Act->World->Prop}
  (hK:sR C w0 bc st o a w f K) (h:∀b:Nat,f (.mp st.own.length) (st.own++[⟨b,true,t,[]⟩]) st.H):o.wp C.P a w K Q:=by
 have hr:(execOp a.eval o).run C.P w= .ok (.value (.map (some w.heap.size))) (w.alloc (.map #[] 0)):=by
  simp[execOp,ho,Instr.makeMap]
 refine dG hr ?_
 have:=hK _ _ _ (w.alloc (.map #[] 0)) (h w.heap.size) (pG _) (aW.append _ _) (hw.DU rfl (by
  simp only[Bx.ok];exact⟨#[],0,by show(w.heap.push _)[w.heap.size]?=_;simp,rfl⟩)) (fun _=>(bL.alloc [] w _).Iy)
 simpa[SV.val,mL] using this
theorem uO(place:Nat->Option (Nat×Nat)):∀(parts:List (Nat×Value))(cells out:List Value),tb place cells parts=some out->out.length=cells.length
 | [],cells,out,h=>by simp[tb] at h;subst h;rfl
 |(i,v)::rest,cells,out,h=>by
  simp only[tb] at h;split at h
  ·cases h
  ·split at h
   ·rw[uO place rest _ _ h,fG]
   ·cases h
theorem wb{parts:Array (Nat×Operand)}(ho:o.op= .buildSlice t n parts){st:St}{a:Act}(ha:dy C.nt st.env st.own a)(hw:iR C w0 bc st.own st.H w)
  {f:SV->List Bx->Heap->Prop} {K:Act->World->Prop} {Q:Exit->Act->World->Prop} (hK:sR C w0 bc st o a w f K) {Ny:Bool} (h:qL C t n parts.toList st Ny f):o.wp C.P a w K Q:=by
 unfold qL at h;split at h
 ·rename_i e hu;split at h
  ·rename_i z vs hz cv;split at h
   ·rename_i hc;obtain⟨Fb,M8,hc3⟩:=hc;split at h
    ·rename_i cells ku;obtain⟨i,zv,hi,uG,rfl⟩:=gQ hz;have kv:i.size=C.P.cellsOf e:=by simp[Program.cellsOf,hi]
     have NJ:zv.cells.size=C.P.cellsOf e:=by simpa using M8
     have hev:(parts.map fun(i,x)=>(i,a.eval x)).toList=vs:=by
      rw[Array.toList_map];exact mJ ha cv
     have hev2:List.map (fun x=>(x.fst,a.eval x.snd)) parts.toList=vs:=mJ ha cv
     have hr:(execOp a.eval o).run C.P w= .ok (.value (.slice (some ⟨w.heap.size,0,none⟩) n n)) (w.alloc (.cells cells.toArray e)):=by
      have hf:=fill_eq _ _ _ _ ku;rw[←Ab,NJ,←kv] at hf;by_cases h0:n*i.size=0
      ·have hn:n=0:=by
        rcases Nat.mul_eq_zero.1 h0 with h|h
        ·exact h
        ·omega
       subst hn
       have hvn:cells=[]:=by
        have:=uO _ _ _ _ ku;simpa using this
       subst hvn
       have hf':Instr.fill (fun QG=>some (QG*i.size,i.size)) #[] vs=some #[]:=by
        simpa[madeCells,Array.range_zero'] using hf
       have W6:(Instr.buildSlice t 0 (parts.map fun(i,x)=>(i,a.eval x))).run C.P w= .ok (.slice (some ⟨w.heap.size,0,none⟩) 0 0) (w.alloc (.cells #[] e)):=by
        simp[Instr.buildSlice,run_underlying hu,sizeOf,typeInfo,hi,newRow,Array.range_zero',hev2,hf']
       simp only[execOp,ho];rw[Sem.run_bind,W6];rfl
      ·have W6:=run_buildSlice w t e n (parts.map fun(i,x)=>(i,a.eval x)) cells.toArray i zv hu hi uG (by rw[kv];omega) h0 (by rw[hev];exact hf);simp only[execOp,ho];rw[Sem.run_bind,W6];rfl
     refine dG hr ?_;split at h
     ·have:=hK _ _ _ (w.alloc (.cells cells.toArray e)) (h w.heap.size) (pG _) (aW.append _ _) (hw.DU rfl (by
       simp only[Bx.ok];show(w.heap.push _)[w.heap.size]?=_;simp)) (fun _=>(bL.alloc [] w _).Iy)
      simpa[SV.val,mL] using this
     ·obtain⟨h1,h2,h3⟩:=hw.AN (tW e cells);exact hK _ _ _ _ (h w.heap.size _ (h2.mono hw.fx) h3 (by simp)) trivial (aW.refl _) h1 (fun _=>(bL.alloc [] w _).Iy)
    ·exact h.elim
   ·exact h.elim
  ·exact h.elim
 ·exact h.elim
theorem xV{lo co:Operand}(ho:o.op= .makeSlice t lo co){st:St}{a:Act}(ha:dy C.nt st.env st.own a)(hw:iR C w0 bc st.own st.H w)
  {f:SV->List Bx->Heap->Prop} {K:Act->World->Prop} {Q:Exit->Act->World->Prop} (hK:sR C w0 bc st o a w f K) {sl sc:SV} (hl:st.get lo=some sl) (hc:st.get co=some sc) (h:tU C t st f sl sc):o.wp C.P a w K Q:=by
 unfold tU at h;split at h
 ·rename_i e l c hu;split at h
  ·rename_i z hz;split at h
   ·rename_i NK;obtain⟨h0,h1,h2,h3,h⟩:=h;obtain⟨i,zv,hi,uG,rfl⟩:=gQ hz;have kv:i.size=C.P.cellsOf e:=by simp[Program.cellsOf,hi]
    have Fh:i.bytes=C.P.bytesOf e:=by simp[Program.bytesOf,hi]
    have NJ:zv.cells.size=C.P.cellsOf e:=by simpa using NK
    have hr:=run_make (P:=C.P) w t e i zv hu hi uG .i64 .i64 l c h0 h1 (by
     rw[Fh];have:c=(c.toNat:Int):=by omega
     rw[this,←Int.natCast_mul,Nat.mul_comm];omega) h3
    rw[kv,←NJ,Ab] at hr
    have we:(execOp a.eval o).run C.P w= .ok (.value (.slice (some ⟨w.heap.size,0,none⟩) l.toNat c.toNat)) (w.alloc (.cells (zk c.toNat zv.cells.toList).flatten.toArray e)):=by
     simp only[execOp,ho,(ai ha hl).1,(ai ha hc).1,SV.val];rw[Sem.run_bind,hr];rfl
    refine dG we ?_;obtain⟨h4,h5,h6⟩:=hw.AN (tW e (zk c.toNat zv.cells.toList).flatten);exact hK _ _ _ _ (h w.heap.size _ (h5.mono hw.fx) h6 (by simp)) trivial (aW.refl _) h4 (fun _=>(bL.alloc [] w _).Iy)
   ·exact h.elim
  ·exact h.elim
 ·exact h.elim

def FI(aa:Nat)(H:Heap)(e:TypeId)(size:Nat)(a:O)(n c:Nat)(xs:List Value):Prop:=
 xs.length=n*size/\n<=c/\c<=maxLen/\
 ((a=none/\n=0/\c=0)∨ ∃g k,a=some ⟨g,0,none⟩/\aa<=g/\H g=some k/\k.ty=e/\k.size=c*size/\k.free=true/\∀j v,xs[j]?=some v->k.cells j=some v)
theorem FI.row{H:Heap}{a:O}{c:Nat}(h:FI aa H e size a n c xs):bg aa H e size a n c xs:=
 ⟨h.1,h.2.1,h.2.2.1,h.2.2.2.imp (fun h=>h.2) id⟩
theorem bg.Sb{H:Heap}{a:O}{c:Nat}(h:bg aa H e size a n c xs):(n=0/\c=0/\FI aa H e size none 0 0 xs)∨(c≠0/\FI aa H e size a n c xs):=by
 obtain⟨h1,h2,h3,h4⟩:=h;by_cases hc:c=0
 ·subst hc;obtain rfl:n=0:=by omega
  exact .inl ⟨rfl,rfl,h1,h2,h3,.inl ⟨rfl,rfl,rfl⟩⟩
 ·rcases h4 with⟨_,h5⟩|h4
  ·exact absurd h5 hc
  ·exact .inr ⟨hc,h1,h2,h3,.inr h4⟩
theorem FI.LH{H:Heap}(hs:fD H w){a:O}{c:Nat}(h:FI aa H e size a n c xs):w.ownsRow aa e size (.slice a n c) n xs:=by
 obtain⟨h1,h2,h3,h4⟩:=h;refine⟨h1,?_⟩;rcases h4 with⟨rfl,rfl,rfl⟩|⟨g,k,rfl,hg,hH,Ki,LJ,dj,v8⟩
 ·exact .inl ⟨rfl,rfl⟩
 ·obtain⟨cur,fr,hc,kv,IH,cI⟩:=hs g _ hH;obtain rfl:=IH dj;rw[Ki] at hc;refine .inr ⟨g,c,cur,rfl,hg,hc,h2,h3,by rw[kv,LJ],?_⟩;apply List.ext_getElem?;intro j;rw[zD];split
  ·rename_i hj;have:xs[j]?=some xs[j]:=by simp[h1,hj]
   rw[this];simpa using cI j _ (v8 j _ this)
  ·rename_i hj;exact(List.getElem?_eq_none (by omega)).symm
theorem qX{P:Program}{H:Heap}(hs:fD H w){i:TypeInfo}(hu:P.underlying t=some (.slice e))(hi:P.info? e=some i){a:O}{c:Nat}(fH:FI aa H e i.size a n c xs)(hc:c≠0)
  {ad:Addr}  {news:List Value} (hl:news.length=m*i.size) (uP:∀j u,news[j]?=some u->w.cell? (ad.add j)=some u) (h1:∀u∈news,u.oneCell'=true) 
  (hr:(Builtin.append_ #[t,t] ty #[.slice a n c,.slice (some ad) m xc]).run P w= .ok v' w') (gJ:n+m<=c):v'= .slice a (n+m) c:=by
 obtain⟨_,_,_,h4⟩:=fH;rcases h4 with⟨_,_,h⟩|⟨g,k,rfl,hb,hH,Ki,LJ,dj,v8⟩
 ·exact absurd h hc
 ·obtain⟨cur,fr,Sc,kv,IH,_⟩:=hs g _ hH;obtain rfl:=IH dj;rw[Ki] at Sc;have:=run_append_room (P:=P) w t ty e i hu hi g n c cur Sc ad m xc news hl uP h1 gJ (by rw[hl,kv,LJ,←Nat.add_mul];exact Nat.mul_le_mul_right _ gJ);rw[hr] at this;injection this
theorem jX{own:List Bx}{H:Heap}(hw:iR C w0 bc own H w){a:O}{c:Nat}{ys:List Value}{n':Nat}(fH:FI C.aa H e size a n c xs)(hca:c=0->a=none)
  (h2:w'.ownsRow C.aa e size v' n' ys) (h3:w.grownBy w' (Value.slice a n c).ownBlock) (h4:v'.ownBlock=(Value.slice a n c).ownBlock∨v'.ownBlock=some w.heap.size) (h5:n'<=c->v'= .slice a n' c):
  ∃a' c' H',v'= .slice a' n' c'/\cu C.aa H H' a c a' c' n'/\bg C.aa H' e size a' n' c' ys/\iR C w0 bc own H' w':=by
 have hold:∀g,(Value.slice a n c).ownBlock=some g->C.aa<=g/\g<w.heap.size/\a=some ⟨g,0,none⟩/\(H g).isSome=true:=by
  intro g hg;obtain⟨_,_,_,h6⟩:=fH;rcases h6 with⟨rfl,_,_⟩|⟨g',k',rfl,hb,hH,_⟩
  ·simp[Value.ownBlock] at hg
  ·simp[Value.ownBlock] at hg;subst hg;exact⟨hb,hw.dI.lt hH,rfl,by simp[hH]⟩
 have Ia:=hw.fx;have mu:∀k,k<w.heap.size->(Value.slice a n c).ownBlock≠some k->w'.heap[k]?=w.heap[k]?:=fun k hk eE=>h3.block k hk (fun e=>eE e.symm);have NL:bL bc w0 w':=hw.step h3.os h3.tape h3.output h3.size fun k hk _=>mu k (by omega) (fun e=>by have:=(hold k e).1;omega)
 have LN:∀y∈own,(Value.slice a n c).ownBlock≠some y.b:=fun y hy e=>by
  have:=(hold y.b e).2.2.2;rw[hw.aE.hid y hy] at this;cases this
 have Fg:∀g,C.aa<=g->C.H0 g=none:=fun g hg=>by
  cases h0:C.H0 g with
  |none=>rfl
  |some k0=>have:=hw.FF h0;omega
 obtain⟨h21,h22⟩:=h2;rcases h22 with⟨rfl,rfl⟩|⟨g,cap,cur,rfl,hb,hg,tR,Sd,Ib,W7⟩
 ·have jy:(Value.slice a n c).ownBlock=none:=by
   rcases h4 with h4|h4
   ·simpa[Value.ownBlock] using h4.symm
   ·simp[Value.ownBlock] at h4
  have Se:ys=[]:=zG (by simpa using h21);subst Se
  refine⟨none,0,H,rfl,⟨fun x k hx _=>hx,fun x k hx hn=>by(rw[hx] at hn;cases hn),fun h=>absurd rfl h,fun h=>by have:=h5 h;simp at this;exact⟨this.1,this.2⟩⟩,⟨h21,ze _,Nat.zero_le _,.inl ⟨rfl,rfl⟩⟩,
   ⟨hw.dI.of_same fun b k hk=>mu b (hw.dI.lt hk) (by rw[jy];simp),⟨fun y hy=>Bx.nX (hw.aE.ok y hy) (mu _ (Bx.qo (hw.aE.ok y hy)) (LN y hy)),hw.aE.hid,hw.aE.apart⟩,hw.mK,NL,hw.next,hw.aa,hw.jo⟩⟩
 ·have hgw:(Value.slice a n c).ownBlock=some g∨g=w.heap.size:=by
   rcases h4 with h4|h4
   ·exact .inl (by simpa[Value.ownBlock] using h4.symm)
   ·exact .inr (by simpa[Value.ownBlock] using h4)
  let H':Heap:=fun x=>if x=g then some ⟨e,cap*size,true,fun j=>ys[j]?⟩ else if(Value.slice a n c).ownBlock=some x then none else H x
  have hgH:∀x k,H x=some k->(c=0∨a≠some ⟨x,0,none⟩)->x≠g/\(Value.slice a n c).ownBlock≠some x:=fun x k hx eE=>by
   have h1:(Value.slice a n c).ownBlock≠some x:=fun e=>by
    rcases eE with eE|eE
    ·have:=(hold x e).2.2.1;rw[hca eE] at this;cases this
    ·exact eE (hold x e).2.2.1
   refine⟨fun e=>?_,h1⟩;subst e;rcases hgw with h|h
   ·exact h1 h
   ·have:=hw.dI.lt hx;omega
  refine⟨some ⟨g,0,none⟩,cap,H',rfl,⟨fun x k hx eE=>?_,fun x k hx hn=>?_,fun _ x hx=>?_,fun h=>by have:=h5 h;simp at this;exact⟨this.1,this.2⟩⟩,⟨h21,tR,Sd,.inr ⟨g,⟨e,cap*size,true,fun j=>ys[j]?⟩,rfl,hb,by simp[H'],rfl,rfl,rfl,fun j v h=>h⟩⟩,⟨fun x k hx=>?_,⟨fun y hy=>?_,fun y hy=>?_,hw.aE.apart⟩,hw.mK,NL,⟨fun x k hx=>?_,fun x k hx hn=>?_⟩,hw.aa,hw.jo⟩⟩
  ·obtain⟨e1,e2⟩:=hgH x k hx eE;simp[H',e1,e2,hx]
  ·by_cases e1:x=g
   ·omega
   ·simp only[H',nI e1] at hx;split at hx
    ·cases hx
    ·rw[hx] at hn;cases hn
  ·obtain rfl:g=x:=by simpa using hx
   rcases hgw with h|h
   ·have e1:=(hold g h).2.2.1;exact .inr ⟨e1.symm,fun h0=>by have:=hca h0;rw[this] at e1;cases e1⟩
   ·refine .inl ?_
    cases FJ:H g with
    |none=>rfl
    |some k=>have:=hw.dI.lt FJ;omega
  ·by_cases e1:x=g
   ·subst e1;simp only[H',pI] at hx;obtain rfl:=zy hx;refine⟨cur,(0,0),hg,Ib,fun _=>rfl,fun j v hv=>?_⟩;have AM:ys[j]?=some v:=hv;have hj:j<n'*size:=by rw[←h21];exact pC AM
    rw[←W7,zD,pI hj] at AM;simpa using AM
   ·simp only[H',nI e1] at hx;split at hx
    ·cases hx
    ·rename_i e2;rw[mu x (hw.dI.lt hx) e2];exact hw.dI x k hx
  ·exact Bx.nX (hw.aE.ok y hy) (mu _ (Bx.qo (hw.aE.ok y hy)) (LN y hy))
  ·have bK:=Bx.qo (hw.aE.ok y hy)
   have e1:y.b≠g:=fun e=>by
    rcases hgw with h|h
    ·exact LN y hy (by rw[e];exact h)
    ·omega
   simp only[H',nI e1];split
   ·rfl
   ·exact hw.aE.hid y hy
  ·have bK:=hw.FF hx;have e1:x≠g:=by omega
   have e2:(Value.slice a n c).ownBlock≠some x:=fun e=>by have:=(hold x e).1;omega
   simp only[H',nI e1,nI e2];exact hw.next.ext x k hx
  ·by_cases e1:x=g
   ·omega
   ·simp only[H',nI e1] at hx;split at hx
    ·cases hx
    ·exact hw.next.fresh x k hx hn
end
open Go Go.RowKit
section
variable {C : qG} {w0 : World} {bc : List Nat}
theorem xW{P:Program}{i:TypeInfo}(hu:P.underlying t=some (.slice e))(hi:P.info? e=some i){a xa:O}{c:Nat}(h:n<=c)(ty:TypeId)(w:World):
  (Builtin.append_ #[t,t] ty #[.slice a n c,.slice xa 0 xc]).run P w= .ok (.slice a n c) w:=by
 have hf:(Builtin.firstCells i.size 0 (.slice xa 0 xc)).run P w= .ok #[] w:=by
  cases xa<;>simp[Builtin.firstCells,loadCells,loadCellsFrom]
 cases a<;>simp[Builtin.append_,run_underlying hu,sizeOf,typeInfo,hi,Builtin.lenOf,h,hf,storeCells]
theorem qq{P:Program}{i:TypeInfo}(a:O){xa:O}(hm:0<m)(hu:P.underlying t=some (.slice e))(hi:P.info? e=some i)
  (hb:(0+m)*i.bytes<=140737488355328) (h:(Builtin.append_ #[t,t] ty #[.slice none 0 0,.slice xa m xc]).run P w= .ok v w'):(Builtin.append_ #[t,t] ty #[.slice a 0 0,.slice xa m xc]).run P w= .ok v w':=by
 have hn:¬m=0:=by omega
 rw[zS] at hb
 have hf:∀(s:O)(w:World),(Builtin.firstCells i.size 0 (.slice s 0 0)).run P w= .ok #[] w:=fun s w=>by
  cases s<;>simp[Builtin.firstCells,loadCells,loadCellsFrom]
 have LO:¬(281474976710656<Builtin.nextslicecap m 0*i.bytes):=by rw[nextslicecap_zero (by omega)];omega
 rw[←h];simp[Builtin.append_,run_underlying hu,sizeOf,typeInfo,hi,Builtin.lenOf,hn,LO,Sem.run_bind,hf]
theorem DW{so:Operand}(ho:o.op= .call { callee:= .builtin .append,args:= #[so,xo],argTypes:= #[t,t] }){st:St}{a:Act}(ha:dy C.nt st.env st.own a)
  (hw:iR C w0 bc st.own st.H w) {f:SV->List Bx->Heap->Prop} {K:Act->World->Prop} {Q:Exit->Act->World->Prop} (hK:sR C w0 bc st o a w f K) {ss sx:SV} (hs:st.get so=some ss) (hx:st.get xo=some sx)
  (h:DG C t st f ss sx):o.wp C.P a w K Q:=by
 have gR:dJ C a o=true:=by simp[dJ,turns,ho]
 have run:∀ {v:Value} {w':World},(Builtin.append_ #[t,t] o.type #[ss.val st.own,sx.val st.own]).run C.P w= .ok v w'->(execOp a.eval o).run C.P w= .ok (.value v) w':=fun{v w'} h=>by
  simp[execOp,ho,resolve,invoke,builtin,(ai ha hs).1,(ai ha hx).1,h]
 unfold DG at h;split at h
 ·rename_i e sa n c hu;split at h
  ·rename_i NM;obtain⟨FK,NK⟩:=NM
   cases hz:ep C.P e with
   |none=>simp[hz] at NK
   |some z=>
    simp only[hz,yy,Option.some.injEq] at NK;obtain⟨i,zv,hi,uG,rfl⟩:=gQ hz;have kv:i.size=C.P.cellsOf e:=by simp[Program.cellsOf,hi]
    have Fh:i.bytes=C.P.bytesOf e:=by simp[Program.bytesOf,hi]
    have NJ:zv.cells.size=C.P.cellsOf e:=by simpa using NK
    split at h
    ·rename_i j m;split at h
     ·rename_i b bt cells se;split at h
      ·rename_i hc;obtain⟨hl,h1,hm⟩:=hc;obtain⟨xs,fH,oy,FL,h⟩:=h
       have uP:∀k u,cells[k]?=some u->w.cell? ((⟨b,0,none⟩:Addr).add k)=some u:=fun k u hk=>by
        rw[addr_add,zS];exact(uK hw.aE se hk).2
       have e1:fW st.own j=b:=pB se;rcases fH.Sb with⟨rfl,rfl,Cx⟩|⟨qY,Cx⟩
       ·obtain⟨v',w',hr,h2,h3,_,h4⟩:=run_append_own_at (P:=C.P) w C.aa t o.type e i zv (C.P.cellsOf e) (C.P.bytesOf e) hu hi uG kv Fh NJ FK (.slice none 0 0) 0 xs (Cx.LH hw.dI) ⟨b,0,none⟩ m m cells hl uP (gB h1) FL oy hw.fx;obtain⟨a',c',H',rfl,hg,nz,er⟩:=jX hw Cx (fun _=>rfl) h2 h3 h4 (fun h=>by omega);have we:=qq sa hm hu hi (by rw[Fh];omega) hr;exact dG (run (by simpa[SV.val,e1] using we)) (hK _ _ _ _ (h a' c' H' ⟨fun x k hx _=>hg.cR x k hx (.inl rfl),hg.fresh,fun hc g he=> .inl ((hg.place hc g he).resolve_right fun h=>h.2 rfl),fun h=>by omega⟩ nz) trivial (aW.refl _) er (fun ht=>by rw[gR] at ht;cases ht))
       ·obtain⟨v',w',hr,h2,h3,_,h4⟩:=run_append_own_at (P:=C.P) w C.aa t o.type e i zv (C.P.cellsOf e) (C.P.bytesOf e) hu hi uG kv Fh NJ FK (.slice sa n c) n xs (Cx.LH hw.dI) ⟨b,0,none⟩ m m cells hl uP (gB h1) FL oy hw.fx;obtain⟨a',c',H',rfl,hg,nz,er⟩:=jX hw Cx (fun h=>absurd h qY) h2 h3 h4 (qX hw.dI hu hi (by rw[kv];exact Cx) qY (by rw[kv];exact hl) uP (gB h1) hr);exact dG (run (by simpa[SV.val,e1] using hr)) (hK _ _ _ _ (h a' c' H' hg nz) trivial (aW.refl _) er (fun ht=>by rw[gR] at ht;cases ht))
      ·exact h.elim
     ·exact h.elim
    ·rename_i xa m xc;obtain⟨xs,cells,fH,hl,h1,Ff,oy,FL,h⟩:=h;by_cases hm:m=0
     ·subst hm;have hc:cells=[]:=zG (by simpa using hl);subst hc;have hr:=xW (xa:=xa) (a:=sa) (xc:=xc) hu hi fH.2.1 o.type w;refine dG (run (by simpa[SV.val] using hr)) (hK _ _ _ _ (h sa c st.H ⟨fun x k hx _=>hx,fun x k hx hn=>by(rw[hx] at hn;cases hn),fun hc _ _=> .inr ⟨rfl,hc⟩,fun _=>⟨rfl,rfl⟩⟩ (by simpa using fH)) trivial (aW.refl _) hw (fun ht=>by rw[gR] at ht;cases ht))
     ·obtain⟨b,o',rfl,ku⟩:=Ff.resolve_left hm
      have uP:∀k u,cells[k]?=some u->w.cell? ((⟨b,o',none⟩:Addr).add k)=some u:=fun k u hk=>by
       rw[addr_add];exact hw.dI.cell (by simpa using kr ku k u hk)
      rcases fH.Sb with⟨rfl,rfl,Cx⟩|⟨qY,Cx⟩
      ·obtain⟨v',w',hr,h2,h3,_,h4⟩:=run_append_own_at (P:=C.P) w C.aa t o.type e i zv (C.P.cellsOf e) (C.P.bytesOf e) hu hi uG kv Fh NJ FK (.slice none 0 0) 0 xs (Cx.LH hw.dI) ⟨b,o',none⟩ m xc cells hl uP (gB h1) FL oy hw.fx;obtain⟨a',c',H',rfl,hg,nz,er⟩:=jX hw Cx (fun _=>rfl) h2 h3 h4 (fun h=>by omega);have we:=qq sa (Nat.pos_of_ne_zero hm) hu hi (by rw[Fh];omega) hr;exact dG (run (by simpa[SV.val] using we)) (hK _ _ _ _ (h a' c' H' ⟨fun x k hx _=>hg.cR x k hx (.inl rfl),hg.fresh,fun hc g he=> .inl ((hg.place hc g he).resolve_right fun h=>h.2 rfl),fun h=>by omega⟩ nz) trivial (aW.refl _) er (fun ht=>by rw[gR] at ht;cases ht))
      ·obtain⟨v',w',hr,h2,h3,_,h4⟩:=run_append_own_at (P:=C.P) w C.aa t o.type e i zv (C.P.cellsOf e) (C.P.bytesOf e) hu hi uG kv Fh NJ FK (.slice sa n c) n xs (Cx.LH hw.dI) ⟨b,o',none⟩ m xc cells hl uP (gB h1) FL oy hw.fx;obtain⟨a',c',H',rfl,hg,nz,er⟩:=jX hw Cx (fun h=>absurd h qY) h2 h3 h4 (qX hw.dI hu hi (by rw[kv];exact Cx) qY (by rw[kv];exact hl) uP (gB h1) hr);exact dG (run (by simpa[SV.val] using hr)) (hK _ _ _ _ (h a' c' H' hg nz) trivial (aW.refl _) er (fun ht=>by rw[gR] at ht;cases ht))
    ·exact h.elim
  ·exact h.elim
 ·exact h.elim

theorem AP{own:List Bx}{H:Heap}(hw:iR C w0 bc own H w){o:Nat}{k:KB}(hk:H b=some k)(dj:k.free=true)(fN:C.aa<=b)(ho:o+vs.length<=k.size)(h1:aM vs=true):
  ∃H' w',kW H b o k vs H'/\iR C w0 bc own H' w'/\(storeCells ⟨b,o,none⟩ vs).run C.P w= .ok () w':=by
 obtain⟨cur,fr,IG,kv,IH,ku⟩:=hw.dI b k hk;obtain rfl:=IH dj;have hr:=run_storeCells_at C.P b o k.ty vs 0 cur w IG (by omega) (gB h1);simp only[Nat.add_zero] at hr;rw[←ia _ _ _ (by simp;omega)] at hr;have hlen:o+vs.length<=cur.toList.length:=by simp;omega
 let H':Heap:=fun x=>if x=b then some { k with cells:=gA k.cells o vs } else H x
 have hu:kW H b o k vs H':=⟨by simp[H'],fun x hx=>by simp[H',hx]⟩
 have ny:∀x,x≠b->(w.setRow b (aV cur.toList o vs).toArray).heap[x]?=w.heap[x]?:=fun x hx=>setRow_other w b x _ hx
 have Fg:C.H0 b=none:=by
  cases h0:C.H0 b with
  |none=>rfl
  |some k0=>have:=hw.FF h0;omega
 refine⟨H',w.setRow b (aV cur.toList o vs).toArray,hu,⟨fun x k' hx=>?_,⟨fun y hy=>?_,fun y hy=>?_,hw.aE.apart⟩,hw.mK,hw.step rfl rfl rfl (by simp) (fun x hx _=>ny x (by omega)),⟨fun x k' hx=>?_,fun x k' hx hx0=>?_⟩,hw.aa,hw.jo⟩,hr⟩
 ·by_cases e:x=b
  ·subst e;simp only[H',pI] at hx;obtain rfl:=zy hx;rw[setRow_heap w x cur _ k.ty _ IG];refine⟨_,_,rfl,by simp[fG,kv],fun _=>rfl,fun j v' AM=>?_⟩;simp only[List.getElem?_toArray];rw[eI _ _ _ _ hlen];simp only[gA] at AM;split
   ·rename_i hc;rw[pI hc] at AM;exact AM
   ·rename_i hc;rw[nI hc] at AM;simpa using ku j v' AM
  ·simp only[H',nI e] at hx;rw[ny x e];exact hw.dI x k' hx
 ·have eE:y.b≠b:=fun e=>by have:=hw.aE.hid y hy;rw[e,hk] at this;cases this
  exact Bx.nX (hw.aE.ok y hy) (ny _ eE)
 ·have eE:y.b≠b:=fun e=>by have:=hw.aE.hid y hy;rw[e,hk] at this;cases this
  simp only[H',nI eE];exact hw.aE.hid y hy
 ·have eE:x≠b:=fun e=>by rw[e,Fg] at hx;cases hx
  simp only[H',nI eE];exact hw.next.ext x k' hx
 ·by_cases e:x=b
  ·omega
  ·simp only[H',nI e] at hx;exact hw.next.fresh x k' hx hx0
theorem II(ho:o.op= .call { callee:= .builtin .copy,args:= #[dop,xo],argTypes:= #[t,t] }){st:St}{a:Act}(ha:dy C.nt st.env st.own a)
  (hw:iR C w0 bc st.own st.H w) {f:SV->List Bx->Heap->Prop} {K:Act->World->Prop} {Q:Exit->Act->World->Prop} (hK:sR C w0 bc st o a w f K) {sd sx:SV} (hd:st.get dop=some sd) (hx:st.get xo=some sx)
  (h:copyV C t st f sd sx):o.wp C.P a w K Q:=by
 have gR:dJ C a o=true:=by simp[dJ,turns,ho]
 have run:∀ {v:Value} {w':World},(Builtin.copy_ #[t,t] o.type #[sd.val st.own,sx.val st.own]).run C.P w= .ok v w'->(execOp a.eval o).run C.P w= .ok (.value v) w':=fun{v w'} h=>by
  simp[execOp,ho,resolve,invoke,builtin,(ai ha hd).1,(ai ha hx).1,h]
 unfold copyV at h;split at h
 ·rename_i e da dn dc sa sn sc hu;obtain⟨LC,h1,h2⟩:=lp h;by_cases hm:min sn dn=0
  ·have hr:(Builtin.copy_ #[t,t] o.type #[(SV.v (.slice da dn dc)).val st.own,(SV.v (.slice sa sn sc)).val st.own]).run C.P w= .ok (.int .i64 0) w:=by
    have nT:Nat.min sn dn=0:=hm
    have hf:(Builtin.firstCells (C.P.cellsOf e) 0 (.slice sa sn sc)).run C.P w= .ok #[] w:=by
     cases sa<;>simp[Builtin.firstCells,loadCells,loadCellsFrom]
    cases da<;>simp[SV.val,Builtin.copy_,run_underlying hu,dt LC,Builtin.lenOf,nT,hf,storeCells,goInt]
   exact dG (run hr) (hK _ _ _ _ (h1 hm) trivial (aW.refl _) hw (fun ht=>by rw[gR] at ht;cases ht))
  ·obtain⟨cells,b,o',b',o'',k,hl,IJ,rfl,ku,rfl,hk,dj,fN,kv,hf⟩:=h2 hm;obtain⟨H',w',hu',er,Fi⟩:=AP hw hk dj fN kv IJ
   have hld:(Builtin.firstCells (C.P.cellsOf e) (min sn dn) (.slice (some ⟨b,o',none⟩) sn sc)).run C.P w= .ok cells.toArray w:=by
    refine run_firstCells_some w (C.P.cellsOf e) (min sn dn) ⟨b,o',none⟩ sn sc cells hl fun j u hj=>?_;rw[addr_add];exact hw.dI.cell (by simpa using kr ku j u hj)
   have hr:(Builtin.copy_ #[t,t] o.type #[(SV.v (.slice (some ⟨b',o'',none⟩) dn dc)).val st.own,(SV.v (.slice (some ⟨b,o',none⟩) sn sc)).val st.own]).run C.P w= .ok (.int .i64 (min sn dn:Nat)) w':=by
    have VX:Nat.min sn dn=min sn dn:=rfl;simp[SV.val,Builtin.copy_,run_underlying hu,dt LC,Builtin.lenOf,VX,hld,Fi,goInt]
   exact dG (run hr) (hK _ _ _ _ (hf H' hu') trivial (aW.refl _) er (fun ht=>by rw[gR] at ht;cases ht))
 ·exact h.elim
theorem FM(ho:o.op= .call { callee:= .builtin .clear,args:= #[dop],argTypes:= #[t] }){st:St}{a:Act}(ha:dy C.nt st.env st.own a)
  (hw:iR C w0 bc st.own st.H w) {f:SV->List Bx->Heap->Prop} {K:Act->World->Prop} {Q:Exit->Act->World->Prop} (hK:sR C w0 bc st o a w f K) {sd:SV} (hd:st.get dop=some sd)
  (h:Iw C t st f sd):o.wp C.P a w K Q:=by
 have gR:dJ C a o=true:=by simp[dJ,turns,ho]
 have run:∀ {v:Value} {w':World},(Builtin.clear_ #[t] o.type #[sd.val st.own]).run C.P w= .ok v w'->(execOp a.eval o).run C.P w= .ok (.value v) w':=fun{v w'} h=>by
  simp[execOp,ho,resolve,invoke,builtin,(ai ha hd).1,h]
 unfold Iw at h;split at h
 ·rename_i e da dn dc hu;split at h
  ·rename_i z hz;split at h
   ·rename_i NK;obtain⟨NK,hz1⟩:=NK;obtain⟨h1,h2⟩:=h;obtain⟨i,zv,hi,uG,rfl⟩:=gQ hz;by_cases hm:dn=0
    ·subst hm
     have hr:(Builtin.clear_ #[t] o.type #[(SV.v (.slice da 0 dc)).val st.own]).run C.P w= .ok (.tuple #[]) w:=by
      cases da<;>simp[SV.val,Builtin.clear_,run_underlying hu]
     exact dG (run hr) (hK _ _ _ _ (h1 rfl) trivial (aW.refl _) hw (fun ht=>by rw[gR] at ht;cases ht))
    ·obtain⟨b,o',k,rfl,hk,dj,fN,kv,hf⟩:=h2 hm
     have IJ:∀n,aM (zk n zv.cells.toList).flatten=true:=by
      intro n
      induction n with
      |zero=>rfl
      |succ n ih=>
       rw[List.replicate_succ,zW]
       have:∀(a b:List Value),aM a=true->aM b=true->aM (a++b)=true:=by
        intro a
        induction a with
        |nil=>intro b _ h;exact h
        |cons x r ih=>intro b h h';simp only[aM,zT,List.cons_append] at h⊢;exact⟨h.1,ih b h.2 h'⟩
       exact this _ _ hz1 ih
     have hlen:(zk dn zv.cells.toList).flatten.length=dn*C.P.cellsOf e:=by simp[NK]
     obtain⟨H',w',hu',er,Fi⟩:=AP hw hk dj fN (by rw[hlen];exact kv) (IJ dn)
     have W8:(Builtin.zeroCells zv.cells dn).toList=(zk dn zv.cells.toList).flatten:=by
      have e2:Builtin.zeroCells zv.cells dn=madeCells zv.cells (dn*zv.cells.size):=rfl;rw[e2,Ab]
     have hr:(Builtin.clear_ #[t] o.type #[(SV.v (.slice (some ⟨b,o',none⟩) dn dc)).val st.own]).run C.P w= .ok (.tuple #[]) w':=by
      obtain⟨m,rfl⟩:∃m,dn=m+1:=⟨dn-1,by omega⟩
      simp[SV.val,Builtin.clear_,run_underlying hu,zeroValue,typeInfo,hi,uG,W8,Fi]
     exact dG (run hr) (hK _ _ _ _ (hf H' hu') trivial (aW.refl _) er (fun ht=>by rw[gR] at ht;cases ht))
   ·exact h.elim
  ·exact h.elim
 ·exact h.elim

theorem tX(es:List MapEntry)(e:MapEntry):ch (es++[e])=ch es++[e.key,e.val]:=by
 induction es with
 |nil=>rfl
 |cons x es ih=>simp[ch,ih]
theorem FN(hs:kq key k=some true)(hd:(∃j a,key= .int j a)∨(∃b,key= .bool b)):Instr.sameBits 10000 k key=true:=by
 rcases hd with⟨j,a,rfl⟩|⟨b,rfl⟩
 ·cases k<;>simp[kq] at hs
  obtain⟨rfl,rfl⟩:=hs;simp[Instr.sameBits]
 ·cases k<;>simp[kq] at hs
  subst hs;simp[Instr.sameBits]
theorem wT{d:TypeDesc}{key val:Value}(hd:(∃i j a,d= .int i/\key= .int j a)∨(∃b,d= .bool/\key= .bool b)):
  ∀(es:List MapEntry)(i:Nat) {oI:List Value},bI key val (ch es)=some oI->
   (∃j Sb e,Instr.findNow d key es i=some (some (i+j,Sb))/\es[j]?=some e/\Instr.sameBits 10000 e.key key=true/\ch (es.modify j fun e=> { e with key:=key,val:=val })=oI)∨
   (Instr.findNow d key es i=some none/\ch es++[key,val]=oI)
 | [],i,oI,h=>by
  simp only[ch,bI] at h;obtain rfl:=zy h
  exact .inr ⟨rfl,rfl⟩
 |e::es,i,oI,h=>by
  have Ct:(∃j a,key= .int j a)∨(∃b,key= .bool b):=by
   rcases hd with⟨_,j,a,_,h⟩|⟨b,_,h⟩
   ·exact .inl ⟨j,a,h⟩
   ·exact .inr ⟨b,h⟩
  simp only[ch,bI] at h;split at h
  ·rename_i hk;obtain rfl:=zy h;have hs:=pE hk hd;refine .inl ⟨0,e.val,e,by simp[Instr.findNow,hs],rfl,FN hk Ct,by simp[ch]⟩
  ·rename_i hk;have hs:=pE hk hd
   cases hm:bI key val (ch es) with
   |none=>simp[hm] at h
   |some r'=>
    simp only[hm,yy,Option.some.injEq] at h;subst h;rcases wT hd es (i+1) hm with⟨j,Sb,e',h1,h2,h3,h4⟩|⟨h1,h2⟩
    ·refine .inl ⟨j+1,Sb,e',?_,by simpa using h2,h3,by simp[ch,h4]⟩;rw[show i+(j+1)=i+1+j from by omega];simpa[Instr.findNow,hs] using h1
    ·exact .inr ⟨by simpa[Instr.findNow,hs] using h1,by rw[←h2];rfl⟩
  ·cases h
theorem Cy{P:Program}{val:Value}(hu:P.underlying t=some (.map kt e))
  (hd:(∃d k a,P.underlying kt=some (.int d)/\key= .int k a)∨(∃b,P.underlying kt=some .bool/\key= .bool b))
    {es:Array MapEntry} {c:Nat} (hw:w.heap[r]?=some (.map es c))  (hg:bI key val (ch es.toList)=some oI):
  ∃W9 c',(Instr.mapUpdate t (.map (some r)) key val).run P w= .ok () { w with heap:=w.heap.setIfInBounds r (.map W9 c') }/\ch W9.toList=oI:=by
 have T5:∃d,P.underlying kt=some d/\((∃i j a,d= .int i/\key= .int j a)∨(∃b,d= .bool/\key= .bool b)):=by
  rcases hd with⟨d,k,a,hu,rfl⟩|⟨b,hu,rfl⟩
  ·exact⟨_,hu,.inl ⟨_,_,_,rfl,rfl⟩⟩
  ·exact⟨_,hu,.inr ⟨_,rfl,rfl⟩⟩
 obtain⟨d,W3,T5⟩:=T5;have W4:=run_checkKey (P:=P) false 9999 hd w;have Cz:∀o,(setObj r o).run P w= .ok () { w with heap:=w.heap.setIfInBounds r o } :=fun o=>by simp[setObj,Sem.run,hw]
 rcases wT T5 es.toList 0 hg with⟨j,Sb,e',h1,h2,h3,h4⟩|⟨h1,h2⟩
 ·refine⟨es.modify j fun e=> { e with key:=key,val:=val },c,?_,by rw[Array.toList_modify];exact h4⟩;have Kh:es[j]?=some e':=by simpa using h2
  simp only[zS] at h1;simp[Instr.mapUpdate,run_underlying hu,run_getObj_map hw,W4,Instr.findKey,run_underlying W3,h1,Kh,Instr.keyThatStays,h3,Cz]
 ·refine⟨es.push { key,val:=val,born:=c },c+1,?_,by rw[Array.toList_push,tX];exact h2⟩;simp[Instr.mapUpdate,run_underlying hu,run_getObj_map hw,W4,Instr.findKey,run_underlying W3,h1,Cz]
theorem qt{mo ko:Operand}(ho:o.op= .mapUpdate t mo ko xo∨o.op= .insert t mo ko xo){st:St}{a:Act}(ha:dy C.nt st.env st.own a)
  (hw:iR C w0 bc st.own st.H w) {f:SV->List Bx->Heap->Prop} {K:Act->World->Prop} {Q:Exit->Act->World->Prop} (hK:sR C w0 bc st o a w f K)
  (hu:C.P.underlying t=some (.map kt e))  {sk sx:SV}   (hm:st.get mo=some (.mp i)) (hk:st.get ko=some sk) (hx:st.get xo=some sx) (oR:rY C kt sk=true)
  (se:st.own[i]?=some ⟨b,true,bt,cs⟩) (Cz:bI (sk.val st.own) (sx.val st.own) cs=some oI) (hf:f (.v undef) (st.own.set i ⟨b,true,bt,oI⟩) st.H):o.wp C.P a w K Q:=by
 obtain⟨e1,es,c,uQ,W5⟩:=DS hw.aE se;obtain⟨W9,c',hr,hes'⟩:=Cy hu (tg oR) uQ (by rw[W5];exact Cz)
 have kA:(execOp a.eval o).run C.P w= .ok .skip { w with heap:=w.heap.setIfInBounds b (.map W9 c') } :=by
  have hmv:a.eval mo= .map (some b):=by rw[(ai ha hm).1];simp[SV.val,e1]
  rcases ho with ho|ho<;>simp[execOp,ho,hmv,(ai ha hk).1,(ai ha hx).1,hr]
 have bK:b<w.heap.size:=(zK.1 uQ).1
 refine FG kA (hK _ _ _ _ hf trivial (aW.set se rfl rfl rfl) (hw.NG (x':=⟨b,true,bt,oI⟩) se rfl ?_ (fun k hk _=>?_) rfl rfl rfl (by simp)) (fun _=>⟨fun k c t f hk=>by
  have eE:b≠k:=fun e=>by rw[←e,uQ] at hk;cases hk
  rw[←hk];exact yX eE⟩))
 ·exact⟨W9,c',by simp[bK],hes'⟩
 ·simp only at hk;simp[yX (Ne.symm hk)]
end
end Go.Vg
