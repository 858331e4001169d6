/- What is proved here: a part of the proof of laws of this seat: what a contract is, how it comes of a condition, contracts of the functions that are reached, the plain laws. -/
import Derived.Orders
import Derived.Scope
import Derived.WalkKit
set_option linter.unusedSimpArgs false
set_option linter.unusedVariables false
set_option maxRecDepth 100000
namespace Go.Vg
open Go

structure KB where
 ty:TypeId
 size:Nat
 free:Bool
 cells:Nat->Option Value
abbrev Heap:=Nat->Option KB
abbrev KT:=Value->List (List Value)->Heap->Prop
abbrev O:=Option Addr
abbrev LI:=List Value->Heap->Prop
abbrev LM:=List Value->Nat
abbrev NI:=Nat->List Value->Heap->Prop
def Heap.cell(H:Heap)(b o:Nat):Option Value:=(H b).bind fun k=>k.cells o
def KB.sees(k:KB)(o:Option Obj):Prop:=
 ∃cur fr,o=some (.cells cur k.ty fr)/\cur.size=k.size/\(k.free=true->fr=(0,0))/\∀j v,k.cells j=some v->cur[j]?=some v
def Sees(H:Heap)(w:World):Prop:=∀b k,H b=some k->k.sees w.heap[b]?
structure Next(base:Nat)(H H':Heap):Prop where
 ext:∀b k,H b=some k->H' b=some k
 fresh:∀b k,H' b=some k->H b=none->base<=b
def boxKB(ty:TypeId)(cs:List Value):KB:=⟨ty,cs.length,true,fun j=>cs[j]?⟩
def cellsAt(H:Heap)(b o:Nat):Nat->List Value->Prop
 |_,[]=>True
 |i,v::vs=>H.cell b (o+i)=some v/\cellsAt H b o (i+1) vs

structure Bx where
 b:Nat
 map:Bool
 ty:TypeId
 cs:List Value
def flatEntries:List MapEntry->List Value
 | []=>[]
 |e::es=>e.key::e.val::flatEntries es
def Bx.ok(x:Bx)(w:World):Prop:=
 match x.map with
 |false=>w.heap[x.b]?=some (.cells x.cs.toArray x.ty (0,0))
 |true=>∃es clock,w.heap[x.b]?=some (.map es clock)/\flatEntries es.toList=x.cs
structure BoxesOk(own:List Bx)(H:Heap)(w:World):Prop where
 ok:∀x∈own,x.ok w
 hid:∀x∈own,H x.b=none
 apart:(own.map Bx.b).Nodup
structure BelowX(own:List Nat)(w w':World):Prop where
 os:w'.os=w.os
 tape:w'.tape=w.tape
 output:w'.output=w.output
 size:w.heap.size<=w'.heap.size
 block:∀k,k<w.heap.size->k∉own->w'.heap[k]?=w.heap[k]?

def Bx.set(x:Bx)(cs:List Value):Bx:= { x with cs }
def setAll:List Bx->List (List Value)->List Bx
 |x::xs,c::cs=>x.set c::setAll xs cs
 |_,_=>[]

def SpecO(P:Program)(f:FuncId)(args:List Value)(own:List Bx)(H:Heap)(Q:Value->List (List Value)->Heap->Prop):Prop:=
 ∀w,Sees H w->BoxesOk own H w->Calls P f args.toArray w fun e w'=>∃v css H',e= .returned v/\css.length=own.length/\BelowX (own.map Bx.b) w w'/\
  Sees H' w'/\BoxesOk (setAll own css) H' w'/\Next w.heap.size H H'/\Q v css H'
def Spec(P:Program)(f:FuncId)(args:List Value)(H:Heap)(Q:Value->Heap->Prop):Prop:=
 SpecO P f args [] H fun v _ H'=>Q v H'

inductive SV where
 |v (x:Value)
 |p (q:Prop) (d:Decidable q)
 |tt
 |ff
 /-- a pointer into box i -/
 |loc (i off:Nat)
 /-- the same, at a place that is no numeral -/
 |dloc (i off:Nat)
 /-- the map that is box i -/
 |mp (i:Nat)
 /-- a function value that captures pointers to boxes -/
 |fn (g:Fn) (caps:List Nat)
 /-- a slice of n elements that is box i whole, on its way into an append -/
 |lst (i n:Nat)
def boxNo(own:List Bx)(i:Nat):Nat:=match own[i]? with|some x=>x.b|none=>0
def SV.val(own:List Bx):SV->Value
 | .v x=>x
 | .p q d=> .bool (@decide q d)
 | .tt=> .bool true
 | .ff=> .bool false
 | .loc i off=> .pointer (some ⟨boxNo own i,off,none⟩)
 | .dloc i off=> .pointer (some ⟨boxNo own i,off,none⟩)
 | .mp i=> .map (some (boxNo own i))
 | .lst i n=> .slice (some ⟨boxNo own i,0,none⟩) n n
 | .fn g caps=> .func g #[] (caps.map fun i=>Value.pointer (some ⟨boxNo own i,0,none⟩)).toArray

abbrev LB:=List Bx
abbrev LL:=List (List Value)
abbrev LV:=List Value
abbrev AV:=Array Value
structure St where
 env:List (Nat×SV)
 own:List Bx
 H:Heap
def look(s:Nat):List (Nat×SV)->Option SV
 | []=>none
 |(t,v)::r=>if t=s then some v else look s r
def boolSV:Value->SV
 | .bool true=> .tt
 | .bool false=> .ff
 |x=> .v x
def St.get(st:St):Operand->Option SV
 | .tmp t=>look t st.env
 | .const x=>some (boolSV x)
 | .func f=>some (.v (.func (.func f) #[] #[]))
 | .global g=>some (.v (.pointer (some ⟨g,0,none⟩)))
def St.put(st:St)(d:Option Tmp)(v:SV):St:=
 match d with
 |some t=> { st with env:=(t,v)::st.env }
 |none=>st

inductive LK where
 |int (k:IntKind)
 |bool
 |str
 |slice
 /-- an interface's value: nil, or some one -/
 |iface
 |any
inductive K1 where
 |one (k:LK)
 |agg (ks:List LK)
 |arr (n:Nat)
 /-- a row of cells of whatever length -/
 |sym
inductive K2 where
 |k1 (k:K1)
 |tup (ks:List K1)
def LK.ex:LK->(Value->Prop)->Prop
 | .int k,f=>∃n:Int,f (.int k n)
 | .bool,f=>∃b:Bool,f (.bool b)
 | .str,f=>∃s:ByteArray,f (.string s)
 | .slice,f=>∃(a:Option Addr)(n c:Nat),f (.slice a n c)
 | .iface,f=>f .nilIface∨ ∃(t:TypeId)(p:Value),f (.iface t p)
 | .any,f=>∃v:Value,f v
def LK.al:LK->(Value->Prop)->Prop
 | .int k,f=>∀n:Int,f (.int k n)
 | .bool,f=>∀b:Bool,f (.bool b)
 | .str,f=>∀s:ByteArray,f (.string s)
 | .slice,f=>∀(a:Option Addr)(n c:Nat),f (.slice a n c)
 | .iface,f=>f .nilIface/\∀(t:TypeId)(p:Value),f (.iface t p)
 | .any,f=>∀v:Value,f v
def LK.exs:List LK->(List Value->Prop)->Prop
 | [],f=>f []
 |k::ks,f=>k.ex fun v=>LK.exs ks fun vs=>f (v::vs)
def LK.als:List LK->(List Value->Prop)->Prop
 | [],f=>f []
 |k::ks,f=>k.al fun v=>LK.als ks fun vs=>f (v::vs)
def K1.ex:K1->(Value->Prop)->Prop
 | .one k,f=>k.ex f
 | .agg ks,f=>LK.exs ks fun vs=>f (.agg vs.toArray)
 | .arr n,f=>∃cs:List Value,cs.length=n/\f (.agg cs.toArray)
 | .sym,f=>∃cs:List Value,f (.agg cs.toArray)
def K1.al:K1->(Value->Prop)->Prop
 | .one k,f=>k.al f
 | .agg ks,f=>LK.als ks fun vs=>f (.agg vs.toArray)
 | .arr n,f=>∀cs:List Value,cs.length=n->f (.agg cs.toArray)
 | .sym,f=>∀cs:List Value,f (.agg cs.toArray)
def K1.exs:List K1->(List Value->Prop)->Prop
 | [],f=>f []
 |k::ks,f=>k.ex fun v=>K1.exs ks fun vs=>f (v::vs)
def K1.als:List K1->(List Value->Prop)->Prop
 | [],f=>f []
 |k::ks,f=>k.al fun v=>K1.als ks fun vs=>f (v::vs)
def K2.ex:K2->(Value->Prop)->Prop
 | .k1 k,f=>k.ex f
 | .tup ks,f=>K1.exs ks fun vs=>f (.tuple vs.toArray)
def LK.fit:LK->Value->Bool
 | .int k,.int j _=>k==j
 | .bool,.bool _=>true
 | .str,.string _=>true
 | .slice,.slice _ _ _=>true
 | .iface,.nilIface=>true
 | .iface,.iface _ _=>true
 | .any,_=>true
 |_,_=>false
def LK.fits:List LK->List Value->Bool
 | [],[]=>true
 |k::ks,v::vs=>k.fit v&&LK.fits ks vs
 |_,_=>false
def fitP:List K1->List Value->Prop->Prop
 | [],[],f=>f
 |k::ks,v::vs,f=>
  (match k,v with
   | .one lk,v=>if lk.fit v=true then fitP ks vs f else False
   | .agg lks,.agg cs=>if LK.fits lks cs.toList=true then fitP ks vs f else False
   | .arr n,.agg cs=>cs.toList.length=n/\fitP ks vs f
   | .sym,.agg _=>fitP ks vs f
   |_,_=>False)
 |_,_,_=>False
section
variable (P : Program)
def lkOf(t:TypeId):LK:=
 match P.underlying t with
 |some (.int k)=> .int k
 |some .bool=> .bool
 |some .string=> .str
 |some (.slice _)=> .slice
 |some (.interface _)=> .iface
 |_=> .any
def leaves:Nat->TypeId->List LK
 |0,_=>[]
 |n+1,t=>
  match P.underlying t with
  |some (.struct fs)=>fs.toList.flatMap fun f=>leaves n f.type
  |some (.array m e)=>(List.replicate m (leaves n e)).flatten
  |_=>[lkOf P t]
def k1Of(t:TypeId):K1:=
 match P.underlying t with
 |some (.struct _)=>if(leaves P 9 t).length=P.cellsOf t then .agg (leaves P 9 t) else .arr (P.cellsOf t)
 |some (.array _ _)=> .arr (P.cellsOf t)
 |_=> .one (lkOf P t)
def k2Of(t:TypeId):K2:=
 match P.underlying t with
 |some (.tuple ts)=> .tup (ts.toList.map (k1Of P))
 |_=> .k1 (k1Of P t)
end

def intBin(op:BinOp)(k:IntKind)(a b:Int)(f:SV->Prop):Prop:=
 match op with
 | .add=>∀r,r=k.wrap (a+b)->f (.v (.int k r))
 | .sub=>∀r,r=k.wrap (a-b)->f (.v (.int k r))
 | .mul=>∀r,r=k.wrap (a*b)->f (.v (.int k r))
 | .rem=>b≠0/\f (.v (.int k (a.tmod b)))
 | .quo=>b≠0/\∀r,r=k.wrap (a.tdiv b)->f (.v (.int k r))
 | .eql=>f (.p (a=b) inferInstance)
 | .neq=>f (.p (¬a=b) inferInstance)
 | .lss=>f (.p (a<b) inferInstance)
 | .leq=>f (.p (a<=b) inferInstance)
 | .gtr=>f (.p (b<a) inferInstance)
 | .geq=>f (.p (b<=a) inferInstance)
 |_=>False
def isCmp:BinOp->Bool
 | .eql| .neq| .lss| .leq| .gtr| .geq=>true
 |_=>false

def setRange:List Value->Nat->List Value->List Value
 |cs,_,[]=>cs
 |cs,off,v::vs=>setRange (cs.set off v) (off+1) vs
def allOne:List Value->Bool
 | []=>true
 |v::vs=>v.oneCell'&&allOne vs
def updCells(f:Nat->Option Value)(o:Nat)(vs:List Value):Nat->Option Value:=
 fun j=>if o<=j/\j<o+vs.length then vs[j-o]? else f j
structure Upd(H:Heap)(b o:Nat)(k:KB)(vs:List Value)(H':Heap):Prop where
 here:H' b=some { k with cells:=updCells k.cells o vs }
 there:∀x,x≠b->H' x=H x
def Row(base:Nat)(H:Heap)(e:TypeId)(size:Nat)(a:Option Addr)(n c:Nat)(xs:List Value):Prop:=
 xs.length=n*size/\n<=c/\c<=maxLen/\
 ((n=0/\c=0)∨ ∃g k,a=some ⟨g,0,none⟩/\base<=g/\H g=some k/\k.ty=e/\k.size=c*size/\k.free=true/\∀j v,xs[j]?=some v->k.cells j=some v)
structure Grew(base:Nat)(H H':Heap)(a:Option Addr)(c:Nat)(a':Option Addr)(c' nn:Nat):Prop where
 keep:∀x k,H x=some k->(c=0∨a≠some ⟨x,0,none⟩)->H' x=some k
 fresh:∀x k,H' x=some k->H x=none->base<=x
 place:c'≠0->∀g,a'=some ⟨g,0,none⟩->H g=none∨(a'=a/\c≠0)
 room:nn<=c->a'=a/\c'=c
def keySame:Value->Value->Option Bool
 | .int j a,.int k b=>if j=k then some (decide (a=b)) else none
 | .bool a,.bool b=>some (a==b)
 | .string a,.string b=>some (a==b)
 |_,_=>none
def mapGet(z:Value)(key:Value):List Value->Option (Value×Bool)
 |k::v::r=>(match keySame key k with
  |some true=>some (v,true)
  |some false=>mapGet z key r
  |none=>none)
 |_=>some (z,false)
def mapSet(key val:Value):List Value->Option (List Value)
 |k::v::r=>(match keySame key k with
  |some true=>some (key::val::r)
  |some false=>(mapSet key val r).map fun r'=>k::v::r'
  |none=>none)
 |_=>some [key,val]
open Go

abbrev InlFn:=(base:Nat)->(H0:Heap)->FuncId->List SV->List Bx->Heap->(SV->List Bx->Heap->Prop)->Option Prop
structure Muts where
 list:List FuncId
 inl:InlFn
 join:Bool
structure Cfg where
 P:Program
 nt:Nat
 muts:Muts
 base:Nat
 H0:Heap

def RunsTo(P:Program)(m:Sem Value)(r:Value):Prop:=∀w,m.run P w= .ok r w
def binRun(op:BinOp)(ty:TypeId)(x y:Operand)(a b:Value):Sem Value:=do eqGuard op ty x y a b;binOp op ty a b
def listAt(cs:List Value)(off:Nat):Nat->List Value->Prop
 |_,[]=>True
 |i,v::vs=>cs[off+i]?=some v/\listAt cs off (i+1) vs
def fillL(place:Nat->Option (Nat×Nat)):List Value->List (Nat×Value)->Option (List Value)
 |cells,[]=>some cells
 |cells,(i,v)::rest=>
  match place i with
  |none=>none
  |some (off,size)=>
   if v.cells.toList.length=size/\off+size<=cells.length then fillL place (setRange cells off v.cells.toList) rest else none
def zeroCellsOf(P:Program)(t:TypeId):Option (List Value):=((P.info? t).bind (·.zero)).map fun z=>z.cells.toList

section
variable (C : Cfg)

def typed(t:TypeId)(f:Prop):Prop:=match C.P.underlying t with|some _=>f|none=>False
def sized(t:TypeId)(f:Prop):Prop:=match C.P.info? t with|some _=>f|none=>False
def partV(t:TypeId)(cs:List Value)(off:Nat)(f:SV->Prop):Prop:=
 typed C t<|match k1Of C.P t with
 | .one _=>match cs[off]? with|some v=>f (.v v)|none=>False
 |_=>f (.v (.agg ((cs.drop off).take (C.P.cellsOf t)).toArray))

def binV(op:BinOp)(ty rty:TypeId)(xo yo:Operand)(own:List Bx)(sx sy:SV)(f:SV->Prop):Prop:=
 match sx,sy with
 | .v (.int k a),.v (.int k' b)=>if k=k' then intBin op k a b f else False
 |_,_=>
  match isCmp op with
  |true=>∃b:Bool,RunsTo C.P (binRun op ty xo yo (sx.val own) (sy.val own)) (.bool b)/\f (.p (b=true) inferInstance)
  |false=>(k1Of C.P rty).ex fun r=>RunsTo C.P (binRun op ty xo yo (sx.val own) (sy.val own)) r/\f (.v r)

def notV(f:SV->Prop):SV->Prop
 | .tt=>f .ff
 | .ff=>f .tt
 | .p q d=>f (.p (¬q) (@instDecidableNot q d))
 | .v (.bool b)=>f (.p (b=false) inferInstance)
 |_=>False

def pickV(f:SV->Prop)(x y:Option SV):SV->Prop
 | .tt=>(match x with|some s=>f s|none=>False)
 | .ff=>(match y with|some s=>f s|none=>False)
 | .p q _=>(match x,y with|some s,some t=>(q->f s)/\(¬q->f t)|_,_=>False)
 | .v (.bool b)=>(match x,y with|some s,some t=>(b=true->f s)/\(b=false->f t)|_,_=>False)
 |_=>False

def loadV(ty:TypeId)(st:St)(f:SV->Prop):SV->Prop
 | .loc i off=>
  match st.own[i]? with
  |some ⟨_,false,_,cs⟩=>
   typed C ty (match k1Of C.P ty with
    | .one _=>(match cs[off]? with|some v=>f (.v v)|none=>False)
    | .arr _=>(match off with
     |0=>cs.length=C.P.cellsOf ty/\f (.v (.agg cs.toArray))
     |_=>if((cs.drop off).take (C.P.cellsOf ty)).length=C.P.cellsOf ty then f (.v (.agg ((cs.drop off).take (C.P.cellsOf ty)).toArray)) else False)
    |_=>if((cs.drop off).take (C.P.cellsOf ty)).length=C.P.cellsOf ty then f (.v (.agg ((cs.drop off).take (C.P.cellsOf ty)).toArray)) else False)
  |_=>False
 | .dloc i off=>
  match st.own[i]? with
  |some ⟨_,false,_,cs⟩=>typed C ty (match k1Of C.P ty with
   | .one k=>k.ex fun v=>cs[off]?=some v/\f (.v v)
   |k=>k.ex fun v=>listAt cs off 0 v.cells.toList/\f (.v v))
  |_=>False
 | .v (.pointer (some ⟨b,o,none⟩))=>typed C ty (match k1Of C.P ty with
   | .one k=>k.ex fun v=>st.H.cell b o=some v/\f (.v v)
   |k=>k.ex fun v=>cellsAt st.H b o 0 v.cells.toList/\f (.v v))
 |_=>False

def fieldAddrV(s:TypeId)(fld:Nat)(f:SV->Prop)(x:SV):Prop:=
 match C.P.underlying s with
 |some (.struct fs)=>
  (match fs[fld]? with
   |some fd=>
    if C.P.cellsOf fd.type=0 then False else
    (match x with
    | .loc i off=>f (.loc i (off+fd.offset))
    | .dloc i off=>f (.dloc i (off+fd.offset))
    | .v (.pointer (some ⟨b,o,none⟩))=>f (.v (.pointer (some ⟨b,o+fd.offset,none⟩)))
    |_=>False)
   |none=>False)
 |_=>False

def numeral:Operand->Option Nat
 | .const (.int _ (.ofNat m))=>some m
 |_=>none

def indexAddrV(t:TypeId)(ixo:Operand)(f:SV->Prop)(x ix:SV):Prop:=
 match C.P.underlying t with
 |some (.slice e)=>sized C e
  (match x,ix with
   | .v (.slice a n _),.v (.int _ i)=>∃(b o:Nat),a=some ⟨b,o,none⟩/\0<=i/\i<n/\f (.v (.pointer (some ⟨b,o+i.toNat*C.P.cellsOf e,none⟩)))
   |_,_=>False)
 |some (.array n e)=>sized C e
  (match numeral ixo with
   |some m=>
    if m<n then
     (match x with
     | .loc j off=>f (.dloc j (off+m*C.P.cellsOf e))
     | .dloc j off=>f (.dloc j (off+m*C.P.cellsOf e))
     | .v (.pointer (some ⟨b,o,none⟩))=>f (.v (.pointer (some ⟨b,o+m*C.P.cellsOf e,none⟩)))
     |_=>False)
    else False
   |none=>
    (match x,ix with
    | .loc j off,.v (.int _ i)=>0<=i/\i<n/\f (.dloc j (off+i.toNat*C.P.cellsOf e))
    | .dloc j off,.v (.int _ i)=>0<=i/\i<n/\f (.dloc j (off+i.toNat*C.P.cellsOf e))
    | .v (.pointer (some ⟨b,o,none⟩)),.v (.int _ i)=>0<=i/\i<n/\f (.v (.pointer (some ⟨b,o+i.toNat*C.P.cellsOf e,none⟩)))
    |_,_=>False))
 |_=>False

def indexV(t rty:TypeId)(f:SV->Prop)(x ix:SV):Prop:=
 match C.P.underlying t,x,ix with
 |some (.array n e),.v (.agg cs),.v (.int _ i)=>typed C e
  (match k1Of C.P e with
   | .one k=>0<=i/\i<n/\k.ex fun r=>cs.toList[i.toNat*C.P.cellsOf e]?=some r/\f (.v r)
   |_=>False)
 |some .string,.v (.string s),.v (.int k i)=>(k1Of C.P rty).ex fun r=>RunsTo C.P (Instr.index t (.string s) (.int k i)) r/\f (.v r)
 |_,_,_=>False

def fieldV(t:TypeId)(fld:Nat)(f:SV->Prop)(x:SV):Prop:=
 match C.P.underlying t,x with
 |some (.struct fs),.v (.agg cs)=>(match fs[fld]? with|some fd=>partV C fd.type cs.toList fd.offset f|none=>False)
 |_,_=>False

def valsOf(st:St):List (Nat×Operand)->Option (List (Nat×Value))
 | []=>some []
 |(i,x)::r=>match st.get x,valsOf st r with
  |some s,some l=>some ((i,s.val st.own)::l)
  |_,_=>none
def svsOf(st:St):List Operand->Option (List SV)
 | []=>some []
 |x::r=>match st.get x,svsOf st r with
  |some s,some l=>some (s::l)
  |_,_=>none

def placesOf(P:Program):List Field->Option (List (Nat×Nat))
 | []=>some []
 |fd::r=>match P.info? fd.type,placesOf P r with
  |some i,some l=>some ((fd.offset,i.size)::l)
  |_,_=>none
def buildV(t:TypeId)(parts:List (Nat×Operand))(st:St)(f:SV->Prop):Prop:=
 match zeroCellsOf C.P t,valsOf st parts with
 |some z,some vs=>
  (match C.P.underlying t with
   |some (.struct fs)=>
    (match(placesOf C.P fs.toList).bind fun places=>fillL (fun i=>places[i]?) z vs with
    |some cells=>f (.v (.agg cells.toArray))
    |none=>False)
   |some (.array _ e)=>
    (match(C.P.info? e).bind fun ie=>fillL (fun i=>some (i*ie.size,ie.size)) z vs with
    |some cells=>f (.v (.agg cells.toArray))
    |none=>False)
   |_=>False)
 |_,_=>False

def sliceV(t:TypeId)(st:St)(x:Operand)(lo hi mx:Option Operand)(f:SV->Prop):Prop:=
 match C.P.underlying t,st.get x,mx with
 |some (.slice e),some (.v (.slice a n c)),none=>sized C e
  (match lo,hi with
   |none,none=>f (.v (.slice a n c))
   |none,some ho=>(match st.get ho with
    |some (.v (.int _ h))=>0<=h/\h<=c/\f (.v (.slice a h.toNat c))
    |_=>False)
   |some l,none=>(match st.get l with
    |some (.v (.int _ l))=>0<=l/\l<=n/\n<=c/\∀a',(l<c->a'=a.map fun ad=>ad.add (l.toNat*C.P.cellsOf e))->f (.v (.slice a' (n-l.toNat) (c-l.toNat)))
    |_=>False)
   |some l,some ho=>(match st.get l,st.get ho with
    |some (.v (.int _ l)),some (.v (.int _ h))=>0<=l/\l<=h/\h<=c/\∀a',(l<c->a'=a.map fun ad=>ad.add (l.toNat*C.P.cellsOf e))->f (.v (.slice a' (h.toNat-l.toNat) (c-l.toNat)))
    |_,_=>False))
 |some (.slice e),some (.v (.slice a n c)),some mo=>sized C e
  (match lo,hi with
   |none,some ho=>(match numeral ho,numeral mo with
    |some 0,some 0=>f (.v (.slice a 0 0))
    |_,_=>False)
   |some l,some ho=>(match st.get l,st.get ho,st.get mo with
    |some (.v (.int _ l)),some (.v (.int _ h)),some (.v (.int _ m))=>0<=l/\l<=h/\h<=m/\m<=c/\∀a',(l<m->a'=a.map fun ad=>ad.add (l.toNat*C.P.cellsOf e))->f (.v (.slice a' (h.toNat-l.toNat) (m.toNat-l.toNat)))
    |_,_,_=>False)
   |_,_=>False)
 |some .string,some (.v (.string s)),none=>
  (match lo,hi with
   |none,none=>f (.v (.string (s.extract 0 s.size)))
   |none,some ho=>(match st.get ho with
    |some (.v (.int _ h))=>0<=h/\h<=s.size/\f (.v (.string (s.extract 0 h.toNat)))
    |_=>False)
   |some l,none=>(match st.get l with
    |some (.v (.int _ l))=>0<=l/\l<=s.size/\f (.v (.string (s.extract l.toNat s.size)))
    |_=>False)
   |some l,some ho=>(match st.get l,st.get ho with
    |some (.v (.int _ l)),some (.v (.int _ h))=>0<=l/\l<=h/\h<=s.size/\f (.v (.string (s.extract l.toNat h.toNat)))
    |_,_=>False))
 |_,_,_=>False

def capsOf(st:St):List Operand->Option (List Nat)
 | []=>some []
 |x::r=>match st.get x,capsOf st r with
  |some (.loc i 0),some l=>some (i::l)
  |_,_=>none
def capVals(st:St):List Operand->Option (List Value)
 | []=>some []
 |x::r=>match st.get x,capVals st r with
  |some (.v v),some l=>some (v::l)
  |_,_=>none
def makeFuncV(fn:Fn)(first caps:List Operand)(st:St)(f:SV->Prop):Prop:=
 match first,capsOf st caps with
 | [],some l=>f (.fn fn l)
 | [],none=>(match capVals st caps with|some vs=>f (.v (.func fn #[] vs.toArray))|none=>False)
 |_,_=>False

def lenV(t:TypeId)(st:St)(f:SV->Prop):SV->Prop
 | .v (.slice _ n _)=>(match C.P.underlying t with|some (.slice _)=>f (.v (.int .i64 n))|_=>False)
 | .v (.string s)=>(match C.P.underlying t with|some .string=>f (.v (.int .i64 s.size))|_=>False)
 | .mp i=>(match C.P.underlying t,st.own[i]? with|some (.map _ _),some ⟨_,true,_,cs⟩=>f (.v (.int .i64 (cs.length/2:Nat)))|_,_=>False)
 |_=>False
def capV(t:TypeId)(f:SV->Prop):SV->Prop
 | .v (.slice _ _ c)=>(match C.P.underlying t with|some (.slice _)=>f (.v (.int .i64 c))|_=>False)
 |_=>False
def keyFits(kt:TypeId)(key:SV):Bool:=
 match C.P.underlying kt,key with
 |some (.int _),.v (.int _ _)=>true
 |some .bool,.v (.bool _)=>true
 |some .bool,.p _ _=>true
 |some .bool,.tt=>true
 |some .bool,.ff=>true
 |_,_=>false
def lookupV(t:TypeId)(commaOk:Bool)(st:St)(f:SV->Prop)(m key:SV):Prop:=
 match C.P.underlying t,m with
 |some (.map kt e),.mp i=>
  (match keyFits C kt key,st.own[i]?,(C.P.info? e).bind (·.zero),k1Of C.P e with
   |true,some ⟨_,true,_,cs⟩,some z,.one lk=>
    (match commaOk with
    |false=>lk.ex fun r=>∃b:Bool,mapGet z (key.val st.own) cs=some (r,b)/\f (.v r)
    |true=>lk.ex fun r=>∃b:Bool,mapGet z (key.val st.own) cs=some (r,b)/\f (.v (.tuple #[r,.bool b])))
   |true,some ⟨_,true,_,cs⟩,some z,k=>
    (match commaOk with
    |false=>k.ex fun r=>∃b:Bool,mapGet z (key.val st.own) cs=some (r,b)/\f (.v r)
    |true=>False)
   |_,_,_,_=>False)
 |_,_=>False

def u8s(l:List UInt8):List Value:=l.map fun b=> .int .u8 b.toNat
def bytesV(src dst:TypeId)(st:St)(a:O)(n:Nat)(f:SV->Prop):Prop:=
 match C.P.underlying src,C.P.underlying dst with
 |some (.slice e),some .string=>(match C.P.underlying e with
  |some (.int .u8)=>∃l:List UInt8,l.length=n/\(n=0∨ ∃(b o:Nat),a=some ⟨b,o,none⟩/\cellsAt st.H b o 0 (u8s l))/\f (.v (.string ⟨l.toArray⟩))
  |_=>False)
 |_,_=>False

def quietV(o:Oper)(st:St):Option ((SV->Prop)->Prop):=
 match o.op with
 | .move x| .assign x=>some fun f=>match st.get x with|some s=>f s|none=>False
 | .pick c a b=>some fun f=>match st.get c with|some s=>pickV f (st.get a) (st.get b) s|none=>False
 | .binOp op ty x y _=>some fun f=>match st.get x,st.get y with|some sx,some sy=>binV C op ty o.type x y st.own sx sy f|_,_=>False
 | .unOp .not _ x=>some fun f=>match st.get x with|some s=>notV f s|none=>False
 | .unOp .neg _ x=>some fun f=>match st.get x with|some (.v (.int k a))=>∀r,r=k.wrap (0-a)->f (.v (.int k r))|_=>False
 | .load t a=>some fun f=>match st.get a with|some s=>loadV C t st f s|none=>False
 | .fieldAddr s x fld=>some fun f=>match st.get x with|some sx=>fieldAddrV C s fld f sx|none=>False
 | .indexAddr t x ix=>some fun f=>match st.get x,st.get ix with|some sx,some si=>indexAddrV C t ix f sx si|_,_=>False
 | .index t x ix=>some fun f=>match st.get x,st.get ix with|some sx,some si=>indexV C t o.type f sx si|_,_=>False
 | .field t x fld=>some fun f=>match st.get x with|some sx=>fieldV C t fld f sx|none=>False
 | .extract x i=>some fun f=>match st.get x with|some (.v (.tuple vs))=>(match vs.toList[i]? with|some v=>f (.v v)|none=>False)|_=>False
 | .build t parts=>some fun f=>buildV C t parts.toList st f
 | .slice t x lo hi mx=>some fun f=>sliceV C t st x lo hi mx f
 | .makeFunc fn first caps=>some fun f=>makeFuncV fn first.toList caps.toList st f
 | .lookup t m k ok=>some fun f=>match st.get m,st.get k with|some sm,some sk=>lookupV C t ok st f sm sk|_,_=>False
 | .call { callee:= .builtin .len,args:=args,argTypes:=ts } =>some fun f=>match args.toList,ts.toList with
   | [x],[t]=>(match st.get x with|some s=>lenV C t st f s|none=>False)
   |_,_=>False
 | .call { callee:= .builtin .cap,args:=args,argTypes:=ts } =>some fun f=>match args.toList,ts.toList with
   | [x],[t]=>(match st.get x with|some s=>capV C t f s|none=>False)
   |_,_=>False
 | .call { callee:= .builtin .min,args:=args,argTypes:=_ } =>some fun f=>match args.toList with
   | [x,y]=>(match st.get x,st.get y with|some (.v (.int k a)),some (.v (.int _ b))=>f (.v (.int k (if b<a then b else a)))|_,_=>False)
   |_=>False
 | .call { callee:= .builtin .max,args:=args,argTypes:=_ } =>some fun f=>match args.toList with
   | [x,y]=>(match st.get x,st.get y with|some (.v (.int k a)),some (.v (.int _ b))=>f (.v (.int k (if b>a then b else a)))|_,_=>False)
   |_=>False
 | .nilCheck x=>some fun f=>match st.get x with
   |some (.loc i off)=>f (.loc i off)
   |some (.dloc i off)=>f (.dloc i off)
   |some (.v (.pointer (some a)))=>f (.v (.pointer (some a)))
   |_=>False
 | .convert src dst x=>match st.get x with
   |some (.v (.int _ n))=>some fun f=>match C.P.underlying src,C.P.underlying dst with|some _,some (.int k)=>∀r,r=k.wrap n->f (.v (.int k r))|_,_=>False
   |some (.v (.string s))=>match C.P.underlying dst with|some .string=>some fun f=>(match C.P.underlying src with|some .string=>f (.v (.string s))|_=>False)|_=>none
   |some (.v (.slice a n _))=>some fun f=>bytesV C src dst st a n f
   |_=>none
 |_=>none
end
open Go

section
variable (C : Cfg)

def storable(ty:TypeId)(vs:List Value)(f:Prop):Prop:=
 sized C ty<|match k1Of C.P ty with
 | .arr n=>vs.length=n/\allOne vs=true/\f
 |_=>if vs.length=C.P.cellsOf ty/\allOne vs=true then f else False

def storeV(ty:TypeId)(st:St)(vs:List Value)(f:List Bx->Heap->Prop):SV->Prop
 | .loc i off=>
  (match st.own[i]? with
   |some ⟨b,false,bt,cs⟩=>
    (match k1Of C.P ty,off with
    | .arr _,0=>storable C ty vs (cs.length=C.P.cellsOf ty/\f (st.own.set i ⟨b,false,bt,vs⟩) st.H)
    |_,_=>storable C ty vs (if off+C.P.cellsOf ty<=cs.length then f (st.own.set i ⟨b,false,bt,setRange cs off vs⟩) st.H else False))
   |_=>False)
 | .dloc i off=>
  (match st.own[i]? with
   |some ⟨b,false,bt,cs⟩=>storable C ty vs (off+C.P.cellsOf ty<=cs.length/\f (st.own.set i ⟨b,false,bt,setRange cs off vs⟩) st.H)
   |_=>False)
 | .v (.pointer (some ⟨b,o,none⟩))=>storable C ty vs (∃k,st.H b=some k/\k.free=true/\C.base<=b/\o+C.P.cellsOf ty<=k.size/\∀H',Upd st.H b o k vs H'->f st.own H')
 |_=>False

def feedsAppend(o:Oper):Option Oper->Bool
 |some ⟨_,.call { callee:= .builtin .append,args:=args,argTypes:=_ },_,_,_,none⟩=>
  (match o.dst,args.toList with
   |some t,[_,.tmp u]=>t==u
   |_,_=>false)
 |_=>false

def buildSliceV(t:TypeId)(n:Nat)(parts:List (Nat×Operand))(st:St)(feeds:Bool)(f:SV->List Bx->Heap->Prop):Prop:=
 match C.P.underlying t with
 |some (.slice e)=>
  (match zeroCellsOf C.P e,valsOf st parts with
   |some z,some vs=>
    if n*C.P.cellsOf e<=16777216/\z.length=C.P.cellsOf e/\0<C.P.cellsOf e then
     (match fillL (fun i=>some (i*C.P.cellsOf e,C.P.cellsOf e)) (List.replicate n z).flatten vs with
     |some cells=>
      (match feeds with
       |true=>∀b:Nat,f (.lst st.own.length n) (st.own++[⟨b,false,e,cells⟩]) st.H
       |false=>∀(g:Nat)(H':Heap),Next C.base st.H H'->st.H g=none->H' g=some (boxKB e cells)->f (.v (.slice (some ⟨g,0,none⟩) n n)) st.own H')
     |none=>False)
    else False
   |_,_=>False)
 |_=>False

def appendV(t:TypeId)(st:St)(f:SV->List Bx->Heap->Prop)(s x:SV):Prop:=
 match C.P.underlying t,s with
 |some (.slice e),.v (.slice a n c)=>
  if 0<C.P.cellsOf e/\(zeroCellsOf C.P e).map List.length=some (C.P.cellsOf e) then
   (match x with
    | .lst i m=>
     (match st.own[i]? with
     |some ⟨_,false,_,cells⟩=>
      if cells.length=m*C.P.cellsOf e/\allOne cells=true/\0<m then
       ∃xs,Row C.base st.H e (C.P.cellsOf e) a n c xs/\(n+m)*C.P.bytesOf e<=140737488355328/\n+m<=maxLen/\
        ∀a' c' H',Grew C.base st.H H' a c a' c' (n+m)->Row C.base H' e (C.P.cellsOf e) a' (n+m) c' (xs++cells)->f (.v (.slice a' (n+m) c')) st.own H'
      else False
     |_=>False)
    | .v (.slice xa m _)=>
     ∃xs cells,Row C.base st.H e (C.P.cellsOf e) a n c xs/\cells.length=m*C.P.cellsOf e/\allOne cells=true/\
      (m=0∨ ∃(b o:Nat),xa=some ⟨b,o,none⟩/\cellsAt st.H b o 0 cells)/\(n+m)*C.P.bytesOf e<=140737488355328/\n+m<=maxLen/\
      ∀a' c' H',Grew C.base st.H H' a c a' c' (n+m)->Row C.base H' e (C.P.cellsOf e) a' (n+m) c' (xs++cells)->f (.v (.slice a' (n+m) c')) st.own H'
    |_=>False)
  else False
 |_,_=>False

def appendSV(e:TypeId)(st:St)(f:SV->List Bx->Heap->Prop)(a:O)(n c:Nat)(s:ByteArray):Prop:=
 match(C.P.info? e).bind (·.zero) with
 |some (.int .u8 0)=>if C.P.cellsOf e=1/\C.P.bytesOf e=1 then
   ∃xs,Row C.base st.H e 1 a n c xs/\n+s.size<=140737488355328/\
    ∀a' c' H',Grew C.base st.H H' a c a' c' (n+s.size)->Row C.base H' e 1 a' (n+s.size) c' (xs++u8s s.data.toList)->f (.v (.slice a' (n+s.size) c')) st.own H'
  else False
 |_=>False
def toBytesV(src dst:TypeId)(st:St)(f:SV->List Bx->Heap->Prop)(s:ByteArray):Prop:=
 match C.P.underlying src,C.P.underlying dst with
 |some _,some (.slice e)=>(match C.P.underlying e with
  |some (.int .u8)=>∀(g c:Nat)(H':Heap),s.size<=c->Next C.base st.H H'->st.H g=none->cellsAt H' g 0 0 (u8s s.data.toList)->f (.v (.slice (some ⟨g,0,none⟩) s.size c)) st.own H'
  |_=>False)
 |_,_=>False
def appendZV(t u:TypeId)(st:St)(f:SV->List Bx->Heap->Prop)(s x:SV):Prop:=
 match C.P.underlying t,C.P.underlying u,s,x with
 |some (.slice e),some (.int _),.v (.slice a n c),.v (.int _ k)=>
  (match zeroCellsOf C.P e with
   |some z=>if z.length=C.P.cellsOf e/\0<C.P.cellsOf e then
     ∃(xs:List Value)(m:Nat),k=m/\0<m/\c<n+m/\Row C.base st.H e (C.P.cellsOf e) a n c xs/\(n+m)*C.P.bytesOf e<=140737488355328/\n+m<=maxLen/\
      ∀(g c':Nat)(H':Heap),Next C.base st.H H'->st.H g=none->Row C.base H' e (C.P.cellsOf e) (some ⟨g,0,none⟩) (n+m) c' (xs++(List.replicate m z).flatten)->f (.v (.slice (some ⟨g,0,none⟩) (n+m) c')) st.own H'
    else False
   |none=>False)
 |some (.slice e),some .string,.v (.slice a n c),.v (.string x)=>appendSV C e st f a n c x
 |_,_,_,_=>False
def makeSliceV(t:TypeId)(st:St)(f:SV->List Bx->Heap->Prop)(l c:SV):Prop:=
 match C.P.underlying t,l,c with
 |some (.slice e),.v (.int .i64 l),.v (.int .i64 c)=>
  (match zeroCellsOf C.P e with
   |some z=>if z.length=C.P.cellsOf e then
     0<=l/\l<=c/\c.toNat*C.P.bytesOf e<=140737488355328/\c<=9223372036854775807/\
     ∀(g:Nat)(H':Heap),Next C.base st.H H'->st.H g=none->H' g=some (boxKB e (List.replicate c.toNat z).flatten)->f (.v (.slice (some ⟨g,0,none⟩) l.toNat c.toNat)) st.own H'
    else False
   |none=>False)
 |_,_,_=>False

def copyV(t:TypeId)(st:St)(f:SV->List Bx->Heap->Prop)(d s:SV):Prop:=
 match C.P.underlying t,d,s with
 |some (.slice e),.v (.slice da dn _),.v (.slice sa sn _)=>sized C e
   ((min sn dn=0->f (.v (.int .i64 0)) st.own st.H)/\(min sn dn≠0->∃(cells:List Value)(b o b' o':Nat)(k:KB),cells.length=min sn dn*C.P.cellsOf e/\allOne cells=true/\sa=some ⟨b,o,none⟩/\cellsAt st.H b o 0 cells/\
    da=some ⟨b',o',none⟩/\st.H b'=some k/\k.free=true/\C.base<=b'/\o'+cells.length<=k.size/\∀H',Upd st.H b' o' k cells H'->f (.v (.int .i64 (min sn dn:Nat))) st.own H'))
 |_,_,_=>False
def clearV(t:TypeId)(st:St)(f:SV->List Bx->Heap->Prop)(d:SV):Prop:=
 match C.P.underlying t,d with
 |some (.slice e),.v (.slice da dn _)=>
  (match zeroCellsOf C.P e with
   |some z=>if z.length=C.P.cellsOf e/\allOne z=true then
     (dn=0->f (.v (.tuple #[])) st.own st.H)/\(dn≠0->∃(b o:Nat)(k:KB),da=some ⟨b,o,none⟩/\st.H b=some k/\k.free=true/\C.base<=b/\o+dn*C.P.cellsOf e<=k.size/\
      ∀H',Upd st.H b o k (List.replicate dn z).flatten H'->f (.v (.tuple #[])) st.own H')
    else False
   |none=>False)
 |_,_=>False
def lentBy:List SV->List Nat
 | []=>[]
 | .loc i _::r=>i::lentBy r
 | .dloc i _::r=>i::lentBy r
 | .fn _ caps::r=>caps++lentBy r
 | .lst i _::r=>i::lentBy r
 | .mp i::r=>i::lentBy r
 |_::r=>lentBy r
def dedup:List Nat->List Nat
 | []=>[]
 |x::r=>if(dedup r).contains x then dedup r else x::dedup r
def pick(own:List Bx):List Nat->Option (List Bx)
 | []=>some []
 |i::r=>match own[i]?,pick own r with
  |some x,some l=>some (x::l)
  |_,_=>none
def alook(i:Nat):List (Nat×List Value)->Option (List Value)
 | []=>none
 |(j,c)::r=>if j=i then some c else alook i r
def ownWith(al:List (Nat×List Value)):Nat->List Bx->List Bx
 |_,[]=>[]
 |i,x::r=>(match alook i al with|some c=>x.set c|none=>x)::ownWith al (i+1) r
def putBack(own:List Bx)(is:List Nat)(cs:List (List Value)):List Bx:=ownWith (is.zip cs) 0 own
def knows(H:Heap):List Bx->Prop
 | []=>True
 |x::r=>H x.b=some (boxKB x.ty x.cs)/\knows H r
def boxK(P:Program)(x:Bx):K1:=match x.map with
 |true=> .sym
 |false=>(match k1Of P x.ty with| .one k=> .agg [k]|k=>k)
def boxKs(P:Program):List Bx->List K1:=List.map (boxK P)
def toCells(vs:List Value):List (List Value):=vs.map fun v=>v.cells.toList

def bodied(P:Program)(g:FuncId):Bool:=
 match P.funcs[g]? with
 |some fn=>fn.body.isSome&&fn.name != "runtime.NumGoroutine"
 |none=>false
def ExtRuns(P:Program)(H:Heap)(g:FuncId)(args:List Value)(r:Value):Prop:=∀w,Sees H w->(callFunc g args.toArray).run P w= .ok (.value r) w
def callTo(g:FuncId)(pre:List SV)(st:St)(rty:TypeId)(f:SV->List Bx->Heap->Prop):Prop:=
 if bodied C.P g=true then
  (match C.muts.inl C.base C.H0 g pre st.own st.H f with
   |some p=>p
   |none=>
   (match dedup (lentBy pre) with
   | []=>Spec C.P g (pre.map (SV.val st.own)) st.H fun v H'=>(k2Of C.P rty).ex fun r=>v=r/\(Next C.base st.H H'->f (.v r) st.own H')
   |is=>
    (match pick st.own is with
    |some xs=>
     (match C.muts.list.contains g with
      |true=>SpecO C.P g (pre.map (SV.val st.own)) xs st.H fun v css H'=>(k2Of C.P rty).ex fun r=>v=r/\
        (K1.exs (boxKs C.P xs) fun ws=>css=toCells ws/\(Next C.base st.H H'->f (.v r) (putBack st.own is (toCells ws)) H'))
      |false=>xs.all (fun x=> !x.map)=true/\∀Hl,Next 0 st.H Hl->knows Hl xs->Spec C.P g (pre.map (SV.val st.own)) Hl fun v H''=>(k2Of C.P rty).ex fun r=>v=r/\
        ∀H',Next C.base st.H H'->(∀b k,H'' b=some k->(∀x∈xs,b≠x.b)->H' b=some k)->f (.v r) st.own H')
    |none=>False)))
 else
  (match dedup (lentBy pre) with
   | []=>(match lkOf C.P rty with
    | .bool=>ExtRuns C.P st.H g (pre.map (SV.val st.own)) (.bool false)/\f .ff st.own st.H
    |_=>(k2Of C.P rty).ex fun r=>ExtRuns C.P st.H g (pre.map (SV.val st.own)) r/\f (.v r) st.own st.H)
   |_=>False)
def callV(fo:Operand)(args:List Operand)(st:St)(rty:TypeId)(f:SV->List Bx->Heap->Prop):Prop:=
 match svsOf st args with
 |some as1=>
  (match st.get fo with
   |some (.v (.func (.func g) first caps))=>callTo C g (first.toList.map SV.v++as1++caps.toList.map SV.v) st rty f
   |some (.fn (.func g) caps)=>callTo C g (as1++caps.map fun i=>SV.loc i 0) st rty f
   |_=>False)
 |none=>False

def loudV(o:Oper)(next:Option Oper)(st:St)(f:SV->List Bx->Heap->Prop):Prop:=
 match o.op with
 | .store t a x=>(match st.get a,st.get x with|some sa,some sx=>storeV C t st (sx.val st.own).cells.toList (fun own H=>f (.v undef) own H) sa|_,_=>False)
 | .alloc t=>(match zeroCellsOf C.P t with|some z=>∀b:Nat,f (.loc st.own.length 0) (st.own++[⟨b,false,t,z⟩]) st.H|none=>False)
 | .box t x=>(match st.get x with|some s=>∀b:Nat,f (.loc st.own.length 0) (st.own++[⟨b,false,t,(s.val st.own).cells.toList⟩]) st.H|none=>False)
 | .buildSlice t n parts=>buildSliceV C t n parts.toList st (feedsAppend o next) f
 | .makeMap t none=>∀b:Nat,f (.mp st.own.length) (st.own++[⟨b,true,t,[]⟩]) st.H
 | .mapUpdate t m k x| .insert t m k x=>
  (match C.P.underlying t,st.get m,st.get k,st.get x with
   |some (.map kt _),some (.mp i),some sk,some sx=>
    (match keyFits C kt sk,st.own[i]? with
    |true,some ⟨b,true,bt,cs⟩=>∃cs',mapSet (sk.val st.own) (sx.val st.own) cs=some cs'/\f (.v undef) (st.own.set i ⟨b,true,bt,cs'⟩) st.H
    |_,_=>False)
   |_,_,_,_=>False)
 | .makeSlice t l c=>(match st.get l,st.get c with|some sl,some sc=>makeSliceV C t st f sl sc|_,_=>False)
 | .call { callee:= .builtin .append,args:=args,argTypes:=ts } =>
  (match args.toList,ts.toList with
   | [s,x],[t,u]=>(match st.get s,st.get x with|some ss,some sx=>if t=u then appendV C t st f ss sx else appendZV C t u st f ss sx|_,_=>False)
   |_,_=>False)
 | .call { callee:= .builtin .copy,args:=args,argTypes:=ts } =>
  (match args.toList,ts.toList with
   | [d,x],[t,u]=>(match st.get d,st.get x with|some sd,some sx=>if t=u then copyV C t st f sd sx else False|_,_=>False)
   |_,_=>False)
 | .call { callee:= .builtin .clear,args:=args,argTypes:=ts } =>
  (match args.toList,ts.toList with
   | [d],[t]=>(match st.get d with|some sd=>clearV C t st f sd|_=>False)
   |_,_=>False)
 | .call { callee:= .value fo,args:=args,argTypes:=_ } =>callV C fo args.toList st o.type f
 | .convert src dst x=>(match st.get x with|some (.v (.string s))=>toBytesV C src dst st f s|_=>False)
 |_=>False

def opV(o:Oper)(next:Option Oper)(st:St)(f:SV->List Bx->Heap->Prop):Prop:=
 match quietV C o st with
 |some q=>q fun s=>f s st.own st.H
 |none=>loudV C o next st f

def byWant(want:Bool)(yes no:Prop):Prop:=match want with|true=>yes|false=>no
def guardV(ops:Array Oper)(o:Oper)(st:St)(yes no:St->Prop):Prop:=
 match o.guard with
 |none=>yes st
 |some (j,want)=>
  (match(ops[j]?).bind (·.dst) with
   |some t=>
    (match look t st.env with
    |some .tt=>byWant want (yes st) (no st)
    |some .ff=>byWant want (no st) (yes st)
    |some (.p q _)=>(q->byWant want (yes (st.put (some t) .tt)) (no (st.put (some t) .tt)))/\(¬q->byWant want (no (st.put (some t) .ff)) (yes (st.put (some t) .ff)))
    |some (.v (.bool b))=>(b=true->byWant want (yes (st.put (some t) .tt)) (no (st.put (some t) .tt)))/\(b=false->byWant want (no (st.put (some t) .ff)) (yes (st.put (some t) .ff)))
    |some (.v (.tuple _))=>no st
    |_=>False)
   |none=>False)

def opsV(ops:Array Oper):List Oper->St->(St->Prop)->Prop
 | [],st,k=>k st
 |o::rest,st,k=>guardV ops o st
   (fun st=>opV C o rest.head? st fun s own H=>opsV ops rest (St.put ⟨st.env,own,H⟩ o.dst s) k)
   (fun st=>opsV ops rest (st.put o.dst (.v undef)) k)

def worldless(o:Oper):Bool:=
 match o.op with
 | .call { callee:= .builtin .len,args:=_,argTypes:=ts } =>(match ts.toList with| [t]=>(match C.P.underlying t with|some (.map _ _)=>false|_=>true)|_=>false)
 | .move _| .assign _| .pick .. | .binOp .. | .unOp .not .. | .unOp .neg .. | .fieldAddr .. | .indexAddr .. | .index .. | .field .. | .extract .. | .build .. | .slice .. | .makeFunc .. | .nilCheck _=>true
 | .call { callee:= .builtin .cap, .. } | .call { callee:= .builtin .min, .. } | .call { callee:= .builtin .max, .. } =>true
 |_=>false
def isLoad(o:Oper):Bool:=match o.op with| .load .. =>true|_=>false
def waits(ops:Array Oper):Nat->Nat->Nat->Bool
 |0,j,i=>(match ops[j]? with|some o=>o.after.any (fun e=>Region.binds .any e&&e.on==i)|none=>false)
 |n+1,j,i=>(match ops[j]? with|some o=>o.after.any (fun e=>Region.binds .any e&&e.on==i)||o.after.any (fun e=>Region.binds .any e&&waits ops n e.on i)|none=>false)
def turns(o:Oper):Bool:=
 match o.op with
 | .store .. | .mapUpdate .. | .insert .. | .entryStore .. | .mapEntry .. =>true
 | .call { callee:= .builtin b, .. } =>(match b with| .len| .cap| .min| .max=>false|_=>true)
 | .call { callee:= .value (.func g), .. } =>C.muts.list.contains g
 | .call _=>true
 |_=>false
def noWriter(ops:Array Oper)(listed:Array Bool)(t k:Nat):Bool:=
 (List.range ops.size).all fun j=>listed.getD j true||j==k||(match ops[j]? with|some x=>x.dst !=some t|none=>true)
def loadedV(ops:Array Oper)(listed:Array Bool)(st:St)(t k:Nat):Option Value:=
 match ops[k]? with
 |some lo=>
  (match lo.op with
   | .load ty (.tmp x)=>
    (match !listed.getD k true&&lo.dst==some t&&lo.guard.isNone&&noWriter ops listed t k&&noWriter ops listed x ops.size with
    |true=>
     (match k1Of C.P ty,C.P.underlying ty,look x st.env with
      | .one _,some _,some (.loc i off)=>(match st.own[i]? with
       |some ⟨_,false,_,cs⟩=>cs[off]?
       |_=>none)
      |_,_,_=>none)
    |false=>none)
   |_=>none)
 |none=>none
def loadedFn(ops:Array Oper)(listed:Array Bool)(st:St)(o:Oper)(t:Nat):Bool:=
 o.after.any fun e=>Region.binds .any e&&(match loadedV C ops listed st t e.on with
  |some (.func (.func g) _ _)=> !C.muts.list.contains g
  |_=>false)
def stillT(ops:Array Oper)(listed:Array Bool)(st:St)(o:Oper):Bool:=
 match C.muts.list.contains 1000000 with
 |false=>turns C o
 |true=>
  match o.op with
  | .call { callee:= .value (.tmp t), .. } =>
   (match(List.range ops.size).all (fun j=>listed.getD j true||(match ops[j]? with|some x=>x.dst !=some t|none=>true)) with
    |true=>(match look t st.env with
     |some (.v (.func (.func g) _ _))=>C.muts.list.contains g
     |some (.fn (.func g) _)=>C.muts.list.contains g
     |_=>true)
    |false=>(match C.muts.list.contains 1000002 with
     |true=> !loadedFn C ops listed st o t
     |false=>true))
  | .insert .. =>false
  |_=>turns C o
def canTake(T:Oper->Bool)(ops:Array Oper)(listed:Array Bool)(i:Nat):Bool:=
 match ops[i]? with
 |some o=>Region.free .any ops listed i&&
  (worldless C o||(isLoad o&&((List.range ops.size).all fun j=>listed.getD j true||(match ops[j]? with|some oj=> !T oj||waits ops 4 j i|none=>true))&&
   ((List.range ops.size).all fun k=> !waits ops 4 k i|| !listed.getD k true)))
 |none=>false
def allV:List Nat->(Nat->Prop)->Prop
 | [],_=>True
 | [i],f=>f i
 |i::r,f=>f i/\allV r f
def drawV(ops:Array Oper):Nat->Array Bool->St->(St->Prop)->Prop
 |0,listed,st,k=>(match Region.ready .any ops listed with| []=>k st|_=>False)
 |n+1,listed,st,k=>
  (match Region.ready .any ops listed with
   | []=>k st
   |rs=>
    let go:=fun i=>(match ops[i]? with
     |some o=>guardV ops o st
       (fun st=>opV C o none st fun s own H=>drawV ops n (listed.setIfInBounds i true) (St.put ⟨st.env,own,H⟩ o.dst s) k)
       (fun st=>drawV ops n (listed.setIfInBounds i true) (st.put o.dst (.v undef)) k)
     |none=>False)
    match rs.find? (canTake C (stillT C ops listed st) ops listed) with
    |some i=>go i
    |none=>allV rs go)

structure Ks where
 n:St->Prop
 x:Nat->St->Prop
 r:St->Prop
def codeOps:Code->List Oper
 | .region _ ops _=>ops.toList
 | .seq a b=>codeOps a++codeOps b
 | .cond _ a b=>codeOps a++codeOps b
 | .block _ a=>codeOps a
 | .loop a=>codeOps a
 | .scope a=>codeOps a
 |_=>[]
def writes(ops:List Oper):List Nat:=ops.filterMap fun o=>o.dst
def present(s:Nat)(env:List (Nat×SV)):Bool:=
 match look s env with
 |some (.v (.tuple _))=>false
 |some _=>true
 |none=>false
def genSlots(ops:List Oper)(env:List (Nat×SV)):List Nat:=
 (List.range C.nt).filter fun s=>present s env&&(writes ops).contains s
def dropSlots(ops:List Oper)(env:List (Nat×SV)):List (Nat×SV):=env.filter fun p=> !(writes ops).contains p.1
def slotK(ops:List Oper)(s:Nat):K1:=
 match ops.find? fun o=>o.dst==some s with
 |some o=>k1Of C.P o.type
 |none=> .one .any
def rootOf(ops:List Oper)(env:List (Nat×SV)):Nat->Nat->List Nat
 |0,_=>[]
 |n+1,t=>
  match ops.find? fun o=>o.dst==some t with
  |some o=>
   (match o.op with
    | .fieldAddr _ (.tmp u) _| .indexAddr _ (.tmp u) _| .move (.tmp u)| .assign (.tmp u)| .nilCheck (.tmp u)=>rootOf ops env n u
    |_=>[])
  |none=>(match look t env with|some s=>lentBy [s]|none=>[])
def rootsOf(ops:List Oper)(env:List (Nat×SV)):List Operand->List Nat
 | []=>[]
 | .tmp t::r=>rootOf ops env 9 t++rootsOf ops env r
 |_::r=>rootsOf ops env r
def modBoxes(ops:List Oper)(env:List (Nat×SV)):List Nat:=
 let l:=ops.flatMap fun o=>match o.op with
  | .store _ a _=>rootsOf ops env [a]
  | .mapUpdate _ m _ _=>rootsOf ops env [m]
  | .insert _ m _ _=>rootsOf ops env [m]
  | .call { callee:= .value (.func g),args:=args,argTypes:=_ } =>if C.muts.list.contains g then rootsOf ops env args.toList else []
  | .call { callee:= .value (.tmp t),args:=args,argTypes:=_ } =>rootsOf ops env (.tmp t::args.toList)
  |_=>[]
 (List.range 40).filter fun i=>(l.contains i||C.muts.list.contains (2000000+i))&& !C.muts.list.contains (3000000+i)
def slotVals(st:St):List Nat->Option (List Value)
 | []=>some []
 |s::r=>match look s st.env,slotVals st r with
  |some v,some l=>some (v.val st.own::l)
  |_,_=>none
def boxVals(own:List Bx):List Nat->Option (List Value)
 | []=>some []
 |i::r=>match own[i]?,boxVals own r with
  |some x,some l=>some (.agg x.cs.toArray::l)
  |_,_=>none
def headVals(slots boxes:List Nat)(st:St):Option (List Value):=
 match slotVals st slots,boxVals st.own boxes with
 |some a,some b=>some (a++b)
 |_,_=>none
def reslot:List Nat->List Value->List (Nat×SV)->List (Nat×SV)
 |s::r,v::vs,env=>(s,.v v)::reslot r vs env
 |_,_,env=>env
def restCs(boxes:List Nat)(own:List Bx)(n:Nat):List (List Value):=
 ((List.range n).filter fun i=> !boxes.contains i).filterMap fun i=>(own[i]?).map Bx.cs
def sameRest(was now:List (List Value))(f:Prop):Prop:=
 match was with
 | []=>f
 |_=>now=was/\f
def SubH(H H':Heap):Prop:=∀b k,H b=some k->H' b=some k
def leafV(φ:Prop):SV->Prop
 | .tt=>φ
 | .ff=>¬φ
 | .p q _=>φ↔q
 | .v (.bool b)=>φ↔b=true
 |_=>False
def bare:SV->Bool
 | .v (.tuple _)=>false
 |_=>true
def joins(ops:List Oper):Option Tmp:=
 match ops.any (fun o=>o.guard.isSome),ops.getLast? with
 |true,some o=>(match C.P.underlying o.type,o.guard with
  |some .bool,none=>o.dst
  |_,_=>none)
 |_,_=>none
def sameOwn(f:Prop):List Bx->List Bx->Prop
 | [],[]=>f
 |a,b=>b=a/\f
def joinV(ops:Array Oper)(t:Tmp)(st:St)(k:St->Prop):Prop:=
 ∃φ:Prop,opsV C ops ops.toList st (fun st'=>sameOwn (SubH st.H st'.H/\(match look t st'.env with|some s=>leafV φ s|none=>False)) st.own st'.own)/\
  k ⟨(t,.p φ (Classical.propDecidable φ))::dropSlots ops.toList st.env,st.own,st.H⟩
def regionV(ops:Array Oper)(st:St)(k:St->Prop):Prop:=
 match C.muts.join with
 |true=>(match joins C ops.toList with|some t=>joinV C ops t st k|none=>opsV C ops ops.toList st k)
 |false=>opsV C ops ops.toList st k
def chainOf:Code->Code->Option Tmp
 | .seq (.region _ ops false) (.cond (.tmp t) .skip _),.cond (.tmp u) _ _=>(match t==u&&ops.any (fun o=>o.dst==some t) with|true=>some t|false=>none)
 |_,_=>none
def newSlots:List Oper->List (Nat×TypeId)
 | []=>[]
 |o::r=>match o.op,o.guard,o.dst with
  | .alloc t,none,some d=>(d,t)::newSlots r
  |_,_,_=>newSlots r
def newPlaces(n:Nat)(st:St):List (Nat×TypeId)->Option (List Nat)
 | []=>some []
 |(s,t)::r=>match look s st.env,newPlaces n st r with
  |some (.loc i 0),some l=>(match st.own[i]? with
   |some x=>(match !x.map&&Nat.ble n i&&Nat.beq x.ty t&& !l.contains i with
    |true=>some (i::l)
    |false=>none)
   |none=>none)
  |_,_=>none
def newKinds(P:Program)(ts:List (Nat×TypeId)):List K1:=ts.map fun p=>boxK P ⟨0,false,p.2,[]⟩
def cellsOfAll(xs:List Bx):List Value:=xs.map fun x=> .agg x.cs.toArray
def mkBoxes:List (Nat×TypeId)->List Nat->List (List Value)->List Bx
 |(_,t)::r,b::bs,c::cs=>⟨b,false,t,c⟩::mkBoxes r bs cs
 |_,_,_=>[]
def slotLocs(env:List (Nat×SV)):Nat->List (Nat×TypeId)->List (Nat×SV)
 |_,[]=>env
 |n,(s,_)::r=>(s,.loc n 0)::slotLocs env (n+1) r
def alN:Nat->(List Nat->Prop)->Prop
 |0,f=>f []
 |n+1,f=>∀b:Nat,alN n fun l=>f (b::l)
def drawLeaf(ts:List (Nat×TypeId))(kinds:List K1)(p:List Value->Prop)(st st':St):Prop:=
 match newPlaces st.own.length st' ts with
 |some is=>(match pick st'.own is with
  |some xs=>sameOwn (SubH st.H st'.H/\fitP kinds (cellsOfAll xs) (p (cellsOfAll xs))) st.own (st'.own.take st.own.length)
  |none=>False)
 |none=>False
def drawCut(ops:Array Oper)(st:St)(k:St->Prop)(ts:List (Nat×TypeId)):Prop:=
 ∃p:List Value->Prop,drawV C ops ops.size (Array.replicate ops.size false) st (drawLeaf ts (newKinds C.P ts) p st)/\
  alN ts.length fun bs=>K1.als (newKinds C.P ts) fun vs=>p vs->k ⟨slotLocs (dropSlots ops.toList st.env) st.own.length ts,st.own++mkBoxes ts bs (toCells vs),st.H⟩
def cutable:Code->Bool
 | .skip=>true
 | .region .. =>true
 | .exit _=>true
 | .seq a b=>cutable a&&cutable b
 | .cond _ a b=>cutable a&&cutable b
 | .block _ a=>cutable a
 |_=>false
def cutOf(a:Code)(env:List (Nat×SV)):Option Tmp:=
 match a with
 | .block _ x=>(match cutable x,genSlots C (codeOps a) env with
  |true,[t]=>some t
  |_,_=>none)
 |_=>none
def codeV:Code->Ks->St->Prop
 | .skip,ks,st=>ks.n st
 | .label _,ks,st=>ks.n st
 | .seq a b,ks,st=>
  (match C.muts.list.contains 1000001 with
   |false=>(match C.muts.list.contains 1000003 with
    |false=>codeV a ⟨codeV b ks,ks.x,ks.r⟩ st
    |true=>(match cutOf C a st.env with
     |none=>codeV a ⟨codeV b ks,ks.x,ks.r⟩ st
     |some t=>∃P:List Value->Prop,codeV a ⟨fun st'=>sameOwn (SubH st.H st'.H/\(match look t st'.env with|some s=>fitP [slotK C (codeOps a) t] [s.val st'.own] (P [s.val st'.own])|none=>False)) st.own st'.own,fun _ _=>False,fun _=>False⟩ st/\
       K1.als [slotK C (codeOps a) t] fun vs=>P vs->codeV b ks ⟨reslot [t] vs (dropSlots (codeOps a) st.env),st.own,st.H⟩))
   |true=>(match chainOf a b with
    |none=>codeV a ⟨codeV b ks,ks.x,ks.r⟩ st
    |some t=>∃φ:Prop,codeV a ⟨fun st'=>sameOwn (SubH st.H st'.H/\(match look t st'.env with|some s=>leafV φ s|none=>False)) st.own st'.own,fun _ _=>False,fun _=>False⟩ st/\
      codeV b ks ⟨(t,.p φ (Classical.propDecidable φ))::dropSlots (codeOps a) st.env,st.own,st.H⟩))
 | .cond c a b,ks,st=>
  (match st.get c with
   |some .tt=>codeV a ks st
   |some .ff=>codeV b ks st
   |some (.p q _)=>(q->codeV a ks st)/\(¬q->codeV b ks st)
   |some (.v (.bool x))=>(x=true->codeV a ks st)/\(x=false->codeV b ks st)
   |_=>False)
 | .block id a,ks,st=>codeV a ⟨ks.n,fun i=>if i=id then ks.n else ks.x i,ks.r⟩ st
 | .scope a,ks,st=>codeV a ks st
 | .exit id,ks,st=>ks.x id st
 | .ret,ks,st=>ks.r st
 | .region _ ops draw,ks,st=>(match draw with|true=>(match C.muts.list.contains 1000003,newSlots ops.toList with|true,(x::r)=>drawCut C ops st ks.n (x::r)|_,_=>drawV C ops ops.size (Array.replicate ops.size false) st ks.n)|false=>regionV C ops st ks.n)
 | .loop a,ks,st=>
  let ops:=codeOps a
  let slots:=genSlots C ops st.env
  let boxes:=modBoxes C ops st.env
  (match headVals slots boxes st,pick st.own boxes with
   |some vs0,some xs=>
    let kinds:=slots.map (slotK C ops)++boxKs C.P xs
    fitP kinds vs0 (match C.muts.list.contains 1000000 with
     |false=>∃(I:List Value->Heap->Prop)(μ:List Value->Nat),I vs0 st.H/\K1.als kinds fun vs=>∀H',Next C.base C.H0 H'->I vs H'->
      codeV a ⟨fun st'=>(match headVals slots boxes st' with
        |some vs'=>fitP kinds vs' (sameRest (restCs boxes st.own st.own.length) (restCs boxes st'.own st.own.length) (I vs' st'.H/\μ vs'<μ vs))
        |none=>False),ks.x,ks.r⟩
       ⟨reslot slots (vs.take slots.length) (dropSlots ops st.env),putBack st.own boxes (toCells (vs.drop slots.length)),H'⟩
     |true=>∃(I:Nat->List Value->Heap->Prop)(m:Nat),I m vs0 st.H/\∀m,K1.als kinds fun vs=>∀H',Next C.base C.H0 H'->I m vs H'->
      codeV a ⟨fun st'=>(match headVals slots boxes st' with
        |some vs'=>fitP kinds vs' (sameRest (restCs boxes st.own st.own.length) (restCs boxes st'.own st.own.length) (∃m',m'<m/\I m' vs' st'.H))
        |none=>False),ks.x,ks.r⟩
       ⟨reslot slots (vs.take slots.length) (dropSlots ops st.env),putBack st.own boxes (toCells (vs.drop slots.length)),H'⟩)
   |_,_=>False)
 |_,_,_=>False

def resV(st:St):List ResultVar->(List Value->Prop)->Prop
 | [],f=>f []
 | .tmp t::r,f=>(match look t st.env with|some s=>resV st r fun l=>f (s.val st.own::l)|none=>False)
 | .cell a t::r,f=>
  (match look a st.env with
   |some (.loc i 0)=>
    (match st.own[i]? with
    |some ⟨_,false,_,cs⟩=>
     (match C.P.underlying t,k1Of C.P t with
      |some _,.one _=>(match cs with| [v]=>resV st r fun l=>f (v::l)|_=>False)
      |some _,.arr _=>cs.length=C.P.cellsOf t/\resV st r fun l=>f (.agg cs.toArray::l)
      |some _,_=>if cs.length=C.P.cellsOf t then resV st r fun l=>f (.agg cs.toArray::l) else False
      |none,_=>False)
    |_=>False)
   |_=>False)
def retV(rs:List ResultVar)(m:Nat)(K:KT)(st:St):Prop:=
 resV C st rs fun vs=>match vs with
  | [v]=>K v ((st.own.take m).map Bx.cs) st.H
  |vs=>K (.tuple vs.toArray) ((st.own.take m).map Bx.cs) st.H
def zipFrom:Nat->List SV->List (Nat×SV)
 |_,[]=>[]
 |i,s::r=>(i,s)::zipFrom (i+1) r
def funV(c:Code)(rs:List ResultVar)(args:List SV)(own:List Bx)(K:KT):Prop:=
 codeV C c ⟨retV C rs own.length K,fun _ _=>False,retV C rs own.length K⟩ ⟨zipFrom 0 args,own,C.H0⟩
end
def inl0:InlFn:=fun _ _ _ _ _ _ _=>none
def lookFn(g:FuncId):List (FuncId×Func)->Option Func
 | []=>none
 |(h,fn)::r=>if h=g then some fn else lookFn g r
def retI(C:Cfg)(rs:List ResultVar)(f:SV->List Bx->Heap->Prop)(st:St):Prop:=
 resV C st rs fun vs=>match vs with
  | [v]=>f (.v v) st.own st.H
  |vs=>f (.v (.tuple vs.toArray)) st.own st.H
def codeI(C:Cfg)(fn:Func)(pre:List SV)(own:List Bx)(H:Heap)(f:SV->List Bx->Heap->Prop):Prop:=
 codeV C (fn.body.getD .skip) ⟨retI C fn.results.toList f,fun _ _=>False,retI C fn.results.toList f⟩ ⟨zipFrom 0 pre,own,H⟩
def inlOf(P:Program)(list:List FuncId)(fs:List (FuncId×Func))(prev:InlFn):InlFn:=fun base H0 g pre own H f=>
 match lookFn g fs with
 |none=>none
 |some fn=>if pre.length<=fn.ntmps then some (codeI ⟨P,fn.ntmps,⟨list,prev,true⟩,base,H0⟩ fn pre own H f) else none
open Go

def SV.wf(n:Nat):SV->Prop
 | .loc i _=>i<n
 | .dloc i _=>i<n
 | .mp i=>i<n
 | .lst i _=>i<n
 | .fn _ caps=>∀i∈caps,i<n
 |_=>True
structure OwnExt(own own':List Bx):Prop where
 len:own.length<=own'.length
 same:∀(i:Nat)(x:Bx),own[i]?=some x->∃x':Bx,own'[i]?=some x'/\x'.b=x.b/\x'.map=x.map/\x'.ty=x.ty
theorem OwnExt.refl(own:List Bx):OwnExt own own:=⟨Nat.le_refl _,fun _ x h=>⟨x,h,rfl,rfl,rfl⟩⟩
theorem OwnExt.trans{a b c:List Bx}(h:OwnExt a b)(k:OwnExt b c):OwnExt a c:=
 ⟨Nat.le_trans h.len k.len,fun i x hx=>by
  obtain⟨y,hy,e1,e2,e3⟩:=h.same i x hx
  obtain⟨z,hz,f1,f2,f3⟩:=k.same i y hy
  exact⟨z,hz,f1.trans e1,f2.trans e2,f3.trans e3⟩⟩
theorem OwnExt.append(own more:List Bx):OwnExt own (own++more):=
 ⟨by simp,fun i x hx=>⟨x,by rw[List.getElem?_append_left (by have:=List.getElem?_eq_some_iff.1 hx;exact this.1)];exact hx,rfl,rfl,rfl⟩⟩
theorem OwnExt.set{own:List Bx}{i:Nat}{x x':Bx}(hx:own[i]?=some x)(hb:x'.b=x.b)(hm:x'.map=x.map)(ht:x'.ty=x.ty):OwnExt own (own.set i x'):=by
 refine⟨by simp,fun j y hy=> ?_⟩
 by_cases e:i=j
 ·subst e
  rw[hx] at hy
  obtain rfl:=Option.some.inj hy
  have hl:=(List.getElem?_eq_some_iff.1 hx).1
  exact⟨x',by simp[hl],hb,hm,ht⟩
 ·exact⟨y,by rw[List.getElem?_set_ne e];exact hy,rfl,rfl,rfl⟩
theorem boxNo_ext{own own':List Bx}(h:OwnExt own own'){i:Nat}(hi:i<own.length):boxNo own' i=boxNo own i:=by
 have hx:own[i]?=some own[i]:=by simp
 obtain⟨y,hy,e,_,_⟩:=h.same i _ hx
 simp[boxNo,hy,e,hi]
theorem SV.val_ext{own own':List Bx}(h:OwnExt own own'){s:SV}(hs:s.wf own.length):s.val own'=s.val own:=by
 cases s with
 |loc i off=>simp only[SV.val,boxNo_ext h hs]
 |dloc i off=>simp only[SV.val,boxNo_ext h hs]
 |mp i=>simp only[SV.val,boxNo_ext h hs]
 |lst i n=>simp only[SV.val,boxNo_ext h hs]
 |fn g caps=>
  simp only[SV.val]
  congr 2
  exact List.map_congr_left fun i hi=>by rw[boxNo_ext h (hs i hi)]
 |_=>rfl
theorem SV.wf_mono{n m:Nat}(h:n<=m){s:SV}(hs:s.wf n):s.wf m:=by
 cases s with
 |fn g caps=>exact fun i hi=>Nat.lt_of_lt_of_le (hs i hi) h
 |loc i off=>exact Nat.lt_of_lt_of_le hs h
 |dloc i off=>exact Nat.lt_of_lt_of_le hs h
 |mp i=>exact Nat.lt_of_lt_of_le hs h
 |lst i n=>exact Nat.lt_of_lt_of_le hs h
 |_=>trivial

structure EnvOk(nt:Nat)(env:List (Nat×SV))(own:List Bx)(a:Act):Prop where
 size:a.tmps.size=nt
 defers:a.defers=[]
 at_:∀s sv,look s env=some sv->s<nt/\a.tmps.getD s undef=sv.val own/\sv.wf own.length
theorem EnvOk.ext{nt:Nat}{env:List (Nat×SV)}{own own':List Bx}{a:Act}(h:EnvOk nt env own a)(e:OwnExt own own'):EnvOk nt env own' a:=
 ⟨h.size,h.defers,fun s sv hs=>by
  obtain⟨h1,h2,h3⟩:=h.at_ s sv hs
  exact⟨h1,by rw[SV.val_ext e h3];exact h2,SV.wf_mono e.len h3⟩⟩
theorem EnvOk.put{nt:Nat}{env:List (Nat×SV)}{own:List Bx}{a:Act}(h:EnvOk nt env own a){t:Nat}(ht:t<nt){sv:SV}(hw:sv.wf own.length):
  EnvOk nt ((t,sv)::env) own (a.put (some t) (sv.val own)):=by
 refine⟨by simp[Act.put,h.size],h.defers,fun s sv' hs=> ?_⟩
 simp only[look] at hs
 split at hs
 ·rename_i e
  subst e
  obtain rfl:=Option.some.inj hs
  refine⟨ht,?_,hw⟩
  simp[Act.put,h.size,ht]
 ·rename_i e
  obtain⟨h1,h2,h3⟩:=h.at_ s sv' hs
  refine⟨h1,?_,h3⟩
  simp only[Act.put,Array.getD_eq_getD_getElem?] at*
  rw[Array.getElem?_setIfInBounds_ne e]
  exact h2
theorem EnvOk.respell{nt:Nat}{env:List (Nat×SV)}{own:List Bx}{a:Act}(h:EnvOk nt env own a){t:Nat}{s s':SV}(hs:look t env=some s)(hv:s'.val own=s.val own)(hw:s'.wf own.length):
  EnvOk nt ((t,s')::env) own a:=by
 refine⟨h.size,h.defers,fun u sv hu=> ?_⟩
 simp only[look] at hu
 split at hu
 ·rename_i e
  subst e
  obtain rfl:=Option.some.inj hu
  obtain⟨h1,h2,_⟩:=h.at_ _ _ hs
  exact⟨h1,h2.trans hv.symm,hw⟩
 ·exact h.at_ u sv hu
theorem look_filter{p:Nat->Bool}{env:List (Nat×SV)}{s:Nat}{sv:SV}(h:look s (env.filter fun x=>p x.1)=some sv):look s env=some sv/\p s=true:=by
 induction env with
 |nil=>simp[look] at h
 |cons x r ih=>
  obtain⟨t,v⟩:=x
  by_cases hp:p t=true
  ·rw[List.filter_cons_of_pos (by simpa using hp)] at h
   simp only[look] at h⊢
   split at h
   ·rename_i e;subst e;exact⟨by simpa using h,hp⟩
   ·rename_i e;rw[if_neg e];exact ih h
  ·rw[List.filter_cons_of_neg (by simpa using hp)] at h
   obtain⟨h1,h2⟩:=ih h
   refine⟨?_,h2⟩
   simp only[look]
   rw[if_neg (fun e=>hp (by rw[e];exact h2))]
   exact h1

theorem BelowX.refl(own:List Nat)(w:World):BelowX own w w:=⟨rfl,rfl,rfl,Nat.le_refl _,fun _ _ _=>rfl⟩
theorem BelowX.drew(own:List Nat)(w:World):BelowX own w { w with drawn:=w.drawn+1 } :=⟨rfl,rfl,rfl,Nat.le_refl _,fun _ _ _=>rfl⟩
theorem BelowX.alloc(own:List Nat)(w:World)(o:Obj):BelowX own w (w.alloc o):=
 ⟨rfl,rfl,rfl,by simp,fun k hk _=>by show(w.heap.push o)[k]?=_;rw[Array.getElem?_push,if_neg (by omega)]⟩
theorem Sees.of_same{H:Heap}{w w':World}(h:Sees H w)(hb:∀b k,H b=some k->w'.heap[b]?=w.heap[b]?):Sees H w':=
 fun b k hk=>by rw[hb b k hk];exact h b k hk
theorem KB.sees_lt{k:KB}{w:World}{b:Nat}(h:k.sees w.heap[b]?):b<w.heap.size:=by
 obtain⟨cur,fr,e,_⟩:=h
 exact(Array.getElem?_eq_some_iff.1 e).1
theorem Sees.lt{H:Heap}{w:World}(h:Sees H w){b:Nat}{k:KB}(hk:H b=some k):b<w.heap.size:=KB.sees_lt (h b k hk)
theorem Sees.below{H:Heap}{w w':World}(h:Sees H w)(hb:BelowX [] w w'):Sees H w':=
 h.of_same fun b _ hk=>hb.block b (h.lt hk) (by simp)
structure BelowC(w w':World):Prop where
 cells:∀(k:Nat) c t f,w.heap[k]?=some (.cells c t f)->w'.heap[k]?=some (.cells c t f)
theorem BelowX.toC{w w':World}(h:BelowX [] w w'):BelowC w w':=⟨fun k c t f hk=>by rw[h.block k (Array.getElem?_eq_some_iff.1 hk).1 (by simp)];exact hk⟩
theorem Sees.belowC{H:Heap}{w w':World}(h:Sees H w)(hb:BelowC w w'):Sees H w':=fun b k hk=>by
 obtain⟨cur,fr,e,hr⟩:=h b k hk
 exact⟨cur,fr,hb.cells _ _ _ _ e,hr⟩
theorem Bx.ok_lt{x:Bx}{w:World}(h:x.ok w):x.b<w.heap.size:=by
 unfold Bx.ok at h
 split at h
 ·exact(Array.getElem?_eq_some_iff.1 h).1
 ·obtain⟨es,c,e,_⟩:=h;exact(Array.getElem?_eq_some_iff.1 e).1
theorem Bx.ok_same{x:Bx}{w w':World}(h:x.ok w)(e:w'.heap[x.b]?=w.heap[x.b]?):x.ok w':=by
 unfold Bx.ok at*
 rw[e];exact h
theorem BoxesOk.below{own:List Bx}{H:Heap}{w w':World}(h:BoxesOk own H w)(hb:BelowX [] w w'):BoxesOk own H w':=
 ⟨fun x hx=>Bx.ok_same (h.ok x hx) (hb.block _ (Bx.ok_lt (h.ok x hx)) (by simp)),h.hid,h.apart⟩
def BoxesC(own:List Bx)(w:World):Prop:=∀x∈own,x.map=false->x.ok w
theorem BoxesOk.c{own:List Bx}{H:Heap}{w:World}(h:BoxesOk own H w):BoxesC own w:=fun x hx _=>h.ok x hx
theorem BoxesC.belowC{own:List Bx}{w w':World}(h:BoxesC own w)(hb:BelowC w w'):BoxesC own w':=fun x hx hm=>by
 have:=h x hx hm
 unfold Bx.ok at*
 rw[hm] at this⊢
 exact hb.cells _ _ _ _ this
theorem Sees.cell{H:Heap}{w:World}(h:Sees H w){b o:Nat}{v:Value}(hc:H.cell b o=some v):w.cell? ⟨b,o,none⟩=some v:=by
 unfold Heap.cell at hc
 cases hk:H b with
 |none=>simp[hk] at hc
 |some k=>
  simp only[hk,Option.bind_some] at hc
  obtain⟨cur,fr,e,_,_,hcell⟩:=h b k hk
  simp[World.cell?,e,hcell o v hc]
theorem Next.refl(base:Nat)(H:Heap):Next base H H:=⟨fun _ _ h=>h,fun b k h h'=>by rw[h] at h';cases h'⟩
theorem Next.trans{base:Nat}{a b c:Heap}(h:Next base a b)(k:Next base b c):Next base a c:=
 ⟨fun x y hx=>k.ext x y (h.ext x y hx),fun x y hy hn=>by
  cases hb:b x with
  |none=>exact k.fresh x y hy hb
  |some z=>exact h.fresh x z hb hn⟩
theorem Next.mono{base base':Nat}{a b:Heap}(h:Next base a b)(hb:base'<=base):Next base' a b:=
 ⟨h.ext,fun x y hx hn=>Nat.le_trans hb (h.fresh x y hx hn)⟩

theorem LK.al_spec{k:LK}{f:Value->Prop}(h:k.al f){v:Value}(hv:k.fit v=true):f v:=by
 cases k<;>cases v<;>simp[LK.fit] at hv<;>first|exact h _|(subst hv;exact h _)|exact h _ _ _|exact h.1|exact h.2 _ _
theorem LK.ex_spec{k:LK}{f:Value->Prop}(h:k.ex f):∃v,f v/\k.fit v=true:=by
 cases k with
 |int k=>obtain⟨n,hn⟩:=h;exact⟨_,hn,by simp[LK.fit]⟩
 |bool=>obtain⟨n,hn⟩:=h;exact⟨_,hn,rfl⟩
 |str=>obtain⟨n,hn⟩:=h;exact⟨_,hn,rfl⟩
 |slice=>obtain⟨a,n,c,hn⟩:=h;exact⟨_,hn,rfl⟩
 |iface=>
  rcases h with h|⟨t,p,h⟩
  ·exact⟨_,h,rfl⟩
  ·exact⟨_,h,rfl⟩
 |any=>obtain⟨n,hn⟩:=h;exact⟨_,hn,rfl⟩
theorem LK.als_spec:∀ {ks:List LK} {f:List Value->Prop},LK.als ks f->∀ {vs:List Value},LK.fits ks vs=true->f vs
 | [],_,h,[],_=>h
 | [],_,_,_::_,hv=>by simp[LK.fits] at hv
 |_::_,_,_,[],hv=>by simp[LK.fits] at hv
 |k::ks,f,h,v::vs,hv=>by
  simp only[LK.fits,Bool.and_eq_true] at hv
  exact LK.als_spec (ks:=ks) (f:=fun vs=>f (v::vs)) (LK.al_spec h hv.1) hv.2
theorem LK.exs_spec:∀ {ks:List LK} {f:List Value->Prop},LK.exs ks f->∃vs,f vs/\LK.fits ks vs=true/\vs.length=ks.length
 | [],_,h=>⟨[],h,rfl,rfl⟩
 |k::ks,f,h=>by
  obtain⟨v,hv,hf⟩:=LK.ex_spec h
  obtain⟨vs,hvs,hfs,hl⟩:=LK.exs_spec (ks:=ks) hv
  exact⟨v::vs,hvs,by simp[LK.fits,hf,hfs],by simp[hl]⟩
def K1.Fit:K1->Value->Prop
 | .one k,v=>k.fit v=true
 | .agg ks,v=>∃cs:List Value,v= .agg cs.toArray/\LK.fits ks cs=true
 | .arr n,v=>∃cs:List Value,v= .agg cs.toArray/\cs.length=n
 | .sym,v=>∃cs:List Value,v= .agg cs.toArray
inductive Fits:List K1->List Value->Prop
 |nil:Fits [] []
 |cons {k:K1} {ks:List K1} {v:Value} {vs:List Value} (h:k.Fit v) (t:Fits ks vs):Fits (k::ks) (v::vs)
theorem K1.al_spec{k:K1}{f:Value->Prop}(h:k.al f){v:Value}(hv:k.Fit v):f v:=by
 cases k with
 |one k=>exact LK.al_spec h hv
 |agg ks=>obtain⟨cs,rfl,hf⟩:=hv;exact LK.als_spec (f:=fun vs=>f (.agg vs.toArray)) h hf
 |arr n=>obtain⟨cs,rfl,hl⟩:=hv;exact h cs hl
 |sym=>obtain⟨cs,rfl⟩:=hv;exact h cs
theorem K1.als_spec{ks:List K1}{vs:List Value}(hv:Fits ks vs):∀ {f:List Value->Prop},K1.als ks f->f vs:=by
 induction hv with
 |nil=>exact fun h=>h
 |cons h _ ih=>exact fun{f} hf=>ih (f:=fun vs=>f (_::vs)) (K1.al_spec hf h)
theorem K1.ex_spec{k:K1}{f:Value->Prop}(h:k.ex f):∃v,f v/\k.Fit v:=by
 cases k with
 |one k=>exact LK.ex_spec h
 |agg ks=>obtain⟨vs,h1,h2,_⟩:=LK.exs_spec h;exact⟨_,h1,vs,rfl,h2⟩
 |arr n=>obtain⟨cs,hl,hf⟩:=h;exact⟨_,hf,cs,rfl,hl⟩
 |sym=>obtain⟨cs,hf⟩:=h;exact⟨_,hf,cs,rfl⟩
theorem K1.exs_spec:∀ {ks:List K1} {f:List Value->Prop},K1.exs ks f->∃vs,f vs/\Fits ks vs
 | [],_,h=>⟨[],h,.nil⟩
 |k::ks,f,h=>by
  obtain⟨v,hv,hf⟩:=K1.ex_spec h
  obtain⟨vs,hvs,hfs⟩:=K1.exs_spec (ks:=ks) hv
  exact⟨v::vs,hvs,.cons hf hfs⟩
theorem K2.ex_spec{k:K2}{f:Value->Prop}(h:k.ex f):∃v,f v:=by
 cases k with
 |k1 k=>obtain⟨v,hv,_⟩:=K1.ex_spec h;exact⟨v,hv⟩
 |tup ks=>obtain⟨vs,hvs,_⟩:=K1.exs_spec h;exact⟨_,hvs⟩
theorem fitP_spec:∀ {ks:List K1} {vs:List Value} {f:Prop},fitP ks vs f->Fits ks vs/\f
 | [],[],_,h=>⟨.nil,h⟩
 | [],_::_,_,h=>h.elim
 |_::_,[],_,h=>h.elim
 | .one k::ks,v::vs,f,h=>by
  simp only[fitP] at h
  split at h
  ·rename_i hk;obtain⟨h1,h2⟩:=fitP_spec h;exact⟨.cons hk h1,h2⟩
  ·exact h.elim
 | .agg k::ks,v::vs,f,h=>by
  cases v with
  |agg cs=>
   simp only[fitP] at h
   split at h
   ·rename_i hk;obtain⟨h1,h2⟩:=fitP_spec h;exact⟨.cons ⟨cs.toList,by simp,hk⟩ h1,h2⟩
   ·exact h.elim
  |_=>exact h.elim
 | .arr n::ks,v::vs,f,h=>by
  cases v with
  |agg cs=>
   simp only[fitP] at h
   obtain⟨h1,h2⟩:=fitP_spec h.2
   exact⟨.cons ⟨cs.toList,by simp,h.1⟩ h1,h2⟩
  |_=>exact h.elim
 | .sym::ks,v::vs,f,h=>by
  cases v with
  |agg cs=>
   simp only[fitP] at h
   obtain⟨h1,h2⟩:=fitP_spec h
   exact⟨.cons ⟨cs.toList,by simp⟩ h1,h2⟩
  |_=>exact h.elim
open Go

theorem boolSV_val(own:List Bx)(x:Value):(boolSV x).val own=x:=by
 unfold boolSV;split<;>rfl
theorem boolSV_wf(n:Nat)(x:Value):(boolSV x).wf n:=by
 unfold boolSV;split<;>trivial
theorem get_sound{nt:Nat}{st:St}{a:Act}(h:EnvOk nt st.env st.own a){x:Operand}{s:SV}(hs:st.get x=some s):a.eval x=s.val st.own/\s.wf st.own.length:=by
 cases x with
 |tmp t=>obtain⟨_,h2,h3⟩:=h.at_ t s hs;exact⟨h2,h3⟩
 |const v=>obtain rfl:=Option.some.inj hs;exact⟨(boolSV_val _ _).symm,boolSV_wf _ _⟩
 |global g=>obtain rfl:=Option.some.inj hs;exact⟨rfl,trivial⟩
 |func f=>obtain rfl:=Option.some.inj hs;exact⟨rfl,trivial⟩

section
variable {C : Cfg}

theorem beq_dec(a b:Int):(a==b)=decide (a=b):=by
 rw[Bool.eq_iff_iff];simp
theorem bne_dec(a b:Int):(a !=b)=decide (¬a=b):=by
 rw[Bool.eq_iff_iff];simp

def Gives(P:Program)(own:List Bx)(m:Sem Value)(s:SV):Prop:=s.wf own.length/\∀w,m.run P w= .ok (s.val own) w

theorem intBin_sound(own:List Bx)(op:BinOp)(ty:TypeId)(xo yo:Operand)(k:IntKind)(a b:Int)(f:SV->Prop)(h:intBin op k a b f):
  ∃s,f s/\Gives C.P own (binRun op ty xo yo (.int k a) (.int k b)) s:=by
 cases op<;>simp only[intBin] at h
 case add=>exact⟨_,h _ rfl,trivial,fun w=>by simp[binRun,eqGuard,binOp,Op.intArith,SV.val]⟩
 case sub=>exact⟨_,h _ rfl,trivial,fun w=>by simp[binRun,eqGuard,binOp,Op.intArith,SV.val]⟩
 case mul=>exact⟨_,h _ rfl,trivial,fun w=>by simp[binRun,eqGuard,binOp,Op.intArith,SV.val]⟩
 case quo=>exact⟨_,h.2 _ rfl,trivial,fun w=>by simp[binRun,eqGuard,binOp,Op.intDiv,SV.val,h.1]⟩
 case rem=>exact⟨_,h.2,trivial,fun w=>by simp[binRun,eqGuard,binOp,Op.intDiv,SV.val,h.1]⟩
 case eql=>exact⟨_,h,trivial,fun w=>by simp[binRun,eqGuard,binOp,Op.intCmp,SV.val,beq_dec]⟩
 case neq=>exact⟨_,h,trivial,fun w=>by simp[binRun,eqGuard,binOp,Op.intCmp,SV.val,bne_dec]⟩
 case lss=>exact⟨_,h,trivial,fun w=>by simp[binRun,eqGuard,binOp,Op.intCmp,SV.val]⟩
 case leq=>exact⟨_,h,trivial,fun w=>by simp[binRun,eqGuard,binOp,Op.intCmp,SV.val]⟩
 case gtr=>exact⟨_,h,trivial,fun w=>by simp[binRun,eqGuard,binOp,Op.intCmp,SV.val]⟩
 case geq=>exact⟨_,h,trivial,fun w=>by simp[binRun,eqGuard,binOp,Op.intCmp,SV.val]⟩

theorem binV_sound(op:BinOp)(ty rty:TypeId)(xo yo:Operand)(own:List Bx)(sx sy:SV)(f:SV->Prop)(h:binV C op ty rty xo yo own sx sy f):
  ∃s,f s/\Gives C.P own (binRun op ty xo yo (sx.val own) (sy.val own)) s:=by
 unfold binV at h
 split at h
 ·rename_i k a k' b
  split at h
  ·rename_i e;subst e;exact intBin_sound own op ty xo yo k a b f h
  ·exact h.elim
 ·split at h
  ·obtain⟨b,hr,hf⟩:=h
   refine⟨_,hf,trivial,fun w=> ?_⟩
   rw[hr w]
   simp[SV.val]
  ·obtain⟨v,⟨hr,hf⟩,_⟩:=K1.ex_spec h
   exact⟨_,hf,trivial,hr⟩

theorem notV_sound(own:List Bx)(f:SV->Prop)(s:SV)(h:notV f s):∃r,f r/\Gives C.P own (Op.unary .not (s.val own)) r:=by
 unfold notV at h
 split at h
 ·exact⟨_,h,trivial,fun w=>by simp[SV.val,Op.unary]⟩
 ·exact⟨_,h,trivial,fun w=>by simp[SV.val,Op.unary]⟩
 ·exact⟨_,h,trivial,fun w=>by simp[SV.val,Op.unary]⟩
 ·rename_i b
  exact⟨_,h,trivial,fun w=>by cases b<;>simp[SV.val,Op.unary]⟩
 ·exact h.elim

theorem pickV_sound{nt:Nat}{st:St}(f:SV->Prop)(x y:Operand)(s:SV)(h:pickV f (st.get x) (st.get y) s):
  ∃r,f r/\∀a:Act,EnvOk nt st.env st.own a->r.wf st.own.length/\∃b,s.val st.own= .bool b/\(if b then a.eval x else a.eval y)=r.val st.own:=by
 unfold pickV at h
 split at h
 ·split at h
  ·rename_i r hr;exact⟨r,h,fun a ha=>⟨(get_sound ha hr).2,true,rfl,(get_sound ha hr).1⟩⟩
  ·exact h.elim
 ·split at h
  ·rename_i r hr;exact⟨r,h,fun a ha=>⟨(get_sound ha hr).2,false,rfl,(get_sound ha hr).1⟩⟩
  ·exact h.elim
 ·rename_i q d
  split at h
  ·rename_i r t hr ht
   by_cases hq:q
   ·exact⟨r,h.1 hq,fun a ha=>⟨(get_sound ha hr).2,true,by simp[SV.val,hq],(get_sound ha hr).1⟩⟩
   ·exact⟨t,h.2 hq,fun a ha=>⟨(get_sound ha ht).2,false,by simp[SV.val,hq],(get_sound ha ht).1⟩⟩
  ·exact h.elim
 ·rename_i b
  split at h
  ·rename_i r t hr ht
   cases b with
   |true=>exact⟨r,h.1 rfl,fun a ha=>⟨(get_sound ha hr).2,true,rfl,(get_sound ha hr).1⟩⟩
   |false=>exact⟨t,h.2 rfl,fun a ha=>⟨(get_sound ha ht).2,false,rfl,(get_sound ha ht).1⟩⟩
  ·exact h.elim
 ·exact h.elim

theorem addr_add(b o n:Nat):(⟨b,o,none⟩:Addr).add n=⟨b,o+n,none⟩:=by unfold Addr.add;split<;>simp_all
theorem run_loadVar_one{P:Program}{ty:TypeId}{lk:LK}(hk:k1Of P ty= .one lk){w:World}{b o:Nat}{v:Value}(hd:(P.underlying ty).isSome=true)(hc:w.cell? ⟨b,o,none⟩=some v):
  (loadVar ty ⟨b,o,none⟩).run P w= .ok v w:=by
 obtain⟨d,hd⟩:=Option.isSome_iff_exists.1 hd
 have hagg:(isAgg ty).run P w= .ok false w:=by
  unfold isAgg
  rw[Sem.run_bind,run_underlying hd w]
  unfold k1Of at hk
  rw[hd] at hk
  cases d<;>simp_all
  split at hk<;>simp at hk
 simp[loadVar,Sem.run_bind,hagg,run_load,hc]
theorem run_loadVar_agg{P:Program}{ty:TypeId}(hk:∀lk,k1Of P ty≠ .one lk){w:World}{b o:Nat}{cs:List Value}(hn:cs.length=P.cellsOf ty)(hi:(P.info? ty).isSome=true)
  (hc:∀j v,cs[j]?=some v->w.cell? ⟨b,o+j,none⟩=some v):
  (loadVar ty ⟨b,o,none⟩).run P w= .ok (.agg cs.toArray) w:=by
 have hl:(loadCells ⟨b,o,none⟩ cs.length).run P w= .ok cs.toArray w:=
  run_loadCells_list (P:=P) w ⟨b,o,none⟩ cs (fun j v hv=>by rw[addr_add];exact hc j v hv)
 obtain⟨i,hi⟩:=Option.isSome_iff_exists.1 hi
 have hs:i.size=cs.length:=by rw[hn];simp[Program.cellsOf,hi]
 cases hd:P.underlying ty with
 |none=>exact absurd (by simp[k1Of,hd]) (hk (lkOf P ty))
 |some d=>
  have hagg:(isAgg ty).run P w= .ok true w:=by
   unfold isAgg
   rw[Sem.run_bind,run_underlying hd w]
   cases d with
   |struct fs=>rfl
   |array n e=>rfl
   |_=>exact absurd (by simp[k1Of,hd]) (hk (lkOf P ty))
  simp[loadVar,Sem.run_bind,hagg,sizeOf,typeInfo,hi,hs,hl]
theorem info_of_underlying{P:Program}{t:TypeId}(h:(P.underlying t).isSome=true):(P.info? t).isSome=true:=by
 unfold Program.underlying at h
 cases hi:P.info? t with
 |none=>simp[hi] at h
 |some i=>rfl
theorem cellsAt_spec{H:Heap}{b o:Nat} :∀ {vs:List Value} {i:Nat},cellsAt H b o i vs->∀j v,vs[j]?=some v->H.cell b (o+i+j)=some v
 | [],_,_,j,v,h=>by simp at h
 |x::vs,i,h,0,v,hv=>by simp at hv;subst hv;exact h.1
 |x::vs,i,h,j+1,v,hv=>by
  have:=cellsAt_spec (i:=i+1) h.2 j v (by simpa using hv)
  rw[show o+i+(j+1)=o+(i+1)+j from by omega]
  exact this
theorem listAt_spec{cs:List Value}{o:Nat} :∀ {vs:List Value} {i:Nat},listAt cs o i vs->∀j v,vs[j]?=some v->cs[o+i+j]?=some v
 | [],_,_,j,v,h=>by simp at h
 |x::vs,i,h,0,v,hv=>by simp at hv;subst hv;exact h.1
 |x::vs,i,h,j+1,v,hv=>by
  have:=listAt_spec (i:=i+1) h.2 j v (by simpa using hv)
  rw[show o+i+(j+1)=o+(i+1)+j from by omega]
  exact this
theorem box_cellC{own:List Bx}{w:World}(h:BoxesC own w){i:Nat}{b:Nat}{ty:TypeId}{cs:List Value}(hx:own[i]?=some ⟨b,false,ty,cs⟩){j:Nat}{v:Value}(hv:cs[j]?=some v):
  boxNo own i=b/\w.cell? ⟨b,j,none⟩=some v:=by
 have hm:(⟨b,false,ty,cs⟩:Bx)∈own:=List.mem_of_getElem? hx
 have:=h _ hm rfl
 simp only[Bx.ok] at this
 exact⟨by simp[boxNo,hx],by simp[World.cell?,this,hv]⟩

theorem box_cell{own:List Bx}{H:Heap}{w:World}(h:BoxesOk own H w){i:Nat}{b:Nat}{ty:TypeId}{cs:List Value}(hx:own[i]?=some ⟨b,false,ty,cs⟩){j:Nat}{v:Value}(hv:cs[j]?=some v):
  boxNo own i=b/\w.cell? ⟨b,j,none⟩=some v:=box_cellC h.c hx hv
theorem fit_cells{P:Program}{t:TypeId}{v:Value}(h:(k1Of P t).Fit v)(hk:∀lk,k1Of P t≠ .one lk):∃cs:List Value,v= .agg cs.toArray/\cs.length=P.cellsOf t:=by
 have hfl:∀(ks:List LK)(vs:List Value),LK.fits ks vs=true->vs.length=ks.length:=by
  intro ks
  induction ks with
  |nil=>intro vs h;cases vs<;>simp_all[LK.fits]
  |cons k ks ih=>intro vs h;cases vs with
   |nil=>simp[LK.fits] at h
   |cons v vs=>simp only[LK.fits,Bool.and_eq_true] at h;simp[ih vs h.2]
 unfold k1Of at h hk
 split at h
 ·split at h
  ·rename_i hl
   obtain⟨cs,rfl,hf⟩:=h
   exact⟨cs,rfl,(hfl _ _ hf).trans hl⟩
  ·obtain⟨cs,rfl,hl⟩:=h
   exact⟨cs,rfl,hl⟩
 ·obtain⟨cs,rfl,hl⟩:=h
  exact⟨cs,rfl,hl⟩
 ·rename_i h1 h2
  exfalso
  refine hk (lkOf P t) ?_
  split
  ·rename_i fs e;exact absurd e (h1 fs)
  ·rename_i n e' e;exact absurd e (h2 n e')
  ·rfl

def ReadsC(P:Program)(st:St)(m:Sem Value)(s:SV):Prop:=s.wf st.own.length/\∀w,Sees st.H w->BoxesC st.own w->m.run P w= .ok (s.val st.own) w
def Reads(P:Program)(st:St)(m:Sem Value)(s:SV):Prop:=s.wf st.own.length/\∀w,Sees st.H w->BoxesOk st.own st.H w->m.run P w= .ok (s.val st.own) w
end
open Go
section
variable {C : Cfg}
theorem typed_spec{t:TypeId}{f:Prop}(h:typed C t f):(C.P.underlying t).isSome=true/\f:=by
 unfold typed at h
 split at h
 ·rename_i d e;exact⟨by rw[e];rfl,h⟩
 ·exact h.elim
theorem box_no{own:List Bx}{i:Nat}{x:Bx}(hx:own[i]?=some x):boxNo own i=x.b:=by simp[boxNo,hx]
theorem idx_lt{α:Type}{l:List α}{i:Nat}{x:α}(h:l[i]?=some x):i<l.length:=(List.getElem?_eq_some_iff.1 h).1

theorem loadV_sound(ty:TypeId)(st:St)(f:SV->Prop)(s:SV)(h:loadV C ty st f s):∃r,f r/\ReadsC C.P st (Instr.loadAt ty (s.val st.own)) r:=by
 have lift:∀(b o:Nat)(v:Value)(w:World),(loadVar ty ⟨b,o,none⟩).run C.P w= .ok v w->(Instr.loadAt ty (.pointer (some ⟨b,o,none⟩))).run C.P w= .ok v w:=fun b o v w h=>by
  simp only[Instr.loadAt,Instr.sureAddr,Sem.run_bind,Sem.run_pure,Result.andThen_ok,h]
 unfold loadV at h
 split at h
 ·rename_i i off
  split at h
  ·rename_i b bt cs hx
   obtain⟨hd,h⟩:=typed_spec h
   split at h
   ·rename_i lk hk
    split at h
    ·rename_i v hv
     refine⟨_,h,trivial,fun w _ hb=> ?_⟩
     obtain⟨e,hc⟩:=box_cellC hb hx hv
     simp only[SV.val,e]
     exact lift _ _ _ _ (run_loadVar_one hk hd hc)
    ·exact h.elim
   ·rename_i n hk
    have hk':∀lk,k1Of C.P ty≠ .one lk:=fun lk h=>by rw[hk] at h;cases h
    split at h
    ·obtain⟨hl,h⟩:=h
     refine⟨_,h,trivial,fun w _ hb=> ?_⟩
     have e:boxNo st.own i=b:=box_no hx
     simp only[SV.val,e]
     exact lift _ _ _ _ (run_loadVar_agg hk' hl (info_of_underlying hd) fun j v hv=>(box_cellC hb hx (by simpa using hv)).2)
    ·split at h
     ·rename_i hl
      refine⟨_,h,trivial,fun w _ hb=> ?_⟩
      have e:boxNo st.own i=b:=box_no hx
      simp only[SV.val,e]
      refine lift _ _ _ _ (run_loadVar_agg hk' hl (info_of_underlying hd) fun j v hv=> ?_)
      rw[List.getElem?_take] at hv
      split at hv
      ·rw[List.getElem?_drop] at hv
       exact(box_cellC hb hx hv).2
      ·cases hv
     ·exact h.elim
   ·rename_i hk1 hk2
    split at h
    ·rename_i hl
     refine⟨_,h,trivial,fun w _ hb=> ?_⟩
     have e:boxNo st.own i=b:=box_no hx
     simp only[SV.val,e]
     refine lift _ _ _ _ (run_loadVar_agg (fun lk h=>hk1 lk h) hl (info_of_underlying hd) fun j v hv=> ?_)
     rw[List.getElem?_take] at hv
     split at hv
     ·rw[List.getElem?_drop] at hv
      exact(box_cellC hb hx hv).2
     ·cases hv
    ·exact h.elim
  ·exact h.elim
 ·rename_i i off
  split at h
  ·rename_i b bt cs hx
   obtain⟨hd,h⟩:=typed_spec h
   have e:boxNo st.own i=b:=box_no hx
   split at h
   ·rename_i k hk
    obtain⟨v,⟨hl,hf⟩,_⟩:=LK.ex_spec h
    refine⟨_,hf,trivial,fun w _ hb=> ?_⟩
    simp only[SV.val,e]
    exact lift _ _ _ _ (run_loadVar_one hk hd (box_cellC hb hx hl).2)
   ·rename_i hk
    obtain⟨v,⟨hl,hf⟩,hfit⟩:=K1.ex_spec h
    refine⟨_,hf,trivial,fun w _ hb=> ?_⟩
    simp only[SV.val,e]
    have hk':∀lk,k1Of C.P ty≠ .one lk:=fun lk h=>hk lk h
    obtain⟨cs',rfl,hn⟩:=fit_cells hfit hk'
    refine lift _ _ _ _ (run_loadVar_agg hk' hn (info_of_underlying hd) fun j v hv=> ?_)
    have:=listAt_spec (vs:=cs') (by simpa[Value.cells] using hl) j v hv
    exact(box_cellC hb hx (by simpa using this)).2
  ·exact h.elim
 ·rename_i b o
  obtain⟨hd,h⟩:=typed_spec h
  split at h
  ·rename_i k hk
   obtain⟨v,⟨hl,hf⟩,_⟩:=LK.ex_spec h
   refine⟨_,hf,trivial,fun w hs _=> ?_⟩
   exact lift _ _ _ _ (run_loadVar_one hk hd (hs.cell hl))
  ·rename_i hk
   obtain⟨v,⟨hl,hf⟩,hfit⟩:=K1.ex_spec h
   refine⟨_,hf,trivial,fun w hs _=> ?_⟩
   have hk':∀lk,k1Of C.P ty≠ .one lk:=fun lk h=>hk lk h
   obtain⟨cs',rfl,hn⟩:=fit_cells hfit hk'
   refine lift _ _ _ _ (run_loadVar_agg hk' hn (info_of_underlying hd) fun j v hv=> ?_)
   have:=cellsAt_spec (vs:=cs') (by simpa[Value.cells] using hl) j v hv
   exact hs.cell (by simpa using this)
 ·exact h.elim

theorem fieldAddrV_sound(s:TypeId)(fld:Nat)(st:St)(f:SV->Prop)(x:SV)(hx:x.wf st.own.length)(h:fieldAddrV C s fld f x):∃r,f r/\Gives C.P st.own (Instr.fieldAt s (x.val st.own) fld) r:=by
 unfold fieldAddrV at h
 split at h
 ·rename_i fs hu
  split at h
  ·rename_i fd hfd
   split at h
   ·exact h.elim
   ·rename_i hn
    have hi:(C.P.info? fd.type).isSome=true:=by
     cases hi:C.P.info? fd.type with
     |none=>simp[Program.cellsOf,hi] at hn
     |some i=>rfl
    obtain⟨i,hi⟩:=Option.isSome_iff_exists.1 hi
    have hs:i.size≠0:=by simpa[Program.cellsOf,hi] using hn
    have key:∀(b o:Nat)(w:World),(Instr.fieldAt s (.pointer (some ⟨b,o,none⟩)) fld).run C.P w= .ok (.pointer (some ⟨b,o+fd.offset,none⟩)) w:=fun b o w=>by
     simp[Instr.fieldAt,run_underlying hu,hfd,Instr.sureAddr,fieldPlace,sizeOf,typeInfo,hi,hs,addr_add]
    split at h
    ·exact⟨_,h,hx,fun w=>key _ _ w⟩
    ·exact⟨_,h,hx,fun w=>key _ _ w⟩
    ·exact⟨_,h,trivial,fun w=>key _ _ w⟩
    ·exact h.elim
  ·exact h.elim
 ·exact h.elim
theorem run_sizeOf'{P:Program}{t:TypeId}(h:(P.info? t).isSome=true)(w:World):(sizeOf t).run P w= .ok (P.cellsOf t) w:=by
 obtain⟨i,hi⟩:=Option.isSome_iff_exists.1 h
 simp[sizeOf,typeInfo,hi,Program.cellsOf]
theorem numeral_eval{a:Act}{x:Operand}{m:Nat}(h:numeral x=some m):∃k,a.eval x= .int k (m:Int):=by
 unfold numeral at h
 split at h
 ·obtain rfl:=Option.some.inj h;exact⟨_,rfl⟩
 ·cases h
theorem sized_spec{t:TypeId}{f:Prop}(h:sized C t f):(C.P.info? t).isSome=true/\f:=by
 unfold sized at h
 split at h
 ·rename_i d e;exact⟨by rw[e];rfl,h⟩
 ·exact h.elim
theorem indexAddrV_sound(t:TypeId)(ixo:Operand)(st:St)(f:SV->Prop)(x ix:SV)(hx:x.wf st.own.length)(h:indexAddrV C t ixo f x ix)
  (hn:∀m,numeral ixo=some m->∃k,ix.val st.own= .int k (m:Int)):
  ∃r,f r/\Gives C.P st.own (Instr.indexAt t (x.val st.own) (ix.val st.own)) r:=by
 unfold indexAddrV at h
 split at h
 ·rename_i e hu
  obtain⟨hi,h⟩:=sized_spec h
  split at h
  ·rename_i a n c k i
   obtain⟨b,o,rfl,h0,h1,hf⟩:=h
   refine⟨_,hf,trivial,fun w=> ?_⟩
   simp[SV.val,Instr.indexAt,asIntOf,run_underlying hu,h0,h1,run_sizeOf' hi,addr_add]
  ·exact h.elim
 ·rename_i n e hu
  obtain⟨hi,h⟩:=sized_spec h
  have key:∀(b o:Nat)(k:IntKind)(i:Int)(w:World),0<=i->i<n->(Instr.indexAt t (.pointer (some ⟨b,o,none⟩)) (.int k i)).run C.P w= .ok (.pointer (some ⟨b,o+i.toNat*C.P.cellsOf e,none⟩)) w:=fun b o k i w h0 h1=>by
   simp[Instr.indexAt,asIntOf,run_underlying hu,Instr.sureAddr,h0,h1,run_sizeOf' hi,addr_add]
  split at h
  ·rename_i m hm
   obtain⟨k,hk⟩:=hn m hm
   split at h
   ·rename_i hlt
    have key':∀(b o:Nat)(w:World),(Instr.indexAt t (.pointer (some ⟨b,o,none⟩)) (ix.val st.own)).run C.P w= .ok (.pointer (some ⟨b,o+m*C.P.cellsOf e,none⟩)) w:=fun b o w=>by
     rw[hk,key b o k m w (by omega) (by omega)]
     simp
    split at h
    ·exact⟨_,h,hx,fun w=>key' _ _ w⟩
    ·exact⟨_,h,hx,fun w=>key' _ _ w⟩
    ·exact⟨_,h,trivial,fun w=>key' _ _ w⟩
    ·exact h.elim
   ·exact h.elim
  ·split at h
   ·exact⟨_,h.2.2,hx,fun w=>key _ _ _ _ w h.1 h.2.1⟩
   ·exact⟨_,h.2.2,hx,fun w=>key _ _ _ _ w h.1 h.2.1⟩
   ·exact⟨_,h.2.2,trivial,fun w=>key _ _ _ _ w h.1 h.2.1⟩
   ·exact h.elim
 ·exact h.elim

theorem run_isAgg_one{P:Program}{ty:TypeId}{lk:LK}(hk:k1Of P ty= .one lk)(hd:(P.underlying ty).isSome=true)(w:World):(isAgg ty).run P w= .ok false w:=by
 obtain⟨d,hd⟩:=Option.isSome_iff_exists.1 hd
 unfold isAgg
 rw[Sem.run_bind,run_underlying hd w]
 unfold k1Of at hk
 rw[hd] at hk
 cases d<;>simp_all
 split at hk<;>simp at hk
theorem run_isAgg_agg{P:Program}{ty:TypeId}(hk:∀lk,k1Of P ty≠ .one lk)(w:World):(isAgg ty).run P w= .ok true w:=by
 cases hd:P.underlying ty with
 |none=>exact absurd (by simp[k1Of,hd]) (hk (lkOf P ty))
 |some d=>
  unfold isAgg
  rw[Sem.run_bind,run_underlying hd w]
  cases d with
  |struct fs=>rfl
  |array n e=>rfl
  |_=>exact absurd (by simp[k1Of,hd]) (hk (lkOf P ty))
theorem partV_sound(t:TypeId)(st:St)(cs:List Value)(off:Nat)(f:SV->Prop)(h:partV C t cs off f):∃r,f r/\Gives C.P st.own (part t cs.toArray off) r:=by
 unfold partV at h
 obtain⟨hd,h⟩:=typed_spec h
 split at h
 ·rename_i lk hk
  split at h
  ·rename_i v hv
   exact⟨_,h,trivial,fun w=>by simp[part,run_isAgg_one hk hd,hv,SV.val]⟩
  ·exact h.elim
 ·rename_i hk
  refine⟨_,h,trivial,fun w=> ?_⟩
  have e:(cs.toArray.extract off (off+C.P.cellsOf t))=((cs.drop off).take (C.P.cellsOf t)).toArray:=by
   rw[List.extract_toArray]
   simp[List.extract]
  simp[part,run_isAgg_agg (fun lk h=>hk lk h),run_sizeOf' (info_of_underlying hd),e,SV.val]
theorem fieldV_sound(t:TypeId)(fld:Nat)(st:St)(f:SV->Prop)(x:SV)(h:fieldV C t fld f x):∃r,f r/\Gives C.P st.own (Instr.field t (x.val st.own) fld) r:=by
 unfold fieldV at h
 split at h
 ·rename_i fs cs hu
  split at h
  ·rename_i fd hfd
   obtain⟨r,hf,hw,hr⟩:=partV_sound fd.type st cs.toList fd.offset f h
   refine⟨r,hf,hw,fun w=> ?_⟩
   have:=hr w
   simp at this
   simp[Instr.field,run_underlying hu,hfd,asAgg,SV.val,this]
  ·exact h.elim
 ·exact h.elim
theorem indexV_sound(t rty:TypeId)(st:St)(f:SV->Prop)(x ix:SV)(h:indexV C t rty f x ix):∃r,f r/\Gives C.P st.own (Instr.index t (x.val st.own) (ix.val st.own)) r:=by
 unfold indexV at h
 split at h
 ·rename_i n e cs k i hu
  obtain⟨hd,h⟩:=typed_spec h
  split at h
  ·rename_i lk hk
   obtain⟨h0,h1,h⟩:=h
   obtain⟨v,⟨hc,hf⟩,_⟩:=LK.ex_spec h
   refine⟨_,hf,trivial,fun w=> ?_⟩
   have hc':cs[i.toNat*C.P.cellsOf e]?=some v:=by simpa using hc
   simp[Instr.index,SV.val,asIntOf,run_underlying hu,h0,h1,run_sizeOf' (info_of_underlying hd),part,run_isAgg_one hk hd,hc']
  ·exact h.elim
 ·rename_i s k i hu
  obtain⟨v,⟨hr,hf⟩,_⟩:=K1.ex_spec h
  exact⟨_,hf,trivial,hr⟩
 ·exact h.elim

theorem valsOf_sound{nt:Nat}{st:St}{a:Act}(h:EnvOk nt st.env st.own a):∀ {ps:List (Nat×Operand)} {vs:List (Nat×Value)},valsOf st ps=some vs->ps.map (fun p=>(p.1,a.eval p.2))=vs
 | [],vs,hv=>by simp[valsOf] at hv;subst hv;rfl
 |(i,x)::r,vs,hv=>by
  simp only[valsOf] at hv
  split at hv
  ·rename_i s l hs hl
   obtain rfl:=Option.some.inj hv
   simp[valsOf_sound h hl,(get_sound h hs).1]
  ·cases hv
theorem foldl_setRange:∀(vs:List Value)(off i:Nat)(cells:List Value),
  (vs.zipIdx i).foldl (fun cs (x:Value×Nat)=>cs.setIfInBounds (off+x.2) x.1) cells.toArray=(setRange cells (off+i) vs).toArray
 | [],off,i,cells=>rfl
 |v::vs,off,i,cells=>by
  simp only[List.zipIdx_cons,List.foldl_cons,setRange]
  rw[List.setIfInBounds_toArray,foldl_setRange vs off (i+1)]
  rfl
theorem setRange_length:∀(vs:List Value)(off:Nat)(cells:List Value),(setRange cells off vs).length=cells.length
 | [],_,_=>rfl
 |v::vs,off,cells=>by simp[setRange,setRange_length vs]
theorem fill_eq(place:Nat->Option (Nat×Nat)):∀(parts:List (Nat×Value))(cells out:List Value),fillL place cells parts=some out->Instr.fill place cells.toArray parts=some out.toArray
 | [],cells,out,h=>by simp[fillL] at h;subst h;rfl
 |(i,v)::rest,cells,out,h=>by
  simp only[fillL] at h
  unfold Instr.fill
  split at h
  ·cases h
  ·rename_i off size hp
   split at h
   ·rename_i hc
    have e1:v.cells.size=size:=by simpa using hc.1
    have e2:¬(cells.length<off+size):=by omega
    have:=fill_eq place rest _ _ h
    have hf:=foldl_setRange v.cells.toList off 0 cells
    simp only[Nat.add_zero] at hf
    rw[hp]
    simp only[e1,ne_eq,not_true_eq_false,decide_false,Bool.false_or,List.size_toArray,gt_iff_lt,e2,Bool.false_eq_true,if_false]
    rw[←this,←hf]
    congr 1
    rw[←Array.foldl_toList]
    simp
   ·cases h
theorem placesOf_spec{P:Program} :∀ {fs:List Field} {l:List (Nat×Nat)},placesOf P fs=some l->fs.mapM (fun f=>(P.info? f.type).map fun i=>(f.offset,i.size))=some l
 | [],l,h=>by simp[placesOf] at h;subst h;rfl
 |fd::r,l,h=>by
  simp only[placesOf] at h
  split at h
  ·rename_i i l' hi hl
   obtain rfl:=Option.some.inj h
   simp[List.mapM_cons,hi,placesOf_spec hl]
  ·cases h
theorem buildV_sound(t:TypeId)(parts:Array (Nat×Operand))(st:St)(f:SV->Prop)(h:buildV C t parts.toList st f):
  ∃r,f r/\∀a:Act,EnvOk C.nt st.env st.own a->Gives C.P st.own (Instr.build t (parts.map fun(i,x)=>(i,a.eval x))) r:=by
 unfold buildV at h
 split at h
 ·rename_i z vs hz hvs
  have hz':∃it zv,C.P.info? t=some it/\it.zero=some zv/\zv.cells.toList=z:=by
   unfold zeroCellsOf at hz
   cases hi:C.P.info? t with
   |none=>simp[hi] at hz
   |some it=>
    cases hzz:it.zero with
    |none=>simp[hi,hzz] at hz
    |some zv=>exact⟨it,zv,rfl,hzz,by simpa[hi,hzz] using hz⟩
  obtain⟨it,zv,hit,hzz,rfl⟩:=hz'
  have hev:∀a:Act,EnvOk C.nt st.env st.own a->(parts.map fun(i,x)=>(i,a.eval x)).toList=vs:=fun a ha=>by
   rw[Array.toList_map]
   exact valsOf_sound ha hvs
  split at h
  ·rename_i fs hu
   split at h
   ·rename_i cells hc
    refine⟨_,h,fun a ha=>⟨trivial,fun w=> ?_⟩⟩
    refine run_build w t _ _ ?_
    rw[hev a ha]
    cases hp:placesOf C.P fs.toList with
    |none=>simp[hp] at hc
    |some places=>
     simp only[hp,Option.bind_some] at hc
     have hf:=fill_eq _ _ _ _ hc
     simp only[Program.built,hit,hu,hzz,placesOf_spec hp]
     simpa using hf
   ·exact h.elim
  ·rename_i n e hu
   split at h
   ·rename_i cells hc
    refine⟨_,h,fun a ha=>⟨trivial,fun w=> ?_⟩⟩
    refine run_build w t _ _ ?_
    rw[hev a ha]
    cases hp:C.P.info? e with
    |none=>simp[hp] at hc
    |some ie=>
     simp only[hp,Option.bind_some] at hc
     have hf:=fill_eq _ _ _ _ hc
     simp only[Program.built,hit,hu,hzz,hp]
     simpa using hf
   ·exact h.elim
  ·exact h.elim
 ·exact h.elim
end
end Go.Vg
