/- A computed verification condition for Go code: from a function's code a proposition is reckoned ('codeV') whose truth gives the call's contract. This text: the definitions. -/
import Derived.WalkKit
import Derived.Orders
import Derived.Scope
set_option linter.unusedSimpArgs false
set_option linter.unusedVariables false
namespace Go.Vg
open Go

/-! ### What is known of memory -/
/-- What is known of one block of cells: its type and size, whether it is surely not frozen, and some of its cells. -/
structure KB where
  ty : TypeId
  size : Nat
  free : Bool
  cells : Nat → Option Value
abbrev Heap := Nat → Option KB
def Heap.cell (H : Heap) (b o : Nat) : Option Value := (H b).bind fun k => k.cells o
def KB.sees (k : KB) (o : Option Obj) : Prop :=
  ∃ cur fr, o = some (.cells cur k.ty fr) ∧ cur.size = k.size ∧ (k.free = true → fr = (0, 0)) ∧ ∀ j v, k.cells j = some v → cur[j]? = some v
def Sees (H : Heap) (w : World) : Prop := ∀ b k, H b = some k → k.sees w.heap[b]?
/-- H' knows all that H knows; what it knows besides lies from 'base' on. -/
structure Next (base : Nat) (H H' : Heap) : Prop where
  ext : ∀ b k, H b = some k → H' b = some k
  fresh : ∀ b k, H' b = some k → H b = none → base ≤ b
/-- A block known whole. -/
def boxKB (ty : TypeId) (cs : List Value) : KB := ⟨ty, cs.length, true, fun j => cs[j]?⟩
/-- Cells in a row: 'vs' from place 'o + i' of block 'b' on. -/
def cellsAt (H : Heap) (b o : Nat) : Nat → List Value → Prop
  | _, [] => True
  | i, v :: vs => H.cell b (o + i) = some v ∧ cellsAt H b o (i + 1) vs

/-! ### Boxes: variables of the call's own -/
structure Bx where
  b : Nat
  map : Bool
  ty : TypeId
  cs : List Value
/-- A map's entries, key and value by turns. -/
def flatEntries : List MapEntry → List Value
  | [] => []
  | e :: es => e.key :: e.val :: flatEntries es
def Bx.ok (x : Bx) (w : World) : Prop :=
  match x.map with
  | false => w.heap[x.b]? = some (.cells x.cs.toArray x.ty (0, 0))
  | true => ∃ es clock, w.heap[x.b]? = some (.map es clock) ∧ flatEntries es.toList = x.cs
structure BoxesOk (own : List Bx) (H : Heap) (w : World) : Prop where
  ok : ∀ x ∈ own, x.ok w
  hid : ∀ x ∈ own, H x.b = none
  apart : (own.map Bx.b).Nodup
/-- Nothing that was there has turned, but for the blocks of 'own'. -/
structure BelowX (own : List Nat) (w w' : World) : Prop where
  os : w'.os = w.os
  tape : w'.tape = w.tape
  output : w'.output = w.output
  size : w.heap.size ≤ w'.heap.size
  block : ∀ k, k < w.heap.size → k ∉ own → w'.heap[k]? = w.heap[k]?

def Bx.set (x : Bx) (cs : List Value) : Bx := { x with cs }
def setAll : List Bx → List (List Value) → List Bx
  | x :: xs, c :: cs => x.set c :: setAll xs cs
  | _, _ => []

/-- THE CONTRACT OF A CALL to which boxes are handed (by their addresses among the arguments): under what H knows it returns, with a value, the boxes' new contents and a wider H' that meet Q. -/
def SpecO (P : Program) (f : FuncId) (args : List Value) (own : List Bx) (H : Heap) (Q : Value → List (List Value) → Heap → Prop) : Prop :=
  ∀ w, Sees H w → BoxesOk own H w → Calls P f args.toArray w fun e w' => ∃ v css H', e = .returned v ∧ css.length = own.length ∧ BelowX (own.map Bx.b) w w' ∧
    Sees H' w' ∧ BoxesOk (setAll own css) H' w' ∧ Next w.heap.size H H' ∧ Q v css H'
/-- THE CONTRACT OF A CALL. -/
def Spec (P : Program) (f : FuncId) (args : List Value) (H : Heap) (Q : Value → Heap → Prop) : Prop :=
  SpecO P f args [] H fun v _ H' => Q v H'

/-! ### Symbolic values -/
inductive SV where
  | v (x : Value)
  | p (q : Prop) (d : Decidable q)
  | tt
  | ff
  /-- a pointer into box i -/
  | loc (i off : Nat)
  /-- the same, at a place that is no numeral -/
  | dloc (i off : Nat)
  /-- the map that is box i -/
  | mp (i : Nat)
  /-- a function value that captures pointers to boxes -/
  | fn (g : Fn) (caps : List Nat)
  /-- a slice of n elements that is box i whole, on its way into an append -/
  | lst (i n : Nat)
def boxNo (own : List Bx) (i : Nat) : Nat := match own[i]? with | some x => x.b | none => 0
def SV.val (own : List Bx) : SV → Value
  | .v x => x
  | .p q d => .bool (@decide q d)
  | .tt => .bool true
  | .ff => .bool false
  | .loc i off => .pointer (some ⟨boxNo own i, off, none⟩)
  | .dloc i off => .pointer (some ⟨boxNo own i, off, none⟩)
  | .mp i => .map (some (boxNo own i))
  | .lst i n => .slice (some ⟨boxNo own i, 0, none⟩) n n
  | .fn g caps => .func g #[] (caps.map fun i => Value.pointer (some ⟨boxNo own i, 0, none⟩)).toArray

structure St where
  env : List (Nat × SV)
  own : List Bx
  H : Heap
def look (s : Nat) : List (Nat × SV) → Option SV
  | [] => none
  | (t, v) :: r => if t = s then some v else look s r
def boolSV : Value → SV
  | .bool true => .tt
  | .bool false => .ff
  | x => .v x
def St.get (st : St) : Operand → Option SV
  | .tmp t => look t st.env
  | .const x => some (boolSV x)
  | .func f => some (.v (.func (.func f) #[] #[]))
  | .global g => some (.v (.pointer (some ⟨g, 0, none⟩)))
def St.put (st : St) (d : Option Tmp) (v : SV) : St :=
  match d with
  | some t => { st with env := (t, v) :: st.env }
  | none => st

/-! ### Kinds: what a value of a type looks like -/
inductive LK where
  | int (k : IntKind)
  | bool
  | str
  | slice
  /-- an interface's value: nil, or some one -/
  | iface
  | any
inductive K1 where
  | one (k : LK)
  | agg (ks : List LK)
  | arr (n : Nat)
  /-- a row of cells of whatever length -/
  | sym
inductive K2 where
  | k1 (k : K1)
  | tup (ks : List K1)
def LK.ex : LK → (Value → Prop) → Prop
  | .int k, f => ∃ n : Int, f (.int k n)
  | .bool, f => ∃ b : Bool, f (.bool b)
  | .str, f => ∃ s : ByteArray, f (.string s)
  | .slice, f => ∃ (a : Option Addr) (n c : Nat), f (.slice a n c)
  | .iface, f => f .nilIface ∨ ∃ (t : TypeId) (p : Value), f (.iface t p)
  | .any, f => ∃ v : Value, f v
def LK.al : LK → (Value → Prop) → Prop
  | .int k, f => ∀ n : Int, f (.int k n)
  | .bool, f => ∀ b : Bool, f (.bool b)
  | .str, f => ∀ s : ByteArray, f (.string s)
  | .slice, f => ∀ (a : Option Addr) (n c : Nat), f (.slice a n c)
  | .iface, f => f .nilIface ∧ ∀ (t : TypeId) (p : Value), f (.iface t p)
  | .any, f => ∀ v : Value, f v
def LK.exs : List LK → (List Value → Prop) → Prop
  | [], f => f []
  | k :: ks, f => k.ex fun v => LK.exs ks fun vs => f (v :: vs)
def LK.als : List LK → (List Value → Prop) → Prop
  | [], f => f []
  | k :: ks, f => k.al fun v => LK.als ks fun vs => f (v :: vs)
def K1.ex : K1 → (Value → Prop) → Prop
  | .one k, f => k.ex f
  | .agg ks, f => LK.exs ks fun vs => f (.agg vs.toArray)
  | .arr n, f => ∃ cs : List Value, cs.length = n ∧ f (.agg cs.toArray)
  | .sym, f => ∃ cs : List Value, f (.agg cs.toArray)
def K1.al : K1 → (Value → Prop) → Prop
  | .one k, f => k.al f
  | .agg ks, f => LK.als ks fun vs => f (.agg vs.toArray)
  | .arr n, f => ∀ cs : List Value, cs.length = n → f (.agg cs.toArray)
  | .sym, f => ∀ cs : List Value, f (.agg cs.toArray)
def K1.exs : List K1 → (List Value → Prop) → Prop
  | [], f => f []
  | k :: ks, f => k.ex fun v => K1.exs ks fun vs => f (v :: vs)
def K1.als : List K1 → (List Value → Prop) → Prop
  | [], f => f []
  | k :: ks, f => k.al fun v => K1.als ks fun vs => f (v :: vs)
def K2.ex : K2 → (Value → Prop) → Prop
  | .k1 k, f => k.ex f
  | .tup ks, f => K1.exs ks fun vs => f (.tuple vs.toArray)
def LK.fit : LK → Value → Bool
  | .int k, .int j _ => k == j
  | .bool, .bool _ => true
  | .str, .string _ => true
  | .slice, .slice _ _ _ => true
  | .iface, .nilIface => true
  | .iface, .iface _ _ => true
  | .any, _ => true
  | _, _ => false
def LK.fits : List LK → List Value → Bool
  | [], [] => true
  | k :: ks, v :: vs => k.fit v && LK.fits ks vs
  | _, _ => false
def fitP : List K1 → List Value → Prop → Prop
  | [], [], f => f
  | k :: ks, v :: vs, f =>
    (match k, v with
     | .one lk, v => if lk.fit v = true then fitP ks vs f else False
     | .agg lks, .agg cs => if LK.fits lks cs.toList = true then fitP ks vs f else False
     | .arr n, .agg cs => cs.toList.length = n ∧ fitP ks vs f
     | .sym, .agg _ => fitP ks vs f
     | _, _ => False)
  | _, _, _ => False
section
variable (P : Program)
def lkOf (t : TypeId) : LK :=
  match P.underlying t with
  | some (.int k) => .int k
  | some .bool => .bool
  | some .string => .str
  | some (.slice _) => .slice
  | some (.interface _) => .iface
  | _ => .any
def leaves : Nat → TypeId → List LK
  | 0, _ => []
  | n + 1, t =>
    match P.underlying t with
    | some (.struct fs) => fs.toList.flatMap fun f => leaves n f.type
    | some (.array m e) => (List.replicate m (leaves n e)).flatten
    | _ => [lkOf P t]
def k1Of (t : TypeId) : K1 :=
  match P.underlying t with
  | some (.struct _) => if (leaves P 9 t).length = P.cellsOf t then .agg (leaves P 9 t) else .arr (P.cellsOf t)
  | some (.array _ _) => .arr (P.cellsOf t)
  | _ => .one (lkOf P t)
def k2Of (t : TypeId) : K2 :=
  match P.underlying t with
  | some (.tuple ts) => .tup (ts.toList.map (k1Of P))
  | _ => .k1 (k1Of P t)
end

/-! ### Integers -/
def intBin (op : BinOp) (k : IntKind) (a b : Int) (f : SV → Prop) : Prop :=
  match op with
  | .add => ∀ r, r = k.wrap (a + b) → f (.v (.int k r))
  | .sub => ∀ r, r = k.wrap (a - b) → f (.v (.int k r))
  | .mul => ∀ r, r = k.wrap (a * b) → f (.v (.int k r))
  | .rem => b ≠ 0 ∧ f (.v (.int k (a.tmod b)))
  | .quo => b ≠ 0 ∧ ∀ r, r = k.wrap (a.tdiv b) → f (.v (.int k r))
  | .eql => f (.p (a = b) inferInstance)
  | .neq => f (.p (¬ a = b) inferInstance)
  | .lss => f (.p (a < b) inferInstance)
  | .leq => f (.p (a ≤ b) inferInstance)
  | .gtr => f (.p (b < a) inferInstance)
  | .geq => f (.p (b ≤ a) inferInstance)
  | _ => False
def isCmp : BinOp → Bool
  | .eql | .neq | .lss | .leq | .gtr | .geq => true
  | _ => false

/-! ### Lists of cells -/
def setRange : List Value → Nat → List Value → List Value
  | cs, _, [] => cs
  | cs, off, v :: vs => setRange (cs.set off v) (off + 1) vs
def allOne : List Value → Bool
  | [] => true
  | v :: vs => v.oneCell' && allOne vs
def updCells (f : Nat → Option Value) (o : Nat) (vs : List Value) : Nat → Option Value :=
  fun j => if o ≤ j ∧ j < o + vs.length then vs[j - o]? else f j
/-- H' is H but for 'vs' stored at place o of block b, of which k was known. -/
structure Upd (H : Heap) (b o : Nat) (k : KB) (vs : List Value) (H' : Heap) : Prop where
  here : H' b = some { k with cells := updCells k.cells o vs }
  there : ∀ x, x ≠ b → H' x = H x
/-- A slice value of the call's own, of n elements of type e, 'size' cells each: it has no room, or it stands at the head of a block from 'base' on of which its first cells 'xs' are known. -/
def Row (base : Nat) (H : Heap) (e : TypeId) (size : Nat) (a : Option Addr) (n c : Nat) (xs : List Value) : Prop :=
  xs.length = n * size ∧ n ≤ c ∧ c ≤ maxLen ∧
  ((n = 0 ∧ c = 0) ∨ ∃ g k, a = some ⟨g, 0, none⟩ ∧ base ≤ g ∧ H g = some k ∧ k.ty = e ∧ k.size = c * size ∧ k.free = true ∧ ∀ j v, xs[j]? = some v → k.cells j = some v)
/-- Behind an append to such a slice: H' knows what H knew of all other blocks. -/
structure Grew (base : Nat) (H H' : Heap) (a : Option Addr) (c : Nat) (a' : Option Addr) (c' nn : Nat) : Prop where
  keep : ∀ x k, H x = some k → (c = 0 ∨ a ≠ some ⟨x, 0, none⟩) → H' x = some k
  fresh : ∀ x k, H' x = some k → H x = none → base ≤ x
  place : c' ≠ 0 → ∀ g, a' = some ⟨g, 0, none⟩ → H g = none ∨ (a' = a ∧ c ≠ 0)
  room : nn ≤ c → a' = a ∧ c' = c
/-- Are two keys of a map one? -/
def keySame : Value → Value → Option Bool
  | .int j a, .int k b => if j = k then some (decide (a = b)) else none
  | .bool a, .bool b => some (a == b)
  | .string a, .string b => some (a == b)
  | _, _ => none
/-- What a map holds under a key (z: nothing); 'none': a key of another kind is met. -/
def mapGet (z : Value) (key : Value) : List Value → Option (Value × Bool)
  | k :: v :: r => (match keySame key k with
    | some true => some (v, true)
    | some false => mapGet z key r
    | none => none)
  | _ => some (z, false)
def mapSet (key val : Value) : List Value → Option (List Value)
  | k :: v :: r => (match keySame key k with
    | some true => some (key :: val :: r)
    | some false => (mapSet key val r).map fun r' => k :: v :: r'
    | none => none)
  | _ => some [key, val]
end Go.Vg
