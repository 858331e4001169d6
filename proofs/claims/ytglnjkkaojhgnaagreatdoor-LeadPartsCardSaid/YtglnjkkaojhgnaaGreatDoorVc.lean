/- A computed verification condition for Go code: operations, regions, code. This text: the definitions. -/
import Derived.Test.YtglnjkkaojhgnaaGreatDoorCore
set_option linter.unusedSimpArgs false
set_option linter.unusedVariables false
namespace Go.Vg
open Go

/-- How the bodies of some functions are taken in place: what must be so for the call's value, the boxes and memory behind it to meet f; 'none': it is no such function. -/
abbrev InlFn := (base : Nat) → (H0 : Heap) → FuncId → List SV → List Bx → Heap → (SV → List Bx → Heap → Prop) → Option Prop
/-- Functions that write into what is handed to them: their list; those that are taken in place. -/
structure Muts where
  list : List FuncId
  inl : InlFn
  join : Bool
/-- What is fixed for one call: the program, how many slots, which write into boxes that are handed to them; where the call's own blocks begin; what was known at its begin. -/
structure Cfg where
  P : Program
  nt : Nat
  muts : Muts
  base : Nat
  H0 : Heap

def RunsTo (P : Program) (m : Sem Value) (r : Value) : Prop := ∀ w, m.run P w = .ok r w
def binRun (op : BinOp) (ty : TypeId) (x y : Operand) (a b : Value) : Sem Value := do eqGuard op ty x y a b; binOp op ty a b
/-- 'vs' lies in the list 'cs' from place 'off' on. -/
def listAt (cs : List Value) (off : Nat) : Nat → List Value → Prop
  | _, [] => True
  | i, v :: vs => cs[off + i]? = some v ∧ listAt cs off (i + 1) vs
def fillL (place : Nat → Option (Nat × Nat)) : List Value → List (Nat × Value) → Option (List Value)
  | cells, [] => some cells
  | cells, (i, v) :: rest =>
    match place i with
    | none => none
    | some (off, size) =>
      if v.cells.toList.length = size ∧ off + size ≤ cells.length then fillL place (setRange cells off v.cells.toList) rest else none
def zeroCellsOf (P : Program) (t : TypeId) : Option (List Value) := ((P.info? t).bind (·.zero)).map fun z => z.cells.toList

section
variable (C : Cfg)

def typed (t : TypeId) (f : Prop) : Prop := match C.P.underlying t with | some _ => f | none => False
def sized (t : TypeId) (f : Prop) : Prop := match C.P.info? t with | some _ => f | none => False
def partV (t : TypeId) (cs : List Value) (off : Nat) (f : SV → Prop) : Prop :=
  typed C t <| match k1Of C.P t with
  | .one _ => match cs[off]? with | some v => f (.v v) | none => False
  | _ => f (.v (.agg ((cs.drop off).take (C.P.cellsOf t)).toArray))

def binV (op : BinOp) (ty rty : TypeId) (xo yo : Operand) (own : List Bx) (sx sy : SV) (f : SV → Prop) : Prop :=
  match sx, sy with
  | .v (.int k a), .v (.int k' b) => if k = k' then intBin op k a b f else False
  | _, _ =>
    match isCmp op with
    | true => ∃ b : Bool, RunsTo C.P (binRun op ty xo yo (sx.val own) (sy.val own)) (.bool b) ∧ f (.p (b = true) inferInstance)
    | false => (k1Of C.P rty).ex fun r => RunsTo C.P (binRun op ty xo yo (sx.val own) (sy.val own)) r ∧ f (.v r)

def notV (f : SV → Prop) : SV → Prop
  | .tt => f .ff
  | .ff => f .tt
  | .p q d => f (.p (¬ q) (@instDecidableNot q d))
  | .v (.bool b) => f (.p (b = false) inferInstance)
  | _ => False

def pickV (f : SV → Prop) (x y : Option SV) : SV → Prop
  | .tt => (match x with | some s => f s | none => False)
  | .ff => (match y with | some s => f s | none => False)
  | .p q _ => (match x, y with | some s, some t => (q → f s) ∧ (¬ q → f t) | _, _ => False)
  | .v (.bool b) => (match x, y with | some s, some t => (b = true → f s) ∧ (b = false → f t) | _, _ => False)
  | _ => False

def loadV (ty : TypeId) (st : St) (f : SV → Prop) : SV → Prop
  | .loc i off =>
    match st.own[i]? with
    | some ⟨_, false, _, cs⟩ =>
      typed C ty (match k1Of C.P ty with
       | .one _ => (match cs[off]? with | some v => f (.v v) | none => False)
       | .arr _ => (match off with
         | 0 => cs.length = C.P.cellsOf ty ∧ f (.v (.agg cs.toArray))
         | _ => if ((cs.drop off).take (C.P.cellsOf ty)).length = C.P.cellsOf ty then f (.v (.agg ((cs.drop off).take (C.P.cellsOf ty)).toArray)) else False)
       | _ => if ((cs.drop off).take (C.P.cellsOf ty)).length = C.P.cellsOf ty then f (.v (.agg ((cs.drop off).take (C.P.cellsOf ty)).toArray)) else False)
    | _ => False
  | .dloc i off =>
    match st.own[i]? with
    | some ⟨_, false, _, cs⟩ => typed C ty (match k1Of C.P ty with
      | .one k => k.ex fun v => cs[off]? = some v ∧ f (.v v)
      | k => k.ex fun v => listAt cs off 0 v.cells.toList ∧ f (.v v))
    | _ => False
  | .v (.pointer (some ⟨b, o, none⟩)) => typed C ty (match k1Of C.P ty with
      | .one k => k.ex fun v => st.H.cell b o = some v ∧ f (.v v)
      | k => k.ex fun v => cellsAt st.H b o 0 v.cells.toList ∧ f (.v v))
  | _ => False

def fieldAddrV (s : TypeId) (fld : Nat) (f : SV → Prop) (x : SV) : Prop :=
  match C.P.underlying s with
  | some (.struct fs) =>
    (match fs[fld]? with
     | some fd =>
       if C.P.cellsOf fd.type = 0 then False else
       (match x with
        | .loc i off => f (.loc i (off + fd.offset))
        | .dloc i off => f (.dloc i (off + fd.offset))
        | .v (.pointer (some ⟨b, o, none⟩)) => f (.v (.pointer (some ⟨b, o + fd.offset, none⟩)))
        | _ => False)
     | none => False)
  | _ => False

/-- A written numeral. -/
def numeral : Operand → Option Nat
  | .const (.int _ (.ofNat m)) => some m
  | _ => none

def indexAddrV (t : TypeId) (ixo : Operand) (f : SV → Prop) (x ix : SV) : Prop :=
  match C.P.underlying t with
  | some (.slice e) => sized C e
    (match x, ix with
     | .v (.slice a n _), .v (.int _ i) => ∃ (b o : Nat), a = some ⟨b, o, none⟩ ∧ 0 ≤ i ∧ i < n ∧ f (.v (.pointer (some ⟨b, o + i.toNat * C.P.cellsOf e, none⟩)))
     | _, _ => False)
  | some (.array n e) => sized C e
    (match numeral ixo with
     | some m =>
       if m < n then
         (match x with
          | .loc j off => f (.dloc j (off + m * C.P.cellsOf e))
          | .dloc j off => f (.dloc j (off + m * C.P.cellsOf e))
          | .v (.pointer (some ⟨b, o, none⟩)) => f (.v (.pointer (some ⟨b, o + m * C.P.cellsOf e, none⟩)))
          | _ => False)
       else False
     | none =>
       (match x, ix with
        | .loc j off, .v (.int _ i) => 0 ≤ i ∧ i < n ∧ f (.dloc j (off + i.toNat * C.P.cellsOf e))
        | .dloc j off, .v (.int _ i) => 0 ≤ i ∧ i < n ∧ f (.dloc j (off + i.toNat * C.P.cellsOf e))
        | .v (.pointer (some ⟨b, o, none⟩)), .v (.int _ i) => 0 ≤ i ∧ i < n ∧ f (.v (.pointer (some ⟨b, o + i.toNat * C.P.cellsOf e, none⟩)))
        | _, _ => False))
  | _ => False

def indexV (t rty : TypeId) (f : SV → Prop) (x ix : SV) : Prop :=
  match C.P.underlying t, x, ix with
  | some (.array n e), .v (.agg cs), .v (.int _ i) => typed C e
    (match k1Of C.P e with
     | .one k => 0 ≤ i ∧ i < n ∧ k.ex fun r => cs.toList[i.toNat * C.P.cellsOf e]? = some r ∧ f (.v r)
     | _ => False)
  | some .string, .v (.string s), .v (.int k i) => (k1Of C.P rty).ex fun r => RunsTo C.P (Instr.index t (.string s) (.int k i)) r ∧ f (.v r)
  | _, _, _ => False

def fieldV (t : TypeId) (fld : Nat) (f : SV → Prop) (x : SV) : Prop :=
  match C.P.underlying t, x with
  | some (.struct fs), .v (.agg cs) => (match fs[fld]? with | some fd => partV C fd.type cs.toList fd.offset f | none => False)
  | _, _ => False

def valsOf (st : St) : List (Nat × Operand) → Option (List (Nat × Value))
  | [] => some []
  | (i, x) :: r => match st.get x, valsOf st r with
    | some s, some l => some ((i, s.val st.own) :: l)
    | _, _ => none
def svsOf (st : St) : List Operand → Option (List SV)
  | [] => some []
  | x :: r => match st.get x, svsOf st r with
    | some s, some l => some (s :: l)
    | _, _ => none

def placesOf (P : Program) : List Field → Option (List (Nat × Nat))
  | [] => some []
  | fd :: r => match P.info? fd.type, placesOf P r with
    | some i, some l => some ((fd.offset, i.size) :: l)
    | _, _ => none
def buildV (t : TypeId) (parts : List (Nat × Operand)) (st : St) (f : SV → Prop) : Prop :=
  match zeroCellsOf C.P t, valsOf st parts with
  | some z, some vs =>
    (match C.P.underlying t with
     | some (.struct fs) =>
       (match (placesOf C.P fs.toList).bind fun places => fillL (fun i => places[i]?) z vs with
        | some cells => f (.v (.agg cells.toArray))
        | none => False)
     | some (.array _ e) =>
       (match (C.P.info? e).bind fun ie => fillL (fun i => some (i * ie.size, ie.size)) z vs with
        | some cells => f (.v (.agg cells.toArray))
        | none => False)
     | _ => False)
  | _, _ => False

def intOfSV : SV → Option Int
  | .v (.int _ i) => some i
  | _ => none
def sliceV (t : TypeId) (st : St) (x : Operand) (lo hi mx : Option Operand) (f : SV → Prop) : Prop :=
  match C.P.underlying t, st.get x, mx with
  | some (.slice e), some (.v (.slice a n c)), none => sized C e
    (match lo, hi with
     | none, none => f (.v (.slice a n c))
     | none, some ho => (match st.get ho with
        | some (.v (.int _ h)) => 0 ≤ h ∧ h ≤ c ∧ f (.v (.slice a h.toNat c))
        | _ => False)
     | some l, none => (match st.get l with
        | some (.v (.int _ l)) => 0 ≤ l ∧ l ≤ n ∧ n ≤ c ∧ ∀ a', (l < c → a' = a.map fun ad => ad.add (l.toNat * C.P.cellsOf e)) → f (.v (.slice a' (n - l.toNat) (c - l.toNat)))
        | _ => False)
     | some l, some ho => (match st.get l, st.get ho with
        | some (.v (.int _ l)), some (.v (.int _ h)) => 0 ≤ l ∧ l ≤ h ∧ h ≤ c ∧ ∀ a', (l < c → a' = a.map fun ad => ad.add (l.toNat * C.P.cellsOf e)) → f (.v (.slice a' (h.toNat - l.toNat) (c - l.toNat)))
        | _, _ => False))
  | some (.slice e), some (.v (.slice a n c)), some mo => sized C e
    (match lo, hi with
     | none, some ho => (match numeral ho, numeral mo with
        | some 0, some 0 => f (.v (.slice a 0 0))
        | _, _ => False)
     | some l, some ho => (match st.get l, st.get ho, st.get mo with
        | some (.v (.int _ l)), some (.v (.int _ h)), some (.v (.int _ m)) => 0 ≤ l ∧ l ≤ h ∧ h ≤ m ∧ m ≤ c ∧ ∀ a', (l < m → a' = a.map fun ad => ad.add (l.toNat * C.P.cellsOf e)) → f (.v (.slice a' (h.toNat - l.toNat) (m.toNat - l.toNat)))
        | _, _, _ => False)
     | _, _ => False)
  | some .string, some (.v (.string s)), none =>
    (match lo, hi with
     | none, none => f (.v (.string (s.extract 0 s.size)))
     | none, some ho => (match st.get ho with
        | some (.v (.int _ h)) => 0 ≤ h ∧ h ≤ s.size ∧ f (.v (.string (s.extract 0 h.toNat)))
        | _ => False)
     | some l, none => (match st.get l with
        | some (.v (.int _ l)) => 0 ≤ l ∧ l ≤ s.size ∧ f (.v (.string (s.extract l.toNat s.size)))
        | _ => False)
     | some l, some ho => (match st.get l, st.get ho with
        | some (.v (.int _ l)), some (.v (.int _ h)) => 0 ≤ l ∧ l ≤ h ∧ h ≤ s.size ∧ f (.v (.string (s.extract l.toNat h.toNat)))
        | _, _ => False))
  | _, _, _ => False

def capsOf (st : St) : List Operand → Option (List Nat)
  | [] => some []
  | x :: r => match st.get x, capsOf st r with
    | some (.loc i 0), some l => some (i :: l)
    | _, _ => none
def capVals (st : St) : List Operand → Option (List Value)
  | [] => some []
  | x :: r => match st.get x, capVals st r with
    | some (.v v), some l => some (v :: l)
    | _, _ => none
def makeFuncV (fn : Fn) (first caps : List Operand) (st : St) (f : SV → Prop) : Prop :=
  match first, capsOf st caps with
  | [], some l => f (.fn fn l)
  | [], none => (match capVals st caps with | some vs => f (.v (.func fn #[] vs.toArray)) | none => False)
  | _, _ => False

def lenV (t : TypeId) (st : St) (f : SV → Prop) : SV → Prop
  | .v (.slice _ n _) => (match C.P.underlying t with | some (.slice _) => f (.v (.int .i64 n)) | _ => False)
  | .v (.string s) => (match C.P.underlying t with | some .string => f (.v (.int .i64 s.size)) | _ => False)
  | .mp i => (match C.P.underlying t, st.own[i]? with | some (.map _ _), some ⟨_, true, _, cs⟩ => f (.v (.int .i64 (cs.length / 2 : Nat))) | _, _ => False)
  | _ => False
def capV (t : TypeId) (f : SV → Prop) : SV → Prop
  | .v (.slice _ _ c) => (match C.P.underlying t with | some (.slice _) => f (.v (.int .i64 c)) | _ => False)
  | _ => False
/-- Is this a key of the map's key type (integers and bools alone)? -/
def keyFits (kt : TypeId) (key : SV) : Bool :=
  match C.P.underlying kt, key with
  | some (.int _), .v (.int _ _) => true
  | some .bool, .v (.bool _) => true
  | some .bool, .p _ _ => true
  | some .bool, .tt => true
  | some .bool, .ff => true
  | _, _ => false
def lookupV (t : TypeId) (commaOk : Bool) (st : St) (f : SV → Prop) (m key : SV) : Prop :=
  match C.P.underlying t, m with
  | some (.map kt e), .mp i =>
    (match keyFits C kt key, st.own[i]?, (C.P.info? e).bind (·.zero), k1Of C.P e with
     | true, some ⟨_, true, _, cs⟩, some z, .one lk =>
       (match commaOk with
        | false => lk.ex fun r => ∃ b : Bool, mapGet z (key.val st.own) cs = some (r, b) ∧ f (.v r)
        | true => lk.ex fun r => ∃ b : Bool, mapGet z (key.val st.own) cs = some (r, b) ∧ f (.v (.tuple #[r, .bool b])))
     | true, some ⟨_, true, _, cs⟩, some z, k =>
       (match commaOk with
        | false => k.ex fun r => ∃ b : Bool, mapGet z (key.val st.own) cs = some (r, b) ∧ f (.v r)
        | true => False)
     | _, _, _, _ => False)
  | _, _ => False

/-- A text's bytes as cells. -/
def u8s (l : List UInt8) : List Value := l.map fun b => .int .u8 b.toNat
/-- string(b), b a slice of bytes. -/
def bytesV (src dst : TypeId) (st : St) (a : Option Addr) (n : Nat) (f : SV → Prop) : Prop :=
  match C.P.underlying src, C.P.underlying dst with
  | some (.slice e), some .string => (match C.P.underlying e with
    | some (.int .u8) => ∃ l : List UInt8, l.length = n ∧ (n = 0 ∨ ∃ (b o : Nat), a = some ⟨b, o, none⟩ ∧ cellsAt st.H b o 0 (u8s l)) ∧ f (.v (.string ⟨l.toArray⟩))
    | _ => False)
  | _, _ => False

/-- AN OPERATION THAT ONLY COMPUTES OR READS: f holds of its value. 'none': it is no such one. -/
def quietV (o : Oper) (st : St) : Option ((SV → Prop) → Prop) :=
  match o.op with
  | .move x | .assign x => some fun f => match st.get x with | some s => f s | none => False
  | .pick c a b => some fun f => match st.get c with | some s => pickV f (st.get a) (st.get b) s | none => False
  | .binOp op ty x y _ => some fun f => match st.get x, st.get y with | some sx, some sy => binV C op ty o.type x y st.own sx sy f | _, _ => False
  | .unOp .not _ x => some fun f => match st.get x with | some s => notV f s | none => False
  | .unOp .neg _ x => some fun f => match st.get x with | some (.v (.int k a)) => ∀ r, r = k.wrap (0 - a) → f (.v (.int k r)) | _ => False
  | .load t a => some fun f => match st.get a with | some s => loadV C t st f s | none => False
  | .fieldAddr s x fld => some fun f => match st.get x with | some sx => fieldAddrV C s fld f sx | none => False
  | .indexAddr t x ix => some fun f => match st.get x, st.get ix with | some sx, some si => indexAddrV C t ix f sx si | _, _ => False
  | .index t x ix => some fun f => match st.get x, st.get ix with | some sx, some si => indexV C t o.type f sx si | _, _ => False
  | .field t x fld => some fun f => match st.get x with | some sx => fieldV C t fld f sx | none => False
  | .extract x i => some fun f => match st.get x with | some (.v (.tuple vs)) => (match vs.toList[i]? with | some v => f (.v v) | none => False) | _ => False
  | .build t parts => some fun f => buildV C t parts.toList st f
  | .slice t x lo hi mx => some fun f => sliceV C t st x lo hi mx f
  | .makeFunc fn first caps => some fun f => makeFuncV fn first.toList caps.toList st f
  | .lookup t m k ok => some fun f => match st.get m, st.get k with | some sm, some sk => lookupV C t ok st f sm sk | _, _ => False
  | .call { callee := .builtin .len, args := args, argTypes := ts } => some fun f => match args.toList, ts.toList with
      | [x], [t] => (match st.get x with | some s => lenV C t st f s | none => False)
      | _, _ => False
  | .call { callee := .builtin .cap, args := args, argTypes := ts } => some fun f => match args.toList, ts.toList with
      | [x], [t] => (match st.get x with | some s => capV C t f s | none => False)
      | _, _ => False
  | .call { callee := .builtin .min, args := args, argTypes := _ } => some fun f => match args.toList with
      | [x, y] => (match st.get x, st.get y with | some (.v (.int k a)), some (.v (.int _ b)) => f (.v (.int k (if b < a then b else a))) | _, _ => False)
      | _ => False
  | .call { callee := .builtin .max, args := args, argTypes := _ } => some fun f => match args.toList with
      | [x, y] => (match st.get x, st.get y with | some (.v (.int k a)), some (.v (.int _ b)) => f (.v (.int k (if b > a then b else a))) | _, _ => False)
      | _ => False
  | .nilCheck x => some fun f => match st.get x with
      | some (.loc i off) => f (.loc i off)
      | some (.dloc i off) => f (.dloc i off)
      | some (.v (.pointer (some a))) => f (.v (.pointer (some a)))
      | _ => False
  | .convert src dst x => match st.get x with
      | some (.v (.int _ n)) => some fun f => match C.P.underlying src, C.P.underlying dst with | some _, some (.int k) => ∀ r, r = k.wrap n → f (.v (.int k r)) | _, _ => False
      | some (.v (.string s)) => match C.P.underlying dst with | some .string => some fun f => (match C.P.underlying src with | some .string => f (.v (.string s)) | _ => False) | _ => none
      | some (.v (.slice a n _)) => some fun f => bytesV C src dst st a n f
      | _ => none
  | _ => none
end
end Go.Vg
