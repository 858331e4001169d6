/- A computed verification condition for Go code: operations that write or call, regions, code, a whole function. This text: the definitions. -/
import Derived.Test.YtglnjkkaojhgnaaGreatDoorVc
set_option linter.unusedSimpArgs false
set_option linter.unusedVariables false
namespace Go.Vg
open Go

section
variable (C : Cfg)

/-- Cells that may be stored into a variable of this type: their number is right, and each is one cell. -/
def storable (ty : TypeId) (vs : List Value) (f : Prop) : Prop :=
  sized C ty <| match k1Of C.P ty with
  | .arr n => vs.length = n ∧ allOne vs = true ∧ f
  | _ => if vs.length = C.P.cellsOf ty ∧ allOne vs = true then f else False

def storeV (ty : TypeId) (st : St) (vs : List Value) (f : List Bx → Heap → Prop) : SV → Prop
  | .loc i off =>
    (match st.own[i]? with
     | some ⟨b, false, bt, cs⟩ =>
       (match k1Of C.P ty, off with
        | .arr _, 0 => storable C ty vs (cs.length = C.P.cellsOf ty ∧ f (st.own.set i ⟨b, false, bt, vs⟩) st.H)
        | _, _ => storable C ty vs (if off + C.P.cellsOf ty ≤ cs.length then f (st.own.set i ⟨b, false, bt, setRange cs off vs⟩) st.H else False))
     | _ => False)
  | .dloc i off =>
    (match st.own[i]? with
     | some ⟨b, false, bt, cs⟩ => storable C ty vs (off + C.P.cellsOf ty ≤ cs.length ∧ f (st.own.set i ⟨b, false, bt, setRange cs off vs⟩) st.H)
     | _ => False)
  | .v (.pointer (some ⟨b, o, none⟩)) => storable C ty vs (∃ k, st.H b = some k ∧ k.free = true ∧ C.base ≤ b ∧ o + C.P.cellsOf ty ≤ k.size ∧ ∀ H', Upd st.H b o k vs H' → f st.own H')
  | _ => False

/-- Is this slice literal appended by the next operation? -/
def feedsAppend (o : Oper) : Option Oper → Bool
  | some ⟨_, .call { callee := .builtin .append, args := args, argTypes := _ }, _, _, _, none⟩ =>
    (match o.dst, args.toList with
     | some t, [_, .tmp u] => t == u
     | _, _ => false)
  | _ => false

def buildSliceV (t : TypeId) (n : Nat) (parts : List (Nat × Operand)) (st : St) (feeds : Bool) (f : SV → List Bx → Heap → Prop) : Prop :=
  match C.P.underlying t with
  | some (.slice e) =>
    (match zeroCellsOf C.P e, valsOf st parts with
     | some z, some vs =>
       if n * C.P.cellsOf e ≤ 16777216 ∧ z.length = C.P.cellsOf e ∧ 0 < C.P.cellsOf e then
         (match fillL (fun i => some (i * C.P.cellsOf e, C.P.cellsOf e)) (List.replicate n z).flatten vs with
          | some cells =>
            (match feeds with
             | true => ∀ b : Nat, f (.lst st.own.length n) (st.own ++ [⟨b, false, e, cells⟩]) st.H
             | false => ∀ (g : Nat) (H' : Heap), Next C.base st.H H' → st.H g = none → H' g = some (boxKB e cells) → f (.v (.slice (some ⟨g, 0, none⟩) n n)) st.own H')
          | none => False)
       else False
     | _, _ => False)
  | _ => False

def appendV (t : TypeId) (st : St) (f : SV → List Bx → Heap → Prop) (s x : SV) : Prop :=
  match C.P.underlying t, s with
  | some (.slice e), .v (.slice a n c) =>
    if 0 < C.P.cellsOf e ∧ (zeroCellsOf C.P e).map List.length = some (C.P.cellsOf e) then
      (match x with
       | .lst i m =>
         (match st.own[i]? with
          | some ⟨_, false, _, cells⟩ =>
            if cells.length = m * C.P.cellsOf e ∧ allOne cells = true ∧ 0 < m then
              ∃ xs, Row C.base st.H e (C.P.cellsOf e) a n c xs ∧ (n + m) * C.P.bytesOf e ≤ 140737488355328 ∧ n + m ≤ maxLen ∧
                ∀ a' c' H', Grew C.base st.H H' a c a' c' (n + m) → Row C.base H' e (C.P.cellsOf e) a' (n + m) c' (xs ++ cells) → f (.v (.slice a' (n + m) c')) st.own H'
            else False
          | _ => False)
       | .v (.slice xa m _) =>
         ∃ xs cells, Row C.base st.H e (C.P.cellsOf e) a n c xs ∧ cells.length = m * C.P.cellsOf e ∧ allOne cells = true ∧
           (m = 0 ∨ ∃ (b o : Nat), xa = some ⟨b, o, none⟩ ∧ cellsAt st.H b o 0 cells) ∧ (n + m) * C.P.bytesOf e ≤ 140737488355328 ∧ n + m ≤ maxLen ∧
           ∀ a' c' H', Grew C.base st.H H' a c a' c' (n + m) → Row C.base H' e (C.P.cellsOf e) a' (n + m) c' (xs ++ cells) → f (.v (.slice a' (n + m) c')) st.own H'
       | _ => False)
    else False
  | _, _ => False

/-- append(s, t...), t a string. -/
def appendSV (e : TypeId) (st : St) (f : SV → List Bx → Heap → Prop) (a : Option Addr) (n c : Nat) (s : ByteArray) : Prop :=
  match (C.P.info? e).bind (·.zero) with
  | some (.int .u8 0) => if C.P.cellsOf e = 1 ∧ C.P.bytesOf e = 1 then
      ∃ xs, Row C.base st.H e 1 a n c xs ∧ n + s.size ≤ 140737488355328 ∧
        ∀ a' c' H', Grew C.base st.H H' a c a' c' (n + s.size) → Row C.base H' e 1 a' (n + s.size) c' (xs ++ u8s s.data.toList) → f (.v (.slice a' (n + s.size) c')) st.own H'
    else False
  | _ => False
/-- []byte(s), s a string. -/
def toBytesV (src dst : TypeId) (st : St) (f : SV → List Bx → Heap → Prop) (s : ByteArray) : Prop :=
  match C.P.underlying src, C.P.underlying dst with
  | some _, some (.slice e) => (match C.P.underlying e with
    | some (.int .u8) => ∀ (g c : Nat) (H' : Heap), s.size ≤ c → Next C.base st.H H' → st.H g = none → cellsAt H' g 0 0 (u8s s.data.toList) → f (.v (.slice (some ⟨g, 0, none⟩) s.size c)) st.own H'
    | _ => False)
  | _, _ => False
/-- append(s, make(.., m)...) where s has no room for them. -/
def appendZV (t u : TypeId) (st : St) (f : SV → List Bx → Heap → Prop) (s x : SV) : Prop :=
  match C.P.underlying t, C.P.underlying u, s, x with
  | some (.slice e), some (.int _), .v (.slice a n c), .v (.int _ k) =>
    (match zeroCellsOf C.P e with
     | some z => if z.length = C.P.cellsOf e ∧ 0 < C.P.cellsOf e then
         ∃ (xs : List Value) (m : Nat), k = m ∧ 0 < m ∧ c < n + m ∧ Row C.base st.H e (C.P.cellsOf e) a n c xs ∧ (n + m) * C.P.bytesOf e ≤ 140737488355328 ∧ n + m ≤ maxLen ∧
           ∀ (g c' : Nat) (H' : Heap), Next C.base st.H H' → st.H g = none → Row C.base H' e (C.P.cellsOf e) (some ⟨g, 0, none⟩) (n + m) c' (xs ++ (List.replicate m z).flatten) → f (.v (.slice (some ⟨g, 0, none⟩) (n + m) c')) st.own H'
       else False
     | none => False)
  | some (.slice e), some .string, .v (.slice a n c), .v (.string x) => appendSV C e st f a n c x
  | _, _, _, _ => False
def makeSliceV (t : TypeId) (st : St) (f : SV → List Bx → Heap → Prop) (l c : SV) : Prop :=
  match C.P.underlying t, l, c with
  | some (.slice e), .v (.int .i64 l), .v (.int .i64 c) =>
    (match zeroCellsOf C.P e with
     | some z => if z.length = C.P.cellsOf e then
         0 ≤ l ∧ l ≤ c ∧ c.toNat * C.P.bytesOf e ≤ 140737488355328 ∧ c ≤ 9223372036854775807 ∧
         ∀ (g : Nat) (H' : Heap), Next C.base st.H H' → st.H g = none → H' g = some (boxKB e (List.replicate c.toNat z).flatten) → f (.v (.slice (some ⟨g, 0, none⟩) l.toNat c.toNat)) st.own H'
       else False
     | none => False)
  | _, _, _ => False

def copyV (t : TypeId) (st : St) (f : SV → List Bx → Heap → Prop) (d s : SV) : Prop :=
  match C.P.underlying t, d, s with
  | some (.slice e), .v (.slice da dn _), .v (.slice sa sn _) => sized C e
      ((min sn dn = 0 → f (.v (.int .i64 0)) st.own st.H) ∧ (min sn dn ≠ 0 → ∃ (cells : List Value) (b o b' o' : Nat) (k : KB), cells.length = min sn dn * C.P.cellsOf e ∧ allOne cells = true ∧ sa = some ⟨b, o, none⟩ ∧ cellsAt st.H b o 0 cells ∧
        da = some ⟨b', o', none⟩ ∧ st.H b' = some k ∧ k.free = true ∧ C.base ≤ b' ∧ o' + cells.length ≤ k.size ∧ ∀ H', Upd st.H b' o' k cells H' → f (.v (.int .i64 (min sn dn : Nat))) st.own H'))
  | _, _, _ => False
def clearV (t : TypeId) (st : St) (f : SV → List Bx → Heap → Prop) (d : SV) : Prop :=
  match C.P.underlying t, d with
  | some (.slice e), .v (.slice da dn _) =>
    (match zeroCellsOf C.P e with
     | some z => if z.length = C.P.cellsOf e ∧ allOne z = true then
         (dn = 0 → f (.v (.tuple #[])) st.own st.H) ∧ (dn ≠ 0 → ∃ (b o : Nat) (k : KB), da = some ⟨b, o, none⟩ ∧ st.H b = some k ∧ k.free = true ∧ C.base ≤ b ∧ o + dn * C.P.cellsOf e ≤ k.size ∧
           ∀ H', Upd st.H b o k (List.replicate dn z).flatten H' → f (.v (.tuple #[])) st.own H')
       else False
     | none => False)
  | _, _ => False
/-- The boxes whose addresses are handed over. -/
def lentBy : List SV → List Nat
  | [] => []
  | .loc i _ :: r => i :: lentBy r
  | .dloc i _ :: r => i :: lentBy r
  | .fn _ caps :: r => caps ++ lentBy r
  | .lst i _ :: r => i :: lentBy r
  | .mp i :: r => i :: lentBy r
  | _ :: r => lentBy r
def dedup : List Nat → List Nat
  | [] => []
  | x :: r => if (dedup r).contains x then dedup r else x :: dedup r
def pick (own : List Bx) : List Nat → Option (List Bx)
  | [] => some []
  | i :: r => match own[i]?, pick own r with
    | some x, some l => some (x :: l)
    | _, _ => none
def alook (i : Nat) : List (Nat × List Value) → Option (List Value)
  | [] => none
  | (j, c) :: r => if j = i then some c else alook i r
def ownWith (al : List (Nat × List Value)) : Nat → List Bx → List Bx
  | _, [] => []
  | i, x :: r => (match alook i al with | some c => x.set c | none => x) :: ownWith al (i + 1) r
def putBack (own : List Bx) (is : List Nat) (cs : List (List Value)) : List Bx := ownWith (is.zip cs) 0 own
/-- Lent boxes can be read: H knows them. -/
def knows (H : Heap) : List Bx → Prop
  | [] => True
  | x :: r => H x.b = some (boxKB x.ty x.cs) ∧ knows H r
def boxK (P : Program) (x : Bx) : K1 := match x.map with
  | true => .sym
  | false => (match k1Of P x.ty with | .one k => .agg [k] | k => k)
def boxKs (P : Program) : List Bx → List K1 := List.map (boxK P)
def toCells (vs : List Value) : List (List Value) := vs.map fun v => v.cells.toList

/-- Has the function a body (and is it none that the machine knows by name)? -/
def bodied (P : Program) (g : FuncId) : Bool :=
  match P.funcs[g]? with
  | some fn => fn.body.isSome && fn.name != "runtime.NumGoroutine"
  | none => false
/-- A function without a body, that the machine knows: its value, wherever H is known. -/
def ExtRuns (P : Program) (H : Heap) (g : FuncId) (args : List Value) (r : Value) : Prop := ∀ w, Sees H w → (callFunc g args.toArray).run P w = .ok (.value r) w
def callTo (g : FuncId) (pre : List SV) (st : St) (rty : TypeId) (f : SV → List Bx → Heap → Prop) : Prop :=
  if bodied C.P g = true then
    (match C.muts.inl C.base C.H0 g pre st.own st.H f with
     | some p => p
     | none =>
      (match dedup (lentBy pre) with
     | [] => Spec C.P g (pre.map (SV.val st.own)) st.H fun v H' => (k2Of C.P rty).ex fun r => v = r ∧ (Next C.base st.H H' → f (.v r) st.own H')
     | is =>
       (match pick st.own is with
        | some xs =>
          (match C.muts.list.contains g with
           | true => SpecO C.P g (pre.map (SV.val st.own)) xs st.H fun v css H' => (k2Of C.P rty).ex fun r => v = r ∧
               (K1.exs (boxKs C.P xs) fun ws => css = toCells ws ∧ (Next C.base st.H H' → f (.v r) (putBack st.own is (toCells ws)) H'))
           | false => xs.all (fun x => !x.map) = true ∧ ∀ Hl, Next 0 st.H Hl → knows Hl xs → Spec C.P g (pre.map (SV.val st.own)) Hl fun v H'' => (k2Of C.P rty).ex fun r => v = r ∧
               ∀ H', Next C.base st.H H' → (∀ b k, H'' b = some k → (∀ x ∈ xs, b ≠ x.b) → H' b = some k) → f (.v r) st.own H')
        | none => False)))
  else
    (match dedup (lentBy pre) with
     | [] => (match lkOf C.P rty with
       | .bool => ExtRuns C.P st.H g (pre.map (SV.val st.own)) (.bool false) ∧ f .ff st.own st.H
       | _ => (k2Of C.P rty).ex fun r => ExtRuns C.P st.H g (pre.map (SV.val st.own)) r ∧ f (.v r) st.own st.H)
     | _ => False)
def callV (fo : Operand) (args : List Operand) (st : St) (rty : TypeId) (f : SV → List Bx → Heap → Prop) : Prop :=
  match svsOf st args with
  | some as =>
    (match st.get fo with
     | some (.v (.func (.func g) first caps)) => callTo C g (first.toList.map SV.v ++ as ++ caps.toList.map SV.v) st rty f
     | some (.fn (.func g) caps) => callTo C g (as ++ caps.map fun i => SV.loc i 0) st rty f
     | _ => False)
  | none => False

/-- AN OPERATION THAT WRITES, MAKES MEMORY OR CALLS. -/
def loudV (o : Oper) (next : Option Oper) (st : St) (f : SV → List Bx → Heap → Prop) : Prop :=
  match o.op with
  | .store t a x => (match st.get a, st.get x with | some sa, some sx => storeV C t st (sx.val st.own).cells.toList (fun own H => f (.v undef) own H) sa | _, _ => False)
  | .alloc t => (match zeroCellsOf C.P t with | some z => ∀ b : Nat, f (.loc st.own.length 0) (st.own ++ [⟨b, false, t, z⟩]) st.H | none => False)
  | .box t x => (match st.get x with | some s => ∀ b : Nat, f (.loc st.own.length 0) (st.own ++ [⟨b, false, t, (s.val st.own).cells.toList⟩]) st.H | none => False)
  | .buildSlice t n parts => buildSliceV C t n parts.toList st (feedsAppend o next) f
  | .makeMap t none => ∀ b : Nat, f (.mp st.own.length) (st.own ++ [⟨b, true, t, []⟩]) st.H
  | .mapUpdate t m k x | .insert t m k x =>
    (match C.P.underlying t, st.get m, st.get k, st.get x with
     | some (.map kt _), some (.mp i), some sk, some sx =>
       (match keyFits C kt sk, st.own[i]? with
        | true, some ⟨b, true, bt, cs⟩ => ∃ cs', mapSet (sk.val st.own) (sx.val st.own) cs = some cs' ∧ f (.v undef) (st.own.set i ⟨b, true, bt, cs'⟩) st.H
        | _, _ => False)
     | _, _, _, _ => False)
  | .makeSlice t l c => (match st.get l, st.get c with | some sl, some sc => makeSliceV C t st f sl sc | _, _ => False)
  | .call { callee := .builtin .append, args := args, argTypes := ts } =>
    (match args.toList, ts.toList with
     | [s, x], [t, u] => (match st.get s, st.get x with | some ss, some sx => if t = u then appendV C t st f ss sx else appendZV C t u st f ss sx | _, _ => False)
     | _, _ => False)
  | .call { callee := .builtin .copy, args := args, argTypes := ts } =>
    (match args.toList, ts.toList with
     | [d, x], [t, u] => (match st.get d, st.get x with | some sd, some sx => if t = u then copyV C t st f sd sx else False | _, _ => False)
     | _, _ => False)
  | .call { callee := .builtin .clear, args := args, argTypes := ts } =>
    (match args.toList, ts.toList with
     | [d], [t] => (match st.get d with | some sd => clearV C t st f sd | _ => False)
     | _, _ => False)
  | .call { callee := .value fo, args := args, argTypes := _ } => callV C fo args.toList st o.type f
  | .convert src dst x => (match st.get x with | some (.v (.string s)) => toBytesV C src dst st f s | _ => False)
  | _ => False

def opV (o : Oper) (next : Option Oper) (st : St) (f : SV → List Bx → Heap → Prop) : Prop :=
  match quietV C o st with
  | some q => q fun s => f s st.own st.H
  | none => loudV C o next st f

def byWant (want : Bool) (yes no : Prop) : Prop := match want with | true => yes | false => no
def guardV (ops : Array Oper) (o : Oper) (st : St) (yes no : St → Prop) : Prop :=
  match o.guard with
  | none => yes st
  | some (j, want) =>
    (match (ops[j]?).bind (·.dst) with
     | some t =>
       (match look t st.env with
        | some .tt => byWant want (yes st) (no st)
        | some .ff => byWant want (no st) (yes st)
        | some (.p q _) => (q → byWant want (yes (st.put (some t) .tt)) (no (st.put (some t) .tt))) ∧ (¬ q → byWant want (no (st.put (some t) .ff)) (yes (st.put (some t) .ff)))
        | some (.v (.bool b)) => (b = true → byWant want (yes (st.put (some t) .tt)) (no (st.put (some t) .tt))) ∧ (b = false → byWant want (no (st.put (some t) .ff)) (yes (st.put (some t) .ff)))
        | some (.v (.tuple _)) => no st
        | _ => False)
     | none => False)

def opsV (ops : Array Oper) : List Oper → St → (St → Prop) → Prop
  | [], st, k => k st
  | o :: rest, st, k => guardV ops o st
      (fun st => opV C o rest.head? st fun s own H => opsV ops rest (St.put ⟨st.env, own, H⟩ o.dst s) k)
      (fun st => opsV ops rest (st.put o.dst (.v undef)) k)

/-! ### Regions that draw their order -/
/-- Does it leave all memory as it is, and is what it yields the same in every world (or, 'load': in every world that knows the same)? -/
def worldless (o : Oper) : Bool :=
  match o.op with
  | .call { callee := .builtin .len, args := _, argTypes := ts } => (match ts.toList with | [t] => (match C.P.underlying t with | some (.map _ _) => false | _ => true) | _ => false)
  | .move _ | .assign _ | .pick .. | .binOp .. | .unOp .not .. | .unOp .neg .. | .fieldAddr .. | .indexAddr .. | .index .. | .field .. | .extract .. | .build .. | .slice .. | .makeFunc .. | .nilCheck _ => true
  | .call { callee := .builtin .cap, .. } | .call { callee := .builtin .min, .. } | .call { callee := .builtin .max, .. } => true
  | _ => false
def isLoad (o : Oper) : Bool := match o.op with | .load .. => true | _ => false
/-- Does operation j wait for operation i? -/
def waits (ops : Array Oper) : Nat → Nat → Nat → Bool
  | 0, j, i => (match ops[j]? with | some o => o.after.any (fun e => Region.binds .any e && e.on == i) | none => false)
  | n + 1, j, i => (match ops[j]? with | some o => o.after.any (fun e => Region.binds .any e && e.on == i) || o.after.any (fun e => Region.binds .any e && waits ops n e.on i) | none => false)
/-- May it turn memory that is known? -/
def turns (o : Oper) : Bool :=
  match o.op with
  | .store .. | .mapUpdate .. | .insert .. | .entryStore .. | .mapEntry .. => true
  | .call { callee := .builtin b, .. } => (match b with | .len | .cap | .min | .max => false | _ => true)
  | .call { callee := .value (.func g), .. } => C.muts.list.contains g
  | .call _ => true
  | _ => false
def canTake (ops : Array Oper) (listed : Array Bool) (i : Nat) : Bool :=
  match ops[i]? with
  | some o => Region.free .any ops listed i &&
    (worldless C o || (isLoad o && ((List.range ops.size).all fun j => listed.getD j true || (match ops[j]? with | some oj => !turns C oj || waits ops 4 j i | none => true)) &&
      ((List.range ops.size).all fun k => !waits ops 4 k i || !listed.getD k true)))
  | none => false
def allV : List Nat → (Nat → Prop) → Prop
  | [], _ => True
  | [i], f => f i
  | i :: r, f => f i ∧ allV r f
def drawV (ops : Array Oper) : Nat → Array Bool → St → (St → Prop) → Prop
  | 0, listed, st, k => (match Region.ready .any ops listed with | [] => k st | _ => False)
  | n + 1, listed, st, k =>
    (match Region.ready .any ops listed with
     | [] => k st
     | rs =>
       let go := fun i => (match ops[i]? with
         | some o => guardV ops o st
             (fun st => opV C o none st fun s own H => drawV ops n (listed.setIfInBounds i true) (St.put ⟨st.env, own, H⟩ o.dst s) k)
             (fun st => drawV ops n (listed.setIfInBounds i true) (st.put o.dst (.v undef)) k)
         | none => False)
       match rs.find? (canTake C ops listed) with
       | some i => go i
       | none => allV rs go)

/-! ### Code -/
structure Ks where
  n : St → Prop
  x : Nat → St → Prop
  r : St → Prop
def codeOps : Code → List Oper
  | .region _ ops _ => ops.toList
  | .seq a b => codeOps a ++ codeOps b
  | .cond _ a b => codeOps a ++ codeOps b
  | .block _ a => codeOps a
  | .loop a => codeOps a
  | .scope a => codeOps a
  | _ => []
def writes (ops : List Oper) : List Nat := ops.filterMap fun o => o.dst
def present (s : Nat) (env : List (Nat × SV)) : Bool :=
  match look s env with
  | some (.v (.tuple _)) => false
  | some _ => true
  | none => false
def genSlots (ops : List Oper) (env : List (Nat × SV)) : List Nat :=
  (List.range C.nt).filter fun s => present s env && (writes ops).contains s
def dropSlots (ops : List Oper) (env : List (Nat × SV)) : List (Nat × SV) := env.filter fun p => !(writes ops).contains p.1
def slotK (ops : List Oper) (s : Nat) : K1 :=
  match ops.find? fun o => o.dst == some s with
  | some o => k1Of C.P o.type
  | none => .one .any
def rootOf (ops : List Oper) (env : List (Nat × SV)) : Nat → Nat → List Nat
  | 0, _ => []
  | n + 1, t =>
    match ops.find? fun o => o.dst == some t with
    | some o =>
      (match o.op with
       | .fieldAddr _ (.tmp u) _ | .indexAddr _ (.tmp u) _ | .move (.tmp u) | .assign (.tmp u) | .nilCheck (.tmp u) => rootOf ops env n u
       | _ => [])
    | none => (match look t env with | some s => lentBy [s] | none => [])
def rootsOf (ops : List Oper) (env : List (Nat × SV)) : List Operand → List Nat
  | [] => []
  | .tmp t :: r => rootOf ops env 9 t ++ rootsOf ops env r
  | _ :: r => rootsOf ops env r
def modBoxes (ops : List Oper) (env : List (Nat × SV)) : List Nat :=
  let l := ops.flatMap fun o => match o.op with
    | .store _ a _ => rootsOf ops env [a]
    | .mapUpdate _ m _ _ => rootsOf ops env [m]
    | .insert _ m _ _ => rootsOf ops env [m]
    | .call { callee := .value (.func g), args := args, argTypes := _ } => if C.muts.list.contains g then rootsOf ops env args.toList else []
    | .call { callee := .value (.tmp t), args := args, argTypes := _ } => rootsOf ops env (.tmp t :: args.toList)
    | _ => []
  (List.range 40).filter l.contains
def slotVals (st : St) : List Nat → Option (List Value)
  | [] => some []
  | s :: r => match look s st.env, slotVals st r with
    | some v, some l => some (v.val st.own :: l)
    | _, _ => none
def boxVals (own : List Bx) : List Nat → Option (List Value)
  | [] => some []
  | i :: r => match own[i]?, boxVals own r with
    | some x, some l => some (.agg x.cs.toArray :: l)
    | _, _ => none
def headVals (slots boxes : List Nat) (st : St) : Option (List Value) :=
  match slotVals st slots, boxVals st.own boxes with
  | some a, some b => some (a ++ b)
  | _, _ => none
def reslot : List Nat → List Value → List (Nat × SV) → List (Nat × SV)
  | s :: r, v :: vs, env => (s, .v v) :: reslot r vs env
  | _, _, env => env
/-- The contents of the boxes that are not named. -/
def restCs (boxes : List Nat) (own : List Bx) (n : Nat) : List (List Value) :=
  ((List.range n).filter fun i => !boxes.contains i).filterMap fun i => (own[i]?).map Bx.cs
def sameRest (was now : List (List Value)) (f : Prop) : Prop :=
  match was with
  | [] => f
  | _ => now = was ∧ f
/-- H' knows all that H knows. -/
def SubH (H H' : Heap) : Prop := ∀ b k, H b = some k → H' b = some k
def leafV (φ : Prop) : SV → Prop
  | .tt => φ
  | .ff => ¬ φ
  | .p q _ => φ ↔ q
  | .v (.bool b) => φ ↔ b = true
  | _ => False
def bare : SV → Bool
  | .v (.tuple _) => false
  | _ => true
/-- A region that reckons a truth value by guarded operations: its slot. -/
def joins (ops : List Oper) : Option Tmp :=
  match ops.any (fun o => o.guard.isSome), ops.getLast? with
  | true, some o => (match C.P.underlying o.type, o.guard with
    | some .bool, none => o.dst
    | _, _ => none)
  | _, _ => none
def sameOwn (f : Prop) : List Bx → List Bx → Prop
  | [], [] => f
  | a, b => b = a ∧ f
def joinV (ops : Array Oper) (t : Tmp) (st : St) (k : St → Prop) : Prop :=
  ∃ φ : Prop, opsV C ops ops.toList st (fun st' => sameOwn (SubH st.H st'.H ∧ (match look t st'.env with | some s => leafV φ s | none => False)) st.own st'.own) ∧
    k ⟨(t, .p φ (Classical.propDecidable φ)) :: dropSlots ops.toList st.env, st.own, st.H⟩
def regionV (ops : Array Oper) (st : St) (k : St → Prop) : Prop :=
  match C.muts.join with
  | true => (match joins C ops.toList with | some t => joinV C ops t st k | none => opsV C ops ops.toList st k)
  | false => opsV C ops ops.toList st k
def codeV : Code → Ks → St → Prop
  | .skip, ks, st => ks.n st
  | .label _, ks, st => ks.n st
  | .seq a b, ks, st => codeV a ⟨codeV b ks, ks.x, ks.r⟩ st
  | .cond c a b, ks, st =>
    (match st.get c with
     | some .tt => codeV a ks st
     | some .ff => codeV b ks st
     | some (.p q _) => (q → codeV a ks st) ∧ (¬ q → codeV b ks st)
     | some (.v (.bool x)) => (x = true → codeV a ks st) ∧ (x = false → codeV b ks st)
     | _ => False)
  | .block id a, ks, st => codeV a ⟨ks.n, fun i => if i = id then ks.n else ks.x i, ks.r⟩ st
  | .scope a, ks, st => codeV a ks st
  | .exit id, ks, st => ks.x id st
  | .ret, ks, st => ks.r st
  | .region _ ops draw, ks, st => (match draw with | true => drawV C ops ops.size (Array.replicate ops.size false) st ks.n | false => regionV C ops st ks.n)
  | .loop a, ks, st =>
    let ops := codeOps a
    let slots := genSlots C ops st.env
    let boxes := modBoxes C ops st.env
    (match headVals slots boxes st, pick st.own boxes with
     | some vs0, some xs =>
       let kinds := slots.map (slotK C ops) ++ boxKs C.P xs
       fitP kinds vs0 (∃ (I : List Value → Heap → Prop) (μ : List Value → Nat), I vs0 st.H ∧ K1.als kinds fun vs => ∀ H', Next C.base C.H0 H' → I vs H' →
         codeV a ⟨fun st' => (match headVals slots boxes st' with
             | some vs' => fitP kinds vs' (sameRest (restCs boxes st.own st.own.length) (restCs boxes st'.own st.own.length) (I vs' st'.H ∧ μ vs' < μ vs))
             | none => False), ks.x, ks.r⟩
           ⟨reslot slots (vs.take slots.length) (dropSlots ops st.env), putBack st.own boxes (toCells (vs.drop slots.length)), H'⟩)
     | _, _ => False)
  | _, _, _ => False

def resV (st : St) : List ResultVar → (List Value → Prop) → Prop
  | [], f => f []
  | .tmp t :: r, f => (match look t st.env with | some s => resV st r fun l => f (s.val st.own :: l) | none => False)
  | .cell a t :: r, f =>
    (match look a st.env with
     | some (.loc i 0) =>
       (match st.own[i]? with
        | some ⟨_, false, _, cs⟩ =>
          (match C.P.underlying t, k1Of C.P t with
           | some _, .one _ => (match cs with | [v] => resV st r fun l => f (v :: l) | _ => False)
           | some _, .arr _ => cs.length = C.P.cellsOf t ∧ resV st r fun l => f (.agg cs.toArray :: l)
           | some _, _ => if cs.length = C.P.cellsOf t then resV st r fun l => f (.agg cs.toArray :: l) else False
           | none, _ => False)
        | _ => False)
     | _ => False)
def retV (rs : List ResultVar) (m : Nat) (K : Value → List (List Value) → Heap → Prop) (st : St) : Prop :=
  resV C st rs fun vs => match vs with
    | [v] => K v ((st.own.take m).map Bx.cs) st.H
    | vs => K (.tuple vs.toArray) ((st.own.take m).map Bx.cs) st.H
def zipFrom : Nat → List SV → List (Nat × SV)
  | _, [] => []
  | i, s :: r => (i, s) :: zipFrom (i + 1) r
def funV (c : Code) (rs : List ResultVar) (args : List SV) (own : List Bx) (K : Value → List (List Value) → Heap → Prop) : Prop :=
  codeV C c ⟨retV C rs own.length K, fun _ _ => False, retV C rs own.length K⟩ ⟨zipFrom 0 args, own, C.H0⟩
end
/-! ### Bodies taken in place -/
def inl0 : InlFn := fun _ _ _ _ _ _ _ => none
def lookFn (g : FuncId) : List (FuncId × Func) → Option Func
  | [] => none
  | (h, fn) :: r => if h = g then some fn else lookFn g r
def retI (C : Cfg) (rs : List ResultVar) (f : SV → List Bx → Heap → Prop) (st : St) : Prop :=
  resV C st rs fun vs => match vs with
    | [v] => f (.v v) st.own st.H
    | vs => f (.v (.tuple vs.toArray)) st.own st.H
def codeI (C : Cfg) (fn : Func) (pre : List SV) (own : List Bx) (H : Heap) (f : SV → List Bx → Heap → Prop) : Prop :=
  codeV C (fn.body.getD .skip) ⟨retI C fn.results.toList f, fun _ _ => False, retI C fn.results.toList f⟩ ⟨zipFrom 0 pre, own, H⟩
def inlOf (P : Program) (list : List FuncId) (fs : List (FuncId × Func)) (prev : InlFn) : InlFn := fun base H0 g pre own H f =>
  match lookFn g fs with
  | none => none
  | some fn => if pre.length ≤ fn.ntmps then some (codeI ⟨P, fn.ntmps, ⟨list, prev, true⟩, base, H0⟩ fn pre own H f) else none
end Go.Vg
