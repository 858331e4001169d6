/- What is proved here: a part of the proof of laws of this seat: what a contract is, how it comes of a condition, contracts of the functions that are reached, the plain laws. -/
import Derived.Test.YtgaegoefbekndaaGreatDoorUP2
import Derived.Test.YtgaegoefbekndaaGreatDoorChecked
import Derived.Below
import Derived.Shelf.Lays
import Derived.Shelf.LaysC
import Derived.Shelf.LaysM
import Derived.Lib.AtoiAllCases
import Derived.Lib.ItoaLen
import Derived.Lib.Join
import Derived.Lib.SplitLaws
import Derived.Lib.AppendIntMem
import Derived.Lib.LaidTab
import Derived.Lib.ParseIntBTie
import Derived.Shelf.Small.Wraps
import Derived.Shelf.Strconv.AtoiAll
import Derived.Shelf.Strconv.Itoa4
import Derived.Shelf.Strconv.ParseIntPublic10
import Derived.Shelf.Strings.Cut
import Derived.Shelf.Strings.OnBuilder
import Derived.Shelf.Strings.Prefix
import Derived.Shelf.Strings.Split
import Derived.Laws.Externs
import Derived.Lib.Overlaps
set_option linter.unusedSimpArgs false
set_option linter.unusedVariables false
set_option maxRecDepth 100000
namespace Go.Vg
open Go
abbrev Rep (α : Type) := Heap->List Value->α->Prop
def Rep.Mono {α : Type} (R : Rep α) : Prop := ∀ (H H' : Heap) (r : List Value) (x : α), Ext H H'->R H r x->R H' r x
structure Sl {α : Type} (R : Rep α) (sz : Nat) (H : Heap) (a : O) (n : Nat) (xs : List α) : Prop where
 len : xs.length = n
 le : (n : Int) <= 9223372036854775807
 at_ : 0 < n->∃ b o : Nat, a = some ⟨b, o, none⟩/\ ∀ (i : Nat) (x : α), xs[i]? = some x->∃ r, R H r x/\ ∀ (j : Nat) (v : Value), r[j]? = some v->H.cell b (o + i * sz + j) = some v
theorem Sl.ext {α : Type} {R : Rep α} (hR : R.Mono) {sz n : Nat} {H H' : Heap} {a : O} {xs : List α} (h : Sl R sz H a n xs) (e : Ext H H') : Sl R sz H' a n xs :=
 ⟨h.len, h.le, fun hn => by
  obtain ⟨b, o, ha, hc⟩ := h.at_ hn
  refine ⟨b, o, ha, fun i x hx => ?_⟩
  obtain ⟨r, hr, hv⟩ := hc i x hx
  exact ⟨r, hR _ _ _ _ e hr, fun j v hj => Heap.cell_next e (hv j v hj)⟩⟩
theorem Sl.nil {α : Type} {R : Rep α} {sz : Nat} {H : Heap} {a : O} : Sl R sz H a 0 ([] : List α) := ⟨rfl, by omega, fun h => by omega⟩
theorem Sl.get {α : Type} {R : Rep α} {sz n : Nat} {H : Heap} {a : O} {xs : List α} (h : Sl R sz H a n xs) {k : Int} (h0 : 0 <= k) (h1 : k < n) :
  ∃ (b o : Nat) (r : List Value) (x : α), a = some ⟨b, o, none⟩/\ xs[k.toNat]? = some x/\ R H r x/\ ∀ (j : Nat) (v : Value), r[j]? = some v->H.cell b (o + k.toNat * sz + j) = some v := by
 obtain ⟨b, o, ha, hc⟩ := h.at_ (by omega)
 have hl := h.len
 have hk : xs[k.toNat]? = some (xs[k.toNat]'(by omega)) := List.getElem?_eq_getElem (by omega)
 obtain ⟨r, hr, hv⟩ := hc _ _ hk
 exact ⟨b, o, r, _, ha, hk, hr, hv⟩
theorem drop_at {α : Type} {xs : List α} {i : Nat} {x : α} (h : xs[i]? = some x) : xs.drop i = x :: xs.drop (i + 1) := by
 obtain ⟨hi, rfl⟩ := List.getElem?_eq_some_iff.1 h
 exact List.drop_eq_getElem_cons hi
theorem take_at {α : Type} {xs : List α} {i : Nat} {x : α} (h : xs[i]? = some x) : xs.take (i + 1) = xs.take i ++ [x] := by
 rw [List.take_add_one, h]; rfl
theorem drop_all {α : Type} {xs : List α} {i n : Nat} (h : xs.length = n) (hi : n <= i) : xs.drop i = [] := List.drop_eq_nil_of_le (by omega)
theorem Sl.sub {α : Type} {R : Rep α} {sz n : Nat} {H : Heap} {a a' : O} {xs : List α} (h : Sl R sz H a n xs) {l m : Nat} (hm : l + m <= n)
  (ha : 0 < m->a' = a.map fun ad => ad.add (l * sz)) : Sl R sz H a' m ((xs.drop l).take m) := by
 have hl := h.len
 have hle := h.le
 refine ⟨by simp; omega, by omega, fun hm0 => ?_⟩
 obtain ⟨b, o, rfl, hc⟩ := h.at_ (by omega)
 refine ⟨b, o + l * sz, ?_, fun i x hx => ?_⟩
 ·rw [ha hm0]; simp [Addr.add]
 ·rw [List.getElem?_take] at hx
  split at hx
  ·rw [List.getElem?_drop] at hx
   obtain ⟨r, hr, hv⟩ := hc _ _ hx
   refine ⟨r, hr, fun j v hj => ?_⟩
   have := hv j v hj
   rw [Nat.add_mul] at this
   rw [show o + l * sz + i * sz + j = o + (l * sz + i * sz) + j from by omega]
   exact this
  ·cases hx
theorem Sl.of_has {α : Type} {R : Rep α} {sz n : Nat} {H : Heap} {a : O} {xs : List α} {rows : List (List Value)} (h : Has H sz a n rows) (hl : rows.length = xs.length)
  (hR : ∀ (i : Nat) r x, rows[i]? = some r->xs[i]? = some x->R H r x) : Sl R sz H a n xs :=
 ⟨by rw [← hl]; exact h.len, h.le, fun hn => by
  obtain ⟨b, o, ha, hc⟩ := h.at_ hn
  refine ⟨b, o, ha, fun i x hx => ?_⟩
  have hi : i < rows.length := by rw [hl]; exact (List.getElem?_eq_some_iff.1 hx).1
  exact ⟨rows[i], hR i _ x (List.getElem?_eq_getElem hi) hx, hc i _ (List.getElem?_eq_getElem hi)⟩⟩
theorem has_of_row {base : Nat} {H : Heap} {e : TypeId} {sz : Nat} {a : O} {n c : Nat} {cs : List Value} (h : Row base H e sz a n c cs) {rows : List (List Value)} (hf : rows.flatten = cs)
  (hs : ∀ r ∈ rows, r.length = sz) (hn : rows.length = n) : Has H sz a n rows := by
 obtain ⟨h1, h2, h3, h4⟩ := h
 refine ⟨hn, by have : maxLen = 9223372036854775807 := rfl; omega, fun hp => ?_⟩
 rcases h4 with ⟨h, _⟩ | ⟨g, k, ha, hg, hH, _, _, _, hcl⟩
 ·omega
 ·refine ⟨g, 0, ha, fun i r hi j v hj => ?_⟩
  unfold Heap.cell
  rw [hH]
  simp only [Option.bind_some, Nat.zero_add]
  apply hcl
  subst hf
  clear hn h1 hp hH ha hcl
  induction rows generalizing i with
  | nil => simp at hi
  | cons x rest ih =>
   have hx := hs x List.mem_cons_self
   cases i with
   | zero =>
    simp at hi; subst hi
    rw [List.flatten_cons, Nat.zero_mul, Nat.zero_add, List.getElem?_append_left (by have := List.getElem?_eq_some_iff.1 hj; exact this.1)]
    exact hj
   | succ i =>
    simp only [List.getElem?_cons_succ] at hi
    rw [List.flatten_cons, List.getElem?_append_right (by rw [hx, Nat.succ_mul]; omega), hx, show (i + 1) * sz + j - sz = i * sz + j from by rw [Nat.succ_mul]; omega]
    exact ih (fun r hr => hs r (List.mem_cons_of_mem _ hr)) _ hi
theorem Row.nil {base : Nat} {H : Heap} {e : TypeId} {sz : Nat} : Row base H e sz none 0 0 [] := ⟨by simp, by omega, by decide, .inl ⟨rfl, rfl⟩⟩

def RInt : Rep Int := fun _ r x => r = [i64 x]
theorem RInt.mono : RInt.Mono := fun _ _ _ _ _ h => h
def RBool : Rep Bool := fun _ r x => r = [.bool x]
def RSl {α : Type} (R : Rep α) (sz : Nat) : Rep (List α) := fun H r xs => ∃ a n c, r = [.slice a n c]/\ Sl R sz H a n xs
theorem RSl.mono {α : Type} {R : Rep α} (hR : R.Mono) {sz : Nat} : (RSl R sz).Mono := fun _ _ _ _ e ⟨a, n, c, h, hs⟩ => ⟨a, n, c, h, hs.ext hR e⟩
theorem Sl.int {H H' : Heap} {a : O} {n : Nat} {xs : List Int} (h : Sl RInt 1 H a n xs) (e : Ext H H') {k : Int} (h0 : 0 <= k) (h1 : k < n) {F : Int->Prop} (hF : ∀ x, xs[k.toNat]? = some x->F x) :
  ∃ (b o : Nat), a = some ⟨b, o, none⟩/\ 0 <= k/\ k < n/\ ∃ x : Int, H'.cell b (o + k.toNat * 1) = some (.int .i64 x)/\ F x := by
 obtain ⟨b, o, r, x, ha, hx, hr, hc⟩ := h.get h0 h1
 obtain rfl := hr
 exact ⟨b, o, ha, h0, h1, x, Heap.cell_next e (hc 0 _ rfl), hF x hx⟩
theorem Sl.bool {H H' : Heap} {a : O} {n : Nat} {xs : List Bool} (h : Sl RBool 1 H a n xs) (e : Ext H H') {k : Int} (h0 : 0 <= k) (h1 : k < n) {F : Bool->Prop} (hF : ∀ x, xs[k.toNat]? = some x->F x) :
  ∃ (b o : Nat), a = some ⟨b, o, none⟩/\ 0 <= k/\ k < n/\ ∃ x : Bool, H'.cell b (o + k.toNat * 1) = some (.bool x)/\ F x := by
 obtain ⟨b, o, r, x, ha, hx, hr, hc⟩ := h.get h0 h1
 obtain rfl := hr
 exact ⟨b, o, ha, h0, h1, x, Heap.cell_next e (hc 0 _ rfl), hF x hx⟩
theorem Sl.slice {α : Type} {R : Rep α} {sz : Nat} {H H' : Heap} {a : O} {n : Nat} {xs : List (List α)} (h : Sl (RSl R sz) 1 H a n xs) (e : Ext H H') {k : Int} (h0 : 0 <= k) (h1 : k < n) {F : O->Nat->Nat->Prop}
  (hF : ∀ x a' n' c', xs[k.toNat]? = some x->Sl R sz H a' n' x->F a' n' c') :
  ∃ (b o : Nat), a = some ⟨b, o, none⟩/\ 0 <= k/\ k < n/\ ∃ (a' : O) (n' c' : Nat), H'.cell b (o + k.toNat * 1) = some (.slice a' n' c')/\ F a' n' c' := by
 obtain ⟨b, o, r, x, ha, hx, ⟨a', n', c', rfl, hs⟩, hc⟩ := h.get h0 h1
 exact ⟨b, o, ha, h0, h1, a', n', c', Heap.cell_next e (hc 0 _ rfl), hF x a' n' c' hx hs⟩

theorem Row.ext {base : Nat} {H H' : Heap} {e : TypeId} {sz : Nat} {a : O} {n c : Nat} {cs : List Value} (h : Row base H e sz a n c cs) (x : Ext H H') : Row base H' e sz a n c cs :=
 ⟨h.1, h.2.1, h.2.2.1, h.2.2.2.imp id fun ⟨g, k, h1, h2, h3, h4⟩ => ⟨g, k, h1, h2, x _ _ h3, h4⟩⟩
theorem ints_of_row {base : Nat} {H : Heap} {e : TypeId} {a : O} {n c : Nat} {s : List Int} (h : Row base H e 1 a n c (s.map i64)) : Sl RInt 1 H a n s := by
 have h1 := h.1
 refine Sl.of_has (rows := intRows s) (has_of_row h ?_ ?_ ?_) (by simp [intRows]) ?_
 ·clear h h1
  induction s with
  | nil => rfl
  | cons x r ih => simp [intRows] at ih ⊢; exact ih
 ·intro r hr; simp [intRows] at hr; obtain ⟨x, _, rfl⟩ := hr; rfl
 ·simp [intRows] at h1 ⊢; omega
 ·intro i r x hr hx
  simp [intRows] at hr
  obtain ⟨y, hy, rfl⟩ := hr
  rw [hx] at hy
  obtain rfl := Option.some.inj hy
  rfl

theorem Spec.int1 {P : Program} {f : FuncId} {args : List Value} {H : Heap} {m : Int} (h : Spec P f args H fun v _ => v = i64 m) {base : Nat} {G : Int->Heap->Prop} (hG : ∀ H', Ext H H'->Next base H H'->G m H') :
  Spec P f args H fun v H' => ∃ n : Int, v = .int .i64 n/\ (Next base H H'->G n H') :=
 h.mono fun v H' e hv => ⟨m, hv, fun hN => hG H' e hN⟩
theorem Spec.bool1 {P : Program} {f : FuncId} {args : List Value} {H : Heap} {m : Bool} (h : Spec P f args H fun v _ => v = .bool m) {base : Nat} {G : Bool->Heap->Prop} (hG : ∀ H', Ext H H'->Next base H H'->G m H') :
  Spec P f args H fun v H' => ∃ n : Bool, v = .bool n/\ (Next base H H'->G n H') :=
 h.mono fun v H' e hv => ⟨m, hv, fun hN => hG H' e hN⟩
theorem Spec.int2 {P : Program} {f : FuncId} {args : List Value} {H : Heap} {m m' : Int} (h : Spec P f args H fun v _ => v = .tuple #[i64 m, i64 m']) {base : Nat} {G : Int->Int->Heap->Prop} (hG : ∀ H', Ext H H'->Next base H H'->G m m' H') :
  Spec P f args H fun v H' => ∃ n n' : Int, v = .tuple #[.int .i64 n, .int .i64 n']/\ (Next base H H'->G n n' H') :=
 h.mono fun v H' e hv => ⟨m, m', hv, fun hN => hG H' e hN⟩
open Go Go.Proofs Go.RowKit
theorem Sees.low {H : Heap} {w w' : World} (h : Sees H w) (hB : Below w.heap.size w w') : Sees H w' := fun b k hb => by
 rw [hB.block b (h.lt hb)]; exact h b k hb
theorem Sees.sub {H H' : Heap} {w : World} (h : Sees H' w) (e : Ext H H') : Sees H w := fun b k hb => h b k (e b k hb)
def SpecV (P : Program) (f : FuncId) (args : List Value) (H : Heap) (Q : Value->Prop) : Prop :=
 ∀ w, Sees H w->Calls P f args.toArray w fun e w' => ∃ v, e = .returned v/\ Q v/\ Below w.heap.size w w'
theorem SpecV.mono {P : Program} {f : FuncId} {args : List Value} {H : Heap} {Q Q' : Value->Prop} (h : SpecV P f args H Q) (hq : ∀ v, Q v->Q' v) : SpecV P f args H Q' :=
 fun w hw => (h w hw).mono fun e w' ⟨v, he, hv, hB⟩ => ⟨v, he, hq v hv, hB⟩
theorem belowX_of {w w' : World} (h : Below w.heap.size w w') : BelowX [] w w' := ⟨h.os, h.tape, h.output, h.size, fun k hk _ => h.block k hk⟩
theorem SpecV.spec {P : Program} {f : FuncId} {args : List Value} {H : Heap} {Q : Value->Prop} (h : SpecV P f args H Q) : Spec P f args H fun v H' => Q v/\ H' = H := fun w hw hb =>
 (h w hw).mono fun e w' ⟨v, he, hv, hB⟩ => ⟨v, [], H, he, rfl, belowX_of hB, hw.low hB, ⟨fun _ hx => (by cases hx), fun _ hx => (by cases hx), by simp [setAll]⟩, ⟨fun _ _ h => h, fun b k h h' => (by rw [h] at h'; cases h')⟩, hv, rfl⟩
def str (l : List UInt8) : Value := .string ⟨l.toArray⟩
def RStr : Rep (List UInt8) := fun _ r x => r = [str x]
theorem Sl.str {H H' : Heap} {a : O} {n : Nat} {xs : List (List UInt8)} (h : Sl RStr 1 H a n xs) (e : Ext H H') {k : Int} (h0 : 0 <= k) (h1 : k < n) {F : ByteArray->Prop} (hF : ∀ x, xs[k.toNat]? = some x->F ⟨x.toArray⟩) :
  ∃ (b o : Nat), a = some ⟨b, o, none⟩/\ 0 <= k/\ k < n/\ ∃ s : ByteArray, H'.cell b (o + k.toNat * 1) = some (.string s)/\ F s := by
 obtain ⟨b, o, r, x, ha, hx, hr, hc⟩ := h.get h0 h1
 obtain rfl := hr
 exact ⟨b, o, ha, h0, h1, ⟨x.toArray⟩, Heap.cell_next e (hc 0 _ rfl), hF x hx⟩
section
variable {P : Program} {f : FuncId} {args : List Value} {H : Heap} {base : Nat}
theorem SpecV.str1 {m : List UInt8} (h : SpecV P f args H fun v => v = str m) {G : ByteArray->Heap->Prop} (hG : ∀ H', Ext H H'->Next base H H'->G ⟨m.toArray⟩ H') :
  Spec P f args H fun v H' => ∃ s : ByteArray, v = .string s/\ (Next base H H'->G s H') :=
 h.spec.mono fun v H' e hv => ⟨_, hv.1, fun hN => hG H' e hN⟩
theorem SpecV.cut3 {a b : List UInt8} {c : Bool} (h : SpecV P f args H fun v => v = .tuple #[str a, str b, .bool c]) {G : ByteArray->ByteArray->Bool->Heap->Prop} (hG : ∀ H', Ext H H'->Next base H H'->G ⟨a.toArray⟩ ⟨b.toArray⟩ c H') :
  Spec P f args H fun v H' => ∃ (s t : ByteArray) (b : Bool), v = .tuple #[.string s, .string t, .bool b]/\ (Next base H H'->G s t b H') :=
 h.spec.mono fun v H' e hv => ⟨_, _, _, hv.1, fun hN => hG H' e hN⟩
theorem SpecV.cut2 {a : List UInt8} {c : Bool} (h : SpecV P f args H fun v => v = .tuple #[str a, .bool c]) {G : ByteArray->Bool->Heap->Prop} (hG : ∀ H', Ext H H'->Next base H H'->G ⟨a.toArray⟩ c H') :
  Spec P f args H fun v H' => ∃ (s : ByteArray) (b : Bool), v = .tuple #[.string s, .bool b]/\ (Next base H H'->G s b H') :=
 h.spec.mono fun v H' e hv => ⟨_, _, hv.1, fun hN => hG H' e hN⟩
theorem Spec.strE {m : List UInt8} {e : Int} (h : Spec P f args H fun v _ => v = .tuple #[str m, .int .i64 e]) {G : ByteArray->Int->Heap->Prop} (hG : ∀ H', Ext H H'->Next base H H'->G ⟨m.toArray⟩ e H') :
  Spec P f args H fun v H' => ∃ (s : ByteArray) (n : Int), v = .tuple #[.string s, .int .i64 n]/\ (Next base H H'->G s n H') :=
 h.mono fun v H' x hv => ⟨_, _, hv, fun hN => hG H' x hN⟩
end
theorem runs_add {P : Program} {ty : TypeId} {xo yo : Operand} {a b c : List UInt8} (e : a ++ b = c) (h : a.length + b.length <= 9223372036854775807) : RunsTo P (binRun .add ty xo yo (.string ⟨a.toArray⟩) (.string ⟨b.toArray⟩)) (.string ⟨c.toArray⟩) := by
 intro w
 subst e
 have hg : (eqGuard .add ty xo yo (.string ⟨a.toArray⟩) (.string ⟨b.toArray⟩)).run P w = .ok () w := by simp [eqGuard]
 have hb : (binOp .add ty (.string ⟨a.toArray⟩) (.string ⟨b.toArray⟩)).run P w = .ok (.string ((⟨a.toArray⟩ : ByteArray) ++ ⟨b.toArray⟩)) w := by
  have h1 : (⟨a.toArray⟩ : ByteArray).size = a.length := rfl
  have h2 : (⟨b.toArray⟩ : ByteArray).size = b.length := rfl
  have h3 : ¬ (IntKind.i64.max < ((a.length + b.length : Nat) : Int)) := by
   have : IntKind.i64.max = 9223372036854775807 := by decide
   omega
  simp only [binOp, Op.stringOp, h1, h2, gt_iff_lt, if_neg h3]
  rfl
 have hc : ((⟨a.toArray⟩ : ByteArray) ++ ⟨b.toArray⟩) = ⟨(a ++ b).toArray⟩ := by
  apply ByteArray.ext
  simp [ByteArray.data_append]
 simp only [binRun, Sem.run_bind, hg, Result.andThen_ok, hb, hc]
end Go.Vg
namespace Go.Proofs
open Go.Shelf
def Tryz.lays103_ren : Go.Shelf.Ren := ⟨fun | 103 => 227 | 210 => 250 | 206 => 240 | n => n, fun | 9 => 9 | 4 => 4 | 24 => 245 | 3 => 3 | n => n, fun | n => n⟩
theorem Tryz.lays103 : Go.Proofs.Lays.n103 Tryz.prog Tryz.lays103_ren := {
 mixed := by kernel_rfl
 f103 := Tryz.func227.trans (congrArg some (by kernel_rfl))
 f206 := Tryz.func240.trans (congrArg some (by kernel_rfl))
 f210 := Tryz.func250.trans (congrArg some (by kernel_rfl))
 t3 := Tryz.underlying3
 a3 := Tryz.isAgg3
 z3 := Tryz.sizeOf3
 v3 := Tryz.zeroValue3
 t4 := Tryz.underlying4
 a4 := Tryz.isAgg4
 z4 := Tryz.sizeOf4
 v4 := Tryz.zeroValue4
 t9 := Tryz.underlying9
 a9 := Tryz.isAgg9
 z9 := Tryz.sizeOf9
 v9 := Tryz.zeroValue9
 t24 := Tryz.underlying245
 a24 := Tryz.isAgg245
 z24 := Tryz.sizeOf245
 v24 := Tryz.zeroValue245 }
def Tryz.lays145_ren : Go.Shelf.Ren := ⟨fun | 145 => 195 | 220 => 225 | 219 => 247 | 217 => 266 | 225 => 267 | 224 => 268 | 267 => 269 | 266 => 286 | 314 => 287 | n => n, fun | 9 => 9 | 4 => 4 | 59 => 232 | 3 => 3 | 5 => 5 | 46 => 294 | 146 => 315 | 51 => 314 | n => n, fun | 1 => 0 | n => n⟩
theorem Tryz.lays145 : Go.Proofs.Lays.n145 Tryz.prog Tryz.lays145_ren := {
 mixed := by kernel_rfl
 f145 := Tryz.func195.trans (congrArg some (by kernel_rfl))
 f217 := Tryz.func266.trans (congrArg some (by kernel_rfl))
 f219 := Tryz.func247.trans (congrArg some (by kernel_rfl))
 f220 := Tryz.func225.trans (congrArg some (by kernel_rfl))
 f224 := Tryz.func268.trans (congrArg some (by kernel_rfl))
 f225 := Tryz.func267.trans (congrArg some (by kernel_rfl))
 f266 := Tryz.func286.trans (congrArg some (by kernel_rfl))
 f267 := Tryz.func269.trans (congrArg some (by kernel_rfl))
 f314 := Tryz.func287.trans (congrArg some (by kernel_rfl))
 t3 := Tryz.underlying3
 a3 := Tryz.isAgg3
 z3 := Tryz.sizeOf3
 v3 := Tryz.zeroValue3
 t4 := Tryz.underlying4
 a4 := Tryz.isAgg4
 z4 := Tryz.sizeOf4
 v4 := Tryz.zeroValue4
 t5 := Tryz.underlying5
 a5 := Tryz.isAgg5
 z5 := Tryz.sizeOf5
 v5 := Tryz.zeroValue5
 t9 := Tryz.underlying9
 a9 := Tryz.isAgg9
 z9 := Tryz.sizeOf9
 v9 := Tryz.zeroValue9
 t46 := Tryz.underlying294
 a46 := Tryz.isAgg294
 z46 := Tryz.sizeOf294
 v46 := Tryz.zeroValue294
 t51 := Tryz.underlying314
 a51 := Tryz.isAgg314
 z51 := Tryz.sizeOf314
 v51 := Tryz.zeroValue314
 t59 := Tryz.underlying232
 a59 := Tryz.isAgg232
 z59 := Tryz.sizeOf232
 v59 := Tryz.zeroValue232
 t146 := Tryz.underlying315
 a146 := Tryz.isAgg315
 z146 := Tryz.sizeOf315
 v146 := Tryz.zeroValue315
 g1 := by kernel_rfl }
def Tryz.lays146_ren : Go.Shelf.Ren := ⟨fun | 146 => 208 | 221 => 205 | 268 => 237 | 138 => 238 | 143 => 239 | 195 => 260 | 197 => 261 | 218 => 262 | 219 => 247 | 260 => 277 | 217 => 266 | 225 => 267 | 224 => 268 | 267 => 269 | 266 => 286 | 314 => 287 | n => n, fun | 9 => 9 | 31 => 187 | 3 => 3 | 4 => 4 | 0 => 0 | 105 => 289 | 21 => 21 | 5 => 5 | 46 => 294 | 119 => 322 | 139 => 325 | 138 => 324 | 146 => 315 | 51 => 314 | n => n, fun | 1 => 0 | 3 => 3 | 4 => 4 | n => n⟩
theorem Tryz.lays146 : Go.Proofs.Lays.n146 Tryz.prog Tryz.lays146_ren := {
 mixed := by kernel_rfl
 f138 := Tryz.func238.trans (congrArg some (by kernel_rfl))
 f143 := Tryz.func239.trans (congrArg some (by kernel_rfl))
 f146 := Tryz.func208.trans (congrArg some (by kernel_rfl))
 f195 := Tryz.func260.trans (congrArg some (by kernel_rfl))
 f197 := Tryz.func261.trans (congrArg some (by kernel_rfl))
 f217 := Tryz.func266.trans (congrArg some (by kernel_rfl))
 f218 := Tryz.func262.trans (congrArg some (by kernel_rfl))
 f219 := Tryz.func247.trans (congrArg some (by kernel_rfl))
 f221 := Tryz.func205.trans (congrArg some (by kernel_rfl))
 f224 := Tryz.func268.trans (congrArg some (by kernel_rfl))
 f225 := Tryz.func267.trans (congrArg some (by kernel_rfl))
 f260 := Tryz.func277.trans (congrArg some (by kernel_rfl))
 f266 := Tryz.func286.trans (congrArg some (by kernel_rfl))
 f267 := Tryz.func269.trans (congrArg some (by kernel_rfl))
 f268 := Tryz.func237.trans (congrArg some (by kernel_rfl))
 f314 := Tryz.func287.trans (congrArg some (by kernel_rfl))
 t0 := Tryz.underlying0
 a0 := Tryz.isAgg0
 z0 := Tryz.sizeOf0
 v0 := Tryz.zeroValue0
 t3 := Tryz.underlying3
 a3 := Tryz.isAgg3
 z3 := Tryz.sizeOf3
 v3 := Tryz.zeroValue3
 t4 := Tryz.underlying4
 a4 := Tryz.isAgg4
 z4 := Tryz.sizeOf4
 v4 := Tryz.zeroValue4
 t5 := Tryz.underlying5
 a5 := Tryz.isAgg5
 z5 := Tryz.sizeOf5
 v5 := Tryz.zeroValue5
 t9 := Tryz.underlying9
 a9 := Tryz.isAgg9
 z9 := Tryz.sizeOf9
 v9 := Tryz.zeroValue9
 t21 := Tryz.underlying21
 a21 := Tryz.isAgg21
 z21 := Tryz.sizeOf21
 v21 := Tryz.zeroValue21
 t31 := Tryz.underlying187
 a31 := Tryz.isAgg187
 z31 := Tryz.sizeOf187
 v31 := Tryz.zeroValue187
 t46 := Tryz.underlying294
 a46 := Tryz.isAgg294
 z46 := Tryz.sizeOf294
 v46 := Tryz.zeroValue294
 t51 := Tryz.underlying314
 a51 := Tryz.isAgg314
 z51 := Tryz.sizeOf314
 v51 := Tryz.zeroValue314
 t105 := Tryz.underlying289
 a105 := Tryz.isAgg289
 z105 := Tryz.sizeOf289
 v105 := Tryz.zeroValue289
 t119 := Tryz.underlying322
 a119 := Tryz.isAgg322
 z119 := Tryz.sizeOf322
 t138 := Tryz.underlying324
 a138 := Tryz.isAgg324
 z138 := Tryz.sizeOf324
 v138 := Tryz.zeroValue324
 t139 := Tryz.underlying325
 a139 := Tryz.isAgg325
 z139 := Tryz.sizeOf325
 v139 := Tryz.zeroValue325
 t146 := Tryz.underlying315
 a146 := Tryz.isAgg315
 z146 := Tryz.sizeOf315
 v146 := Tryz.zeroValue315
 g1 := by kernel_rfl
 g3 := by kernel_rfl
 g4 := by kernel_rfl }
def Tryz.lays156_ren : Go.Shelf.Ren := ⟨fun | 156 => 299 | 165 => 303 | 166 => 283 | 169 => 285 | 240 => 298 | 241 => 304 | 276 => 302 | 277 => 305 | n => n, fun | 31 => 187 | 9 => 9 | 3 => 3 | 4 => 4 | 0 => 0 | 20 => 20 | 72 => 311 | 76 => 264 | 70 => 309 | 37 => 33 | 75 => 263 | 127 => 333 | 164 => 338 | 5 => 5 | 80 => 313 | n => n, fun | n => n⟩
theorem Tryz.lays156 : Go.Proofs.Lays.n156 Tryz.prog Tryz.lays156_ren := {
 mixed := by kernel_rfl
 f156 := Tryz.func299.trans (congrArg some (by kernel_rfl))
 f165 := Tryz.func303.trans (congrArg some (by kernel_rfl))
 f166 := Tryz.func283.trans (congrArg some (by kernel_rfl))
 f169 := Tryz.func285.trans (congrArg some (by kernel_rfl))
 f240 := Tryz.func298.trans (congrArg some (by kernel_rfl))
 f241 := Tryz.func304.trans (congrArg some (by kernel_rfl))
 f276 := Tryz.func302.trans (congrArg some (by kernel_rfl))
 f277 := Tryz.func305.trans (congrArg some (by kernel_rfl))
 t0 := Tryz.underlying0
 a0 := Tryz.isAgg0
 z0 := Tryz.sizeOf0
 v0 := Tryz.zeroValue0
 t3 := Tryz.underlying3
 a3 := Tryz.isAgg3
 z3 := Tryz.sizeOf3
 v3 := Tryz.zeroValue3
 t4 := Tryz.underlying4
 a4 := Tryz.isAgg4
 z4 := Tryz.sizeOf4
 v4 := Tryz.zeroValue4
 t9 := Tryz.underlying9
 a9 := Tryz.isAgg9
 z9 := Tryz.sizeOf9
 v9 := Tryz.zeroValue9
 t20 := Tryz.underlying20
 a20 := Tryz.isAgg20
 z20 := Tryz.sizeOf20
 v20 := Tryz.zeroValue20
 t31 := Tryz.underlying187
 a31 := Tryz.isAgg187
 z31 := Tryz.sizeOf187
 v31 := Tryz.zeroValue187
 t37 := Tryz.underlying33
 a37 := Tryz.isAgg33
 z37 := Tryz.sizeOf33
 v37 := Tryz.zeroValue33
 t70 := Tryz.underlying309
 a70 := Tryz.isAgg309
 z70 := Tryz.sizeOf309
 v70 := Tryz.zeroValue309
 t72 := Tryz.underlying311
 a72 := Tryz.isAgg311
 z72 := Tryz.sizeOf311
 v72 := Tryz.zeroValue311
 t75 := Tryz.underlying263
 a75 := Tryz.isAgg263
 z75 := Tryz.sizeOf263
 v75 := Tryz.zeroValue263
 t76 := Tryz.underlying264
 a76 := Tryz.isAgg264
 z76 := Tryz.sizeOf264
 v76 := Tryz.zeroValue264
 t127 := Tryz.underlying333
 a127 := Tryz.isAgg333
 z127 := Tryz.sizeOf333
 v127 := Tryz.zeroValue333
 t164 := Tryz.underlying338
 a164 := Tryz.isAgg338
 z164 := Tryz.sizeOf338
 v164 := Tryz.zeroValue338 }
def Tryz.laysm171_ren : Go.Shelf.Ren := ⟨fun | 171 => 223 | 243 => 246 | 246 => 264 | 283 => 279 | 284 => 280 | 285 => 281 | 286 => 282 | 129 => 294 | 317 => 293 | 318 => 295 | 319 => 296 | 320 => 297 | 337 => 300 | 338 => 301 | n => n, fun | 3 => 3 | 9 => 9 | 2 => 2 | 4 => 4 | 171 => 304 | 0 => 0 | 53 => 301 | 37 => 33 | 5 => 5 | 173 => 307 | 212 => 328 | 51 => 314 | 20 => 20 | 213 => 329 | 46 => 294 | 232 => 340 | 233 => 341 | n => n, fun | 17 => 5 | 18 => 6 | 19 => 7 | n => n⟩
theorem Tryz.laysm171 : Go.Proofs.LaysM.n171 Tryz.prog Tryz.laysm171_ren := {
 mixed := by kernel_rfl
 f129 := Tryz.func294.trans (congrArg some (by kernel_rfl))
 f171 := Tryz.func223.trans (congrArg some (by kernel_rfl))
 f243 := Tryz.func246.trans (congrArg some (by kernel_rfl))
 f246 := Tryz.func264.trans (congrArg some (by kernel_rfl))
 f283 := Tryz.func279.trans (congrArg some (by kernel_rfl))
 f284 := Tryz.func280.trans (congrArg some (by kernel_rfl))
 f285 := Tryz.func281.trans (congrArg some (by kernel_rfl))
 f286 := Tryz.func282.trans (congrArg some (by kernel_rfl))
 f317 := Tryz.func293.trans (congrArg some (by kernel_rfl))
 f318 := Tryz.func295.trans (congrArg some (by kernel_rfl))
 f319 := Tryz.func296.trans (congrArg some (by kernel_rfl))
 f320 := Tryz.func297.trans (congrArg some (by kernel_rfl))
 f337 := Tryz.func300.trans (congrArg some (by kernel_rfl))
 f338 := Tryz.func301.trans (congrArg some (by kernel_rfl))
 t0 := Tryz.underlying0
 a0 := Tryz.isAgg0
 z0 := Tryz.sizeOf0
 v0 := Tryz.zeroValue0
 t2 := Tryz.underlying2
 a2 := Tryz.isAgg2
 z2 := Tryz.sizeOf2
 v2 := Tryz.zeroValue2
 t3 := Tryz.underlying3
 a3 := Tryz.isAgg3
 z3 := Tryz.sizeOf3
 v3 := Tryz.zeroValue3
 t4 := Tryz.underlying4
 a4 := Tryz.isAgg4
 z4 := Tryz.sizeOf4
 v4 := Tryz.zeroValue4
 t5 := Tryz.underlying5
 a5 := Tryz.isAgg5
 z5 := Tryz.sizeOf5
 v5 := Tryz.zeroValue5
 t9 := Tryz.underlying9
 a9 := Tryz.isAgg9
 z9 := Tryz.sizeOf9
 v9 := Tryz.zeroValue9
 t20 := Tryz.underlying20
 a20 := Tryz.isAgg20
 z20 := Tryz.sizeOf20
 v20 := Tryz.zeroValue20
 t37 := Tryz.underlying33
 a37 := Tryz.isAgg33
 z37 := Tryz.sizeOf33
 v37 := Tryz.zeroValue33
 t46 := Tryz.underlying294
 a46 := Tryz.isAgg294
 z46 := Tryz.sizeOf294
 v46 := Tryz.zeroValue294
 t51 := Tryz.underlying314
 a51 := Tryz.isAgg314
 z51 := Tryz.sizeOf314
 v51 := Tryz.zeroValue314
 t53 := Tryz.underlying301
 a53 := Tryz.isAgg301
 z53 := Tryz.sizeOf301
 v53 := Tryz.zeroValue301
 t171 := Tryz.underlying304
 a171 := Tryz.isAgg304
 z171 := Tryz.sizeOf304
 v171 := Tryz.zeroValue304
 t173 := Tryz.underlying307
 a173 := Tryz.isAgg307
 z173 := Tryz.sizeOf307
 v173 := Tryz.zeroValue307
 t212 := Tryz.underlying328
 a212 := Tryz.isAgg328
 z212 := Tryz.sizeOf328
 v212 := Tryz.zeroValue328
 t213 := Tryz.underlying329
 a213 := Tryz.isAgg329
 z213 := Tryz.sizeOf329
 t232 := Tryz.underlying340
 a232 := Tryz.isAgg340
 z232 := Tryz.sizeOf340
 v232 := Tryz.zeroValue340
 t233 := Tryz.underlying341
 a233 := Tryz.isAgg341
 z233 := Tryz.sizeOf341
 v233 := Tryz.zeroValue341
 g17 := by kernel_rfl
 g18 := by kernel_rfl
 g19 := by kernel_rfl
 i0 := by kernel_rfl
 i2 := by kernel_rfl
 i3 := by kernel_rfl
 i4 := by kernel_rfl
 i5 := by kernel_rfl
 i9 := by kernel_rfl
 i20 := by kernel_rfl
 i37 := by kernel_rfl
 i46 := by kernel_rfl
 i51 := by kernel_rfl
 i53 := by kernel_rfl
 i171 := by kernel_rfl
 i173 := by kernel_rfl
 i212 := by kernel_rfl
 i232 := by kernel_rfl
 i233 := by kernel_rfl
 m17 := by kernel_rfl
 m18 := by kernel_rfl
 m19 := by kernel_rfl }
def Tryz.laysc172_ren : Go.Shelf.Ren := ⟨fun | 172 => 226 | 244 => 248 | 245 => 249 | 247 => 263 | 279 => 270 | 280 => 271 | 281 => 272 | 282 => 273 | 287 => 278 | 316 => 288 | 171 => 223 | 205 => 289 | 321 => 291 | 322 => 292 | 243 => 246 | 246 => 264 | 283 => 279 | 284 => 280 | 285 => 281 | 286 => 282 | 129 => 294 | 317 => 293 | 318 => 295 | 319 => 296 | 320 => 297 | 337 => 300 | 338 => 301 | n => n, fun | 9 => 9 | 3 => 3 | 75 => 263 | 76 => 264 | 4 => 4 | 5 => 5 | 167 => 295 | 37 => 33 | 0 => 0 | 85 => 272 | 2 => 2 | 168 => 296 | 53 => 301 | 175 => 302 | 46 => 294 | 210 => 319 | 127 => 333 | 145 => 336 | 143 => 334 | 21 => 21 | 171 => 304 | 173 => 307 | 212 => 328 | 51 => 314 | 20 => 20 | 213 => 329 | 232 => 340 | 233 => 341 | 80 => 313 | n => n, fun | 15 => 1 | 16 => 2 | 17 => 5 | 18 => 6 | 19 => 7 | n => n⟩
theorem Tryz.laysc172 : Go.Proofs.LaysC.n172 Tryz.prog Tryz.laysc172_ren := {
 mixed := by kernel_rfl
 f129 := Tryz.func294.trans (congrArg some (by kernel_rfl))
 f171 := Tryz.func223.trans (congrArg some (by kernel_rfl))
 f172 := Tryz.func226.trans (congrArg some (by kernel_rfl))
 f205 := Tryz.func289.trans (congrArg some (by kernel_rfl))
 f243 := Tryz.func246.trans (congrArg some (by kernel_rfl))
 f244 := Tryz.func248.trans (congrArg some (by kernel_rfl))
 f245 := Tryz.func249.trans (congrArg some (by kernel_rfl))
 f246 := Tryz.func264.trans (congrArg some (by kernel_rfl))
 f247 := Tryz.func263.trans (congrArg some (by kernel_rfl))
 f279 := Tryz.func270.trans (congrArg some (by kernel_rfl))
 f280 := Tryz.func271.trans (congrArg some (by kernel_rfl))
 f281 := Tryz.func272.trans (congrArg some (by kernel_rfl))
 f282 := Tryz.func273.trans (congrArg some (by kernel_rfl))
 f283 := Tryz.func279.trans (congrArg some (by kernel_rfl))
 f284 := Tryz.func280.trans (congrArg some (by kernel_rfl))
 f285 := Tryz.func281.trans (congrArg some (by kernel_rfl))
 f286 := Tryz.func282.trans (congrArg some (by kernel_rfl))
 f287 := Tryz.func278.trans (congrArg some (by kernel_rfl))
 f316 := Tryz.func288.trans (congrArg some (by kernel_rfl))
 f317 := Tryz.func293.trans (congrArg some (by kernel_rfl))
 f318 := Tryz.func295.trans (congrArg some (by kernel_rfl))
 f319 := Tryz.func296.trans (congrArg some (by kernel_rfl))
 f320 := Tryz.func297.trans (congrArg some (by kernel_rfl))
 f321 := Tryz.func291.trans (congrArg some (by kernel_rfl))
 f322 := Tryz.func292.trans (congrArg some (by kernel_rfl))
 f337 := Tryz.func300.trans (congrArg some (by kernel_rfl))
 f338 := Tryz.func301.trans (congrArg some (by kernel_rfl))
 t0 := Tryz.underlying0
 a0 := Tryz.isAgg0
 z0 := Tryz.sizeOf0
 v0 := Tryz.zeroValue0
 t2 := Tryz.underlying2
 a2 := Tryz.isAgg2
 z2 := Tryz.sizeOf2
 v2 := Tryz.zeroValue2
 t3 := Tryz.underlying3
 a3 := Tryz.isAgg3
 z3 := Tryz.sizeOf3
 v3 := Tryz.zeroValue3
 t4 := Tryz.underlying4
 a4 := Tryz.isAgg4
 z4 := Tryz.sizeOf4
 v4 := Tryz.zeroValue4
 t5 := Tryz.underlying5
 a5 := Tryz.isAgg5
 z5 := Tryz.sizeOf5
 v5 := Tryz.zeroValue5
 t9 := Tryz.underlying9
 a9 := Tryz.isAgg9
 z9 := Tryz.sizeOf9
 v9 := Tryz.zeroValue9
 t20 := Tryz.underlying20
 a20 := Tryz.isAgg20
 z20 := Tryz.sizeOf20
 v20 := Tryz.zeroValue20
 t21 := Tryz.underlying21
 a21 := Tryz.isAgg21
 z21 := Tryz.sizeOf21
 v21 := Tryz.zeroValue21
 t37 := Tryz.underlying33
 a37 := Tryz.isAgg33
 z37 := Tryz.sizeOf33
 v37 := Tryz.zeroValue33
 t46 := Tryz.underlying294
 a46 := Tryz.isAgg294
 z46 := Tryz.sizeOf294
 v46 := Tryz.zeroValue294
 t51 := Tryz.underlying314
 a51 := Tryz.isAgg314
 z51 := Tryz.sizeOf314
 v51 := Tryz.zeroValue314
 t53 := Tryz.underlying301
 a53 := Tryz.isAgg301
 z53 := Tryz.sizeOf301
 v53 := Tryz.zeroValue301
 t75 := Tryz.underlying263
 a75 := Tryz.isAgg263
 z75 := Tryz.sizeOf263
 v75 := Tryz.zeroValue263
 t76 := Tryz.underlying264
 a76 := Tryz.isAgg264
 z76 := Tryz.sizeOf264
 v76 := Tryz.zeroValue264
 t85 := Tryz.underlying272
 a85 := Tryz.isAgg272
 z85 := Tryz.sizeOf272
 v85 := Tryz.zeroValue272
 t127 := Tryz.underlying333
 a127 := Tryz.isAgg333
 z127 := Tryz.sizeOf333
 v127 := Tryz.zeroValue333
 t143 := Tryz.underlying334
 a143 := Tryz.isAgg334
 z143 := Tryz.sizeOf334
 v143 := Tryz.zeroValue334
 t145 := Tryz.underlying336
 a145 := Tryz.isAgg336
 z145 := Tryz.sizeOf336
 v145 := Tryz.zeroValue336
 t167 := Tryz.underlying295
 a167 := Tryz.isAgg295
 z167 := Tryz.sizeOf295
 v167 := Tryz.zeroValue295
 t168 := Tryz.underlying296
 a168 := Tryz.isAgg296
 z168 := Tryz.sizeOf296
 v168 := Tryz.zeroValue296
 t171 := Tryz.underlying304
 a171 := Tryz.isAgg304
 z171 := Tryz.sizeOf304
 v171 := Tryz.zeroValue304
 t173 := Tryz.underlying307
 a173 := Tryz.isAgg307
 z173 := Tryz.sizeOf307
 v173 := Tryz.zeroValue307
 t175 := Tryz.underlying302
 a175 := Tryz.isAgg302
 z175 := Tryz.sizeOf302
 v175 := Tryz.zeroValue302
 t210 := Tryz.underlying319
 a210 := Tryz.isAgg319
 z210 := Tryz.sizeOf319
 v210 := Tryz.zeroValue319
 t212 := Tryz.underlying328
 a212 := Tryz.isAgg328
 z212 := Tryz.sizeOf328
 v212 := Tryz.zeroValue328
 t213 := Tryz.underlying329
 a213 := Tryz.isAgg329
 z213 := Tryz.sizeOf329
 t232 := Tryz.underlying340
 a232 := Tryz.isAgg340
 z232 := Tryz.sizeOf340
 v232 := Tryz.zeroValue340
 t233 := Tryz.underlying341
 a233 := Tryz.isAgg341
 z233 := Tryz.sizeOf341
 v233 := Tryz.zeroValue341
 g15 := by kernel_rfl
 g16 := by kernel_rfl
 g17 := by kernel_rfl
 g18 := by kernel_rfl
 g19 := by kernel_rfl
 t80 := Tryz.underlying313
 a80 := Tryz.isAgg313
 z80 := Tryz.sizeOf313
 v80 := Tryz.zeroValue313
 i0 := by kernel_rfl
 i2 := by kernel_rfl
 i3 := by kernel_rfl
 i4 := by kernel_rfl
 i5 := by kernel_rfl
 i9 := by kernel_rfl
 i20 := by kernel_rfl
 i21 := by kernel_rfl
 i37 := by kernel_rfl
 i46 := by kernel_rfl
 i51 := by kernel_rfl
 i53 := by kernel_rfl
 i75 := by kernel_rfl
 i76 := by kernel_rfl
 i80 := by kernel_rfl
 i85 := by kernel_rfl
 i127 := by kernel_rfl
 i143 := by kernel_rfl
 i145 := by kernel_rfl
 i167 := by kernel_rfl
 i168 := by kernel_rfl
 i171 := by kernel_rfl
 i173 := by kernel_rfl
 i175 := by kernel_rfl
 i210 := by kernel_rfl
 i212 := by kernel_rfl
 i232 := by kernel_rfl
 i233 := by kernel_rfl
 m15 := by kernel_rfl
 m16 := by kernel_rfl
 m17 := by kernel_rfl
 m18 := by kernel_rfl
 m19 := by kernel_rfl
 c0 := by kernel_rfl
 c2 := by kernel_rfl
 c3 := by kernel_rfl
 c4 := by kernel_rfl
 c5 := by kernel_rfl
 c9 := by kernel_rfl
 c20 := by kernel_rfl
 c21 := by kernel_rfl
 c37 := by kernel_rfl
 c46 := by kernel_rfl
 c51 := by kernel_rfl
 c53 := by kernel_rfl
 c75 := by kernel_rfl
 c76 := by kernel_rfl
 c80 := by kernel_rfl
 c85 := by kernel_rfl
 c127 := by kernel_rfl
 c143 := by kernel_rfl
 c145 := by kernel_rfl
 c167 := by kernel_rfl
 c168 := by kernel_rfl
 c171 := by kernel_rfl
 c173 := by kernel_rfl
 c175 := by kernel_rfl
 c210 := by kernel_rfl
 c212 := by kernel_rfl
 c213 := by kernel_rfl
 c232 := by kernel_rfl
 c233 := by kernel_rfl }
end Go.Proofs
namespace Go.Vg
open Go

def cuts (c : UInt8) : List UInt8->List (List UInt8)
 | [] => [[]]
 | b :: r => if b = c then [] :: cuts c r else (b :: (cuts c r).headD []) :: (cuts c r).tail
theorem cuts_ne (c : UInt8) : ∀ s, cuts c s ≠ []
 | [] => by simp [cuts]
 | b :: r => by unfold cuts; split <;> simp
def joinB (c : UInt8) : List (List UInt8)->List UInt8
 | [] => []
 | w :: ws => w ++ ws.flatMap fun x => c :: x
theorem joinB_cons {c : UInt8} {w : List UInt8} {ws : List (List UInt8)} (h : ws ≠ []) : joinB c (w :: ws) = w ++ c :: joinB c ws := by
 cases ws with
 | nil => exact absurd rfl h
 | cons x r => simp [joinB]
theorem joinB_cuts (c : UInt8) : ∀ s, joinB c (cuts c s) = s
 | [] => rfl
 | b :: r => by
  have ih := joinB_cuts c r
  unfold cuts
  cases hc : cuts c r with
  | nil => exact absurd hc (cuts_ne c r)
  | cons w ws =>
   rw [hc] at ih
   split
   ·rename_i e; subst e
    rw [joinB_cons (by simp), ih]; rfl
   ·rw [← ih]; simp [joinB]
theorem cuts_word {c : UInt8} : ∀ {w : List UInt8}, c ∉ w->cuts c w = [w]
 | [], _ => rfl
 | b :: r, h => by
  have h1 : b ≠ c := fun e => h (by simp [e])
  have h2 : c ∉ r := fun e => h (by simp [e])
  unfold cuts
  rw [if_neg h1, cuts_word h2]; rfl
theorem cuts_more {c : UInt8} : ∀ {w t : List UInt8}, c ∉ w->cuts c (w ++ c :: t) = w :: cuts c t
 | [], t, _ => by show cuts c (c :: t) = _; rw [cuts, if_pos rfl]
 | b :: r, t, h => by
  have h1 : b ≠ c := fun e => h (by simp [e])
  have h2 : c ∉ r := fun e => h (by simp [e])
  show cuts c (b :: (r ++ c :: t)) = _
  conv => lhs; unfold cuts
  rw [if_neg h1, cuts_more h2]; rfl
theorem cuts_joinB {c : UInt8} : ∀ {ws : List (List UInt8)}, ws ≠ []->(∀ w ∈ ws, c ∉ w)->cuts c (joinB c ws) = ws
 | [w], _, h => by rw [show joinB c [w] = w from by simp [joinB]]; exact cuts_word (h w (by simp))
 | w :: x :: r, _, h => by
  rw [joinB_cons (by simp), cuts_more (h w (by simp)), cuts_joinB (by simp) fun y hy => h y (by simp [List.mem_cons.1 hy])]
theorem index_byte (c : UInt8) : ∀ s : List UInt8, (c ∉ s/\ Lib.index s [c] = -1) ∨ ∃ w t, s = w ++ c :: t/\ c ∉ w/\ Lib.index s [c] = (w.length : Int)
 | [] => .inl ⟨by simp, by simp [Lib.index]⟩
 | b :: r => by
  by_cases hb : c = b
  ·subst hb
   exact .inr ⟨[], r, rfl, by simp, by simp [Lib.index]⟩
  ·have hp : ([c].isPrefixOf (b :: r)) = false := by
    show ((c == b) && List.isPrefixOf [] r) = false
    simp [hb]
   rcases index_byte c r with ⟨h1, h2⟩ | ⟨w, t, h1, h2, h3⟩
   ·exact .inl ⟨by simp [hb, h1], by simp [Lib.index, hp, h2, hb]⟩
   ·refine .inr ⟨b :: w, t, by rw [h1]; rfl, by simp [hb, h2], ?_⟩
    have : ¬ ((w.length : Int) = -1) := by omega
    simp [Lib.index, hp, h3, this, hb]
theorem count_word {c : UInt8} {s : List UInt8} (h : c ∉ s) : s.count c = 0 := List.count_eq_zero.2 h
theorem splitK_cuts (c : UInt8) : ∀ (k : Nat) (s : List UInt8), s.count c = k->Lib.splitK [c] 0 k s = cuts c s
 | 0, s, h => by
  have : c ∉ s := List.count_eq_zero.1 h
  rw [Lib.splitK, cuts_word this]
 | k + 1, s, h => by
  rcases index_byte c s with ⟨h1, h2⟩ | ⟨w, t, rfl, h2, h3⟩
  ·rw [count_word h1] at h; cases h
  ·rw [Lib.splitK, h3, if_neg (by simp), cuts_more h2]
   have e1 : ((w.length : Int)).toNat = w.length := by omega
   rw [e1, List.length_singleton]
   have e2 : (w ++ c :: t).take (w.length + 0) = w := by simp
   have e3 : (w ++ c :: t).drop (w.length + 1) = t := by
    rw [List.drop_append, List.drop_eq_nil_of_le (by omega)]
    simp
   rw [e2, e3, splitK_cuts c k t (by
    rw [List.count_append, count_word h2, List.count_cons_self] at h
    omega)]
theorem cut_hit {c : UInt8} {w t : List UInt8} (h : c ∉ w) : Lib.cut (w ++ c :: t) [c] = (w, t, true) := by
 rcases index_byte c (w ++ c :: t) with ⟨h1, _⟩ | ⟨w', t', e, h2, h3⟩
 ·exact absurd (by simp) h1
 ·have := cuts_more (t := t) h
  rw [e, cuts_more h2] at this
  injection this with e1 e2
  subst e1
  have e4 : t' = t := by simpa using e.symm
  subst e4
  have e1 : ((w'.length : Int)).toNat = w'.length := by omega
  rw [Lib.cut, h3, if_pos (by omega), e1]
  simp [List.drop_append]
theorem cut_miss {c : UInt8} {s : List UInt8} (h : c ∉ s) : Lib.cut s [c] = (s, [], false) := by
 rcases index_byte c s with ⟨_, h2⟩ | ⟨w, t, e, _, _⟩
 ·rw [Lib.cut, h2, if_neg (by decide)]
 ·exact absurd (by rw [e]; simp) h
theorem cut_cases (c : UInt8) (s : List UInt8) : (c ∉ s/\ Lib.cut s [c] = (s, [], false)) ∨ ∃ w t, s = w ++ c :: t/\ c ∉ w/\ Lib.cut s [c] = (w, t, true) := by
 rcases index_byte c s with ⟨h1, _⟩ | ⟨w, t, e, h2, _⟩
 ·exact .inl ⟨h1, cut_miss h1⟩
 ·exact .inr ⟨w, t, e, h2, by rw [e]; exact cut_hit h2⟩

theorem parse_snoc : ∀ (l : List UInt8) (acc : Nat) (d : UInt8), Lib.parseUint10 acc (l ++ [d]) = match Lib.parseUint10 acc l with | .ok a => Lib.parseUint10 a [d] | e => e
 | [], acc, d => by simp [Lib.parseUint10]
 | c :: r, acc, d => by
  rw [List.cons_append, Lib.parseUint10, Lib.parseUint10]
  split
  ·split
   ·rfl
   ·split
    ·rfl
    ·exact parse_snoc r _ d
  ·rfl
theorem digit_nat {k : Nat} (h : k < 10) : (UInt8.ofNat (48 + k)).toNat = 48 + k := by
 rw [UInt8.toNat_ofNat']
 omega
theorem parse_digits : ∀ (u : Nat), u < 18446744073709551616->Lib.parseUint10 0 (Lib.decDigits u) = .ok u := by
 intro u
 induction u using Nat.strongRecOn with
 | _ u ih =>
  intro hu
  unfold Lib.decDigits
  split
  ·rename_i h
   rw [Lib.parseUint10, digit_nat h, if_pos (by omega), if_neg (by omega), if_neg (by omega), Lib.parseUint10]
   congr 1; omega
  ·rename_i h
   rw [parse_snoc, ih (u / 10) (by omega) (by omega)]
   dsimp only
   rw [Lib.parseUint10, digit_nat (Nat.mod_lt _ (by omega)), if_pos (by omega), if_neg (by omega), if_neg (by omega), Lib.parseUint10]
   congr 1; omega
theorem decDigits_bytes : ∀ (u : Nat), ∀ b ∈ Lib.decDigits u, 48 <= b.toNat/\ b.toNat <= 57 := by
 intro u
 induction u using Nat.strongRecOn with
 | _ u ih =>
  intro b hb
  unfold Lib.decDigits at hb
  split at hb
  ·rename_i h
   simp only [List.mem_singleton] at hb
   subst hb
   rw [digit_nat h]; omega
  ·rename_i h
   rcases List.mem_append.1 hb with hb | hb
   ·exact ih _ (by omega) b hb
   ·simp only [List.mem_singleton] at hb
    subst hb
    rw [digit_nat (Nat.mod_lt _ (by omega))]; omega
theorem decDigits_ne (u : Nat) : Lib.decDigits u ≠ [] := by
 unfold Lib.decDigits; split <;> simp
theorem itoa_bytes (n : Int) : ∀ b ∈ Lib.itoa n, b.toNat = 45 ∨ 48 <= b.toNat/\ b.toNat <= 57 := by
 intro b hb
 unfold Lib.itoa at hb
 split at hb
 ·rcases List.mem_cons.1 hb with rfl | hb
  ·exact .inl rfl
  ·exact .inr (decDigits_bytes _ b hb)
 ·exact .inr (decDigits_bytes _ b hb)
theorem itoa_not {c : UInt8} (n : Int) (h1 : c.toNat ≠ 45) (h2 : c.toNat < 48 ∨ 57 < c.toNat) : c ∉ Lib.itoa n := fun h => by
 rcases itoa_bytes n c h with h | h
 ·exact h1 h
 ·omega
theorem atoi_itoa {n : Int} (h0 : -9223372036854775808 <= n) (h1 : n <= 9223372036854775807) : Lib.atoiAll (Lib.itoa n) = .ok n := by
 unfold Lib.itoa
 split
 ·rename_i h
  rw [Lib.atoiAll_minus, Lib.parseMag, if_neg (decDigits_ne _), parse_digits _ (by omega), Lib.signed]
  rw [if_neg (by omega)]
  congr 1; omega
 ·rename_i h
  have hb := decDigits_bytes n.toNat
  have hp : Lib.parseMag (Lib.decDigits n.toNat) = .ok n.toNat := by rw [Lib.parseMag, if_neg (decDigits_ne _), parse_digits _ (by omega)]
  cases hd : Lib.decDigits n.toNat with
  | nil => exact absurd hd (decDigits_ne _)
  | cons c r =>
   rw [hd] at hb hp
   have := hb c (by simp)
   rw [Lib.atoiAll_plain c r (by omega) (by omega), hp, Lib.signless, if_neg (by omega)]
   congr 1; omega
def num (s : List UInt8) : Option Int :=
 match Lib.atoiAll s with
 | .ok v => if Lib.itoa v = s then some v else none
 | _ => none
theorem num_itoa {n : Int} (h0 : -9223372036854775808 <= n) (h1 : n <= 9223372036854775807) : num (Lib.itoa n) = some n := by
 rw [num, atoi_itoa h0 h1]; simp
theorem num_some {s : List UInt8} {n : Int} (h : num s = some n) : Lib.itoa n = s/\ -9223372036854775808 <= n/\ n <= 9223372036854775807 := by
 unfold num at h
 split at h
 ·rename_i v hv
  split at h
  ·rename_i e
   obtain rfl := Option.some.inj h
   exact ⟨e, Lib.atoiAll_bounds hv⟩
  ·cases h
 ·cases h
theorem itoa_short {n : Int} (h0 : 0 <= n) (h1 : n <= 99) : (Lib.itoa n).length <= 2 := by
 unfold Lib.itoa
 rw [if_neg (by omega), Lib.decDigits_length]
 by_cases h : n.toNat < 10
 ·rw [Lib.nDigits_small h]; omega
 ·rw [Lib.nDigits_big h, Lib.nDigits_small (by omega)]; omega
theorem itoa_short3 {n : Int} (h0 : 0 <= n) (h1 : n <= 999) : (Lib.itoa n).length <= 3 := by
 unfold Lib.itoa
 rw [if_neg (by omega), Lib.decDigits_length]
 by_cases h : n.toNat < 10
 ·rw [Lib.nDigits_small h]; omega
 ·rw [Lib.nDigits_big h]
  by_cases h2 : n.toNat / 10 < 10
  ·rw [Lib.nDigits_small h2]; omega
  ·rw [Lib.nDigits_big h2, Lib.nDigits_small (by omega)]; omega
open Go Go.Proofs Go.RowKit Go.Shelf
structure Lb (H : Heap) : Prop where
 max : ∃ m : Int, H.cell 0 0 = some (.int .i64 m)
 syn : ∃ (t : TypeId) (p : Value), H.cell 1 0 = some (.iface t p)
 rng : ∃ (t : TypeId) (p : Value), H.cell 2 0 = some (.iface t p)
 tab : ∃ k, H 5 = some k/\ k.size = Lib.pow10Tab.length/\ ∀ (j : Nat) (z : Int), Lib.pow10Tab[j]? = some z->k.cells j = some (.int .u64 z)
theorem Lb.ext {H H' : Heap} (h : Lb H) (e : Ext H H') : Lb H' := by
 obtain ⟨⟨m, h1⟩, ⟨t, p, h2⟩, ⟨t', p', h3⟩, ⟨k, h4, h5⟩⟩ := h
 exact ⟨⟨m, Heap.cell_next e h1⟩, ⟨t, p, Heap.cell_next e h2⟩, ⟨t', p', Heap.cell_next e h3⟩, ⟨k, e _ _ h4, h5⟩⟩
theorem tabIs_of {P : Program} {H : Heap} {w : World} (hs : Sees H w) {name : String} {g : Nat} {zs : List Int} (hn : P.globalNamed name = some g) (h : ∃ k, H g = some k/\ k.size = zs.length/\ ∀ (j : Nat) (z : Int), zs[j]? = some z->k.cells j = some (.int .u64 z)) : Lib.TabIs P w name .u64 zs := by
 obtain ⟨k, hk, hsz, hc⟩ := h
 obtain ⟨cur, fr, hw, h1, _, h2⟩ := hs g k hk
 unfold Lib.TabIs World.var?
 rw [hn]
 simp only [Option.bind_some, hw, Option.some.injEq]
 apply Array.ext
 ·simp [h1, hsz]
 ·intro i h3 h4
  have hi : i < zs.length := by simpa using h4
  have := h2 i _ (hc i _ (List.getElem?_eq_getElem hi))
  have h5 : cur[i]? = some cur[i] := Array.getElem?_eq_getElem h3
  rw [h5] at this
  rw [Option.some.inj this]
  simp
section
variable {H : Heap} (hL : Lb H)
include hL
theorem l_itoa {n : Int} (h0 : -9223372036854775808 <= n) (h1 : n <= 9223372036854775807) : SpecV Tryz.prog 223 [.int .i64 n] H fun v => v = str (Lib.itoa n) := fun w hw =>
 (Any.strconv_Itoa Tryz.laysm171 n h0 h1 w (tabIs_of hw (by kernel_rfl) hL.tab)).mono fun e w' ⟨he, k, os, hw'⟩ => ⟨_, he, rfl, by rw [hw']; exact Lib.below_grow _ w (Nat.le_refl _) k os⟩
def NumV (x : Lib.NumEnd Int) (v : Value) : Prop := ∃ (n : Int) (e : Value), v = .tuple #[.int .i64 n, e]/\ ((x = .ok n/\ e = .nilIface) ∨ ((∀ m, x ≠ .ok m)/\ ∃ t p, e = .iface t p))
theorem l_atoi {s : ByteArray} (hs : s.size <= 281474976710656) : SpecV Tryz.prog 226 [.string s] H (NumV (Lib.atoiAll s.data.toList)) := fun w hw => by
 cases h : Lib.atoiAll s.data.toList
 ·rename_i v
  refine (Any.strconv_Atoi_ok Tryz.laysc172 s (by omega) v h w).mono fun e w' ⟨he, hw'⟩ => ⟨_, he, ⟨_, _, rfl, .inl ⟨rfl, rfl⟩⟩, ?_⟩
  rcases hw' with rfl | ⟨t, rfl⟩
  ·exact Below.refl _ _
  ·exact Lib.bytesWorld_below _ _ _
 ·obtain ⟨t, p, hc⟩ := hL.syn
  exact (Any.strconv_Atoi_syntax Tryz.laysc172 s hs h (.iface t p) w (hw.cell hc) (.inr ⟨t, p, rfl⟩)).mono fun e w' ⟨N, he, _, _, hB⟩ => ⟨_, he, ⟨_, _, rfl, .inr ⟨(by simp), _, _, rfl⟩⟩, hB⟩
 ·obtain ⟨t, p, hc⟩ := hL.rng
  exact (Any.strconv_Atoi_range Tryz.laysc172 s hs h (.iface t p) w (hw.cell hc) (.inr ⟨t, p, rfl⟩)).mono fun e w' ⟨N, he, _, _, hB⟩ => ⟨_, he, ⟨_, _, rfl, .inr ⟨(by simp), _, _, rfl⟩⟩, hB⟩
theorem l_cut {s sep : ByteArray} (hs : s.size < 4294967281) : SpecV Tryz.prog 195 [.string s, .string sep] H fun v =>
  v = .tuple #[str (Lib.cut s.data.toList sep.data.toList).1, str (Lib.cut s.data.toList sep.data.toList).2.1, .bool (Lib.cut s.data.toList sep.data.toList).2.2] := fun w hw => by
 obtain ⟨m, hm⟩ := hL.max
 exact (Any.strings_Cut Tryz.lays145 s sep m w hs (hw.cell hm)).mono fun e w' ⟨he, n, hw'⟩ => ⟨_, he, rfl, by rw [hw']; exact ⟨rfl, rfl, rfl, Nat.le_refl _, fun _ _ => rfl⟩⟩
omit hL in
omit hL in
theorem l_cutPrefix {s p : ByteArray} : SpecV Tryz.prog 227 [.string s, .string p] H fun v => v = .tuple #[str (Lib.trimPrefix s.data.toList p.data.toList), .bool (Lib.hasPrefix s.data.toList p.data.toList)] := fun w hw =>
 (Any.strings_CutPrefix Tryz.lays103 s p w).mono fun e w' ⟨he, hw'⟩ => ⟨_, he, rfl, by rw [hw']; exact Below.refl _ _⟩
theorem l_split {s : ByteArray} {c : UInt8} (hs : s.size < 4294967281) : Spec Tryz.prog 208 [.string s, .string ⟨#[c]⟩] H fun v H' =>
  ∃ (g n : Nat), v = .slice (some ⟨g, 0, none⟩) n n/\ Sl RStr 1 H' (some ⟨g, 0, none⟩) n (cuts c s.data.toList) := fun w hw hb => by
 obtain ⟨m, hm⟩ := hL.max
 have one : 1 <= (⟨#[c]⟩ : ByteArray).size := Nat.le_refl 1
 refine (Any.strings_Split Tryz.lays146 (by kernel_rfl) s ⟨#[c]⟩ m w hs (hw.cell hm) one).mono fun e w' ⟨he, hw'⟩ => ?_
 have hn : H w.heap.size = none := by
  cases hk : H w.heap.size with
  | none => rfl
  | some k => exact absurd (hw.lt hk) (by omega)
 have hcnt : Lib.countB s ⟨#[c]⟩ = s.data.toList.count c := by rw [← Lib.count_one]
 have hdata : (Lib.splitB ⟨#[c]⟩ 0 (Lib.countB s ⟨#[c]⟩) s).map (·.data.toList) = cuts c s.data.toList := by
  rw [Lib.splitB_data, hcnt]; exact splitK_cuts c _ _ rfl
 have hlen : (cuts c s.data.toList).length = Lib.countB s ⟨#[c]⟩ + 1 := by
  rw [← hdata, List.length_map]; exact Lib.splitB_all _ one 0 _ s rfl
 have hmap : (Lib.splitB ⟨#[c]⟩ 0 (Lib.countB s ⟨#[c]⟩) s).map Value.string = (cuts c s.data.toList).map str := by
  rw [← hdata, List.map_map]; rfl
 have hle := Lib.countB_le ⟨#[c]⟩ one s.size s (Nat.le_refl _)
 rw [hmap] at hw'
 have hwsz : w'.heap[w.heap.size]? = some (.cells ((cuts c s.data.toList).map str).toArray 9 (0, 0)) := by
  rw [hw']; show (w.heap.push _)[w.heap.size]? = _; simp; rfl
 have hB : BelowX [] w w' := by rw [hw']; exact BelowX.alloc [] w _
 refine ⟨_, [], fun b => if b = w.heap.size then some (boxKB 9 ((cuts c s.data.toList).map str)) else H b, he, rfl, hB, fun b k hk => ?_, ⟨fun _ hx => (by cases hx), fun _ hx => (by cases hx), by simp [setAll]⟩, ⟨fun b k hk => ?_, fun b k hk hn' => ?_⟩, w.heap.size, _, rfl, ?_⟩
 ·by_cases e1 : b = w.heap.size
  ·subst e1
   simp only [if_pos] at hk
   obtain rfl := Option.some.inj hk
   exact ⟨_, _, hwsz, by simp [boxKB], fun _ => rfl, fun j v hj => by simpa [boxKB] using hj⟩
  ·simp only [if_neg e1] at hk
   rw [hB.block b (hw.lt hk) (by simp)]
   exact hw b k hk
 ·have e1 : b ≠ w.heap.size := fun e1 => by rw [e1, hn] at hk; cases hk
  simp only [if_neg e1]; exact hk
 ·by_cases e1 : b = w.heap.size
  ·omega
  ·simp only [if_neg e1] at hk; rw [hk] at hn'; cases hn'
 ·refine ⟨hlen, by omega, fun _ => ⟨_, 0, rfl, fun i x hx => ⟨[str x], rfl, fun j v hj => ?_⟩⟩⟩
  cases j with
  | zero =>
   simp only [List.getElem?_cons_zero, Option.some.injEq] at hj
   subst hj
   unfold Heap.cell
   simp [boxKB, hx]
  | succ j => simp at hj
omit hL in
theorem l_join {a : O} {n c : Nat} {ws : List (List UInt8)} {b : UInt8} (h : Sl RStr 1 H a n ws) (hc : n <= c) (hn : n <= 1000000) (hl : (joinB b ws).length <= 140737488355328) :
  SpecV Tryz.prog 299 [.slice a n c, .string ⟨#[b]⟩] H fun v => v = str (joinB b ws) := fun w hw => by
 have hX : Builder.Extra Tryz.prog Tryz.lays156_ren := {
  sizeBuilder := by kernel_rfl
  liesBuilder := by kernel_rfl
  t5 := Tryz.underlying5
  a5 := Tryz.isAgg5
  z5 := Tryz.sizeOf5
  v5 := Tryz.zeroValue5
  infoByte := by kernel_rfl
  cellsByte := by kernel_rfl
  sizeByte := by kernel_rfl
  neB5 := by decide }
 have hjoin : ∀ ws : List (List UInt8), Lib.join ws [b] = joinB b ws := fun ws => by
  cases ws with
  | nil => rfl
  | cons x r =>
   rw [Lib.join_cons]
   unfold Lib.joinTail
   show x ++ (List.map (fun y => [b] ++ y) r).flatten = x ++ r.flatMap fun y => b :: y
   rw [List.flatMap_def]
   rfl
 have hlen := h.len
 match ws, hlen, h with
 | [], hlen, h =>
  obtain rfl : n = 0 := by simpa using hlen.symm
  exact (Any.strings_Join_none Tryz.lays156 hX a c ⟨#[b]⟩ w).mono fun e w' ⟨he, hw'⟩ => ⟨_, he, rfl, by rw [hw']; exact Below.refl _ _⟩
 | [x], hlen, h =>
  obtain rfl : n = 1 := by simpa using hlen.symm
  obtain ⟨bk, o, rfl, hcell⟩ := h.at_ (by omega)
  obtain ⟨r, hr, hv⟩ := hcell 0 x rfl
  obtain rfl := hr
  have := hw.cell (hv 0 _ rfl)
  refine (Any.strings_Join_one Tryz.lays156 hX bk o c ⟨x.toArray⟩ ⟨#[b]⟩ w (by simpa [str] using this)).mono fun e w' ⟨he, hw'⟩ => ⟨_, he, ?_, by rw [hw']; exact Below.refl _ _⟩
  simp [str, joinB]
 | x :: y :: r, hlen, h =>
  obtain ⟨bk, o, rfl, hcell⟩ := h.at_ (by simp at hlen; omega)
  have hbk : bk < w.heap.size := by
   obtain ⟨r, hr, hv⟩ := hcell 0 x rfl
   obtain rfl := hr
   have := hv 0 _ rfl
   unfold Heap.cell at this
   cases hk : H bk with
   | none => rw [hk] at this; cases this
   | some k => exact hw.lt hk
  have hm : ((x :: y :: r).map fun l => (⟨l.toArray⟩ : ByteArray)).map (·.data.toList) = x :: y :: r := by
   rw [List.map_map]; exact List.map_id'' (fun _ => rfl) _
  have := Any.strings_Join_many Tryz.lays156 hX bk o c ((x :: y :: r).map fun l => (⟨l.toArray⟩ : ByteArray)) ⟨#[b]⟩ w (fun j z hz => by
   rw [List.getElem?_map] at hz
   cases hj : (x :: y :: r)[j]? with
   | none => rw [hj] at hz; cases hz
   | some l =>
    rw [hj] at hz
    obtain rfl := Option.some.inj hz
    obtain ⟨q, hq, hv⟩ := hcell j l hj
    obtain rfl := hq
    have := hw.cell (hv 0 _ rfl)
    simpa [str] using this) hbk (by simp) (by rw [List.length_map, hlen]; omega) (by rw [List.length_map, hlen]; exact hc) (by rw [hm]; rw [show (⟨#[b]⟩ : ByteArray).data.toList = [b] from rfl, hjoin]; exact hl)
  rw [hm] at this
  rw [show (⟨#[b]⟩ : ByteArray).data.toList = [b] from rfl, hjoin] at this
  rw [List.length_map] at this
  rw [← hlen]
  exact this.mono fun e w' ⟨he, hB⟩ => ⟨_, he, rfl, hB⟩
end
open Go
structure Pin where
 name : Int
 ver : Int
 deriving DecidableEq
structure Rule where
 name : Int
 ver : Int
 wth : Int
 least : Int
 deriving DecidableEq
def badPin (p : Pin) : Prop := p.name < 1 ∨ 20 < p.name ∨ p.ver < 1 ∨ 99 < p.ver
instance (p : Pin) : Decidable (badPin p) := by unfold badPin; infer_instance
def lockFrom : Int->List Pin->Int
 | _, [] => 0
 | last, p :: r => if badPin p then 3 else if p.name <= last then 6 else lockFrom p.name r
def lockCheck (l : List Pin) : Int := if 12 < l.length then 2 else lockFrom 0 l
def find : List Pin->Int->Int
 | [], _ => 0
 | p :: r, n => if p.name = n then p.ver else find r n
structure Lk (l : List Pin) : Prop where
 good : ∀ p ∈ l, ¬ badPin p
 rise : l.Pairwise (fun p q => p.name < q.name)
theorem Lk.nil : Lk [] := ⟨by simp, List.Pairwise.nil⟩
theorem Lk.tail {p : Pin} {l : List Pin} (h : Lk (p :: l)) : Lk l := ⟨fun q hq => h.good q (List.mem_cons_of_mem _ hq), (List.pairwise_cons.1 h.rise).2⟩
theorem Lk.head {p : Pin} {l : List Pin} (h : Lk (p :: l)) : ∀ q ∈ l, p.name < q.name := (List.pairwise_cons.1 h.rise).1
theorem Lk.cons {p : Pin} {l : List Pin} (h : Lk l) (hp : ¬ badPin p) (hl : ∀ q ∈ l, p.name < q.name) : Lk (p :: l) :=
 ⟨fun q hq => by rcases List.mem_cons.1 hq with rfl | hq; exact hp; exact h.good q hq, List.pairwise_cons.2 ⟨hl, h.rise⟩⟩
theorem lockFrom_zero : ∀ (l : List Pin) (last : Int), lockFrom last l = 0 ↔ Lk l/\ ∀ p ∈ l, last < p.name
 | [], last => by simp [lockFrom, Lk.nil]
 | p :: r, last => by
  unfold lockFrom
  split
  ·rename_i h
   constructor
   ·intro h'; omega
   ·intro h'; exact absurd h (h'.1.good p List.mem_cons_self)
  ·split
   ·rename_i h1 h2
    constructor
    ·intro h'; omega
    ·intro h'; have := h'.2 p List.mem_cons_self; omega
   ·rename_i h1 h2
    rw [lockFrom_zero r p.name]
    constructor
    ·rintro ⟨h3, h4⟩
     refine ⟨h3.cons h1 h4, fun q hq => ?_⟩
     rcases List.mem_cons.1 hq with rfl | hq
     ·omega
     ·have := h4 q hq; omega
    ·rintro ⟨h3, h4⟩
     exact ⟨h3.tail, h3.head⟩
theorem Lk.name {l : List Pin} (h : Lk l) {p : Pin} (hp : p ∈ l) : 1 <= p.name/\ p.name <= 20/\ 1 <= p.ver/\ p.ver <= 99 := by
 have := h.good p hp
 unfold badPin at this
 omega
theorem lockCheck_zero {l : List Pin} : lockCheck l = 0 ↔ Lk l/\ l.length <= 12 := by
 unfold lockCheck
 split
 ·constructor
  ·intro h; omega
  ·rintro ⟨_, h⟩; omega
 ·rw [lockFrom_zero]
  constructor
  ·rintro ⟨h, _⟩; exact ⟨h, by omega⟩
  ·rintro ⟨h, _⟩; exact ⟨h, fun p hp => by have := h.name hp; omega⟩
theorem find_none {l : List Pin} {n : Int} (h : ∀ p ∈ l, p.name ≠ n) : find l n = 0 := by
 induction l with
 | nil => rfl
 | cons p r ih => rw [find, if_neg (h p List.mem_cons_self), ih fun q hq => h q (List.mem_cons_of_mem _ hq)]
theorem find_mem {l : List Pin} (h : Lk l) {p : Pin} (hp : p ∈ l) : find l p.name = p.ver := by
 induction l with
 | nil => cases hp
 | cons q r ih =>
  rcases List.mem_cons.1 hp with rfl | hp
  ·rw [find, if_pos rfl]
  ·have := h.head p hp
   rw [find, if_neg (by omega), ih h.tail hp]
theorem find_pos {l : List Pin} {n : Int} (h : find l n ≠ 0) : ∃ p ∈ l, p.name = n/\ p.ver = find l n := by
 induction l with
 | nil => exact absurd rfl h
 | cons q r ih =>
  rw [find] at h ⊢
  by_cases e : q.name = n
  ·rw [if_pos e]; exact ⟨q, List.mem_cons_self, e, rfl⟩
  ·rw [if_neg e] at h ⊢
   obtain ⟨p, h1, h2⟩ := ih h
   exact ⟨p, List.mem_cons_of_mem _ h1, h2⟩
theorem Lk.find_range {l : List Pin} (h : Lk l) (n : Int) : 0 <= find l n/\ find l n <= 99 := by
 by_cases e : find l n = 0
 ·omega
 ·obtain ⟨p, h1, h2, h3⟩ := find_pos e
  have := h.name h1
  omega
theorem Lk.ext : ∀ {l m : List Pin}, Lk l->Lk m->(∀ n, find l n = find m n)->l = m
 | [], [], _, _, _ => rfl
 | [], q :: m, _, hm, h => by
  have := h q.name
  rw [find_mem hm List.mem_cons_self] at this
  have h2 := hm.name (p := q) List.mem_cons_self
  simp [find] at this; omega
 | p :: l, [], hl, _, h => by
  have := h p.name
  rw [find_mem hl List.mem_cons_self] at this
  have h2 := hl.name (p := p) List.mem_cons_self
  simp [find] at this; omega
 | p :: l, q :: m, hl, hm, h => by
  have hp := hl.name (p := p) List.mem_cons_self
  have hq := hm.name (p := q) List.mem_cons_self
  have e1 := h p.name
  have e2 := h q.name
  rw [find_mem hl List.mem_cons_self] at e1
  rw [find_mem hm List.mem_cons_self] at e2
  have key : p.name = q.name := by
   rcases Int.lt_trichotomy p.name q.name with c | c | c
   ·rw [find_none (fun x hx => by
     rcases List.mem_cons.1 hx with rfl | hx
     ·omega
     ·have := hm.head x hx; omega)] at e1
    omega
   ·exact c
   ·rw [find_none (fun x hx => by
     rcases List.mem_cons.1 hx with rfl | hx
     ·omega
     ·have := hl.head x hx; omega)] at e2
    omega
  have hv : p.ver = q.ver := by rw [e1, key, find_mem hm List.mem_cons_self]
  have hpq : p = q := by cases p; cases q; simp_all
  subst hpq
  rw [Lk.ext hl.tail hm.tail fun n => ?_]
  by_cases e : p.name = n
  ·subst e
   rw [find_none fun x hx => by have := hl.head x hx; omega, find_none fun x hx => by have := hm.head x hx; omega]
  ·have := h n
   rw [find, if_neg e, find, if_neg e] at this
   exact this
def up (n v : Int) : List Pin->List Pin
 | [] => [⟨n, v⟩]
 | p :: r => if n <= p.name then (if p.name = n then ⟨n, v⟩ :: r else ⟨n, v⟩ :: p :: r) else p :: up n v r
theorem up_mem {n v : Int} {q : Pin} : ∀ {l : List Pin}, q ∈ up n v l->q = ⟨n, v⟩ ∨ q ∈ l
 | [], h => by simp [up] at h; exact .inl h
 | p :: r, h => by
  unfold up at h
  split at h
  ·split at h
   ·rcases List.mem_cons.1 h with h | h
    ·exact .inl h
    ·exact .inr (List.mem_cons_of_mem _ h)
   ·rcases List.mem_cons.1 h with h | h
    ·exact .inl h
    ·exact .inr h
  ·rcases List.mem_cons.1 h with rfl | h
   ·exact .inr List.mem_cons_self
   ·rcases up_mem h with h | h
    ·exact .inl h
    ·exact .inr (List.mem_cons_of_mem _ h)
theorem Lk.up {n v : Int} (hn : 1 <= n/\ n <= 20) (hv : 1 <= v/\ v <= 99) : ∀ {l : List Pin}, Lk l->Lk (up n v l)
 | [], _ => Lk.nil.cons (by unfold badPin; simp; omega) (by simp)
 | p :: r, h => by
  have hb : ¬ badPin ⟨n, v⟩ := by unfold badPin; simp; omega
  unfold Vg.up
  split
  ·split
   ·rename_i h1 h2
    exact h.tail.cons hb fun q hq => by have := h.head q hq; simp; omega
   ·rename_i h1 h2
    refine h.cons hb fun q hq => ?_
    rcases List.mem_cons.1 hq with rfl | hq
    ·simp; omega
    ·have := h.head q hq; simp; omega
  ·rename_i h1
   refine (h.tail.up hn hv).cons (h.good p List.mem_cons_self) fun q hq => ?_
   rcases up_mem hq with rfl | hq
   ·simp; omega
   ·exact h.head q hq
theorem find_up {n v : Int} (m : Int) : ∀ {l : List Pin}, Lk l->find (up n v l) m = if m = n then v else find l m
 | [], _ => by
  unfold up find find
  by_cases e : m = n
  ·subst e; simp
  ·rw [if_neg (by simp; omega), if_neg e]
 | p :: r, h => by
  unfold up
  split
  ·split
   ·rename_i h1 h2
    by_cases e : m = n
    ·subst e; simp [find]
    ·rw [if_neg e, find, if_neg (by simp; omega), find, if_neg (by omega)]
   ·rename_i h1 h2
    by_cases e : m = n
    ·subst e; simp [find]
    ·rw [if_neg e, find, if_neg (by simp; omega)]
  ·rename_i h1
   rw [find]
   by_cases e : p.name = m
   ·subst e; rw [if_pos rfl, if_neg (by omega), find, if_pos rfl]
   ·rw [if_neg e, find_up m h.tail, find, if_neg e]
def badRule (r : Rule) : Prop := r.name < 1 ∨ 20 < r.name ∨ r.wth < 1 ∨ 20 < r.wth ∨ r.ver < 1 ∨ 99 < r.ver ∨ r.least < 1 ∨ 99 < r.least
instance (r : Rule) : Decidable (badRule r) := by unfold badRule; infer_instance
def rulesFrom : List Rule->Int
 | [] => 0
 | r :: q => if badRule r then 3 else if r.name = r.wth then 4 else rulesFrom q
def rulesCheck (l : List Rule) : Int := if 10 < l.length then 2 else rulesFrom l
theorem rulesFrom_zero : ∀ {l : List Rule}, rulesFrom l = 0 ↔ ∀ r ∈ l, ¬ badRule r/\ r.name ≠ r.wth
 | [] => by simp [rulesFrom]
 | r :: q => by
  unfold rulesFrom
  split
  ·rename_i h
   constructor
   ·intro h'; omega
   ·intro h'; exact absurd h (h' r List.mem_cons_self).1
  ·split
   ·rename_i h1 h2
    constructor
    ·intro h'; omega
    ·intro h'; exact absurd h2 (h' r List.mem_cons_self).2
   ·rename_i h1 h2
    rw [rulesFrom_zero]
    simp [h1, h2]
theorem rulesCheck_zero {l : List Rule} : rulesCheck l = 0 ↔ l.length <= 10/\ ∀ r ∈ l, ¬ badRule r/\ r.name ≠ r.wth := by
 unfold rulesCheck
 split
 ·constructor
  ·intro h; omega
  ·rintro ⟨h, _⟩; omega
 ·rw [rulesFrom_zero]
  constructor
  ·intro h; exact ⟨by omega, h⟩
  ·intro h; exact h.2
def breaks (l : List Pin) (r : Rule) : Prop := r.ver <= find l r.name/\ find l r.wth < r.least
instance (l : List Pin) (r : Rule) : Decidable (breaks l r) := by unfold breaks; infer_instance
def brokenFrom (l : List Pin) : Int->List Rule->Int
 | _, [] => -1
 | i, r :: q => if breaks l r then i else brokenFrom l (i + 1) q
def brokenErr (l : List Pin) (rs : List Rule) : Int := if lockCheck l = 0 then rulesCheck rs else lockCheck l
def broken (l : List Pin) (rs : List Rule) : Int := if brokenErr l rs = 0 then brokenFrom l 0 rs else 0
def LeL (l m : List Pin) : Prop := ∀ n, find l n <= find m n
theorem LeL.len : ∀ {l m : List Pin}, Lk l->Lk m->LeL l m->l.length <= m.length
 | [], m, _, _, _ => by simp
 | p :: l, [], hl, _, h => by
  have := h p.name
  rw [find_mem hl List.mem_cons_self] at this
  have h2 := hl.name (p := p) List.mem_cons_self
  simp [find] at this; omega
 | p :: l, q :: m, hl, hm, h => by
  have hp := hl.name (p := p) List.mem_cons_self
  have hfp := h p.name
  rw [find_mem hl List.mem_cons_self] at hfp
  by_cases e : p.name = q.name
  ·have := LeL.len hl.tail hm.tail fun n => by
    have h1 := h n
    rw [find, find] at h1
    by_cases e2 : p.name = n
    ·rw [find_none (l := l) fun x hx => by have := hl.head x hx; omega]
     have := hm.tail.find_range n; omega
    ·rw [if_neg e2, if_neg (by omega)] at h1; exact h1
   simp; omega
  ·have := LeL.len hl hm.tail fun n => by
    have h1 := h n
    rw [show find (q :: m) n = if q.name = n then q.ver else find m n from rfl] at h1
    by_cases e2 : q.name = n
    ·have e3 : find (p :: l) n = 0 := by
      have hlt : q.name < p.name := by
       rcases Int.lt_trichotomy p.name q.name with c | c | c
       ·rw [find_none (l := q :: m) fun x hx => by
         rcases List.mem_cons.1 hx with rfl | hx
         ·omega
         ·have := hm.head x hx; omega] at hfp
        omega
       ·exact absurd c e
       ·exact c
      exact find_none fun x hx => by
       rcases List.mem_cons.1 hx with rfl | hx
       ·omega
       ·have := hl.head x hx; omega
     rw [e3]
     have := hm.tail.find_range n; omega
    ·rw [if_neg e2] at h1; exact h1
   simp at this ⊢; omega
def Rok (rs : List Rule) : Prop := ∀ r ∈ rs, ¬ badRule r/\ r.name ≠ r.wth
theorem brokenErr_zero {l : List Pin} {rs : List Rule} : brokenErr l rs = 0 ↔ (Lk l/\ l.length <= 12)/\ rs.length <= 10/\ Rok rs := by
 unfold brokenErr
 rw [← lockCheck_zero]
 split
 ·rename_i h; rw [rulesCheck_zero]; simp [h, Rok]
 ·rename_i h; simp [h]
open Go
open Go
def REnc {α : Type} (enc : α->List Value) : Rep α := fun _ r x => r = enc x
theorem REnc.mono {α : Type} {enc : α->List Value} : (REnc enc).Mono := fun _ _ _ _ _ h => h
theorem flat_rows {α : Type} (enc : α->List Value) : ∀ xs : List α, (xs.map enc).flatten = xs.flatMap enc
 | [] => rfl
 | x :: r => by simp [flat_rows enc r]
theorem flat_len {α : Type} {enc : α->List Value} {sz : Nat} (hs : ∀ x, (enc x).length = sz) : ∀ xs : List α, (xs.flatMap enc).length = xs.length * sz
 | [] => by simp
 | x :: r => by simp [hs, flat_len hs r, Nat.succ_mul]; omega
theorem sl_of_rowE {α : Type} {enc : α->List Value} {sz : Nat} (hs : ∀ x, (enc x).length = sz) (h0 : 0 < sz) {base : Nat} {H : Heap} {e : TypeId} {a : O} {n c : Nat} {xs : List α} (h : Row base H e sz a n c (xs.flatMap enc)) : Sl (REnc enc) sz H a n xs := by
 have h1 := h.1
 rw [flat_len hs] at h1
 have hn : xs.length = n := Nat.eq_of_mul_eq_mul_right h0 h1
 refine Sl.of_has (rows := xs.map enc) (has_of_row h (flat_rows enc xs) (by intro r hr; obtain ⟨x, _, rfl⟩ := List.mem_map.1 hr; exact hs x) (by simp [hn])) (by simp) ?_
 intro i r x hr hx
 rw [List.getElem?_map, hx] at hr
 simpa [REnc] using hr.symm
theorem row_len {α : Type} {enc : α->List Value} {sz : Nat} (hs : ∀ x, (enc x).length = sz) (h0 : 0 < sz) {base : Nat} {H : Heap} {e : TypeId} {a : O} {n c : Nat} {xs : List α} (h : Row base H e sz a n c (xs.flatMap enc)) : xs.length = n := (sl_of_rowE hs h0 h).len
theorem sl_of_boxE {α : Type} {enc : α->List Value} {sz : Nat} (hs : ∀ x, (enc x).length = sz) {H : Heap} {g : Nat} {ty : TypeId} {xs : List α} {n : Nat} (h : H g = some (boxKB ty (xs.flatMap enc))) (hn : xs.length = n) (hle : (n : Int) <= 9223372036854775807) : Sl (REnc enc) sz H (some ⟨g, 0, none⟩) n xs := by
 refine Sl.of_has (rows := xs.map enc) (Has.of_box h (flat_rows enc xs) (by intro r hr; obtain ⟨x, _, rfl⟩ := List.mem_map.1 hr; exact hs x) (by simp [hn]) hle) (by simp) ?_
 intro i r x hr hx
 rw [List.getElem?_map, hx] at hr
 simpa [REnc] using hr.symm
theorem cellsAt_of {H : Heap} {b o : Nat} : ∀ (cs : List Value) (i : Nat), (∀ (j : Nat) v, cs[j]? = some v->H.cell b (o + (i + j)) = some v)->cellsAt H b o i cs
 | [], _, _ => trivial
 | v :: r, i, h => ⟨by simpa using h 0 v rfl, cellsAt_of r (i + 1) fun j u hj => by
   have := h (j + 1) u (by simpa using hj)
   rw [show i + 1 + j = i + (j + 1) from by omega]; exact this⟩
theorem flat_at {α : Type} {enc : α->List Value} {sz : Nat} (hs : ∀ x, (enc x).length = sz) : ∀ (xs : List α) (j : Nat) (v : Value), (xs.flatMap enc)[j]? = some v->∃ (i k : Nat) (x : α), j = i * sz + k/\ xs[i]? = some x/\ (enc x)[k]? = some v
 | [], j, v, h => by simp at h
 | x :: r, j, v, h => by
  rw [List.flatMap_cons] at h
  by_cases hj : j < (enc x).length
  ·rw [List.getElem?_append_left hj] at h
   exact ⟨0, j, x, by simp, rfl, h⟩
  ·rw [List.getElem?_append_right (by omega)] at h
   obtain ⟨i, k, y, h1, h2, h3⟩ := flat_at hs r _ v h
   refine ⟨i + 1, k, y, ?_, by simpa using h2, h3⟩
   rw [hs x] at h1 hj
   rw [Nat.succ_mul]; omega
theorem Sl.cells {α : Type} {enc : α->List Value} {sz : Nat} (hs : ∀ x, (enc x).length = sz) {H H' : Heap} {a : O} {n : Nat} {xs : List α} (h : Sl (REnc enc) sz H a n xs) (e : Ext H H') :
  (xs.flatMap enc).length = n * sz/\ (n = 0 ∨ ∃ (b o : Nat), a = some ⟨b, o, none⟩/\ cellsAt H' b o 0 (xs.flatMap enc)) := by
 have hl := h.len
 refine ⟨by rw [flat_len hs, hl], ?_⟩
 by_cases hn : n = 0
 ·exact .inl hn
 ·obtain ⟨b, o, ha, hc⟩ := h.at_ (by omega)
  refine .inr ⟨b, o, ha, cellsAt_of _ 0 fun j v hj => ?_⟩
  obtain ⟨i, k, x, rfl, hx, hk⟩ := flat_at hs xs j v hj
  obtain ⟨r, hr, hv⟩ := hc i x hx
  obtain rfl : r = enc x := hr
  have := Heap.cell_next e (hv k v hk)
  rw [show o + (0 + (i * sz + k)) = o + i * sz + k from by omega]
  exact this
theorem allOne_append : ∀ (a b : List Value), allOne a = true->allOne b = true->allOne (a ++ b) = true
 | [], b, _, h => h
 | x :: r, b, h, h' => by
  simp only [allOne, Bool.and_eq_true, List.cons_append] at h ⊢
  exact ⟨h.1, allOne_append r b h.2 h'⟩
theorem allOne_flat {α : Type} {enc : α->List Value} (h : ∀ x, allOne (enc x) = true) : ∀ xs : List α, allOne (xs.flatMap enc) = true
 | [] => rfl
 | x :: r => by rw [List.flatMap_cons]; exact allOne_append _ _ (h x) (allOne_flat h r)
def pinCells (p : Pin) : List Value := [i64 p.name, i64 p.ver]
def ruleCells (r : Rule) : List Value := [i64 r.name, i64 r.ver, i64 r.wth, i64 r.least]
abbrev RPin : Rep Pin := REnc pinCells
abbrev RRule : Rep Rule := REnc ruleCells
abbrev Pins (H : Heap) (a : O) (n : Nat) (l : List Pin) : Prop := Sl RPin 2 H a n l
abbrev Rules (H : Heap) (a : O) (n : Nat) (l : List Rule) : Prop := Sl RRule 4 H a n l
theorem pinCells_len (p : Pin) : (pinCells p).length = 2 := rfl
theorem ruleCells_len (r : Rule) : (ruleCells r).length = 4 := rfl
theorem Pins.ext' {H H' : Heap} {a : O} {n : Nat} {l : List Pin} (h : Pins H a n l) (e : Ext H H') : Pins H' a n l := Sl.ext REnc.mono h e
theorem Rules.ext' {H H' : Heap} {a : O} {n : Nat} {l : List Rule} (h : Rules H a n l) (e : Ext H H') : Rules H' a n l := Sl.ext REnc.mono h e
theorem Sl.pin {H H' : Heap} {a : O} {n : Nat} {xs : List Pin} (h : Pins H a n xs) (e : Ext H H') {k : Int} (h0 : 0 <= k) (h1 : k < n) {F : Int->Int->Prop} (hF : ∀ p, xs[k.toNat]? = some p->F p.name p.ver) :
  ∃ (b o : Nat), a = some ⟨b, o, none⟩/\ 0 <= k/\ k < n/\ ∃ (x y : Int), (H'.cell b (o + k.toNat * 2) = some (.int .i64 x)/\ H'.cell b (o + k.toNat * 2 + 1) = some (.int .i64 y)/\ True)/\ F x y := by
 obtain ⟨b, o, r, x, ha, hx, hr, hc⟩ := h.get h0 h1
 obtain rfl : r = pinCells x := hr
 exact ⟨b, o, ha, h0, h1, _, _, ⟨Heap.cell_next e (hc 0 _ rfl), Heap.cell_next e (hc 1 _ rfl), trivial⟩, hF x hx⟩
theorem Sl.pinName {H H' : Heap} {a : O} {n : Nat} {xs : List Pin} (h : Pins H a n xs) (e : Ext H H') {k : Int} (h0 : 0 <= k) (h1 : k < n) {F : Int->Prop} (hF : ∀ p, xs[k.toNat]? = some p->F p.name) :
  ∃ (b o : Nat), a = some ⟨b, o, none⟩/\ 0 <= k/\ k < n/\ ∃ (x : Int), H'.cell b (o + k.toNat * 2) = some (.int .i64 x)/\ F x := by
 obtain ⟨b, o, r, x, ha, hx, hr, hc⟩ := h.get h0 h1
 obtain rfl : r = pinCells x := hr
 exact ⟨b, o, ha, h0, h1, _, Heap.cell_next e (hc 0 _ rfl), hF x hx⟩
theorem Sl.pinVer {H H' : Heap} {a : O} {n : Nat} {xs : List Pin} (h : Pins H a n xs) (e : Ext H H') {k : Int} (h0 : 0 <= k) (h1 : k < n) {F : Int->Prop} (hF : ∀ p, xs[k.toNat]? = some p->F p.ver) :
  ∃ (b o : Nat), a = some ⟨b, o, none⟩/\ 0 <= k/\ k < n/\ ∃ (x : Int), H'.cell b (o + k.toNat * 2 + 1) = some (.int .i64 x)/\ F x := by
 obtain ⟨b, o, r, x, ha, hx, hr, hc⟩ := h.get h0 h1
 obtain rfl : r = pinCells x := hr
 exact ⟨b, o, ha, h0, h1, _, Heap.cell_next e (hc 1 _ rfl), hF x hx⟩
theorem Sl.rule {H H' : Heap} {a : O} {n : Nat} {xs : List Rule} (h : Rules H a n xs) (e : Ext H H') {k : Int} (h0 : 0 <= k) (h1 : k < n) {F : Int->Int->Int->Int->Prop} (hF : ∀ p, xs[k.toNat]? = some p->F p.name p.ver p.wth p.least) :
  ∃ (b o : Nat), a = some ⟨b, o, none⟩/\ 0 <= k/\ k < n/\ ∃ (x y z u : Int), (H'.cell b (o + k.toNat * 4) = some (.int .i64 x)/\ H'.cell b (o + k.toNat * 4 + 1) = some (.int .i64 y)/\ H'.cell b (o + k.toNat * 4 + 2) = some (.int .i64 z)/\ H'.cell b (o + k.toNat * 4 + 3) = some (.int .i64 u)/\ True)/\ F x y z u := by
 obtain ⟨b, o, r, x, ha, hx, hr, hc⟩ := h.get h0 h1
 obtain rfl : r = ruleCells x := hr
 exact ⟨b, o, ha, h0, h1, _, _, _, _, ⟨Heap.cell_next e (hc 0 _ rfl), Heap.cell_next e (hc 1 _ rfl), Heap.cell_next e (hc 2 _ rfl), Heap.cell_next e (hc 3 _ rfl), trivial⟩, hF x hx⟩
theorem Spec.sl1 {P : Program} {f : FuncId} {args : List Value} {H : Heap} {Q : O->Nat->Nat->Heap->Prop} (h : Spec P f args H fun v H' => ∃ a n c, v = .slice a n c/\ Q a n c H') {base : Nat} {G : O->Nat->Nat->Heap->Prop}
  (hG : ∀ a n c H', Ext H H'->Next base H H'->Q a n c H'->G a n c H') : Spec P f args H fun v H' => ∃ (a : O) (n c : Nat), v = .slice a n c/\ (Next base H H'->G a n c H') :=
 h.mono fun v H' e hv => by obtain ⟨a, n, c, h1, h2⟩ := hv; exact ⟨a, n, c, h1, fun hN => hG a n c H' e hN h2⟩
theorem Spec.sl2 {P : Program} {f : FuncId} {args : List Value} {H : Heap} {m : Int} {Q : O->Nat->Nat->Heap->Prop} (h : Spec P f args H fun v H' => ∃ a n c, v = .tuple #[.slice a n c, i64 m]/\ Q a n c H') {base : Nat} {G : O->Nat->Nat->Int->Heap->Prop}
  (hG : ∀ a n c H', Ext H H'->Next base H H'->Q a n c H'->G a n c m H') : Spec P f args H fun v H' => ∃ (a : O) (n c : Nat) (m' : Int), v = .tuple #[.slice a n c, .int .i64 m']/\ (Next base H H'->G a n c m' H') :=
 h.mono fun v H' e hv => by obtain ⟨a, n, c, h1, h2⟩ := hv; exact ⟨a, n, c, m, h1, fun hN => hG a n c H' e hN h2⟩
def okL {α : Type} : Except Int (List α)->List α
 | .ok l => l
 | .error _ => []
def errOf {α : Type} : Except Int α->Int
 | .ok _ => 0
 | .error e => e
open Go
def Fresh (H H' : Heap) (e : TypeId) (sz : Nat) (a : O) (n c : Nat) (xs : List Value) : Prop :=
 xs.length = n * sz/\ n <= c/\ c <= maxLen/\ ((n = 0/\ c = 0) ∨ ∃ g k, a = some ⟨g, 0, none⟩/\ H g = none/\ H' g = some k/\ k.ty = e/\ k.size = c * sz/\ k.free = true/\ ∀ j v, xs[j]? = some v->k.cells j = some v)
theorem Row.fresh {base : Nat} {H H' : Heap} (hb : ∀ b k, H b = some k->b < base) {e : TypeId} {sz : Nat} {a : O} {n c : Nat} {xs : List Value} (h : Row base H' e sz a n c xs) : Fresh H H' e sz a n c xs :=
 ⟨h.1, h.2.1, h.2.2.1, h.2.2.2.imp id fun ⟨g, k, h1, h2, h3⟩ => ⟨g, k, h1, by
  cases hg : H g with
  | none => rfl
  | some k => have := hb g k hg; omega, h3⟩⟩
theorem Fresh.row {base : Nat} {H H' : Heap} {e : TypeId} {sz : Nat} {a : O} {n c : Nat} {xs : List Value} (h : Fresh H H' e sz a n c xs) (hN : Next base H H') : Row base H' e sz a n c xs :=
 ⟨h.1, h.2.1, h.2.2.1, h.2.2.2.imp id fun ⟨g, k, h1, h2, h3, h4⟩ => ⟨g, k, h1, hN.fresh g _ h3 h2, h3, h4⟩⟩
theorem Row.upd {base : Nat} {H H' : Heap} {e : TypeId} {sz : Nat} {a : O} {n c b o : Nat} {k : KB} {xs vs : List Value} (h : Row base H e sz a n c xs) (ha : a = some ⟨b, 0, none⟩) (hc : c ≠ 0) (hk : H b = some k) (ho : o + vs.length <= xs.length)
  (hu : Upd H b o k vs H') : Row base H' e sz a n c (setRange xs o vs) := by
 obtain ⟨h1, h2, h3, h4⟩ := h
 rcases h4 with ⟨_, h5⟩ | ⟨g, k', hg, hbg, hH, h6, h7, h8, h9⟩
 ·exact absurd h5 hc
 ·rw [ha] at hg
  simp only [Option.some.injEq, Addr.mk.injEq, and_true] at hg
  subst hg
  rw [hk] at hH
  obtain rfl := Option.some.inj hH
  refine ⟨by rw [setRange_length, h1], h2, h3, .inr ⟨b, _, ha, hbg, hu.here, h6, h7, h8, fun j v hv => ?_⟩⟩
  rw [setRange_getElem? _ _ _ _ ho] at hv
  simp only [updCells]
  split
  ·rename_i hc'; rw [if_pos hc'] at hv; exact hv
  ·rename_i hc'; rw [if_neg hc'] at hv; exact h9 j v hv
theorem Row.short {base : Nat} {H : Heap} {e : TypeId} {sz : Nat} {a : O} {n c m : Nat} {xs : List Value} (h : Row base H e sz a n c xs) (hm : m <= n) : Row base H e sz a m c (xs.take (m * sz)) := by
 obtain ⟨h1, h2, h3, h4⟩ := h
 have hle : m * sz <= n * sz := Nat.mul_le_mul_right _ hm
 refine ⟨by rw [List.length_take, h1]; omega, by omega, h3, ?_⟩
 rcases h4 with ⟨h5, h6⟩ | ⟨g, k, hg, hbg, hH, h6, h7, h8, h9⟩
 ·exact .inl ⟨by omega, h6⟩
 ·refine .inr ⟨g, k, hg, hbg, hH, h6, h7, h8, fun j v hv => ?_⟩
  rw [List.getElem?_take] at hv
  split at hv
  ·exact h9 j v hv
  ·cases hv
theorem Row.block {base : Nat} {H : Heap} {e : TypeId} {sz : Nat} {a : O} {n c : Nat} {xs : List Value} (h : Row base H e sz a n c xs) (hn : 0 < n) : ∃ b k, a = some ⟨b, 0, none⟩/\ base <= b/\ c ≠ 0/\ H b = some k/\ k.free = true/\ k.size = c * sz/\ ∀ j v, xs[j]? = some v->k.cells j = some v := by
 obtain ⟨h1, h2, h3, h4⟩ := h
 rcases h4 with ⟨h5, _⟩ | ⟨g, k, hg, hbg, hH, h6, h7, h8, h9⟩
 ·omega
 ·exact ⟨g, k, hg, hbg, by omega, hH, h8, h7, h9⟩
theorem Sl.copied {α : Type} {enc : α->List Value} {sz : Nat} (hs : ∀ x, (enc x).length = sz) (h1 : ∀ x, allOne (enc x) = true) {H H' : Heap} {a : O} {n : Nat} {xs : List α} (h : Sl (REnc enc) sz H a n xs) (e : Ext H H') :
  (xs.flatMap enc).length = n * sz/\ allOne (xs.flatMap enc) = true/\ (n = 0 ∨ ∃ (b o : Nat), a = some ⟨b, o, none⟩/\ cellsAt H' b o 0 (xs.flatMap enc)) :=
 ⟨(h.cells hs e).1, allOne_flat h1 xs, (h.cells hs e).2⟩
theorem Row.zero {base : Nat} {H : Heap} {e : TypeId} {sz : Nat} {a : O} : Row base H e sz a 0 0 [] := ⟨by simp, by omega, by decide, .inl ⟨rfl, rfl⟩⟩
theorem Fresh.zero {H H' : Heap} {e : TypeId} {sz : Nat} {a : O} : Fresh H H' e sz a 0 0 [] := ⟨by simp, by omega, by decide, .inl ⟨rfl, rfl⟩⟩
theorem Spec.slF {P : Program} {f : FuncId} {args : List Value} {H : Heap} {e : TypeId} {sz : Nat} {xs : List Value} (h : Spec P f args H fun v H' => ∃ a n c, v = .slice a n c/\ Fresh H H' e sz a n c xs) {base : Nat} {G : O->Nat->Nat->Heap->Prop}
  (hG : ∀ a n c H', Ext H H'->Next base H H'->Row base H' e sz a n c xs->G a n c H') : Spec P f args H fun v H' => ∃ (a : O) (n c : Nat), v = .slice a n c/\ (Next base H H'->G a n c H') :=
 h.mono fun v H' e hv => by obtain ⟨a, n, c, h1, h2⟩ := hv; exact ⟨a, n, c, h1, fun hN => hG a n c H' e hN (h2.row hN)⟩
theorem Sl.addr_nil {α : Type} {R : Rep α} {sz n : Nat} {H : Heap} {xs : List α} (h : Sl R sz H none n xs) : n = 0/\ xs = [] := by
 have hl := h.len
 by_cases hn : n = 0
 ·exact ⟨hn, List.eq_nil_of_length_eq_zero (by omega)⟩
 ·obtain ⟨b, o, ha, _⟩ := h.at_ (by omega)
  cases ha
open Go
def AllR {α : Type} (R : Rep α) (H : Heap) : List (List Value)->List α->Prop
 | [], [] => True
 | r :: rs, x :: xs => R H r x/\ AllR R H rs xs
 | _, _ => False
theorem AllR.len {α : Type} {R : Rep α} {H : Heap} : ∀ {rs : List (List Value)} {xs : List α}, AllR R H rs xs->rs.length = xs.length
 | [], [], _ => rfl
 | _ :: _, _ :: _, h => by simp [AllR.len h.2]
theorem AllR.mono {α : Type} {R : Rep α} (hR : R.Mono) {H H' : Heap} (e : Ext H H') : ∀ {rs : List (List Value)} {xs : List α}, AllR R H rs xs->AllR R H' rs xs
 | [], [], _ => trivial
 | _ :: _, _ :: _, h => ⟨hR _ _ _ _ e h.1, AllR.mono hR e h.2⟩
theorem AllR.append {α : Type} {R : Rep α} {H : Heap} {ss : List (List Value)} {ys : List α} (k : AllR R H ss ys) : ∀ {rs : List (List Value)} {xs : List α}, AllR R H rs xs->AllR R H (rs ++ ss) (xs ++ ys)
 | [], [], _ => k
 | _ :: _, _ :: _, h => ⟨h.1, AllR.append k h.2⟩
theorem AllR.one {α : Type} {R : Rep α} {H : Heap} {r : List Value} {x : α} (h : R H r x) : AllR R H [r] [x] := ⟨h, trivial⟩
theorem AllR.get {α : Type} {R : Rep α} {H : Heap} : ∀ {rs : List (List Value)} {xs : List α}, AllR R H rs xs->∀ {i : Nat} {r : List Value} {x : α}, rs[i]? = some r->xs[i]? = some x->R H r x
 | [], [], _, i, r, x, h, _ => by simp at h
 | _ :: _, _ :: _, h, 0, r, x, h1, h2 => by simp at h1 h2; subst h1 h2; exact h.1
 | _ :: _, _ :: _, h, i + 1, r, x, h1, h2 => AllR.get h.2 (i := i) (by simpa using h1) (by simpa using h2)
theorem AllR.drop {α : Type} {R : Rep α} {H : Heap} : ∀ {rs : List (List Value)} {xs : List α} (k : Nat), AllR R H rs xs->AllR R H (rs.drop k) (xs.drop k)
 | [], [], k, _ => by simp [AllR]
 | _ :: _, _ :: _, 0, h => h
 | _ :: _, _ :: _, k + 1, h => AllR.drop k h.2
theorem AllR.take {α : Type} {R : Rep α} {H : Heap} : ∀ {rs : List (List Value)} {xs : List α} (k : Nat), AllR R H rs xs->AllR R H (rs.take k) (xs.take k)
 | [], [], k, _ => by simp [AllR]
 | _ :: _, _ :: _, 0, h => by simp [AllR]
 | _ :: _, _ :: _, k + 1, h => ⟨h.1, AllR.take k h.2⟩
theorem flat_wid {sz : Nat} : ∀ {rs : List (List Value)}, (∀ r ∈ rs, r.length = sz)->rs.flatten.length = rs.length * sz
 | [], _ => by simp
 | r :: rs, h => by
  rw [List.flatten_cons, List.length_append, flat_wid fun x hx => h x (List.mem_cons_of_mem _ hx), h r List.mem_cons_self, List.length_cons, Nat.succ_mul]; omega
theorem setRange_app {xs vs ys : List Value} {o : Nat} (h : o + vs.length <= ys.length) : setRange (xs ++ ys) (xs.length + o) vs = xs ++ setRange ys o vs := by
 rw [setRange_eq _ _ _ (by simp; omega), setRange_eq _ _ _ h, List.take_length_add_append, show xs.length + o + vs.length = xs.length + (o + vs.length) from by omega, List.drop_length_add_append]
 simp only [List.append_assoc]
theorem setRange_left {ys vs zs : List Value} {o : Nat} (h : o + vs.length <= ys.length) : setRange (ys ++ zs) o vs = setRange ys o vs ++ zs := by
 rw [setRange_eq _ _ _ (by simp; omega), setRange_eq _ _ _ h, List.take_append_of_le_length (by omega), List.drop_append_of_le_length h]
 simp only [List.append_assoc]
theorem rows_set {sz : Nat} {rs : List (List Value)} {r : List Value} {ss : List (List Value)} (hw : ∀ x ∈ rs, x.length = sz) (hr : r.length = sz) {k : Nat} {vs : List Value} (hk : k + vs.length <= sz) :
  setRange (rs ++ r :: ss).flatten (rs.length * sz + k) vs = (rs ++ setRange r k vs :: ss).flatten := by
 rw [List.flatten_append, List.flatten_cons, ← flat_wid hw, setRange_app (by simp; omega), setRange_left (by omega), List.flatten_append, List.flatten_cons]
theorem Sl.rows {α : Type} {R : Rep α} {sz n : Nat} {H : Heap} {a : O} {xs : List α} (hlen : ∀ {H : Heap} {r : List Value} {x : α}, R H r x->r.length = sz) (h : Sl R sz H a n xs) :
  ∃ rs : List (List Value), (∀ r ∈ rs, r.length = sz)/\ AllR R H rs xs/\ rs.flatten.length = n * sz/\ (n = 0 ∨ ∃ (b o : Nat), a = some ⟨b, o, none⟩/\ cellsAt H b o 0 rs.flatten) := by
 have key : ∀ (b o : Nat) (ys : List α), (∀ (i : Nat) (x : α), ys[i]? = some x->∃ r, R H r x/\ ∀ (j : Nat) (v : Value), r[j]? = some v->H.cell b (o + i * sz + j) = some v)->
   ∃ rs : List (List Value), (∀ r ∈ rs, r.length = sz)/\ AllR R H rs ys/\ ∀ (j : Nat) v, rs.flatten[j]? = some v->H.cell b (o + j) = some v := by
  intro b o ys
  induction ys generalizing o with
  | nil => intro _; exact ⟨[], by simp, trivial, by simp⟩
  | cons y ys ih =>
   intro hc
   obtain ⟨r, hr, hv⟩ := hc 0 y rfl
   obtain ⟨rs, h1, h2, h3⟩ := ih (o + sz) fun i x hx => by
    obtain ⟨r', hr', hv'⟩ := hc (i + 1) x (by simpa using hx)
    refine ⟨r', hr', fun j v hj => ?_⟩
    have := hv' j v hj
    rw [Nat.succ_mul] at this
    rw [show o + sz + i * sz + j = o + (i * sz + sz) + j from by omega]; exact this
   have hl := hlen hr
   refine ⟨r :: rs, fun x hx => by rcases List.mem_cons.1 hx with rfl | hx; exact hl; exact h1 x hx, ⟨hr, h2⟩, fun j v hj => ?_⟩
   rw [List.flatten_cons] at hj
   by_cases hjl : j < r.length
   ·rw [List.getElem?_append_left hjl] at hj
    have := hv j v hj
    simpa using this
   ·rw [List.getElem?_append_right (by omega)] at hj
    have := h3 _ v hj
    rw [show o + sz + (j - r.length) = o + j from by omega] at this
    exact this
 by_cases hn : n = 0
 ·subst hn
  have : xs = [] := List.eq_nil_of_length_eq_zero h.len
  subst this
  exact ⟨[], by simp, trivial, by simp, .inl rfl⟩
 ·obtain ⟨b, o, ha, hc⟩ := h.at_ (by omega)
  obtain ⟨rs, h1, h2, h3⟩ := key b o xs hc
  refine ⟨rs, h1, h2, by rw [flat_wid h1, h2.len, h.len], .inr ⟨b, o, ha, cellsAt_of _ 0 fun j v hj => by rw [Nat.zero_add]; exact h3 j v hj⟩⟩
theorem cellsAt_ext {H H' : Heap} (e : Ext H H') {b o : Nat} : ∀ {cs : List Value} {i : Nat}, cellsAt H b o i cs->cellsAt H' b o i cs
 | [], _, _ => trivial
 | _ :: _, _, h => ⟨Heap.cell_next e h.1, cellsAt_ext e h.2⟩
theorem allOne_rows {α : Type} {R : Rep α} {H : Heap} (h : ∀ {r : List Value} {x : α}, R H r x->allOne r = true) : ∀ {rs : List (List Value)} {xs : List α}, AllR R H rs xs->allOne rs.flatten = true
 | [], [], _ => rfl
 | _ :: _, _ :: _, k => by rw [List.flatten_cons]; exact allOne_append _ _ (h k.1) (allOne_rows h k.2)
def newOf (H H' : Heap) : Heap := fun x => match H x with | none => H' x | some _ => none
def Heap.plus (G K : Heap) : Heap := fun x => match G x with | some k => some k | none => K x
def Away (H G : Heap) : Prop := ∀ x k, G x = some k->H x = none
theorem newOf_ext {H H' : Heap} : Ext (newOf H H') H' := fun x k h => by
 unfold newOf at h; split at h
 ·exact h
 ·cases h
theorem newOf_away {H H' : Heap} : Away H (newOf H H') := fun x k h => by
 unfold newOf at h; split at h
 ·assumption
 ·cases h
theorem Away.sub {H0 H G : Heap} (h : Away H G) (e : Ext H0 H) : Away H0 G := fun x k hx => by
 cases h0 : H0 x with
 | none => rfl
 | some k0 => have := h x k hx; rw [e x k0 h0] at this; cases this
theorem plus_left {G K : Heap} : Ext G (G.plus K) := fun x k h => by unfold Heap.plus; rw [h]
theorem plus_right {G K : Heap} (h : ∀ x k, K x = some k->∀ k', G x = some k'->k' = k) : Ext K (G.plus K) := fun x k hk => by
 unfold Heap.plus
 cases hg : G x with
 | none => exact hk
 | some k' => rw [h x k hk k' hg]
theorem plus_sub {G K H : Heap} (h1 : Ext G H) (h2 : Ext K H) : Ext (G.plus K) H := fun x k hx => by
 unfold Heap.plus at hx
 cases hg : G x with
 | none => rw [hg] at hx; exact h2 x k hx
 | some k' => rw [hg] at hx; cases hx; exact h1 x _ hg
theorem plus_away {G K H : Heap} (h1 : Away H G) (h2 : Away H K) : Away H (G.plus K) := fun x k hx => by
 unfold Heap.plus at hx
 cases hg : G x with
 | none => rw [hg] at hx; exact h2 x k hx
 | some k' => exact h1 x _ hg
structure OwnSl {α : Type} (R : Rep α) (sz : Nat) (e : TypeId) (base : Nat) (G H : Heap) (a : O) (n c : Nat) (rows : List (List Value)) (xs : List α) : Prop where
 row : Row base H e sz a n c rows.flatten
 wid : ∀ r ∈ rows, r.length = sz
 all : AllR R G rows xs
 sub : Ext G H
 clear : c ≠ 0->∀ g, a = some ⟨g, 0, none⟩->G g = none
structure NewSl {α : Type} (R : Rep α) (sz : Nat) (e : TypeId) (H G H' : Heap) (a : O) (n c : Nat) (rows : List (List Value)) (xs : List α) : Prop where
 row : Fresh H H' e sz a n c rows.flatten
 wid : ∀ r ∈ rows, r.length = sz
 all : AllR R G rows xs
 sub : Ext G H'
 clear : c ≠ 0->∀ g, a = some ⟨g, 0, none⟩->G g = none
 away : Away H G
section
variable {α : Type} {R : Rep α} {sz : Nat} {e : TypeId} {base : Nat} {G H H' : Heap} {a a' : O} {n c n' c' : Nat} {rows : List (List Value)} {xs : List α}
theorem OwnSl.new (h : OwnSl R sz e base G H' a n c rows xs) (hb : ∀ b k, H b = some k->b < base) (ha : Away H G) : NewSl R sz e H G H' a n c rows xs := ⟨h.row.fresh hb, h.wid, h.all, h.sub, h.clear, ha⟩
theorem NewSl.own (h : NewSl R sz e H G H' a n c rows xs) (hN : Next base H H') : OwnSl R sz e base G H' a n c rows xs := ⟨h.row.row hN, h.wid, h.all, h.sub, h.clear⟩
theorem OwnSl.rlen (h : OwnSl R sz e base G H a n c rows xs) (h0 : 0 < sz) : rows.length = n/\ xs.length = n := by
 have := h.row.1
 rw [flat_wid h.wid] at this
 have := Nat.eq_of_mul_eq_mul_right h0 this
 exact ⟨this, by rw [← h.all.len]; exact this⟩
theorem OwnSl.sl (hR : R.Mono) (h0 : 0 < sz) (h : OwnSl R sz e base G H a n c rows xs) : Sl R sz H a n xs :=
 Sl.of_has (has_of_row h.row rfl h.wid (h.rlen h0).1) h.all.len fun i r x hr hx => hR _ _ _ _ h.sub (h.all.get hr hx)
theorem OwnSl.ext (h : OwnSl R sz e base G H a n c rows xs) (x : Ext H H') : OwnSl R sz e base G H' a n c rows xs := ⟨h.row.ext x, h.wid, h.all, h.sub.trans x, h.clear⟩
theorem OwnSl.block (h : OwnSl R sz e base G H a n c rows xs) (hc : c ≠ 0) : ∃ g k, a = some ⟨g, 0, none⟩/\ H g = some k := by
 rcases h.row.2.2.2 with ⟨_, h1⟩ | ⟨g, k, h1, h2, h3, _⟩
 ·exact absurd h1 hc
 ·exact ⟨g, k, h1, h3⟩
theorem OwnSl.grow (hR : R.Mono) (h : OwnSl R sz e base G H a n c rows xs) (x : Ext H H') : OwnSl R sz e base (G.plus (newOf H H')) H' a n c rows xs :=
 ⟨h.row.ext x, h.wid, h.all.mono hR plus_left, plus_sub (h.sub.trans x) newOf_ext, fun hc g hg => by
  obtain ⟨g', k, h1, h2⟩ := h.block hc
  obtain rfl : g = g' := by rw [hg] at h1; simpa using h1
  unfold Heap.plus newOf
  rw [h.clear hc g hg, h2]⟩
theorem new_in_grow (h : Ext G H) : Ext (newOf H H') (G.plus (newOf H H')) := plus_right fun x k hk k' hg => by
 have := newOf_away x k hk
 rw [h x k' hg] at this; cases this
theorem NewSl.all_new (hR : R.Mono) (h : NewSl R sz e H G H' a n c rows xs) : AllR R (newOf H H') rows xs := h.all.mono hR fun x k hx => by
 unfold newOf
 rw [h.away x k hx]; exact h.sub x k hx
theorem OwnSl.grew {rows' : List (List Value)} {ys : List α} (h : OwnSl R sz e base G H a n c rows xs) {nn : Nat} (hg : Grew base H H' a c a' c' nn) (hr : Row base H' e sz a' n' c' (rows.flatten ++ rows'.flatten)) (hw : ∀ r ∈ rows', r.length = sz) (ha : AllR R G rows' ys) :
  OwnSl R sz e base G H' a' n' c' (rows ++ rows') (xs ++ ys) :=
 ⟨by rw [List.flatten_append]; exact hr, fun r hr => by rcases List.mem_append.1 hr with hr | hr; exact h.wid r hr; exact hw r hr, ha.append h.all, fun x k hx => hg.keep x k (h.sub x k hx) (by
  by_cases hc : c = 0
  ·exact .inl hc
  ·exact .inr fun e => by have := h.clear hc x e; rw [hx] at this; cases this), fun hc g hga => by
  rcases hg.place hc g hga with h1 | ⟨h1, h2⟩
  ·cases hG : G g with
   | none => rfl
   | some k => rw [h.sub g k hG] at h1; cases h1
  ·exact h.clear h2 g (h1 ▸ hga)⟩
theorem NewSl.sl (hR : R.Mono) (h0 : 0 < sz) (h : NewSl R sz e H G H' a n c rows xs) (hN : Next base H H') : Sl R sz H' a n xs := (h.own hN).sl hR h0
theorem OwnSl.zero (hn : Ext G H) : OwnSl R sz e base G H a 0 0 [] ([] : List α) := ⟨Row.zero, by simp, trivial, hn, fun h => absurd rfl h⟩
end
open Go Go.Proofs
open Go.Value renaming int → I, slice → S, bool → B, agg → A, tuple → T, pointer → P, string → Str
open Go.IntKind renaming i64 → Z, wrap → W
open Go.Addr renaming mk → D
open Go.Vg.Bx renaming mk → J
open Go.Vg renaming Next → X, Spec → Y, SpecO → YO
open Go.Vg.Heap renaming cell → C
open Int renaming toNat → N
theorem vcI122 (a : O) (n c g : Nat) (i : Int) (base : Nat) (H0 : Heap) (own : List Bx) (H : Heap) (f : SV->List Bx->Heap->Prop) :
 (codeI ⟨Tryz.prog, Tryz.f235.ntmps, ⟨TryzList, TryzIn2, true⟩, base, H0⟩ Tryz.f235 [.v (S a n c), .v (I Z i), .v (S (some ⟨g, 0, none⟩) 1 1)] own H f) = (
 0 <= i/\ i <= (n:Int)/\ n <= c/\ ∀ b:O,(i < (c:Int)->b = Option.map (fun d =>Addr.add d (N i * 2)) a)->(Int.ofNat 1 = 0->f (SV.v (S a n c)) own H)/\ (¬Int.ofNat 1 = 0->(i = (n:Int)->∃ d e:List Value,Row base H 91 2 a n c d/\ List.length e = 1 * 2/\ allOne e = true/\ (1 = 0∨∃ h j,some (D g 0 none) = some (D h j none)/\ cellsAt H h j 0 e)/\ (n + 1) * 16 <= 140737488355328/\ n + 1 <= 9223372036854775807/\ ∀ (h:O) (j:Nat) (k:Heap),Grew base H k a c h j (n + 1)->Row base k 91 2 h (n + 1) j (d ++ e)->f (SV.v (S h (n + 1) j)) own k)/\ (¬i = (n:Int)->∀ d:Int,d = W Z ((n:Int) + 1)->((c:Int) < d->0 <= i/\ i <= (c:Int)/\ ∀ e:Int,e = W Z ((n:Int) + 1)->∀ h:Int,h = W Z (e - i)->∃ (j:List Value) (k:Nat),h = (k:Int)/\ 0 < k/\ c < N i + k/\ Row base H 91 2 a (N i) c j/\ (N i + k) * 16 <= 140737488355328/\ N i + k <= 9223372036854775807/\ ∀ (l m:Nat) (o:Heap),X base H o->H l = none->Row base o 91 2 (some (D l 0 none)) (N i + k) m (j ++ List.flatten (List.replicate k [I Z 0,I Z 0]))->0 <= i/\ i <= (↑(N i + k) : Int)/\ N i + k <= m/\ ∀ p:O,(i < (m:Int)->p = Option.map (fun q =>Addr.add q (N i * 2)) (some (D l 0 none)))->(min 1 (N i + k - N i) = 0->∀ q:Int,q = W Z (i + 1)->0 <= q/\ q <= (↑(N i + k) : Int)/\ N i + k <= m/\ ∀ r:O,(q < (m:Int)->r = Option.map (fun s =>Addr.add s (N q * 2)) (some (D l 0 none)))->0 <= i/\ i <= (n:Int)/\ n <= c/\ ∀ s:O,(i < (c:Int)->s = Option.map (fun t =>Addr.add t (N i * 2)) a)->(min (n - N i) (N i + k - N q) = 0->f (SV.v (S (some (D l 0 none)) (N i + k) m)) own o)/\ (min (n - N i) (N i + k - N q) ≠ 0->∃ (t:List Value) (u v w x:Nat) (y:KB),List.length t = min (n - N i) (N i + k - N q) * 2/\ allOne t = true/\ s = some (D u v none)/\ cellsAt o u v 0 t/\ r = some (D w x none)/\ o w = some y/\ KB.free y = true/\ base <= w/\ x + List.length t <= KB.size y/\ ∀ z:Heap,Upd o w x y t z->f (SV.v (S (some (D l 0 none)) (N i + k) m)) own z))/\ (min 1 (N i + k - N i) ≠ 0->∃ (q:List Value) (r s t u:Nat) (v:KB),List.length q = min 1 (N i + k - N i) * 2/\ allOne q = true/\ some (D g 0 none) = some (D r s none)/\ cellsAt o r s 0 q/\ p = some (D t u none)/\ o t = some v/\ KB.free v = true/\ base <= t/\ u +
 List.length q <= KB.size v/\ ∀ w:Heap,Upd o t u v q w->∀ x:Int,x = W Z (i + 1)->0 <= x/\ x <= (↑(N i + k) : Int)/\ N i + k <= m/\ ∀ y:O,(x < (m:Int)->y = Option.map (fun z =>Addr.add z (N x * 2)) (some (D l 0 none)))->0 <= i/\ i <= (n:Int)/\ n <= c/\ ∀ z:O,(i < (c:Int)->z = Option.map (fun a1 =>Addr.add a1 (N i * 2)) a)->(min (n - N i) (N i + k - N x) = 0->f (SV.v (S (some (D l 0 none)) (N i + k) m)) own w)/\ (min (n - N i) (N i + k - N x) ≠ 0->∃ (a1:List Value) (b1 c1 d1 e1:Nat) (f1:KB),List.length a1 = min (n - N i) (N i + k - N x) * 2/\ allOne a1 = true/\ z = some (D b1 c1 none)/\ cellsAt w b1 c1 0 a1/\ y = some (D d1 e1 none)/\ w d1 = some f1/\ KB.free f1 = true/\ base <= d1/\ e1 + List.length a1 <= KB.size f1/\ ∀ g1:Heap,Upd w d1 e1 f1 a1 g1->f (SV.v (S (some (D l 0 none)) (N i + k) m)) own g1)))/\ (¬(c:Int) < d->∀ e:Int,e = W Z ((n:Int) + 1)->0 <= e/\ e <= (c:Int)/\ ∀ h:Int,h = W Z (i + 1)->0 <= h/\ h <= (↑(N e) : Int)/\ N e <= c/\ ∀ j:O,(h < (c:Int)->j = Option.map (fun k =>Addr.add k (N h * 2)) a)->ExtRuns Tryz.prog H 258 [S (some (D g 0 none)) 1 1,S j (N e - N h) (c - N h)] (B false)/\ ∀ k:Int,k = W Z (i + 1)->0 <= k/\ k <= (↑(N e) : Int)/\ N e <= c/\ ∀ l:O,(k < (c:Int)->l = Option.map (fun m =>Addr.add m (N k * 2)) a)->0 <= i/\ i <= (↑(N e) : Int)/\ N e <= c/\ ∀ m:O,(i < (c:Int)->m = Option.map (fun o =>Addr.add o (N i * 2)) a)->(min (N e - N i) (N e - N k) = 0->0 <= i/\ i <= (↑(N e) : Int)/\ N e <= c/\ ∀ o:O,(i < (c:Int)->o = Option.map (fun p =>Addr.add p (N i * 2)) a)->(min 1 (N e - N i) = 0->f (SV.v (S a (N e) c)) own H)/\ (min 1 (N e - N i) ≠ 0->∃ (p:List Value) (q r s t:Nat) (u:KB),List.length p = min 1 (N e - N i) * 2/\ allOne p = true/\ some (D g 0 none) = some (D q r none)/\ cellsAt H q r 0 p/\ o = some (D s t none)/\ H s = some u/\ KB.free u = true/\ base <= s/\ t + List.length p <= KB.size u/\ ∀ v:Heap,Upd H s t u p v->f (SV.v (S a (N e) c)) own v))/\ (min (N e - N i) (N e - N k) ≠ 0->∃ (o:List Value) (p q r s:Nat) (t:KB),List.length o = min (N e - N i) (N e - N k) * 2/\ allOne o = true/\ m = some (D p q none)/\ cellsAt H p q 0 o/\ l = some (D r s none)/\ H r = some t/\ KB.free t = true/\ base <=
 r/\ s + List.length o <= KB.size t/\ ∀ u:Heap,Upd H r s t o u->0 <= i/\ i <= (↑(N e) : Int)/\ N e <= c/\ ∀ v:O,(i < (c:Int)->v = Option.map (fun w =>Addr.add w (N i * 2)) a)->(min 1 (N e - N i) = 0->f (SV.v (S a (N e) c)) own u)/\ (min 1 (N e - N i) ≠ 0->∃ (w:List Value) (x y z a1:Nat) (b1:KB),List.length w = min 1 (N e - N i) * 2/\ allOne w = true/\ some (D g 0 none) = some (D x y none)/\ cellsAt u x y 0 w/\ v = some (D z a1 none)/\ u z = some b1/\ KB.free b1 = true/\ base <= z/\ a1 + List.length w <= KB.size b1/\ ∀ c1:Heap,Upd u z a1 b1 w c1->f (SV.v (S a (N e) c)) own c1)))))) := by kernel_rfl
theorem vcI123 (a : O) (n c : Nat) (i j : Int) (base : Nat) (H0 : Heap) (own : List Bx) (H : Heap) (f : SV->List Bx->Heap->Prop) :
 (codeI ⟨Tryz.prog, Tryz.f236.ntmps, ⟨TryzList, TryzIn2, true⟩, base, H0⟩ Tryz.f236 [.v (S a n c), .v (I Z i), .v (I Z j)] own H f) = (
 0 <= i/\ i <= j/\ j <= (n:Int)/\ (n:Int) <= (c:Int)/\ ∀ b:O,(i < (n:Int)->b = Option.map (fun d =>Addr.add d (N i * 2)) a)->(i = j->f (SV.v (S a n c)) own H)/\ (¬i = j->0 <= i/\ i <= (c:Int)/\ 0 <= j/\ j <= (n:Int)/\ n <= c/\ ∀ d:O,(j < (c:Int)->d = Option.map (fun e =>Addr.add e (N j * 2)) a)->∃ e g:List Value,Row base H 91 2 a (N i) c e/\ List.length g = (n - N j) * 2/\ allOne g = true/\ (n - N j = 0∨∃ h k,d = some (D h k none)/\ cellsAt H h k 0 g)/\ (N i + (n - N j)) * 16 <= 140737488355328/\ N i + (n - N j) <= 9223372036854775807/\ ∀ (h:O) (k:Nat) (l:Heap),Grew base H l a c h k (N i + (n - N j))->Row base l 91 2 h (N i + (n - N j)) k (e ++ g)->0 <= (↑(N i + (n - N j)) : Int)/\ (↑(N i + (n - N j)) : Int) <= (n:Int)/\ (n:Int) <= (k:Int)/\ ∀ m:O,((↑(N i + (n - N j)) : Int) < (k:Int)->m = Option.map (fun o =>Addr.add o (N (↑(N i + (n - N j)) : Int) * 2)) h)->(N (n:Int) - N (↑(N i + (n - N j)) : Int) = 0->f (SV.v (S h (N i + (n - N j)) k)) own l)/\ (N (n:Int) - N (↑(N i + (n - N j)) : Int) ≠ 0->∃ (o p:Nat) (q:KB),m = some (D o p none)/\ l o = some q/\ KB.free q = true/\ base <= o/\ p + (N (n:Int) - N (↑(N i + (n - N j)) : Int)) * 2 <= KB.size q/\ ∀ r:Heap,Upd l o p q (List.flatten (List.replicate (N (n:Int) - N (↑(N i + (n - N j)) : Int)) [I Z 0,I Z 0])) r->f (SV.v (S h (N i + (n - N j)) k)) own r))) := by kernel_rfl
theorem vcI53 (a : O) (n c : Nat) (i j : Int) (base : Nat) (H0 : Heap) (own : List Bx) (H : Heap) (f : SV->List Bx->Heap->Prop) :
 (codeI ⟨Tryz.prog, Tryz.f43.ntmps, ⟨TryzList, TryzIn2, true⟩, base, H0⟩ Tryz.f43 [.v (S a n c), .v (I Z i), .v (I Z j)] own H f) = (
 0 <= i/\ i <= j/\ j <= (n:Int)/\ (n:Int) <= (c:Int)/\ ∀ b:O,(i < (n:Int)->b = Option.map (fun d =>Addr.add d (N i * 6)) a)->(i = j->f (SV.v (S a n c)) own H)/\ (¬i = j->0 <= i/\ i <= (c:Int)/\ 0 <= j/\ j <= (n:Int)/\ n <= c/\ ∀ d:O,(j < (c:Int)->d = Option.map (fun e =>Addr.add e (N j * 6)) a)->∃ e g:List Value,Row base H 74 6 a (N i) c e/\ List.length g = (n - N j) * 6/\ allOne g = true/\ (n - N j = 0∨∃ h k,d = some (D h k none)/\ cellsAt H h k 0 g)/\ (N i + (n - N j)) * 56 <= 140737488355328/\ N i + (n - N j) <= 9223372036854775807/\ ∀ (h:O) (k:Nat) (l:Heap),Grew base H l a c h k (N i + (n - N j))->Row base l 74 6 h (N i + (n - N j)) k (e ++ g)->0 <= (↑(N i + (n - N j)) : Int)/\ (↑(N i + (n - N j)) : Int) <= (n:Int)/\ (n:Int) <= (k:Int)/\ ∀ m:O,((↑(N i + (n - N j)) : Int) < (k:Int)->m = Option.map (fun o =>Addr.add o (N (↑(N i + (n - N j)) : Int) * 6)) h)->(N (n:Int) - N (↑(N i + (n - N j)) : Int) = 0->f (SV.v (S h (N i + (n - N j)) k)) own l)/\ (N (n:Int) - N (↑(N i + (n - N j)) : Int) ≠ 0->∃ (o p:Nat) (q:KB),m = some (D o p none)/\ l o = some q/\ KB.free q = true/\ base <= o/\ p + (N (n:Int) - N (↑(N i + (n - N j)) : Int)) * 6 <= KB.size q/\ ∀ r:Heap,Upd l o p q (List.flatten (List.replicate (N (n:Int) - N (↑(N i + (n - N j)) : Int)) [I Z 0,I Z 0,B false,B false,I Z 0,S none 0 0])) r->f (SV.v (S h (N i + (n - N j)) k)) own r))) := by kernel_rfl
open Go Go.Proofs
theorem Row.cellsAt {base : Nat} {H : Heap} {e : TypeId} {sz : Nat} {g n c : Nat} {xs : List Value} (h : Row base H e sz (some ⟨g, 0, none⟩) n c xs) {k : Nat} (hk : k <= xs.length) (hn : 0 < n) : cellsAt H g k 0 (xs.drop k) := by
 obtain ⟨b, kb, ha, _, _, hH, _, _, hc⟩ := h.block hn
 obtain rfl : g = b := by simpa using ha
 refine cellsAt_of _ 0 fun j v hj => ?_
 rw [List.getElem?_drop] at hj
 unfold Heap.cell
 rw [hH]
 have := hc _ v hj
 rw [Nat.zero_add]; exact this
theorem box_cellsAt {H : Heap} {g : Nat} {e : TypeId} {cs : List Value} (h : H g = some (boxKB e cs)) : Vg.cellsAt H g 0 0 cs :=
 cellsAt_of _ 0 fun j v hj => by unfold Heap.cell; rw [h]; simpa [boxKB] using hj
theorem allOne_mem {xs : List Value} : allOne xs = true ↔ ∀ v ∈ xs, v.oneCell' = true := by
 induction xs with
 | nil => simp [allOne]
 | cons x r ih => simp [allOne, ih]
theorem allOne_drop {xs : List Value} (h : allOne xs = true) (k : Nat) : allOne (xs.drop k) = true := allOne_mem.2 fun v hv => allOne_mem.1 h v (List.mem_of_mem_drop hv)
theorem Row.past {base : Nat} {H H' : Heap} {e : TypeId} {sz : Nat} {a : O} {n c b o : Nat} {k : KB} {xs vs : List Value} (h : Row base H e sz a n c xs) (ha : a = some ⟨b, 0, none⟩) (hc : c ≠ 0) (hk : H b = some k) (ho : xs.length <= o) (hu : Upd H b o k vs H') : Row base H' e sz a n c xs := by
 obtain ⟨h1, h2, h3, h4⟩ := h
 rcases h4 with ⟨_, h5⟩ | ⟨g, k', hg, hbg, hH, h6, h7, h8, h9⟩
 ·exact absurd h5 hc
 ·rw [ha] at hg
  simp only [Option.some.injEq, Addr.mk.injEq, and_true] at hg
  subst hg
  rw [hk] at hH
  obtain rfl := Option.some.inj hH
  refine ⟨h1, h2, h3, .inr ⟨b, _, ha, hbg, hu.here, h6, h7, h8, fun j v hv => ?_⟩⟩
  have hj := (List.getElem?_eq_some_iff.1 hv).1
  simp only [updCells]
  rw [if_neg (by omega)]
  exact h9 j v hv
theorem Grew.refl {base : Nat} {H : Heap} {a : O} {c nn : Nat} : Grew base H H a c a c nn :=
 ⟨fun _ _ h _ => h, fun x k h h' => by (rw [h] at h'; cases h'), fun hc _ _ => .inr ⟨rfl, hc⟩, fun _ => ⟨rfl, rfl⟩⟩
theorem Grew.upd {base : Nat} {H H' H'' : Heap} {a : O} {c nn b o : Nat} {k : KB} {vs : List Value} (h : Grew base H H' a c a c nn) (ha : a = some ⟨b, 0, none⟩) (hc : c ≠ 0) (hk : H' b = some k) (hu : Upd H' b o k vs H'') : Grew base H H'' a c a c nn :=
 ⟨fun x kx hx hne => by
  have hb : x ≠ b := fun e => by
   subst e
   rcases hne with hne | hne
   ·exact hc hne
   ·exact hne ha
  rw [hu.there x hb]; exact h.keep x kx hx hne, fun x kx hx hn => by
  by_cases e : x = b
  ·subst e; exact h.fresh x k hk hn
  ·rw [hu.there x e] at hx; exact h.fresh x kx hx hn, h.place, h.room⟩
def delF (base sz : Nat) (e : TypeId) (bytes : Nat) (z : List Value) (own : List Bx) (H : Heap) (f : SV->List Bx->Heap->Prop) (a : O) (n c : Nat) (i j : Int) : Prop :=
 0 <= i/\ i <= j/\ j <= (↑n : Int)/\ (↑n : Int) <= (↑c : Int)/\ ∀ (a' : O), (i < (↑n : Int)->a' = Option.map (fun (ad : Addr) => Addr.add ad (Int.toNat i * sz)) a)->(i = j->f (SV.v (Value.slice a n c)) own H)/\ (¬i = j->0 <= i /\ 
 i <= (↑c : Int)/\ 0 <= j/\ j <= (↑n : Int)/\ n <= c/\ ∀ (a' : O), (j < (↑c : Int)->a' = Option.map (fun (ad : Addr) => Addr.add ad (Int.toNat j * sz)) a)->∃ (xs : List Value), ∃ (cells : List Value), Row base H e sz a (Int.toNat
 i) c xs/\ List.length cells = (n - Int.toNat j) * sz/\ allOne cells = true/\ (n - Int.toNat j = 0 ∨ ∃ (b : Nat), ∃ (o : Nat), a' = some (Addr.mk b o none)/\ cellsAt H b o 0 cells)/\ (Int.toNat i + (n - Int.toNat j)) * bytes <=
 140737488355328/\ Int.toNat i + (n - Int.toNat j) <= 9223372036854775807/\ ∀ (a' : O) (c' : Nat) (H' : Heap), Grew base H H' a c a' c' (Int.toNat i + (n - Int.toNat j))->Row base H' e sz a' (Int.toNat i + (n - Int.toNat j)) c' (xs ++ cells)->0 <= (↑(Int.toNat
 i + (n - Int.toNat j)) : Int)/\ (↑(Int.toNat i + (n - Int.toNat j)) : Int) <= (↑n : Int)/\ (↑n : Int) <= (↑c' : Int)/\ ∀ (a'_1 : O), ((↑(Int.toNat i + (n - Int.toNat j)) : Int) < (↑c' : Int)->a'_1 = Option.map (fun (ad : Addr)
 => Addr.add ad (Int.toNat (↑(Int.toNat i + (n - Int.toNat j)) : Int) * sz)) a')->(Int.toNat (↑n : Int) - Int.toNat (↑(Int.toNat i + (n - Int.toNat j)) : Int) = 0->f (SV.v (Value.slice a' (Int.toNat i + (n - Int.toNat j)) c')) own H')
 /\ (Int.toNat (↑n : Int) - Int.toNat (↑(Int.toNat i + (n - Int.toNat j)) : Int) ≠ 0->∃ (b : Nat), ∃ (o : Nat), ∃ (k : KB), a'_1 = some (Addr.mk b o none)/\ H' b = some k/\ KB.free k = true/\ base <= b/\ o + (Int.toNat (↑n : Int) -
 Int.toNat (↑(Int.toNat i + (n - Int.toNat j)) : Int)) * sz <= KB.size k/\ ∀ (H'_1 : Heap), Upd H' b o k (List.flatten (List.replicate (Int.toNat (↑n : Int) - Int.toNat (↑(Int.toNat i + (n - Int.toNat j)) : Int)) z)) H'_1->f (SV.v (Value.slice a' (Int.toNat i + (n - Int.toNat j)) c')) own H'_1))
def delP (base sz : Nat) (e : TypeId) (own : List Bx) (H : Heap) (f : SV->List Bx->Heap->Prop) (a : O) (n c : Nat) (i j : Int) : Prop :=
 ∃ (xs : List Value) (k m : Nat), i = (k : Int)/\ j = (m : Int)/\ k <= m/\ m <= n/\ n <= 1000000/\ Row base H e sz a n c xs/\ allOne xs = true /\ 
  ∀ H', Grew base H H' a c a c (k + (n - m))->Row base H' e sz a (k + (n - m)) c (xs.take (k * sz) ++ xs.drop (m * sz))->f (.v (.slice a (k + (n - m)) c)) own H'
theorem del_sum {base sz : Nat} {e : TypeId} {bytes : Nat} (hb : bytes <= 100000) {z : List Value} {own : List Bx} {H : Heap} {f : SV->List Bx->Heap->Prop} {a : O} {n c : Nat} {i j : Int} (h : delP base sz e own H f a n c i j) : delF base sz e bytes z own H f a n c i j := by
 obtain ⟨xs, k, m, rfl, rfl, hkm, hmn, hn6, hR, h1, h⟩ := h
 have hnc := hR.2.1
 have hxl := hR.1
 have hmx := hR.2.2.1
 simp only [maxLen] at hmx
 unfold delF
 simp only [Int.toNat_natCast]
 refine ⟨by omega, by omega, by omega, by omega, fun a1 ha1 => ⟨fun hkm2 => ?_, fun hne => ⟨by omega, by omega, by omega, by omega, by omega, fun a2 ha2 => ?_⟩⟩⟩
 ·obtain rfl : k = m := by omega
  have := h H Grew.refl (by rw [List.take_append_drop, show k + (n - k) = n from by omega]; exact hR)
  rw [show k + (n - k) = n from by omega] at this
  exact this
 have hn0 : 0 < n := by omega
 obtain ⟨b, kb, ha, hbase, hc0, hHb, hfree, hsz, hcl⟩ := hR.block hn0
 subst ha
 have hms : m * sz <= n * sz := Nat.mul_le_mul_right _ hmn
 have hby : (k + (n - m)) * bytes <= 1000000 * 100000 := Nat.mul_le_mul (by omega) hb
 refine ⟨xs.take (k * sz), xs.drop (m * sz), hR.short (by omega), by rw [List.length_drop, hxl, Nat.sub_mul], allOne_drop h1 _, ?_, by omega, by omega, fun a3 c3 H3 hG hR3 => ?_⟩
 ·by_cases hz : n - m = 0
  ·exact .inl hz
  ·refine .inr ⟨b, m * sz, ?_, hR.cellsAt (by omega) hn0⟩
   rw [ha2 (by omega)]; simp [addr_add]
 ·obtain ⟨rfl, rfl⟩ := hG.room (by omega)
  have hlt : k + (n - m) < n := by omega
  refine ⟨by omega, by omega, by omega, fun a4 ha4 => ⟨fun hz => by omega, fun _ => ?_⟩⟩
  have hR3b := hR3.2.2.2
  rcases hR3b with ⟨_, h0⟩ | ⟨g, kg, hg, hgb, hHg, _, hgs, hgf, _⟩
  ·exact absurd h0 hc0
  obtain rfl : b = g := by simpa using hg
  refine ⟨b, (k + (n - m)) * sz, kg, ?_, hHg, hgf, hbase, ?_, fun H4 hu => ?_⟩
  ·rw [ha4 (by omega)]; simp [addr_add]
  ·rw [hgs, ← Nat.add_mul]; exact Nat.mul_le_mul_right _ (by omega)
  ·exact h H4 (hG.upd rfl hc0 hHg hu) (hR3.past rfl hc0 hHg (by rw [hR3.1]; exact Nat.le_refl _) hu)
def insP (base : Nat) (own : List Bx) (H : Heap) (f : SV->List Bx->Heap->Prop) (a : O) (n c : Nat) (i : Int) (g : Nat) : Prop :=
 ∃ (xs cells : List Value) (k : Nat), i = (k : Int)/\ k <= n/\ n <= 1000000/\ Row base H 91 2 a n c xs/\ allOne xs = true/\ cells.length = 2/\ allOne cells = true/\ H g = some (boxKB 91 cells)/\ (c ≠ 0->a ≠ some ⟨g, 0, none⟩) /\ 
  ∀ a' c' H', Grew base H H' a c a' c' (n + 1)->Row base H' 91 2 a' (n + 1) c' (xs.take (k * 2) ++ cells ++ xs.drop (k * 2))->f (.v (.slice a' (n + 1) c')) own H'
theorem overlaps_apart {H : Heap} {g b o lb cb : Nat} {k kg : KB} (hg : H g = some kg) (hgf : kg.free = true) (hb : H b = some k) (hks : k.size ≠ 0) (hne : g ≠ b) :
  ExtRuns Tryz.prog H 258 [.slice (some ⟨g, 0, none⟩) 1 1, .slice (some ⟨b, o, none⟩) lb cb] (.bool false) := fun w hw => by
 obtain ⟨cg, frg, hcg, hsg, hfg, _⟩ := hw g _ hg
 obtain rfl := hfg hgf
 obtain ⟨cb', frb, hcb, hsb, _, _⟩ := hw b _ hb
 have h48 : ∀ w, (Go.sizeOf 91).run Tryz.prog w = .ok 2 w := fun w => by have z := Tryz.sizeOf91; exact z w
 rw [run_callFunc_extern Tryz.func258 (by kernel_rfl) (by kernel_rfl) (by kernel_rfl) (e := Extern.SlicesOverlaps.overlaps #[22, 22] #[4]) (by kernel_rfl)]
 rw [Lib.run_overlaps_apart w 22 4 91 Tryz.underlying22 2 h48 ⟨g, 0, none⟩ ⟨b, o, none⟩ 1 1 lb cb hne kg.ty k.ty cg.size cb'.size (by simp [World.shape?, hcg]) (by simp [World.shape?, hcb]) (by omega) (by simp [World.frozen?, hcg]) (by simp [World.frozen?, hcg])]
 rfl
theorem ins_list {xs cells zs : List Value} {k n : Nat} (hk : k <= n) (hx : xs.length = n * 2) (hc : cells.length = 2) (hz : zs.length = (n + 1 - k) * 2) :
  setRange (setRange (xs.take (k * 2) ++ zs) (k * 2) cells) ((k + 1) * 2) (xs.drop (k * 2)) = xs.take (k * 2) ++ cells ++ xs.drop (k * 2) := by
 have e1 : (xs.take (k * 2)).length = k * 2 := by rw [List.length_take]; omega
 have h1 : setRange (xs.take (k * 2) ++ zs) (k * 2) cells = xs.take (k * 2) ++ setRange zs 0 cells := by
  have := setRange_app (xs := xs.take (k * 2)) (vs := cells) (ys := zs) (o := 0) (by omega)
  rw [e1, Nat.add_zero] at this
  exact this
 have h2 : setRange zs 0 cells = cells ++ zs.drop 2 := by
  rw [setRange_eq _ _ _ (by omega)]; simp [hc]
 rw [h1, h2, ← List.append_assoc]
 have h3 := setRange_app (xs := xs.take (k * 2) ++ cells) (vs := xs.drop (k * 2)) (ys := zs.drop 2) (o := 0) (by simp; omega)
 rw [show (xs.take (k * 2) ++ cells).length + 0 = (k + 1) * 2 from by simp; omega] at h3
 rw [h3, setRange_whole (by simp; omega)]
theorem ins_sum {base : Nat} {H0 : Heap} {own : List Bx} {H : Heap} {f : SV->List Bx->Heap->Prop} {a : O} {n c : Nat} {i : Int} {g : Nat} (h : insP base own H f a n c i g) :
  codeI ⟨Tryz.prog, Tryz.f235.ntmps, ⟨TryzList, TryzIn2, true⟩, base, H0⟩ Tryz.f235 [.v (.slice a n c), .v (.int .i64 i), .v (.slice (some ⟨g, 0, none⟩) 1 1)] own H f := by
 rw [vcI122]
 obtain ⟨xs, cells, k, rfl, hk, hn6, hR, hx1, hcl, hc1, hg, hga, h⟩ := h
 have hnc := hR.2.1
 have hxl := hR.1
 have hcm := hR.2.2.1
 simp only [maxLen] at hcm
 have hgc := box_cellsAt hg
 simp only [Int.toNat_natCast]
 refine ⟨by omega, by omega, hnc, fun a1 _ => ⟨fun h => absurd h (by decide), fun _ => ⟨fun hkn => ?_, fun hkn => ?_⟩⟩⟩
 ·obtain rfl : k = n := by omega
  refine ⟨xs, cells, hR, by omega, hc1, .inr ⟨g, 0, rfl, hgc⟩, by omega, by omega, fun a2 c2 H2 hG hR2 => h a2 c2 H2 hG ?_⟩
  rw [List.take_of_length_le (by omega), List.drop_eq_nil_of_le (by omega), List.append_nil]
  exact hR2
 rintro r rfl
 rw [wrap_in (by omega) (by omega)]
 have hn0 : 0 < n := by omega
 obtain ⟨b, kb, ha, hbase, hc0, hHb, hfree, hsz, hcell⟩ := hR.block hn0
 subst ha
 have hgb : g ≠ b := fun e => hga hc0 (by rw [e])
 refine ⟨fun hroom => ?_, fun hroom => ?_⟩
 ·refine ⟨by omega, by omega, ?_⟩
  rintro r rfl
  rw [wrap_in (by omega) (by omega)]
  rintro r rfl
  rw [wrap_in (by omega) (by omega)]
  refine ⟨xs.take (k * 2), n + 1 - k, by omega, by omega, by omega, hR.short hk, by omega, by omega, fun g1 c1 H1 hN1 hg1 hR1 => ?_⟩
  have e1 : k + (n + 1 - k) = n + 1 := by omega
  rw [e1] at hR1 ⊢
  have hne1 : g1 ≠ g := fun e => by rw [e, hg] at hg1; cases hg1
  have hne2 : g1 ≠ b := fun e => by rw [e, hHb] at hg1; cases hg1
  refine ⟨by omega, by omega, hR1.2.1, fun a2 ha2 => ⟨fun h => by omega, fun _ => ?_⟩⟩
  obtain ⟨b1, k1, hb1, hbs1, hc10, hH1, hf1, hs1, _⟩ := hR1.block (by omega)
  obtain rfl : g1 = b1 := by simpa using hb1
  have hc1n := hR1.2.1
  refine ⟨cells, g, 0, g1, k * 2, k1, by omega, hc1, rfl, cellsAt_ext hN1.ext hgc, by rw [ha2 (by omega)]; simp [addr_add], hH1, hf1, hbs1, by rw [hs1]; omega, fun H2 hu2 => ?_⟩
  rintro r rfl
  try rw [wrap_in (by omega) (by omega)]
  have hR2 := hR1.upd rfl hc10 hH1 (o := k * 2) (vs := cells) (by rw [hR1.1]; omega) hu2
  refine ⟨by omega, by omega, by omega, fun a3 ha3 => ⟨by omega, by omega, hnc, fun a4 ha4 => ⟨fun h => by omega, fun _ => ?_⟩⟩⟩
  have hHb2 : H2 b = some kb := by rw [hu2.there b (fun e => hne2 e.symm)]; exact hN1.ext b kb hHb
  have hRb2 : Row base H2 91 2 (some ⟨b, 0, none⟩) n c xs := ⟨hxl, hnc, hR.2.2.1, .inr ⟨b, kb, rfl, hbase, hHb2, by
   rcases hR.2.2.2 with ⟨h0, _⟩ | ⟨b', kb', hb', _, hH', hty, _⟩
   ·omega
   ·obtain rfl : b = b' := by simpa using hb'
    rw [hHb] at hH'; cases hH'; exact hty, hsz, hfree, hcell⟩⟩
  obtain ⟨b2, k2, hb2, _, _, hH2, hf2, hs2, _⟩ := hR2.block (by omega)
  obtain rfl : g1 = b2 := by simpa using hb2
  refine ⟨xs.drop (k * 2), b, k * 2, g1, (k + 1) * 2, k2, by rw [List.length_drop]; omega, allOne_drop hx1 _, by rw [ha4 (by omega)]; simp [addr_add], hRb2.cellsAt (by omega) hn0, by rw [ha3 (by omega)]; simp [addr_add]; try omega, hH2, hf2, hbs1, by rw [hs2, List.length_drop]; omega, fun H3 hu3 => ?_⟩
  have hR3 := hR2.upd rfl hc10 hH2 (o := (k + 1) * 2) (vs := xs.drop (k * 2)) (by rw [hR2.1, List.length_drop]; omega) hu3
  rw [ins_list hk hxl hcl (by simp)] at hR3
  refine h _ _ H3 ⟨fun x kx hx _ => ?_, fun x kx hx hn => ?_, fun _ x hx => ?_, fun h => by omega⟩ hR3
  ·have hne : x ≠ g1 := fun e => by rw [e, hg1] at hx; cases hx
   rw [hu3.there x hne, hu2.there x hne]; exact hN1.ext x kx hx
  ·by_cases e : x = g1
   ·subst e; exact hbs1
   ·rw [hu3.there x e, hu2.there x e] at hx; exact hN1.fresh x kx hx hn
  ·obtain rfl : g1 = x := by simpa using hx
   exact .inl hg1
 ·rintro r rfl
  rw [wrap_in (by omega) (by omega)]
  refine ⟨by omega, by omega, ?_⟩
  rintro r rfl
  rw [show Int.toNat ((n : Int) + 1) = n + 1 from by omega, show Int.toNat ((k : Int) + 1) = k + 1 from by omega]
  refine ⟨by omega, by omega, by omega, fun a2 ha2 => ?_⟩
  obtain rfl : a2 = some ⟨b, (k + 1) * 2, none⟩ := by rw [ha2 (by omega)]; simp [addr_add]
  refine ⟨overlaps_apart hg rfl hHb (by omega) hgb, ?_⟩
  rintro r rfl
  rw [show Int.toNat ((k : Int) + 1) = k + 1 from by omega]
  refine ⟨by omega, by omega, by omega, fun a3 ha3 => ⟨by omega, by omega, by omega, fun a4 ha4 => ⟨fun h => by omega, fun _ => ?_⟩⟩⟩
  have hm : min (n + 1 - k) (n + 1 - (k + 1)) = n - k := by omega
  refine ⟨xs.drop (k * 2), b, k * 2, b, (k + 1) * 2, kb, by rw [List.length_drop, hm]; omega, allOne_drop hx1 _, by rw [ha4 (by omega)]; simp [addr_add], hR.cellsAt (by omega) hn0, by rw [ha3 (by omega)]; simp [addr_add], hHb, hfree, hbase, by rw [hsz, List.length_drop]; omega, fun H3 hu3 => ⟨by omega, by omega, by omega, fun a5 ha5 => ⟨fun h => by omega, fun _ => ?_⟩⟩⟩
  have hm1 : min 1 (n + 1 - k) = 1 := by omega
  refine ⟨cells, g, 0, b, k * 2, _, by rw [hm1]; omega, hc1, rfl, box_cellsAt (by rw [hu3.there g hgb]; exact hg), by rw [ha5 (by omega)]; simp [addr_add], hu3.here, hfree, hbase, by show k * 2 + cells.length <= kb.size; rw [hsz]; omega, fun H4 hu4 => ?_⟩
  refine h _ _ H4 (Grew.upd (Grew.upd Grew.refl rfl hc0 hHb hu3) rfl hc0 hu3.here hu4) ⟨by simp; omega, by omega, hR.2.2.1, .inr ⟨b, _, rfl, hbase, hu4.here, ?_, hsz, hfree, fun j v hj => ?_⟩⟩
  ·rcases hR.2.2.2 with ⟨h0, _⟩ | ⟨b', kb', hb', _, hH', hty, _⟩
   ·omega
   ·obtain rfl : b = b' := by simpa using hb'
    rw [hHb] at hH'; cases hH'; exact hty
  ·simp only [updCells, hcl, List.length_drop, hxl]
   rw [List.append_assoc] at hj
   by_cases c1 : j < k * 2
   ·rw [List.getElem?_append_left (by simp; omega), List.getElem?_take, if_pos c1] at hj
    rw [if_neg (by omega), if_neg (by omega)]
    exact hcell j v hj
   ·rw [List.getElem?_append_right (by simp; omega), show j - (xs.take (k * 2)).length = j - k * 2 from by simp; omega] at hj
    by_cases c2 : j < (k + 1) * 2
    ·rw [List.getElem?_append_left (by omega)] at hj
     rw [if_pos (by omega)]; exact hj
    ·rw [List.getElem?_append_right (by omega)] at hj
     have hlt := (List.getElem?_eq_some_iff.1 hj).1
     rw [List.length_drop] at hlt
     rw [if_neg (by omega), if_pos (by omega), show j - (k + 1) * 2 = j - k * 2 - cells.length from by omega]
     exact hj
end Go.Vg
