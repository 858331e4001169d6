/- What is proved here: what a law's arguments hold, in words of known memory; and that they are the same behind the call. -/
import Derived.Test.YtglnjkkaojhgnaaGreatDoorLaw
import Derived.Test.YtglnjkkaojhgnaaGreatDoorRep
import Derived.ChangeStays
import Derived.ChangeOld
import Derived.ChangeArms
import Derived.ChangeSlices
import Derived.Test.YtglnjkkaojhgnaaGreatDoorRp3
import Derived.Test.YtglnjkkaojhgnaaGreatDoorC9
set_option linter.unusedSimpArgs false
set_option linter.unusedVariables false
namespace Go.Vg
open Go Go.Proofs
open Go.ChangeShapes Go.WideShapes Go.ChangeAt Go.RowKit
/-- All that a world's cells hold. -/
def heapOf (w : World) : Heap := fun b =>
  match w.heap[b]? with
  | some (.cells cur ty fr) => some ⟨ty, cur.size, decide (fr = (0, 0)), fun j => cur[j]?⟩
  | _ => none
theorem sees_heapOf (w : World) : Sees (heapOf w) w := by
  intro b k h
  unfold heapOf at h
  split at h
  · rename_i cur ty fr hw
    obtain rfl := Option.some.inj h
    exact ⟨cur, fr, hw, rfl, fun h => by simpa using h, fun j v hj => hj⟩
  · cases h
theorem heapOf_cell {w : World} {b o : Nat} {s : Option Nat} {v : Value} (h : w.cell? ⟨b, o, s⟩ = some v) : s = none ∧ (heapOf w).cell b o = some v := by
  unfold World.cell? at h
  unfold Heap.cell heapOf
  split at h
  · rename_i c t f hw
    split at h
    · cases h
    · rename_i hs
      dsimp only at hw
      rw [hw]
      exact ⟨by cases s with | none => rfl | some x => simp at hs, by simpa using h⟩
  · cases h
theorem cells_get {w : World} {base : Nat} {a : Addr} {n : Nat} {cs : List Value} (h : w.cells? base a n = some cs) : cs.length = n ∧ ∀ (j : Nat) v, cs[j]? = some v → w.cell? (a.add j) = some v := by
  obtain ⟨h1, h2⟩ : cs.length = n ∧ ∀ (j : Nat) v, cs[j]? = some v → w.cell? (a.add j) = some v := by
    unfold World.cells? at h
    split at h
    · have hl := mapM_some_length h
      refine ⟨by simpa using hl, fun j v hj => ?_⟩
      have hjn : j < n := by have := (List.getElem?_eq_some_iff.1 hj).1; simp at hl; omega
      have := mapM_some_get h j j (by simp [hjn])
      rw [this]; exact hj
    · cases h
  exact ⟨h1, h2⟩
theorem list_of_all {α : Type} {Q : Nat → α → Prop} : ∀ (n : Nat), (∀ i, i < n → ∃ x, Q i x) → ∃ xs : List α, xs.length = n ∧ ∀ (i : Nat) x, xs[i]? = some x → Q i x
  | 0, _ => ⟨[], rfl, by simp⟩
  | n + 1, h => by
    obtain ⟨xs, hl, hq⟩ := list_of_all n fun i hi => h i (by omega)
    obtain ⟨x, hx⟩ := h n (by omega)
    refine ⟨xs ++ [x], by simp [hl], fun i y hy => ?_⟩
    by_cases hi : i < n
    · rw [List.getElem?_append_left (by omega)] at hy; exact hq i y hy
    · rw [List.getElem?_append_right (by omega)] at hy
      have : i = n := by
        have := (List.getElem?_eq_some_iff.1 hy).1
        simp at this; omega
      subst this
      rw [hl, Nat.sub_self] at hy
      simp at hy; subst hy; exact hx
section
variable {HH : Type} {enc : TypeId × Value → HH} {P : Program} {w : World} {base : Nat} {spare : Nat → Bool} {held : Bool}
/-- What an element's cells stand for. -/
def ReadsAs (enc : TypeId × Value → HH) (P : Program) (w : World) (base : Nat) (spare : Nat → Bool) (held : Bool) (t : TypeId) {α : Type} (R : Rep α) : Prop :=
  ∀ (fuel : Nat) (cs : List Value) (x : DataW HH × List MemPlace), DataW.trod enc P w base spare held fuel t cs = some x → ∃ y : α, R (heapOf w) cs y
theorem reads_int {t : TypeId} (ht : P.underlying t = some (.int .i64)) : ReadsAs enc P w base spare held t RInt := fun _ _ _ h => by
  obtain ⟨n, rfl, _⟩ := DataW.trod_int ht h
  exact ⟨n, rfl⟩
theorem reads_bool {t : TypeId} (ht : P.underlying t = some .bool) : ReadsAs enc P w base spare held t RBool := fun _ _ _ h => by
  obtain ⟨n, rfl, _⟩ := DataW.trod_bool ht h
  exact ⟨n, rfl⟩
theorem add_add {b o : Nat} {s : Option Nat} {m j : Nat} (h : ((⟨b, o, s⟩ : Addr).add m).add j = (⟨b, o + m + j, none⟩ : Addr) ∨ (m = 0 ∧ j = 0)) : True := trivial
theorem reads_slice {t e : TypeId} {sz : Nat} {α : Type} {R : Rep α} (ht : P.underlying t = some (.slice e)) (hc : P.cellsOf e = sz) (h0 : 0 < sz) (hR : ReadsAs enc P w base spare held e R) (hlen : ∀ {H : Heap} {r : List Value} {x : α}, R H r x → r.length = sz) :
    ReadsAs enc P w base spare held t (RSl R sz) := fun fuel cs x h => by
  rcases DataW.trod_slice ht h with ⟨rfl, rfl⟩ | ⟨a, len, cap, elems, rest, n, rfl, rfl, rfl, hb, hl, hm, hlen', hel, _, _⟩
  · exact ⟨[], none, 0, 0, rfl, Sl.nil⟩
  · have hmax : maxLen = 9223372036854775807 := rfl
    have each : ∀ i, i < len → ∃ (y : α), ∃ r, R (heapOf w) r y ∧ ∀ (j : Nat) v, r[j]? = some v → w.cell? ((a.add (i * sz)).add j) = some v := by
      intro i hi
      have := hel i hi
      rw [List.getElem?_eq_getElem (by omega), Option.bind_eq_some_iff] at this
      obtain ⟨cs', hcs, hd⟩ := this
      obtain ⟨y, hy⟩ := hR _ _ _ hd
      rw [hc] at hcs
      exact ⟨y, cs', hy, fun j v hj => (cells_get hcs).2 j v hj⟩
    obtain ⟨xs, hxl, hxs⟩ := list_of_all len each
    refine ⟨xs, some a, len, cap, rfl, hxl, by omega, fun hpos => ?_⟩
    obtain ⟨b, o, s⟩ := a
    have hs : s = none := by
      obtain ⟨y, r, hr, hv⟩ := each 0 hpos
      have hrl := hlen hr
      have := hv 0 (r[0]'(by omega)) (List.getElem?_eq_getElem (by omega))
      rw [Nat.zero_mul] at this
      exact (heapOf_cell (by simpa [Addr.add] using this)).1
    subst hs
    refine ⟨b, o, rfl, fun i y hy => ?_⟩
    obtain ⟨r, hr, hv⟩ := hxs i y hy
    refine ⟨r, hr, fun j v hj => ?_⟩
    have h1 := hv j v hj
    have e1 : ((⟨b, o, none⟩ : Addr).add (i * sz)).add j = ⟨b, o + i * sz + j, none⟩ := by
      unfold Addr.add
      split <;> split <;> simp_all
    rw [e1] at h1
    exact (heapOf_cell h1).2
theorem RInt.len {H : Heap} {r : List Value} {x : Int} (h : RInt H r x) : r.length = 1 := by cases h; rfl
theorem RBool.len {H : Heap} {r : List Value} {x : Bool} (h : RBool H r x) : r.length = 1 := by cases h; rfl
theorem RSl.len {α : Type} {R : Rep α} {sz : Nat} {H : Heap} {r : List Value} {x : List α} (h : RSl R sz H r x) : r.length = 1 := by obtain ⟨a, n, c, rfl, _⟩ := h; rfl
theorem arg_slice {r : Reach} {b0 : Nat} {t e : TypeId} {sz : Nat} {α : Type} {R : Rep α} {v : Value} {d : DataW HH} {ps : List MemPlace} (ht : P.underlying t = some (.slice e)) (hval : Value.okWide P w r b0 t v)
    (hR : ReadsAs enc P w base spare held t (RSl R sz)) (hd : DataW.Trod enc P w base spare held t v d ps) : ∃ a n c xs, v = .slice a n c ∧ Sl R sz (heapOf w) a n xs ∧ n ≤ c := by
  obtain ⟨a, n, c, rfl⟩ := okWide_slice ht hval
  obtain ⟨fuel, hf⟩ := hd
  obtain ⟨xs, a', n', c', h, hs⟩ := hR _ _ _ hf
  simp [Value.cells] at h
  obtain ⟨rfl, rfl, rfl⟩ := h
  refine ⟨a, n, c, xs, rfl, hs, ?_⟩
  rcases DataW.trod_slice ht hf with ⟨h, _⟩ | ⟨a2, len, cap, elems, rest, m, _, h, _, _, hl, _⟩
  · simp [Value.cells] at h; omega
  · simp [Value.cells] at h; omega
theorem arg_int {r : Reach} {b0 : Nat} {t : TypeId} {v : Value} {d : DataW HH} {ps : List MemPlace} (ht : P.underlying t = some (.int .i64)) (hval : Value.okWide P w r b0 t v) (hd : DataW.Trod enc P w base spare held t v d ps) :
    ∃ n : Int, v = i64 n ∧ -9223372036854775808 ≤ n ∧ n ≤ 9223372036854775807 := by
  obtain ⟨n, rfl, _, _, hw⟩ := open_int ht hval hd
  exact ⟨n, rfl, bounds_i64 hw⟩
theorem arg_bool {r : Reach} {b0 : Nat} {t : TypeId} {v : Value} {d : DataW HH} {ps : List MemPlace} (ht : P.underlying t = some .bool) (hval : Value.okWide P w r b0 t v) (hd : DataW.Trod enc P w base spare held t v d ps) :
    ∃ n : Bool, v = .bool n := okWide_bool ht hval
theorem arg_struct {r : Reach} {b0 : Nat} {t : TypeId} {fs : Array Field} {α : Type} {R : Rep α} {v : Value} {d : DataW HH} {ps : List MemPlace} (ht : P.underlying t = some (.struct fs)) (hval : Value.okWide P w r b0 t v)
    (hR : ReadsAs enc P w base spare held t R) (hd : DataW.Trod enc P w base spare held t v d ps) : ∃ (cs : List Value) (x : α), v = .agg cs.toArray ∧ R (heapOf w) cs x := by
  obtain ⟨cs, rfl, _⟩ := okWide_struct ht hval
  obtain ⟨fuel, hf⟩ := hd
  obtain ⟨x, hx⟩ := hR _ _ _ hf
  exact ⟨cs.toList, x, by simp, by simpa [Value.cells] using hx⟩
/-- Behind a call that turned nothing the arguments are as they were. -/
theorem sameAt_of_below {w' : World} (h : BelowX [] w w') {p : MemPlace} (hp : p.block < w.heap.size) : w.sameAt w' p := by
  cases p with
  | cell b o =>
    have := h.block b hp (by simp)
    show w'.cell? ⟨b, o, none⟩ = w.cell? ⟨b, o, none⟩
    unfold World.cell?
    dsimp only
    rw [this]
  | map b => exact h.block b hp (by simp)
theorem trodAll_stays {w' : World} (K : Kids P (· < P.types.size)) (hsz : ∀ {t e : TypeId}, t < P.types.size → P.underlying t = some (.slice e) → 0 < P.cellsOf e) (hb : BelowX [] w w') :
    ∀ {ts : List TypeId} {vs : List Value} {ds : List (DataW HH)} {ps : List MemPlace}, (∀ t ∈ ts, t < P.types.size) → DataW.TrodAll enc P w 0 (fun _ => true) true ts vs ds ps →
      DataW.TrodAll enc P w' 0 (fun b => decide (b < w.heap.size)) true ts vs ds ps
  | [], [], [], ps, _, h => h
  | t :: ts, v :: vs, d :: ds, ps, ht, h => by
    obtain ⟨p, q, ⟨fuel, h1⟩, h2, rfl⟩ := h
    refine ⟨p, q, ⟨fuel, ?_⟩, trodAll_stays K hsz hb (fun x hx => ht x (List.mem_cons_of_mem _ hx)) h2, rfl⟩
    have hlt := DataW.trod_lt fuel t _ _ h1
    exact DataW.trod_stays K hsz (fun h => by cases h) (ht t List.mem_cons_self) h1 (fun p hp => sameAt_of_below hb (hlt p hp)) (fun p hp => by simpa using hlt p hp)
  | [], _ :: _, _, _, _, h => h.elim
  | [], [], _ :: _, _, _, h => h.elim
  | _ :: _, [], _, _, _, h => h.elim
  | _ :: _, _ :: _, [], _, _, h => h.elim
end
/-- Every slice's element has a size. -/
def sizedSlices (P : Program) : Bool := (List.range P.types.size).all fun t => match P.underlying t with | some (.slice e) => decide (0 < P.cellsOf e) | _ => true
theorem sized_of {P : Program} (h : sizedSlices P = true) {t e : TypeId} (ht : t < P.types.size) (hu : P.underlying t = some (.slice e)) : 0 < P.cellsOf e := by
  have := List.all_eq_true.1 h t (List.mem_range.2 ht)
  simpa [hu] using this
theorem Tryzkids : Kids Tryz.prog (· < Tryz.prog.types.size) := kids_rows (by kernel_rfl) (by kernel_rfl)
theorem Tryzsized : sizedSlices Tryz.prog = true := by kernel_rfl
theorem TryztrodAll {HH : Type} {enc : TypeId × Value → HH} {w w' : World} (hb : BelowX [] w w') {ts : List TypeId} {vs : List Value} {ds : List (DataW HH)} {ps : List MemPlace} (ht : ∀ t ∈ ts, t < Tryz.prog.types.size) (h : DataW.TrodAll enc Tryz.prog w 0 (fun _ => true) true ts vs ds ps) :
    DataW.TrodAll enc Tryz.prog w' 0 (fun b => decide (b < w.heap.size)) true ts vs ds ps := trodAll_stays Tryzkids (sized_of Tryzsized) hb ht h
end Go.Vg
set_option linter.unusedSimpArgs false
set_option linter.unusedVariables false
namespace Go.Vg
open Go Go.Proofs
open Go.ChangeShapes Go.WideShapes Go.ChangeAt Go.RowKit
section
variable {HH : Type} {enc : TypeId × Value → HH} {w : World} {base : Nat} {spare : Nat → Bool} {held : Bool}
theorem fieldAt {P : Program} {t : TypeId} {fs : Array Field} {fuel : Nat} {cs : List Value} {x : DataW HH × List MemPlace} (ht : P.underlying t = some (.struct fs)) (h : DataW.trod enc P w base spare held fuel t cs = some x) {i : Nat} {f : Field} (hf : fs[i]? = some f) :
    ∃ n y, DataW.trod enc P w base spare held n f.type ((cs.drop f.offset).take (P.cellsOf f.type)) = some y := by
  obtain ⟨xs, n, rfl, rfl, _, hl, hx⟩ := DataW.trod_struct ht h
  have hi : i < fs.size := (Array.getElem?_eq_some_iff.1 hf).1
  exact ⟨n, xs[i]'(by omega), by rw [hx i f hf, List.getElem?_eq_getElem (by omega)]⟩
theorem structLen {P : Program} {t : TypeId} {fs : Array Field} {fuel : Nat} {cs : List Value} {x : DataW HH × List MemPlace} (ht : P.underlying t = some (.struct fs)) (h : DataW.trod enc P w base spare held fuel t cs = some x) : cs.length = P.cellsOf t := by
  obtain ⟨xs, n, rfl, rfl, hl, _⟩ := DataW.trod_struct ht h
  exact hl
/-- One integer field. -/
theorem fieldInt {P : Program} {t : TypeId} {fs : Array Field} {fuel : Nat} {cs : List Value} {x : DataW HH × List MemPlace} (ht : P.underlying t = some (.struct fs)) (h : DataW.trod enc P w base spare held fuel t cs = some x) {i : Nat} {f : Field} (hf : fs[i]? = some f) {k : Nat}
    (hu : P.underlying f.type = some (.int .i64)) (hc : P.cellsOf f.type = 1) (ho : f.offset = k) : ∃ n : Int, cs[k]? = some (i64 n) ∧ -9223372036854775808 ≤ n ∧ n ≤ 9223372036854775807 := by
  obtain ⟨m, y, hy⟩ := fieldAt ht h hf
  obtain ⟨n, h1, _, hw⟩ := DataW.trod_int hu hy
  rw [hc, ho] at h1
  refine ⟨n, ?_, bounds_i64 hw⟩
  have : ((cs.drop k).take 1)[0]? = some (i64 n) := by rw [h1]; rfl
  simpa using this
theorem fieldBool {P : Program} {t : TypeId} {fs : Array Field} {fuel : Nat} {cs : List Value} {x : DataW HH × List MemPlace} (ht : P.underlying t = some (.struct fs)) (h : DataW.trod enc P w base spare held fuel t cs = some x) {i : Nat} {f : Field} (hf : fs[i]? = some f) {k : Nat}
    (hu : P.underlying f.type = some .bool) (hc : P.cellsOf f.type = 1) (ho : f.offset = k) : ∃ n : Bool, cs[k]? = some (.bool n) := by
  obtain ⟨m, y, hy⟩ := fieldAt ht h hf
  obtain ⟨n, h1, _⟩ := DataW.trod_bool hu hy
  rw [hc, ho] at h1
  refine ⟨n, ?_⟩
  have : ((cs.drop k).take 1)[0]? = some (.bool n) := by rw [h1]; rfl
  simpa using this
theorem cells2 {cs : List Value} (h : cs.length = 2) {x y : Value} (h0 : cs[0]? = some x) (h1 : cs[1]? = some y) : cs = [x, y] := by
  match cs, h with
  | [a, b], _ => simp at h0 h1; rw [h0, h1]
theorem cells3 {cs : List Value} (h : cs.length = 3) {x y z : Value} (h0 : cs[0]? = some x) (h1 : cs[1]? = some y) (h2 : cs[2]? = some z) : cs = [x, y, z] := by
  match cs, h with
  | [a, b, c], _ => simp at h0 h1 h2; rw [h0, h1, h2]
theorem cells4 {cs : List Value} (h : cs.length = 4) {x y z u : Value} (h0 : cs[0]? = some x) (h1 : cs[1]? = some y) (h2 : cs[2]? = some z) (h3 : cs[3]? = some u) : cs = [x, y, z, u] := by
  match cs, h with
  | [a, b, c, d], _ => simp at h0 h1 h2 h3; rw [h0, h1, h2, h3]
theorem REnc.len {α : Type} {e : α → List Value} {sz : Nat} (hs : ∀ x, (e x).length = sz) {H : Heap} {r : List Value} {x : α} (h : REnc e H r x) : r.length = sz := by cases h; exact hs x
theorem reads_pin : ReadsAs enc Tryz.prog w base spare held 80 RPin := fun fuel cs x h => by
  have c3 : Tryz.prog.cellsOf 3 = 1 := by kernel_rfl
  have c48 : Tryz.prog.cellsOf 80 = 2 := by kernel_rfl
  have hl := structLen Tryz.underlying80 h
  rw [c48] at hl
  obtain ⟨a, ha, _⟩ := fieldInt Tryz.underlying80 h (i := 0) rfl Tryz.underlying3 c3 rfl
  obtain ⟨b, hb, _⟩ := fieldInt Tryz.underlying80 h (i := 1) rfl Tryz.underlying3 c3 rfl
  exact ⟨⟨a, b⟩, cells2 hl ha hb⟩
theorem reads_rule : ReadsAs enc Tryz.prog w base spare held 147 RRule := fun fuel cs x h => by
  have c3 : Tryz.prog.cellsOf 3 = 1 := by kernel_rfl
  have c54 : Tryz.prog.cellsOf 147 = 4 := by kernel_rfl
  have hl := structLen Tryz.underlying147 h
  rw [c54] at hl
  obtain ⟨a, ha, _⟩ := fieldInt Tryz.underlying147 h (i := 0) rfl Tryz.underlying3 c3 rfl
  obtain ⟨b, hb, _⟩ := fieldInt Tryz.underlying147 h (i := 1) rfl Tryz.underlying3 c3 rfl
  obtain ⟨c, hc, _⟩ := fieldInt Tryz.underlying147 h (i := 2) rfl Tryz.underlying3 c3 rfl
  obtain ⟨d, hd, _⟩ := fieldInt Tryz.underlying147 h (i := 3) rfl Tryz.underlying3 c3 rfl
  exact ⟨⟨a, b, c, d⟩, cells4 hl ha hb hc hd⟩
theorem reads_pins : ReadsAs enc Tryz.prog w base spare held 25 (RSl RPin 2) := reads_slice Tryz.underlying25 (by kernel_rfl) (by omega) reads_pin (REnc.len pinCells_len)
theorem reads_rules : ReadsAs enc Tryz.prog w base spare held 56 (RSl RRule 4) := reads_slice Tryz.underlying56 (by kernel_rfl) (by omega) reads_rule (REnc.len ruleCells_len)
theorem reads_ints : ReadsAs enc Tryz.prog w base spare held 132 (RSl RInt 1) := reads_slice Tryz.underlying132 (by kernel_rfl) (by omega) (reads_int Tryz.underlying3) RInt.len
theorem reads_waves : ReadsAs enc Tryz.prog w base spare held 57 (RSl (RSl RInt 1) 1) := reads_slice Tryz.underlying57 (by kernel_rfl) (by omega) reads_ints RSl.len
theorem reads_bools : ReadsAs enc Tryz.prog w base spare held 173 (RSl RBool 1) := reads_slice Tryz.underlying173 (by kernel_rfl) (by omega) (reads_bool Tryz.underlying4) RBool.len
end
end Go.Vg
set_option linter.unusedSimpArgs false
set_option linter.unusedVariables false
namespace Go.Vg
open Go Go.Proofs
open Go.ChangeShapes Go.WideShapes Go.ChangeAt Go.RowKit
section
variable {HH : Type} {enc : TypeId × Value → HH} {w : World} {base : Nat} {spare : Nat → Bool} {held : Bool}
/-- A field that is a slice. -/
theorem fieldSl {P : Program} {t : TypeId} {fs : Array Field} {fuel : Nat} {cs : List Value} {x : DataW HH × List MemPlace} (ht : P.underlying t = some (.struct fs)) (h : DataW.trod enc P w base spare held fuel t cs = some x) {i : Nat} {f : Field} (hf : fs[i]? = some f) {k : Nat} {α : Type} {R : Rep α} {sz : Nat}
    (hR : ReadsAs enc P w base spare held f.type (RSl R sz)) (hc : P.cellsOf f.type = 1) (ho : f.offset = k) : ∃ a n c xs, cs[k]? = some (.slice a n c) ∧ Sl R sz (heapOf w) a n xs := by
  obtain ⟨m, y, hy⟩ := fieldAt ht h hf
  obtain ⟨xs, a, n, c, h1, hs⟩ := hR _ _ _ hy
  rw [hc, ho] at h1
  refine ⟨a, n, c, xs, ?_, hs⟩
  have : ((cs.drop k).take 1)[0]? = some (.slice a n c) := by rw [h1]; rfl
  simpa using this
/-- A field that is a struct. -/
theorem fieldStruct {P : Program} {t : TypeId} {fs : Array Field} {fuel : Nat} {cs : List Value} {x : DataW HH × List MemPlace} (ht : P.underlying t = some (.struct fs)) (h : DataW.trod enc P w base spare held fuel t cs = some x) {i : Nat} {f : Field} (hf : fs[i]? = some f) {k n : Nat} {α : Type} {R : Rep α}
    (hR : ReadsAs enc P w base spare held f.type R) (hc : P.cellsOf f.type = n) (ho : f.offset = k) : ∃ x : α, R (heapOf w) ((cs.drop k).take n) x := by
  obtain ⟨m, y, hy⟩ := fieldAt ht h hf
  obtain ⟨x, hx⟩ := hR _ _ _ hy
  rw [hc, ho] at hx
  exact ⟨x, hx⟩
def RRel : Rep Rls := fun H r x => ∃ a n c, r = [i64 x.id, .slice a n c] ∧ Pins H a n x.lock
theorem reads_rel : ReadsAs enc Tryz.prog w base spare held 27 RRel := fun fuel cs x h => by
  have c3 : Tryz.prog.cellsOf 3 = 1 := by kernel_rfl
  have c40 : Tryz.prog.cellsOf 25 = 1 := by kernel_rfl
  have c59 : Tryz.prog.cellsOf 27 = 2 := by kernel_rfl
  have hl := structLen Tryz.underlying27 h
  rw [c59] at hl
  obtain ⟨i, hi, _⟩ := fieldInt Tryz.underlying27 h (i := 0) rfl Tryz.underlying3 c3 rfl
  obtain ⟨a, n, c, xs, ha, hp⟩ := fieldSl Tryz.underlying27 h (i := 1) rfl reads_pins c40 rfl
  exact ⟨⟨i, xs⟩, a, n, c, cells2 hl hi ha, hp⟩
end
end Go.Vg
set_option linter.unusedSimpArgs false
set_option linter.unusedVariables false
namespace Go.Vg
open Go Go.Proofs
open Go.ChangeShapes Go.WideShapes Go.ChangeAt Go.RowKit
section
variable {HH : Type} {enc : TypeId × Value → HH} {w : World} {base : Nat} {spare : Nat → Bool} {held : Bool}
theorem reads_rec : ReadsAs enc Tryz.prog w base spare held 29 RRec := fun fuel cs x h => by
  have c3 : Tryz.prog.cellsOf 3 = 1 := by kernel_rfl
  have c4 : Tryz.prog.cellsOf 4 = 1 := by kernel_rfl
  have c59 : Tryz.prog.cellsOf 27 = 2 := by kernel_rfl
  have c95 : Tryz.prog.cellsOf 29 = 7 := by kernel_rfl
  have hl := structLen Tryz.underlying29 h
  rw [c95] at hl
  obtain ⟨kd, h0, _⟩ := fieldInt Tryz.underlying29 h (i := 0) rfl Tryz.underlying3 c3 rfl
  obtain ⟨ag, h1, _⟩ := fieldInt Tryz.underlying29 h (i := 1) rfl Tryz.underlying3 c3 rfl
  obtain ⟨tr, h2, _⟩ := fieldInt Tryz.underlying29 h (i := 2) rfl Tryz.underlying3 c3 rfl
  obtain ⟨n0, h3, _⟩ := fieldInt Tryz.underlying29 h (i := 3) rfl Tryz.underlying3 c3 rfl
  obtain ⟨gd, h4⟩ := fieldBool Tryz.underlying29 h (i := 4) rfl Tryz.underlying4 c4 rfl
  obtain ⟨r, a, n, c, h5, hp⟩ := fieldStruct Tryz.underlying29 h (i := 5) rfl reads_rel c59 rfl
  refine ⟨⟨kd, ag, tr, n0, gd, r⟩, a, n, c, ?_, hp⟩
  match cs, hl with
  | [x0, x1, x2, x3, x4, x5, x6], _ =>
    simp at h0 h1 h2 h3 h4 h5
    obtain ⟨rfl, rfl⟩ := h5
    subst h0 h1 h2 h3 h4
    rfl
theorem reads_recs : ReadsAs enc Tryz.prog w base spare held 35 (RSl RRec 7) := reads_slice Tryz.underlying35 (by kernel_rfl) (by omega) reads_rec RRec.len
def RAgt : Rep Agt := fun H r x => ∃ a n c ga gn gc, r = [.slice a n c, i64 x.at_, i64 x.try_, .bool x.going, i64 x.goal.id, .slice ga gn gc, .bool x.good] ∧ Pins H a n x.lock ∧ Pins H ga gn x.goal.lock
theorem reads_agt : ReadsAs enc Tryz.prog w base spare held 47 RAgt := fun fuel cs x h => by
  have c3 : Tryz.prog.cellsOf 3 = 1 := by kernel_rfl
  have c4 : Tryz.prog.cellsOf 4 = 1 := by kernel_rfl
  have c40 : Tryz.prog.cellsOf 25 = 1 := by kernel_rfl
  have c59 : Tryz.prog.cellsOf 27 = 2 := by kernel_rfl
  have c86 : Tryz.prog.cellsOf 47 = 7 := by kernel_rfl
  have hl := structLen Tryz.underlying47 h
  rw [c86] at hl
  obtain ⟨a, n, c, xs, h0, hp⟩ := fieldSl Tryz.underlying47 h (i := 0) rfl reads_pins c40 rfl
  obtain ⟨at_, h1, _⟩ := fieldInt Tryz.underlying47 h (i := 1) rfl Tryz.underlying3 c3 rfl
  obtain ⟨tr, h2, _⟩ := fieldInt Tryz.underlying47 h (i := 2) rfl Tryz.underlying3 c3 rfl
  obtain ⟨go, h3⟩ := fieldBool Tryz.underlying47 h (i := 3) rfl Tryz.underlying4 c4 rfl
  obtain ⟨r, ga, gn, gc, h4, hg⟩ := fieldStruct Tryz.underlying47 h (i := 4) rfl reads_rel c59 rfl
  obtain ⟨gd, h5⟩ := fieldBool Tryz.underlying47 h (i := 5) rfl Tryz.underlying4 c4 rfl
  refine ⟨⟨xs, at_, tr, go, r, gd⟩, a, n, c, ga, gn, gc, ?_, hp, hg⟩
  match cs, hl with
  | [x0, x1, x2, x3, x4, x5, x6], _ =>
    simp at h0 h1 h2 h3 h4 h5
    obtain ⟨rfl, rfl⟩ := h4
    subst h0 h1 h2 h3 h5
    rfl
end
end Go.Vg
