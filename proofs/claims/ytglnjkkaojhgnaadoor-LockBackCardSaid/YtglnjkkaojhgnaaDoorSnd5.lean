/- Soundness of the computed verification condition: operations that write or make memory. -/
import Derived.Test.YtglnjkkaojhgnaaDoorSnd4
import Derived.Great.BuildSlice
import Derived.Maps.AppendAt
set_option linter.unusedSimpArgs false
set_option linter.unusedVariables false
namespace Go.Vg
open Go

/-- The world and what is known of it, behind part of a call that began in world w0. -/
structure StW (C : Cfg) (w0 : World) (own0 : List Nat) (own : List Bx) (H : Heap) (w : World) : Prop where
  sees : Sees H w
  boxes : BoxesOk own H w
  locs : ∀ x ∈ own, C.base ≤ x.b ∨ x.b ∈ own0
  below : BelowX own0 w0 w
  next : Next C.base C.H0 H
  base : C.base = w0.heap.size
  seen0 : Sees C.H0 w0

section
variable {C : Cfg} {w0 : World} {own0 : List Nat}
theorem StW.base_le {own : List Bx} {H : Heap} {w : World} (h : StW C w0 own0 own H w) : C.base ≤ w.heap.size := by rw [h.base]; exact h.below.size
theorem StW.h0_lt {own : List Bx} {H : Heap} {w : World} (h : StW C w0 own0 own H w) {b : Nat} {k : KB} (hb : C.H0 b = some k) : b < C.base := by rw [h.base]; exact h.seen0.lt hb

/-! ### Cells -/
theorem allOne_spec : ∀ {vs : List Value}, allOne vs = true → ∀ v ∈ vs, v.oneCell' = true
  | [], _, v, h => by cases h
  | x :: r, h, v, hv => by
    simp only [allOne, Bool.and_eq_true] at h
    rcases List.mem_cons.1 hv with rfl | hv
    · exact h.1
    · exact allOne_spec h.2 v hv
theorem setRange_getElem? : ∀ (vs cs : List Value) (o j : Nat), o + vs.length ≤ cs.length → (setRange cs o vs)[j]? = if o ≤ j ∧ j < o + vs.length then vs[j - o]? else cs[j]?
  | [], cs, o, j, _ => by simp [setRange]; intros; omega
  | v :: vs, cs, o, j, h => by
    simp only [setRange]
    rw [setRange_getElem? vs (cs.set o v) (o + 1) j (by simp at h ⊢; omega)]
    simp only [List.length_cons] at *
    by_cases h1 : o + 1 ≤ j ∧ j < o + 1 + vs.length
    · rw [if_pos h1, if_pos (by omega)]
      obtain ⟨d, rfl⟩ : ∃ d, j = o + 1 + d := ⟨j - (o + 1), by omega⟩
      rw [show o + 1 + d - (o + 1) = d from by omega, show o + 1 + d - o = d + 1 from by omega]
      simp
    · rw [if_neg h1]
      by_cases h2 : o = j
      · subst h2
        rw [if_pos (by omega)]
        simp only [Nat.sub_self, List.getElem?_cons_zero]
        rw [List.getElem?_set_self (by omega)]
      · rw [if_neg (by omega), List.getElem?_set_ne h2]
theorem setRange_eq (cs vs : List Value) (o : Nat) (h : o + vs.length ≤ cs.length) : setRange cs o vs = cs.take o ++ vs ++ cs.drop (o + vs.length) := by
  apply List.ext_getElem?
  intro j
  rw [setRange_getElem? vs cs o j h]
  by_cases h1 : j < o
  · rw [if_neg (by omega), List.append_assoc, List.getElem?_append_left (by simp; omega), List.getElem?_take, if_pos h1]
  · by_cases h2 : j < o + vs.length
    · rw [if_pos (by omega), List.append_assoc, List.getElem?_append_right (by simp; omega), List.getElem?_append_left (by simp; omega)]
      congr 1
      simp; omega
    · rw [if_neg (by omega), List.getElem?_append_right (by simp; omega), List.getElem?_drop]
      congr 1
      simp; omega
theorem run_storeVar {ty bt : TypeId} {w : World} {b o : Nat} {cur : Array Value} {v : Value} (hi : (C.P.info? ty).isSome = true) (hl : v.cells.toList.length = C.P.cellsOf ty) (h1 : allOne v.cells.toList = true)
    (hb : w.heap[b]? = some (.cells cur bt (0, 0))) (ho : o + C.P.cellsOf ty ≤ cur.size) :
    (Instr.storeAt ty (.pointer (some ⟨b, o, none⟩)) v).run C.P w = .ok () (w.setRow b (setRange cur.toList o v.cells.toList).toArray) := by
  have hs : v.cells.size = C.P.cellsOf ty := by simpa using hl
  have := run_storeCells_at C.P b o bt v.cells.toList 0 cur w hb (by simp; omega) (allOne_spec h1)
  simp only [Nat.add_zero] at this
  rw [← setRange_eq _ _ _ (by simp; omega)] at this
  simp [Instr.storeAt, Instr.sureAddr, storeVar, run_sizeOf' hi, hs, this]
theorem storable_spec {ty : TypeId} {vs : List Value} {f : Prop} (h : storable C ty vs f) : (C.P.info? ty).isSome = true ∧ vs.length = C.P.cellsOf ty ∧ allOne vs = true ∧ f := by
  unfold storable at h
  obtain ⟨hi, h⟩ := sized_spec h
  refine ⟨hi, ?_⟩
  split at h
  · rename_i n hk
    obtain ⟨h1, h2, h3⟩ := h
    refine ⟨?_, h2, h3⟩
    rw [h1]
    unfold k1Of at hk
    split at hk
    · split at hk
      · cases hk
      · cases hk; rfl
    · cases hk; rfl
    · cases hk
  · split at h
    · rename_i hc; exact ⟨hc.1, hc.2, h⟩
    · exact h.elim

/-! ### A block written anew -/
theorem setRow_below (own : List Nat) (w : World) (g : Nat) (cs : Array Value) (h : g ∈ own ∨ w.heap.size ≤ g) : BelowX own w (w.setRow g cs) :=
  ⟨rfl, rfl, rfl, by simp, fun k hk hn => setRow_other w g k cs (by rintro rfl; rcases h with h | h; exact hn h; omega)⟩
theorem own_unique {own : List Bx} {H : Heap} {w : World} (h : BoxesOk own H w) {i j : Nat} {x y : Bx} (hx : own[i]? = some x) (hy : own[j]? = some y) (e : x.b = y.b) : i = j := by
  have hi := idx_lt hx
  have hj := idx_lt hy
  have := h.apart
  have e1 : (own.map Bx.b)[i]? = (own.map Bx.b)[j]? := by simp [hx, hy, e]
  exact (List.getElem?_inj (by simpa using hi) this).1 e1
theorem mem_set {α : Type} {l : List α} {i : Nat} {x y : α} (h : y ∈ l.set i x) : y = x ∨ ∃ j : Nat, j ≠ i ∧ l[j]? = some y := by
  obtain ⟨j, hj⟩ := List.mem_iff_getElem?.1 h
  by_cases e : i = j
  · subst e
    have hl := idx_lt hj
    simp at hl
    simp [hl] at hj
    exact .inl hj.symm
  · rw [List.getElem?_set_ne e] at hj
    exact .inr ⟨j, Ne.symm e, hj⟩
theorem boxes_set {own : List Bx} {H : Heap} {w w' : World} (h : BoxesOk own H w) {i : Nat} {x x' : Bx} (hx : own[i]? = some x) (hb : x'.b = x.b) (hok : x'.ok w')
    (hsame : ∀ k, k ≠ x.b → k < w.heap.size → w'.heap[k]? = w.heap[k]?) : BoxesOk (own.set i x') H w' := by
  have hm := List.mem_of_getElem? hx
  refine ⟨fun y hy => ?_, fun y hy => ?_, ?_⟩
  · rcases mem_set hy with rfl | ⟨j, hji, hj⟩
    · exact hok
    · have hy' := List.mem_of_getElem? hj
      have hne : y.b ≠ x.b := fun e => hji (own_unique h hj hx e)
      exact Bx.ok_same (h.ok y hy') (hsame _ hne (Bx.ok_lt (h.ok y hy')))
  · rcases mem_set hy with rfl | ⟨j, hji, hj⟩
    · rw [hb]; exact h.hid x hm
    · exact h.hid y (List.mem_of_getElem? hj)
  · have : (own.set i x').map Bx.b = own.map Bx.b := by
      rw [List.map_set, hb]
      apply List.ext_getElem?
      intro j
      by_cases e : i = j
      · subst e
        rw [List.getElem?_set_self (by simpa using idx_lt hx)]
        simp [hx]
      · rw [List.getElem?_set_ne e]
    rw [this]; exact h.apart
theorem StW.step {own : List Bx} {H : Heap} {w w' : World} (h : StW C w0 own0 own H w) (hos : w'.os = w.os) (hta : w'.tape = w.tape) (hou : w'.output = w.output) (hsz : w.heap.size ≤ w'.heap.size)
    (hsame : ∀ k, k < C.base → k ∉ own0 → w'.heap[k]? = w.heap[k]?) : BelowX own0 w0 w' :=
  ⟨hos.trans h.below.os, hta.trans h.below.tape, hou.trans h.below.output, Nat.le_trans h.below.size hsz, fun k hk hn => (hsame k (by rw [h.base]; exact hk) hn).trans (h.below.block k hk hn)⟩
theorem StW.setBox {own : List Bx} {H : Heap} {w w' : World} (h : StW C w0 own0 own H w) {i : Nat} {x x' : Bx} (hx : own[i]? = some x) (hb : x'.b = x.b) (hok : x'.ok w')
    (hsame : ∀ k, k ≠ x.b → k < w.heap.size → w'.heap[k]? = w.heap[k]?) (hos : w'.os = w.os) (hta : w'.tape = w.tape) (hou : w'.output = w.output) (hsz : w'.heap.size = w.heap.size) : StW C w0 own0 (own.set i x') H w' := by
  have hm := List.mem_of_getElem? hx
  have hbl := h.base_le
  refine ⟨h.sees.of_same fun b k hk => hsame b (fun e => ?_) (h.sees.lt hk), boxes_set h.boxes hx hb hok hsame, fun y hy => ?_, h.step hos hta hou (by omega) fun k hk hn => hsame k (fun e => ?_) (by omega), h.next, h.base, h.seen0⟩
  · rw [e, h.boxes.hid x hm] at hk; cases hk
  · rcases mem_set hy with rfl | ⟨j, _, hj⟩
    · rw [hb]; exact h.locs x hm
    · exact h.locs y (List.mem_of_getElem? hj)
  · subst e
    rcases h.locs x hm with hl | hl
    · omega
    · exact hn hl
theorem StW.newBox {own : List Bx} {H : Heap} {w : World} (h : StW C w0 own0 own H w) {o : Obj} {x : Bx} (hb : x.b = w.heap.size) (hok : x.ok (w.alloc o)) : StW C w0 own0 (own ++ [x]) H (w.alloc o) := by
  have hB : BelowX [] w (w.alloc o) := BelowX.alloc [] w o
  have hbl := h.base_le
  refine ⟨h.sees.below hB, ⟨fun y hy => ?_, fun y hy => ?_, ?_⟩, fun y hy => ?_, h.step rfl rfl rfl hB.size fun k hk _ => hB.block k (by omega) (by simp), h.next, h.base, h.seen0⟩
  · rcases List.mem_append.1 hy with hy | hy
    · exact (h.boxes.below hB).ok y hy
    · obtain rfl := List.mem_singleton.1 hy; exact hok
  · rcases List.mem_append.1 hy with hy | hy
    · exact h.boxes.hid y hy
    · obtain rfl := List.mem_singleton.1 hy
      cases hk : H y.b with
      | none => rfl
      | some k => have := h.sees.lt hk; omega
  · rw [List.map_append, List.nodup_append]
    refine ⟨h.boxes.apart, by simp, fun b hb1 b2 hb2 e => ?_⟩
    obtain ⟨y, hy, rfl⟩ := List.mem_map.1 hb1
    simp at hb2
    have := Bx.ok_lt (h.boxes.ok y hy)
    omega
  · rcases List.mem_append.1 hy with hy | hy
    · exact h.locs y hy
    · obtain rfl := List.mem_singleton.1 hy; exact .inl (by omega)
/-- A new block becomes known. -/
theorem StW.newKnown {own : List Bx} {H : Heap} {w : World} (h : StW C w0 own0 own H w) {o : Obj} {k : KB} (hk : k.sees (some o)) : StW C w0 own0 own (fun b => if b = w.heap.size then some k else H b) (w.alloc o) ∧ Next w.heap.size H (fun b => if b = w.heap.size then some k else H b) ∧ H w.heap.size = none := by
  have hB : BelowX [] w (w.alloc o) := BelowX.alloc [] w o
  have hbl := h.base_le
  have hn : H w.heap.size = none := by
    cases hk : H w.heap.size with
    | none => rfl
    | some k => exact absurd (h.sees.lt hk) (by omega)
  have hx : Next w.heap.size H (fun b => if b = w.heap.size then some k else H b) := by
    refine ⟨fun b k' hb => ?_, fun b k' hb hnb => ?_⟩
    · by_cases e : b = w.heap.size
      · subst e; rw [hn] at hb; cases hb
      · simpa [e] using hb
    · by_cases e : b = w.heap.size
      · omega
      · simp [e, hnb] at hb
  refine ⟨⟨fun b k' hb => ?_, ⟨(h.boxes.below hB).ok, fun y hy => ?_, h.boxes.apart⟩, h.locs, h.step rfl rfl rfl hB.size fun k hk _ => hB.block k (by omega) (by simp), h.next.trans (hx.mono hbl), h.base, h.seen0⟩, hx, hn⟩
  · by_cases e : b = w.heap.size
    · subst e
      simp only [if_pos] at hb
      obtain rfl := Option.some.inj hb
      show k.sees ((w.heap.push o)[w.heap.size]?)
      simpa using hk
    · simp only [if_neg e] at hb
      exact (h.sees.below hB) b k' hb
  · have := Bx.ok_lt (h.boxes.ok y hy)
    rw [if_neg (by omega)]
    exact h.boxes.hid y hy
theorem boxKB_sees (ty : TypeId) (cs : List Value) : (boxKB ty cs).sees (some (.cells cs.toArray ty (0, 0))) :=
  ⟨cs.toArray, (0, 0), rfl, by simp [boxKB], fun _ => rfl, fun j v hv => by simpa [boxKB] using hv⟩
end
end Go.Vg
