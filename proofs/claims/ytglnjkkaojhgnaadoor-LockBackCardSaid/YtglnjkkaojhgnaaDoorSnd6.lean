/- Soundness of the computed verification condition: stores, new variables, slice literals, appends, makes, maps. -/
import Derived.Test.YtglnjkkaojhgnaaDoorSnd5
set_option linter.unusedSimpArgs false
set_option linter.unusedVariables false
namespace Go.Vg
open Go
section
variable {C : Cfg} {w0 : World} {own0 : List Nat}
theorem bx_false {own : List Bx} {H : Heap} {w : World} (h : BoxesOk own H w) {i : Nat} {b : Nat} {ty : TypeId} {cs : List Value} (hx : own[i]? = some ⟨b, false, ty, cs⟩) : w.heap[b]? = some (.cells cs.toArray ty (0, 0)) := by
  have := h.ok _ (List.mem_of_getElem? hx)
  simpa [Bx.ok] using this
theorem storeBox {own : List Bx} {H : Heap} {w : World} (hw : StW C w0 own0 own H w) {i b off : Nat} {ty bt : TypeId} {cs : List Value} {v : Value} (hx : own[i]? = some ⟨b, false, bt, cs⟩)
    (hi : (C.P.info? ty).isSome = true) (hl : v.cells.toList.length = C.P.cellsOf ty) (h1 : allOne v.cells.toList = true) (ho : off + C.P.cellsOf ty ≤ cs.length) :
    ∃ w', (Instr.storeAt ty (.pointer (some ⟨boxNo own i, off, none⟩)) v).run C.P w = .ok () w' ∧ StW C w0 own0 (own.set i ⟨b, false, bt, setRange cs off v.cells.toList⟩) H w' := by
  have hb := bx_false hw.boxes hx
  have e : boxNo own i = b := box_no hx
  have hr := run_storeVar (ty := ty) (o := off) (v := v) hi hl h1 hb (by simpa using ho)
  rw [e]
  refine ⟨_, hr, hw.setBox (x' := ⟨b, false, bt, setRange cs off v.cells.toList⟩) hx rfl ?_ (fun k hk _ => setRow_other w b k _ hk) rfl rfl rfl (by simp)⟩
  simp only [Bx.ok]
  exact setRow_heap w b _ _ bt _ hb
theorem setRange_whole {cs vs : List Value} (h : cs.length = vs.length) : setRange cs 0 vs = vs := by
  apply List.ext_getElem?
  intro j
  rw [setRange_getElem? _ _ _ _ (by omega)]
  split
  · simp
  · rw [List.getElem?_eq_none (by omega), List.getElem?_eq_none (by omega)]
theorem storeV_sound (ty : TypeId) (st : St) (v : Value) (f : List Bx → Heap → Prop) (sa : SV) {w : World} (hw : StW C w0 own0 st.own st.H w) (h : storeV C ty st v.cells.toList f sa) :
    ∃ own' H' w', f own' H' ∧ OwnExt st.own own' ∧ StW C w0 own0 own' H' w' ∧ (Instr.storeAt ty (sa.val st.own) v).run C.P w = .ok () w' := by
  unfold storeV at h
  split at h
  · rename_i i off
    split at h
    · rename_i b bt cs hx
      split at h
      · rename_i hk
        obtain ⟨hi, hl, h1, hcl, h⟩ := storable_spec h
        obtain ⟨w', hr, hw'⟩ := storeBox (off := 0) hw hx hi hl h1 (by omega)
        rw [setRange_whole (by omega)] at hw'
        exact ⟨_, _, w', h, OwnExt.set hx rfl rfl rfl, hw', hr⟩
      · obtain ⟨hi, hl, h1, h⟩ := storable_spec h
        split at h
        · rename_i ho
          obtain ⟨w', hr, hw'⟩ := storeBox hw hx hi hl h1 ho
          exact ⟨_, _, w', h, OwnExt.set hx rfl rfl rfl, hw', hr⟩
        · exact h.elim
    · exact h.elim
  · rename_i i off
    split at h
    · rename_i b bt cs hx
      obtain ⟨hi, hl, h1, ho, h⟩ := storable_spec h
      obtain ⟨w', hr, hw'⟩ := storeBox hw hx hi hl h1 ho
      exact ⟨_, _, w', h, OwnExt.set hx rfl rfl rfl, hw', hr⟩
    · exact h.elim
  · rename_i b o
    obtain ⟨hi, hl, h1, k, hk, hfree, hbase, ho, h⟩ := storable_spec h
    obtain ⟨cur, fr, hcur, hsz, hfr, hcells⟩ := hw.sees b k hk
    obtain rfl := hfr hfree
    have hr := run_storeVar (ty := ty) (o := o) (v := v) hi hl h1 hcur (by omega)
    have hlen : o + v.cells.toList.length ≤ cur.toList.length := by simp at hl ⊢; omega
    let H' : Heap := fun x => if x = b then some { k with cells := updCells k.cells o v.cells.toList } else st.H x
    have hu : Upd st.H b o k v.cells.toList H' := ⟨by simp [H'], fun x hx => by simp [H', hx]⟩
    have hsame : ∀ x, x ≠ b → (w.setRow b (setRange cur.toList o v.cells.toList).toArray).heap[x]? = w.heap[x]? := fun x hx => setRow_other w b x _ hx
    have hn0 : C.H0 b = none := by
      cases h0 : C.H0 b with
      | none => rfl
      | some k0 => have := hw.h0_lt h0; omega
    refine ⟨_, H', w.setRow b (setRange cur.toList o v.cells.toList).toArray, h H' hu, OwnExt.refl _, ⟨fun x k' hx => ?_, ⟨fun y hy => ?_, fun y hy => ?_, hw.boxes.apart⟩, hw.locs, hw.step rfl rfl rfl (by simp) (fun x hx _ => hsame x (by omega)), ⟨fun x k' hx => ?_, fun x k' hx hx0 => ?_⟩, hw.base, hw.seen0⟩, hr⟩
    · by_cases e : x = b
      · subst e
        simp only [H', if_pos] at hx
        obtain rfl := Option.some.inj hx
        rw [setRow_heap w x cur _ k.ty _ hcur]
        refine ⟨_, _, rfl, by simp [setRange_length, hsz], fun _ => rfl, fun j v' hv' => ?_⟩
        simp only [List.getElem?_toArray]
        rw [setRange_getElem? _ _ _ _ hlen]
        simp only [updCells] at hv'
        split
        · rename_i hc; rw [if_pos hc] at hv'; exact hv'
        · rename_i hc; rw [if_neg hc] at hv'; simpa using hcells j v' hv'
      · simp only [H', if_neg e] at hx
        rw [hsame x e]
        exact hw.sees x k' hx
    · have hne : y.b ≠ b := fun e => by have := hw.boxes.hid y hy; rw [e, hk] at this; cases this
      exact Bx.ok_same (hw.boxes.ok y hy) (hsame _ hne)
    · have hne : y.b ≠ b := fun e => by have := hw.boxes.hid y hy; rw [e, hk] at this; cases this
      simp only [H', if_neg hne]
      exact hw.boxes.hid y hy
    · have hne : x ≠ b := fun e => by rw [e, hn0] at hx; cases hx
      simp only [H', if_neg hne]
      exact hw.next.ext x k' hx
    · by_cases e : x = b
      · omega
      · simp only [H', if_neg e] at hx
        exact hw.next.fresh x k' hx hx0
  · exact h.elim

/-- What follows an operation. -/
def Cont (C : Cfg) (w0 : World) (own0 : List Nat) (st : St) (o : Oper) (a : Act) (w : World) (f : SV → List Bx → Heap → Prop) (K : Act → World → Prop) : Prop :=
  ∀ s own' H' w', f s own' H' → s.wf own'.length → OwnExt st.own own' → StW C w0 own0 own' H' w' → (turns C o = false → BelowX [] w w') → K (a.put o.dst (s.val own')) w'
theorem wp_value {P : Program} {o : Oper} {a : Act} {w w' : World} {v : Value} {K : Act → World → Prop} {Q : Exit → Act → World → Prop} (hr : (execOp a.eval o).run P w = .ok (.value v) w') (h : K (a.put o.dst v) w') : o.wp P a w K Q := by
  unfold Oper.wp; rw [hr]; exact h
theorem wp_skip' {P : Program} {o : Oper} {a : Act} {w w' : World} {K : Act → World → Prop} {Q : Exit → Act → World → Prop} (hr : (execOp a.eval o).run P w = .ok .skip w') (h : K (a.put o.dst undef) w') : o.wp P a w K Q := by
  unfold Oper.wp; rw [hr]; exact h

theorem zeroCells_spec {t : TypeId} {z : List Value} (h : zeroCellsOf C.P t = some z) : ∃ i zv, C.P.info? t = some i ∧ i.zero = some zv ∧ zv.cells.toList = z := by
  unfold zeroCellsOf at h
  cases hi : C.P.info? t with
  | none => simp [hi] at h
  | some it =>
    cases hzz : it.zero with
    | none => simp [hi, hzz] at h
    | some zv => exact ⟨it, zv, rfl, hzz, by simpa [hi, hzz] using h⟩
theorem made_eq (z : Array Value) : ∀ n : Nat, madeCells z (n * z.size) = ((List.replicate n z.toList).flatten).toArray := by
  intro n
  apply Array.ext'
  simp only [madeCells, Array.toList_map, Array.toList_range]
  induction n with
  | zero => simp
  | succ n ih =>
    rw [Nat.succ_mul, List.range_add, List.map_append, ih, List.replicate_succ', List.flatten_append]
    congr 1
    simp only [List.map_map, List.flatten_cons, List.flatten_nil, List.append_nil]
    apply List.ext_getElem?
    intro j
    by_cases hj : j < z.size
    · simp [hj, Nat.mod_eq_of_lt hj, Nat.mul_add_mod', getElem!_pos, Nat.add_mod]
    · simp [hj, Nat.le_of_not_lt hj]
end
end Go.Vg
