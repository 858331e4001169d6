/- Soundness of the computed verification condition: slice literals, appends, makes, maps. -/
import Derived.Test.YtglnjkkaojhgnaaGreatDoorSnd4
import Derived.Lib.AppendZerosOnto
set_option linter.unusedSimpArgs false
set_option linter.unusedVariables false
namespace Go.Vg
open Go Go.RowKit
section
variable {C : Cfg} {w0 : World} {own0 : List Nat}
theorem OwnExt_len {own : List Bx} (x : Bx) : own.length < (own ++ [x]).length := by simp
theorem boxNo_append {own : List Bx} (x : Bx) : boxNo (own ++ [x]) own.length = x.b := by simp [boxNo]

theorem alloc_sound {o : Oper} {t : TypeId} (ho : o.op = .alloc t) {st : St} {a : Act} {w : World} (hw : StW C w0 own0 st.own st.H w) {f : SV → List Bx → Heap → Prop} {K : Act → World → Prop} {Q : Exit → Act → World → Prop}
    (hK : Cont C w0 own0 st o a w f K) {z : List Value} (hz : zeroCellsOf C.P t = some z) (h : ∀ b : Nat, f (.loc st.own.length 0) (st.own ++ [⟨b, false, t, z⟩]) st.H) : o.wp C.P a w K Q := by
  obtain ⟨i, zv, hi, hzz, rfl⟩ := zeroCells_spec hz
  have hr : (execOp a.eval o).run C.P w = .ok (.value (.pointer (some ⟨w.heap.size, 0, none⟩))) (w.alloc (.cells zv.cells t)) := by
    simp [execOp, ho, Instr.alloc, zeroValue, typeInfo, hi, hzz, newVar, newRow]
  refine wp_value hr ?_
  have := hK _ _ _ (w.alloc (.cells zv.cells t)) (h w.heap.size) (OwnExt_len _) (OwnExt.append _ _) (hw.newBox rfl (by
    simp only [Bx.ok]; show (w.heap.push _)[w.heap.size]? = _; simp)) (fun _ => BelowX.alloc [] w _)
  simpa [SV.val, boxNo_append] using this
theorem box_sound {o : Oper} {t : TypeId} {x : Operand} (ho : o.op = .box t x) {st : St} {a : Act} {w : World} (ha : EnvOk C.nt st.env st.own a) (hw : StW C w0 own0 st.own st.H w) {f : SV → List Bx → Heap → Prop} {K : Act → World → Prop} {Q : Exit → Act → World → Prop}
    (hK : Cont C w0 own0 st o a w f K) {s : SV} (hs : st.get x = some s) (h : ∀ b : Nat, f (.loc st.own.length 0) (st.own ++ [⟨b, false, t, (s.val st.own).cells.toList⟩]) st.H) : o.wp C.P a w K Q := by
  have hr : (execOp a.eval o).run C.P w = .ok (.value (.pointer (some ⟨w.heap.size, 0, none⟩))) (w.alloc (.cells (s.val st.own).cells t)) := by
    simp [execOp, ho, Instr.box, newVar, newRow, (get_sound ha hs).1]
  refine wp_value hr ?_
  have := hK _ _ _ (w.alloc (.cells (s.val st.own).cells t)) (h w.heap.size) (OwnExt_len _) (OwnExt.append _ _) (hw.newBox rfl (by
    simp only [Bx.ok]; show (w.heap.push _)[w.heap.size]? = _; simp)) (fun _ => BelowX.alloc [] w _)
  simpa [SV.val, boxNo_append] using this
theorem makeMap_sound {o : Oper} {t : TypeId} (ho : o.op = .makeMap t none) {st : St} {a : Act} {w : World} (hw : StW C w0 own0 st.own st.H w) {f : SV → List Bx → Heap → Prop} {K : Act → World → Prop} {Q : Exit → Act → World → Prop}
    (hK : Cont C w0 own0 st o a w f K) (h : ∀ b : Nat, f (.mp st.own.length) (st.own ++ [⟨b, true, t, []⟩]) st.H) : o.wp C.P a w K Q := by
  have hr : (execOp a.eval o).run C.P w = .ok (.value (.map (some w.heap.size))) (w.alloc (.map #[] 0)) := by
    simp [execOp, ho, Instr.makeMap]
  refine wp_value hr ?_
  have := hK _ _ _ (w.alloc (.map #[] 0)) (h w.heap.size) (OwnExt_len _) (OwnExt.append _ _) (hw.newBox rfl (by
    simp only [Bx.ok]; exact ⟨#[], 0, by show (w.heap.push _)[w.heap.size]? = _; simp, rfl⟩)) (fun _ => BelowX.alloc [] w _)
  simpa [SV.val, boxNo_append] using this
theorem replicate_flatten_length (z : List Value) (n : Nat) : (List.replicate n z).flatten.length = n * z.length := by simp
theorem fillL_length (place : Nat → Option (Nat × Nat)) : ∀ (parts : List (Nat × Value)) (cells out : List Value), fillL place cells parts = some out → out.length = cells.length
  | [], cells, out, h => by simp [fillL] at h; subst h; rfl
  | (i, v) :: rest, cells, out, h => by
    simp only [fillL] at h
    split at h
    · cases h
    · split at h
      · rw [fillL_length place rest _ _ h, setRange_length]
      · cases h
theorem buildSlice_sound {o : Oper} {t : TypeId} {n : Nat} {parts : Array (Nat × Operand)} (ho : o.op = .buildSlice t n parts) {st : St} {a : Act} {w : World} (ha : EnvOk C.nt st.env st.own a) (hw : StW C w0 own0 st.own st.H w)
    {f : SV → List Bx → Heap → Prop} {K : Act → World → Prop} {Q : Exit → Act → World → Prop} (hK : Cont C w0 own0 st o a w f K) {feeds : Bool} (h : buildSliceV C t n parts.toList st feeds f) : o.wp C.P a w K Q := by
  unfold buildSliceV at h
  split at h
  · rename_i e hu
    split at h
    · rename_i z vs hz hvs
      split at h
      · rename_i hc
        obtain ⟨hc1, hc2, hc3⟩ := hc
        split at h
        · rename_i cells hcells
          obtain ⟨i, zv, hi, hzz, rfl⟩ := zeroCells_spec hz
          have hsz : i.size = C.P.cellsOf e := by simp [Program.cellsOf, hi]
          have hzs : zv.cells.size = C.P.cellsOf e := by simpa using hc2
          have hev : (parts.map fun (i, x) => (i, a.eval x)).toList = vs := by
            rw [Array.toList_map]; exact valsOf_sound ha hvs
          have hev2 : List.map (fun x => (x.fst, a.eval x.snd)) parts.toList = vs := valsOf_sound ha hvs
          have hr : (execOp a.eval o).run C.P w = .ok (.value (.slice (some ⟨w.heap.size, 0, none⟩) n n)) (w.alloc (.cells cells.toArray e)) := by
            have hf := fill_eq _ _ _ _ hcells
            rw [← made_eq, hzs, ← hsz] at hf
            by_cases h0 : n * i.size = 0
            · have hn : n = 0 := by
                rcases Nat.mul_eq_zero.1 h0 with h | h
                · exact h
                · omega
              subst hn
              have hvn : cells = [] := by
                have := fillL_length _ _ _ _ hcells
                simpa using this
              subst hvn
              have hf' : Instr.fill (fun i_1 => some (i_1 * i.size, i.size)) #[] vs = some #[] := by
                simpa [madeCells, Array.range_zero'] using hf
              have hbs : (Instr.buildSlice t 0 (parts.map fun (i, x) => (i, a.eval x))).run C.P w = .ok (.slice (some ⟨w.heap.size, 0, none⟩) 0 0) (w.alloc (.cells #[] e)) := by
                simp [Instr.buildSlice, run_underlying hu, sizeOf, typeInfo, hi, newRow, Array.range_zero', hev2, hf']
              simp only [execOp, ho]
              rw [Sem.run_bind, hbs]
              rfl
            · have hbs := run_buildSlice w t e n (parts.map fun (i, x) => (i, a.eval x)) cells.toArray i zv hu hi hzz (by rw [hsz]; omega) h0 (by rw [hev]; exact hf)
              simp only [execOp, ho]
              rw [Sem.run_bind, hbs]
              rfl
          refine wp_value hr ?_
          split at h
          · have := hK _ _ _ (w.alloc (.cells cells.toArray e)) (h w.heap.size) (OwnExt_len _) (OwnExt.append _ _) (hw.newBox rfl (by
              simp only [Bx.ok]; show (w.heap.push _)[w.heap.size]? = _; simp)) (fun _ => BelowX.alloc [] w _)
            simpa [SV.val, boxNo_append] using this
          · obtain ⟨h1, h2, h3⟩ := hw.newKnown (boxKB_sees e cells)
            exact hK _ _ _ _ (h w.heap.size _ (h2.mono hw.base_le) h3 (by simp)) trivial (OwnExt.refl _) h1 (fun _ => BelowX.alloc [] w _)
        · exact h.elim
      · exact h.elim
    · exact h.elim
  · exact h.elim
theorem makeSlice_sound {o : Oper} {t : TypeId} {lo co : Operand} (ho : o.op = .makeSlice t lo co) {st : St} {a : Act} {w : World} (ha : EnvOk C.nt st.env st.own a) (hw : StW C w0 own0 st.own st.H w)
    {f : SV → List Bx → Heap → Prop} {K : Act → World → Prop} {Q : Exit → Act → World → Prop} (hK : Cont C w0 own0 st o a w f K) {sl sc : SV} (hl : st.get lo = some sl) (hc : st.get co = some sc) (h : makeSliceV C t st f sl sc) : o.wp C.P a w K Q := by
  unfold makeSliceV at h
  split at h
  · rename_i e l c hu
    split at h
    · rename_i z hz
      split at h
      · rename_i hzl
        obtain ⟨h0, h1, h2, h3, h⟩ := h
        obtain ⟨i, zv, hi, hzz, rfl⟩ := zeroCells_spec hz
        have hsz : i.size = C.P.cellsOf e := by simp [Program.cellsOf, hi]
        have hby : i.bytes = C.P.bytesOf e := by simp [Program.bytesOf, hi]
        have hzs : zv.cells.size = C.P.cellsOf e := by simpa using hzl
        have hr := run_make (P := C.P) w t e i zv hu hi hzz .i64 .i64 l c h0 h1 (by
          rw [hby]
          have : c = (c.toNat : Int) := by omega
          rw [this, ← Int.natCast_mul, Nat.mul_comm]; omega) h3
        rw [hsz, ← hzs, made_eq] at hr
        have hr' : (execOp a.eval o).run C.P w = .ok (.value (.slice (some ⟨w.heap.size, 0, none⟩) l.toNat c.toNat)) (w.alloc (.cells (List.replicate c.toNat zv.cells.toList).flatten.toArray e)) := by
          simp only [execOp, ho, (get_sound ha hl).1, (get_sound ha hc).1, SV.val]
          rw [Sem.run_bind, hr]
          rfl
        refine wp_value hr' ?_
        obtain ⟨h4, h5, h6⟩ := hw.newKnown (boxKB_sees e (List.replicate c.toNat zv.cells.toList).flatten)
        exact hK _ _ _ _ (h w.heap.size _ (h5.mono hw.base_le) h6 (by simp)) trivial (OwnExt.refl _) h4 (fun _ => BelowX.alloc [] w _)
      · exact h.elim
    · exact h.elim
  · exact h.elim

/-! ### append -/
/-- The same, a slice without room being nil. -/
def RowO (base : Nat) (H : Heap) (e : TypeId) (size : Nat) (a : Option Addr) (n c : Nat) (xs : List Value) : Prop :=
  xs.length = n * size ∧ n ≤ c ∧ c ≤ maxLen ∧
  ((a = none ∧ n = 0 ∧ c = 0) ∨ ∃ g k, a = some ⟨g, 0, none⟩ ∧ base ≤ g ∧ H g = some k ∧ k.ty = e ∧ k.size = c * size ∧ k.free = true ∧ ∀ j v, xs[j]? = some v → k.cells j = some v)
theorem RowO.row {base : Nat} {H : Heap} {e : TypeId} {size : Nat} {a : Option Addr} {n c : Nat} {xs : List Value} (h : RowO base H e size a n c xs) : Row base H e size a n c xs :=
  ⟨h.1, h.2.1, h.2.2.1, h.2.2.2.imp (fun h => h.2) id⟩
theorem Row.old {base : Nat} {H : Heap} {e : TypeId} {size : Nat} {a : Option Addr} {n c : Nat} {xs : List Value} (h : Row base H e size a n c xs) : (n = 0 ∧ c = 0 ∧ RowO base H e size none 0 0 xs) ∨ (c ≠ 0 ∧ RowO base H e size a n c xs) := by
  obtain ⟨h1, h2, h3, h4⟩ := h
  by_cases hc : c = 0
  · subst hc
    obtain rfl : n = 0 := by omega
    exact .inl ⟨rfl, rfl, h1, h2, h3, .inl ⟨rfl, rfl, rfl⟩⟩
  · rcases h4 with ⟨_, h5⟩ | h4
    · exact absurd h5 hc
    · exact .inr ⟨hc, h1, h2, h3, .inr h4⟩
theorem RowO.owns {H : Heap} {w : World} (hs : Sees H w) {base : Nat} {e : TypeId} {size : Nat} {a : Option Addr} {n c : Nat} {xs : List Value} (h : RowO base H e size a n c xs) : w.ownsRow base e size (.slice a n c) n xs := by
  obtain ⟨h1, h2, h3, h4⟩ := h
  refine ⟨h1, ?_⟩
  rcases h4 with ⟨rfl, rfl, rfl⟩ | ⟨g, k, rfl, hg, hH, hty, hksz, hfree, hcl⟩
  · exact .inl ⟨rfl, rfl⟩
  · obtain ⟨cur, fr, hc, hsz, hfr, hcell⟩ := hs g _ hH
    obtain rfl := hfr hfree
    rw [hty] at hc
    refine .inr ⟨g, c, cur, rfl, hg, hc, h2, h3, by rw [hsz, hksz], ?_⟩
    apply List.ext_getElem?
    intro j
    rw [List.getElem?_take]
    split
    · rename_i hj
      have : xs[j]? = some xs[j] := by simp [h1, hj]
      rw [this]
      simpa using hcell j _ (hcl j _ this)
    · rename_i hj
      exact (List.getElem?_eq_none (by omega)).symm
/-- Where there is room the slice stays. -/
theorem append_room_eq {P : Program} {H : Heap} {w w' : World} (hs : Sees H w) {base : Nat} {t ty e : TypeId} {i : TypeInfo} (hu : P.underlying t = some (.slice e)) (hi : P.info? e = some i) {a : Option Addr} {n c : Nat} {xs : List Value} (hrow : RowO base H e i.size a n c xs) (hc : c ≠ 0)
    {ad : Addr} {m xc : Nat} {news : List Value} (hl : news.length = m * i.size) (hnews : ∀ j u, news[j]? = some u → w.cell? (ad.add j) = some u) (h1 : ∀ u ∈ news, u.oneCell' = true) {v' : Value}
    (hr : (Builtin.append_ #[t, t] ty #[.slice a n c, .slice (some ad) m xc]).run P w = .ok v' w') (hroom : n + m ≤ c) : v' = .slice a (n + m) c := by
  obtain ⟨_, _, _, h4⟩ := hrow
  rcases h4 with ⟨_, _, h⟩ | ⟨g, k, rfl, hb, hH, hty, hksz, hfree, hcl⟩
  · exact absurd h hc
  · obtain ⟨cur, fr, hcu, hsz, hfr, _⟩ := hs g _ hH
    obtain rfl := hfr hfree
    rw [hty] at hcu
    have := run_append_room (P := P) w t ty e i hu hi g n c cur hcu ad m xc news hl hnews h1 hroom (by rw [hl, hsz, hksz, ← Nat.add_mul]; exact Nat.mul_le_mul_right _ hroom)
    rw [hr] at this
    injection this
theorem append_step {own : List Bx} {H : Heap} {w w' : World} (hw : StW C w0 own0 own H w) {e : TypeId} {size : Nat} {a : Option Addr} {n c : Nat} {xs ys : List Value} {v' : Value} {n' : Nat} (hrow : RowO C.base H e size a n c xs) (hca : c = 0 → a = none)
    (h2 : w'.ownsRow C.base e size v' n' ys) (h3 : w.grownBy w' (Value.slice a n c).ownBlock) (h4 : v'.ownBlock = (Value.slice a n c).ownBlock ∨ v'.ownBlock = some w.heap.size) (h5 : n' ≤ c → v' = .slice a n' c) :
    ∃ a' c' H', v' = .slice a' n' c' ∧ Grew C.base H H' a c a' c' n' ∧ Row C.base H' e size a' n' c' ys ∧ StW C w0 own0 own H' w' := by
  have hold : ∀ g, (Value.slice a n c).ownBlock = some g → C.base ≤ g ∧ g < w.heap.size ∧ a = some ⟨g, 0, none⟩ ∧ (H g).isSome = true := by
    intro g hg
    obtain ⟨_, _, _, h6⟩ := hrow
    rcases h6 with ⟨rfl, _, _⟩ | ⟨g', k', rfl, hb, hH, _⟩
    · simp [Value.ownBlock] at hg
    · simp [Value.ownBlock] at hg
      subst hg
      exact ⟨hb, hw.sees.lt hH, rfl, by simp [hH]⟩
  have hbl := hw.base_le
  have hblock : ∀ k, k < w.heap.size → (Value.slice a n c).ownBlock ≠ some k → w'.heap[k]? = w.heap[k]? := fun k hk hne => h3.block k hk (fun e => hne e.symm)
  have hbelow : BelowX own0 w0 w' := hw.step h3.os h3.tape h3.output h3.size fun k hk _ => hblock k (by omega) (fun e => by have := (hold k e).1; omega)
  have hbox : ∀ y ∈ own, (Value.slice a n c).ownBlock ≠ some y.b := fun y hy e => by
    have := (hold y.b e).2.2.2
    rw [hw.boxes.hid y hy] at this; cases this
  have hn0 : ∀ g, C.base ≤ g → C.H0 g = none := fun g hg => by
    cases h0 : C.H0 g with
    | none => rfl
    | some k0 => have := hw.h0_lt h0; omega
  obtain ⟨h21, h22⟩ := h2
  rcases h22 with ⟨rfl, rfl⟩ | ⟨g, cap, cur, rfl, hb, hg, hnc, hcm, hcs, htake⟩
  · -- nil
    have hnil : (Value.slice a n c).ownBlock = none := by
      rcases h4 with h4 | h4
      · simpa [Value.ownBlock] using h4.symm
      · simp [Value.ownBlock] at h4
    have hxs : ys = [] := List.eq_nil_of_length_eq_zero (by simpa using h21)
    subst hxs
    refine ⟨none, 0, H, rfl, ⟨fun x k hx _ => hx, fun x k hx hn => by (rw [hx] at hn; cases hn), fun h => absurd rfl h, fun h => by have := h5 h; simp at this; exact ⟨this.1, this.2⟩⟩, ⟨h21, Nat.le_refl _, Nat.zero_le _, .inl ⟨rfl, rfl⟩⟩,
      ⟨hw.sees.of_same fun b k hk => hblock b (hw.sees.lt hk) (by rw [hnil]; simp), ⟨fun y hy => Bx.ok_same (hw.boxes.ok y hy) (hblock _ (Bx.ok_lt (hw.boxes.ok y hy)) (hbox y hy)), hw.boxes.hid, hw.boxes.apart⟩, hw.locs, hbelow, hw.next, hw.base, hw.seen0⟩⟩
  · have hgw : (Value.slice a n c).ownBlock = some g ∨ g = w.heap.size := by
      rcases h4 with h4 | h4
      · exact .inl (by simpa [Value.ownBlock] using h4.symm)
      · exact .inr (by simpa [Value.ownBlock] using h4)
    let H' : Heap := fun x => if x = g then some ⟨e, cap * size, true, fun j => ys[j]?⟩ else if (Value.slice a n c).ownBlock = some x then none else H x
    have hgH : ∀ x k, H x = some k → (c = 0 ∨ a ≠ some ⟨x, 0, none⟩) → x ≠ g ∧ (Value.slice a n c).ownBlock ≠ some x := fun x k hx hne => by
      have h1 : (Value.slice a n c).ownBlock ≠ some x := fun e => by
        rcases hne with hne | hne
        · have := (hold x e).2.2.1; rw [hca hne] at this; cases this
        · exact hne (hold x e).2.2.1
      refine ⟨fun e => ?_, h1⟩
      subst e
      rcases hgw with h | h
      · exact h1 h
      · have := hw.sees.lt hx; omega
    refine ⟨some ⟨g, 0, none⟩, cap, H', rfl, ⟨fun x k hx hne => ?_, fun x k hx hn => ?_, fun _ x hx => ?_, fun h => by have := h5 h; simp at this; exact ⟨this.1, this.2⟩⟩, ⟨h21, hnc, hcm, .inr ⟨g, ⟨e, cap * size, true, fun j => ys[j]?⟩, rfl, hb, by simp [H'], rfl, rfl, rfl, fun j v h => h⟩⟩, ⟨fun x k hx => ?_, ⟨fun y hy => ?_, fun y hy => ?_, hw.boxes.apart⟩, hw.locs, hbelow, ⟨fun x k hx => ?_, fun x k hx hn => ?_⟩, hw.base, hw.seen0⟩⟩
    · obtain ⟨e1, e2⟩ := hgH x k hx hne
      simp [H', e1, e2, hx]
    · by_cases e1 : x = g
      · omega
      · simp only [H', if_neg e1] at hx
        split at hx
        · cases hx
        · rw [hx] at hn; cases hn
    · obtain rfl : g = x := by simpa using hx
      rcases hgw with h | h
      · have e1 := (hold g h).2.2.1
        exact .inr ⟨e1.symm, fun h0 => by have := hca h0; rw [this] at e1; cases e1⟩
      · refine .inl ?_
        cases hg2 : H g with
        | none => rfl
        | some k => have := hw.sees.lt hg2; omega
    · by_cases e1 : x = g
      · subst e1
        simp only [H', if_pos] at hx
        obtain rfl := Option.some.inj hx
        refine ⟨cur, (0, 0), hg, hcs, fun _ => rfl, fun j v hv => ?_⟩
        have hv' : ys[j]? = some v := hv
        have hj : j < n' * size := by rw [← h21]; exact idx_lt hv'
        rw [← htake, List.getElem?_take, if_pos hj] at hv'
        simpa using hv'
      · simp only [H', if_neg e1] at hx
        split at hx
        · cases hx
        · rename_i e2
          rw [hblock x (hw.sees.lt hx) e2]
          exact hw.sees x k hx
    · exact Bx.ok_same (hw.boxes.ok y hy) (hblock _ (Bx.ok_lt (hw.boxes.ok y hy)) (hbox y hy))
    · have hlt := Bx.ok_lt (hw.boxes.ok y hy)
      have e1 : y.b ≠ g := fun e => by
        rcases hgw with h | h
        · exact hbox y hy (by rw [e]; exact h)
        · omega
      simp only [H', if_neg e1]
      split
      · rfl
      · exact hw.boxes.hid y hy
    · have hlt := hw.h0_lt hx
      have e1 : x ≠ g := by omega
      have e2 : (Value.slice a n c).ownBlock ≠ some x := fun e => by have := (hold x e).1; omega
      simp only [H', if_neg e1, if_neg e2]
      exact hw.next.ext x k hx
    · by_cases e1 : x = g
      · omega
      · simp only [H', if_neg e1] at hx
        split at hx
        · cases hx
        · exact hw.next.fresh x k hx hn
end
end Go.Vg
namespace Go.Vg
open Go Go.RowKit
section
variable {C : Cfg} {w0 : World} {own0 : List Nat}
theorem run_append_zero {P : Program} {t e : TypeId} {i : TypeInfo} (hu : P.underlying t = some (.slice e)) (hi : P.info? e = some i) {a xa : Option Addr} {n c xc : Nat} (h : n ≤ c) (ty : TypeId) (w : World) :
    (Builtin.append_ #[t, t] ty #[.slice a n c, .slice xa 0 xc]).run P w = .ok (.slice a n c) w := by
  have hf : (Builtin.firstCells i.size 0 (.slice xa 0 xc)).run P w = .ok #[] w := by
    cases xa <;> simp [Builtin.firstCells, loadCells, loadCellsFrom]
  cases a <;> simp [Builtin.append_, run_underlying hu, sizeOf, typeInfo, hi, Builtin.lenOf, h, hf, storeCells]
/-- Where there is no room it doesn't matter where the slice stands. -/
theorem run_append_bare {P : Program} {t e ty : TypeId} {i : TypeInfo} (a : Option Addr) {m xc : Nat} {xa : Option Addr} {v : Value} {w w' : World} (hm : 0 < m) (hu : P.underlying t = some (.slice e)) (hi : P.info? e = some i)
    (hb : (0 + m) * i.bytes ≤ 140737488355328) (h : (Builtin.append_ #[t, t] ty #[.slice none 0 0, .slice xa m xc]).run P w = .ok v w') : (Builtin.append_ #[t, t] ty #[.slice a 0 0, .slice xa m xc]).run P w = .ok v w' := by
  have hn : ¬ m = 0 := by omega
  rw [Nat.zero_add] at hb
  have hf : ∀ (s : Option Addr) (w : World), (Builtin.firstCells i.size 0 (.slice s 0 0)).run P w = .ok #[] w := fun s w => by
    cases s <;> simp [Builtin.firstCells, loadCells, loadCellsFrom]
  have hcap : ¬ (281474976710656 < Builtin.nextslicecap m 0 * i.bytes) := by rw [nextslicecap_zero (by omega)]; omega
  rw [← h]
  simp [Builtin.append_, run_underlying hu, sizeOf, typeInfo, hi, Builtin.lenOf, hn, hcap, Sem.run_bind, hf]
theorem append_sound {o : Oper} {t : TypeId} {so xo : Operand} (ho : o.op = .call { callee := .builtin .append, args := #[so, xo], argTypes := #[t, t] }) {st : St} {a : Act} {w : World} (ha : EnvOk C.nt st.env st.own a)
    (hw : StW C w0 own0 st.own st.H w) {f : SV → List Bx → Heap → Prop} {K : Act → World → Prop} {Q : Exit → Act → World → Prop} (hK : Cont C w0 own0 st o a w f K) {ss sx : SV} (hs : st.get so = some ss) (hx : st.get xo = some sx)
    (h : appendV C t st f ss sx) : o.wp C.P a w K Q := by
  have hturn : turns C o = true := by simp [turns, ho]
  have run : ∀ {v : Value} {w' : World}, (Builtin.append_ #[t, t] o.type #[ss.val st.own, sx.val st.own]).run C.P w = .ok v w' → (execOp a.eval o).run C.P w = .ok (.value v) w' := fun {v w'} h => by
    simp [execOp, ho, resolve, invoke, builtin, (get_sound ha hs).1, (get_sound ha hx).1, h]
  unfold appendV at h
  split at h
  · rename_i e sa n c hu
    split at h
    · rename_i hsize
      obtain ⟨hpos, hzl⟩ := hsize
      cases hz : zeroCellsOf C.P e with
      | none => simp [hz] at hzl
      | some z =>
        simp only [hz, Option.map_some, Option.some.injEq] at hzl
        obtain ⟨i, zv, hi, hzz, rfl⟩ := zeroCells_spec hz
        have hsz : i.size = C.P.cellsOf e := by simp [Program.cellsOf, hi]
        have hby : i.bytes = C.P.bytesOf e := by simp [Program.bytesOf, hi]
        have hzs : zv.cells.size = C.P.cellsOf e := by simpa using hzl
        split at h
        · rename_i j m
          split at h
          · rename_i b bt cells hbx
            split at h
            · rename_i hc
              obtain ⟨hl, h1, hm⟩ := hc
              obtain ⟨xs, hrow, hbytes, hmax, h⟩ := h
              have hnews : ∀ k u, cells[k]? = some u → w.cell? ((⟨b, 0, none⟩ : Addr).add k) = some u := fun k u hk => by
                rw [addr_add, Nat.zero_add]; exact (box_cell hw.boxes hbx hk).2
              have e1 : boxNo st.own j = b := box_no hbx
              rcases hrow.old with ⟨rfl, rfl, hro⟩ | ⟨hc0, hro⟩
              · obtain ⟨v', w', hr, h2, h3, _, h4⟩ := run_append_own_at (P := C.P) w C.base t o.type e i zv (C.P.cellsOf e) (C.P.bytesOf e) hu hi hzz hsz hby hzs hpos (.slice none 0 0) 0 xs (hro.owns hw.sees) ⟨b, 0, none⟩ m m cells hl hnews (allOne_spec h1) hmax hbytes hw.base_le
                obtain ⟨a', c', H', rfl, hg, hrow', hw'⟩ := append_step hw hro (fun _ => rfl) h2 h3 h4 (fun h => by omega)
                have hr' := run_append_bare sa hm hu hi (by rw [hby]; omega) hr
                exact wp_value (run (by simpa [SV.val, e1] using hr')) (hK _ _ _ _ (h a' c' H' ⟨fun x k hx _ => hg.keep x k hx (.inl rfl), hg.fresh, fun hc g he => .inl ((hg.place hc g he).resolve_right fun h => h.2 rfl), fun h => by omega⟩ hrow') trivial (OwnExt.refl _) hw' (fun ht => by rw [hturn] at ht; cases ht))
              · obtain ⟨v', w', hr, h2, h3, _, h4⟩ := run_append_own_at (P := C.P) w C.base t o.type e i zv (C.P.cellsOf e) (C.P.bytesOf e) hu hi hzz hsz hby hzs hpos (.slice sa n c) n xs (hro.owns hw.sees) ⟨b, 0, none⟩ m m cells hl hnews (allOne_spec h1) hmax hbytes hw.base_le
                obtain ⟨a', c', H', rfl, hg, hrow', hw'⟩ := append_step hw hro (fun h => absurd h hc0) h2 h3 h4 (append_room_eq hw.sees hu hi (by rw [hsz]; exact hro) hc0 (by rw [hsz]; exact hl) hnews (allOne_spec h1) hr)
                exact wp_value (run (by simpa [SV.val, e1] using hr)) (hK _ _ _ _ (h a' c' H' hg hrow') trivial (OwnExt.refl _) hw' (fun ht => by rw [hturn] at ht; cases ht))
            · exact h.elim
          · exact h.elim
        · rename_i xa m xc
          obtain ⟨xs, cells, hrow, hl, h1, hat, hbytes, hmax, h⟩ := h
          by_cases hm : m = 0
          · subst hm
            have hc : cells = [] := List.eq_nil_of_length_eq_zero (by simpa using hl)
            subst hc
            have hr := run_append_zero (xa := xa) (a := sa) (xc := xc) hu hi hrow.2.1 o.type w
            refine wp_value (run (by simpa [SV.val] using hr)) (hK _ _ _ _ (h sa c st.H ⟨fun x k hx _ => hx, fun x k hx hn => by (rw [hx] at hn; cases hn), fun hc _ _ => .inr ⟨rfl, hc⟩, fun _ => ⟨rfl, rfl⟩⟩ (by simpa using hrow)) trivial (OwnExt.refl _) hw (fun ht => by rw [hturn] at ht; cases ht))
          · obtain ⟨b, o', rfl, hcells⟩ := hat.resolve_left hm
            have hnews : ∀ k u, cells[k]? = some u → w.cell? ((⟨b, o', none⟩ : Addr).add k) = some u := fun k u hk => by
              rw [addr_add]; exact hw.sees.cell (by simpa using cellsAt_spec hcells k u hk)
            rcases hrow.old with ⟨rfl, rfl, hro⟩ | ⟨hc0, hro⟩
            · obtain ⟨v', w', hr, h2, h3, _, h4⟩ := run_append_own_at (P := C.P) w C.base t o.type e i zv (C.P.cellsOf e) (C.P.bytesOf e) hu hi hzz hsz hby hzs hpos (.slice none 0 0) 0 xs (hro.owns hw.sees) ⟨b, o', none⟩ m xc cells hl hnews (allOne_spec h1) hmax hbytes hw.base_le
              obtain ⟨a', c', H', rfl, hg, hrow', hw'⟩ := append_step hw hro (fun _ => rfl) h2 h3 h4 (fun h => by omega)
              have hr' := run_append_bare sa (Nat.pos_of_ne_zero hm) hu hi (by rw [hby]; omega) hr
              exact wp_value (run (by simpa [SV.val] using hr')) (hK _ _ _ _ (h a' c' H' ⟨fun x k hx _ => hg.keep x k hx (.inl rfl), hg.fresh, fun hc g he => .inl ((hg.place hc g he).resolve_right fun h => h.2 rfl), fun h => by omega⟩ hrow') trivial (OwnExt.refl _) hw' (fun ht => by rw [hturn] at ht; cases ht))
            · obtain ⟨v', w', hr, h2, h3, _, h4⟩ := run_append_own_at (P := C.P) w C.base t o.type e i zv (C.P.cellsOf e) (C.P.bytesOf e) hu hi hzz hsz hby hzs hpos (.slice sa n c) n xs (hro.owns hw.sees) ⟨b, o', none⟩ m xc cells hl hnews (allOne_spec h1) hmax hbytes hw.base_le
              obtain ⟨a', c', H', rfl, hg, hrow', hw'⟩ := append_step hw hro (fun h => absurd h hc0) h2 h3 h4 (append_room_eq hw.sees hu hi (by rw [hsz]; exact hro) hc0 (by rw [hsz]; exact hl) hnews (allOne_spec h1) hr)
              exact wp_value (run (by simpa [SV.val] using hr)) (hK _ _ _ _ (h a' c' H' hg hrow') trivial (OwnExt.refl _) hw' (fun ht => by rw [hturn] at ht; cases ht))
        · exact h.elim
    · exact h.elim
  · exact h.elim

/-! ### copy and clear -/
/-- Cells stored into a known block of the call's own. -/
theorem heap_store {own : List Bx} {H : Heap} {w : World} (hw : StW C w0 own0 own H w) {b o : Nat} {k : KB} {vs : List Value} (hk : H b = some k) (hfree : k.free = true) (hbase : C.base ≤ b) (ho : o + vs.length ≤ k.size) (h1 : allOne vs = true) :
    ∃ H' w', Upd H b o k vs H' ∧ StW C w0 own0 own H' w' ∧ (storeCells ⟨b, o, none⟩ vs).run C.P w = .ok () w' := by
  obtain ⟨cur, fr, hcur, hsz, hfr, hcells⟩ := hw.sees b k hk
  obtain rfl := hfr hfree
  have hr := run_storeCells_at C.P b o k.ty vs 0 cur w hcur (by omega) (allOne_spec h1)
  simp only [Nat.add_zero] at hr
  rw [← setRange_eq _ _ _ (by simp; omega)] at hr
  have hlen : o + vs.length ≤ cur.toList.length := by simp; omega
  let H' : Heap := fun x => if x = b then some { k with cells := updCells k.cells o vs } else H x
  have hu : Upd H b o k vs H' := ⟨by simp [H'], fun x hx => by simp [H', hx]⟩
  have hsame : ∀ x, x ≠ b → (w.setRow b (setRange cur.toList o vs).toArray).heap[x]? = w.heap[x]? := fun x hx => setRow_other w b x _ hx
  have hn0 : C.H0 b = none := by
    cases h0 : C.H0 b with
    | none => rfl
    | some k0 => have := hw.h0_lt h0; omega
  refine ⟨H', w.setRow b (setRange cur.toList o vs).toArray, hu, ⟨fun x k' hx => ?_, ⟨fun y hy => ?_, fun y hy => ?_, hw.boxes.apart⟩, hw.locs, hw.step rfl rfl rfl (by simp) (fun x hx _ => hsame x (by omega)), ⟨fun x k' hx => ?_, fun x k' hx hx0 => ?_⟩, hw.base, hw.seen0⟩, hr⟩
  · by_cases e : x = b
    · subst e
      simp only [H', if_pos] at hx
      obtain rfl := Option.some.inj hx
      rw [setRow_heap w x cur _ k.ty _ hcur]
      refine ⟨_, _, rfl, by simp [setRange_length, hsz], fun _ => rfl, fun j v' hv' => ?_⟩
      simp only [List.getElem?_toArray]
      rw [setRange_getElem? _ _ _ _ hlen]
      simp only [updCells] at hv'
      split
      · rename_i hc; rw [if_pos hc] at hv'; exact hv'
      · rename_i hc; rw [if_neg hc] at hv'; simpa using hcells j v' hv'
    · simp only [H', if_neg e] at hx
      rw [hsame x e]
      exact hw.sees x k' hx
  · have hne : y.b ≠ b := fun e => by have := hw.boxes.hid y hy; rw [e, hk] at this; cases this
    exact Bx.ok_same (hw.boxes.ok y hy) (hsame _ hne)
  · have hne : y.b ≠ b := fun e => by have := hw.boxes.hid y hy; rw [e, hk] at this; cases this
    simp only [H', if_neg hne]
    exact hw.boxes.hid y hy
  · have hne : x ≠ b := fun e => by rw [e, hn0] at hx; cases hx
    simp only [H', if_neg hne]
    exact hw.next.ext x k' hx
  · by_cases e : x = b
    · omega
    · simp only [H', if_neg e] at hx
      exact hw.next.fresh x k' hx hx0
theorem copy_sound {o : Oper} {t : TypeId} {dop xo : Operand} (ho : o.op = .call { callee := .builtin .copy, args := #[dop, xo], argTypes := #[t, t] }) {st : St} {a : Act} {w : World} (ha : EnvOk C.nt st.env st.own a)
    (hw : StW C w0 own0 st.own st.H w) {f : SV → List Bx → Heap → Prop} {K : Act → World → Prop} {Q : Exit → Act → World → Prop} (hK : Cont C w0 own0 st o a w f K) {sd sx : SV} (hd : st.get dop = some sd) (hx : st.get xo = some sx)
    (h : copyV C t st f sd sx) : o.wp C.P a w K Q := by
  have hturn : turns C o = true := by simp [turns, ho]
  have run : ∀ {v : Value} {w' : World}, (Builtin.copy_ #[t, t] o.type #[sd.val st.own, sx.val st.own]).run C.P w = .ok v w' → (execOp a.eval o).run C.P w = .ok (.value v) w' := fun {v w'} h => by
    simp [execOp, ho, resolve, invoke, builtin, (get_sound ha hd).1, (get_sound ha hx).1, h]
  unfold copyV at h
  split at h
  · rename_i e da dn dc sa sn sc hu
    obtain ⟨hie, h1, h2⟩ := sized_spec h
    by_cases hm : min sn dn = 0
    · have hr : (Builtin.copy_ #[t, t] o.type #[(SV.v (.slice da dn dc)).val st.own, (SV.v (.slice sa sn sc)).val st.own]).run C.P w = .ok (.int .i64 0) w := by
        have hm' : Nat.min sn dn = 0 := hm
        have hf : (Builtin.firstCells (C.P.cellsOf e) 0 (.slice sa sn sc)).run C.P w = .ok #[] w := by
          cases sa <;> simp [Builtin.firstCells, loadCells, loadCellsFrom]
        cases da <;> simp [SV.val, Builtin.copy_, run_underlying hu, run_sizeOf' hie, Builtin.lenOf, hm', hf, storeCells, goInt]
      exact wp_value (run hr) (hK _ _ _ _ (h1 hm) trivial (OwnExt.refl _) hw (fun ht => by rw [hturn] at ht; cases ht))
    · obtain ⟨cells, b, o', b', o'', k, hl, hone, rfl, hcells, rfl, hk, hfree, hbase, hsz, hf⟩ := h2 hm
      obtain ⟨H', w', hu', hw', hst⟩ := heap_store hw hk hfree hbase hsz hone
      have hld : (Builtin.firstCells (C.P.cellsOf e) (min sn dn) (.slice (some ⟨b, o', none⟩) sn sc)).run C.P w = .ok cells.toArray w := by
        refine run_firstCells_some w (C.P.cellsOf e) (min sn dn) ⟨b, o', none⟩ sn sc cells hl fun j u hj => ?_
        rw [addr_add]
        exact hw.sees.cell (by simpa using cellsAt_spec hcells j u hj)
      have hr : (Builtin.copy_ #[t, t] o.type #[(SV.v (.slice (some ⟨b', o'', none⟩) dn dc)).val st.own, (SV.v (.slice (some ⟨b, o', none⟩) sn sc)).val st.own]).run C.P w = .ok (.int .i64 (min sn dn : Nat)) w' := by
        have hmm : Nat.min sn dn = min sn dn := rfl
        simp [SV.val, Builtin.copy_, run_underlying hu, run_sizeOf' hie, Builtin.lenOf, hmm, hld, hst, goInt]
      exact wp_value (run hr) (hK _ _ _ _ (hf H' hu') trivial (OwnExt.refl _) hw' (fun ht => by rw [hturn] at ht; cases ht))
  · exact h.elim
theorem clear_sound {o : Oper} {t : TypeId} {dop : Operand} (ho : o.op = .call { callee := .builtin .clear, args := #[dop], argTypes := #[t] }) {st : St} {a : Act} {w : World} (ha : EnvOk C.nt st.env st.own a)
    (hw : StW C w0 own0 st.own st.H w) {f : SV → List Bx → Heap → Prop} {K : Act → World → Prop} {Q : Exit → Act → World → Prop} (hK : Cont C w0 own0 st o a w f K) {sd : SV} (hd : st.get dop = some sd)
    (h : clearV C t st f sd) : o.wp C.P a w K Q := by
  have hturn : turns C o = true := by simp [turns, ho]
  have run : ∀ {v : Value} {w' : World}, (Builtin.clear_ #[t] o.type #[sd.val st.own]).run C.P w = .ok v w' → (execOp a.eval o).run C.P w = .ok (.value v) w' := fun {v w'} h => by
    simp [execOp, ho, resolve, invoke, builtin, (get_sound ha hd).1, h]
  unfold clearV at h
  split at h
  · rename_i e da dn dc hu
    split at h
    · rename_i z hz
      split at h
      · rename_i hzl
        obtain ⟨hzl, hz1⟩ := hzl
        obtain ⟨h1, h2⟩ := h
        obtain ⟨i, zv, hi, hzz, rfl⟩ := zeroCells_spec hz
        by_cases hm : dn = 0
        · subst hm
          have hr : (Builtin.clear_ #[t] o.type #[(SV.v (.slice da 0 dc)).val st.own]).run C.P w = .ok (.tuple #[]) w := by
            cases da <;> simp [SV.val, Builtin.clear_, run_underlying hu]
          exact wp_value (run hr) (hK _ _ _ _ (h1 rfl) trivial (OwnExt.refl _) hw (fun ht => by rw [hturn] at ht; cases ht))
        · obtain ⟨b, o', k, rfl, hk, hfree, hbase, hsz, hf⟩ := h2 hm
          have hone : ∀ n, allOne (List.replicate n zv.cells.toList).flatten = true := by
            intro n
            induction n with
            | zero => rfl
            | succ n ih =>
              rw [List.replicate_succ, List.flatten_cons]
              have : ∀ (a b : List Value), allOne a = true → allOne b = true → allOne (a ++ b) = true := by
                intro a
                induction a with
                | nil => intro b _ h; exact h
                | cons x r ih => intro b h h'; simp only [allOne, Bool.and_eq_true, List.cons_append] at h ⊢; exact ⟨h.1, ih b h.2 h'⟩
              exact this _ _ hz1 ih
          have hlen : (List.replicate dn zv.cells.toList).flatten.length = dn * C.P.cellsOf e := by simp [hzl]
          obtain ⟨H', w', hu', hw', hst⟩ := heap_store hw hk hfree hbase (by rw [hlen]; exact hsz) (hone dn)
          have hzc : (Builtin.zeroCells zv.cells dn).toList = (List.replicate dn zv.cells.toList).flatten := by
            have e2 : Builtin.zeroCells zv.cells dn = madeCells zv.cells (dn * zv.cells.size) := rfl
            rw [e2, made_eq]
          have hr : (Builtin.clear_ #[t] o.type #[(SV.v (.slice (some ⟨b, o', none⟩) dn dc)).val st.own]).run C.P w = .ok (.tuple #[]) w' := by
            obtain ⟨m, rfl⟩ : ∃ m, dn = m + 1 := ⟨dn - 1, by omega⟩
            simp [SV.val, Builtin.clear_, run_underlying hu, zeroValue, typeInfo, hi, hzz, hzc, hst]
          exact wp_value (run hr) (hK _ _ _ _ (hf H' hu') trivial (OwnExt.refl _) hw' (fun ht => by rw [hturn] at ht; cases ht))
      · exact h.elim
    · exact h.elim
  · exact h.elim

/-! ### Maps written -/
theorem flatEntries_append (es : List MapEntry) (e : MapEntry) : flatEntries (es ++ [e]) = flatEntries es ++ [e.key, e.val] := by
  induction es with
  | nil => rfl
  | cons x es ih => simp [flatEntries, ih]
theorem sameBits_of {key k : Value} (hs : keySame key k = some true) (hd : (∃ j a, key = .int j a) ∨ (∃ b, key = .bool b)) : Instr.sameBits 10000 k key = true := by
  rcases hd with ⟨j, a, rfl⟩ | ⟨b, rfl⟩
  · cases k <;> simp [keySame] at hs
    obtain ⟨rfl, rfl⟩ := hs
    simp [Instr.sameBits]
  · cases k <;> simp [keySame] at hs
    subst hs
    simp [Instr.sameBits]
theorem mapSet_find {d : TypeDesc} {key val : Value} (hd : (∃ i j a, d = .int i ∧ key = .int j a) ∨ (∃ b, d = .bool ∧ key = .bool b)) :
    ∀ (es : List MapEntry) (i : Nat) {cs' : List Value}, mapSet key val (flatEntries es) = some cs' →
      (∃ j old e, Instr.findNow d key es i = some (some (i + j, old)) ∧ es[j]? = some e ∧ Instr.sameBits 10000 e.key key = true ∧ flatEntries (es.modify j fun e => { e with key := key, val := val }) = cs') ∨
      (Instr.findNow d key es i = some none ∧ flatEntries es ++ [key, val] = cs')
  | [], i, cs', h => by
    simp only [flatEntries, mapSet] at h
    obtain rfl := Option.some.inj h
    exact .inr ⟨rfl, rfl⟩
  | e :: es, i, cs', h => by
    have hk' : (∃ j a, key = .int j a) ∨ (∃ b, key = .bool b) := by
      rcases hd with ⟨_, j, a, _, h⟩ | ⟨b, _, h⟩
      · exact .inl ⟨j, a, h⟩
      · exact .inr ⟨b, h⟩
    simp only [flatEntries, mapSet] at h
    split at h
    · rename_i hk
      obtain rfl := Option.some.inj h
      have hs := sameNow_of hk hd
      refine .inl ⟨0, e.val, e, by simp [Instr.findNow, hs], rfl, sameBits_of hk hk', by simp [flatEntries]⟩
    · rename_i hk
      have hs := sameNow_of hk hd
      cases hm : mapSet key val (flatEntries es) with
      | none => simp [hm] at h
      | some r' =>
        simp only [hm, Option.map_some, Option.some.injEq] at h
        subst h
        rcases mapSet_find hd es (i + 1) hm with ⟨j, old, e', h1, h2, h3, h4⟩ | ⟨h1, h2⟩
        · refine .inl ⟨j + 1, old, e', ?_, by simpa using h2, h3, by simp [flatEntries, h4]⟩
          rw [show i + (j + 1) = i + 1 + j from by omega]
          simpa [Instr.findNow, hs] using h1
        · exact .inr ⟨by simpa [Instr.findNow, hs] using h1, by rw [← h2]; rfl⟩
    · cases h
theorem mapUpdate_run {P : Program} {t kt e : TypeId} {key val : Value} (hu : P.underlying t = some (.map kt e))
    (hd : (∃ d k a, P.underlying kt = some (.int d) ∧ key = .int k a) ∨ (∃ b, P.underlying kt = some .bool ∧ key = .bool b))
    {w : World} {r : Nat} {es : Array MapEntry} {c : Nat} (hw : w.heap[r]? = some (.map es c)) {cs' : List Value} (hg : mapSet key val (flatEntries es.toList) = some cs') :
    ∃ es' c', (Instr.mapUpdate t (.map (some r)) key val).run P w = .ok () { w with heap := w.heap.setIfInBounds r (.map es' c') } ∧ flatEntries es'.toList = cs' := by
  have hdd : ∃ d, P.underlying kt = some d ∧ ((∃ i j a, d = .int i ∧ key = .int j a) ∨ (∃ b, d = .bool ∧ key = .bool b)) := by
    rcases hd with ⟨d, k, a, hu, rfl⟩ | ⟨b, hu, rfl⟩
    · exact ⟨_, hu, .inl ⟨_, _, _, rfl, rfl⟩⟩
    · exact ⟨_, hu, .inr ⟨_, rfl, rfl⟩⟩
  obtain ⟨d, hud, hdd⟩ := hdd
  have hck := run_checkKey (P := P) false 9999 hd w
  have hset : ∀ o, (setObj r o).run P w = .ok () { w with heap := w.heap.setIfInBounds r o } := fun o => by simp [setObj, Sem.run, hw]
  rcases mapSet_find hdd es.toList 0 hg with ⟨j, old, e', h1, h2, h3, h4⟩ | ⟨h1, h2⟩
  · refine ⟨es.modify j fun e => { e with key := key, val := val }, c, ?_, by rw [Array.toList_modify]; exact h4⟩
    have h2' : es[j]? = some e' := by simpa using h2
    simp only [Nat.zero_add] at h1
    simp [Instr.mapUpdate, run_underlying hu, run_getObj_map hw, hck, Instr.findKey, run_underlying hud, h1, h2', Instr.keyThatStays, h3, hset]
  · refine ⟨es.push { key, val := val, born := c }, c + 1, ?_, by rw [Array.toList_push, flatEntries_append]; exact h2⟩
    simp [Instr.mapUpdate, run_underlying hu, run_getObj_map hw, hck, Instr.findKey, run_underlying hud, h1, hset]
theorem mapUpdate_sound {o : Oper} {t kt e : TypeId} {mo ko xo : Operand} (ho : o.op = .mapUpdate t mo ko xo ∨ o.op = .insert t mo ko xo) {st : St} {a : Act} {w : World} (ha : EnvOk C.nt st.env st.own a)
    (hw : StW C w0 own0 st.own st.H w) {f : SV → List Bx → Heap → Prop} {K : Act → World → Prop} {Q : Exit → Act → World → Prop} (hK : Cont C w0 own0 st o a w f K)
    (hu : C.P.underlying t = some (.map kt e)) {i b : Nat} {sk sx : SV} {bt : TypeId} {cs cs' : List Value} (hm : st.get mo = some (.mp i)) (hk : st.get ko = some sk) (hx : st.get xo = some sx) (hfit : keyFits C kt sk = true)
    (hbx : st.own[i]? = some ⟨b, true, bt, cs⟩) (hset : mapSet (sk.val st.own) (sx.val st.own) cs = some cs') (hf : f (.v undef) (st.own.set i ⟨b, true, bt, cs'⟩) st.H) : o.wp C.P a w K Q := by
  have hturn : turns C o = true := by rcases ho with ho | ho <;> simp [turns, ho]
  obtain ⟨e1, es, c, hmap, hes⟩ := box_map hw.boxes hbx
  obtain ⟨es', c', hr, hes'⟩ := mapUpdate_run hu (keyFits_shape hfit) hmap (by rw [hes]; exact hset)
  have hrun : (execOp a.eval o).run C.P w = .ok .skip { w with heap := w.heap.setIfInBounds b (.map es' c') } := by
    have hmv : a.eval mo = .map (some b) := by rw [(get_sound ha hm).1]; simp [SV.val, e1]
    rcases ho with ho | ho <;> simp [execOp, ho, hmv, (get_sound ha hk).1, (get_sound ha hx).1, hr]
  have hlt : b < w.heap.size := (Array.getElem?_eq_some_iff.1 hmap).1
  refine wp_skip' hrun (hK _ _ _ _ hf trivial (OwnExt.set hbx rfl rfl rfl) (hw.setBox (x' := ⟨b, true, bt, cs'⟩) hbx rfl ?_ (fun k hk _ => ?_) rfl rfl rfl (by simp)) (fun ht => by rw [hturn] at ht; cases ht))
  · exact ⟨es', c', by simp [hlt], hes'⟩
  · simp only at hk
    simp [Array.getElem?_setIfInBounds_ne (Ne.symm hk)]
end
end Go.Vg
