/- Soundness of the computed verification condition: slice literals, appends, makes, maps. -/
import Derived.Test.YtglnjkkaojhgnaaDoorSnd6
set_option linter.unusedSimpArgs false
set_option linter.unusedVariables false
namespace Go.Vg
open Go Go.RowKit
section
variable {C : Cfg} {w0 : World} {own0 : List Nat}
theorem OwnExt_len {own : List Bx} (x : Bx) : own.length < (own ++ [x]).length := by simp
theorem boxNo_append {own : List Bx} (x : Bx) : boxNo (own ++ [x]) own.length = x.b := by simp [boxNo]

theorem alloc_sound {o : Oper} {t : TypeId} (ho : o.op = .alloc t) {st : St} {a : Act} {w : World} (hw : StW C w0 own0 st.own st.H w) {f : SV → List Bx → Heap → Prop} {K : Act → World → Prop} {Q : Exit → Act → World → Prop}
    (hK : Cont C w0 own0 st o a w f K) {z : List Value} (hz : zeroCellsOf C.P t = some z) (h : ∀ b : Nat, f (.loc st.own.length 0) (st.own ++ [⟨b, false, t, z⟩]) st.H) : o.wp C.P a w K Q := by
  obtain ⟨i, zv, hi, hzz, rfl⟩ := zeroCells_spec hz
  have hr : (execOp a.eval o).run C.P w = .ok (.value (.pointer (some ⟨w.heap.size, 0, none⟩))) (w.alloc (.cells zv.cells t)) := by
    simp [execOp, ho, Instr.alloc, zeroValue, typeInfo, hi, hzz, newVar, newRow]
  refine wp_value hr ?_
  have := hK _ _ _ (w.alloc (.cells zv.cells t)) (h w.heap.size) (OwnExt_len _) (OwnExt.append _ _) (hw.newBox rfl (by
    simp only [Bx.ok]; show (w.heap.push _)[w.heap.size]? = _; simp)) (fun _ => BelowX.alloc [] w _)
  simpa [SV.val, boxNo_append] using this
theorem box_sound {o : Oper} {t : TypeId} {x : Operand} (ho : o.op = .box t x) {st : St} {a : Act} {w : World} (ha : EnvOk C.nt st.env st.own a) (hw : StW C w0 own0 st.own st.H w) {f : SV → List Bx → Heap → Prop} {K : Act → World → Prop} {Q : Exit → Act → World → Prop}
    (hK : Cont C w0 own0 st o a w f K) {s : SV} (hs : st.get x = some s) (h : ∀ b : Nat, f (.loc st.own.length 0) (st.own ++ [⟨b, false, t, (s.val st.own).cells.toList⟩]) st.H) : o.wp C.P a w K Q := by
  have hr : (execOp a.eval o).run C.P w = .ok (.value (.pointer (some ⟨w.heap.size, 0, none⟩))) (w.alloc (.cells (s.val st.own).cells t)) := by
    simp [execOp, ho, Instr.box, newVar, newRow, (get_sound ha hs).1]
  refine wp_value hr ?_
  have := hK _ _ _ (w.alloc (.cells (s.val st.own).cells t)) (h w.heap.size) (OwnExt_len _) (OwnExt.append _ _) (hw.newBox rfl (by
    simp only [Bx.ok]; show (w.heap.push _)[w.heap.size]? = _; simp)) (fun _ => BelowX.alloc [] w _)
  simpa [SV.val, boxNo_append] using this
theorem makeMap_sound {o : Oper} {t : TypeId} (ho : o.op = .makeMap t none) {st : St} {a : Act} {w : World} (hw : StW C w0 own0 st.own st.H w) {f : SV → List Bx → Heap → Prop} {K : Act → World → Prop} {Q : Exit → Act → World → Prop}
    (hK : Cont C w0 own0 st o a w f K) (h : ∀ b : Nat, f (.mp st.own.length) (st.own ++ [⟨b, true, t, []⟩]) st.H) : o.wp C.P a w K Q := by
  have hr : (execOp a.eval o).run C.P w = .ok (.value (.map (some w.heap.size))) (w.alloc (.map #[] 0)) := by
    simp [execOp, ho, Instr.makeMap]
  refine wp_value hr ?_
  have := hK _ _ _ (w.alloc (.map #[] 0)) (h w.heap.size) (OwnExt_len _) (OwnExt.append _ _) (hw.newBox rfl (by
    simp only [Bx.ok]; exact ⟨#[], 0, by show (w.heap.push _)[w.heap.size]? = _; simp, rfl⟩)) (fun _ => BelowX.alloc [] w _)
  simpa [SV.val, boxNo_append] using this
theorem replicate_flatten_length (z : List Value) (n : Nat) : (List.replicate n z).flatten.length = n * z.length := by simp
theorem fillL_length (place : Nat → Option (Nat × Nat)) : ∀ (parts : List (Nat × Value)) (cells out : List Value), fillL place cells parts = some out → out.length = cells.length
  | [], cells, out, h => by simp [fillL] at h; subst h; rfl
  | (i, v) :: rest, cells, out, h => by
    simp only [fillL] at h
    split at h
    · cases h
    · split at h
      · rw [fillL_length place rest _ _ h, setRange_length]
      · cases h
theorem buildSlice_sound {o : Oper} {t : TypeId} {n : Nat} {parts : Array (Nat × Operand)} (ho : o.op = .buildSlice t n parts) {st : St} {a : Act} {w : World} (ha : EnvOk C.nt st.env st.own a) (hw : StW C w0 own0 st.own st.H w)
    {f : SV → List Bx → Heap → Prop} {K : Act → World → Prop} {Q : Exit → Act → World → Prop} (hK : Cont C w0 own0 st o a w f K) {feeds : Bool} (h : buildSliceV C t n parts.toList st feeds f) : o.wp C.P a w K Q := by
  unfold buildSliceV at h
  split at h
  · rename_i e hu
    split at h
    · rename_i z vs hz hvs
      split at h
      · rename_i hc
        obtain ⟨hc1, hc2, hc3⟩ := hc
        split at h
        · rename_i cells hcells
          obtain ⟨i, zv, hi, hzz, rfl⟩ := zeroCells_spec hz
          have hsz : i.size = C.P.cellsOf e := by simp [Program.cellsOf, hi]
          have hzs : zv.cells.size = C.P.cellsOf e := by simpa using hc2
          have hev : (parts.map fun (i, x) => (i, a.eval x)).toList = vs := by
            rw [Array.toList_map]; exact valsOf_sound ha hvs
          have hev2 : List.map (fun x => (x.fst, a.eval x.snd)) parts.toList = vs := valsOf_sound ha hvs
          have hr : (execOp a.eval o).run C.P w = .ok (.value (.slice (some ⟨w.heap.size, 0, none⟩) n n)) (w.alloc (.cells cells.toArray e)) := by
            have hf := fill_eq _ _ _ _ hcells
            rw [← made_eq, hzs, ← hsz] at hf
            by_cases h0 : n * i.size = 0
            · have hn : n = 0 := by
                rcases Nat.mul_eq_zero.1 h0 with h | h
                · exact h
                · omega
              subst hn
              have hvn : cells = [] := by
                have := fillL_length _ _ _ _ hcells
                simpa using this
              subst hvn
              have hf' : Instr.fill (fun i_1 => some (i_1 * i.size, i.size)) #[] vs = some #[] := by
                simpa [madeCells, Array.range_zero'] using hf
              have hbs : (Instr.buildSlice t 0 (parts.map fun (i, x) => (i, a.eval x))).run C.P w = .ok (.slice (some ⟨w.heap.size, 0, none⟩) 0 0) (w.alloc (.cells #[] e)) := by
                simp [Instr.buildSlice, run_underlying hu, sizeOf, typeInfo, hi, newRow, Array.range_zero', hev2, hf']
              simp only [execOp, ho]
              rw [Sem.run_bind, hbs]
              rfl
            · have hbs := run_buildSlice w t e n (parts.map fun (i, x) => (i, a.eval x)) cells.toArray i zv hu hi hzz (by rw [hsz]; omega) h0 (by rw [hev]; exact hf)
              simp only [execOp, ho]
              rw [Sem.run_bind, hbs]
              rfl
          refine wp_value hr ?_
          split at h
          · have := hK _ _ _ (w.alloc (.cells cells.toArray e)) (h w.heap.size) (OwnExt_len _) (OwnExt.append _ _) (hw.newBox rfl (by
              simp only [Bx.ok]; show (w.heap.push _)[w.heap.size]? = _; simp)) (fun _ => BelowX.alloc [] w _)
            simpa [SV.val, boxNo_append] using this
          · obtain ⟨h1, h2, h3⟩ := hw.newKnown (boxKB_sees e cells)
            exact hK _ _ _ _ (h w.heap.size _ (h2.mono hw.base_le) h3 (by simp)) trivial (OwnExt.refl _) h1 (fun _ => BelowX.alloc [] w _)
        · exact h.elim
      · exact h.elim
    · exact h.elim
  · exact h.elim
theorem makeSlice_sound {o : Oper} {t : TypeId} {lo co : Operand} (ho : o.op = .makeSlice t lo co) {st : St} {a : Act} {w : World} (ha : EnvOk C.nt st.env st.own a) (hw : StW C w0 own0 st.own st.H w)
    {f : SV → List Bx → Heap → Prop} {K : Act → World → Prop} {Q : Exit → Act → World → Prop} (hK : Cont C w0 own0 st o a w f K) {sl sc : SV} (hl : st.get lo = some sl) (hc : st.get co = some sc) (h : makeSliceV C t st f sl sc) : o.wp C.P a w K Q := by
  unfold makeSliceV at h
  split at h
  · rename_i e l c hu
    split at h
    · rename_i z hz
      split at h
      · rename_i hzl
        obtain ⟨h0, h1, h2, h3, h⟩ := h
        obtain ⟨i, zv, hi, hzz, rfl⟩ := zeroCells_spec hz
        have hsz : i.size = C.P.cellsOf e := by simp [Program.cellsOf, hi]
        have hby : i.bytes = C.P.bytesOf e := by simp [Program.bytesOf, hi]
        have hzs : zv.cells.size = C.P.cellsOf e := by simpa using hzl
        have hr := run_make (P := C.P) w t e i zv hu hi hzz .i64 .i64 l c h0 h1 (by
          rw [hby]
          have : c = (c.toNat : Int) := by omega
          rw [this, ← Int.natCast_mul, Nat.mul_comm]; omega) h3
        rw [hsz, ← hzs, made_eq] at hr
        have hr' : (execOp a.eval o).run C.P w = .ok (.value (.slice (some ⟨w.heap.size, 0, none⟩) l.toNat c.toNat)) (w.alloc (.cells (List.replicate c.toNat zv.cells.toList).flatten.toArray e)) := by
          simp only [execOp, ho, (get_sound ha hl).1, (get_sound ha hc).1, SV.val]
          rw [Sem.run_bind, hr]
          rfl
        refine wp_value hr' ?_
        obtain ⟨h4, h5, h6⟩ := hw.newKnown (boxKB_sees e (List.replicate c.toNat zv.cells.toList).flatten)
        exact hK _ _ _ _ (h w.heap.size _ (h5.mono hw.base_le) h6 (by simp)) trivial (OwnExt.refl _) h4 (fun _ => BelowX.alloc [] w _)
      · exact h.elim
    · exact h.elim
  · exact h.elim

/-! ### append -/
/-- The same, a slice without room being nil. -/
def RowO (base : Nat) (H : Heap) (e : TypeId) (size : Nat) (a : Option Addr) (n c : Nat) (xs : List Value) : Prop :=
  xs.length = n * size ∧ n ≤ c ∧ c ≤ maxLen ∧
  ((a = none ∧ n = 0 ∧ c = 0) ∨ ∃ g k, a = some ⟨g, 0, none⟩ ∧ base ≤ g ∧ H g = some k ∧ k.ty = e ∧ k.size = c * size ∧ k.free = true ∧ ∀ j v, xs[j]? = some v → k.cells j = some v)
theorem RowO.row {base : Nat} {H : Heap} {e : TypeId} {size : Nat} {a : Option Addr} {n c : Nat} {xs : List Value} (h : RowO base H e size a n c xs) : Row base H e size a n c xs :=
  ⟨h.1, h.2.1, h.2.2.1, h.2.2.2.imp (fun h => h.2) id⟩
theorem Row.old {base : Nat} {H : Heap} {e : TypeId} {size : Nat} {a : Option Addr} {n c : Nat} {xs : List Value} (h : Row base H e size a n c xs) : (n = 0 ∧ c = 0 ∧ RowO base H e size none 0 0 xs) ∨ (c ≠ 0 ∧ RowO base H e size a n c xs) := by
  obtain ⟨h1, h2, h3, h4⟩ := h
  by_cases hc : c = 0
  · subst hc
    obtain rfl : n = 0 := by omega
    exact .inl ⟨rfl, rfl, h1, h2, h3, .inl ⟨rfl, rfl, rfl⟩⟩
  · rcases h4 with ⟨_, h5⟩ | h4
    · exact absurd h5 hc
    · exact .inr ⟨hc, h1, h2, h3, .inr h4⟩
theorem RowO.owns {H : Heap} {w : World} (hs : Sees H w) {base : Nat} {e : TypeId} {size : Nat} {a : Option Addr} {n c : Nat} {xs : List Value} (h : RowO base H e size a n c xs) : w.ownsRow base e size (.slice a n c) n xs := by
  obtain ⟨h1, h2, h3, h4⟩ := h
  refine ⟨h1, ?_⟩
  rcases h4 with ⟨rfl, rfl, rfl⟩ | ⟨g, k, rfl, hg, hH, hty, hksz, hfree, hcl⟩
  · exact .inl ⟨rfl, rfl⟩
  · obtain ⟨cur, fr, hc, hsz, hfr, hcell⟩ := hs g _ hH
    obtain rfl := hfr hfree
    rw [hty] at hc
    refine .inr ⟨g, c, cur, rfl, hg, hc, h2, h3, by rw [hsz, hksz], ?_⟩
    apply List.ext_getElem?
    intro j
    rw [List.getElem?_take]
    split
    · rename_i hj
      have : xs[j]? = some xs[j] := by simp [h1, hj]
      rw [this]
      simpa using hcell j _ (hcl j _ this)
    · rename_i hj
      exact (List.getElem?_eq_none (by omega)).symm
/-- Where there is room the slice stays. -/
theorem append_room_eq {P : Program} {H : Heap} {w w' : World} (hs : Sees H w) {base : Nat} {t ty e : TypeId} {i : TypeInfo} (hu : P.underlying t = some (.slice e)) (hi : P.info? e = some i) {a : Option Addr} {n c : Nat} {xs : List Value} (hrow : RowO base H e i.size a n c xs) (hc : c ≠ 0)
    {ad : Addr} {m xc : Nat} {news : List Value} (hl : news.length = m * i.size) (hnews : ∀ j u, news[j]? = some u → w.cell? (ad.add j) = some u) (h1 : ∀ u ∈ news, u.oneCell' = true) {v' : Value}
    (hr : (Builtin.append_ #[t, t] ty #[.slice a n c, .slice (some ad) m xc]).run P w = .ok v' w') (hroom : n + m ≤ c) : v' = .slice a (n + m) c := by
  obtain ⟨_, _, _, h4⟩ := hrow
  rcases h4 with ⟨_, _, h⟩ | ⟨g, k, rfl, hb, hH, hty, hksz, hfree, hcl⟩
  · exact absurd h hc
  · obtain ⟨cur, fr, hcu, hsz, hfr, _⟩ := hs g _ hH
    obtain rfl := hfr hfree
    rw [hty] at hcu
    have := run_append_room (P := P) w t ty e i hu hi g n c cur hcu ad m xc news hl hnews h1 hroom (by rw [hl, hsz, hksz, ← Nat.add_mul]; exact Nat.mul_le_mul_right _ hroom)
    rw [hr] at this
    injection this
theorem append_step {own : List Bx} {H : Heap} {w w' : World} (hw : StW C w0 own0 own H w) {e : TypeId} {size : Nat} {a : Option Addr} {n c : Nat} {xs ys : List Value} {v' : Value} {n' : Nat} (hrow : RowO C.base H e size a n c xs) (hca : c = 0 → a = none)
    (h2 : w'.ownsRow C.base e size v' n' ys) (h3 : w.grownBy w' (Value.slice a n c).ownBlock) (h4 : v'.ownBlock = (Value.slice a n c).ownBlock ∨ v'.ownBlock = some w.heap.size) (h5 : n' ≤ c → v' = .slice a n' c) :
    ∃ a' c' H', v' = .slice a' n' c' ∧ Grew C.base H H' a c a' c' n' ∧ Row C.base H' e size a' n' c' ys ∧ StW C w0 own0 own H' w' := by
  have hold : ∀ g, (Value.slice a n c).ownBlock = some g → C.base ≤ g ∧ g < w.heap.size ∧ a = some ⟨g, 0, none⟩ ∧ (H g).isSome = true := by
    intro g hg
    obtain ⟨_, _, _, h6⟩ := hrow
    rcases h6 with ⟨rfl, _, _⟩ | ⟨g', k', rfl, hb, hH, _⟩
    · simp [Value.ownBlock] at hg
    · simp [Value.ownBlock] at hg
      subst hg
      exact ⟨hb, hw.sees.lt hH, rfl, by simp [hH]⟩
  have hbl := hw.base_le
  have hblock : ∀ k, k < w.heap.size → (Value.slice a n c).ownBlock ≠ some k → w'.heap[k]? = w.heap[k]? := fun k hk hne => h3.block k hk (fun e => hne e.symm)
  have hbelow : BelowX own0 w0 w' := hw.step h3.os h3.tape h3.output h3.size fun k hk _ => hblock k (by omega) (fun e => by have := (hold k e).1; omega)
  have hbox : ∀ y ∈ own, (Value.slice a n c).ownBlock ≠ some y.b := fun y hy e => by
    have := (hold y.b e).2.2.2
    rw [hw.boxes.hid y hy] at this; cases this
  have hn0 : ∀ g, C.base ≤ g → C.H0 g = none := fun g hg => by
    cases h0 : C.H0 g with
    | none => rfl
    | some k0 => have := hw.h0_lt h0; omega
  obtain ⟨h21, h22⟩ := h2
  rcases h22 with ⟨rfl, rfl⟩ | ⟨g, cap, cur, rfl, hb, hg, hnc, hcm, hcs, htake⟩
  · -- nil
    have hnil : (Value.slice a n c).ownBlock = none := by
      rcases h4 with h4 | h4
      · simpa [Value.ownBlock] using h4.symm
      · simp [Value.ownBlock] at h4
    have hxs : ys = [] := List.eq_nil_of_length_eq_zero (by simpa using h21)
    subst hxs
    refine ⟨none, 0, H, rfl, ⟨fun x k hx _ => hx, fun x k hx hn => by (rw [hx] at hn; cases hn), fun h => absurd rfl h, fun h => by have := h5 h; simp at this; exact ⟨this.1, this.2⟩⟩, ⟨h21, Nat.le_refl _, Nat.zero_le _, .inl ⟨rfl, rfl⟩⟩,
      ⟨hw.sees.of_same fun b k hk => hblock b (hw.sees.lt hk) (by rw [hnil]; simp), ⟨fun y hy => Bx.ok_same (hw.boxes.ok y hy) (hblock _ (Bx.ok_lt (hw.boxes.ok y hy)) (hbox y hy)), hw.boxes.hid, hw.boxes.apart⟩, hw.locs, hbelow, hw.next, hw.base, hw.seen0⟩⟩
  · have hgw : (Value.slice a n c).ownBlock = some g ∨ g = w.heap.size := by
      rcases h4 with h4 | h4
      · exact .inl (by simpa [Value.ownBlock] using h4.symm)
      · exact .inr (by simpa [Value.ownBlock] using h4)
    let H' : Heap := fun x => if x = g then some ⟨e, cap * size, true, fun j => ys[j]?⟩ else if (Value.slice a n c).ownBlock = some x then none else H x
    have hgH : ∀ x k, H x = some k → (c = 0 ∨ a ≠ some ⟨x, 0, none⟩) → x ≠ g ∧ (Value.slice a n c).ownBlock ≠ some x := fun x k hx hne => by
      have h1 : (Value.slice a n c).ownBlock ≠ some x := fun e => by
        rcases hne with hne | hne
        · have := (hold x e).2.2.1; rw [hca hne] at this; cases this
        · exact hne (hold x e).2.2.1
      refine ⟨fun e => ?_, h1⟩
      subst e
      rcases hgw with h | h
      · exact h1 h
      · have := hw.sees.lt hx; omega
    refine ⟨some ⟨g, 0, none⟩, cap, H', rfl, ⟨fun x k hx hne => ?_, fun x k hx hn => ?_, fun _ x hx => ?_, fun h => by have := h5 h; simp at this; exact ⟨this.1, this.2⟩⟩, ⟨h21, hnc, hcm, .inr ⟨g, ⟨e, cap * size, true, fun j => ys[j]?⟩, rfl, hb, by simp [H'], rfl, rfl, rfl, fun j v h => h⟩⟩, ⟨fun x k hx => ?_, ⟨fun y hy => ?_, fun y hy => ?_, hw.boxes.apart⟩, hw.locs, hbelow, ⟨fun x k hx => ?_, fun x k hx hn => ?_⟩, hw.base, hw.seen0⟩⟩
    · obtain ⟨e1, e2⟩ := hgH x k hx hne
      simp [H', e1, e2, hx]
    · by_cases e1 : x = g
      · omega
      · simp only [H', if_neg e1] at hx
        split at hx
        · cases hx
        · rw [hx] at hn; cases hn
    · obtain rfl : g = x := by simpa using hx
      rcases hgw with h | h
      · have e1 := (hold g h).2.2.1
        exact .inr ⟨e1.symm, fun h0 => by have := hca h0; rw [this] at e1; cases e1⟩
      · refine .inl ?_
        cases hg2 : H g with
        | none => rfl
        | some k => have := hw.sees.lt hg2; omega
    · by_cases e1 : x = g
      · subst e1
        simp only [H', if_pos] at hx
        obtain rfl := Option.some.inj hx
        refine ⟨cur, (0, 0), hg, hcs, fun _ => rfl, fun j v hv => ?_⟩
        have hv' : ys[j]? = some v := hv
        have hj : j < n' * size := by rw [← h21]; exact idx_lt hv'
        rw [← htake, List.getElem?_take, if_pos hj] at hv'
        simpa using hv'
      · simp only [H', if_neg e1] at hx
        split at hx
        · cases hx
        · rename_i e2
          rw [hblock x (hw.sees.lt hx) e2]
          exact hw.sees x k hx
    · exact Bx.ok_same (hw.boxes.ok y hy) (hblock _ (Bx.ok_lt (hw.boxes.ok y hy)) (hbox y hy))
    · have hlt := Bx.ok_lt (hw.boxes.ok y hy)
      have e1 : y.b ≠ g := fun e => by
        rcases hgw with h | h
        · exact hbox y hy (by rw [e]; exact h)
        · omega
      simp only [H', if_neg e1]
      split
      · rfl
      · exact hw.boxes.hid y hy
    · have hlt := hw.h0_lt hx
      have e1 : x ≠ g := by omega
      have e2 : (Value.slice a n c).ownBlock ≠ some x := fun e => by have := (hold x e).1; omega
      simp only [H', if_neg e1, if_neg e2]
      exact hw.next.ext x k hx
    · by_cases e1 : x = g
      · omega
      · simp only [H', if_neg e1] at hx
        split at hx
        · cases hx
        · exact hw.next.fresh x k hx hn
end
end Go.Vg
