/- Soundness of the computed verification condition: operations that only compute or read, the rest. -/
import Derived.Test.YtglnjkkaojhgnaaDoorSnd2
set_option linter.unusedSimpArgs false
set_option linter.unusedVariables false
namespace Go.Vg
open Go
section
variable {C : Cfg}
theorem typed_spec {t : TypeId} {f : Prop} (h : typed C t f) : (C.P.underlying t).isSome = true ∧ f := by
  unfold typed at h
  split at h
  · rename_i d e; exact ⟨by rw [e]; rfl, h⟩
  · exact h.elim
theorem k1_cases (k : K1) : (∃ lk, k = .one lk) ∨ ∀ lk, k ≠ .one lk := by
  cases k with
  | one lk => exact .inl ⟨lk, rfl⟩
  | _ => exact .inr fun lk h => by cases h
theorem box_no {own : List Bx} {i : Nat} {x : Bx} (hx : own[i]? = some x) : boxNo own i = x.b := by simp [boxNo, hx]
theorem idx_lt {α : Type} {l : List α} {i : Nat} {x : α} (h : l[i]? = some x) : i < l.length := (List.getElem?_eq_some_iff.1 h).1

theorem loadV_sound (ty : TypeId) (st : St) (f : SV → Prop) (s : SV) (h : loadV C ty st f s) : ∃ r, f r ∧ Reads C.P st (Instr.loadAt ty (s.val st.own)) r := by
  have lift : ∀ (b o : Nat) (v : Value) (w : World), (loadVar ty ⟨b, o, none⟩).run C.P w = .ok v w → (Instr.loadAt ty (.pointer (some ⟨b, o, none⟩))).run C.P w = .ok v w := fun b o v w h => by
    simp only [Instr.loadAt, Instr.sureAddr, Sem.run_bind, Sem.run_pure, Result.andThen_ok, h]
  unfold loadV at h
  split at h
  · rename_i i off
    split at h
    · rename_i b bt cs hx
      obtain ⟨hd, h⟩ := typed_spec h
      split at h
      · rename_i lk hk
        split at h
        · rename_i v hv
          refine ⟨_, h, trivial, fun w _ hb => ?_⟩
          obtain ⟨e, hc⟩ := box_cell hb hx hv
          simp only [SV.val, e]
          exact lift _ _ _ _ (run_loadVar_one hk hd hc)
        · exact h.elim
      · rename_i n hk
        have hk' : ∀ lk, k1Of C.P ty ≠ .one lk := fun lk h => by rw [hk] at h; cases h
        split at h
        · obtain ⟨hl, h⟩ := h
          refine ⟨_, h, trivial, fun w _ hb => ?_⟩
          have e : boxNo st.own i = b := box_no hx
          simp only [SV.val, e]
          exact lift _ _ _ _ (run_loadVar_agg hk' hl (info_of_underlying hd) fun j v hv => (box_cell hb hx (by simpa using hv)).2)
        · split at h
          · rename_i hl
            refine ⟨_, h, trivial, fun w _ hb => ?_⟩
            have e : boxNo st.own i = b := box_no hx
            simp only [SV.val, e]
            refine lift _ _ _ _ (run_loadVar_agg hk' hl (info_of_underlying hd) fun j v hv => ?_)
            rw [List.getElem?_take] at hv
            split at hv
            · rw [List.getElem?_drop] at hv
              exact (box_cell hb hx hv).2
            · cases hv
          · exact h.elim
      · rename_i hk1 hk2
        split at h
        · rename_i hl
          refine ⟨_, h, trivial, fun w _ hb => ?_⟩
          have e : boxNo st.own i = b := box_no hx
          simp only [SV.val, e]
          refine lift _ _ _ _ (run_loadVar_agg (fun lk h => hk1 lk h) hl (info_of_underlying hd) fun j v hv => ?_)
          rw [List.getElem?_take] at hv
          split at hv
          · rw [List.getElem?_drop] at hv
            exact (box_cell hb hx hv).2
          · cases hv
        · exact h.elim
    · exact h.elim
  · rename_i i off
    split at h
    · rename_i b bt cs hx
      obtain ⟨hd, h⟩ := typed_spec h
      have e : boxNo st.own i = b := box_no hx
      split at h
      · rename_i k hk
        obtain ⟨v, ⟨hl, hf⟩, _⟩ := LK.ex_spec h
        refine ⟨_, hf, trivial, fun w _ hb => ?_⟩
        simp only [SV.val, e]
        exact lift _ _ _ _ (run_loadVar_one hk hd (box_cell hb hx hl).2)
      · rename_i hk
        obtain ⟨v, ⟨hl, hf⟩, hfit⟩ := K1.ex_spec h
        refine ⟨_, hf, trivial, fun w _ hb => ?_⟩
        simp only [SV.val, e]
        have hk' : ∀ lk, k1Of C.P ty ≠ .one lk := fun lk h => hk lk h
        obtain ⟨cs', rfl, hn⟩ := fit_cells hfit hk'
        refine lift _ _ _ _ (run_loadVar_agg hk' hn (info_of_underlying hd) fun j v hv => ?_)
        have := listAt_spec (vs := cs') (by simpa [Value.cells] using hl) j v hv
        exact (box_cell hb hx (by simpa using this)).2
    · exact h.elim
  · rename_i b o
    obtain ⟨hd, h⟩ := typed_spec h
    split at h
    · rename_i k hk
      obtain ⟨v, ⟨hl, hf⟩, _⟩ := LK.ex_spec h
      refine ⟨_, hf, trivial, fun w hs _ => ?_⟩
      exact lift _ _ _ _ (run_loadVar_one hk hd (hs.cell hl))
    · rename_i hk
      obtain ⟨v, ⟨hl, hf⟩, hfit⟩ := K1.ex_spec h
      refine ⟨_, hf, trivial, fun w hs _ => ?_⟩
      have hk' : ∀ lk, k1Of C.P ty ≠ .one lk := fun lk h => hk lk h
      obtain ⟨cs', rfl, hn⟩ := fit_cells hfit hk'
      refine lift _ _ _ _ (run_loadVar_agg hk' hn (info_of_underlying hd) fun j v hv => ?_)
      have := cellsAt_spec (vs := cs') (by simpa [Value.cells] using hl) j v hv
      exact hs.cell (by simpa using this)
  · exact h.elim

/-! ### Addresses -/
theorem fieldAddrV_sound (s : TypeId) (fld : Nat) (st : St) (f : SV → Prop) (x : SV) (hx : x.wf st.own.length) (h : fieldAddrV C s fld f x) : ∃ r, f r ∧ Gives C.P st.own (Instr.fieldAt s (x.val st.own) fld) r := by
  unfold fieldAddrV at h
  split at h
  · rename_i fs hu
    split at h
    · rename_i fd hfd
      split at h
      · exact h.elim
      · rename_i hn
        have hi : (C.P.info? fd.type).isSome = true := by
          cases hi : C.P.info? fd.type with
          | none => simp [Program.cellsOf, hi] at hn
          | some i => rfl
        obtain ⟨i, hi⟩ := Option.isSome_iff_exists.1 hi
        have hs : i.size ≠ 0 := by simpa [Program.cellsOf, hi] using hn
        have key : ∀ (b o : Nat) (w : World), (Instr.fieldAt s (.pointer (some ⟨b, o, none⟩)) fld).run C.P w = .ok (.pointer (some ⟨b, o + fd.offset, none⟩)) w := fun b o w => by
          simp [Instr.fieldAt, run_underlying hu, hfd, Instr.sureAddr, fieldPlace, sizeOf, typeInfo, hi, hs, addr_add]
        split at h
        · exact ⟨_, h, hx, fun w => key _ _ w⟩
        · exact ⟨_, h, hx, fun w => key _ _ w⟩
        · exact ⟨_, h, trivial, fun w => key _ _ w⟩
        · exact h.elim
    · exact h.elim
  · exact h.elim
theorem run_sizeOf' {P : Program} {t : TypeId} (h : (P.info? t).isSome = true) (w : World) : (sizeOf t).run P w = .ok (P.cellsOf t) w := by
  obtain ⟨i, hi⟩ := Option.isSome_iff_exists.1 h
  simp [sizeOf, typeInfo, hi, Program.cellsOf]
theorem numeral_eval {a : Act} {x : Operand} {m : Nat} (h : numeral x = some m) : ∃ k, a.eval x = .int k (m : Int) := by
  unfold numeral at h
  split at h
  · obtain rfl := Option.some.inj h; exact ⟨_, rfl⟩
  · cases h
theorem sized_spec {t : TypeId} {f : Prop} (h : sized C t f) : (C.P.info? t).isSome = true ∧ f := by
  unfold sized at h
  split at h
  · rename_i d e; exact ⟨by rw [e]; rfl, h⟩
  · exact h.elim
theorem indexAddrV_sound (t : TypeId) (ixo : Operand) (st : St) (f : SV → Prop) (x ix : SV) (hx : x.wf st.own.length) (h : indexAddrV C t ixo f x ix)
    (hn : ∀ m, numeral ixo = some m → ∃ k, ix.val st.own = .int k (m : Int)) :
    ∃ r, f r ∧ Gives C.P st.own (Instr.indexAt t (x.val st.own) (ix.val st.own)) r := by
  unfold indexAddrV at h
  split at h
  · rename_i e hu
    obtain ⟨hi, h⟩ := sized_spec h
    split at h
    · rename_i a n c k i
      obtain ⟨b, o, rfl, h0, h1, hf⟩ := h
      refine ⟨_, hf, trivial, fun w => ?_⟩
      simp [SV.val, Instr.indexAt, asIntOf, run_underlying hu, h0, h1, run_sizeOf' hi, addr_add]
    · exact h.elim
  · rename_i n e hu
    obtain ⟨hi, h⟩ := sized_spec h
    have key : ∀ (b o : Nat) (k : IntKind) (i : Int) (w : World), 0 ≤ i → i < n → (Instr.indexAt t (.pointer (some ⟨b, o, none⟩)) (.int k i)).run C.P w = .ok (.pointer (some ⟨b, o + i.toNat * C.P.cellsOf e, none⟩)) w := fun b o k i w h0 h1 => by
      simp [Instr.indexAt, asIntOf, run_underlying hu, Instr.sureAddr, h0, h1, run_sizeOf' hi, addr_add]
    split at h
    · rename_i m hm
      obtain ⟨k, hk⟩ := hn m hm
      split at h
      · rename_i hlt
        have key' : ∀ (b o : Nat) (w : World), (Instr.indexAt t (.pointer (some ⟨b, o, none⟩)) (ix.val st.own)).run C.P w = .ok (.pointer (some ⟨b, o + m * C.P.cellsOf e, none⟩)) w := fun b o w => by
          rw [hk, key b o k m w (by omega) (by omega)]
          simp
        split at h
        · exact ⟨_, h, hx, fun w => key' _ _ w⟩
        · exact ⟨_, h, hx, fun w => key' _ _ w⟩
        · exact ⟨_, h, trivial, fun w => key' _ _ w⟩
        · exact h.elim
      · exact h.elim
    · split at h
      · exact ⟨_, h.2.2, hx, fun w => key _ _ _ _ w h.1 h.2.1⟩
      · exact ⟨_, h.2.2, hx, fun w => key _ _ _ _ w h.1 h.2.1⟩
      · exact ⟨_, h.2.2, trivial, fun w => key _ _ _ _ w h.1 h.2.1⟩
      · exact h.elim
  · exact h.elim

/-! ### Parts -/
theorem run_isAgg_one {P : Program} {ty : TypeId} {lk : LK} (hk : k1Of P ty = .one lk) (hd : (P.underlying ty).isSome = true) (w : World) : (isAgg ty).run P w = .ok false w := by
  obtain ⟨d, hd⟩ := Option.isSome_iff_exists.1 hd
  unfold isAgg
  rw [Sem.run_bind, run_underlying hd w]
  unfold k1Of at hk
  rw [hd] at hk
  cases d <;> simp_all
  split at hk <;> simp at hk
theorem run_isAgg_agg {P : Program} {ty : TypeId} (hk : ∀ lk, k1Of P ty ≠ .one lk) (w : World) : (isAgg ty).run P w = .ok true w := by
  cases hd : P.underlying ty with
  | none => exact absurd (by simp [k1Of, hd]) (hk (lkOf P ty))
  | some d =>
    unfold isAgg
    rw [Sem.run_bind, run_underlying hd w]
    cases d with
    | struct fs => rfl
    | array n e => rfl
    | _ => exact absurd (by simp [k1Of, hd]) (hk (lkOf P ty))
theorem partV_sound (t : TypeId) (st : St) (cs : List Value) (off : Nat) (f : SV → Prop) (h : partV C t cs off f) : ∃ r, f r ∧ Gives C.P st.own (part t cs.toArray off) r := by
  unfold partV at h
  obtain ⟨hd, h⟩ := typed_spec h
  split at h
  · rename_i lk hk
    split at h
    · rename_i v hv
      exact ⟨_, h, trivial, fun w => by simp [part, run_isAgg_one hk hd, hv, SV.val]⟩
    · exact h.elim
  · rename_i hk
    refine ⟨_, h, trivial, fun w => ?_⟩
    have e : (cs.toArray.extract off (off + C.P.cellsOf t)) = ((cs.drop off).take (C.P.cellsOf t)).toArray := by
      rw [List.extract_toArray]
      simp [List.extract]
    simp [part, run_isAgg_agg (fun lk h => hk lk h), run_sizeOf' (info_of_underlying hd), e, SV.val]
theorem fieldV_sound (t : TypeId) (fld : Nat) (st : St) (f : SV → Prop) (x : SV) (h : fieldV C t fld f x) : ∃ r, f r ∧ Gives C.P st.own (Instr.field t (x.val st.own) fld) r := by
  unfold fieldV at h
  split at h
  · rename_i fs cs hu
    split at h
    · rename_i fd hfd
      obtain ⟨r, hf, hw, hr⟩ := partV_sound fd.type st cs.toList fd.offset f h
      refine ⟨r, hf, hw, fun w => ?_⟩
      have := hr w
      simp at this
      simp [Instr.field, run_underlying hu, hfd, asAgg, SV.val, this]
    · exact h.elim
  · exact h.elim
theorem indexV_sound (t rty : TypeId) (st : St) (f : SV → Prop) (x ix : SV) (h : indexV C t rty f x ix) : ∃ r, f r ∧ Gives C.P st.own (Instr.index t (x.val st.own) (ix.val st.own)) r := by
  unfold indexV at h
  split at h
  · rename_i n e cs k i hu
    obtain ⟨hd, h⟩ := typed_spec h
    split at h
    · rename_i lk hk
      obtain ⟨h0, h1, h⟩ := h
      obtain ⟨v, ⟨hc, hf⟩, _⟩ := LK.ex_spec h
      refine ⟨_, hf, trivial, fun w => ?_⟩
      have hc' : cs[i.toNat * C.P.cellsOf e]? = some v := by simpa using hc
      simp [Instr.index, SV.val, asIntOf, run_underlying hu, h0, h1, run_sizeOf' (info_of_underlying hd), part, run_isAgg_one hk hd, hc']
    · exact h.elim
  · rename_i s k i hu
    obtain ⟨v, ⟨hr, hf⟩, _⟩ := K1.ex_spec h
    exact ⟨_, hf, trivial, hr⟩
  · exact h.elim

/-! ### Building -/
theorem valsOf_sound {nt : Nat} {st : St} {a : Act} (h : EnvOk nt st.env st.own a) : ∀ {ps : List (Nat × Operand)} {vs : List (Nat × Value)}, valsOf st ps = some vs → ps.map (fun p => (p.1, a.eval p.2)) = vs
  | [], vs, hv => by simp [valsOf] at hv; subst hv; rfl
  | (i, x) :: r, vs, hv => by
    simp only [valsOf] at hv
    split at hv
    · rename_i s l hs hl
      obtain rfl := Option.some.inj hv
      simp [valsOf_sound h hl, (get_sound h hs).1]
    · cases hv
theorem foldl_setRange : ∀ (vs : List Value) (off i : Nat) (cells : List Value),
    (vs.zipIdx i).foldl (fun cs (x : Value × Nat) => cs.setIfInBounds (off + x.2) x.1) cells.toArray = (setRange cells (off + i) vs).toArray
  | [], off, i, cells => rfl
  | v :: vs, off, i, cells => by
    simp only [List.zipIdx_cons, List.foldl_cons, setRange]
    rw [List.setIfInBounds_toArray, foldl_setRange vs off (i + 1)]
    rfl
theorem setRange_length : ∀ (vs : List Value) (off : Nat) (cells : List Value), (setRange cells off vs).length = cells.length
  | [], _, _ => rfl
  | v :: vs, off, cells => by simp [setRange, setRange_length vs]
theorem fill_eq (place : Nat → Option (Nat × Nat)) : ∀ (parts : List (Nat × Value)) (cells out : List Value), fillL place cells parts = some out → Instr.fill place cells.toArray parts = some out.toArray
  | [], cells, out, h => by simp [fillL] at h; subst h; rfl
  | (i, v) :: rest, cells, out, h => by
    simp only [fillL] at h
    unfold Instr.fill
    split at h
    · cases h
    · rename_i off size hp
      split at h
      · rename_i hc
        have e1 : v.cells.size = size := by simpa using hc.1
        have e2 : ¬ (cells.length < off + size) := by omega
        have := fill_eq place rest _ _ h
        have hf := foldl_setRange v.cells.toList off 0 cells
        simp only [Nat.add_zero] at hf
        rw [hp]
        simp only [e1, ne_eq, not_true_eq_false, decide_false, Bool.false_or, List.size_toArray, gt_iff_lt, e2, Bool.false_eq_true, if_false]
        rw [← this, ← hf]
        congr 1
        rw [← Array.foldl_toList]
        simp
      · cases h
theorem placesOf_spec {P : Program} : ∀ {fs : List Field} {l : List (Nat × Nat)}, placesOf P fs = some l → fs.mapM (fun f => (P.info? f.type).map fun i => (f.offset, i.size)) = some l
  | [], l, h => by simp [placesOf] at h; subst h; rfl
  | fd :: r, l, h => by
    simp only [placesOf] at h
    split at h
    · rename_i i l' hi hl
      obtain rfl := Option.some.inj h
      simp [List.mapM_cons, hi, placesOf_spec hl]
    · cases h
theorem buildV_sound (t : TypeId) (parts : Array (Nat × Operand)) (st : St) (f : SV → Prop) (h : buildV C t parts.toList st f) :
    ∃ r, f r ∧ ∀ a : Act, EnvOk C.nt st.env st.own a → Gives C.P st.own (Instr.build t (parts.map fun (i, x) => (i, a.eval x))) r := by
  unfold buildV at h
  split at h
  · rename_i z vs hz hvs
    have hz' : ∃ it zv, C.P.info? t = some it ∧ it.zero = some zv ∧ zv.cells.toList = z := by
      unfold zeroCellsOf at hz
      cases hi : C.P.info? t with
      | none => simp [hi] at hz
      | some it =>
        cases hzz : it.zero with
        | none => simp [hi, hzz] at hz
        | some zv => exact ⟨it, zv, rfl, hzz, by simpa [hi, hzz] using hz⟩
    obtain ⟨it, zv, hit, hzz, rfl⟩ := hz'
    have hev : ∀ a : Act, EnvOk C.nt st.env st.own a → (parts.map fun (i, x) => (i, a.eval x)).toList = vs := fun a ha => by
      rw [Array.toList_map]
      exact valsOf_sound ha hvs
    split at h
    · rename_i fs hu
      split at h
      · rename_i cells hc
        refine ⟨_, h, fun a ha => ⟨trivial, fun w => ?_⟩⟩
        refine run_build w t _ _ ?_
        rw [hev a ha]
        cases hp : placesOf C.P fs.toList with
        | none => simp [hp] at hc
        | some places =>
          simp only [hp, Option.bind_some] at hc
          have hf := fill_eq _ _ _ _ hc
          simp only [Program.built, hit, hu, hzz, placesOf_spec hp]
          simpa using hf
      · exact h.elim
    · rename_i n e hu
      split at h
      · rename_i cells hc
        refine ⟨_, h, fun a ha => ⟨trivial, fun w => ?_⟩⟩
        refine run_build w t _ _ ?_
        rw [hev a ha]
        cases hp : C.P.info? e with
        | none => simp [hp] at hc
        | some ie =>
          simp only [hp, Option.bind_some] at hc
          have hf := fill_eq _ _ _ _ hc
          simp only [Program.built, hit, hu, hzz, hp]
          simpa using hf
      · exact h.elim
    · exact h.elim
  · exact h.elim
end
end Go.Vg
