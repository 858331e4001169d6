/- Soundness of the computed verification condition: append, maps written. -/
import Derived.Test.YtonlnlkkokigiaaSnd7
set_option linter.unusedSimpArgs false
set_option linter.unusedVariables false
namespace Go.Vg
open Go Go.RowKit
section
variable {C : Cfg} {w0 : World} {own0 : List Nat}
theorem run_append_zero {P : Program} {t e : TypeId} {i : TypeInfo} (hu : P.underlying t = some (.slice e)) (hi : P.info? e = some i) {a xa : Option Addr} {n c xc : Nat} (h : n ≤ c) (ty : TypeId) (w : World) :
    (Builtin.append_ #[t, t] ty #[.slice a n c, .slice xa 0 xc]).run P w = .ok (.slice a n c) w := by
  have hf : (Builtin.firstCells i.size 0 (.slice xa 0 xc)).run P w = .ok #[] w := by
    cases xa <;> simp [Builtin.firstCells, loadCells, loadCellsFrom]
  cases a <;> simp [Builtin.append_, run_underlying hu, sizeOf, typeInfo, hi, Builtin.lenOf, h, hf, storeCells]
/-- Where there is no room it doesn't matter where the slice stands. -/
theorem run_append_bare {P : Program} {t e ty : TypeId} {i : TypeInfo} (a : Option Addr) {m xc : Nat} {xa : Option Addr} {v : Value} {w w' : World} (hm : 0 < m) (hu : P.underlying t = some (.slice e)) (hi : P.info? e = some i)
    (hb : (0 + m) * i.bytes ≤ 140737488355328) (h : (Builtin.append_ #[t, t] ty #[.slice none 0 0, .slice xa m xc]).run P w = .ok v w') : (Builtin.append_ #[t, t] ty #[.slice a 0 0, .slice xa m xc]).run P w = .ok v w' := by
  have hn : ¬ m = 0 := by omega
  rw [Nat.zero_add] at hb
  have hf : ∀ (s : Option Addr) (w : World), (Builtin.firstCells i.size 0 (.slice s 0 0)).run P w = .ok #[] w := fun s w => by
    cases s <;> simp [Builtin.firstCells, loadCells, loadCellsFrom]
  have hcap : ¬ (281474976710656 < Builtin.nextslicecap m 0 * i.bytes) := by rw [nextslicecap_zero (by omega)]; omega
  rw [← h]
  simp [Builtin.append_, run_underlying hu, sizeOf, typeInfo, hi, Builtin.lenOf, hn, hcap, Sem.run_bind, hf]
theorem append_sound {o : Oper} {t : TypeId} {so xo : Operand} (ho : o.op = .call { callee := .builtin .append, args := #[so, xo], argTypes := #[t, t] }) {st : St} {a : Act} {w : World} (ha : EnvOk C.nt st.env st.own a)
    (hw : StW C w0 own0 st.own st.H w) {f : SV → List Bx → Heap → Prop} {K : Act → World → Prop} {Q : Exit → Act → World → Prop} (hK : Cont C w0 own0 st o a w f K) {ss sx : SV} (hs : st.get so = some ss) (hx : st.get xo = some sx)
    (h : appendV C t st f ss sx) : o.wp C.P a w K Q := by
  have hturn : turns C o = true := by simp [turns, ho]
  have run : ∀ {v : Value} {w' : World}, (Builtin.append_ #[t, t] o.type #[ss.val st.own, sx.val st.own]).run C.P w = .ok v w' → (execOp a.eval o).run C.P w = .ok (.value v) w' := fun {v w'} h => by
    simp [execOp, ho, resolve, invoke, builtin, (get_sound ha hs).1, (get_sound ha hx).1, h]
  unfold appendV at h
  split at h
  · rename_i e sa n c hu
    split at h
    · rename_i hsize
      obtain ⟨hpos, hzl⟩ := hsize
      cases hz : zeroCellsOf C.P e with
      | none => simp [hz] at hzl
      | some z =>
        simp only [hz, Option.map_some, Option.some.injEq] at hzl
        obtain ⟨i, zv, hi, hzz, rfl⟩ := zeroCells_spec hz
        have hsz : i.size = C.P.cellsOf e := by simp [Program.cellsOf, hi]
        have hby : i.bytes = C.P.bytesOf e := by simp [Program.bytesOf, hi]
        have hzs : zv.cells.size = C.P.cellsOf e := by simpa using hzl
        split at h
        · rename_i j m
          split at h
          · rename_i b bt cells hbx
            split at h
            · rename_i hc
              obtain ⟨hl, h1, hm⟩ := hc
              obtain ⟨xs, hrow, hbytes, hmax, h⟩ := h
              have hnews : ∀ k u, cells[k]? = some u → w.cell? ((⟨b, 0, none⟩ : Addr).add k) = some u := fun k u hk => by
                rw [addr_add, Nat.zero_add]; exact (box_cell hw.boxes hbx hk).2
              have e1 : boxNo st.own j = b := box_no hbx
              rcases hrow.old with ⟨rfl, rfl, hro⟩ | ⟨hc0, hro⟩
              · obtain ⟨v', w', hr, h2, h3, _, h4⟩ := run_append_own_at (P := C.P) w C.base t o.type e i zv (C.P.cellsOf e) (C.P.bytesOf e) hu hi hzz hsz hby hzs hpos (.slice none 0 0) 0 xs (hro.owns hw.sees) ⟨b, 0, none⟩ m m cells hl hnews (allOne_spec h1) hmax hbytes hw.base_le
                obtain ⟨a', c', H', rfl, hg, hrow', hw'⟩ := append_step hw hro (fun _ => rfl) h2 h3 h4
                have hr' := run_append_bare sa hm hu hi (by rw [hby]; omega) hr
                exact wp_value (run (by simpa [SV.val, e1] using hr')) (hK _ _ _ _ (h a' c' H' ⟨fun x k hx _ => hg.keep x k hx (.inl rfl), hg.fresh⟩ hrow') trivial (OwnExt.refl _) hw' (fun ht => by rw [hturn] at ht; cases ht))
              · obtain ⟨v', w', hr, h2, h3, _, h4⟩ := run_append_own_at (P := C.P) w C.base t o.type e i zv (C.P.cellsOf e) (C.P.bytesOf e) hu hi hzz hsz hby hzs hpos (.slice sa n c) n xs (hro.owns hw.sees) ⟨b, 0, none⟩ m m cells hl hnews (allOne_spec h1) hmax hbytes hw.base_le
                obtain ⟨a', c', H', rfl, hg, hrow', hw'⟩ := append_step hw hro (fun h => absurd h hc0) h2 h3 h4
                exact wp_value (run (by simpa [SV.val, e1] using hr)) (hK _ _ _ _ (h a' c' H' hg hrow') trivial (OwnExt.refl _) hw' (fun ht => by rw [hturn] at ht; cases ht))
            · exact h.elim
          · exact h.elim
        · rename_i xa m xc
          obtain ⟨xs, cells, hrow, hl, h1, hat, hbytes, hmax, h⟩ := h
          by_cases hm : m = 0
          · subst hm
            have hc : cells = [] := List.eq_nil_of_length_eq_zero (by simpa using hl)
            subst hc
            have hr := run_append_zero (xa := xa) (a := sa) (xc := xc) hu hi hrow.2.1 o.type w
            refine wp_value (run (by simpa [SV.val] using hr)) (hK _ _ _ _ (h sa c st.H ⟨fun x k hx _ => hx, fun x k hx hn => by rw [hx] at hn; cases hn⟩ (by simpa using hrow)) trivial (OwnExt.refl _) hw (fun ht => by rw [hturn] at ht; cases ht))
          · obtain ⟨b, o', rfl, hcells⟩ := hat.resolve_left hm
            have hnews : ∀ k u, cells[k]? = some u → w.cell? ((⟨b, o', none⟩ : Addr).add k) = some u := fun k u hk => by
              rw [addr_add]; exact hw.sees.cell (by simpa using cellsAt_spec hcells k u hk)
            rcases hrow.old with ⟨rfl, rfl, hro⟩ | ⟨hc0, hro⟩
            · obtain ⟨v', w', hr, h2, h3, _, h4⟩ := run_append_own_at (P := C.P) w C.base t o.type e i zv (C.P.cellsOf e) (C.P.bytesOf e) hu hi hzz hsz hby hzs hpos (.slice none 0 0) 0 xs (hro.owns hw.sees) ⟨b, o', none⟩ m xc cells hl hnews (allOne_spec h1) hmax hbytes hw.base_le
              obtain ⟨a', c', H', rfl, hg, hrow', hw'⟩ := append_step hw hro (fun _ => rfl) h2 h3 h4
              have hr' := run_append_bare sa (Nat.pos_of_ne_zero hm) hu hi (by rw [hby]; omega) hr
              exact wp_value (run (by simpa [SV.val] using hr')) (hK _ _ _ _ (h a' c' H' ⟨fun x k hx _ => hg.keep x k hx (.inl rfl), hg.fresh⟩ hrow') trivial (OwnExt.refl _) hw' (fun ht => by rw [hturn] at ht; cases ht))
            · obtain ⟨v', w', hr, h2, h3, _, h4⟩ := run_append_own_at (P := C.P) w C.base t o.type e i zv (C.P.cellsOf e) (C.P.bytesOf e) hu hi hzz hsz hby hzs hpos (.slice sa n c) n xs (hro.owns hw.sees) ⟨b, o', none⟩ m xc cells hl hnews (allOne_spec h1) hmax hbytes hw.base_le
              obtain ⟨a', c', H', rfl, hg, hrow', hw'⟩ := append_step hw hro (fun h => absurd h hc0) h2 h3 h4
              exact wp_value (run (by simpa [SV.val] using hr)) (hK _ _ _ _ (h a' c' H' hg hrow') trivial (OwnExt.refl _) hw' (fun ht => by rw [hturn] at ht; cases ht))
        · exact h.elim
    · exact h.elim
  · exact h.elim

/-! ### Maps written -/
theorem flatEntries_append (es : List MapEntry) (e : MapEntry) : flatEntries (es ++ [e]) = flatEntries es ++ [e.key, e.val] := by
  induction es with
  | nil => rfl
  | cons x es ih => simp [flatEntries, ih]
theorem sameBits_of {key k : Value} (hs : keySame key k = some true) (hd : (∃ j a, key = .int j a) ∨ (∃ b, key = .bool b)) : Instr.sameBits 10000 k key = true := by
  rcases hd with ⟨j, a, rfl⟩ | ⟨b, rfl⟩
  · cases k <;> simp [keySame] at hs
    obtain ⟨rfl, rfl⟩ := hs
    simp [Instr.sameBits]
  · cases k <;> simp [keySame] at hs
    subst hs
    simp [Instr.sameBits]
theorem mapSet_find {d : TypeDesc} {key val : Value} (hd : (∃ i j a, d = .int i ∧ key = .int j a) ∨ (∃ b, d = .bool ∧ key = .bool b)) :
    ∀ (es : List MapEntry) (i : Nat) {cs' : List Value}, mapSet key val (flatEntries es) = some cs' →
      (∃ j old e, Instr.findNow d key es i = some (some (i + j, old)) ∧ es[j]? = some e ∧ Instr.sameBits 10000 e.key key = true ∧ flatEntries (es.modify j fun e => { e with key := key, val := val }) = cs') ∨
      (Instr.findNow d key es i = some none ∧ flatEntries es ++ [key, val] = cs')
  | [], i, cs', h => by
    simp only [flatEntries, mapSet] at h
    obtain rfl := Option.some.inj h
    exact .inr ⟨rfl, rfl⟩
  | e :: es, i, cs', h => by
    have hk' : (∃ j a, key = .int j a) ∨ (∃ b, key = .bool b) := by
      rcases hd with ⟨_, j, a, _, h⟩ | ⟨b, _, h⟩
      · exact .inl ⟨j, a, h⟩
      · exact .inr ⟨b, h⟩
    simp only [flatEntries, mapSet] at h
    split at h
    · rename_i hk
      obtain rfl := Option.some.inj h
      have hs := sameNow_of hk hd
      refine .inl ⟨0, e.val, e, by simp [Instr.findNow, hs], rfl, sameBits_of hk hk', by simp [flatEntries]⟩
    · rename_i hk
      have hs := sameNow_of hk hd
      cases hm : mapSet key val (flatEntries es) with
      | none => simp [hm] at h
      | some r' =>
        simp only [hm, Option.map_some, Option.some.injEq] at h
        subst h
        rcases mapSet_find hd es (i + 1) hm with ⟨j, old, e', h1, h2, h3, h4⟩ | ⟨h1, h2⟩
        · refine .inl ⟨j + 1, old, e', ?_, by simpa using h2, h3, by simp [flatEntries, h4]⟩
          rw [show i + (j + 1) = i + 1 + j from by omega]
          simpa [Instr.findNow, hs] using h1
        · exact .inr ⟨by simpa [Instr.findNow, hs] using h1, by rw [← h2]; rfl⟩
    · cases h
theorem mapUpdate_run {P : Program} {t kt e : TypeId} {key val : Value} (hu : P.underlying t = some (.map kt e))
    (hd : (∃ d k a, P.underlying kt = some (.int d) ∧ key = .int k a) ∨ (∃ b, P.underlying kt = some .bool ∧ key = .bool b))
    {w : World} {r : Nat} {es : Array MapEntry} {c : Nat} (hw : w.heap[r]? = some (.map es c)) {cs' : List Value} (hg : mapSet key val (flatEntries es.toList) = some cs') :
    ∃ es' c', (Instr.mapUpdate t (.map (some r)) key val).run P w = .ok () { w with heap := w.heap.setIfInBounds r (.map es' c') } ∧ flatEntries es'.toList = cs' := by
  have hdd : ∃ d, P.underlying kt = some d ∧ ((∃ i j a, d = .int i ∧ key = .int j a) ∨ (∃ b, d = .bool ∧ key = .bool b)) := by
    rcases hd with ⟨d, k, a, hu, rfl⟩ | ⟨b, hu, rfl⟩
    · exact ⟨_, hu, .inl ⟨_, _, _, rfl, rfl⟩⟩
    · exact ⟨_, hu, .inr ⟨_, rfl, rfl⟩⟩
  obtain ⟨d, hud, hdd⟩ := hdd
  have hck := run_checkKey (P := P) false 9999 hd w
  have hset : ∀ o, (setObj r o).run P w = .ok () { w with heap := w.heap.setIfInBounds r o } := fun o => by simp [setObj, Sem.run, hw]
  rcases mapSet_find hdd es.toList 0 hg with ⟨j, old, e', h1, h2, h3, h4⟩ | ⟨h1, h2⟩
  · refine ⟨es.modify j fun e => { e with key := key, val := val }, c, ?_, by rw [Array.toList_modify]; exact h4⟩
    have h2' : es[j]? = some e' := by simpa using h2
    simp only [Nat.zero_add] at h1
    simp [Instr.mapUpdate, run_underlying hu, run_getObj_map hw, hck, Instr.findKey, run_underlying hud, h1, h2', Instr.keyThatStays, h3, hset]
  · refine ⟨es.push { key, val := val, born := c }, c + 1, ?_, by rw [Array.toList_push, flatEntries_append]; exact h2⟩
    simp [Instr.mapUpdate, run_underlying hu, run_getObj_map hw, hck, Instr.findKey, run_underlying hud, h1, hset]
theorem mapUpdate_sound {o : Oper} {t kt e : TypeId} {mo ko xo : Operand} (ho : o.op = .mapUpdate t mo ko xo ∨ o.op = .insert t mo ko xo) {st : St} {a : Act} {w : World} (ha : EnvOk C.nt st.env st.own a)
    (hw : StW C w0 own0 st.own st.H w) {f : SV → List Bx → Heap → Prop} {K : Act → World → Prop} {Q : Exit → Act → World → Prop} (hK : Cont C w0 own0 st o a w f K)
    (hu : C.P.underlying t = some (.map kt e)) {i b : Nat} {sk sx : SV} {bt : TypeId} {cs cs' : List Value} (hm : st.get mo = some (.mp i)) (hk : st.get ko = some sk) (hx : st.get xo = some sx) (hfit : keyFits C kt sk = true)
    (hbx : st.own[i]? = some ⟨b, true, bt, cs⟩) (hset : mapSet (sk.val st.own) (sx.val st.own) cs = some cs') (hf : f (.v undef) (st.own.set i ⟨b, true, bt, cs'⟩) st.H) : o.wp C.P a w K Q := by
  have hturn : turns C o = true := by rcases ho with ho | ho <;> simp [turns, ho]
  obtain ⟨e1, es, c, hmap, hes⟩ := box_map hw.boxes hbx
  obtain ⟨es', c', hr, hes'⟩ := mapUpdate_run hu (keyFits_shape hfit) hmap (by rw [hes]; exact hset)
  have hrun : (execOp a.eval o).run C.P w = .ok .skip { w with heap := w.heap.setIfInBounds b (.map es' c') } := by
    have hmv : a.eval mo = .map (some b) := by rw [(get_sound ha hm).1]; simp [SV.val, e1]
    rcases ho with ho | ho <;> simp [execOp, ho, hmv, (get_sound ha hk).1, (get_sound ha hx).1, hr]
  have hlt : b < w.heap.size := (Array.getElem?_eq_some_iff.1 hmap).1
  refine wp_skip' hrun (hK _ _ _ _ hf trivial (OwnExt.set hbx rfl rfl rfl) (hw.setBox (x' := ⟨b, true, bt, cs'⟩) hbx rfl ?_ (fun k hk _ => ?_) rfl rfl rfl (by simp)) (fun ht => by rw [hturn] at ht; cases ht))
  · exact ⟨es', c', by simp [hlt], hes'⟩
  · simp only at hk
    simp [Array.getElem?_setIfInBounds_ne (Ne.symm hk)]
end
end Go.Vg
