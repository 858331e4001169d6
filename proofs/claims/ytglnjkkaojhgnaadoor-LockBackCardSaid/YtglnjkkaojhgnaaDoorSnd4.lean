/- Soundness of the computed verification condition: slices, function values, lengths, maps; all that only compute or read. -/
import Derived.Laws.IdiomStrings
import Derived.Test.YtglnjkkaojhgnaaDoorSnd3
set_option linter.unusedSimpArgs false
set_option linter.unusedVariables false
namespace Go.Vg
open Go
section
variable {C : Cfg}
theorem map_add_zero (a : Option Addr) : a.map (fun x => x.add 0) = a := by cases a <;> simp [Addr.add]
theorem run_sliceBound {P : Program} {w : World} {k : IntKind} {i : Int} {y : Nat} {c : BoundsCode} (h0 : 0 ≤ i) (h1 : i ≤ y) : (Instr.sliceBound (.int k i) y c).run P w = .ok i.toNat w := by
  simp [Instr.sliceBound, asIntOf, h0, h1]
theorem numeral_zero {o : Operand} (h : numeral o = some 0) : ∃ k, o = .const (.int k 0) := by
  unfold numeral at h
  split at h
  · rename_i k m
    obtain rfl := Option.some.inj h
    exact ⟨k, rfl⟩
  · cases h
theorem sliceV_sound (t : TypeId) (st : St) (x : Operand) (lo hi mx : Option Operand) (f : SV → Prop) (h : sliceV C t st x lo hi mx f) :
    ∃ r, f r ∧ ∀ a : Act, EnvOk C.nt st.env st.own a → Gives C.P st.own (Instr.sliceAt t (a.eval x) (lo.map a.eval) (hi.map a.eval) (mx.map a.eval)) r := by
  unfold sliceV at h
  split at h
  · rename_i e sl n c hu hx
    obtain ⟨hie, h⟩ := sized_spec h
    split at h
    · refine ⟨_, h, fun a ha => ⟨trivial, fun w => ?_⟩⟩
      rw [(get_sound ha hx).1]
      simp [SV.val, Instr.sliceAt, Instr.slice, run_underlying hu, Instr.sliceBounds, run_sizeOf' hie, map_add_zero]
    · rename_i ho
      split at h
      · rename_i k hv hho
        obtain ⟨h0, h1, hf⟩ := h
        refine ⟨_, hf, fun a ha => ⟨trivial, fun w => ?_⟩⟩
        rw [(get_sound ha hx).1]
        simp [SV.val, Instr.sliceAt, Instr.slice, run_underlying hu, Instr.sliceBounds, run_sizeOf' hie, map_add_zero, (get_sound ha hho).1, run_sliceBound h0 h1]
      · exact h.elim
    · rename_i l
      split at h
      · rename_i k lv hl
        obtain ⟨h0, h1, h2, hf⟩ := h
        by_cases e1 : lv < c
        · have e2 : ¬ c = lv.toNat := by omega
          refine ⟨_, hf _ (fun _ => rfl), fun a ha => ⟨trivial, fun w => ?_⟩⟩
          rw [(get_sound ha hx).1]
          simp [SV.val, Instr.sliceAt, Instr.slice, run_underlying hu, Instr.sliceBounds, run_sizeOf' hie, (get_sound ha hl).1, run_sliceBound h0 h1, e2]
        · have e2 : c = lv.toNat := by omega
          refine ⟨_, hf sl (fun h => absurd h e1), fun a ha => ⟨trivial, fun w => ?_⟩⟩
          rw [(get_sound ha hx).1]
          simp [SV.val, Instr.sliceAt, Instr.slice, run_underlying hu, Instr.sliceBounds, run_sizeOf' hie, (get_sound ha hl).1, run_sliceBound h0 h1, e2]
      · exact h.elim
    · rename_i l ho
      split at h
      · rename_i k lv k' hv hl hho
        obtain ⟨h0, h1, h2, hf⟩ := h
        have h3 : 0 ≤ hv := by omega
        have h4 : lv ≤ (hv.toNat : Int) := by omega
        by_cases e1 : lv < c
        · have e2 : ¬ c = lv.toNat := by omega
          refine ⟨_, hf _ (fun _ => rfl), fun a ha => ⟨trivial, fun w => ?_⟩⟩
          rw [(get_sound ha hx).1]
          simp [SV.val, Instr.sliceAt, Instr.slice, run_underlying hu, Instr.sliceBounds, run_sizeOf' hie, (get_sound ha hl).1, (get_sound ha hho).1, run_sliceBound h3 h2, run_sliceBound h0 h4, e2]
        · have e2 : hv.toNat = c := by omega
          have e3 : lv.toNat = c := by omega
          refine ⟨_, hf sl (fun h => absurd h e1), fun a ha => ⟨trivial, fun w => ?_⟩⟩
          rw [(get_sound ha hx).1]
          simp [SV.val, Instr.sliceAt, Instr.slice, run_underlying hu, Instr.sliceBounds, run_sizeOf' hie, (get_sound ha hl).1, (get_sound ha hho).1, run_sliceBound h3 h2, e2, e3, run_sliceBound (y := c) h0 (by omega)]
      · exact h.elim
  · rename_i e sl n c mo hu hx
    obtain ⟨hie, h⟩ := sized_spec h
    split at h
    · rename_i ho
      split at h
      · rename_i h1 h2
        refine ⟨_, h, fun a ha => ⟨trivial, fun w => ?_⟩⟩
        obtain ⟨k1, rfl⟩ := numeral_zero h1
        obtain ⟨k2, rfl⟩ := numeral_zero h2
        rw [(get_sound ha hx).1]
        have e1 := run_sliceBound (P := C.P) (w := w) (k := k2) (i := 0) (y := c) (c := .slice3Acap) (by omega) (by omega)
        simp [SV.val, Act.eval, Instr.sliceAt, Instr.slice, run_underlying hu, Instr.sliceBounds, run_sizeOf' hie, map_add_zero, Instr.sliceBound, asIntOf]
      · exact h.elim
    · rename_i l ho
      split at h
      · rename_i k lv k' hv k'' mv hl hho hmo
        obtain ⟨h0, h1, h2, h2', hf⟩ := h
        have h3 : 0 ≤ hv := by omega
        have h3' : 0 ≤ mv := by omega
        have h4 : lv ≤ (hv.toNat : Int) := by omega
        have h5 : hv ≤ (mv.toNat : Int) := by omega
        by_cases e1 : lv < mv
        · have e2 : ¬ mv.toNat = lv.toNat := by omega
          refine ⟨_, hf _ (fun _ => rfl), fun a ha => ⟨trivial, fun w => ?_⟩⟩
          rw [(get_sound ha hx).1]
          simp [SV.val, Instr.sliceAt, Instr.slice, run_underlying hu, Instr.sliceBounds, run_sizeOf' hie, (get_sound ha hl).1, (get_sound ha hho).1, (get_sound ha hmo).1, run_sliceBound h3' h2', run_sliceBound h3 h5, run_sliceBound h0 h4, e2]
        · have e2 : mv.toNat = lv.toNat := by omega
          have e3 : hv.toNat = lv.toNat := by omega
          refine ⟨_, hf sl (fun h => absurd h e1), fun a ha => ⟨trivial, fun w => ?_⟩⟩
          rw [(get_sound ha hx).1]
          simp [SV.val, Instr.sliceAt, Instr.slice, run_underlying hu, Instr.sliceBounds, run_sizeOf' hie, (get_sound ha hl).1, (get_sound ha hho).1, (get_sound ha hmo).1, run_sliceBound h3' h2', run_sliceBound (y := lv.toNat) h3 (by omega), run_sliceBound (y := lv.toNat) h0 (by omega), e2, e3]
      · exact h.elim
    · exact h.elim
  · rename_i s hu hx
    split at h
    · refine ⟨_, h, fun a ha => ⟨trivial, fun w => ?_⟩⟩
      rw [(get_sound ha hx).1]
      simp [SV.val, Instr.sliceAt, Instr.slice, run_underlying hu, Instr.sliceBounds]
    · rename_i ho
      split at h
      · rename_i k hv hho
        obtain ⟨h0, h1, hf⟩ := h
        refine ⟨_, hf, fun a ha => ⟨trivial, fun w => ?_⟩⟩
        rw [(get_sound ha hx).1]
        simp [SV.val, Instr.sliceAt, Instr.slice, run_underlying hu, Instr.sliceBounds, (get_sound ha hho).1, run_sliceBound h0 h1]
      · exact h.elim
    · rename_i l
      split at h
      · rename_i k lv hl
        obtain ⟨h0, h1, hf⟩ := h
        refine ⟨_, hf, fun a ha => ⟨trivial, fun w => ?_⟩⟩
        rw [(get_sound ha hx).1]
        simp [SV.val, Instr.sliceAt, Instr.slice, run_underlying hu, Instr.sliceBounds, (get_sound ha hl).1, run_sliceBound h0 h1]
      · exact h.elim
    · rename_i l ho
      split at h
      · rename_i k lv k' hv hl hho
        obtain ⟨h0, h1, h2, hf⟩ := h
        have h3 : 0 ≤ hv := by omega
        have h4 : lv ≤ (hv.toNat : Int) := by omega
        refine ⟨_, hf, fun a ha => ⟨trivial, fun w => ?_⟩⟩
        rw [(get_sound ha hx).1]
        simp [SV.val, Instr.sliceAt, Instr.slice, run_underlying hu, Instr.sliceBounds, (get_sound ha hl).1, (get_sound ha hho).1, run_sliceBound h3 h2, run_sliceBound h0 h4]
      · exact h.elim
  · exact h.elim

theorem capsOf_sound {nt : Nat} {st : St} {a : Act} (h : EnvOk nt st.env st.own a) : ∀ {xs : List Operand} {l : List Nat}, capsOf st xs = some l →
    xs.map a.eval = l.map (fun i => Value.pointer (some ⟨boxNo st.own i, 0, none⟩)) ∧ ∀ i ∈ l, i < st.own.length
  | [], l, hl => by simp [capsOf] at hl; subst hl; simp
  | x :: r, l, hl => by
    simp only [capsOf] at hl
    split at hl
    · rename_i i l' hi hl'
      obtain rfl := Option.some.inj hl
      obtain ⟨h1, h2⟩ := capsOf_sound h hl'
      obtain ⟨h3, h4⟩ := get_sound h hi
      refine ⟨by simp [h1, h3, SV.val], ?_⟩
      intro j hj
      rcases List.mem_cons.1 hj with rfl | hj
      · exact h4
      · exact h2 j hj
    · cases hl
theorem capVals_sound {nt : Nat} {st : St} {a : Act} (h : EnvOk nt st.env st.own a) : ∀ {xs : List Operand} {l : List Value}, capVals st xs = some l → xs.map a.eval = l
  | [], l, hl => by simp [capVals] at hl; subst hl; rfl
  | x :: r, l, hl => by
    simp only [capVals] at hl
    split at hl
    · rename_i v l' hi hl'
      obtain rfl := Option.some.inj hl
      simp [capVals_sound h hl', (get_sound h hi).1, SV.val]
    · cases hl
theorem makeFuncV_sound (fn : Fn) (first caps : Array Operand) (st : St) (f : SV → Prop) (h : makeFuncV fn first.toList caps.toList st f) :
    ∃ r, f r ∧ ∀ a : Act, EnvOk C.nt st.env st.own a → Gives C.P st.own (Instr.makeFunc fn (first.map a.eval) (caps.map a.eval)) r := by
  unfold makeFuncV at h
  split at h
  · rename_i l hf hl
    have e1 : first = #[] := Array.toList_eq_nil_iff.1 hf
    subst e1
    refine ⟨_, h, fun a ha => ?_⟩
    obtain ⟨h1, h2⟩ := capsOf_sound ha hl
    refine ⟨h2, fun w => ?_⟩
    have e2 : caps.map a.eval = (l.map (fun i => Value.pointer (some ⟨boxNo st.own i, 0, none⟩))).toArray := by
      apply Array.ext'; simpa using h1
    simp [Instr.makeFunc, e2, SV.val]
  · rename_i hf hl
    have e1 : first = #[] := Array.toList_eq_nil_iff.1 hf
    subst e1
    split at h
    · rename_i vs hvs
      refine ⟨_, h, fun a ha => ⟨trivial, fun w => ?_⟩⟩
      have e2 : caps.map a.eval = vs.toArray := by apply Array.ext'; simpa using capVals_sound ha hvs
      simp [Instr.makeFunc, e2, SV.val]
    · exact h.elim
  · exact h.elim

/-! ### Maps -/
theorem run_getObj_map {P : Program} {w : World} {r : Nat} {es : Array MapEntry} {c : Nat} (h : w.heap[r]? = some (.map es c)) : (getObj r).run P w = .ok (.map es c) w := by
  simp [getObj, Sem.run, h]
theorem keyFits_shape {kt : TypeId} {key : SV} {own : List Bx} (h : keyFits C kt key = true) :
    (∃ d k a, C.P.underlying kt = some (.int d) ∧ key.val own = .int k a) ∨ (∃ b, C.P.underlying kt = some .bool ∧ key.val own = .bool b) := by
  unfold keyFits at h
  split at h
  · rename_i d k a hu; exact .inl ⟨d, k, a, hu, rfl⟩
  · rename_i b hu; exact .inr ⟨b, hu, rfl⟩
  · rename_i q d hu; exact .inr ⟨_, hu, rfl⟩
  · rename_i hu; exact .inr ⟨true, hu, rfl⟩
  · rename_i hu; exact .inr ⟨false, hu, rfl⟩
  · cases h
theorem sameNow_of {d : TypeDesc} {key k : Value} {t : Bool} (hs : keySame key k = some t)
    (hd : (∃ i j a, d = .int i ∧ key = .int j a) ∨ (∃ b, d = .bool ∧ key = .bool b)) : Instr.sameNow d key k = some t := by
  rcases hd with ⟨i, j, a, rfl, rfl⟩ | ⟨b, rfl, rfl⟩
  · cases k <;> simp [keySame] at hs
    rename_i j' a'
    obtain ⟨rfl, rfl⟩ := hs
    simp [Instr.sameNow, beq_dec]
  · cases k <;> simp [keySame] at hs
    subst hs
    rfl
theorem findNow_of {d : TypeDesc} {z key : Value} (hd : (∃ i j a, d = .int i ∧ key = .int j a) ∨ (∃ b, d = .bool ∧ key = .bool b)) :
    ∀ (es : List MapEntry) (i : Nat) {r : Value} {b : Bool}, mapGet z key (flatEntries es) = some (r, b) →
      (b = true ∧ ∃ j, Instr.findNow d key es i = some (some (j, r))) ∨ (b = false ∧ r = z ∧ Instr.findNow d key es i = some none)
  | [], i, r, b, h => by
    simp only [flatEntries, mapGet] at h
    obtain ⟨rfl, rfl⟩ := Prod.mk.inj (Option.some.inj h)
    exact .inr ⟨rfl, rfl, rfl⟩
  | e :: es, i, r, b, h => by
    simp only [flatEntries, mapGet] at h
    split at h
    · rename_i hk
      have hs := sameNow_of hk hd
      obtain ⟨rfl, rfl⟩ := Prod.mk.inj (Option.some.inj h)
      refine .inl ⟨rfl, i, ?_⟩
      simp [Instr.findNow, hs]
    · rename_i hk
      have hs := sameNow_of hk hd
      have := findNow_of hd es (i + 1) h
      simpa [Instr.findNow, hs] using this
    · cases h
theorem run_checkKey {P : Program} {kt : TypeId} {key : Value} (b : Bool) (n : Nat) (hd : (∃ d k a, P.underlying kt = some (.int d) ∧ key = .int k a) ∨ (∃ b, P.underlying kt = some .bool ∧ key = .bool b)) (w : World) :
    (Instr.checkKey b (n + 1) kt key).run P w = .ok () w := by
  rcases hd with ⟨d, k, a, hu, rfl⟩ | ⟨b, hu, rfl⟩ <;> simp [Instr.checkKey, run_underlying hu]
theorem lookup_run {P : Program} {t kt e : TypeId} {i : TypeInfo} {z key : Value} (hu : P.underlying t = some (.map kt e)) (hi : P.info? e = some i) (hz : i.zero = some z)
    (hd : (∃ d k a, P.underlying kt = some (.int d) ∧ key = .int k a) ∨ (∃ b, P.underlying kt = some .bool ∧ key = .bool b))
    {w : World} {r : Nat} {es : Array MapEntry} {c : Nat} (hw : w.heap[r]? = some (.map es c)) {v : Value} {b : Bool} (hg : mapGet z key (flatEntries es.toList) = some (v, b)) (ok : Bool) :
    (Instr.lookup t (.map (some r)) key ok).run P w = .ok (if ok then .tuple #[v, .bool b] else v) w := by
  have hdd : ∃ d, P.underlying kt = some d ∧ ((∃ i j a, d = .int i ∧ key = .int j a) ∨ (∃ b, d = .bool ∧ key = .bool b)) := by
    rcases hd with ⟨d, k, a, hu, rfl⟩ | ⟨b, hu, rfl⟩
    · exact ⟨_, hu, .inl ⟨_, _, _, rfl, rfl⟩⟩
    · exact ⟨_, hu, .inr ⟨_, rfl, rfl⟩⟩
  obtain ⟨d, hud, hdd⟩ := hdd
  have hck := run_checkKey (P := P) es.isEmpty 9999 hd w
  rcases findNow_of hdd es.toList 0 hg with ⟨rfl, j, hj⟩ | ⟨rfl, rfl, hj⟩
  · simp [Instr.lookup, run_underlying hu, run_getObj_map hw, hck, Instr.findKey, run_underlying hud, hj]
  · simp [Instr.lookup, run_underlying hu, run_getObj_map hw, hck, Instr.findKey, run_underlying hud, hj, zeroValue, typeInfo, hi, hz]
theorem box_map {own : List Bx} {H : Heap} {w : World} (h : BoxesOk own H w) {i : Nat} {b : Nat} {ty : TypeId} {cs : List Value} (hx : own[i]? = some ⟨b, true, ty, cs⟩) :
    boxNo own i = b ∧ ∃ es c, w.heap[b]? = some (.map es c) ∧ flatEntries es.toList = cs := by
  have hm : (⟨b, true, ty, cs⟩ : Bx) ∈ own := List.mem_of_getElem? hx
  have := h.ok _ hm
  simp only [Bx.ok] at this
  exact ⟨by simp [boxNo, hx], this⟩
theorem lookupV_sound (t : TypeId) (ok : Bool) (st : St) (f : SV → Prop) (m key : SV) (h : lookupV C t ok st f m key) :
    ∃ r, f r ∧ Reads C.P st (Instr.lookup t (m.val st.own) (key.val st.own) ok) r := by
  unfold lookupV at h
  split at h
  · rename_i kt e i hu
    have main : ∀ {b : Nat} {ty : TypeId} {cs : List Value} {z r : Value} {t' : Bool}, keyFits C kt key = true → st.own[i]? = some ⟨b, true, ty, cs⟩ → (C.P.info? e).bind (·.zero) = some z → mapGet z (key.val st.own) cs = some (r, t') →
        ∀ w, Sees st.H w → BoxesOk st.own st.H w → (Instr.lookup t (SV.val st.own (.mp i)) (key.val st.own) ok).run C.P w = .ok (if ok then .tuple #[r, .bool t'] else r) w := by
      intro b ty cs z r t' hk hx hz hg w _ hb
      obtain ⟨e1, es, c, hw, hes⟩ := box_map hb hx
      cases hi : C.P.info? e with
      | none => simp [hi] at hz
      | some ie =>
        simp only [hi, Option.bind_some] at hz
        simp only [SV.val, e1]
        exact lookup_run hu hi hz (keyFits_shape hk) hw (by rw [hes]; exact hg) ok
    split at h
    · rename_i b ty cs z lk hk hx hz hkk
      split at h
      · obtain ⟨r, ⟨t', hg, hf⟩, _⟩ := LK.ex_spec h
        exact ⟨_, hf, trivial, fun w hs hb => by simpa [SV.val] using main hk hx hz hg w hs hb⟩
      · obtain ⟨r, ⟨t', hg, hf⟩, _⟩ := LK.ex_spec h
        exact ⟨_, hf, trivial, fun w hs hb => by simpa [SV.val] using main hk hx hz hg w hs hb⟩
    · rename_i b ty cs z hk hx hz hkk
      split at h
      · obtain ⟨r, ⟨t', hg, hf⟩, _⟩ := K1.ex_spec h
        exact ⟨_, hf, trivial, fun w hs hb => by simpa [SV.val] using main hk hx hz hg w hs hb⟩
      · exact h.elim
    · exact h.elim
  · exact h.elim

/-! ### Lengths -/
theorem lenV_sound (t : TypeId) (st : St) (f : SV → Prop) (x : SV) (h : lenV C t st f x) :
    ∃ r, f r ∧ r.wf st.own.length ∧ ∀ (ty : TypeId) w, ((∀ kt e, C.P.underlying t ≠ some (.map kt e)) ∨ (Sees st.H w ∧ BoxesOk st.own st.H w)) → (Builtin.len_ #[t] ty #[x.val st.own]).run C.P w = .ok (r.val st.own) w := by
  unfold lenV at h
  split at h
  · split at h
    · rename_i e hu
      exact ⟨_, h, trivial, fun ty w _ => by simp [Builtin.len_, run_underlying hu, SV.val, goInt]⟩
    · exact h.elim
  · split at h
    · rename_i hu
      exact ⟨_, h, trivial, fun ty w _ => by simp [Builtin.len_, run_underlying hu, SV.val, goInt]⟩
    · exact h.elim
  · split at h
    · rename_i kt e b ty' cs hu hx
      refine ⟨_, h, trivial, fun ty w hw => ?_⟩
      rcases hw with hw | ⟨_, hb⟩
      · exact absurd hu (hw kt e)
      · obtain ⟨e1, es, c, hh, hes⟩ := box_map hb hx
        have hl : ∀ l : List MapEntry, (flatEntries l).length = 2 * l.length := by
          intro l; induction l with
          | nil => rfl
          | cons e l ih => simp [flatEntries, ih]; omega
        have : cs.length / 2 = es.size := by rw [← hes, hl]; simp
        simp [Builtin.len_, run_underlying hu, SV.val, goInt, e1, run_getObj_map hh, this]
    · exact h.elim
  · exact h.elim
theorem capV_sound (t : TypeId) (own : List Bx) (f : SV → Prop) (x : SV) (h : capV C t f x) : ∃ r, f r ∧ ∀ ty, Gives C.P own (Builtin.cap_ #[t] ty #[x.val own]) r := by
  unfold capV at h
  split at h
  · split at h
    · rename_i e hu
      exact ⟨_, h, fun ty => ⟨trivial, fun w => by simp [Builtin.cap_, run_underlying hu, SV.val, goInt]⟩⟩
    · exact h.elim
  · exact h.elim
/-! ### All that only compute or read -/
/-- The operation yields s: in every world, or (where it reads) in every world that knows what is known here. -/
def Yields (C : Cfg) (st : St) (o : Oper) (s : SV) : Prop :=
  ∀ a w, EnvOk C.nt st.env st.own a → (worldless C o = true ∨ (Sees st.H w ∧ BoxesOk st.own st.H w)) → (execOp a.eval o).run C.P w = .ok (.value (s.val st.own)) w
theorem eval_fun (a : Act) : (fun x => a.eval x) = a.eval := rfl
set_option maxHeartbeats 1000000 in
theorem quiet_sound (o : Oper) (st : St) {q : (SV → Prop) → Prop} (hq : quietV C o st = some q) {f : SV → Prop} (h : q f) (a₀ : Act) (h₀ : EnvOk C.nt st.env st.own a₀) :
    ∃ s, f s ∧ s.wf st.own.length ∧ Yields C st o s := by
  unfold quietV at hq
  split at hq
  case h_1 x ho =>
    obtain rfl := Option.some.inj hq
    split at h
    · rename_i s hs
      exact ⟨s, h, (get_sound h₀ hs).2, fun a w ha _ => by simp [execOp, ho, (get_sound ha hs).1]⟩
    · exact h.elim
  case h_2 x ho =>
    obtain rfl := Option.some.inj hq
    split at h
    · rename_i s hs
      exact ⟨s, h, (get_sound h₀ hs).2, fun a w ha _ => by simp [execOp, ho, (get_sound ha hs).1]⟩
    · exact h.elim
  case h_3 c x y ho =>
    obtain rfl := Option.some.inj hq
    split at h
    · rename_i s hs
      obtain ⟨r, hf, hr⟩ := pickV_sound (nt := C.nt) f x y s h
      refine ⟨r, hf, (hr a₀ h₀).1, fun a w ha _ => ?_⟩
      obtain ⟨_, b, hb, he⟩ := hr a ha
      simp only [execOp, ho, (get_sound ha hs).1, hb, asBool, Sem.run_bind, Sem.run_pure, Result.andThen_ok, he]
    · exact h.elim
  case h_4 op ty x y yt ho =>
    obtain rfl := Option.some.inj hq
    split at h
    · rename_i sx sy hx hy
      obtain ⟨r, hf, hw, hr⟩ := binV_sound op ty o.type x y st.own sx sy f h
      refine ⟨r, hf, hw, fun a w ha _ => ?_⟩
      have := hr w
      simp only [binRun] at this
      simp only [execOp, ho, (get_sound ha hx).1, (get_sound ha hy).1]
      rw [Sem.run_bind, this]
      rfl
    · exact h.elim
  case h_5 ty x ho =>
    obtain rfl := Option.some.inj hq
    split at h
    · rename_i s hs
      obtain ⟨r, hf, hw, hr⟩ := notV_sound (C := C) st.own f s h
      exact ⟨r, hf, hw, fun a w ha _ => by simp [execOp, ho, (get_sound ha hs).1, hr w]⟩
    · exact h.elim
  case h_6 ty x ho =>
    obtain rfl := Option.some.inj hq
    split at h
    · rename_i k n hs
      exact ⟨_, h _ rfl, trivial, fun a w ha _ => by simp [execOp, ho, (get_sound ha hs).1, SV.val, Op.unary, Op.intArith]⟩
    · exact h.elim
  case h_7 ty x ho =>
    obtain rfl := Option.some.inj hq
    split at h
    · rename_i s hs
      obtain ⟨r, hf, hw, hr⟩ := loadV_sound ty st f s h
      refine ⟨r, hf, hw, fun a w ha hc => ?_⟩
      rcases hc with hc | ⟨h1, h2⟩
      · simp [worldless, ho] at hc
      · simp [execOp, ho, (get_sound ha hs).1, hr w h1 h2]
    · exact h.elim
  case h_8 s x fld ho =>
    obtain rfl := Option.some.inj hq
    split at h
    · rename_i sx hs
      obtain ⟨r, hf, hw, hr⟩ := fieldAddrV_sound s fld st f sx (get_sound h₀ hs).2 h
      exact ⟨r, hf, hw, fun a w ha _ => by simp [execOp, ho, (get_sound ha hs).1, hr w]⟩
    · exact h.elim
  case h_9 t x ix ho =>
    obtain rfl := Option.some.inj hq
    split at h
    · rename_i sx si hx hi
      obtain ⟨r, hf, hw, hr⟩ := indexAddrV_sound t ix st f sx si (get_sound h₀ hx).2 h (fun m hm => by
        obtain ⟨k, hk⟩ := numeral_eval (a := a₀) hm
        exact ⟨k, by rw [← (get_sound h₀ hi).1]; exact hk⟩)
      exact ⟨r, hf, hw, fun a w ha _ => by simp [execOp, ho, (get_sound ha hx).1, (get_sound ha hi).1, hr w]⟩
    · exact h.elim
  case h_10 t x ix ho =>
    obtain rfl := Option.some.inj hq
    split at h
    · rename_i sx si hx hi
      obtain ⟨r, hf, hw, hr⟩ := indexV_sound t o.type st f sx si h
      exact ⟨r, hf, hw, fun a w ha _ => by simp [execOp, ho, (get_sound ha hx).1, (get_sound ha hi).1, hr w]⟩
    · exact h.elim
  case h_11 t x fld ho =>
    obtain rfl := Option.some.inj hq
    split at h
    · rename_i sx hs
      obtain ⟨r, hf, hw, hr⟩ := fieldV_sound t fld st f sx h
      exact ⟨r, hf, hw, fun a w ha _ => by simp [execOp, ho, (get_sound ha hs).1, hr w]⟩
    · exact h.elim
  case h_12 x i ho =>
    obtain rfl := Option.some.inj hq
    split at h
    · rename_i vs hs
      split at h
      · rename_i v hv
        have hv' : vs[i]? = some v := by simpa using hv
        exact ⟨_, h, trivial, fun a w ha _ => by simp [execOp, ho, (get_sound ha hs).1, SV.val, Instr.extract, hv']⟩
      · exact h.elim
    · exact h.elim
  case h_13 t parts ho =>
    obtain rfl := Option.some.inj hq
    obtain ⟨r, hf, hr⟩ := buildV_sound t parts st f h
    refine ⟨r, hf, (hr a₀ h₀).1, fun a w ha _ => ?_⟩
    have := (hr a ha).2 w
    simp only [execOp, ho]
    rw [Sem.run_bind, this]
    rfl
  case h_14 t x lo hi mx ho =>
    obtain rfl := Option.some.inj hq
    obtain ⟨r, hf, hr⟩ := sliceV_sound t st x lo hi mx f h
    refine ⟨r, hf, (hr a₀ h₀).1, fun a w ha _ => ?_⟩
    have := (hr a ha).2 w
    simp only [execOp, ho]
    rw [Sem.run_bind, this]
    rfl
  case h_15 fn first caps ho =>
    obtain rfl := Option.some.inj hq
    obtain ⟨r, hf, hr⟩ := makeFuncV_sound (C := C) fn first caps st f h
    refine ⟨r, hf, (hr a₀ h₀).1, fun a w ha _ => ?_⟩
    have := (hr a ha).2 w
    simp only [execOp, ho]
    rw [Sem.run_bind, this]
    rfl
  case h_16 t m k ok ho =>
    obtain rfl := Option.some.inj hq
    split at h
    · rename_i sm sk hm hk
      obtain ⟨r, hf, hw, hr⟩ := lookupV_sound t ok st f sm sk h
      refine ⟨r, hf, hw, fun a w ha hc => ?_⟩
      rcases hc with hc | ⟨h1, h2⟩
      · simp [worldless, ho] at hc
      · simp [execOp, ho, (get_sound ha hm).1, (get_sound ha hk).1, hr w h1 h2]
    · exact h.elim
  case h_17 args ts ho =>
    obtain rfl := Option.some.inj hq
    split at h
    · rename_i x t hx ht
      obtain rfl : args = #[x] := by apply Array.ext'; simpa using hx
      obtain rfl : ts = #[t] := by apply Array.ext'; simpa using ht
      split at h
      · rename_i s hs
        obtain ⟨r, hf, hw, hr⟩ := lenV_sound t st f s h
        refine ⟨r, hf, hw, fun a w ha hc => ?_⟩
        have hc' : (∀ kt e, C.P.underlying t ≠ some (.map kt e)) ∨ (Sees st.H w ∧ BoxesOk st.own st.H w) := by
          rcases hc with hc | hc
          · refine .inl fun kt e hu => ?_
            simp [worldless, ho, hu] at hc
          · exact .inr hc
        simp [execOp, ho, resolve, invoke, builtin, (get_sound ha hs).1, hr o.type w hc']
      · exact h.elim
    · exact h.elim
  case h_18 args ts ho =>
    obtain rfl := Option.some.inj hq
    split at h
    · rename_i x t hx ht
      obtain rfl : args = #[x] := by apply Array.ext'; simpa using hx
      obtain rfl : ts = #[t] := by apply Array.ext'; simpa using ht
      split at h
      · rename_i s hs
        obtain ⟨r, hf, hr⟩ := capV_sound t st.own f s h
        exact ⟨r, hf, (hr o.type).1, fun a w ha _ => by simp [execOp, ho, resolve, invoke, builtin, (get_sound ha hs).1, (hr o.type).2 w]⟩
      · exact h.elim
    · exact h.elim
  case h_19 args ts ho =>
    obtain rfl := Option.some.inj hq
    split at h
    · rename_i x y hx
      obtain rfl : args = #[x, y] := by apply Array.ext'; simpa using hx
      split at h
      · rename_i k n k' m h1 h2
        exact ⟨_, h, trivial, fun a w ha _ => by simp [execOp, ho, resolve, invoke, builtin, (get_sound ha h1).1, (get_sound ha h2).1, SV.val, Builtin.min_, Builtin.min2]⟩
      · exact h.elim
    · exact h.elim
  case h_20 args ts ho =>
    obtain rfl := Option.some.inj hq
    split at h
    · rename_i x y hx
      obtain rfl : args = #[x, y] := by apply Array.ext'; simpa using hx
      split at h
      · rename_i k n k' m h1 h2
        exact ⟨_, h, trivial, fun a w ha _ => by simp [execOp, ho, resolve, invoke, builtin, (get_sound ha h1).1, (get_sound ha h2).1, SV.val, Builtin.max_, Builtin.max2]⟩
      · exact h.elim
    · exact h.elim
  case h_21 x ho =>
    obtain rfl := Option.some.inj hq
    split at h
    · rename_i i off hs
      exact ⟨_, h, (get_sound h₀ hs).2, fun a w ha _ => by simp [execOp, ho, (get_sound ha hs).1, SV.val]⟩
    · rename_i i off hs
      exact ⟨_, h, (get_sound h₀ hs).2, fun a w ha _ => by simp [execOp, ho, (get_sound ha hs).1, SV.val]⟩
    · rename_i p hs
      exact ⟨_, h, trivial, fun a w ha _ => by simp [execOp, ho, (get_sound ha hs).1, SV.val]⟩
    · exact h.elim
  case h_22 src dst x ho =>
    split at hq
    · rename_i k n hs
      obtain rfl := Option.some.inj hq
      split at h
      · rename_i d k' hu1 hu2
        refine ⟨_, h _ rfl, trivial, fun a w ha _ => ?_⟩
        simp [execOp, ho, (get_sound ha hs).1, SV.val, convert, run_underlying hu1, run_underlying hu2, Conv.intToInt]
      · exact h.elim
    · rename_i s hs
      split at hq
      · rename_i hu2
        obtain rfl := Option.some.inj hq
        split at h
        · rename_i hu1
          refine ⟨_, h, trivial, fun a w ha _ => ?_⟩
          simp [execOp, ho, (get_sound ha hs).1, SV.val, convert, run_underlying hu1, run_underlying hu2]
        · exact h.elim
      · cases hq
    · rename_i xa n xc hs
      obtain rfl := Option.some.inj hq
      unfold bytesV at h
      split at h
      · rename_i e hu1 hu2
        split at h
        · rename_i hu3
          obtain ⟨l, rfl, hat, hf⟩ := h
          refine ⟨_, hf, trivial, fun a w ha hc => ?_⟩
          rcases hc with hc | ⟨h1, h2⟩
          · simp [worldless, ho] at hc
          · have hr : (convert src dst (.slice xa l.length xc)).run C.P w = .ok (.string ⟨l.toArray⟩) w := by
              by_cases hl : l = []
              · subst hl
                rw [List.length_nil, run_convert_bytes_string w src dst e xa 0 xc hu1 hu3 hu2]
                cases xa <;> simp [Conv.bytesToString, loadCells, loadCellsFrom] <;> rfl
              · obtain ⟨b, o', rfl, hcells⟩ := hat.resolve_left (by simpa using hl)
                refine run_convert_bytes_back w src dst e ⟨b, o', none⟩ xc l hu1 hu3 hu2 fun j hj => ?_
                have := h1.cell (cellsAt_spec hcells j (.int .u8 (l[j].toNat : Int)) (by simp [u8s, hj]))
                rw [addr_add]; simpa using this
            simp [execOp, ho, (get_sound ha hs).1, SV.val, hr]
        · exact h.elim
      · exact h.elim
    · cases hq
  case h_23 => cases hq
end
end Go.Vg
