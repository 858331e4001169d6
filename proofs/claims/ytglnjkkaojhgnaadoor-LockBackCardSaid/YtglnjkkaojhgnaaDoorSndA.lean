/- Soundness of the computed verification condition: one operation, guards, regions that do not draw. -/
import Derived.Test.YtglnjkkaojhgnaaDoorSnd9s
set_option linter.unusedSimpArgs false
set_option linter.unusedVariables false
namespace Go.Vg
open Go Go.RowKit
section
variable {C : Cfg} {w0 : World} {own0 : List Nat}
theorem appendZ_sound {o : Oper} {t u : TypeId} {so xo : Operand} (ho : o.op = .call { callee := .builtin .append, args := #[so, xo], argTypes := #[t, u] }) {st : St} {a : Act} {w : World} (ha : EnvOk C.nt st.env st.own a)
    (hw : StW C w0 own0 st.own st.H w) {f : SV → List Bx → Heap → Prop} {K : Act → World → Prop} {Q : Exit → Act → World → Prop} (hK : Cont C w0 own0 st o a w f K) {ss sx : SV} (hs : st.get so = some ss) (hx : st.get xo = some sx)
    (h : appendZV C t u st f ss sx) : o.wp C.P a w K Q := by
  have hturn : turns C o = true := by simp [turns, ho]
  unfold appendZV at h
  split at h
  case h_3 => exact h.elim
  case h_2 =>
    rename_i e sa n c y hu hu2
    exact appendS_sound ho ha hw hK hs hx hu hu2 h
  rename_i e ki sa n c kx k hu htn
  cases hz : zeroCellsOf C.P e with
  | none => rw [hz] at h; exact h.elim
  | some z =>
    rw [hz] at h
    dsimp only at h
    split at h
    case isFalse => exact h.elim
    rename_i hc
    obtain ⟨hzl, hpos⟩ := hc
    obtain ⟨xs, m, rfl, hm, hroom, hrow, hbytes, hmax, h⟩ := h
    obtain ⟨i, zv, hi, hzz, rfl⟩ := zeroCells_spec hz
    have hsz : i.size = C.P.cellsOf e := by simp [Program.cellsOf, hi]
    have hby : i.bytes = C.P.bytesOf e := by simp [Program.bytesOf, hi]
    have hzs : zv.cells.size = C.P.cellsOf e := by simpa using hzl
    have hmx : maxLen = 9223372036854775807 := rfl
    have hold : (Builtin.firstCells i.size n (.slice sa n c)).run C.P w.drew = .ok xs.toArray w.drew := by
      by_cases hn : n = 0
      · subst hn
        have : xs = [] := List.eq_nil_of_length_eq_zero (by simpa using hrow.1)
        subst this
        cases sa <;> simp [Builtin.firstCells, loadCells, loadCellsFrom]
      · rcases hrow.2.2.2 with ⟨h1, _⟩ | ⟨g, kb, rfl, hg, hH, _, _, _, hcl⟩
        · exact absurd h1 hn
        · refine run_firstCells_some (P := C.P) w.drew i.size n ⟨g, 0, none⟩ n c xs (by rw [hsz]; exact hrow.1) fun j v hj => ?_
          rw [addr_add, Nat.zero_add]
          have : st.H.cell g j = some v := by unfold Heap.cell; rw [hH]; exact hcl j v hj
          have := hw.sees.cell this
          simpa using this
    have hfit : Builtin.nextslicecap (n + m) c * i.bytes ≤ 281474976710656 := growslice_fits (by omega) (by rw [hby]; exact hbytes)
    have hr := Lib.run_append_grow_zeros (P := C.P) w t u o.type e i zv kx ki hu htn hi hzz sa n c xs hold m hm (by omega) hroom (by omega) (by
      rw [hby]
      have : m * C.P.bytesOf e ≤ (n + m) * C.P.bytesOf e := Nat.mul_le_mul_right _ (by omega)
      omega) hfit
    have hr' : (execOp a.eval o).run C.P w = .ok (.value (.slice (some ⟨w.heap.size, 0, none⟩) (n + m) (grownCap w (n + m) c e))) (w.drew.alloc (.cells (xs.toArray ++ Builtin.zeroCells zv.cells m ++ Builtin.zeroCells zv.cells (grownCap w (n + m) c e - (n + m))) e)) := by
      simp only [execOp, ho, resolve, invoke, builtin, (get_sound ha hs).1, (get_sound ha hx).1, SV.val, List.map_toArray, List.map_cons, List.map_nil, Sem.run_bind, Sem.run_pure, Result.andThen_ok]
      rw [hr]
      rfl
    refine wp_value hr' ?_
    have hge := grownCap_ge w (n + m) c e
    have hcm : grownCap w (n + m) c e ≤ maxLen := grownCap_le_maxLen w (n + m) c e hmax
    have hwd : StW C w0 own0 st.own st.H w.drew := hw.calledPlain (BelowX.drew [] w) (hw.sees.below (BelowX.drew [] w)) (Next.refl _ _)
    have hzc : (Builtin.zeroCells zv.cells m).toList = (List.replicate m zv.cells.toList).flatten := by
      have : Builtin.zeroCells zv.cells m = madeCells zv.cells (m * zv.cells.size) := rfl
      rw [this, made_eq]
    have hsize : (xs.toArray ++ Builtin.zeroCells zv.cells m ++ Builtin.zeroCells zv.cells (grownCap w (n + m) c e - (n + m))).size = grownCap w (n + m) c e * C.P.cellsOf e := by
      simp only [Array.size_append, List.size_toArray, size_zeroCells, hzs, hrow.1, ← Nat.add_mul]
      congr 1; omega
    have hlen : (xs ++ (List.replicate m zv.cells.toList).flatten).length = (n + m) * C.P.cellsOf e := by
      rw [List.length_append, hrow.1, ← hzc, Nat.add_mul]; simp [size_zeroCells, hzs]
    obtain ⟨h4, h5, h6⟩ := hwd.newKnown (k := ⟨e, grownCap w (n + m) c e * C.P.cellsOf e, true, fun j => (xs ++ (List.replicate m zv.cells.toList).flatten)[j]?⟩) (o := .cells (xs.toArray ++ Builtin.zeroCells zv.cells m ++ Builtin.zeroCells zv.cells (grownCap w (n + m) c e - (n + m))) e) (by
      refine ⟨_, _, rfl, hsize, fun _ => rfl, fun j v hj => ?_⟩
      have hj' : (xs ++ (List.replicate m zv.cells.toList).flatten)[j]? = some v := hj
      rw [← Array.getElem?_toList, Array.toList_append, Array.toList_append, hzc]
      rw [List.getElem?_append_left (by
        have := (List.getElem?_eq_some_iff.1 hj').1
        simpa using this)]
      exact hj')
    exact hK _ _ _ _ (h w.heap.size _ _ (h5.mono hw.base_le) h6 ⟨hlen, hge, hcm, .inr ⟨w.heap.size, _, rfl, hw.base_le, if_pos rfl, rfl, rfl, rfl, fun j v hj => hj⟩⟩) trivial (OwnExt.refl _) h4 (fun ht => by rw [hturn] at ht; cases ht)
theorem loud_sound (hin : InlOk C.P C.muts) {o : Oper} {next : Option Oper} {st : St} {a : Act} {w : World} (ha : EnvOk C.nt st.env st.own a)
    (hw : StW C w0 own0 st.own st.H w) {f : SV → List Bx → Heap → Prop} {K : Act → World → Prop} {Q : Exit → Act → World → Prop} (hK : Cont C w0 own0 st o a w f K)
    (h : loudV C o next st f) : o.wp C.P a w K Q := by
  unfold loudV at h
  split at h
  case h_1 t ao x ho =>
    split at h
    · rename_i sa sx hsa hsx
      obtain ⟨own', H', w', hf, hext, hw', hr⟩ := storeV_sound t st (sx.val st.own) _ sa hw h
      exact wp_skip' (by simp [execOp, ho, (get_sound ha hsa).1, (get_sound ha hsx).1, hr]) (hK _ _ _ _ hf trivial hext hw' (fun ht => by simp [turns, ho] at ht))
    · exact h.elim
  case h_2 t ho =>
    split at h
    · rename_i z hz; exact alloc_sound ho hw hK hz h
    · exact h.elim
  case h_3 t x ho =>
    split at h
    · rename_i s hs; exact box_sound ho ha hw hK hs h
    · exact h.elim
  case h_4 t n parts ho => exact buildSlice_sound ho ha hw hK h
  case h_5 t ho => exact makeMap_sound ho hw hK h
  case h_6 t m k x ho =>
    split at h
    · rename_i kt e i sk sx hu hm hk hx
      split at h
      · rename_i b bt cs hfit hbx
        obtain ⟨cs', hset, hf⟩ := h
        exact mapUpdate_sound (.inl ho) ha hw hK hu hm hk hx hfit hbx hset hf
      · exact h.elim
    · exact h.elim
  case h_7 t m k x ho =>
    split at h
    · rename_i kt e i sk sx hu hm hk hx
      split at h
      · rename_i b bt cs hfit hbx
        obtain ⟨cs', hset, hf⟩ := h
        exact mapUpdate_sound (.inr ho) ha hw hK hu hm hk hx hfit hbx hset hf
      · exact h.elim
    · exact h.elim
  case h_8 t l c ho =>
    split at h
    · rename_i sl sc hl hc; exact makeSlice_sound ho ha hw hK hl hc h
    · exact h.elim
  case h_9 args ts ho =>
    split at h
    · rename_i so xo t u hargs hts
      split at h
      · rename_i ss sx hs hx
        split at h
        · rename_i e
          subst e
          have e1 : args = #[so, xo] := Array.ext' (by simpa using hargs)
          have e2 : ts = #[t, t] := Array.ext' (by simpa using hts)
          subst e1; subst e2
          exact append_sound ho ha hw hK hs hx h
        · have e1 : args = #[so, xo] := Array.ext' (by simpa using hargs)
          have e2 : ts = #[t, u] := Array.ext' (by simpa using hts)
          subst e1; subst e2
          exact appendZ_sound ho ha hw hK hs hx h
      · exact h.elim
    · exact h.elim
  case h_10 args ts ho =>
    split at h
    · rename_i d x t u hargs hts
      split at h
      · rename_i sd sx hd hx
        split at h
        · rename_i e
          subst e
          have e1 : args = #[d, x] := Array.ext' (by simpa using hargs)
          have e2 : ts = #[t, t] := Array.ext' (by simpa using hts)
          subst e1; subst e2
          exact copy_sound ho ha hw hK hd hx h
        · exact h.elim
      · exact h.elim
    · exact h.elim
  case h_11 args ts ho =>
    split at h
    · rename_i d t hargs hts
      split at h
      · rename_i sd hd
        have e1 : args = #[d] := Array.ext' (by simpa using hargs)
        have e2 : ts = #[t] := Array.ext' (by simpa using hts)
        subst e1; subst e2
        exact clear_sound ho ha hw hK hd h
      · exact h.elim
    · exact h.elim
  case h_12 fo args ts ho => exact callV_sound hin ho ha hw hK h
  case h_13 src dst x ho =>
    split at h
    · rename_i s hs; exact toBytes_sound ho ha hw hK hs h
    · exact h.elim
  case h_14 => exact h.elim
theorem opV_sound (hin : InlOk C.P C.muts) {o : Oper} {next : Option Oper} {st : St} {a : Act} {w : World} (ha : EnvOk C.nt st.env st.own a)
    (hw : StW C w0 own0 st.own st.H w) {f : SV → List Bx → Heap → Prop} {K : Act → World → Prop} {Q : Exit → Act → World → Prop} (hK : Cont C w0 own0 st o a w f K)
    (h : opV C o next st f) : o.wp C.P a w K Q := by
  unfold opV at h
  split at h
  · rename_i q hq
    obtain ⟨s, hf, hwf, hy⟩ := quiet_sound (f := fun s => f s st.own st.H) o st hq h a ha
    exact wp_value (hy a w ha (.inr ⟨hw.sees, hw.boxes⟩)) (hK _ _ _ _ hf hwf (OwnExt.refl _) hw (fun _ => BelowX.refl _ _))
  · exact loud_sound hin ha hw hK h
/-! ### Guards -/
theorem yielded_of {nt : Nat} {env : List (Nat × SV)} {own : List Bx} {a : Act} (h : EnvOk nt env own a) {ops : Array Oper} {j t : Nat} (ht : (ops[j]?).bind (·.dst) = some t) {s : SV} (hs : look t env = some s) :
    yielded ops a.tmps j = (match s.val own with | .bool b => some b | _ => none) := by
  obtain ⟨h1, h2, _⟩ := h.at_ t s hs
  have : a.tmps[t]? = some (s.val own) := by
    rw [← h2]
    simp [h.size, h1]
  simp only [yielded, ht, Option.bind_some, this]
  cases s.val own <;> rfl
/-- What a guard says, and the state behind it. -/
theorem guardV_sound {ops : Array Oper} {o : Oper} {st : St} {yes no : St → Prop} {a : Act} (ha : EnvOk C.nt st.env st.own a) (h : guardV ops o st yes no) :
    ∃ env', EnvOk C.nt env' st.own a ∧ ((Region.wanted o (yielded ops a.tmps) = true ∧ yes ⟨env', st.own, st.H⟩) ∨ (Region.wanted o (yielded ops a.tmps) = false ∧ no ⟨env', st.own, st.H⟩)) := by
  unfold guardV at h
  split at h
  · rename_i hg
    exact ⟨st.env, ha, .inl ⟨by simp [Region.wanted, hg], h⟩⟩
  · rename_i j want hg
    split at h
    · rename_i t ht
      have hw : ∀ {s : SV} {b : Bool}, look t st.env = some s → s.val st.own = .bool b → Region.wanted o (yielded ops a.tmps) = (b == want) := fun {s b} hs hv => by
        simp only [Region.wanted, hg, yielded_of ha ht hs, hv]
        cases want <;> cases b <;> rfl
      have key : ∀ {s : SV} {b : Bool} {env' : List (Nat × SV)}, look t st.env = some s → s.val st.own = .bool b → EnvOk C.nt env' st.own a → byWant want (if b then yes ⟨env', st.own, st.H⟩ else no ⟨env', st.own, st.H⟩) (if b then no ⟨env', st.own, st.H⟩ else yes ⟨env', st.own, st.H⟩) →
          ∃ env', EnvOk C.nt env' st.own a ∧ ((Region.wanted o (yielded ops a.tmps) = true ∧ yes ⟨env', st.own, st.H⟩) ∨ (Region.wanted o (yielded ops a.tmps) = false ∧ no ⟨env', st.own, st.H⟩)) := fun {s b env'} hs hv he hb => by
        have := hw hs hv
        refine ⟨env', he, ?_⟩
        cases want <;> cases b <;> simp_all [byWant]
      split at h
      · rename_i hs
        exact key hs rfl ha (by simpa using h)
      · rename_i hs
        refine key hs rfl ha ?_
        cases want <;> simpa [byWant] using h
      · rename_i q d hs
        by_cases hq : q
        · have hv : (SV.p q d).val st.own = .bool true := by simp [SV.val, hq]
          have he := ha.respell (s' := .tt) hs (by rw [hv]; rfl) trivial
          exact key hs hv he (by simpa [St.put] using h.1 hq)
        · have hv : (SV.p q d).val st.own = .bool false := by simp [SV.val, hq]
          have he := ha.respell (s' := .ff) hs (by rw [hv]; rfl) trivial
          refine key hs hv he ?_
          have := h.2 hq
          cases want <;> simpa [byWant, St.put] using this
      · rename_i b hs
        cases b
        · have he := ha.respell (s' := .ff) hs rfl trivial
          refine key hs rfl he ?_
          have := h.2 rfl
          cases want <;> simpa [byWant, St.put] using this
        · have he := ha.respell (s' := .tt) hs rfl trivial
          exact key hs rfl he (by simpa [St.put] using h.1 rfl)
      · rename_i vs hs
        refine ⟨st.env, ha, .inr ⟨?_, h⟩⟩
        simp [Region.wanted, hg, yielded_of ha ht hs, SV.val]
      · exact h.elim
    · exact h.elim
/-! ### What is kept along the way -/
/-- The boxes are those of 'base' and more; slots outside W are as they were in a₀. -/
structure Rel (base : List Bx) (W : List Nat) (a₀ a : Act) (own : List Bx) : Prop where
  ext : OwnExt base own
  keep : ∀ s : Nat, s ∉ W → a.tmps.getD s undef = a₀.tmps.getD s undef
structure Good (C : Cfg) (w0 : World) (own0 : List Nat) (base : List Bx) (W : List Nat) (a₀ : Act) (st : St) (a : Act) (w : World) : Prop where
  env : EnvOk C.nt st.env st.own a
  stw : StW C w0 own0 st.own st.H w
  rel : Rel base W a₀ a st.own
theorem put_keep {a : Act} {d : Option Tmp} {v : Value} {s : Nat} (h : d ≠ some s) : (a.put d v).tmps.getD s undef = a.tmps.getD s undef := by
  cases d with
  | none => rfl
  | some t =>
    have : t ≠ s := fun e => h (by rw [e])
    simp [Act.put, Array.getElem?_setIfInBounds_ne this]
theorem Good.put {base : List Bx} {W : List Nat} {a₀ : Act} {st : St} {a : Act} {w w' : World} (h : Good C w0 own0 base W a₀ st a w) {own' : List Bx} {H' : Heap} (he : OwnExt st.own own') (hs : StW C w0 own0 own' H' w') {d : Option Tmp}
    (hd : ∀ t, d = some t → t < C.nt ∧ t ∈ W) {s : SV} (hwf : s.wf own'.length) : Good C w0 own0 base W a₀ (St.put ⟨st.env, own', H'⟩ d s) (a.put d (s.val own')) w' := by
  have h1 := h.env.ext he
  cases d with
  | none => exact ⟨h1, hs, h.rel.ext.trans he, h.rel.keep⟩
  | some t =>
    obtain ⟨h2, h3⟩ := hd t rfl
    refine ⟨h1.put h2 hwf, hs, h.rel.ext.trans he, fun s' hs' => ?_⟩
    rw [put_keep (fun e => hs' (by cases e; exact h3))]
    exact h.rel.keep s' hs'
theorem opsV_sound (hin : InlOk C.P C.muts) {ops : Array Oper} {Q : Exit → Act → World → Prop} {base : List Bx} {W : List Nat} {a₀ : Act} {k : St → Prop} (hQ : ∀ st a w, k st → Good C w0 own0 base W a₀ st a w → Q .normal a w) :
    ∀ (l : List Oper) (st : St) (a : Act) (w : World), (∀ o ∈ l, ∀ t, o.dst = some t → t < C.nt ∧ t ∈ W) → Good C w0 own0 base W a₀ st a w → opsV C ops l st k → wpList C.P ops Q l a w
  | [], st, a, w, _, hg, h => hQ st a w h hg
  | o :: rest, st, a, w, hd, hg, h => by
    simp only [opsV] at h
    obtain ⟨env', he, h⟩ := guardV_sound hg.env h
    have hg' : Good C w0 own0 base W a₀ ⟨env', st.own, st.H⟩ a w := ⟨he, hg.stw, hg.rel⟩
    have hdo := hd o List.mem_cons_self
    unfold wpList
    rcases h with ⟨hw, h⟩ | ⟨hw, h⟩
    · rw [if_pos hw]
      refine .inl (opV_sound hin (st := ⟨env', st.own, st.H⟩) he hg.stw (fun s own' H' w' hf hwf hext hs _ => ?_) h)
      exact opsV_sound hin hQ rest _ _ _ (fun o ho => hd o (List.mem_cons_of_mem _ ho)) (hg'.put hext hs hdo hwf) hf
    · rw [if_neg (by simp [hw])]
      exact opsV_sound hin hQ rest _ _ _ (fun o ho => hd o (List.mem_cons_of_mem _ ho)) (hg'.put (s := .v undef) (OwnExt.refl _) hg.stw hdo trivial) h
end
end Go.Vg
