/- Soundness of the computed verification condition: a function's contract. -/
import Derived.Test.YtglnjkkaojhgnaaDoorSndC
set_option linter.unusedSimpArgs false
set_option linter.unusedVariables false
namespace Go.Vg
open Go Go.RowKit
section
variable {C : Cfg} {w0 : World} {own0 : List Nat}
/-- One result. -/
def resOne (tmps : Array Value) : ResultVar → Sem Value
  | .tmp t => pure (tmps.getD t undef)
  | .cell a t => do loadVar t (← asAddr (tmps.getD a undef))
theorem run_resOne_tmp {P : Program} {tmps : Array Value} {t : Nat} {v : Value} (h : tmps.getD t undef = v) (w : World) : (resOne tmps (.tmp t)).run P w = .ok v w := by
  simp only [resOne, h, Sem.run_pure]
theorem run_resOne_cell {P : Program} {tmps : Array Value} {x : Nat} {t : TypeId} {ad : Addr} {v : Value} {w : World} (h : tmps.getD x undef = .pointer (some ad)) (hr : (loadVar t ad).run P w = .ok v w) : (resOne tmps (.cell x t)).run P w = .ok v w := by
  simp only [resOne, h, asAddr, Sem.run_bind, Sem.run_pure, Result.andThen_ok, hr]
theorem run_mapM_cons {P : Program} {f : ResultVar → Sem Value} {r : ResultVar} {rs : List ResultVar} {v : Value} {vs : List Value} {w : World} (h1 : (f r).run P w = .ok v w) (h2 : (rs.mapM f).run P w = .ok vs w) : ((r :: rs).mapM f).run P w = .ok (v :: vs) w := by
  simp only [List.mapM_cons, Sem.run_bind, h1, h2, Result.andThen_ok, Sem.run_pure]
theorem resV_sound {st : St} {a : Act} {w : World} (ha : EnvOk C.nt st.env st.own a) (hb : BoxesOk st.own st.H w) : ∀ {rs : List ResultVar} {f : List Value → Prop}, resV C st rs f →
    ∃ vs, f vs ∧ (rs.mapM (resOne a.tmps)).run C.P w = .ok vs w
  | [], f, h => ⟨[], h, by simp⟩
  | .tmp t :: r, f, h => by
    simp only [resV] at h
    split at h
    · rename_i s hs
      obtain ⟨vs, hf, hr⟩ := resV_sound ha hb h
      obtain ⟨_, h2, _⟩ := ha.at_ t s hs
      exact ⟨_, hf, run_mapM_cons (run_resOne_tmp h2 w) hr⟩
    · exact h.elim
  | .cell x t :: r, f, h => by
    simp only [resV] at h
    split at h
    · rename_i i hs
      obtain ⟨_, h2, _⟩ := ha.at_ x _ hs
      split at h
      · rename_i b ty cs hx
        have e : boxNo st.own i = b := box_no hx
        have hv : a.tmps.getD x undef = .pointer (some ⟨b, 0, none⟩) := by rw [h2]; simp [SV.val, e]
        split at h
        · rename_i d lk hu hk
          split at h
          · rename_i v
            obtain ⟨vs, hf, ih⟩ := resV_sound ha hb h
            exact ⟨_, hf, run_mapM_cons (run_resOne_cell hv (run_loadVar_one hk (by simp [hu]) (box_cell hb hx (by simp)).2)) ih⟩
          · exact h.elim
        · rename_i d n hu hk
          obtain ⟨hlen, h⟩ := h
          obtain ⟨vs, hf, ih⟩ := resV_sound ha hb h
          exact ⟨_, hf, run_mapM_cons (run_resOne_cell hv (run_loadVar_agg (fun lk hk' => by rw [hk] at hk'; cases hk') hlen (info_of_underlying (by simp [hu])) (fun j v hj => by simpa using (box_cell hb hx hj).2))) ih⟩
        · rename_i d hu hk1 hk2
          split at h
          · rename_i hlen
            obtain ⟨vs, hf, ih⟩ := resV_sound ha hb h
            exact ⟨_, hf, run_mapM_cons (run_resOne_cell hv (run_loadVar_agg (fun lk hk' => hk1 lk hk') hlen (info_of_underlying (by simp [hu])) (fun j v hj => by simpa using (box_cell hb hx hj).2))) ih⟩
          · exact h.elim
        · exact h.elim
      · exact h.elim
    · exact h.elim
theorem run_results {P : Program} {fn : Func} {tmps : Array Value} {vs : List Value} {w : World} (h : (fn.results.toList.mapM (resOne tmps)).run P w = .ok vs w) :
    (results fn tmps).run P w = .ok (if h : vs.length = 1 then vs[0] else .tuple vs.toArray) w := by
  have e : results fn tmps = (do let vs ← fn.results.mapM (resOne tmps); pure (if h : vs.size = 1 then vs[0] else .tuple vs)) := by
    unfold results
    congr 1
  rw [e, Array.mapM_eq_mapM_toList, map_eq_pure_bind]
  simp [h]
theorem look_zipFrom : ∀ {args : List SV} {i s : Nat} {sv : SV}, look s (zipFrom i args) = some sv → ∃ k : Nat, s = i + k ∧ args[k]? = some sv
  | [], i, s, sv, h => by simp [zipFrom, look] at h
  | x :: r, i, s, sv, h => by
    simp only [zipFrom, look] at h
    split at h
    · rename_i e
      subst e
      exact ⟨0, rfl, h⟩
    · obtain ⟨k, h1, h2⟩ := look_zipFrom h
      exact ⟨k + 1, by omega, h2⟩
theorem setAll_take {own own' : List Bx} (he : OwnExt own own') : setAll own ((own'.take own.length).map Bx.cs) = own'.take own.length := by
  induction own generalizing own' with
  | nil => simp [setAll]
  | cons x r ih =>
    obtain ⟨y, hy, h1, h2, h3⟩ := he.same 0 x rfl
    cases own' with
    | nil => simp at hy
    | cons z r' =>
      simp at hy
      subst hy
      simp only [List.length_cons, List.take_succ_cons, List.map_cons, setAll]
      rw [Bx_eq h1 h2 h3, ih]
      exact ⟨by have := he.len; simpa using this, fun i u hu => by simpa using he.same (i + 1) u (by simpa using hu)⟩
end
/-- A FUNCTION's CONTRACT from its verification condition. -/
theorem specO_of {P : Program} {f : FuncId} {fn : Func} {c : Code} {nt : Nat} {muts : Muts} (hin : InlOk P muts) (hf : P.funcs[f]? = some fn) (hb : fn.body = some c) (hnt : fn.ntmps = nt)
    (hmix : P.follows .mixedOrders = true) (hok : opsOk nt (codeOps c) = true)
    {own : List Bx} {args : List SV} (hargs : args.length ≤ nt) (hwf : ∀ s ∈ args, s.wf own.length) {H : Heap} {Q : Value → List (List Value) → Heap → Prop}
    (h : ∀ base, (∀ b k, H b = some k → b < base) → (∀ x ∈ own, x.b < base) → funV ⟨P, nt, muts, base, H⟩ c fn.results.toList args own Q) : SpecO P f (args.map (SV.val own)) own H Q := by
  intro w hs hbx
  refine calls_of_wp hf hb ?_
  let C : Cfg := ⟨P, nt, muts, w.heap.size, H⟩
  have hV := h w.heap.size (fun b k hk => hs.lt hk) (fun x hx => Bx.ok_lt (hbx.ok x hx))
  have hsz : (args.map (SV.val own)).toArray.size = args.length := by simp
  have henv : EnvOk C.nt (zipFrom 0 args) own { tmps := (args.map (SV.val own)).toArray ++ Array.replicate (fn.ntmps - (args.map (SV.val own)).toArray.size) undef, defers := [] } := by
    refine ⟨by simp [C, hnt]; omega, rfl, fun s sv hs => ?_⟩
    obtain ⟨k, rfl, hk⟩ := look_zipFrom hs
    have hlt := idx_lt hk
    refine ⟨by show 0 + k < nt; omega, ?_, hwf sv (List.mem_of_getElem? hk)⟩
    rw [Array.getD_eq_getD_getElem?, Array.getElem?_append_left (by simpa using hlt)]
    simp [hk]
  have hstw : StW C w (own.map Bx.b) own H w := ⟨hs, hbx, fun x hx => .inr (List.mem_map_of_mem hx), BelowX.refl _ _, Next.refl _ _, rfl, hs⟩
  refine wp_mono (codeV_sound (C := C) (w0 := w) (own0 := own.map Bx.b) hmix hin c _ own (writes (codeOps c)) _ ⟨zipFrom 0 args, own, H⟩ _ w hok (fun o ho t ht => writes_mem ho ht) ⟨henv, hstw, ⟨OwnExt.refl _, fun _ _ => rfl⟩⟩ hV) fun e a' w' hq => ?_
  have key : ∀ st, retV C fn.results.toList own.length Q st → Good C w (own.map Bx.b) own (writes (codeOps c)) { tmps := (args.map (SV.val own)).toArray ++ Array.replicate (fn.ntmps - (args.map (SV.val own)).toArray.size) undef, defers := [] } st a' w' →
      a'.defers = [] ∧ ∃ v, (results fn a'.tmps).run P w' = .ok v w' ∧ ∃ v' css H', Ending.returned v = .returned v' ∧ css.length = own.length ∧ BelowX (own.map Bx.b) w w' ∧
        Sees H' w' ∧ BoxesOk (setAll own css) H' w' ∧ Next w.heap.size H H' ∧ Q v' css H' := fun st hr hg => by
    refine ⟨hg.env.defers, ?_⟩
    have hext := hg.rel.ext
    have post : ∀ v, Q v ((st.own.take own.length).map Bx.cs) st.H → ∃ v' css H', Ending.returned v = .returned v' ∧ css.length = own.length ∧ BelowX (own.map Bx.b) w w' ∧
        Sees H' w' ∧ BoxesOk (setAll own css) H' w' ∧ Next w.heap.size H H' ∧ Q v' css H' := fun v hQ => by
      refine ⟨v, _, st.H, rfl, ?_, hg.stw.below, hg.stw.sees, ?_, hg.stw.next, hQ⟩
      · simp; have := hext.len; omega
      · rw [setAll_take hext]
        refine ⟨fun x hx => hg.stw.boxes.ok x (List.mem_of_mem_take hx), fun x hx => hg.stw.boxes.hid x (List.mem_of_mem_take hx), ?_⟩
        rw [List.map_take]
        exact hg.stw.boxes.apart.sublist (List.take_sublist _ _)
    obtain ⟨vs, hf, hrun⟩ := resV_sound hg.env hg.stw.boxes hr
    have hres := run_results (fn := fn) hrun
    split at hf
    · rename_i v
      exact ⟨v, by simpa using hres, post v hf⟩
    · rename_i hne
      refine ⟨.tuple vs.toArray, ?_, post _ hf⟩
      rw [dif_neg (fun hl => ?_)] at hres
      · exact hres
      · obtain ⟨x, hx⟩ := List.length_eq_one_iff.1 hl
        exact hne x hx
  cases e with
  | normal => obtain ⟨st, hr, hg⟩ := hq; exact key st hr hg
  | ret => obtain ⟨st, hr, hg⟩ := hq; exact key st hr hg
  | exit i => obtain ⟨st, hr, hg⟩ := hq; exact hr.elim
  | _ => exact hq.elim
theorem spec_of {P : Program} {f : FuncId} {fn : Func} {c : Code} {nt : Nat} {muts : Muts} (hin : InlOk P muts) (hf : P.funcs[f]? = some fn) (hb : fn.body = some c) (hnt : fn.ntmps = nt)
    (hmix : P.follows .mixedOrders = true) (hok : opsOk nt (codeOps c) = true)
    {args : List Value} (hargs : args.length ≤ nt) {H : Heap} {Q : Value → Heap → Prop}
    (h : ∀ base, (∀ b k, H b = some k → b < base) → funV ⟨P, nt, muts, base, H⟩ c fn.results.toList (args.map SV.v) [] (fun v _ H' => Q v H')) : Spec P f args H Q := by
  have := specO_of (own := []) (args := args.map SV.v) hin hf hb hnt hmix hok (by simpa using hargs) (fun s hs => by obtain ⟨v, _, rfl⟩ := List.mem_map.1 hs; trivial) (fun base hb _ => h base hb)
  simpa [Spec, Function.comp_def, SV.val] using this
end Go.Vg
