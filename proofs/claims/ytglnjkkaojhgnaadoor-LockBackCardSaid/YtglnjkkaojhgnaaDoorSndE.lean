/- Soundness of the computed verification condition: bodies taken in place. -/
import Derived.Test.YtglnjkkaojhgnaaDoorSndD
set_option linter.unusedSimpArgs false
set_option linter.unusedVariables false
namespace Go.Vg
open Go Go.RowKit
theorem inl0_ok (P : Program) (list : List FuncId) (j : Bool) : InlOk P ⟨list, inl0, j⟩ := fun _ _ _ _ _ _ _ _ h => by cases h
theorem lookFn_mem {g : FuncId} {fn : Func} : ∀ {fs : List (FuncId × Func)}, lookFn g fs = some fn → (g, fn) ∈ fs
  | [], h => by cases h
  | (k, f) :: r, h => by
    simp only [lookFn] at h
    split at h
    · rename_i e
      subst e
      obtain rfl := Option.some.inj h
      exact List.mem_cons_self
    · exact List.mem_cons_of_mem _ (lookFn_mem h)
theorem inl_ok {P : Program} {list : List FuncId} {fs : List (FuncId × Func)} {prev : InlFn} {j : Bool} (hprev : InlOk P ⟨list, prev, true⟩) (hmix : P.follows .mixedOrders = true)
    (hfs : ∀ p ∈ fs, P.funcs[p.1]? = some p.2 ∧ p.2.body = some (p.2.body.getD .skip) ∧ opsOk p.2.ntmps (codeOps (p.2.body.getD .skip)) = true ∧ list.contains p.1 = true) : InlOk P ⟨list, inlOf P list fs prev, j⟩ := by
  intro base H0 g pre own H f p hp
  simp only [inlOf] at hp
  split at hp
  · cases hp
  · rename_i fn hl
    split at hp
    · rename_i hlen
      obtain rfl := Option.some.inj hp
      obtain ⟨hf, hb, hok, hc⟩ := hfs _ (lookFn_mem hl)
      refine ⟨hc, fun h C w0 own0 w hbase hH0 hw hwf => ?_⟩
      subst hbase hH0
      refine calls_of_wp hf hb ?_
      let C' : Cfg := ⟨P, fn.ntmps, ⟨list, prev, true⟩, C.base, C.H0⟩
      have hstw : StW C' w0 own0 own H w := ⟨hw.sees, hw.boxes, hw.locs, hw.below, hw.next, hw.base, hw.seen0⟩
      have henv : EnvOk C'.nt (zipFrom 0 pre) own { tmps := (pre.map (SV.val own)).toArray ++ Array.replicate (fn.ntmps - (pre.map (SV.val own)).toArray.size) undef, defers := [] } := by
        refine ⟨by simp [C']; omega, rfl, fun s sv hs => ?_⟩
        obtain ⟨k, rfl, hk⟩ := look_zipFrom hs
        have hlt := idx_lt hk
        refine ⟨by show 0 + k < fn.ntmps; omega, ?_, hwf sv (List.mem_of_getElem? hk)⟩
        rw [Array.getD_eq_getD_getElem?, Array.getElem?_append_left (by simpa using hlt)]
        simp [hk]
      refine wp_mono (codeV_sound (C := C') (w0 := w0) (own0 := own0) hmix hprev _ _ own (writes (codeOps (fn.body.getD .skip))) _ ⟨zipFrom 0 pre, own, H⟩ _ w hok (fun o ho t ht => writes_mem ho ht) ⟨henv, hstw, ⟨OwnExt.refl _, fun _ _ => rfl⟩⟩ h) fun e a' w' hq => ?_
      have key : ∀ st, retI C' fn.results.toList f st → Good C' w0 own0 own (writes (codeOps (fn.body.getD .skip))) { tmps := (pre.map (SV.val own)).toArray ++ Array.replicate (fn.ntmps - (pre.map (SV.val own)).toArray.size) undef, defers := [] } st a' w' →
          a'.defers = [] ∧ ∃ v, (results fn a'.tmps).run P w' = .ok v w' ∧ ∃ v' own' H', Ending.returned v = .returned v' ∧ f (.v v') own' H' ∧ OwnExt own own' ∧ StW C w0 own0 own' H' w' := fun st hr hg => by
        refine ⟨hg.env.defers, ?_⟩
        have hs' : StW C w0 own0 st.own st.H w' := ⟨hg.stw.sees, hg.stw.boxes, hg.stw.locs, hg.stw.below, hg.stw.next, hg.stw.base, hg.stw.seen0⟩
        obtain ⟨vs, hf, hrun⟩ := resV_sound hg.env hg.stw.boxes hr
        have hres := run_results (fn := fn) hrun
        split at hf
        · rename_i v
          exact ⟨v, by simpa using hres, v, st.own, st.H, rfl, hf, hg.rel.ext, hs'⟩
        · rename_i hne
          refine ⟨.tuple vs.toArray, ?_, _, st.own, st.H, rfl, hf, hg.rel.ext, hs'⟩
          rw [dif_neg (fun hl => ?_)] at hres
          · exact hres
          · obtain ⟨x, hx⟩ := List.length_eq_one_iff.1 hl
            exact hne x hx
      cases e with
      | normal => obtain ⟨st, hr, hg⟩ := hq; exact key st hr hg
      | ret => obtain ⟨st, hr, hg⟩ := hq; exact key st hr hg
      | exit i => obtain ⟨st, hr, hg⟩ := hq; exact hr.elim
      | _ => exact hq.elim
    · cases hp
end Go.Vg
