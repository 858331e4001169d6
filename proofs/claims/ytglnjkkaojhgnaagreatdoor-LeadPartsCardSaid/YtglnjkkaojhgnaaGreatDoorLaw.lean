/- What is proved here: how a law's row comes from a contract. -/
import Derived.Test.YtglnjkkaojhgnaaGreatDoorLib
import Derived.Test.YtglnjkkaojhgnaaGreatDoorRows
import Derived.ProofKit
import Derived.OpenShut
import Derived.ChangeSame
import Derived.Test.YtglnjkkaojhgnaaGreatDoorSeatJ
set_option linter.unusedSimpArgs false
set_option linter.unusedVariables false
namespace Go.Vg
open Go Go.Proofs
open Go.ChangeShapes Go.WideShapes Go.ChangeAt Go.RowKit
theorem kept_of_below {w w' : World} (h : BelowX [] w w') : w.keptBut w' (fun _ => False) := by
  refine ⟨h.os, h.output, fun i hi => ?_⟩
  rw [h.block i hi (by simp)]
  split
  · simp_all
  · rename_i e1 e2; rw [e1] at e2; cases e2; exact .inr ⟨rfl, rfl⟩
  · rfl
theorem post_mine {HH : Type} {enc : TypeId × Value → HH} {P : Program} {f : Func} {s : ChangeSpec} {apart fresh handsOn : Bool} {W W' : World} {args : Array Value} {v : Value} {ds gs : List (DataW HH)} {before pa pv : List MemPlace}
    (hW : DataW.Whole enc P f.params.toList s.vars apart W args.toList ds gs before)
    (hres : ∀ (b : Nat) (sp : Nat → Bool) (hd : Bool), DataW.TrodAll enc P W' b sp hd f.resultTypes.toList (v.resultList f.resultTypes.size) (s.fn HH (ds ++ gs)).results [])
    (hargs : DataW.TrodAll enc P W' 0 (fun b => decide (b < W.heap.size)) true f.params.toList args.toList (s.fn HH (ds ++ gs)).args pa)
    (hvars : DataW.TrodVars enc P W' (fun b => decide (b < W.heap.size)) s.vars (s.fn HH (ds ++ gs)).vars pv)
    (hk : BelowX [] W W') : s.post enc P f apart fresh handsOn false W args v W' :=
  ⟨ds, gs, before, [], pa, pv, hW, hres _ _ _, hargs, hvars, World.keptBut_mono (fun _ hp => hp.elim) (kept_of_below hk), fun h => by cases h⟩
/-- A contract at a world: what the call leaves. -/
theorem Spec.calls {P : Program} {f : FuncId} {args : List Value} {H : Heap} {r : Value} (h : Spec P f args H fun v _ => v = r) {w : World} (hs : Sees H w) : Calls P f args.toArray w fun e w' => e = .returned r ∧ BelowX [] w w' :=
  Calls.mono (h w hs ⟨by simp, by simp, by simp⟩) fun e w' he => by
    obtain ⟨v, css, H', h1, h2, h3, h4, h5, h6, h7⟩ := he
    exact ⟨by rw [h1, h7], by simpa using h3⟩
theorem sees_none (w : World) : Sees (fun _ => none) w := fun _ _ h => by cases h
theorem Tryzown : ownKnob Tryz.prog.godebug = none := by kernel_rfl
end Go.Vg
set_option linter.unusedVariables false
namespace Go.Proofs.YtglnjkkaojhgnaaGreatDoor
open Go Go.Proofs Go.Vg
theorem mayEnterT : Program.mayEnter Tryz.pinned.checked.prog = true := by kernel_rfl
theorem liftsFinalT : Program.liftsFinal Tryz.pinned.checked.prog = false := by kernel_rfl
theorem makeT : Program.make Tryz.pinned.checked.prog = some .cut := by kernel_rfl
end Go.Proofs.YtglnjkkaojhgnaaGreatDoor
