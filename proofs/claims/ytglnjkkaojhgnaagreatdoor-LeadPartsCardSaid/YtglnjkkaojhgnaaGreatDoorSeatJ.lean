/- What is proved here: (*strings.Builder).String taken in place as what it makes; copyCheck's contract. -/
import Derived.Test.YtglnjkkaojhgnaaGreatDoorLb
import Derived.Test.YtglnjkkaojhgnaaGreatDoorInl
import Derived.WalkKit
set_option linter.unusedSimpArgs false
set_option linter.unusedVariables false
set_option maxRecDepth 100000
namespace Go.Vg
open Go Go.Proofs Go.RowKit Go.Shelf
set_option maxHeartbeats 1000000 in
/-- String, of a builder that holds bytes: they are frozen. -/
theorem str_run {w : World} {b g cap : Nat} {p : Value} {cur : Array Value} {fz : Nat × Nat} {l : List UInt8} (hbk : w.heap[b]? = some (.cells #[p, .slice (some ⟨g, 0, none⟩) l.length cap] 113 (0, 0))) (h0 : l ≠ [])
    (hg : w.heap[g]? = some (.cells cur 5 fz)) (hn : l.length ≤ cap) (hcm : cap ≤ maxLen) (hcs : cur.size = cap) (hc : ∀ (j : Nat) (x : UInt8), l[j]? = some x → w.cell? ⟨g, j, none⟩ = some (.int .u8 x.toNat)) :
    Calls Tryz.prog 65 #[.pointer (some ⟨b, 0, none⟩)] w fun e w' => e = .returned (.string ⟨l.toArray⟩) ∧ w' = w.drew.freeze ⟨g, 0, none⟩ l.length := by
  have hl0 : l.length ≠ 0 := by simpa using h0
  have c1 : w.drew.cell? ⟨b, 1, none⟩ = some (.slice (some ⟨g, 0, none⟩) l.length cap) := by
    have : w.drew.heap[b]? = some (.cells #[p, .slice (some ⟨g, 0, none⟩) l.length cap] 113 (0, 0)) := hbk
    rw [Lib.cell_of_heap this]; rfl
  have hSD : (Builtin.unsafeSliceData_ #[22] 156 #[.slice (some ⟨g, 0, none⟩) l.length cap]).run Tryz.prog w.drew = .ok (.pointer (some ⟨g, 0, none⟩)) w.drew :=
    Lib.run_unsafeSliceData_row _ _ _ _ _ _ (by omega)
  have hUS : (Builtin.unsafeString_ #[156, 3] 9 #[.pointer (some ⟨g, 0, none⟩), .int .i64 l.length]).run Tryz.prog w.drew = .ok (.string ⟨l.toArray⟩) (w.drew.freeze ⟨g, 0, none⟩ l.length) := by
    refine Lib.run_unsafeString_row w.drew 156 3 9 5 Tryz.underlying156 (by kernel_rfl) g cur.size (by have hg' : w.drew.heap[g]? = some (.cells cur 5 fz) := hg; simp [World.shape?, hg']) l h0 (by omega) (by unfold maxLen at hcm; omega) ?_
    intro j x hx
    have := hc j x hx
    simpa [addr_add] using this
  go_enter Tryz.func65, Tryz.ntmps65
  go_wp2
  go_region
  all_goals (go_wp2; go_ret; exact ⟨rfl, rfl⟩)
/-- What must be so for String: the builder's box holds a slice of the call's own bytes. -/
def strP (base : Nat) (own : List Bx) (H : Heap) (f : SV → List Bx → Heap → Prop) (i : Nat) : Prop :=
  match own[i]? with
  | some ⟨b, false, ty, [p, .slice a n c]⟩ => ty = 113 ∧ 0 < n ∧
    ∃ l : List UInt8, Row base H 5 1 a n c (u8s l) ∧ ∀ H', (∀ x k, H x = some k → a ≠ some ⟨x, 0, none⟩ → H' x = some k) → (∀ x k, H' x = some k → H x = some k) → f (.v (.string ⟨l.toArray⟩)) own H'
  | _ => False
noncomputable def TryzSum : InlFn := fun base H0 g pre own H f =>
  if g = 65 then (match pre with
    | [.loc i 0] => some (strP base own H f i)
    | _ => none)
  else if g = 84 then (match pre with
    | [.v (.slice a n c), .v (.int .i64 i), .v (.slice (some ⟨g', 0, none⟩) 1 1)] => some (insP base own H f a n c i g')
    | _ => none)
  else if g = 85 then (match pre with
    | [.v (.slice a n c), .v (.int .i64 i), .v (.int .i64 j)] => some (delP base 2 80 own H f a n c i j)
    | _ => none)
  else TryzIn3 base H0 g pre own H f
theorem freeze_heap (w : World) (g n : Nat) {k : Nat} (hk : k ≠ g) : (w.drew.freeze ⟨g, 0, none⟩ n).heap[k]? = w.heap[k]? := by
  unfold World.freeze
  split
  · rfl
  · show (w.heap.modify g _)[k]? = _
    rw [Array.getElem?_modify, if_neg (fun e => hk e.symm)]
theorem freeze_size (w : World) (g n : Nat) : (w.drew.freeze ⟨g, 0, none⟩ n).heap.size = w.heap.size := by
  unfold World.freeze
  split
  · rfl
  · show (w.heap.modify g _).size = _
    simp
theorem freeze_os (w : World) (g n : Nat) : (w.drew.freeze ⟨g, 0, none⟩ n).os = w.os ∧ (w.drew.freeze ⟨g, 0, none⟩ n).tape = w.tape ∧ (w.drew.freeze ⟨g, 0, none⟩ n).output = w.output := by
  unfold World.freeze
  split <;> exact ⟨rfl, rfl, rfl⟩
theorem in3_at {g : FuncId} {fn : Func} (hl : lookFn g TryzFs = some fn) {pre : List SV} (hn : pre.length ≤ fn.ntmps) {base : Nat} {H0 : Heap} {own : List Bx} {H : Heap} {f : SV → List Bx → Heap → Prop} :
    TryzIn3 base H0 g pre own H f = some (codeI ⟨Tryz.prog, fn.ntmps, ⟨TryzList, TryzIn2, true⟩, base, H0⟩ fn pre own H f) := by
  unfold TryzIn3 inlOf
  rw [hl]
  dsimp only
  rw [if_pos hn]
theorem Tryzsum (j : Bool) : InlOk Tryz.prog ⟨TryzList, TryzSum, j⟩ := by
  have key : ∀ base H0 g pre own H f p q, TryzIn3 base H0 g pre own H f = some q → (p → q) → TryzList.contains g = true ∧ (p → ∀ (C : Cfg) (w0 : World) (own0 : List Nat) (w : World), C.base = base → C.H0 = H0 → StW C w0 own0 own H w → (∀ s ∈ pre, SV.wf own.length s) →
      Calls Tryz.prog g (pre.map (SV.val own)).toArray w fun e w' => ∃ v own' H', e = .returned v ∧ f (.v v) own' H' ∧ OwnExt own own' ∧ StW C w0 own0 own' H' w') := fun base H0 g pre own H f p q hq hpq => by
    obtain ⟨h1, h2⟩ := Tryzin3 j base H0 g pre own H f q hq
    exact ⟨h1, fun hp => h2 (hpq hp)⟩
  intro base H0 g pre own H f p hp
  unfold TryzSum at hp
  dsimp only at hp
  split at hp
  · rename_i e
    subst e
    split at hp
    · rename_i i
      obtain rfl := Option.some.inj hp
      refine ⟨by show TryzList.contains 65 = true; decide, fun h C w0 own0 w hbase hH0 hw hwf => ?_⟩
      subst hbase hH0
      unfold strP at h
      split at h
      · rename_i b ty p a n c hx
        obtain ⟨rfl, hn, l, hR, hf⟩ := h
        have hbk : w.heap[b]? = some (.cells #[p, .slice a n c] 113 (0, 0)) := hw.boxes.ok _ (List.mem_of_getElem? hx)
        obtain ⟨h1, h2, h3, h4⟩ := hR
        obtain rfl : l.length = n := by simpa [u8s] using h1
        rcases h4 with ⟨h0, _⟩ | ⟨g, k, rfl, hgb, hH, hty, hksz, hfree, hcl⟩
        · omega
        obtain ⟨cur, fr, hcu, hsz, _, hcell⟩ := hw.sees g _ hH
        rw [hty] at hcu
        have hbn : boxNo own i = b := box_no hx
        have hargs : (([SV.loc i 0] : List SV).map (SV.val own)).toArray = #[.pointer (some ⟨b, 0, none⟩)] := by simp [SV.val, hbn]
        rw [hargs]
        refine (str_run hbk (by intro e; subst e; simp at hn) hcu h2 h3 (by rw [hsz, hksz, Nat.mul_one]) (fun j x hj => hw.sees.cell ?_)).mono fun e w' ⟨he, hw'⟩ => ?_
        · unfold Heap.cell; rw [hH]; exact hcl j _ (by simp [u8s, hj])
        have hbx : ∀ y ∈ own, y.b ≠ g := fun y hy e => by
          have := hw.boxes.hid y hy
          rw [e, hH] at this; cases this
        obtain ⟨o1, o2, o3⟩ := freeze_os w g l.length
        refine ⟨_, own, fun x => if x = g then none else H x, he, hf _ (fun x k hk hne => ?_) (fun x k hk => ?_), OwnExt.refl _, ?_⟩
        · have : x ≠ g := fun e => hne (by rw [e])
          simp only [if_neg this]; exact hk
        · split at hk
          · cases hk
          · exact hk
        · have hblock : ∀ k, k ≠ g → w'.heap[k]? = w.heap[k]? := fun k hk => by rw [hw']; exact freeze_heap w g _ hk
          refine ⟨fun x k hk => ?_, ⟨fun y hy => Bx.ok_same (hw.boxes.ok y hy) (hblock _ (hbx y hy)), fun y hy => ?_, hw.boxes.apart⟩, hw.locs, hw.step (by rw [hw']; exact o1) (by rw [hw']; exact o2) (by rw [hw']; exact o3) (by rw [hw', freeze_size]; exact Nat.le_refl _) fun k hk hk' => hblock k (by omega), ⟨fun x k hk => ?_, fun x k hk hn => ?_⟩, hw.base, hw.seen0⟩
          · split at hk
            · cases hk
            · rename_i hne
              rw [hblock x hne]; exact hw.sees x k hk
          · split
            · rfl
            · exact hw.boxes.hid y hy
          · have := hw.h0_lt hk
            rw [if_neg (by omega)]
            exact hw.next.ext x k hk
          · split at hk
            · cases hk
            · exact hw.next.fresh x k hk hn
      · exact h.elim
    · cases hp
  · split at hp
    · rename_i e
      subst e
      split at hp
      · obtain rfl := Option.some.inj hp
        exact key _ _ _ _ _ _ _ _ _ (in3_at (fn := Tryz.f84) (by rfl) (Nat.le_of_ble_eq_true (by kernel_rfl))) ins_sum
      · cases hp
    · split at hp
      · rename_i e
        subst e
        split at hp
        · obtain rfl := Option.some.inj hp
          exact key _ _ _ _ _ _ _ _ _ (in3_at (fn := Tryz.f85) (by rfl) (Nat.le_of_ble_eq_true (by kernel_rfl))) fun h => by
            show codeI ⟨Tryz.prog, Tryz.f85.ntmps, ⟨TryzList, TryzIn2, true⟩, base, H0⟩ Tryz.f85 _ own H f
            rw [vcI123]
            exact del_sum (bytes := 16) (by omega) h
        · cases hp
      · exact Tryzin3 j base H0 g pre own H f p hp
noncomputable def TryzMutsJ : Muts := ⟨TryzList, TryzSum, true⟩
/-- A contract from the verification condition, given as a formula. -/
theorem TryzvcJ {f : FuncId} {fn : Func} (hf : Tryz.prog.funcs[f]? = some fn) (hok : okFn fn = true) {args : List Value} (hargs : Nat.ble args.length fn.ntmps = true) {H : Heap} (Q : Value → Heap → Prop) {sv : List SV} (hsv : args.map SV.v = sv)
    {F : Nat → (Value → List (List Value) → Heap → Prop) → Prop} (hv : ∀ base K, funV ⟨Tryz.prog, fn.ntmps, TryzMutsJ, base, H⟩ (bodyOf fn) fn.results.toList sv [] K = F base K)
    (h : ∀ base, (∀ b k, H b = some k → b < base) → F base (fun v _ H' => Q v H')) : Spec Tryz.prog f args H Q :=
  spec_of (muts := TryzMutsJ) (Tryzsum true) hf (body_some hok) rfl Tryzmixed (ops_ok hok) (Nat.le_of_ble_eq_true hargs) fun base hb => by
    rw [hsv, hv base]
    exact h base hb
/-- The builder's check of itself. -/
theorem cCopyCheck {H : Heap} {b : Nat} {p : Option Addr} {v : Value} (hp : p = none ∨ p = some ⟨b, 0, none⟩) : SpecO Tryz.prog 92 [.pointer (some ⟨b, 0, none⟩)] [⟨b, false, 113, [.pointer p, v]⟩] H
    fun r css H' => r = .tuple #[] ∧ css = [[.pointer (some ⟨b, 0, none⟩), v]] ∧ H' = H := fun w hw hb => by
  have hbk : w.heap[b]? = some (.cells #[.pointer p, v] 113 (0, 0)) := hb.ok _ List.mem_cons_self
  have hbn : H b = none := hb.hid _ List.mem_cons_self
  have hlt : b < w.heap.size := by
    rcases Nat.lt_or_ge b w.heap.size with h | h
    · exact h
    · simp [Array.getElem?_eq_none h] at hbk
  have hX : Builder.X72 Tryz.prog Tryz.lays156_ren := { sizeBuilder := by kernel_rfl, liesBuilder := by kernel_rfl }
  rcases hp with rfl | rfl
  · refine (Any.Builder_copyCheck_fresh { Tryz.lays156 with } hX b w (by rw [Lib.cell_of_heap hbk]; rfl) (by simp [World.shape?, hbk]; rfl) (by simp [World.frozen?, hbk])).mono fun e w' ⟨he, hw'⟩ => ?_
    have hblock : ∀ k, k ≠ b → w'.heap[k]? = w.heap[k]? := fun k hk => by
      rw [hw']
      simp [World.setCell, Array.getElem?_modify, Ne.symm hk]
    have hnew : w'.heap[b]? = some (.cells #[.pointer (some ⟨b, 0, none⟩), v] 113 (0, 0)) := by
      rw [hw']
      simp [World.setCell, Array.getElem?_modify, hbk]
    have hsz : w'.heap.size = w.heap.size := by rw [hw']; simp [World.setCell]
    refine ⟨_, [[.pointer (some ⟨b, 0, none⟩), v]], H, he, rfl, ⟨by rw [hw']; rfl, by rw [hw']; rfl, by rw [hw']; rfl, by omega, fun k _ hk => hblock k (by simpa using hk)⟩, fun x k hx => ?_, ⟨fun y hy => ?_, fun y hy => ?_, by simp [setAll]⟩, ⟨fun _ _ h => h, fun x k h h' => (by rw [h] at h'; cases h')⟩, rfl, rfl, rfl⟩
    · rw [hblock x (fun e => by rw [e, hbn] at hx; cases hx)]; exact hw x k hx
    · obtain rfl : y = ⟨b, false, 113, [.pointer (some ⟨b, 0, none⟩), v]⟩ := by simpa [setAll, Bx.set] using hy
      exact hnew
    · obtain rfl : y = ⟨b, false, 113, [.pointer (some ⟨b, 0, none⟩), v]⟩ := by simpa [setAll, Bx.set] using hy
      exact hbn
  · refine (Any.Builder_copyCheck_used { Tryz.lays156 with } hX b w (by rw [Lib.cell_of_heap hbk]; rfl)).mono fun e w' ⟨he, hw'⟩ => ?_
    subst hw'
    exact ⟨_, [[.pointer (some ⟨b, 0, none⟩), v]], H, he, rfl, BelowX.refl _ _, hw, hb, ⟨fun _ _ h => h, fun x k h h' => (by rw [h] at h'; cases h')⟩, rfl, rfl, rfl⟩
end Go.Vg
