/- What is proved here: a part of the proof of laws of this seat: what a contract is, how it comes of a condition, contracts of the functions that are reached, the plain laws. -/
import Derived.Test.YtgaegoefbekndaaGreatDoorR3
set_option linter.unusedSimpArgs false
set_option linter.unusedVariables false
set_option maxRecDepth 100000
namespace Go.Vg
open Go Go.Proofs Go.RowKit Go.Shelf
set_option maxHeartbeats 1000000 in
theorem str_run {w : World} {b g cap : Nat} {p : Value} {cur : Array Value} {fz : Nat × Nat} {l : List UInt8} (hbk : w.heap[b]? = some (.cells #[p, .slice (some ⟨g, 0, none⟩) l.length cap] 311 (0, 0))) (h0 : l ≠ [])
  (hg : w.heap[g]? = some (.cells cur 5 fz)) (hn : l.length <= cap) (hcm : cap <= maxLen) (hcs : cur.size = cap) (hc : ∀ (j : Nat) (x : UInt8), l[j]? = some x->w.cell? ⟨g, j, none⟩ = some (.int .u8 x.toNat)) :
  Calls Tryz.prog 285 #[.pointer (some ⟨b, 0, none⟩)] w fun e w' => e = .returned (.string ⟨l.toArray⟩)/\ w' = w.drew.freeze ⟨g, 0, none⟩ l.length := by
 have hl0 : l.length ≠ 0 := by simpa using h0
 have c1 : w.drew.cell? ⟨b, 1, none⟩ = some (.slice (some ⟨g, 0, none⟩) l.length cap) := by
  have : w.drew.heap[b]? = some (.cells #[p, .slice (some ⟨g, 0, none⟩) l.length cap] 311 (0, 0)) := hbk
  rw [Lib.cell_of_heap this]; rfl
 have hSD : (Builtin.unsafeSliceData_ #[33] 333 #[.slice (some ⟨g, 0, none⟩) l.length cap]).run Tryz.prog w.drew = .ok (.pointer (some ⟨g, 0, none⟩)) w.drew :=
  Lib.run_unsafeSliceData_row _ _ _ _ _ _ (by omega)
 have hUS : (Builtin.unsafeString_ #[333, 3] 9 #[.pointer (some ⟨g, 0, none⟩), .int .i64 l.length]).run Tryz.prog w.drew = .ok (.string ⟨l.toArray⟩) (w.drew.freeze ⟨g, 0, none⟩ l.length) := by
  refine Lib.run_unsafeString_row w.drew 333 3 9 5 Tryz.underlying333 (by kernel_rfl) g cur.size (by have hg' : w.drew.heap[g]? = some (.cells cur 5 fz) := hg; simp [World.shape?, hg']) l h0 (by omega) (by unfold maxLen at hcm; omega) ?_
  intro j x hx
  have := hc j x hx
  simpa [addr_add] using this
 go_enter Tryz.func285, Tryz.ntmps285
 go_wp2
 go_region
 all_goals (go_wp2; go_ret; exact ⟨rfl, rfl⟩)
def strP (base : Nat) (own : List Bx) (H : Heap) (f : SV->List Bx->Heap->Prop) (i : Nat) : Prop :=
 match own[i]? with
 | some ⟨b, false, ty, [p, .slice a n c]⟩ => ty = 311/\ 0 < n /\ 
  ∃ l : List UInt8, Row base H 5 1 a n c (u8s l)/\ ∀ H', (∀ x k, H x = some k->a ≠ some ⟨x, 0, none⟩->H' x = some k)->(∀ x k, H' x = some k->H x = some k)->f (.v (.string ⟨l.toArray⟩)) own H'
 | _ => False
noncomputable def TryzSum : InlFn := fun base H0 g pre own H f =>
 if g = 285 then (match pre with
  | [.loc i 0] => some (strP base own H f i)
  | _ => none)
 else if g = 235 then (match pre with
  | [.v (.slice a n c), .v (.int .i64 i), .v (.slice (some ⟨g', 0, none⟩) 1 1)] => some (insP base own H f a n c i g')
  | _ => none)
 else if g = 236 then (match pre with
  | [.v (.slice a n c), .v (.int .i64 i), .v (.int .i64 j)] => some (delP base 2 91 own H f a n c i j)
  | _ => none)
 else if g = 43 then (match pre with
  | [.v (.slice a n c), .v (.int .i64 i), .v (.int .i64 j)] => some (delP base 6 74 own H f a n c i j)
  | _ => none)
 else TryzIn3 base H0 g pre own H f
theorem freeze_heap (w : World) (g n : Nat) {k : Nat} (hk : k ≠ g) : (w.drew.freeze ⟨g, 0, none⟩ n).heap[k]? = w.heap[k]? := by
 unfold World.freeze
 split
 ·rfl
 ·show (w.heap.modify g _)[k]? = _
  rw [Array.getElem?_modify, if_neg (fun e => hk e.symm)]
theorem freeze_size (w : World) (g n : Nat) : (w.drew.freeze ⟨g, 0, none⟩ n).heap.size = w.heap.size := by
 unfold World.freeze
 split
 ·rfl
 ·show (w.heap.modify g _).size = _
  simp
theorem freeze_os (w : World) (g n : Nat) : (w.drew.freeze ⟨g, 0, none⟩ n).os = w.os/\ (w.drew.freeze ⟨g, 0, none⟩ n).tape = w.tape/\ (w.drew.freeze ⟨g, 0, none⟩ n).output = w.output := by
 unfold World.freeze
 split <;> exact ⟨rfl, rfl, rfl⟩
theorem in3_at {g : FuncId} {fn : Func} (hl : lookFn g TryzFs = some fn) {pre : List SV} (hn : pre.length <= fn.ntmps) {base : Nat} {H0 : Heap} {own : List Bx} {H : Heap} {f : SV->List Bx->Heap->Prop} :
  TryzIn3 base H0 g pre own H f = some (codeI ⟨Tryz.prog, fn.ntmps, ⟨TryzList, TryzIn2, true⟩, base, H0⟩ fn pre own H f) := by
 unfold TryzIn3 inlOf
 rw [hl]
 dsimp only
 rw [if_pos hn]
theorem Tryzsum (j : Bool) : InlOk Tryz.prog ⟨TryzList, TryzSum, j⟩ := by
 have key : ∀ base H0 g pre own H f p q, TryzIn3 base H0 g pre own H f = some q->(p->q)->TryzList.contains g = true/\ (p->∀ (C : Cfg) (w0 : World) (own0 : List Nat) (w : World), C.base = base->C.H0 = H0->StW C w0 own0 own H w->(∀ s ∈ pre, SV.wf own.length s)->
   Calls Tryz.prog g (pre.map (SV.val own)).toArray w fun e w' => ∃ v own' H', e = .returned v/\ f (.v v) own' H'/\ OwnExt own own'/\ StW C w0 own0 own' H' w') := fun base H0 g pre own H f p q hq hpq => by
  obtain ⟨h1, h2⟩ := Tryzin3 j base H0 g pre own H f q hq
  exact ⟨h1, fun hp => h2 (hpq hp)⟩
 intro base H0 g pre own H f p hp
 unfold TryzSum at hp
 dsimp only at hp
 split at hp
 ·rename_i e
  subst e
  split at hp
  ·rename_i i
   obtain rfl := Option.some.inj hp
   refine ⟨by show TryzList.contains 285 = true; decide, fun h C w0 own0 w hbase hH0 hw hwf => ?_⟩
   subst hbase hH0
   unfold strP at h
   split at h
   ·rename_i b ty p a n c hx
    obtain ⟨rfl, hn, l, hR, hf⟩ := h
    have hbk : w.heap[b]? = some (.cells #[p, .slice a n c] 311 (0, 0)) := hw.boxes.ok _ (List.mem_of_getElem? hx)
    obtain ⟨h1, h2, h3, h4⟩ := hR
    obtain rfl : l.length = n := by simpa [u8s] using h1
    rcases h4 with ⟨h0, _⟩ | ⟨g, k, rfl, hgb, hH, hty, hksz, hfree, hcl⟩
    ·omega
    obtain ⟨cur, fr, hcu, hsz, _, hcell⟩ := hw.sees g _ hH
    rw [hty] at hcu
    have hbn : boxNo own i = b := box_no hx
    have hargs : (([SV.loc i 0] : List SV).map (SV.val own)).toArray = #[.pointer (some ⟨b, 0, none⟩)] := by simp [SV.val, hbn]
    rw [hargs]
    refine (str_run hbk (by intro e; subst e; simp at hn) hcu h2 h3 (by rw [hsz, hksz, Nat.mul_one]) (fun j x hj => hw.sees.cell ?_)).mono fun e w' ⟨he, hw'⟩ => ?_
    ·unfold Heap.cell; rw [hH]; exact hcl j _ (by simp [u8s, hj])
    have hbx : ∀ y ∈ own, y.b ≠ g := fun y hy e => by
     have := hw.boxes.hid y hy
     rw [e, hH] at this; cases this
    obtain ⟨o1, o2, o3⟩ := freeze_os w g l.length
    refine ⟨_, own, fun x => if x = g then none else H x, he, hf _ (fun x k hk hne => ?_) (fun x k hk => ?_), OwnExt.refl _, ?_⟩
    ·have : x ≠ g := fun e => hne (by rw [e])
     simp only [if_neg this]; exact hk
    ·split at hk
     ·cases hk
     ·exact hk
    ·have hblock : ∀ k, k ≠ g->w'.heap[k]? = w.heap[k]? := fun k hk => by rw [hw']; exact freeze_heap w g _ hk
     refine ⟨fun x k hk => ?_, ⟨fun y hy => Bx.ok_same (hw.boxes.ok y hy) (hblock _ (hbx y hy)), fun y hy => ?_, hw.boxes.apart⟩, hw.locs, hw.step (by rw [hw']; exact o1) (by rw [hw']; exact o2) (by rw [hw']; exact o3) (by rw [hw', freeze_size]; exact Nat.le_refl _) fun k hk hk' => hblock k (by omega), ⟨fun x k hk => ?_, fun x k hk hn => ?_⟩, hw.base, hw.seen0⟩
     ·split at hk
      ·cases hk
      ·rename_i hne
       rw [hblock x hne]; exact hw.sees x k hk
     ·split
      ·rfl
      ·exact hw.boxes.hid y hy
     ·have := hw.h0_lt hk
      rw [if_neg (by omega)]
      exact hw.next.ext x k hk
     ·split at hk
      ·cases hk
      ·exact hw.next.fresh x k hk hn
   ·exact h.elim
  ·cases hp
 ·split at hp
  ·rename_i e
   subst e
   split at hp
   ·obtain rfl := Option.some.inj hp
    exact key _ _ _ _ _ _ _ _ _ (in3_at (fn := Tryz.f235) (by rfl) (Nat.le_of_ble_eq_true (by kernel_rfl))) ins_sum
   ·cases hp
  ·split at hp
   ·rename_i e
    subst e
    split at hp
    ·obtain rfl := Option.some.inj hp
     exact key _ _ _ _ _ _ _ _ _ (in3_at (fn := Tryz.f236) (by rfl) (Nat.le_of_ble_eq_true (by kernel_rfl))) fun h => by
      show codeI ⟨Tryz.prog, Tryz.f236.ntmps, ⟨TryzList, TryzIn2, true⟩, base, H0⟩ Tryz.f236 _ own H f
      rw [vcI123]
      exact del_sum (bytes := 16) (by omega) h
    ·cases hp
   ·split at hp
    ·rename_i e
     subst e
     split at hp
     ·obtain rfl := Option.some.inj hp
      exact key _ _ _ _ _ _ _ _ _ (in3_at (fn := Tryz.f43) (by rfl) (Nat.le_of_ble_eq_true (by kernel_rfl))) fun h => by
       show codeI ⟨Tryz.prog, Tryz.f43.ntmps, ⟨TryzList, TryzIn2, true⟩, base, H0⟩ Tryz.f43 _ own H f
       rw [vcI53]
       exact del_sum (bytes := 56) (by omega) h
     ·cases hp
    ·exact Tryzin3 j base H0 g pre own H f p hp
noncomputable def TryzMutsJ : Muts := ⟨TryzList, TryzSum, true⟩
theorem TryzvcJ {f : FuncId} {fn : Func} (hf : Tryz.prog.funcs[f]? = some fn) (hok : okFn fn = true) {args : List Value} (hargs : Nat.ble args.length fn.ntmps = true) {H : Heap} (Q : Value->Heap->Prop) {sv : List SV} (hsv : args.map SV.v = sv)
  {F : Nat->(Value->List (List Value)->Heap->Prop)->Prop} (hv : ∀ base K, funV ⟨Tryz.prog, fn.ntmps, TryzMutsJ, base, H⟩ (bodyOf fn) fn.results.toList sv [] K = F base K)
  (h : ∀ base, (∀ b k, H b = some k->b < base)->F base (fun v _ H' => Q v H')) : Spec Tryz.prog f args H Q :=
 spec_of (muts := TryzMutsJ) (Tryzsum true) hf (body_some hok) rfl Tryzmixed (ops_ok hok) (Nat.le_of_ble_eq_true hargs) fun base hb => by
  rw [hsv, hv base]
  exact h base hb
theorem cCopyCheck {H : Heap} {b : Nat} {p : O} {v : Value} (hp : p = none ∨ p = some ⟨b, 0, none⟩) : SpecO Tryz.prog 298 [.pointer (some ⟨b, 0, none⟩)] [⟨b, false, 311, [.pointer p, v]⟩] H
  fun r css H' => r = .tuple #[]/\ css = [[.pointer (some ⟨b, 0, none⟩), v]]/\ H' = H := fun w hw hb => by
 have hbk : w.heap[b]? = some (.cells #[.pointer p, v] 311 (0, 0)) := hb.ok _ List.mem_cons_self
 have hbn : H b = none := hb.hid _ List.mem_cons_self
 have hlt : b < w.heap.size := by
  rcases Nat.lt_or_ge b w.heap.size with h | h
  ·exact h
  ·simp [Array.getElem?_eq_none h] at hbk
 have hX : Builder.X72 Tryz.prog Tryz.lays156_ren := { sizeBuilder := by kernel_rfl, liesBuilder := by kernel_rfl }
 rcases hp with rfl | rfl
 ·refine (Any.Builder_copyCheck_fresh { Tryz.lays156 with } hX b w (by rw [Lib.cell_of_heap hbk]; rfl) (by simp [World.shape?, hbk]; rfl) (by simp [World.frozen?, hbk])).mono fun e w' ⟨he, hw'⟩ => ?_
  have hblock : ∀ k, k ≠ b->w'.heap[k]? = w.heap[k]? := fun k hk => by
   rw [hw']
   simp [World.setCell, Array.getElem?_modify, Ne.symm hk]
  have hnew : w'.heap[b]? = some (.cells #[.pointer (some ⟨b, 0, none⟩), v] 311 (0, 0)) := by
   rw [hw']
   simp [World.setCell, Array.getElem?_modify, hbk]
  have hsz : w'.heap.size = w.heap.size := by rw [hw']; simp [World.setCell]
  refine ⟨_, [[.pointer (some ⟨b, 0, none⟩), v]], H, he, rfl, ⟨by rw [hw']; rfl, by rw [hw']; rfl, by rw [hw']; rfl, by omega, fun k _ hk => hblock k (by simpa using hk)⟩, fun x k hx => ?_, ⟨fun y hy => ?_, fun y hy => ?_, by simp [setAll]⟩, ⟨fun _ _ h => h, fun x k h h' => (by rw [h] at h'; cases h')⟩, rfl, rfl, rfl⟩
  ·rw [hblock x (fun e => by rw [e, hbn] at hx; cases hx)]; exact hw x k hx
  ·obtain rfl : y = ⟨b, false, 311, [.pointer (some ⟨b, 0, none⟩), v]⟩ := by simpa [setAll, Bx.set] using hy
   exact hnew
  ·obtain rfl : y = ⟨b, false, 311, [.pointer (some ⟨b, 0, none⟩), v]⟩ := by simpa [setAll, Bx.set] using hy
   exact hbn
 ·refine (Any.Builder_copyCheck_used { Tryz.lays156 with } hX b w (by rw [Lib.cell_of_heap hbk]; rfl)).mono fun e w' ⟨he, hw'⟩ => ?_
  subst hw'
  exact ⟨_, [[.pointer (some ⟨b, 0, none⟩), v]], H, he, rfl, BelowX.refl _ _, hw, hb, ⟨fun _ _ h => h, fun x k h h' => (by rw [h] at h'; cases h')⟩, rfl, rfl, rfl⟩
open Go Go.Proofs
def TryzListK : List FuncId := 1000000 :: TryzList
theorem contK {g : FuncId} (h : TryzList.contains g = true) : TryzListK.contains g = true := by
 unfold TryzListK
 rw [List.contains_cons, h, Bool.or_true]
theorem TryzsumK (j : Bool) : InlOk Tryz.prog ⟨TryzListK, TryzSum, j⟩ := fun base H0 g pre own H f p hp => by
 obtain ⟨h1, h2⟩ := Tryzsum j base H0 g pre own H f p hp
 exact ⟨contK h1, h2⟩
noncomputable def TryzMutsK : Muts := ⟨TryzListK, TryzSum, true⟩
theorem TryzvcK {f : FuncId} {fn : Func} (hf : Tryz.prog.funcs[f]? = some fn) (hok : okFn fn = true) {args : List Value} (hargs : Nat.ble args.length fn.ntmps = true) {H : Heap} (Q : Value->Heap->Prop) {sv : List SV} (hsv : args.map SV.v = sv)
  {F : Nat->(Value->List (List Value)->Heap->Prop)->Prop} (hv : ∀ base K, funV ⟨Tryz.prog, fn.ntmps, TryzMutsK, base, H⟩ (bodyOf fn) fn.results.toList sv [] K = F base K)
  (h : ∀ base, (∀ b k, H b = some k->b < base)->F base (fun v _ H' => Q v H')) : Spec Tryz.prog f args H Q :=
 spec_of (muts := TryzMutsK) (TryzsumK true) hf (body_some hok) rfl Tryzmixed (ops_ok hok) (Nat.le_of_ble_eq_true hargs) fun base hb => by
  rw [hsv, hv base]
  exact h base hb
open Go Go.Proofs
def TryzListL : List FuncId := 1000002 :: TryzListK
theorem TryzsumL (j : Bool) : InlOk Tryz.prog ⟨TryzListL, TryzSum, j⟩ := fun base H0 g pre own H f p hp => by
 obtain ⟨h1, h2⟩ := TryzsumK j base H0 g pre own H f p hp
 refine ⟨?_, h2⟩
 have h1 : TryzListK.contains g = true := h1
 show TryzListL.contains g = true
 unfold TryzListL
 rw [List.contains_cons, h1, Bool.or_true]
noncomputable def TryzMutsL : Muts := ⟨TryzListL, TryzSum, true⟩
theorem TryzvcL {f : FuncId} {fn : Func} (hf : Tryz.prog.funcs[f]? = some fn) (hok : okFn fn = true) {args : List Value} (hargs : Nat.ble args.length fn.ntmps = true) {H : Heap} (Q : Value->Heap->Prop) {sv : List SV} (hsv : args.map SV.v = sv)
  {F : Nat->(Value->List (List Value)->Heap->Prop)->Prop} (hv : ∀ base K, funV ⟨Tryz.prog, fn.ntmps, TryzMutsL, base, H⟩ (bodyOf fn) fn.results.toList sv [] K = F base K)
  (h : ∀ base, (∀ b k, H b = some k->b < base)->F base (fun v _ H' => Q v H')) : Spec Tryz.prog f args H Q :=
 spec_of (muts := TryzMutsL) (TryzsumL true) hf (body_some hok) rfl Tryzmixed (ops_ok hok) (Nat.le_of_ble_eq_true hargs) fun base hb => by
  rw [hsv, hv base]
  exact h base hb
theorem TryzvcLO {f : FuncId} {fn : Func} (hf : Tryz.prog.funcs[f]? = some fn) (hok : okFn fn = true) {own : List Bx} {args : List SV} (hargs : Nat.ble args.length fn.ntmps = true) (hwf : ∀ s ∈ args, s.wf own.length) {H : Heap} (Q : Value->List (List Value)->Heap->Prop)
  {F : Nat->(Value->List (List Value)->Heap->Prop)->Prop} (hv : ∀ base K, funV ⟨Tryz.prog, fn.ntmps, TryzMutsL, base, H⟩ (bodyOf fn) fn.results.toList args own K = F base K)
  (h : ∀ base, (∀ b k, H b = some k->b < base)->(∀ x ∈ own, x.b < base)->F base Q) : SpecO Tryz.prog f (args.map (SV.val own)) own H Q :=
 specO_of (muts := TryzMutsL) (TryzsumL true) hf (body_some hok) rfl Tryzmixed (ops_ok hok) (Nat.le_of_ble_eq_true hargs) hwf fun base hb ho => by
  rw [hv base]
  exact h base hb ho
def hideB (b : Nat) (H : Heap) : Heap := fun x => if x = b then none else H x
def showB (b : Nat) (k : KB) (H : Heap) : Heap := fun x => if x = b then some k else H x
theorem Spec.lend {P : Program} {f : FuncId} {args : List Value} {H : Heap} {Q : Value->Heap->Prop} {b : Nat} {ty : TypeId} {cs : List Value} (hb : H b = some (boxKB ty cs))
  (h : SpecO P f args [⟨b, false, ty, cs⟩] (hideB b H) fun v css H' => css = [cs]/\ Q v (showB b (boxKB ty cs) H')) : Spec P f args H Q := fun w hs _ => by
 obtain ⟨cur, fr, h1, h2, h3, h4⟩ := hs b _ hb
 obtain rfl : fr = (0, 0) := h3 rfl
 have hcur : cur = cs.toArray := by
  refine Array.ext (by simpa [boxKB] using h2) fun i hi hi' => ?_
  have hi2 : i < cs.length := by simpa using hi'
  have := h4 i cs[i] (List.getElem?_eq_getElem hi2)
  rw [Array.getElem?_eq_getElem hi] at this
  simpa using Option.some.inj this
 subst hcur
 have hs' : Sees (hideB b H) w := fun x k hk => by
  unfold hideB at hk
  split at hk
  ·cases hk
  ·exact hs x k hk
 refine (h w hs' ⟨fun x hx => ?_, fun x hx => ?_, by simp⟩).mono fun e w' he => ?_
 ·simp only [List.mem_singleton] at hx; subst hx; exact h1
 ·simp only [List.mem_singleton] at hx; subst hx; simp [hideB]
 ·obtain ⟨v, css, H', rfl, hl, hbel, hse, hbx, hn, rfl, hQ⟩ := he
  have hbb : w'.heap[b]? = some (.cells cs.toArray ty (0, 0)) := hbx.ok ⟨b, false, ty, cs⟩ (by simp [setAll, Bx.set])
  refine ⟨v, [], showB b (boxKB ty cs) H', rfl, rfl, ⟨hbel.os, hbel.tape, hbel.output, hbel.size, fun k hk _ => ?_⟩, fun x k hk => ?_, ⟨by simp [setAll], by simp [setAll], by simp [setAll]⟩, ⟨fun x k hk => ?_, fun x k hk hx => ?_⟩, hQ⟩
  ·by_cases e : k = b
   ·subst e; rw [hbb]; exact h1.symm
   ·exact hbel.block k hk (by simpa using e)
  ·unfold showB at hk
   split at hk
   ·rename_i e; subst e; obtain rfl := Option.some.inj hk
    exact ⟨cs.toArray, (0, 0), hbb, by simp [boxKB], fun _ => rfl, fun j v hj => by simpa [boxKB] using hj⟩
   ·exact hse x k hk
  ·unfold showB
   split
   ·rename_i e; subst e; rw [hb] at hk; exact hk
   ·rename_i e; exact hn.ext x k (by unfold hideB; rw [if_neg e]; exact hk)
  ·unfold showB at hk
   split at hk
   ·rename_i e; subst e; rw [hb] at hx; cases hx
   ·rename_i e; exact hn.fresh x k hk (by unfold hideB; rw [if_neg e]; exact hx)
open Go Go.Proofs
open Go.Value renaming int → I, slice → S, bool → B, agg → A, tuple → T, pointer → P, string → Str
open Go.IntKind renaming i64 → Z, wrap → W
open Go.Addr renaming mk → D
open Go.Vg.Bx renaming mk → J
open Go.Vg renaming Next → X, Spec → Y, SpecO → YO
open Go.Vg.Heap renaming cell → C
open Int renaming toNat → N
theorem vk96 (b : Nat) (k : Int) (base : Nat) (H : Heap) (K : KT) :
 (fV TryzMutsL Tryz.f96 base H [.v (I Z k), .loc 0 0] [⟨b, false, 141, [.func (.func 95) #[] #[]]⟩] K) = (
 Y Tryz.prog 95 [I Z 3,I Z k] H fun a c =>∃ d e g h i j l,a = A #[I Z d,I Z e,I Z g,B h,S i j l]/\ (X base H c->Y Tryz.prog 95 [I Z 9,I Z 0] c fun m n =>∃ o p q r s t u,m = A #[I Z o,I Z p,I Z q,B r,S s t u]/\ (X base c n->Y Tryz.prog 95 [I Z 7,I Z k] n fun v w =>∃ x y z a1 b1 c1 d1,v = A #[I Z x,I Z y,I Z z,B a1,S b1 c1 d1]/\ (X base n w->Y Tryz.prog 95 [I Z 7,I Z k] w fun e1 f1 =>∃ g1 h1 i1 j1 k1 l1 m1,e1 = A #[I Z g1,I Z h1,I Z i1,B j1,S k1 l1 m1]/\ (X base w f1->Y Tryz.prog 95 [I Z 7,I Z k] f1 fun n1 o1 =>∃ p1 q1 r1 s1 t1 u1 v1,n1 = A #[I Z p1,I Z q1,I Z r1,B s1,S t1 u1 v1]/\ (X base f1 o1->Y Tryz.prog 95 [I Z 9,I Z 0] o1 fun w1 x1 =>∃ y1 z1 a2 b2 c2 d2 e2,w1 = A #[I Z y1,I Z z1,I Z a2,B b2,S c2 d2 e2]/\ (X base o1 x1->∀ (f2:Nat) (g2:Heap),X base x1 g2->x1 f2 = none->g2 f2 = some (boxKB 62 [I Z d,I Z e,I Z g,B h,S i j l,I Z o,I Z p,I Z q,B r,S s t u,I Z x,I Z y,I Z z,B a1,S b1 c1 d1,I Z g1,I Z h1,I Z i1,B j1,S k1 l1 m1,I Z p1,I Z q1,I Z r1,B s1,S t1 u1 v1,I Z y1,I Z z1,I Z a2,B b2,S c2 d2 e2])->K (S (some (D f2 0 none)) 6 6) [[Value.func (Fn.func 95) #[] #[]]] g2))))))) := by kernel_rfl
theorem vk30  (base : Nat) (H : Heap) (K : KT) :
 (fV TryzMutsL Tryz.f30 base H [] [] K) = (
 (fun w17:LV=>∀ a:Nat,(fun w16:LV=>(fun w15:LV=>(fun w14:LB=>Y Tryz.prog 71 [] H fun b c =>∃ d e g h i j k l m n o,b = A #[I Z d,S e g h,S i j k,S l m n,I Z o]/\ (X base H c->Y Tryz.prog 26 [A #[I Z d,S e g h,S i j k,S l m n,I Z o]] c fun p q =>∃ (r:Int) (s:O) (t u:Nat) (v:O) (w x:Nat) (y:O) (z a1:Nat) (b1:Int) (c1:O) (d1 e1:Nat) (f1 g1:Int) (h1:Bool) (i1:O) (j1 k1:Nat) (l1:Int) (m1:O) (n1 o1:Nat) (p1:O) (q1 r1:Nat) (s1:Bool) (t1:O) (u1 v1:Nat) (w1:O) (x1 y1:Nat),(fun w13:AV=>∃ z1,p = T #[A w13,I Z z1]/\ (X base c q->∀ a2:Nat,Y Tryz.prog 72 [] q fun b2 c2 =>∃ d2 e2 f2 g2,b2 = A #[I Z d2,S e2 f2 g2]/\ (X base q c2->Y Tryz.prog 95 [I Z 3,I Z 0] c2 fun h2 i2 =>∃ j2 k2 l2 m2 n2 o2 p2,(fun w12:LV=>h2 = A #[I Z j2,I Z k2,I Z l2,B m2,S n2 o2 p2]/\ (X base c2 i2->(∀ (q2:Nat) (r2:Heap),X base i2 r2->i2 q2 = none->r2 q2 = some (boxKB 62 w12)->true = true/\ ∀ s2:Heap,X 0 r2 s2->s2 a = some (boxKB 141 w17)/\ True->Y Tryz.prog 96 [I Z 1,P (some (D a 0 none))] s2 fun t2 u2 =>∃ v2 w2 x2,t2 = S v2 w2 x2/\ ∀ y2,X base r2 y2->(∀ (z2:Nat) (a3:KB),u2 z2 = some a3->(∀ b3:Bx,b3 ∈ w14->z2 ≠ Bx.b b3)->y2 z2 = some a3)->true = true/\ ∀ z2:Heap,X 0 y2 z2->z2 a = some (boxKB 141 w17)/\ True->Y Tryz.prog 96 w16 z2 fun a3 b3 =>∃ c3 d3 e3,a3 = S c3 d3 e3/\ ∀ f3,X base y2 f3->(∀ (g3:Nat) (h3:KB),b3 g3 = some h3->(∀ i3:Bx,i3 ∈ w14->g3 ≠ Bx.b i3)->f3 g3 = some h3)->true = true/\ ∀ g3:Heap,X 0 f3 g3->g3 a = some (boxKB 141 w17)/\ True->Y Tryz.prog 96 w15 g3 fun h3 i3 =>∃ j3 k3 l3,h3 = S j3 k3 l3/\ ∀ m3,X base f3 m3->(∀ (n3:Nat) (o3:KB),i3 n3 = some o3->(∀ p3:Bx,p3 ∈ w14->n3 ≠ Bx.b p3)->m3 n3 = some o3)->Y Tryz.prog 95 [I Z 6,I Z 0] m3 fun n3 o3 =>∃ p3 q3 r3 s3 t3 u3 v3,n3 = A #[I Z p3,I Z q3,I Z r3,B s3,S t3 u3 v3]/\ (X base m3 o3->∀ (w3:Nat) (x3:Heap),X base o3 x3->o3 w3 = none->x3 w3 = some (boxKB 62 [I Z p3,I Z q3,I Z r3,B s3,S t3 u3 v3])->∀ (y3:Nat) (z3:Heap),X base x3 z3->x3 y3 = none->z3 y3 = some (boxKB 72 [S (some (D q2 0 none)) 3 3,S v2 w2 x2,S c3 d3 e3,S j3 k3 l3,S (some (D w3 0 none)) 1 1])->Y Tryz.prog 97 [S (some (D y3 0 none)) 5 5] z3 fun a4 b4 =>∃ c4 d4
 e4,a4 = S c4 d4 e4/\ (X base z3 b4->Y Tryz.prog 39 [A w13,S c4 d4 e4] b4 fun f4 g4 =>∃ h4 i4 j4 k4 l4 m4 n4 o4 p4 q4 r4 s4 t4 u4 v4 w4 x4 y4 z4 a5 b5 c5 d5 e5 f5 g5 h5 i5 j5 k5 l5 m5 n5 o5,(fun w6:LB=>∃ p5 q5 r5 s5,f4 = T #[A #[I Z h4,S i4 j4 k4,S l4 m4 n4,S o4 p4 q4,I Z r4,S s4 t4 u4,I Z v4,I Z w4,B x4,S y4 z4 a5,I Z b5,S c5 d5 e5,S f5 g5 h5,B i5,S j5 k5 l5,S m5 n5 o5],S p5 q5 r5,I Z s5]/\ (X base b4 g4->Y Tryz.prog 98 [S p5 q5 r5,Value.func (Fn.func 99) #[] #[]] g4 fun t5 u5 =>∃ v5,t5 = I Z v5/\ (X base g4 u5->∃ w5:Prop,((z1 = 0->(s5 = 0->((q5:Int) = 22->(v5 = 2->∃ x5 y5,p5 = some (D x5 y5 none)/\ Int.ofNat 0 <= 2/\ 2 < (q5:Int)/\ ∃ z5,C u5 x5 (y5 + 2 * 1) = some (I Z z5)/\ (z5 = 7->Int.ofNat 0 <= 3/\ 3 <= (q5:Int)/\ q5 <= r5/\ ∀ a6:O,(3 < (r5:Int)->a6 = Option.map (fun b6 =>Addr.add b6 (3 * 1)) p5)->Y Tryz.prog 73 [S a6 (q5 - 3) (r5 - 3),Value.func (Fn.func 100) #[] #[]] u5 fun b6 c6 =>∃ d6,b6 = B d6/\ (X base u5 c6->(d6 = false->(v4 = 2->(w4 = 0->((n5:Int) = 0->∃ e6 f6,j5 = some (D e6 f6 none)/\ Int.ofNat 0 <= 2/\ 2 < (k5:Int)/\ ∃ g6,C c6 e6 (f6 + 2 * 10 + 1) = some (I Z g6)/\ w6 = w6/\ SubH u5 c6/\ (w5↔g6 = 2))/\ (¬(n5:Int) = 0->w6 = w6/\ SubH u5 c6/\ ¬w5))/\ (¬w4 = 0->w6 = w6/\ SubH u5 c6/\ ¬w5))/\ (¬v4 = 2->w6 = w6/\ SubH u5 c6/\ ¬w5))/\ (¬d6 = false->w6 = w6/\ SubH u5 c6/\ ¬w5)))/\ (¬z5 = 7->w6 = w6/\ SubH u5 u5/\ ¬w5))/\ (¬v5 = 2->w6 = w6/\ SubH u5 u5/\ ¬w5))/\ (¬(q5:Int) = 22->w6 = w6/\ SubH u5 u5/\ ¬w5))/\ (¬s5 = 0->w6 = w6/\ SubH u5 u5/\ ¬w5))/\ (¬z1 = 0->w6 = w6/\ SubH u5 u5/\ ¬w5))/\ K (B (@decide w5 (Classical.propDecidable w5))) [] u5))) [J a false 141 w17,J a2 false 41 [I Z h4,S i4 j4 k4,S l4 m4 n4,S o4 p4 q4,I Z r4,S s4 t4 u4,I Z v4,I Z w4,B x4,S y4 z4 a5,I Z b5,S c5 d5 e5,S f5 g5 h5,B i5,S j5 k5 l5,S m5 n5 o5]])))/\ true = true/\ ∀ q2:Heap,X 0 i2 q2->q2 a = some (boxKB 141 w17)/\ True->Y Tryz.prog 96 [I Z 1,P (some (D a 0 none))] q2 fun r2 s2 =>∃ t2 u2 v2,r2 = S t2 u2 v2/\ ∀ w2,X base i2 w2->(∀ (x2:Nat) (y2:KB),s2 x2 = some y2->(∀ z2:Bx,z2 ∈ w14->x2 ≠ Bx.b z2)->w2 x2 = some y2)->(∀ (x2:Nat) (y2:Heap),X base w2 y2->w2 x2 = none->y2 x2 = some (boxKB 62 w12)->true = true/\ ∀ z2:Heap,X 0 y2
 z2->z2 a = some (boxKB 141 w17)/\ True->Y Tryz.prog 96 w16 z2 fun a3 b3 =>∃ c3 d3 e3,a3 = S c3 d3 e3/\ ∀ f3,X base y2 f3->(∀ (g3:Nat) (h3:KB),b3 g3 = some h3->(∀ i3:Bx,i3 ∈ w14->g3 ≠ Bx.b i3)->f3 g3 = some h3)->true = true/\ ∀ g3:Heap,X 0 f3 g3->g3 a = some (boxKB 141 w17)/\ True->Y Tryz.prog 96 w15 g3 fun h3 i3 =>∃ j3 k3 l3,h3 = S j3 k3 l3/\ ∀ m3,X base f3 m3->(∀ (n3:Nat) (o3:KB),i3 n3 = some o3->(∀ p3:Bx,p3 ∈ w14->n3 ≠ Bx.b p3)->m3 n3 = some o3)->Y Tryz.prog 95 [I Z 6,I Z 0] m3 fun n3 o3 =>∃ p3 q3 r3 s3 t3 u3 v3,n3 = A #[I Z p3,I Z q3,I Z r3,B s3,S t3 u3 v3]/\ (X base m3 o3->∀ (w3:Nat) (x3:Heap),X base o3 x3->o3 w3 = none->x3 w3 = some (boxKB 62 [I Z p3,I Z q3,I Z r3,B s3,S t3 u3 v3])->∀ (y3:Nat) (z3:Heap),X base x3 z3->x3 y3 = none->z3 y3 = some (boxKB 72 [S (some (D x2 0 none)) 3 3,S t2 u2 v2,S c3 d3 e3,S j3 k3 l3,S (some (D w3 0 none)) 1 1])->Y Tryz.prog 97 [S (some (D y3 0 none)) 5 5] z3 fun a4 b4 =>∃ c4 d4 e4,a4 = S c4 d4 e4/\ (X base z3 b4->Y Tryz.prog 39 [A w13,S c4 d4 e4] b4 fun f4 g4 =>∃ h4 i4 j4 k4 l4 m4 n4 o4 p4 q4 r4 s4 t4 u4 v4 w4 x4 y4 z4 a5 b5 c5 d5 e5 f5 g5 h5 i5 j5 k5 l5 m5 n5 o5,(fun w7:LB=>∃ p5 q5 r5 s5,f4 = T #[A #[I Z h4,S i4 j4 k4,S l4 m4 n4,S o4 p4 q4,I Z r4,S s4 t4 u4,I Z v4,I Z w4,B x4,S y4 z4 a5,I Z b5,S c5 d5 e5,S f5 g5 h5,B i5,S j5 k5 l5,S m5 n5 o5],S p5 q5 r5,I Z s5]/\ (X base b4 g4->Y Tryz.prog 98 [S p5 q5 r5,Value.func (Fn.func 99) #[] #[]] g4 fun t5 u5 =>∃ v5,t5 = I Z v5/\ (X base g4 u5->∃ w5:Prop,((z1 = 0->(s5 = 0->((q5:Int) = 22->(v5 = 2->∃ x5 y5,p5 = some (D x5 y5 none)/\ Int.ofNat 0 <= 2/\ 2 < (q5:Int)/\ ∃ z5,C u5 x5 (y5 + 2 * 1) = some (I Z z5)/\ (z5 = 7->Int.ofNat 0 <= 3/\ 3 <= (q5:Int)/\ q5 <= r5/\ ∀ a6:O,(3 < (r5:Int)->a6 = Option.map (fun b6 =>Addr.add b6 (3 * 1)) p5)->Y Tryz.prog 73 [S a6 (q5 - 3) (r5 - 3),Value.func (Fn.func 100) #[] #[]] u5 fun b6 c6 =>∃ d6,b6 = B d6/\ (X base u5 c6->(d6 = false->(v4 = 2->(w4 = 0->((n5:Int) = 0->∃ e6 f6,j5 = some (D e6 f6 none)/\ Int.ofNat 0 <= 2/\ 2 < (k5:Int)/\ ∃ g6,C c6 e6 (f6 + 2 * 10 + 1) = some (I Z g6)/\ w7 = w7/\ SubH u5 c6/\ (w5↔g6 = 2))/\ (¬(n5:Int) = 0->w7 = w7/\ SubH u5
 c6/\ ¬w5))/\ (¬w4 = 0->w7 = w7/\ SubH u5 c6/\ ¬w5))/\ (¬v4 = 2->w7 = w7/\ SubH u5 c6/\ ¬w5))/\ (¬d6 = false->w7 = w7/\ SubH u5 c6/\ ¬w5)))/\ (¬z5 = 7->w7 = w7/\ SubH u5 u5/\ ¬w5))/\ (¬v5 = 2->w7 = w7/\ SubH u5 u5/\ ¬w5))/\ (¬(q5:Int) = 22->w7 = w7/\ SubH u5 u5/\ ¬w5))/\ (¬s5 = 0->w7 = w7/\ SubH u5 u5/\ ¬w5))/\ (¬z1 = 0->w7 = w7/\ SubH u5 u5/\ ¬w5))/\ K (B (@decide w5 (Classical.propDecidable w5))) [] u5))) [J a false 141 w17,J a2 false 41 [I Z h4,S i4 j4 k4,S l4 m4 n4,S o4 p4 q4,I Z r4,S s4 t4 u4,I Z v4,I Z w4,B x4,S y4 z4 a5,I Z b5,S c5 d5 e5,S f5 g5 h5,B i5,S j5 k5 l5,S m5 n5 o5]])))/\ true = true/\ ∀ x2:Heap,X 0 w2 x2->x2 a = some (boxKB 141 w17)/\ True->Y Tryz.prog 96 w16 x2 fun y2 z2 =>∃ a3 b3 c3,y2 = S a3 b3 c3/\ ∀ d3,X base w2 d3->(∀ (e3:Nat) (f3:KB),z2 e3 = some f3->(∀ g3:Bx,g3 ∈ w14->e3 ≠ Bx.b g3)->d3 e3 = some f3)->(∀ (e3:Nat) (f3:Heap),X base d3 f3->d3 e3 = none->f3 e3 = some (boxKB 62 w12)->true = true/\ ∀ g3:Heap,X 0 f3 g3->g3 a = some (boxKB 141 w17)/\ True->Y Tryz.prog 96 w15 g3 fun h3 i3 =>∃ j3 k3 l3,h3 = S j3 k3 l3/\ ∀ m3,X base f3 m3->(∀ (n3:Nat) (o3:KB),i3 n3 = some o3->(∀ p3:Bx,p3 ∈ w14->n3 ≠ Bx.b p3)->m3 n3 = some o3)->Y Tryz.prog 95 [I Z 6,I Z 0] m3 fun n3 o3 =>∃ p3 q3 r3 s3 t3 u3 v3,n3 = A #[I Z p3,I Z q3,I Z r3,B s3,S t3 u3 v3]/\ (X base m3 o3->∀ (w3:Nat) (x3:Heap),X base o3 x3->o3 w3 = none->x3 w3 = some (boxKB 62 [I Z p3,I Z q3,I Z r3,B s3,S t3 u3 v3])->∀ (y3:Nat) (z3:Heap),X base x3 z3->x3 y3 = none->z3 y3 = some (boxKB 72 [S (some (D e3 0 none)) 3 3,S t2 u2 v2,S a3 b3 c3,S j3 k3 l3,S (some (D w3 0 none)) 1 1])->Y Tryz.prog 97 [S (some (D y3 0 none)) 5 5] z3 fun a4 b4 =>∃ c4 d4 e4,a4 = S c4 d4 e4/\ (X base z3 b4->Y Tryz.prog 39 [A w13,S c4 d4 e4] b4 fun f4 g4 =>∃ h4 i4 j4 k4 l4 m4 n4 o4 p4 q4 r4 s4 t4 u4 v4 w4 x4 y4 z4 a5 b5 c5 d5 e5 f5 g5 h5 i5 j5 k5 l5 m5 n5 o5,(fun w8:LB=>∃ p5 q5 r5 s5,f4 = T #[A #[I Z h4,S i4 j4 k4,S l4 m4 n4,S o4 p4 q4,I Z r4,S s4 t4 u4,I Z v4,I Z w4,B x4,S y4 z4 a5,I Z b5,S c5 d5 e5,S f5 g5 h5,B i5,S j5 k5 l5,S m5 n5 o5],S p5 q5 r5,I Z s5]/\ (X base b4 g4->Y Tryz.prog 98 [S p5 q5 r5,Value.func (Fn.func 99) #[] #[]] g4 fun t5
 u5 =>∃ v5,t5 = I Z v5/\ (X base g4 u5->∃ w5:Prop,((z1 = 0->(s5 = 0->((q5:Int) = 22->(v5 = 2->∃ x5 y5,p5 = some (D x5 y5 none)/\ Int.ofNat 0 <= 2/\ 2 < (q5:Int)/\ ∃ z5,C u5 x5 (y5 + 2 * 1) = some (I Z z5)/\ (z5 = 7->Int.ofNat 0 <= 3/\ 3 <= (q5:Int)/\ q5 <= r5/\ ∀ a6:O,(3 < (r5:Int)->a6 = Option.map (fun b6 =>Addr.add b6 (3 * 1)) p5)->Y Tryz.prog 73 [S a6 (q5 - 3) (r5 - 3),Value.func (Fn.func 100) #[] #[]] u5 fun b6 c6 =>∃ d6,b6 = B d6/\ (X base u5 c6->(d6 = false->(v4 = 2->(w4 = 0->((n5:Int) = 0->∃ e6 f6,j5 = some (D e6 f6 none)/\ Int.ofNat 0 <= 2/\ 2 < (k5:Int)/\ ∃ g6,C c6 e6 (f6 + 2 * 10 + 1) = some (I Z g6)/\ w8 = w8/\ SubH u5 c6/\ (w5↔g6 = 2))/\ (¬(n5:Int) = 0->w8 = w8/\ SubH u5 c6/\ ¬w5))/\ (¬w4 = 0->w8 = w8/\ SubH u5 c6/\ ¬w5))/\ (¬v4 = 2->w8 = w8/\ SubH u5 c6/\ ¬w5))/\ (¬d6 = false->w8 = w8/\ SubH u5 c6/\ ¬w5)))/\ (¬z5 = 7->w8 = w8/\ SubH u5 u5/\ ¬w5))/\ (¬v5 = 2->w8 = w8/\ SubH u5 u5/\ ¬w5))/\ (¬(q5:Int) = 22->w8 = w8/\ SubH u5 u5/\ ¬w5))/\ (¬s5 = 0->w8 = w8/\ SubH u5 u5/\ ¬w5))/\ (¬z1 = 0->w8 = w8/\ SubH u5 u5/\ ¬w5))/\ K (B (@decide w5 (Classical.propDecidable w5))) [] u5))) [J a false 141 w17,J a2 false 41 [I Z h4,S i4 j4 k4,S l4 m4 n4,S o4 p4 q4,I Z r4,S s4 t4 u4,I Z v4,I Z w4,B x4,S y4 z4 a5,I Z b5,S c5 d5 e5,S f5 g5 h5,B i5,S j5 k5 l5,S m5 n5 o5]])))/\ true = true/\ ∀ e3:Heap,X 0 d3 e3->e3 a = some (boxKB 141 w17)/\ True->Y Tryz.prog 96 w15 e3 fun f3 g3 =>∃ h3 i3 j3,f3 = S h3 i3 j3/\ ∀ k3,X base d3 k3->(∀ (l3:Nat) (m3:KB),g3 l3 = some m3->(∀ n3:Bx,n3 ∈ w14->l3 ≠ Bx.b n3)->k3 l3 = some m3)->(∀ (l3:Nat) (m3:Heap),X base k3 m3->k3 l3 = none->m3 l3 = some (boxKB 62 w12)->Y Tryz.prog 95 [I Z 6,I Z 0] m3 fun n3 o3 =>∃ p3 q3 r3 s3 t3 u3 v3,n3 = A #[I Z p3,I Z q3,I Z r3,B s3,S t3 u3 v3]/\ (X base m3 o3->∀ (w3:Nat) (x3:Heap),X base o3 x3->o3 w3 = none->x3 w3 = some (boxKB 62 [I Z p3,I Z q3,I Z r3,B s3,S t3 u3 v3])->∀ (y3:Nat) (z3:Heap),X base x3 z3->x3 y3 = none->z3 y3 = some (boxKB 72 [S (some (D l3 0 none)) 3 3,S t2 u2 v2,S a3 b3 c3,S h3 i3 j3,S (some (D w3 0 none)) 1 1])->Y Tryz.prog 97 [S (some (D y3 0 none)) 5 5] z3 fun a4 b4 =>∃ c4 d4 e4,a4 = S c4 d4 e4/\ (X base z3 b4->Y Tryz.prog 39 [A w13,S c4 d4
 e4] b4 fun f4 g4 =>∃ h4 i4 j4 k4 l4 m4 n4 o4 p4 q4 r4 s4 t4 u4 v4 w4 x4 y4 z4 a5 b5 c5 d5 e5 f5 g5 h5 i5 j5 k5 l5 m5 n5 o5,(fun w9:LB=>∃ p5 q5 r5 s5,f4 = T #[A #[I Z h4,S i4 j4 k4,S l4 m4 n4,S o4 p4 q4,I Z r4,S s4 t4 u4,I Z v4,I Z w4,B x4,S y4 z4 a5,I Z b5,S c5 d5 e5,S f5 g5 h5,B i5,S j5 k5 l5,S m5 n5 o5],S p5 q5 r5,I Z s5]/\ (X base b4 g4->Y Tryz.prog 98 [S p5 q5 r5,Value.func (Fn.func 99) #[] #[]] g4 fun t5 u5 =>∃ v5,t5 = I Z v5/\ (X base g4 u5->∃ w5:Prop,((z1 = 0->(s5 = 0->((q5:Int) = 22->(v5 = 2->∃ x5 y5,p5 = some (D x5 y5 none)/\ Int.ofNat 0 <= 2/\ 2 < (q5:Int)/\ ∃ z5,C u5 x5 (y5 + 2 * 1) = some (I Z z5)/\ (z5 = 7->Int.ofNat 0 <= 3/\ 3 <= (q5:Int)/\ q5 <= r5/\ ∀ a6:O,(3 < (r5:Int)->a6 = Option.map (fun b6 =>Addr.add b6 (3 * 1)) p5)->Y Tryz.prog 73 [S a6 (q5 - 3) (r5 - 3),Value.func (Fn.func 100) #[] #[]] u5 fun b6 c6 =>∃ d6,b6 = B d6/\ (X base u5 c6->(d6 = false->(v4 = 2->(w4 = 0->((n5:Int) = 0->∃ e6 f6,j5 = some (D e6 f6 none)/\ Int.ofNat 0 <= 2/\ 2 < (k5:Int)/\ ∃ g6,C c6 e6 (f6 + 2 * 10 + 1) = some (I Z g6)/\ w9 = w9/\ SubH u5 c6/\ (w5↔g6 = 2))/\ (¬(n5:Int) = 0->w9 = w9/\ SubH u5 c6/\ ¬w5))/\ (¬w4 = 0->w9 = w9/\ SubH u5 c6/\ ¬w5))/\ (¬v4 = 2->w9 = w9/\ SubH u5 c6/\ ¬w5))/\ (¬d6 = false->w9 = w9/\ SubH u5 c6/\ ¬w5)))/\ (¬z5 = 7->w9 = w9/\ SubH u5 u5/\ ¬w5))/\ (¬v5 = 2->w9 = w9/\ SubH u5 u5/\ ¬w5))/\ (¬(q5:Int) = 22->w9 = w9/\ SubH u5 u5/\ ¬w5))/\ (¬s5 = 0->w9 = w9/\ SubH u5 u5/\ ¬w5))/\ (¬z1 = 0->w9 = w9/\ SubH u5 u5/\ ¬w5))/\ K (B (@decide w5 (Classical.propDecidable w5))) [] u5))) [J a false 141 w17,J a2 false 41 [I Z h4,S i4 j4 k4,S l4 m4 n4,S o4 p4 q4,I Z r4,S s4 t4 u4,I Z v4,I Z w4,B x4,S y4 z4 a5,I Z b5,S c5 d5 e5,S f5 g5 h5,B i5,S j5 k5 l5,S m5 n5 o5]])))/\ Y Tryz.prog 95 [I Z 6,I Z 0] k3 fun l3 m3 =>∃ n3 o3 p3 q3 r3 s3 t3,l3 = A #[I Z n3,I Z o3,I Z p3,B q3,S r3 s3 t3]/\ (X base k3 m3->(∀ (u3:Nat) (v3:Heap),X base m3 v3->m3 u3 = none->v3 u3 = some (boxKB 62 w12)->∀ (w3:Nat) (x3:Heap),X base v3 x3->v3 w3 = none->x3 w3 = some (boxKB 62 [I Z n3,I Z o3,I Z p3,B q3,S r3 s3 t3])->∀ (y3:Nat) (z3:Heap),X base x3 z3->x3 y3 = none->z3 y3 = some (boxKB 72 [S (some (D u3 0 none)) 3 3,S t2 u2
 v2,S a3 b3 c3,S h3 i3 j3,S (some (D w3 0 none)) 1 1])->Y Tryz.prog 97 [S (some (D y3 0 none)) 5 5] z3 fun a4 b4 =>∃ c4 d4 e4,a4 = S c4 d4 e4/\ (X base z3 b4->Y Tryz.prog 39 [A w13,S c4 d4 e4] b4 fun f4 g4 =>∃ h4 i4 j4 k4 l4 m4 n4 o4 p4 q4 r4 s4 t4 u4 v4 w4 x4 y4 z4 a5 b5 c5 d5 e5 f5 g5 h5 i5 j5 k5 l5 m5 n5 o5,(fun w10:LB=>∃ p5 q5 r5 s5,f4 = T #[A #[I Z h4,S i4 j4 k4,S l4 m4 n4,S o4 p4 q4,I Z r4,S s4 t4 u4,I Z v4,I Z w4,B x4,S y4 z4 a5,I Z b5,S c5 d5 e5,S f5 g5 h5,B i5,S j5 k5 l5,S m5 n5 o5],S p5 q5 r5,I Z s5]/\ (X base b4 g4->Y Tryz.prog 98 [S p5 q5 r5,Value.func (Fn.func 99) #[] #[]] g4 fun t5 u5 =>∃ v5,t5 = I Z v5/\ (X base g4 u5->∃ w5:Prop,((z1 = 0->(s5 = 0->((q5:Int) = 22->(v5 = 2->∃ x5 y5,p5 = some (D x5 y5 none)/\ Int.ofNat 0 <= 2/\ 2 < (q5:Int)/\ ∃ z5,C u5 x5 (y5 + 2 * 1) = some (I Z z5)/\ (z5 = 7->Int.ofNat 0 <= 3/\ 3 <= (q5:Int)/\ q5 <= r5/\ ∀ a6:O,(3 < (r5:Int)->a6 = Option.map (fun b6 =>Addr.add b6 (3 * 1)) p5)->Y Tryz.prog 73 [S a6 (q5 - 3) (r5 - 3),Value.func (Fn.func 100) #[] #[]] u5 fun b6 c6 =>∃ d6,b6 = B d6/\ (X base u5 c6->(d6 = false->(v4 = 2->(w4 = 0->((n5:Int) = 0->∃ e6 f6,j5 = some (D e6 f6 none)/\ Int.ofNat 0 <= 2/\ 2 < (k5:Int)/\ ∃ g6,C c6 e6 (f6 + 2 * 10 + 1) = some (I Z g6)/\ w10 = w10/\ SubH u5 c6/\ (w5↔g6 = 2))/\ (¬(n5:Int) = 0->w10 = w10/\ SubH u5 c6/\ ¬w5))/\ (¬w4 = 0->w10 = w10/\ SubH u5 c6/\ ¬w5))/\ (¬v4 = 2->w10 = w10/\ SubH u5 c6/\ ¬w5))/\ (¬d6 = false->w10 = w10/\ SubH u5 c6/\ ¬w5)))/\ (¬z5 = 7->w10 = w10/\ SubH u5 u5/\ ¬w5))/\ (¬v5 = 2->w10 = w10/\ SubH u5 u5/\ ¬w5))/\ (¬(q5:Int) = 22->w10 = w10/\ SubH u5 u5/\ ¬w5))/\ (¬s5 = 0->w10 = w10/\ SubH u5 u5/\ ¬w5))/\ (¬z1 = 0->w10 = w10/\ SubH u5 u5/\ ¬w5))/\ K (B (@decide w5 (Classical.propDecidable w5))) [] u5))) [J a false 141 w17,J a2 false 41 [I Z h4,S i4 j4 k4,S l4 m4 n4,S o4 p4 q4,I Z r4,S s4 t4 u4,I Z v4,I Z w4,B x4,S y4 z4 a5,I Z b5,S c5 d5 e5,S f5 g5 h5,B i5,S j5 k5 l5,S m5 n5 o5]]))/\ ∀ (u3:Nat) (v3:Heap),X base m3 v3->m3 u3 = none->v3 u3 = some (boxKB 62 [I Z n3,I Z o3,I Z p3,B q3,S r3 s3 t3])->∀ (w3:Nat) (x3:Heap),X base v3 x3->v3 w3 = none->x3 w3 = some (boxKB 62 w12)->∀ (y3:Nat) (z3:Heap),X base x3
 z3->x3 y3 = none->z3 y3 = some (boxKB 72 [S (some (D w3 0 none)) 3 3,S t2 u2 v2,S a3 b3 c3,S h3 i3 j3,S (some (D u3 0 none)) 1 1])->Y Tryz.prog 97 [S (some (D y3 0 none)) 5 5] z3 fun a4 b4 =>∃ c4 d4 e4,a4 = S c4 d4 e4/\ (X base z3 b4->Y Tryz.prog 39 [A w13,S c4 d4 e4] b4 fun f4 g4 =>∃ h4 i4 j4 k4 l4 m4 n4 o4 p4 q4 r4 s4 t4 u4 v4 w4 x4 y4 z4 a5 b5 c5 d5 e5 f5 g5 h5 i5 j5 k5 l5 m5 n5 o5,(fun w11:LB=>∃ p5 q5 r5 s5,f4 = T #[A #[I Z h4,S i4 j4 k4,S l4 m4 n4,S o4 p4 q4,I Z r4,S s4 t4 u4,I Z v4,I Z w4,B x4,S y4 z4 a5,I Z b5,S c5 d5 e5,S f5 g5 h5,B i5,S j5 k5 l5,S m5 n5 o5],S p5 q5 r5,I Z s5]/\ (X base b4 g4->Y Tryz.prog 98 [S p5 q5 r5,Value.func (Fn.func 99) #[] #[]] g4 fun t5 u5 =>∃ v5,t5 = I Z v5/\ (X base g4 u5->∃ w5:Prop,((z1 = 0->(s5 = 0->((q5:Int) = 22->(v5 = 2->∃ x5 y5,p5 = some (D x5 y5 none)/\ Int.ofNat 0 <= 2/\ 2 < (q5:Int)/\ ∃ z5,C u5 x5 (y5 + 2 * 1) = some (I Z z5)/\ (z5 = 7->Int.ofNat 0 <= 3/\ 3 <= (q5:Int)/\ q5 <= r5/\ ∀ a6:O,(3 < (r5:Int)->a6 = Option.map (fun b6 =>Addr.add b6 (3 * 1)) p5)->Y Tryz.prog 73 [S a6 (q5 - 3) (r5 - 3),Value.func (Fn.func 100) #[] #[]] u5 fun b6 c6 =>∃ d6,b6 = B d6/\ (X base u5 c6->(d6 = false->(v4 = 2->(w4 = 0->((n5:Int) = 0->∃ e6 f6,j5 = some (D e6 f6 none)/\ Int.ofNat 0 <= 2/\ 2 < (k5:Int)/\ ∃ g6,C c6 e6 (f6 + 2 * 10 + 1) = some (I Z g6)/\ w11 = w11/\ SubH u5 c6/\ (w5↔g6 = 2))/\ (¬(n5:Int) = 0->w11 = w11/\ SubH u5 c6/\ ¬w5))/\ (¬w4 = 0->w11 = w11/\ SubH u5 c6/\ ¬w5))/\ (¬v4 = 2->w11 = w11/\ SubH u5 c6/\ ¬w5))/\ (¬d6 = false->w11 = w11/\ SubH u5 c6/\ ¬w5)))/\ (¬z5 = 7->w11 = w11/\ SubH u5 u5/\ ¬w5))/\ (¬v5 = 2->w11 = w11/\ SubH u5 u5/\ ¬w5))/\ (¬(q5:Int) = 22->w11 = w11/\ SubH u5 u5/\ ¬w5))/\ (¬s5 = 0->w11 = w11/\ SubH u5 u5/\ ¬w5))/\ (¬z1 = 0->w11 = w11/\ SubH u5 u5/\ ¬w5))/\ K (B (@decide w5 (Classical.propDecidable w5))) [] u5))) [J a false 141 w17,J a2 false 41 [I Z h4,S i4 j4 k4,S l4 m4 n4,S o4 p4 q4,I Z r4,S s4 t4 u4,I Z v4,I Z w4,B x4,S y4 z4 a5,I Z b5,S c5 d5 e5,S f5 g5 h5,B i5,S j5 k5 l5,S m5 n5 o5]])))) [I Z 1,I Z 0,I Z 0,B false,S e2 f2 g2,I Z 2,I Z 0,I Z 2,B false,S none 0 0,I Z j2,I Z k2,I Z l2,B m2,S n2 o2 p2]))) #[I Z r,S s t u,S v w x,S
 y z a1,I Z b1,S c1 d1 e1,I Z f1,I Z g1,B h1,S i1 j1 k1,I Z l1,S m1 n1 o1,S p1 q1 r1,B s1,S t1 u1 v1,S w1 x1 y1])) [J a false 141 w17]) [I Z 2,P (some (D a 0 none))]) [I Z 0,P (some (D a 0 none))]) [Value.func (Fn.func 95) #[] #[]]) := by kernel_rfl
open Go Go.Proofs
theorem vk95 (k n : Int) (base : Nat) (H : Heap) (K : KT) :
 (fV TryzMutsK Tryz.f95 base H [.v (I Z k), .v (I Z n)] [] K) = (
 ∀ a:Nat,K (A #[I Z k,I Z n,I Z 0,B true,S none 0 0]) [] H) := by kernel_rfl
theorem vk97 (a : O) (l c : Nat) (base : Nat) (H : Heap) (K : KT) :
 (fV TryzMutsJ Tryz.f97 base H [.v (S a l c)] [] K) = (
 ∃ (b:LI) (d:LM),b [I Z 0,I Z 0] H/\ ∀ (e g:Int) (h:Heap),X base H h->b [I Z e,I Z g] h->(g < (l:Int)->∃ i j,a = some (D i j none)/\ 0 <= g/\ g < (l:Int)/\ ∃ k m n,C h i (j + N g * 1) = some (S k m n)/\ ∀ o:Int,o = W Z (e + (m:Int))->(o < 0->False)/\ (¬o < 0->∀ p:Int,p = W Z (g + 1)->b [I Z o,I Z p] h/\ d [I Z o,I Z p] < d [I Z e,I Z g]))/\ (¬g < (l:Int)->Y Tryz.prog 185 [S none 0 0,I Z e] h fun i j =>∃ k m n,i = S k m n/\ (X base h j->∃ (o:LI) (p:LM),o [S k m n,I Z 0] j/\ ∀ (q:O) (r s:Nat) (t:Int) (u:Heap),X base H u->o [S q r s,I Z t] u->(t < (l:Int)->∃ v w,a = some (D v w none)/\ 0 <= t/\ t < (l:Int)/\ ∃ x y z,C u v (w + N t * 1) = some (S x y z)/\ ∃ a1 b1:List Value,Row base u 62 5 q r s a1/\ List.length b1 = y * 5/\ allOne b1 = true/\ (y = 0∨∃ c1 d1,x = some (D c1 d1 none)/\ cellsAt u c1 d1 0 b1)/\ (r + y) * 56 <= 140737488355328/\ r + y <= 9223372036854775807/\ ∀ (c1:O) (d1:Nat) (e1:Heap),Grew base u e1 q s c1 d1 (r + y)->Row base e1 62 5 c1 (r + y) d1 (a1 ++ b1)->∀ f1:Int,f1 = W Z (t + 1)->o [S c1 (r + y) d1,I Z f1] e1/\ p [S c1 (r + y) d1,I Z f1] < p [S q r s,I Z t])/\ (¬t < (l:Int)->K (S q r s) [] u)))) := by kernel_rfl
theorem vk185 (a : O) (l c : Nat) (n : Int) (base : Nat) (H : Heap) (K : KT) :
 (fV TryzMutsJ Tryz.f185 base H [.v (S a l c), .v (I Z n)] [] K) = (
 (n < 0->False)/\ (¬n < 0->∀ b:Int,b = W Z ((c:Int) - (l:Int))->∀ d:Int,d = W Z (n - b)->(0 < d->0 <= (c:Int)/\ (c:Int) <= (c:Int)/\ ∃ (e:List Value) (g:Nat),d = (g:Int)/\ 0 < g/\ c < N (c:Int) + g/\ Row base H 62 5 a (N (c:Int)) c e/\ (N (c:Int) + g) * 56 <= 140737488355328/\ N (c:Int) + g <= 9223372036854775807/\ ∀ (h i:Nat) (j:Heap),X base H j->H h = none->Row base j 62 5 (some (D h 0 none)) (N (c:Int) + g) i (e ++ List.flatten (List.replicate g [I Z 0,I Z 0,I Z 0,B false,S none 0 0]))->0 <= (l:Int)/\ (l:Int) <= (i:Int)/\ K (S (some (D h 0 none)) (N (l:Int)) i) [] j)/\ (¬0 < d->K (S a l c) [] H))) := by kernel_rfl
theorem vk41 (a : O) (l c : Nat) (base : Nat) (H : Heap) (K : KT) :
 (fV TryzMutsJ Tryz.f41 base H [.v (S a l c)] [] K) = (
 ∃ (b:LI) (d:LM),b [I Z 0,I Z 0] H/\ ∀ (e g:Int) (h:Heap),X base H h->b [I Z e,I Z g] h->(g < (l:Int)->∃ i j,a = some (D i j none)/\ 0 <= g/\ g < (l:Int)/\ ∃ k m n,C h i (j + N g * 1) = some (S k m n)/\ ∀ o:Int,o = W Z (e + (m:Int))->(o < 0->False)/\ (¬o < 0->∀ p:Int,p = W Z (g + 1)->b [I Z o,I Z p] h/\ d [I Z o,I Z p] < d [I Z e,I Z g]))/\ (¬g < (l:Int)->Y Tryz.prog 130 [S none 0 0,I Z e] h fun i j =>∃ k m n,i = S k m n/\ (X base h j->∃ (o:LI) (p:LM),o [S k m n,I Z 0] j/\ ∀ (q:O) (r s:Nat) (t:Int) (u:Heap),X base H u->o [S q r s,I Z t] u->(t < (l:Int)->∃ v w,a = some (D v w none)/\ 0 <= t/\ t < (l:Int)/\ ∃ x y z,C u v (w + N t * 1) = some (S x y z)/\ ∃ a1 b1:List Value,Row base u 42 1 q r s a1/\ List.length b1 = y * 1/\ allOne b1 = true/\ (y = 0∨∃ c1 d1,x = some (D c1 d1 none)/\ cellsAt u c1 d1 0 b1)/\ (r + y) * 8 <= 140737488355328/\ r + y <= 9223372036854775807/\ ∀ (c1:O) (d1:Nat) (e1:Heap),Grew base u e1 q s c1 d1 (r + y)->Row base e1 42 1 c1 (r + y) d1 (a1 ++ b1)->∀ f1:Int,f1 = W Z (t + 1)->o [S c1 (r + y) d1,I Z f1] e1/\ p [S c1 (r + y) d1,I Z f1] < p [S q r s,I Z t])/\ (¬t < (l:Int)->K (S q r s) [] u)))) := by kernel_rfl
theorem vk130 (a : O) (l c : Nat) (n : Int) (base : Nat) (H : Heap) (K : KT) :
 (fV TryzMutsJ Tryz.f130 base H [.v (S a l c), .v (I Z n)] [] K) = (
 (n < 0->False)/\ (¬n < 0->∀ b:Int,b = W Z ((c:Int) - (l:Int))->∀ d:Int,d = W Z (n - b)->(0 < d->0 <= (c:Int)/\ (c:Int) <= (c:Int)/\ ∃ (e:List Value) (g:Nat),d = (g:Int)/\ 0 < g/\ c < N (c:Int) + g/\ Row base H 42 1 a (N (c:Int)) c e/\ (N (c:Int) + g) * 8 <= 140737488355328/\ N (c:Int) + g <= 9223372036854775807/\ ∀ (h i:Nat) (j:Heap),X base H j->H h = none->Row base j 42 1 (some (D h 0 none)) (N (c:Int) + g) i (e ++ List.flatten (List.replicate g [I Z 0]))->0 <= (l:Int)/\ (l:Int) <= (i:Int)/\ K (S (some (D h 0 none)) (N (l:Int)) i) [] j)/\ (¬0 < d->K (S a l c) [] H))) := by kernel_rfl
theorem vk99 (e : Int) (base : Nat) (H : Heap) (K : KT) :
 (fV TryzMutsK Tryz.f99 base H [.v (I Z e)] [] K) = (
 K (B (decide ¬e = 0)) [] H) := by kernel_rfl
theorem vk100 (e : Int) (base : Nat) (H : Heap) (K : KT) :
 (fV TryzMutsK Tryz.f100 base H [.v (I Z e)] [] K) = (
 K (B (decide ¬e = 0)) [] H) := by kernel_rfl
theorem vk98b (a : O) (l c : Nat) (base : Nat) (H : Heap) (K : KT) :
 (fV TryzMutsK Tryz.f98 base H [.v (S a l c), .v (.func (.func 99) #[] #[])] [] K) = (
 ∃ (b:NI) (d:Nat),b d [I Z 0,I Z 0] H/\ ∀ (e:Nat) (g h:Int) (i:Heap),X base H i->b e [I Z g,I Z h] i->(h < (l:Int)->∃ j k,a = some (D j k none)/\ 0 <= h/\ h < (l:Int)/\ ∃ m,C i j (k + N h * 1) = some (I Z m)/\ Y Tryz.prog 99 [I Z m] i fun n o =>∃ p,n = B p/\ (X base i o->(p = true->K (I Z h) [] o)/\ (p = false->∀ q:Int,q = W Z (h + 1)->∃ r:Nat,r < e/\ b r [I Z g,I Z q] o)))/\ (¬h < (l:Int)->K (I Z (-1)) [] i)) := by kernel_rfl
theorem vk98c (a : O) (l c : Nat) (base : Nat) (H : Heap) (K : KT) :
 (fV TryzMutsK Tryz.f98 base H [.v (S a l c), .v (.func (.func 100) #[] #[])] [] K) = (
 ∃ (b:NI) (d:Nat),b d [I Z 0,I Z 0] H/\ ∀ (e:Nat) (g h:Int) (i:Heap),X base H i->b e [I Z g,I Z h] i->(h < (l:Int)->∃ j k,a = some (D j k none)/\ 0 <= h/\ h < (l:Int)/\ ∃ m,C i j (k + N h * 1) = some (I Z m)/\ Y Tryz.prog 100 [I Z m] i fun n o =>∃ p,n = B p/\ (X base i o->(p = true->K (I Z h) [] o)/\ (p = false->∀ q:Int,q = W Z (h + 1)->∃ r:Nat,r < e/\ b r [I Z g,I Z q] o)))/\ (¬h < (l:Int)->K (I Z (-1)) [] i)) := by kernel_rfl
theorem vk73b (a : O) (l c : Nat) (base : Nat) (H : Heap) (K : KT) :
 (fV TryzMutsK Tryz.f73 base H [.v (S a l c), .v (.func (.func 100) #[] #[])] [] K) = (
 Y Tryz.prog 98 [S a l c,Value.func (Fn.func 100) #[] #[]] H fun b d =>∃ e,b = I Z e/\ (X base H d->K (B (decide (0 <= e))) [] d)) := by kernel_rfl
theorem vk40 (a a' : O) (l c l' c' : Nat) (base : Nat) (H : Heap) (K : KT) :
 (fV TryzMutsJ Tryz.f40 base H [.v (S a l c), .v (S a' l' c')] [] K) = (
 (¬(l:Int) = (l':Int)->K (B false) [] H)/\ (¬¬(l:Int) = (l':Int)->∃ (b:LI) (d:LM),b [B false,I Z 0] H/\ ∀ (e:Bool) (g:Int) (h:Heap),X base H h->b [B e,I Z g] h->(g < (l:Int)->∃ i j,a = some (D i j none)/\ 0 <= g/\ g < (l:Int)/\ ∃ k,C h i (j + N g * 1) = some (I Z k)/\ ∃ m n,a' = some (D m n none)/\ 0 <= g/\ g < (l':Int)/\ ∃ o,C h m (n + N g * 1) = some (I Z o)/\ (¬k = o->K (B false) [] h)/\ (¬¬k = o->∀ p:Int,p = W Z (g + 1)->b [B e,I Z p] h/\ d [B e,I Z p] < d [B e,I Z g]))/\ (¬g < (l:Int)->K (B true) [] h))) := by kernel_rfl
open Go Go.Proofs
theorem vd44 (s : ByteArray) (base : Nat) (H : Heap) (K : KT) :
 (fV TryzMuts Tryz.f251 base H [.v (.string s)] [] K) = (
 Y Tryz.prog 226 [Str s] H fun a b =>∃ c,a = T #[I Z c,Value.nilIface]/\ (X base H b->∃ d,RunsTo Tryz.prog (binRun BinOp.eql 263 (Operand.tmp 12) (Operand.const Value.nilIface) Value.nilIface Value.nilIface) (B d)/\ (d = true->Y Tryz.prog 223 [I Z c] b fun e g =>∃ h,e = Str h/\ (X base b g->∃ i,RunsTo Tryz.prog (binRun BinOp.eql 9 (Operand.tmp 16) (Operand.tmp 17) (Str h) (Str s)) (B i)/\ K (T #[I Z c,B (decide (i = true))]) [] g))/\ (¬d = true->K (T #[I Z c,B false]) [] b))∨∃ (d:TypeId) (e:Value),a = T #[I Z c,Value.iface d e]/\ (X base H b->∃ g,RunsTo Tryz.prog (binRun BinOp.eql 263 (Operand.tmp 12) (Operand.const Value.nilIface) (Value.iface d e) Value.nilIface) (B g)/\ (g = true->Y Tryz.prog 223 [I Z c] b fun h i =>∃ j,h = Str j/\ (X base b i->∃ k,RunsTo Tryz.prog (binRun BinOp.eql 9 (Operand.tmp 16) (Operand.tmp 17) (Str j) (Str s)) (B k)/\ K (T #[I Z c,B (decide (k = true))]) [] i))/\ (¬g = true->K (T #[I Z c,B false]) [] b))) := by kernel_rfl
theorem vd8 (a : O) (l c : Nat) (base : Nat) (H : Heap) (K : KT) :
 (fV TryzMutsJ Tryz.f284 base H [.v (S a l c)] [] K) = (
 Y Tryz.prog 140 [S a l c] H fun b d =>∃ e,b = I Z e/\ (X base H d->(¬e = 0->K (T #[Str (ByteArray.mk #[]),I Z e]) [] d)/\ (¬¬e = 0->∃ (g:LI) (h:LM),g [S none 0 0,I Z 0] d/\ ∀ (i:O) (j k:Nat) (m:Int) (n:Heap),X base H n->g [S i j k,I Z m] n->(m < (l:Int)->∃ o p,a = some (D o p none)/\ 0 <= m/\ m < (l:Int)/\ ∃ q r:Int,(C n o (p + N m * 2) = some (I Z q)/\ C n o (p + N m * 2 + 1) = some (I Z r)/\ True)/\ ∀ s:Nat,Y Tryz.prog 223 [I Z q] n fun t u =>∃ v,t = Str v/\ (X base n u->∃ w,RunsTo Tryz.prog (binRun BinOp.add 9 (Operand.tmp 22) (Operand.const (Str (ByteArray.mk #[64]))) (Str v) (Str (ByteArray.mk #[64]))) (Str w)/\ Y Tryz.prog 223 [I Z r] u fun x y =>∃ z,x = Str z/\ (X base u y->∃ a1,RunsTo Tryz.prog (binRun BinOp.add 9 (Operand.tmp 23) (Operand.tmp 26) (Str w) (Str z)) (Str a1)/\ ∀ (b1:Nat) (c1:Heap),X base y c1->y b1 = none->c1 b1 = some (boxKB 9 [Str a1])->∃ d1 e1:List Value,Row base c1 9 1 i j k d1/\ List.length e1 = 1 * 1/\ allOne e1 = true/\ (1 = 0∨∃ f1 g1,some (D b1 0 none) = some (D f1 g1 none)/\ cellsAt c1 f1 g1 0 e1)/\ (j + 1) * 16 <= 140737488355328/\ j + 1 <= 9223372036854775807/\ ∀ (f1:O) (g1:Nat) (h1:Heap),Grew base c1 h1 i k f1 g1 (j + 1)->Row base h1 9 1 f1 (j + 1) g1 (d1 ++ e1)->∀ i1:Int,i1 = W Z (m + 1)->g [S f1 (j + 1) g1,I Z i1] h1/\ h [S f1 (j + 1) g1,I Z i1] < h [S i j k,I Z m])))/\ (¬m < (l:Int)->Y Tryz.prog 299 [S i j k,Str (ByteArray.mk #[44])] n fun o p =>∃ q,o = Str q/\ (X base n p->K (T #[Str q,I Z 0]) [] p))))) := by kernel_rfl
theorem vd11 (s : ByteArray) (base : Nat) (H : Heap) (K : KT) :
 (fV TryzMutsJ Tryz.f228 base H [.v (.string s)] [] K) = (
 (60000 < (↑(ByteArray.size s) : Int)->K (T #[S none 0 0,I Z 2]) [] H)/\ (¬60000 < (↑(ByteArray.size s) : Int)->∃ a,RunsTo Tryz.prog (binRun BinOp.eql 9 (Operand.tmp 18) (Operand.const (Str (ByteArray.mk #[]))) (Str s) (Str (ByteArray.mk #[]))) (B a)/\ (a = true->K (T #[S none 0 0,I Z 0]) [] H)/\ (¬a = true->Y Tryz.prog 208 [Str s,Str (ByteArray.mk #[44])] H fun b c =>∃ d e g,b = S d e g/\ (X base H c->∃ (h:LI) (i:LM),h [S none 0 0,I Z 0,S none 0 0,I Z 0] c/\ ∀ (j:O) (k l:Nat) (m:Int) (n:O) (o p:Nat) (q:Int) (r:Heap),X base H r->h [S j k l,I Z m,S n o p,I Z q] r->(q < (e:Int)->∃ t u,d = some (D t u none)/\ 0 <= q/\ q < (e:Int)/\ ∃ v,C r t (u + N q * 1) = some (Str v)/\ Y Tryz.prog 195 [Str v,Str (ByteArray.mk #[64])] r fun w x =>∃ y z a1,w = T #[Str y,Str z,B a1]/\ (X base r x->Y Tryz.prog 251 [Str y] x fun b1 c1 =>∃ d1 e1,b1 = T #[I Z d1,B e1]/\ (X base x c1->Y Tryz.prog 251 [Str z] c1 fun f1 g1 =>∃ h1 i1,f1 = T #[I Z h1,B i1]/\ (X base c1 g1->∃ j1:Prop,((a1 = false->SubH g1 g1/\ j1)/\ (¬a1 = false->(e1 = false->SubH g1 g1/\ j1)/\ (¬e1 = false->SubH g1 g1/\ (j1↔i1 = false))))/\ (j1->K (T #[S none 0 0,I Z 1]) [] g1)/\ (¬j1->∀ k1:Nat,∃ l1:List Value,Row base g1 91 2 n o p l1/\ (o + 1) * 16 <= 140737488355328/\ o + 1 <= 9223372036854775807/\ ∀ (m1:O) (n1:Nat) (o1:Heap),Grew base g1 o1 n p m1 n1 (o + 1)->Row base o1 91 2 m1 (o + 1) n1 (l1 ++ [I Z d1,I Z h1])->∀ p1:Int,p1 = W Z (q + 1)->h [S j k l,I Z m,S m1 (o + 1) n1,I Z p1] o1/\ i [S j k l,I Z m,S m1 (o + 1) n1,I Z p1] < i [S j k l,I Z m,S n o p,I Z q])))))/\ (¬q < (e:Int)->Y Tryz.prog 140 [S n o p] r fun t u =>∃ v,t = I Z v/\ (X base r u->(¬v = 0->K (T #[S none 0 0,I Z v]) [] u)/\ (¬¬v = 0->K (T #[S n o p,I Z 0]) [] u))))))) := by kernel_rfl
open Go Go.Proofs
theorem vd18 (kd ag tr n id : Int) (gd : Bool) (a : O) (l c : Nat) (base : Nat) (H : Heap) (K : KT) :
 (fV TryzMutsJ Tryz.f265 base H [.v (A #[I Z kd, I Z ag, I Z tr, I Z n, B gd, I Z id, S a l c])] [] K) = (
 (fun w1:LL=>∀ b:Nat,Y Tryz.prog 198 [A #[I Z kd,I Z ag,I Z tr,I Z n,B gd,I Z id,S a l c]] H fun d e =>∃ g,d = I Z g/\ (X base H e->(¬g = 0->K (T #[Str (ByteArray.mk #[]),I Z g]) [] e)/\ (¬¬g = 0->(gd = true->∀ h:Nat,∃ (i:LI) (j:LM),i [I Z 0,A #[P none,S none 0 0]] e/\ ∀ (k:Int) (m:Value) (o:O) (p q:Nat) (r:Heap),X base H r->i [I Z k,A #[m,S o p q]] r->(k < 6->0 <= k/\ k < 6/\ ∃ s,List.get?Internal [I Z kd,I Z ag,I Z tr,I Z n,I Z 1,I Z id] (N k * 1) = some (I Z s)/\ Y Tryz.prog 223 [I Z s] r fun t u =>∃ v,t = Str v/\ (X base r u->∃ w,RunsTo Tryz.prog (binRun BinOp.add 9 (Operand.tmp 35) (Operand.const (Str (ByteArray.mk #[32]))) (Str v) (Str (ByteArray.mk #[32]))) (Str w)/\ YO Tryz.prog 298 [P (some (D h 0 none))] [J h false 311 [m,S o p q]] u fun x y z =>x = T #[]/\ ∃ (a1:Value) (b1:O) (c1 d1:Nat),y = [[a1,S b1 c1 d1]]/\ (X base u z->∃ e1:List Value,Row base z 5 1 b1 c1 d1 e1/\ c1 + ByteArray.size w <= 140737488355328/\ ∀ (f1:O) (g1:Nat) (h1:Heap),Grew base z h1 b1 d1 f1 g1 (c1 + ByteArray.size w)->Row base h1 5 1 f1 (c1 + ByteArray.size w) g1 (e1 ++ u8s (Array.toList (ByteArray.data w)))->∀ i1:Int,i1 = W Z (k + 1)->w1 = w1/\ i [I Z i1,A #[a1,S f1 (c1 + ByteArray.size w) g1]] h1/\ j [I Z i1,A #[a1,S f1 (c1 + ByteArray.size w) g1]] < j [I Z k,A #[m,S o p q]])))/\ (¬k < 6->Y Tryz.prog 284 [S a l c] r fun s t =>∃ u v,s = T #[Str u,I Z v]/\ (X base r t->311 = 311/\ 0 < p/\ ∃ w:List UInt8,Row base t 5 1 o p q (u8s w)/\ ∀ x:Heap,(∀ (y:Nat) (z:KB),t y = some z->o ≠ some (D y 0 none)->x y = some z)->(∀ (y:Nat) (z:KB),x y = some z->t y = some z)->∃ y,RunsTo Tryz.prog (binRun BinOp.add 9 (Operand.tmp 46) (Operand.const (Str (ByteArray.mk #[61]))) (Str (ByteArray.mk (List.toArray w))) (Str (ByteArray.mk #[61]))) (Str y)/\ ∃ z,RunsTo Tryz.prog (binRun BinOp.add 9 (Operand.tmp 47) (Operand.tmp 48) (Str y) (Str u)) (Str z)/\ K (T #[Str z,I Z v]) [] x)))/\ (gd = false->∀ h:Nat,∃ (i:LI) (j:LM),i [I Z 0,A #[P none,S none 0 0]] e/\ ∀ (k:Int) (m:Value) (o:O) (p q:Nat) (r:Heap),X base H r->i [I Z k,A #[m,S o p q]] r->(k < 6->0 <= k/\ k < 6/\ ∃ s,List.get?Internal [I
 Z kd,I Z ag,I Z tr,I Z n,I Z 0,I Z id] (N k * 1) = some (I Z s)/\ Y Tryz.prog 223 [I Z s] r fun t u =>∃ v,t = Str v/\ (X base r u->∃ w,RunsTo Tryz.prog (binRun BinOp.add 9 (Operand.tmp 35) (Operand.const (Str (ByteArray.mk #[32]))) (Str v) (Str (ByteArray.mk #[32]))) (Str w)/\ YO Tryz.prog 298 [P (some (D h 0 none))] [J h false 311 [m,S o p q]] u fun x y z =>x = T #[]/\ ∃ (a1:Value) (b1:O) (c1 d1:Nat),y = [[a1,S b1 c1 d1]]/\ (X base u z->∃ e1:List Value,Row base z 5 1 b1 c1 d1 e1/\ c1 + ByteArray.size w <= 140737488355328/\ ∀ (f1:O) (g1:Nat) (h1:Heap),Grew base z h1 b1 d1 f1 g1 (c1 + ByteArray.size w)->Row base h1 5 1 f1 (c1 + ByteArray.size w) g1 (e1 ++ u8s (Array.toList (ByteArray.data w)))->∀ i1:Int,i1 = W Z (k + 1)->w1 = w1/\ i [I Z i1,A #[a1,S f1 (c1 + ByteArray.size w) g1]] h1/\ j [I Z i1,A #[a1,S f1 (c1 + ByteArray.size w) g1]] < j [I Z k,A #[m,S o p q]])))/\ (¬k < 6->Y Tryz.prog 284 [S a l c] r fun s t =>∃ u v,s = T #[Str u,I Z v]/\ (X base r t->311 = 311/\ 0 < p/\ ∃ w:List UInt8,Row base t 5 1 o p q (u8s w)/\ ∀ x:Heap,(∀ (y:Nat) (z:KB),t y = some z->o ≠ some (D y 0 none)->x y = some z)->(∀ (y:Nat) (z:KB),x y = some z->t y = some z)->∃ y,RunsTo Tryz.prog (binRun BinOp.add 9 (Operand.tmp 46) (Operand.const (Str (ByteArray.mk #[61]))) (Str (ByteArray.mk (List.toArray w))) (Str (ByteArray.mk #[61]))) (Str y)/\ ∃ z,RunsTo Tryz.prog (binRun BinOp.add 9 (Operand.tmp 47) (Operand.tmp 48) (Str y) (Str u)) (Str z)/\ K (T #[Str z,I Z v]) [] x)))))) [[I Z kd,I Z ag,I Z tr,I Z n,B gd,I Z id,S a l c]]) := by kernel_rfl
theorem vd21 (s : ByteArray) (base : Nat) (H : Heap) (K : KT) :
 (fV TryzMutsJ Tryz.f196 base H [.v (.string s)] [] K) = (
 (fun w6:AV=>∀ a:Nat,(60000 < (↑(ByteArray.size s) : Int)->K (T #[A w6,I Z 2]) [] H)/\ (¬60000 < (↑(ByteArray.size s) : Int)->Y Tryz.prog 208 [Str s,Str (ByteArray.mk #[32])] H fun b c =>∃ d e g,b = S d e g/\ (X base H c->(¬(e:Int) = 7->K (T #[A w6,I Z 1]) [] c)/\ (¬¬(e:Int) = 7->∀ h:Nat,List.length [I Z 0,I Z 0,I Z 0,I Z 0,I Z 0,I Z 0] = 6/\ ∃ (i:LI) (j:LM),i [I Z 0,I Z 0,A w6,A #[I Z 0,I Z 0,I Z 0,I Z 0,I Z 0,I Z 0]] c/\ ∀ (k l m n o p:Int) (q:Bool) (r:Int) (t:O) (u v:Nat) (w:List Value),(fun w5:LV=>(fun w4:LB=>List.length w = 6->∀ x,X base H x->i w5 x->(l < 6->∃ y z,d = some (D y z none)/\ 0 <= l/\ l < (e:Int)/\ ∃ a1,C x y (z + N l * 1) = some (Str a1)/\ Y Tryz.prog 226 [Str a1] x fun b1 c1 =>∃ d1,b1 = T #[I Z d1,Value.nilIface]/\ (X base x c1->∃ e1,RunsTo Tryz.prog (binRun BinOp.neq 263 (Operand.tmp 36) (Operand.const Value.nilIface) Value.nilIface Value.nilIface) (B e1)/\ (e1 = true->K (T #[A w6,I Z 1]) [] c1)/\ (¬e1 = true->∃ f1 g1,d = some (D f1 g1 none)/\ 0 <= l/\ l < (e:Int)/\ ∃ h1,C c1 f1 (g1 + N l * 1) = some (Str h1)/\ Y Tryz.prog 223 [I Z d1] c1 fun i1 j1 =>∃ k1,i1 = Str k1/\ (X base c1 j1->∃ l1,RunsTo Tryz.prog (binRun BinOp.neq 9 (Operand.tmp 40) (Operand.tmp 44) (Str k1) (Str h1)) (B l1)/\ (l1 = true->K (T #[A w6,I Z 1]) [] j1)/\ (¬l1 = true->0 <= l/\ l < 6/\ 0 + N l * 1 + 1 <= List.length w/\ ∀ m1:Int,(fun w1:LV=>m1 = W Z (l + 1)->List.length (List.set w (0 + N l * 1) (I Z d1)) = 6/\ i w1 j1/\ j w1 < j w5) [I Z k,I Z m1,A #[I Z m,I Z n,I Z o,I Z p,B q,I Z r,S t u v],A (List.toArray (List.set w (0 + N l * 1) (I Z d1)))]))))∨∃ (e1:TypeId) (f1:Value),b1 = T #[I Z d1,Value.iface e1 f1]/\ (X base x c1->∃ g1,RunsTo Tryz.prog (binRun BinOp.neq 263 (Operand.tmp 36) (Operand.const Value.nilIface) (Value.iface e1 f1) Value.nilIface) (B g1)/\ (g1 = true->K (T #[A w6,I Z 1]) [] c1)/\ (¬g1 = true->∃ h1 i1,d = some (D h1 i1 none)/\ 0 <= l/\ l < (e:Int)/\ ∃ j1,C c1 h1 (i1 + N l * 1) = some (Str j1)/\ Y Tryz.prog 223 [I Z d1] c1 fun k1 l1 =>∃ m1,k1 = Str m1/\ (X base c1 l1->∃ n1,RunsTo Tryz.prog (binRun BinOp.neq 9 (Operand.tmp 40) (Operand.tmp 44) (Str m1)
 (Str j1)) (B n1)/\ (n1 = true->K (T #[A w6,I Z 1]) [] l1)/\ (¬n1 = true->0 <= l/\ l < 6/\ 0 + N l * 1 + 1 <= List.length w/\ ∀ o1:Int,(fun w2:LV=>o1 = W Z (l + 1)->List.length (List.set w (0 + N l * 1) (I Z d1)) = 6/\ i w2 l1/\ j w2 < j w5) [I Z k,I Z o1,A #[I Z m,I Z n,I Z o,I Z p,B q,I Z r,S t u v],A (List.toArray (List.set w (0 + N l * 1) (I Z d1)))])))))/\ (¬l < 6->∃ y z,d = some (D y z none)/\ Int.ofNat 0 <= 6/\ 6 < (e:Int)/\ ∃ a1,C x y (z + 6 * 1) = some (Str a1)/\ Y Tryz.prog 227 [Str a1,Str (ByteArray.mk #[61])] x fun b1 c1 =>∃ d1 e1,b1 = T #[Str d1,B e1]/\ (X base x c1->∃ f1:Prop,((e1 = false->w4 = w4/\ SubH c1 c1/\ f1)/\ (¬e1 = false->∃ g1,List.get?Internal w (0 + 4 * 1) = some (I Z g1)/\ (g1 < 0->w4 = w4/\ SubH c1 c1/\ f1)/\ (¬g1 < 0->∃ h1,List.get?Internal w (0 + 4 * 1) = some (I Z h1)/\ w4 = w4/\ SubH c1 c1/\ (f1↔1 < h1))))/\ (f1->K (T #[A w6,I Z 1]) [] c1)/\ (¬f1->Y Tryz.prog 228 [Str d1] c1 fun g1 h1 =>∃ i1 j1 k1 l1,g1 = T #[S i1 j1 k1,I Z l1]/\ (X base c1 h1->(¬l1 = 0->K (T #[A w6,I Z l1]) [] h1)/\ (¬¬l1 = 0->∃ m1,List.get?Internal w (0 + 0 * 1) = some (I Z m1)/\ ∃ n1,List.get?Internal w (0 + 1 * 1) = some (I Z n1)/\ ∃ o1,List.get?Internal w (0 + 2 * 1) = some (I Z o1)/\ ∃ p1,List.get?Internal w (0 + 3 * 1) = some (I Z p1)/\ ∃ q1,List.get?Internal w (0 + 4 * 1) = some (I Z q1)/\ ∃ r1,(fun w3:AV=>List.get?Internal w (0 + 5 * 1) = some (I Z r1)/\ ∀ s1:Nat,Y Tryz.prog 198 [A w3] h1 fun t1 u1 =>∃ v1,t1 = I Z v1/\ (X base h1 u1->(¬v1 = 0->K (T #[A w6,I Z v1]) [] u1)/\ (¬¬v1 = 0->K (T #[A w3,I Z 0]) [] u1))) #[I Z m1,I Z n1,I Z o1,I Z p1,B (decide (q1 = 1)),I Z r1,S i1 j1 k1])))))) [J a false 126 [I Z m,I Z n,I Z o,I Z p,B q,I Z r,S t u v],J h false 261 w]) [I Z k,I Z l,A #[I Z m,I Z n,I Z o,I Z p,B q,I Z r,S t u v],A (List.toArray w)])))) #[I Z 0,I Z 0,I Z 0,I Z 0,B false,I Z 0,S none 0 0]) := by kernel_rfl
open Go Go.Proofs
open Go Go.Proofs
theorem vd61 (a : O) (l c : Nat) (base : Nat) (H : Heap) (K : KT) :
 (fV TryzMutsJ Tryz.f169 base H [.v (S a l c)] [] K) = (
 ∃ b,RunsTo Tryz.prog (binRun BinOp.eql 33 (Operand.tmp 3) (Operand.const (S none 0 0)) (S a l c) (S none 0 0)) (B b)/\ (b = true->K (S none 0 0) [] H)/\ (¬b = true->∀ (d:Nat) (e:Heap),X base H e->H d = none->e d = some (boxKB 5 [])->∃ g h:List Value,Row base e 5 1 (some (D d 0 none)) 0 0 g/\ List.length h = l * 1/\ allOne h = true/\ (l = 0∨∃ i j,a = some (D i j none)/\ cellsAt e i j 0 h)/\ (0 + l) * 1 <= 140737488355328/\ 0 + l <= 9223372036854775807/\ ∀ (i:O) (j:Nat) (k:Heap),Grew base e k (some (D d 0 none)) 0 i j (0 + l)->Row base k 5 1 i (0 + l) j (g ++ h)->K (S i (0 + l) j) [] k)) := by kernel_rfl
theorem vd62 (a : O) (l c : Nat) (base : Nat) (H : Heap) (K : KT) :
 (fV TryzMutsJ Tryz.f80 base H [.v (S a l c)] [] K) = (
 ∃ (b:LI) (d:LM),b [I Z 0,I Z 0] H/\ ∀ (e g:Int) (h:Heap),X base H h->b [I Z e,I Z g] h->(g < (l:Int)->∃ i j,a = some (D i j none)/\ 0 <= g/\ g < (l:Int)/\ ∃ k m n,C h i (j + N g * 1) = some (S k m n)/\ ∀ o:Int,o = W Z (e + (m:Int))->(o < 0->False)/\ (¬o < 0->∀ p:Int,p = W Z (g + 1)->b [I Z o,I Z p] h/\ d [I Z o,I Z p] < d [I Z e,I Z g]))/\ (¬g < (l:Int)->Y Tryz.prog 152 [S none 0 0,I Z e] h fun i j =>∃ k m n,i = S k m n/\ (X base h j->∃ (o:LI) (p:LM),o [S k m n,I Z 0] j/\ ∀ (q:O) (r s:Nat) (t:Int) (u:Heap),X base H u->o [S q r s,I Z t] u->(t < (l:Int)->∃ v w,a = some (D v w none)/\ 0 <= t/\ t < (l:Int)/\ ∃ x y z,C u v (w + N t * 1) = some (S x y z)/\ ∃ a1 b1:List Value,Row base u 5 1 q r s a1/\ List.length b1 = y * 1/\ allOne b1 = true/\ (y = 0∨∃ c1 d1,x = some (D c1 d1 none)/\ cellsAt u c1 d1 0 b1)/\ (r + y) * 1 <= 140737488355328/\ r + y <= 9223372036854775807/\ ∀ (c1:O) (d1:Nat) (e1:Heap),Grew base u e1 q s c1 d1 (r + y)->Row base e1 5 1 c1 (r + y) d1 (a1 ++ b1)->∀ f1:Int,f1 = W Z (t + 1)->o [S c1 (r + y) d1,I Z f1] e1/\ p [S c1 (r + y) d1,I Z f1] < p [S q r s,I Z t])/\ (¬t < (l:Int)->K (S q r s) [] u)))) := by kernel_rfl
theorem vd63 (s : ByteArray) (most : Int) (base : Nat) (H : Heap) (K : KT) :
 (fV TryzMutsJ Tryz.f143 base H [.v (.string s), .v (I Z most)] [] K) = (
 ∃ (a:LI) (b:LM),a [Str s,S none 0 0,I Z 0,I Z 0,S none 0 0] H/\ ∀ (c:ByteArray) (d:O) (e g:Nat) (h i:Int) (j:O) (k l:Nat) (m:Heap),X base H m->a [Str c,S d e g,I Z h,I Z i,S j k l] m->∃ n,RunsTo Tryz.prog (binRun BinOp.neq 9 (Operand.tmp 16) (Operand.const (Str (ByteArray.mk #[]))) (Str c) (Str (ByteArray.mk #[]))) (B n)/\ (n = true->Y Tryz.prog 195 [Str c,Str (ByteArray.mk #[10])] m fun o p =>∃ q r t,o = T #[Str q,Str r,B t]/\ (X base m p->(t = false->∀ u:Int,u = W Z ((↑(ByteArray.size s) : Int) - (↑(ByteArray.size c) : Int))->K (T #[S j k l,I Z u,I Z 9]) [] p)/\ (¬t = false->Y Tryz.prog 196 [Str q] p fun u v =>∃ w x y z a1 b1 c1 d1 e1 f1,u = T #[A #[I Z w,I Z x,I Z y,I Z z,B a1,I Z b1,S c1 d1 e1],I Z f1]/\ (X base p v->∀ g1:Nat,(¬f1 = 0->∀ h1:Int,h1 = W Z ((↑(ByteArray.size s) : Int) - (↑(ByteArray.size c) : Int))->K (T #[S j k l,I Z h1,I Z f1]) [] v)/\ (¬¬f1 = 0->((k:Int) = most->∀ h1:Int,h1 = W Z ((↑(ByteArray.size s) : Int) - (↑(ByteArray.size c) : Int))->K (T #[S j k l,I Z h1,I Z 2]) [] v)/\ (¬(k:Int) = most->∀ h1:Nat,∃ i1:List Value,Row base v 126 7 j k l i1/\ (k + 1) * 72 <= 140737488355328/\ k + 1 <= 9223372036854775807/\ ∀ (j1:O) (k1:Nat) (l1:Heap),Grew base v l1 j l j1 k1 (k + 1)->Row base l1 126 7 j1 (k + 1) k1 (i1 ++ [I Z w,I Z x,I Z y,I Z z,B a1,I Z b1,S c1 d1 e1])->a [Str r,S d e g,I Z h,I Z i,S j1 (k + 1) k1] l1/\ b [Str r,S d e g,I Z h,I Z i,S j1 (k + 1) k1] < b [Str c,S d e g,I Z h,I Z i,S j k l]))))))/\ (¬n = true->K (T #[S j k l,I Z (↑(ByteArray.size s) : Int),I Z 0]) [] m)) := by kernel_rfl
theorem vd65 (a a' : O) (l c l' c' : Nat) (base : Nat) (H : Heap) (K : KT) :
 (fV TryzMutsJ Tryz.f129 base H [.v (S a l c), .v (S a' l' c')] [] K) = (
 (¬(l:Int) = (l':Int)->K (B false) [] H)/\ (¬¬(l:Int) = (l':Int)->∃ (b:LI) (d:LM),b [B false,I Z 0] H/\ ∀ (e:Bool) (g:Int) (h:Heap),X base H h->b [B e,I Z g] h->(g < (l:Int)->∃ i j,a = some (D i j none)/\ 0 <= g/\ g < (l:Int)/\ ∃ k:Int,C h i (j + N g * 1) = some (I IntKind.u8 k)/\ ∃ m n,a' = some (D m n none)/\ 0 <= g/\ g < (l':Int)/\ ∃ o:Int,C h m (n + N g * 1) = some (I IntKind.u8 o)/\ (¬k = o->K (B false) [] h)/\ (¬¬k = o->∀ p:Int,p = W Z (g + 1)->b [B e,I Z p] h/\ d [B e,I Z p] < d [B e,I Z g]))/\ (¬g < (l:Int)->K (B true) [] h))) := by kernel_rfl
theorem vd60 (a a' : O) (l c l' c' : Nat) (base : Nat) (H : Heap) (K : KT) :
 (fV TryzMutsJ Tryz.f142 base H [.v (A #[S a l c, S a' l' c'])] [] K) = (
 ∀ b:Nat,(fun w1:LB=>∃ d:Prop,((60000 < (l:Int)->w1 = w1/\ SubH H H/\ d)/\ (¬60000 < (l:Int)->∀ e:Int,e = W Z (60000 - (l:Int))->w1 = w1/\ SubH H H/\ (d↔e < (l':Int))))/\ (d->K (I Z 2) [] H)/\ (¬d->∃ e:List UInt8,List.length e = l/\ (l = 0∨∃ g h,a = some (D g h none)/\ cellsAt H g h 0 (u8s e))/\ Y Tryz.prog 143 [Str (ByteArray.mk (List.toArray e)),I Z 200] H fun g h =>∃ i j k m n,g = T #[S i j k,I Z m,I Z n]/\ (X base H h->K (I Z n) [] h))) [J b false 35 [S a l c,S a' l' c']]) := by kernel_rfl
theorem vd32 (a a' : O) (l c l' c' : Nat) (kd ag tr n id : Int) (gd : Bool) (ra : O) (rl rc : Nat) (base : Nat) (H : Heap) (K : KT) :
 (fV TryzMutsJ Tryz.f243 base H [.v (A #[S a l c, S a' l' c']), .v (A #[I Z kd, I Z ag, I Z tr, I Z n, B gd, I Z id, S ra rl rc])] [] K) = (
 ∀ b d e:Nat,Y Tryz.prog 142 [A #[S a l c,S a' l' c']] H fun g h =>∃ i,g = I Z i/\ (X base H h->(¬i = 0->K (T #[A #[S none 0 0,S none 0 0],I Z i]) [] h)/\ (¬¬i = 0->Y Tryz.prog 265 [A #[I Z kd,I Z ag,I Z tr,I Z n,B gd,I Z id,S ra rl rc]] h fun j k =>∃ m o,j = T #[Str m,I Z o]/\ (X base h k->(¬o = 0->K (T #[A #[S none 0 0,S none 0 0],I Z o]) [] k)/\ (¬¬o = 0->∀ p:Int,p = W Z ((↑(ByteArray.size m) : Int) + 1)->∀ q:Int,q = W Z (60000 - (l:Int))->∀ r:Int,r = W Z (q - (l':Int))->(r < p->K (T #[A #[S none 0 0,S none 0 0],I Z 2]) [] k)/\ (¬r < p->(Y Tryz.prog 169 [S a l c] k fun s t =>∃ u v w,s = S u v w/\ (X base k t->(Y Tryz.prog 169 [S a' l' c'] t fun x y =>∃ z a1 b1,x = S z a1 b1/\ (X base t y->(∃ c1:List Value,Row base y 5 1 z a1 b1 c1/\ a1 + ByteArray.size m <= 140737488355328/\ ∀ (d1:O) (e1:Nat) (f1:Heap),Grew base y f1 z b1 d1 e1 (a1 + ByteArray.size m)->Row base f1 5 1 d1 (a1 + ByteArray.size m) e1 (c1 ++ u8s (Array.toList (ByteArray.data m)))->∀ (g1:Nat) (h1:Heap),X base f1 h1->f1 g1 = none->h1 g1 = some (boxKB 5 [I IntKind.u8 10])->∃ i1 j1:List Value,Row base h1 5 1 d1 (a1 + ByteArray.size m) e1 i1/\ List.length j1 = 1 * 1/\ allOne j1 = true/\ (1 = 0∨∃ k1 l1,some (D g1 0 none) = some (D k1 l1 none)/\ cellsAt h1 k1 l1 0 j1)/\ (a1 + ByteArray.size m + 1) * 1 <= 140737488355328/\ a1 + ByteArray.size m + 1 <= 9223372036854775807/\ ∀ (k1:O) (l1:Nat) (m1:Heap),Grew base h1 m1 d1 e1 k1 l1 (a1 + ByteArray.size m + 1)->Row base m1 5 1 k1 (a1 + ByteArray.size m + 1) l1 (i1 ++ j1)->K (T #[A #[S u v w,S k1 (a1 + ByteArray.size m + 1) l1],I Z 0]) [] m1)/\ ∀ (c1:Nat) (d1:Heap),X base y d1->y c1 = none->d1 c1 = some (boxKB 5 [I IntKind.u8 10])->∃ e1:List Value,Row base d1 5 1 z a1 b1 e1/\ a1 + ByteArray.size m <= 140737488355328/\ ∀ (f1:O) (g1:Nat) (h1:Heap),Grew base d1 h1 z b1 f1 g1 (a1 + ByteArray.size m)->Row base h1 5 1 f1 (a1 + ByteArray.size m) g1 (e1 ++ u8s (Array.toList (ByteArray.data m)))->∃ i1 j1:List Value,Row base h1 5 1 f1 (a1 + ByteArray.size m) g1 i1/\ List.length j1 = 1 * 1/\ allOne j1 = true/\ (1 = 0∨∃ k1 l1,some (D c1 0 none) = some
 (D k1 l1 none)/\ cellsAt h1 k1 l1 0 j1)/\ (a1 + ByteArray.size m + 1) * 1 <= 140737488355328/\ a1 + ByteArray.size m + 1 <= 9223372036854775807/\ ∀ (k1:O) (l1:Nat) (m1:Heap),Grew base h1 m1 f1 g1 k1 l1 (a1 + ByteArray.size m + 1)->Row base m1 5 1 k1 (a1 + ByteArray.size m + 1) l1 (i1 ++ j1)->K (T #[A #[S u v w,S k1 (a1 + ByteArray.size m + 1) l1],I Z 0]) [] m1))/\ ∀ (x:Nat) (y:Heap),X base t y->t x = none->y x = some (boxKB 5 [I IntKind.u8 10])->Y Tryz.prog 169 [S a' l' c'] y fun z a1 =>∃ b1 c1 d1,z = S b1 c1 d1/\ (X base y a1->∃ e1:List Value,Row base a1 5 1 b1 c1 d1 e1/\ c1 + ByteArray.size m <= 140737488355328/\ ∀ (f1:O) (g1:Nat) (h1:Heap),Grew base a1 h1 b1 d1 f1 g1 (c1 + ByteArray.size m)->Row base h1 5 1 f1 (c1 + ByteArray.size m) g1 (e1 ++ u8s (Array.toList (ByteArray.data m)))->∃ i1 j1:List Value,Row base h1 5 1 f1 (c1 + ByteArray.size m) g1 i1/\ List.length j1 = 1 * 1/\ allOne j1 = true/\ (1 = 0∨∃ k1 l1,some (D x 0 none) = some (D k1 l1 none)/\ cellsAt h1 k1 l1 0 j1)/\ (c1 + ByteArray.size m + 1) * 1 <= 140737488355328/\ c1 + ByteArray.size m + 1 <= 9223372036854775807/\ ∀ (k1:O) (l1:Nat) (m1:Heap),Grew base h1 m1 f1 g1 k1 l1 (c1 + ByteArray.size m + 1)->Row base m1 5 1 k1 (c1 + ByteArray.size m + 1) l1 (i1 ++ j1)->K (T #[A #[S u v w,S k1 (c1 + ByteArray.size m + 1) l1],I Z 0]) [] m1)))/\ ∀ (s:Nat) (t:Heap),X base k t->k s = none->t s = some (boxKB 5 [I IntKind.u8 10])->Y Tryz.prog 169 [S a l c] t fun u v =>∃ w x y,u = S w x y/\ (X base t v->Y Tryz.prog 169 [S a' l' c'] v fun z a1 =>∃ b1 c1 d1,z = S b1 c1 d1/\ (X base v a1->∃ e1:List Value,Row base a1 5 1 b1 c1 d1 e1/\ c1 + ByteArray.size m <= 140737488355328/\ ∀ (f1:O) (g1:Nat) (h1:Heap),Grew base a1 h1 b1 d1 f1 g1 (c1 + ByteArray.size m)->Row base h1 5 1 f1 (c1 + ByteArray.size m) g1 (e1 ++ u8s (Array.toList (ByteArray.data m)))->∃ i1 j1:List Value,Row base h1 5 1 f1 (c1 + ByteArray.size m) g1 i1/\ List.length j1 = 1 * 1/\ allOne j1 = true/\ (1 = 0∨∃ k1 l1,some (D s 0 none) = some (D k1 l1 none)/\ cellsAt h1 k1 l1 0 j1)/\ (c1 + ByteArray.size m + 1) * 1 <= 140737488355328/\ c1 +
 ByteArray.size m + 1 <= 9223372036854775807/\ ∀ (k1:O) (l1:Nat) (m1:Heap),Grew base h1 m1 f1 g1 k1 l1 (c1 + ByteArray.size m + 1)->Row base m1 5 1 k1 (c1 + ByteArray.size m + 1) l1 (i1 ++ j1)->K (T #[A #[S w x y,S k1 (c1 + ByteArray.size m + 1) l1],I Z 0]) [] m1)))))))) := by kernel_rfl
theorem vd33 (a a' : O) (l c l' c' : Nat) (base : Nat) (H : Heap) (K : KT) :
 (fV TryzMutsJ Tryz.f244 base H [.v (A #[S a l c, S a' l' c'])] [] K) = (
 ∀ b d:Nat,Y Tryz.prog 142 [A #[S a l c,S a' l' c']] H fun e g =>∃ h,e = I Z h/\ (X base H g->(¬h = 0->K (T #[A #[S none 0 0,S none 0 0],I Z h]) [] g)/\ (¬¬h = 0->∀ (i:Nat) (j:Heap),X base g j->g i = none->j i = some (boxKB 33 [S a l c,S a' l' c'])->Y Tryz.prog 80 [S (some (D i 0 none)) 2 2] j fun k m =>∃ n o p,k = S n o p/\ (X base j m->∀ q:Nat,Y Tryz.prog 142 [A #[S n o p,S none 0 0]] m fun r s =>∃ t,r = I Z t/\ (X base m s->(¬t = 0->K (T #[A #[S none 0 0,S none 0 0],I Z t]) [] s)/\ (¬¬t = 0->K (T #[A #[S n o p,S none 0 0],I Z 0]) [] s)))))) := by kernel_rfl
theorem vd36 (a a' : O) (l c l' c' : Nat) (base : Nat) (H : Heap) (K : KT) :
 (fV TryzMutsJ Tryz.f64 base H [.v (A #[S a l c, S a' l' c'])] [] K) = (
 ∀ b d:Nat,Y Tryz.prog 142 [A #[S a l c,S a' l' c']] H fun e g =>∃ h,e = I Z h/\ (X base H g->(¬h = 0->K (T #[A #[S none 0 0,S none 0 0],S none 0 0,I Z h]) [] g)/\ (¬¬h = 0->∃ i:List UInt8,List.length i = l/\ (l = 0∨∃ j k,a = some (D j k none)/\ cellsAt g j k 0 (u8s i))/\ Y Tryz.prog 143 [Str (ByteArray.mk (List.toArray i)),I Z 200] g fun j k =>∃ m n o p q,j = T #[S m n o,I Z p,I Z q]/\ (X base g k->∃ r:List UInt8,List.length r = l'/\ (l' = 0∨∃ s t,a' = some (D s t none)/\ cellsAt k s t 0 (u8s r))/\ ∀ s:Int,s = W Z (200 - (n:Int))->Y Tryz.prog 143 [Str (ByteArray.mk (List.toArray r)),I Z s] k fun t u =>∃ v w x y z,t = T #[S v w x,I Z y,I Z z]/\ (X base k u->0 <= y/\ y <= (c':Int)/\ ∀ (a1:Nat) (b1:Heap),X base u b1->u a1 = none->b1 a1 = some (boxKB 33 [S a l c,S a' (N y) c'])->Y Tryz.prog 80 [S (some (D a1 0 none)) 2 2] b1 fun c1 d1 =>∃ e1 f1 g1,c1 = S e1 f1 g1/\ (X base b1 d1->∃ h1 i1:List Value,Row base d1 126 7 m n o h1/\ List.length i1 = w * 7/\ allOne i1 = true/\ (w = 0∨∃ j1 k1,v = some (D j1 k1 none)/\ cellsAt d1 j1 k1 0 i1)/\ (n + w) * 72 <= 140737488355328/\ n + w <= 9223372036854775807/\ ∀ (j1:O) (k1:Nat) (l1:Heap),Grew base d1 l1 m o j1 k1 (n + w)->Row base l1 126 7 j1 (n + w) k1 (h1 ++ i1)->K (T #[A #[S e1 f1 g1,S none 0 0],S j1 (n + w) k1,I Z 0]) [] l1)))))) := by kernel_rfl
theorem vd39 (a a' b b' : O) (l c l' c' m d m' d' : Nat) (base : Nat) (H : Heap) (K : KT) :
 (fV TryzMutsJ Tryz.f37 base H [.v (A #[S a l c, S a' l' c']), .v (A #[S b m d, S b' m' d'])] [] K) = (
 ∀ e g:Nat,(fun w1:LB=>∃ h:Prop,(Y Tryz.prog 129 [S a l c,S b m d] H fun i j =>∃ k,i = B k/\ (X base H j->(k = true->Y Tryz.prog 129 [S a' l' c',S b' m' d'] j fun n o =>∃ p,n = B p/\ (X base j o->w1 = w1/\ SubH H o/\ (h↔p = true)))/\ (k = false->w1 = w1/\ SubH H j/\ ¬h)))/\ K (B (@decide h (Classical.propDecidable h))) [] H) [J e false 35 [S a l c,S a' l' c'],J g false 35 [S b m d,S b' m' d']]) := by kernel_rfl
theorem vd79 (a : O) (l c : Nat) (k : Int) (base : Nat) (H : Heap) (K : KT) :
 (fV TryzMutsJ Tryz.f152 base H [.v (S a l c), .v (I Z k)] [] K) = (
 (k < 0->False)/\ (¬k < 0->∀ b:Int,b = W Z ((c:Int) - (l:Int))->∀ d:Int,d = W Z (k - b)->(0 < d->0 <= (c:Int)/\ (c:Int) <= (c:Int)/\ ∃ (e:List Value) (g:Nat),d = (g:Int)/\ 0 < g/\ c < N (c:Int) + g/\ Row base H 5 1 a (N (c:Int)) c e/\ (N (c:Int) + g) * 1 <= 140737488355328/\ N (c:Int) + g <= 9223372036854775807/\ ∀ (h i:Nat) (j:Heap),X base H j->H h = none->Row base j 5 1 (some (D h 0 none)) (N (c:Int) + g) i (e ++ List.flatten (List.replicate g [I IntKind.u8 0]))->0 <= (l:Int)/\ (l:Int) <= (i:Int)/\ K (S (some (D h 0 none)) (N (l:Int)) i) [] j)/\ (¬0 < d->K (S a l c) [] H))) := by kernel_rfl
open Go Go.Proofs
open Go
structure Step where
 kind : Int
 name : Int
 ver : Int
 deriving DecidableEq
def dropOf (b : List Pin) (p : Pin) : Option Step := if find b p.name = 0 then some ⟨2, p.name, 0⟩ else none
def addOf (a : List Pin) (p : Pin) : Option Step := if find a p.name = p.ver then none else if find a p.name = 0 then some ⟨1, p.name, p.ver⟩ else some ⟨3, p.name, p.ver⟩
def drops (a b : List Pin) : List Step := a.filterMap (dropOf b)
def adds (a b : List Pin) : List Step := b.filterMap (addOf a)
def diffs (a b : List Pin) : List Step := drops a b ++ adds a b
def diffErr (a b : List Pin) : Int := if lockCheck a = 0 then lockCheck b else lockCheck a
def del (n : Int) (l : List Pin) : List Pin := l.filter fun p => p.name ≠ n
def applied (l : List Pin) (o : Step) : List Pin := if o.kind = 2 then del o.name l else up o.name o.ver l
def badStep (o : Step) : Prop := o.name < 1 ∨ 20 < o.name ∨ (o.kind ≠ 2/\ (o.ver < 1 ∨ 99 < o.ver)) ∨ (o.kind = 2/\ o.ver ≠ 0)
instance (o : Step) : Decidable (badStep o) := by unfold badStep; infer_instance
def applyErr (l : List Pin) (o : Step) : Int :=
 if lockCheck l ≠ 0 then lockCheck l else
 if o.kind < 1 ∨ 3 < o.kind then 4 else
 if badStep o then 3 else
 if o.kind = 1/\ find l o.name ≠ 0 then 6 else
 if o.kind ≠ 1/\ find l o.name = 0 then 5 else
 if o.kind = 1/\ l.length = 12 then 2 else 0
theorem find_del {l : List Pin} (n m : Int) : find (del n l) m = if m = n then 0 else find l m := by
 induction l with
 | nil => simp [del, find]
 | cons p r ih =>
  unfold del at ih ⊢
  rw [List.filter_cons]
  by_cases h : p.name = n
  ·rw [if_neg (by simp [h]), ih]
   by_cases e : m = n
   ·rw [if_pos e, if_pos e]
   ·rw [if_neg e, if_neg e, find, if_neg (by omega)]
  ·rw [if_pos (by simp [h]), find, ih, find]
   by_cases e : p.name = m
   ·rw [if_pos e, if_pos e, if_neg (by omega)]
   ·rw [if_neg e, if_neg e]
theorem Lk.del {l : List Pin} (h : Lk l) (n : Int) : Lk (del n l) :=
 ⟨fun p hp => h.good p (List.mem_filter.1 hp).1, h.rise.sublist List.filter_sublist⟩
theorem applied_find {l : List Pin} (h : Lk l) (o : Step) (m : Int) (hk : o.kind = 2->o.ver = 0) : find (applied l o) m = if m = o.name then o.ver else find l m := by
 unfold applied
 split
 ·rename_i e; rw [find_del, hk e]
 ·rw [find_up m h]
theorem names_len : ∀ {l m : List Pin}, Lk l->Lk m->(∀ p ∈ l, find m p.name ≠ 0)->l.length <= m.length := by
 intro l m hl hm h
 have hlk : ∀ {x : List Pin}, Lk x->Lk (x.map fun p => ⟨p.name, 1⟩) := fun hx => ⟨fun p hp => by
  obtain ⟨q, hq, rfl⟩ := List.mem_map.1 hp
  have := hx.name hq
  unfold badPin; simp; omega, by
  rw [List.pairwise_map]; exact hx.rise⟩
 have hf : ∀ (x : List Pin) (n : Int), Lk x->find (x.map fun p => ⟨p.name, 1⟩) n = if find x n = 0 then 0 else 1 := by
  intro x n hx
  induction x with
  | nil => rfl
  | cons p r ih =>
   rw [List.map_cons, find, find]
   by_cases e : p.name = n
   ·have := hx.name (p := p) List.mem_cons_self
    rw [if_pos e, if_pos e, if_neg (by omega)]
   ·rw [if_neg e, if_neg e, ih hx.tail]
 have := LeL.len (hlk hl) (hlk hm) fun n => by
  rw [hf l n hl, hf m n hm]
  by_cases e : find l n = 0
  ·rw [if_pos e]; split <;> omega
  ·obtain ⟨p, h1, h2, _⟩ := find_pos e
   have := h p h1
   rw [h2] at this
   rw [if_neg e, if_neg this]
   exact Int.le_refl _
 simpa using this
theorem filterMap_congr' {f g : Pin->Option Step} : ∀ {l : List Pin}, (∀ x ∈ l, g x = f x)->l.filterMap g = l.filterMap f
 | [], _ => rfl
 | x :: r, h => by
  have ih := filterMap_congr' (l := r) fun y hy => h y (List.mem_cons_of_mem _ hy)
  have hx := h x List.mem_cons_self
  cases hf : f x with
  | none => rw [List.filterMap_cons_none hf, List.filterMap_cons_none (hx.trans hf), ih]
  | some s => rw [List.filterMap_cons_some hf, List.filterMap_cons_some (hx.trans hf), ih]
theorem first_gone {f g : Pin->Option Step} {n : Int} (hn : ∀ q s, f q = some s->s.name = q.name) : ∀ {l : List Pin}, l.Pairwise (fun p q => p.name < q.name)->(∀ q ∈ l, q.name ≠ n->g q = f q)->(∀ q ∈ l, q.name = n->g q = none)->
  ∀ {o : Step} {rest : List Step}, l.filterMap f = o :: rest->o.name = n->l.filterMap g = rest
 | [], _, _, _, o, rest, h, _ => by cases h
 | q :: r, hp, h1, h2, o, rest, h, ho => by
  obtain ⟨hq, hr⟩ := List.pairwise_cons.1 hp
  cases hf : f q with
  | none =>
   rw [List.filterMap_cons_none hf] at h
   have hg : g q = none := by
    by_cases e : q.name = n
    ·exact h2 q List.mem_cons_self e
    ·rw [h1 q List.mem_cons_self e, hf]
   rw [List.filterMap_cons_none hg]
   exact first_gone hn hr (fun x hx => h1 x (List.mem_cons_of_mem _ hx)) (fun x hx => h2 x (List.mem_cons_of_mem _ hx)) h ho
  | some s =>
   rw [List.filterMap_cons_some hf] at h
   obtain ⟨rfl, rfl⟩ : s = o/\ r.filterMap f = rest := by simpa using h
   have e := hn q s hf
   rw [List.filterMap_cons_none (h2 q List.mem_cons_self (by omega))]
   exact filterMap_congr' fun x hx => h1 x (List.mem_cons_of_mem _ hx) (by have := hq x hx; omega)
theorem dropOf_name {b : List Pin} (q : Pin) (s : Step) (h : dropOf b q = some s) : s.name = q.name/\ s.kind = 2/\ s.ver = 0/\ find b q.name = 0 := by
 unfold dropOf at h
 split at h
 ·cases h; rename_i e; exact ⟨rfl, rfl, rfl, e⟩
 ·cases h
theorem addOf_name {a : List Pin} (q : Pin) (s : Step) (h : addOf a q = some s) : s.name = q.name/\ s.ver = q.ver/\ find a q.name ≠ q.ver/\ (s.kind = 1/\ find a q.name = 0 ∨ s.kind = 3/\ find a q.name ≠ 0) := by
 unfold addOf at h
 split at h
 ·cases h
 ·rename_i e
  split at h
  ·cases h; rename_i e2; exact ⟨rfl, rfl, e, .inl ⟨rfl, e2⟩⟩
  ·cases h; rename_i e2; exact ⟨rfl, rfl, e, .inr ⟨rfl, e2⟩⟩
theorem drops_nil {a b : List Pin} (h : drops a b = []) : ∀ p ∈ a, find b p.name ≠ 0 := fun p hp e => by
 have := List.filterMap_eq_nil_iff.1 h p hp
 unfold dropOf at this
 rw [if_pos e] at this; cases this
structure StepOk (a b : List Pin) (o : Step) : Prop where
 name : 1 <= o.name/\ o.name <= 20
 ver : o.ver = find b o.name
 differs : find a o.name ≠ find b o.name
 kind : (o.kind = 2/\ find b o.name = 0/\ find a o.name ≠ 0) ∨ (o.kind = 1/\ find a o.name = 0/\ find b o.name ≠ 0) ∨ (o.kind = 3/\ find a o.name ≠ 0/\ find b o.name ≠ 0)
theorem diffs_mem {a b : List Pin} (ha : Lk a) (hb : Lk b) {o : Step} (h : o ∈ diffs a b) : StepOk a b o := by
 rcases List.mem_append.1 h with h | h
 ·obtain ⟨p, hp, he⟩ := List.mem_filterMap.1 h
  obtain ⟨h1, h2, h3, h4⟩ := dropOf_name p o he
  have hn := ha.name hp
  have hf := find_mem ha hp
  rw [← h1] at h4 hn hf
  exact ⟨⟨hn.1, hn.2.1⟩, by rw [h3, h4], by rw [hf, h4]; omega, .inl ⟨h2, h4, by rw [hf]; omega⟩⟩
 ·obtain ⟨p, hp, he⟩ := List.mem_filterMap.1 h
  obtain ⟨h1, h2, h3, h4⟩ := addOf_name p o he
  have hn := hb.name hp
  have hf := find_mem hb hp
  rw [← h1] at h3 h4 hn hf
  refine ⟨⟨hn.1, hn.2.1⟩, by rw [h2, hf], by rw [hf]; exact h3, ?_⟩
  rcases h4 with ⟨h5, h6⟩ | ⟨h5, h6⟩
  ·exact .inr (.inl ⟨h5, h6, by rw [hf]; omega⟩)
  ·exact .inr (.inr ⟨h5, h6, by rw [hf]; omega⟩)
theorem StepOk.good {a b : List Pin} (hb : Lk b) {o : Step} (h : StepOk a b o) : ¬ badStep o/\ 1 <= o.kind/\ o.kind <= 3/\ (o.kind = 2->o.ver = 0)/\ (o.kind ≠ 2->1 <= o.ver/\ o.ver <= 99) := by
 have h1 := h.name
 have h2 := h.ver
 have h3 := hb.find_range o.name
 unfold badStep
 rcases h.kind with h4 | h4 | h4 <;> omega
theorem StepOk.applied {a b : List Pin} (ha : Lk a) (hb : Lk b) {o : Step} (h : StepOk a b o) : Lk (applied a o)/\ ∀ m, find (applied a o) m = if m = o.name then find b m else find a m := by
 have hg := h.good hb
 refine ⟨?_, fun m => ?_⟩
 ·unfold Vg.applied
  split
  ·exact ha.del _
  ·rename_i e; exact ha.up h.name (hg.2.2.2.2 e)
 ·rw [applied_find ha o m hg.2.2.2.1]
  by_cases e : m = o.name
  ·rw [if_pos e, if_pos e, e, h.ver]
  ·rw [if_neg e, if_neg e]
theorem diffs_step {a b : List Pin} (ha : Lk a) (hb : Lk b) {o : Step} {rest : List Step} (h : diffs a b = o :: rest) : diffs (applied a o) b = rest := by
 have hok := diffs_mem ha hb (h ▸ List.mem_cons_self : o ∈ diffs a b)
 obtain ⟨hL, hf⟩ := hok.applied ha hb
 unfold diffs at h ⊢
 cases hd : drops a b with
 | nil =>
  rw [hd, List.nil_append] at h
  have h1 : drops (applied a o) b = [] := List.filterMap_eq_nil_iff.2 fun p hp => by
   have hm := hL.name hp
   have := hf p.name
   rw [find_mem hL hp] at this
   rw [dropOf, if_neg]
   intro e
   by_cases e2 : p.name = o.name
   ·rw [if_pos e2] at this; omega
   ·rw [if_neg e2] at this
    obtain ⟨q, hq, hqn, _⟩ := find_pos (l := a) (n := p.name) (by omega)
    have := drops_nil hd q hq
    rw [hqn] at this; exact this e
  rw [h1, List.nil_append]
  refine first_gone (f := addOf a) (g := addOf (applied a o)) (n := o.name) (fun q s hs => (addOf_name q s hs).1) hb.rise (fun q hq hn => ?_) (fun q hq hn => ?_) h rfl
  ·unfold addOf; rw [hf, if_neg hn]
  ·unfold addOf; rw [hf, if_pos hn, if_pos (find_mem hb hq)]
 | cons o' r =>
  rw [hd] at h
  obtain ⟨rfl, rfl⟩ : o' = o/\ r ++ adds a b = rest := by simpa using h
  obtain ⟨p, hp, he⟩ := List.mem_filterMap.1 (hd ▸ List.mem_cons_self : o' ∈ drops a b)
  obtain ⟨h1, h2, h3, h4⟩ := dropOf_name p o' he
  have happ : applied a o' = del o'.name a := by unfold applied; rw [if_pos h2]
  have hdr : drops (applied a o') b = r := by
   have e1 : (del o'.name a).filterMap (dropOf b) = a.filterMap fun q => if q.name ≠ o'.name then dropOf b q else none := by
    unfold del
    generalize a = x
    induction x with
    | nil => rfl
    | cons q x ih =>
     rw [List.filter_cons]
     by_cases e : q.name = o'.name
     ·rw [if_neg (by simp [e]), ih, List.filterMap_cons_none (by simp [e])]
     ·rw [if_pos (by simp [e])]
      cases hq : dropOf b q with
      | none => rw [List.filterMap_cons_none hq, List.filterMap_cons_none (by simp [e, hq]), ih]
      | some s => rw [List.filterMap_cons_some hq, List.filterMap_cons_some (b := s) (by simp [e, hq]), ih]
   unfold drops
   rw [happ, e1]
   refine first_gone (f := dropOf b) (n := o'.name) (fun q s hs => (dropOf_name q s hs).1) ha.rise (fun q hq hn => ?_) (fun q hq hn => ?_) hd rfl
   ·rw [if_pos hn]
   ·rw [if_neg (by simp [hn])]
  have had : adds (applied a o') b = adds a b := by
   unfold adds
   refine filterMap_congr' fun q hq => ?_
   have hne : q.name ≠ o'.name := fun e => by
    have := hb.name hq
    rw [← e] at h1
    rw [← h1, find_mem hb hq] at h4; omega
   unfold addOf; rw [hf, if_neg hne]
  rw [hdr, had]
theorem diffs_fits {a b : List Pin} (ha : Lk a) (hb : Lk b) (ha12 : a.length <= 12) (hb12 : b.length <= 12) {o : Step} {rest : List Step} (h : diffs a b = o :: rest) : applyErr a o = 0/\ (applied a o).length <= 12 := by
 have hok := diffs_mem ha hb (h ▸ List.mem_cons_self : o ∈ diffs a b)
 obtain ⟨hL, hf⟩ := hok.applied ha hb
 have hg := hok.good hb
 have hlen : (applied a o).length <= 12/\ (o.kind = 1->a.length + 1 <= (applied a o).length) := by
  rcases hok.kind with ⟨h1, h2, h3⟩ | ⟨h1, h2, h3⟩ | ⟨h1, h2, h3⟩
  ·refine ⟨?_, by omega⟩
   unfold applied; rw [if_pos h1]
   have := List.length_filter_le (fun p : Pin => p.name ≠ o.name) a
   unfold del; omega
  ·have hdn : drops a b = [] := by
    cases hd : drops a b with
    | nil => rfl
    | cons o' r =>
     obtain ⟨p, hp, he⟩ := List.mem_filterMap.1 (hd ▸ List.mem_cons_self : o' ∈ drops a b)
     have := dropOf_name p o' he
     unfold diffs at h
     rw [hd] at h
     obtain ⟨rfl, _⟩ : o' = o/\ r ++ adds a b = rest := by simpa using h
     omega
   have h5 := names_len hL hb fun p hp => by
    by_cases e : p.name = o.name
    ·rw [e]; exact h3
    ·have hm := hL.name hp
     have := hf p.name
     rw [find_mem hL hp, if_neg e] at this
     obtain ⟨q, hq, hqn, _⟩ := find_pos (l := a) (n := p.name) (by omega)
     have := drops_nil hdn q hq
     rw [hqn] at this; exact this
   refine ⟨by omega, fun _ => ?_⟩
   unfold applied; rw [if_neg (by omega)]
   have : ∀ {l : List Pin}, find l o.name = 0->(∀ p ∈ l, p.ver ≠ 0)->(up o.name o.ver l).length = l.length + 1 := by
    intro l
    induction l with
    | nil => intro _ _; rfl
    | cons p r ih =>
     intro h hv
     rw [find] at h
     have hp := hv p List.mem_cons_self
     by_cases e : p.name = o.name
     ·rw [if_pos e] at h; exact absurd h hp
     ·rw [if_neg e] at h
      unfold up
      split
      ·simp
      ·simp [ih h fun q hq => hv q (List.mem_cons_of_mem _ hq)]
   rw [this h2 fun p hp => by have := ha.name hp; omega]
   exact Nat.le_refl _
  ·refine ⟨?_, by omega⟩
   have h5 := names_len hL ha fun p hp => by
    by_cases e : p.name = o.name
    ·rw [e]; exact h2
    ·have hm := hL.name hp
     have := hf p.name
     rw [find_mem hL hp, if_neg e] at this
     omega
   omega
 refine ⟨?_, hlen.1⟩
 unfold applyErr
 rw [if_neg (by simp [lockCheck_zero.2 ⟨ha, ha12⟩]), if_neg (by omega), if_neg hg.1]
 rcases hok.kind with ⟨h1, h2, h3⟩ | ⟨h1, h2, h3⟩ | ⟨h1, h2, h3⟩
 ·rw [if_neg (by omega), if_neg (by omega), if_neg (by omega)]
 ·rw [if_neg (by omega), if_neg (by omega), if_neg (by have := hlen.2 h1; omega)]
 ·rw [if_neg (by omega), if_neg (by omega), if_neg (by omega)]
def between (ops : List Step) (l : List Pin) : Int->List Pin->Int
 | k, now => match ops with
  | [] => if now = l then k else -1
  | o :: r => if now = l then k else between r l (k + 1) (applied now o)
theorem diffErr_zero {a b : List Pin} : diffErr a b = 0 ↔ (Lk a/\ a.length <= 12)/\ (Lk b/\ b.length <= 12) := by
 unfold diffErr
 rw [← lockCheck_zero, ← lockCheck_zero]
 split <;> rename_i h <;> simp [h]
open Go
def inR (n a b : Int) : Bool := decide (a <= n/\ n <= b)
def waveIn (k : Int) : List Int->List Int->Except Int (List Int)
 | seen, [] => .ok seen
 | seen, a :: r => if a < 0 then .error 5 else if k <= a then .error 5 else if a ∈ seen then .error 6 else waveIn k (seen ++ [a]) r
def waveAll (k : Int) : List Int->List (List Int)->Int
 | seen, [] => if (seen.length : Int) < k then 4 else 0
 | seen, w :: r => if w = [] then 4 else match waveIn k seen w with | .error e => e | .ok s => waveAll k s r
def waveCheck (l : List (List Int)) (k : Int) : Int := if k < 1 then 3 else if 6 < k then 3 else waveAll k [] l
def WOk (k : Int) (s : List Int) : Prop := s.Nodup/\ ∀ a ∈ s, 0 <= a/\ a < k
theorem wok_nil (k : Int) : WOk k [] := ⟨List.nodup_nil, by simp⟩
theorem wok_snoc {k : Int} {s : List Int} (h : WOk k s) {a : Int} (h0 : 0 <= a) (h1 : a < k) (hn : a ∉ s) : WOk k (s ++ [a]) := by
 refine ⟨?_, fun b hb => ?_⟩
 ·rw [List.nodup_append]
  refine ⟨h.1, by simp, fun x hx y hy => ?_⟩
  simp at hy; subst hy; rintro rfl; exact hn hx
 ·rw [List.mem_append] at hb
  rcases hb with hb | hb
  ·exact h.2 b hb
  ·simp at hb; subst hb; exact ⟨h0, h1⟩
theorem nodup_len : ∀ (n : Nat) (s : List Int), s.Nodup->(∀ a ∈ s, 0 <= a/\ a < n)->s.length <= n
 | 0, s, _, h => by
  cases s with
  | nil => simp
  | cons a r => have := h a List.mem_cons_self; omega
 | n + 1, s, hn, h => by
  by_cases hm : (n : Int) ∈ s
  ·have h1 := List.length_erase_of_mem hm
   have h2 := nodup_len n (s.erase n) (hn.erase _) (fun a ha => by
    rw [hn.mem_erase_iff] at ha
    have := h a ha.2
    have := ha.1
    omega)
   have h3 : 0 < s.length := List.length_pos_of_mem hm
   omega
  ·have h2 := nodup_len n s hn (fun a ha => by
    have := h a ha
    have : a ≠ n := by rintro rfl; exact hm ha
    omega)
   omega
theorem WOk.len {k : Int} {s : List Int} (h : WOk k s) (hk : 0 <= k) : (s.length : Int) <= k := by
 have := nodup_len k.toNat s h.1 (fun a ha => by have := h.2 a ha; omega)
 omega
theorem waveIn_ok {k : Int} : ∀ (w : List Int) {s s' : List Int}, WOk k s->waveIn k s w = .ok s'->s' = s ++ w/\ WOk k s'
 | [], s, s', h, e => by simp [waveIn] at e; subst e; simp [h]
 | a :: r, s, s', h, e => by
  unfold waveIn at e
  split at e
  ·cases e
  ·split at e
   ·cases e
   ·split at e
    ·cases e
    ·rename_i h0 h1 h2
     obtain ⟨e1, e2⟩ := waveIn_ok r (wok_snoc h (by omega) (by omega) h2) e
     exact ⟨by rw [e1]; simp, e2⟩
theorem waveAll_zero {k : Int} (hk : 0 <= k) : ∀ (l : List (List Int)) {s : List Int}, WOk k s->waveAll k s l = 0->WOk k (s ++ l.flatten)/\ ((s ++ l.flatten).length : Int) = k/\ ∀ w ∈ l, w ≠ []
 | [], s, h, e => by
  unfold waveAll at e
  split at e
  ·omega
  ·have := h.len hk
   simp only [List.flatten_nil, List.append_nil]
   exact ⟨h, by omega, by simp⟩
 | w :: r, s, h, e => by
  unfold waveAll at e
  split at e
  ·omega
  ·rename_i hw
   cases e2 : waveIn k s w with
   | error x =>
    rw [e2] at e
    simp only at e
    exfalso
    clear hk
    induction w generalizing s with
    | nil => simp [waveIn] at e2
    | cons a q ih =>
     unfold waveIn at e2
     split at e2
     ·cases e2; omega
     ·split at e2
      ·cases e2; omega
      ·split at e2
       ·cases e2; omega
       ·rename_i h0 h1 h2
        by_cases hq : q = []
        ·subst hq; simp [waveIn] at e2
        ·exact ih _ (wok_snoc h (by omega) (by omega) h2) hq e2
   | ok s' =>
    rw [e2] at e
    obtain ⟨e3, e4⟩ := waveIn_ok w h e2
    obtain ⟨a1, a2, a3⟩ := waveAll_zero hk r e4 e
    subst e3
    rw [List.flatten_cons, ← List.append_assoc]
    exact ⟨a1, a2, fun x hx => by
     rcases List.mem_cons.1 hx with rfl | hx
     ·exact hw
     ·exact a3 x hx⟩
theorem nodup_full : ∀ (n : Nat) (s : List Int), s.Nodup->(∀ a ∈ s, 0 <= a/\ a < n)->s.length = n->∀ a : Int, 0 <= a->a < n->a ∈ s := by
 intro n s hn h hl a h0 h1
 by_cases hm : a ∈ s
 ·exact hm
 ·have := nodup_len n (a :: s) (List.nodup_cons.2 ⟨hm, hn⟩) (fun b hb => by
   rcases List.mem_cons.1 hb with rfl | hb
   ·exact ⟨h0, h1⟩
   ·exact h b hb)
  simp at this
  omega
theorem waveCheck_zero {l : List (List Int)} {k : Int} (h : waveCheck l k = 0) : 1 <= k/\ k <= 6/\ l.flatten.Nodup/\ (∀ a : Int, a ∈ l.flatten ↔ 0 <= a/\ a < k)/\ ∀ w ∈ l, w ≠ [] := by
 unfold waveCheck at h
 split at h
 ·omega
 ·split at h
  ·omega
  ·obtain ⟨h1, h2, h3⟩ := waveAll_zero (by omega) l (wok_nil k) h
   simp only [List.nil_append] at h1 h2
   refine ⟨by omega, by omega, h1.1, fun a => ⟨h1.2 a, fun ⟨ha, hb⟩ => ?_⟩, h3⟩
   exact nodup_full k.toNat _ h1.1 (fun b hb => by have := h1.2 b hb; omega) (by omega) a ha (by omega)

def waveOfFrom (a : Int) : Int->List (List Int)->Int
 | _, [] => -1
 | i, w :: r => if a ∈ w then i else waveOfFrom a (i + 1) r
def waveOf (l : List (List Int)) (a : Int) : Int := waveOfFrom a 0 l
def notThrough (th : List Bool) (a : Int) : Bool := th[a.toNat]? == some false
def nowFrom (th : List Bool) : Int->List (List Int)->Int
 | i, [] => i
 | i, w :: r => if w.any (notThrough th) then i else nowFrom th (i + 1) r
open Go Go.Proofs
theorem vc102 (n a b : Int) (base : Nat) (H : Heap) (K : KT) :
 (fV TryzMuts Tryz.f92 base H [.v (I Z n), .v (I Z a), .v (I Z b)] [] K) = (
 (a <= n->K (B (decide (n <= b))) [] H)/\ (¬a <= n->K (B false) [] H)) := by kernel_rfl
theorem vc140 (a : O) (l c : Nat) (x : Int) (base : Nat) (H : Heap) (K : KT) :
 (fV TryzMuts Tryz.f194 base H [.v (S a l c), .v (I Z x)] [] K) = (
 ∃ (b:LI) (d:LM),b [I Z 0,I Z 0] H/\ ∀ (e g:Int) (h:Heap),X base H h->b [I Z e,I Z g] h->(g < (l:Int)->∃ i j,a = some (D i j none)/\ 0 <= g/\ g < (l:Int)/\ ∃ k,C h i (j + N g * 1) = some (I Z k)/\ (x = k->K (I Z g) [] h)/\ (¬x = k->∀ m:Int,m = W Z (g + 1)->b [I Z e,I Z m] h/\ d [I Z e,I Z m] < d [I Z e,I Z g]))/\ (¬g < (l:Int)->K (I Z (-1)) [] h)) := by kernel_rfl
theorem vc103 (a : O) (l c : Nat) (x : Int) (base : Nat) (H : Heap) (K : KT) :
 (fV TryzMuts Tryz.f137 base H [.v (S a l c), .v (I Z x)] [] K) = (
 Y Tryz.prog 194 [S a l c,I Z x] H fun b d =>∃ e,b = I Z e/\ (X base H d->K (B (decide (0 <= e))) [] d)) := by kernel_rfl
theorem vc26 (a : O) (l c : Nat) (k : Int) (base : Nat) (H : Heap) (K : KT) :
 (fV TryzMuts Tryz.f187 base H [.v (S a l c), .v (I Z k)] [] K) = (
 (k < 1->K (I Z 3) [] H)/\ (¬k < 1->(6 < k->K (I Z 3) [] H)/\ (¬6 < k->∀ b:Nat,∃ (d:LI) (e:LM),d [I Z 0,I Z 0,A #[]] H/\ ∀ (g h:Int) (i:List Value) (j:Heap),X base H j->d [I Z g,I Z h,A (List.toArray i)] j->(h < (l:Int)->∃ m n,a = some (D m n none)/\ 0 <= h/\ h < (l:Int)/\ ∃ o p q,C j m (n + N h * 1) = some (S o p q)/\ ((p:Int) = 0->K (I Z 4) [] j)/\ (¬(p:Int) = 0->∃ (r:LI) (s:LM),r [I Z g,I Z 0,A (List.toArray i)] j/\ ∀ (t u:Int) (v:List Value) (w:Heap),X base H w->r [I Z t,I Z u,A (List.toArray v)] w->(u < (p:Int)->∃ x y,o = some (D x y none)/\ 0 <= u/\ u < (p:Int)/\ ∃ z,C w x (y + N u * 1) = some (I Z z)/\ (z < 0->K (I Z 5) [] w)/\ (¬z < 0->(k <= z->K (I Z 5) [] w)/\ (¬k <= z->∃ a1 b1:Bool,mapGet (B false) (I Z z) v = some (B a1,b1)/\ (a1 = true->K (I Z 6) [] w)/\ (a1 = false->∃ c1:List Value,mapSet (I Z z) (B true) v = some c1/\ ∀ d1:Int,d1 = W Z (u + 1)->r [I Z t,I Z d1,A (List.toArray c1)] w/\ s [I Z t,I Z d1,A (List.toArray c1)] < s [I Z t,I Z u,A (List.toArray v)]))))/\ (¬u < (p:Int)->∀ x:Int,x = W Z (h + 1)->d [I Z t,I Z x,A (List.toArray v)] w/\ e [I Z t,I Z x,A (List.toArray v)] < e [I Z g,I Z h,A (List.toArray i)])))/\ (¬h < (l:Int)->((↑(List.length i / 2) : Int) < k->K (I Z 4) [] j)/\ (¬(↑(List.length i / 2) : Int) < k->K (I Z 0) [] j))))) := by kernel_rfl
theorem vc105 (a : O) (l c : Nat) (p : Nat) (base : Nat) (H : Heap) (K : KT) :
 (fV TryzMuts Tryz.f136 base H [.v (S a l c), .v (.pointer (some ⟨p, 0, none⟩))] [] K) = (
 ∃ b,C H p 0 = some (I Z b)/\ Y Tryz.prog 137 [S a l c,I Z b] H fun d e =>∃ g,d = B g/\ (X base H e->K (B g) [] e)) := by kernel_rfl
theorem vc104 (a : O) (l c : Nat) (p : Nat) (base : Nat) (H : Heap) (K : KT) :
 (fV TryzMuts Tryz.f135 base H [.v (S a l c), .v (.func (.func 136) #[] #[.pointer (some ⟨p, 0, none⟩)])] [] K) = (
 ∃ (b:LI) (d:LM),b [I Z 0,I Z 0] H/\ ∀ (e g:Int) (h:Heap),X base H h->b [I Z e,I Z g] h->(g < (l:Int)->∃ i j,a = some (D i j none)/\ 0 <= g/\ g < (l:Int)/\ ∃ k m n,C h i (j + N g * 1) = some (S k m n)/\ Y Tryz.prog 136 [S k m n,P (some (D p 0 none))] h fun o q =>∃ r,o = B r/\ (X base h q->(r = true->K (I Z g) [] q)/\ (r = false->∀ s:Int,s = W Z (g + 1)->b [I Z e,I Z s] q/\ d [I Z e,I Z s] < d [I Z e,I Z g])))/\ (¬g < (l:Int)->K (I Z (-1)) [] h)) := by kernel_rfl
theorem vc27 (a : O) (l c : Nat) (k : Int) (base : Nat) (H : Heap) (K : KT) :
 (fV TryzMuts Tryz.f49 base H [.v (S a l c), .v (I Z k)] [] K) = (
 ∀ b:Nat,true = true/\ ∀ d:Heap,X 0 H d->d b = some (boxKB 3 [I Z k])/\ True->Y Tryz.prog 135 [S a l c,Value.func (Fn.func 136) #[] #[P (some (D b 0 none))]] d fun e g =>∃ h,e = I Z h/\ ∀ i,X base H i->(∀ (j:Nat) (m:KB),g j = some m->(∀ n:Bx,n ∈ [J b false 3 [I Z k]]->j ≠ Bx.b n)->i j = some m)->K (I Z h) [] i) := by kernel_rfl
theorem vc23 (a a' : O) (l c l' c' : Nat) (base : Nat) (H : Heap) (K : KT) :
 (fV TryzMuts Tryz.f252 base H [.v (S a l c), .v (S a' l' c')] [] K) = (
 Y Tryz.prog 187 [S a l c,I Z (l':Int)] H fun b d =>∃ e,b = I Z e/\ (X base H d->(¬e = 0->K (T #[I Z 0,I Z e]) [] d)/\ (¬¬e = 0->∃ (g:LI) (h:LM),g [I Z 0,I Z 0,I Z 0] d/\ ∀ (i j k:Int) (m:Heap),X base H m->g [I Z i,I Z j,I Z k] m->(k < (l:Int)->∃ n o,a = some (D n o none)/\ 0 <= k/\ k < (l:Int)/\ ∃ p q r,C m n (o + N k * 1) = some (S p q r)/\ ∃ (s:LI) (t:LM),s [I Z i,I Z j,I Z 0] m/\ ∀ (u v w:Int) (x:Heap),X base H x->s [I Z u,I Z v,I Z w] x->(w < (q:Int)->∃ y z,p = some (D y z none)/\ 0 <= w/\ w < (q:Int)/\ ∃ a1,C x y (z + N w * 1) = some (I Z a1)/\ ∃ b1 c1,a' = some (D b1 c1 none)/\ 0 <= a1/\ a1 < (l':Int)/\ ∃ d1,C x b1 (c1 + N a1 * 1) = some (B d1)/\ (d1 = false->K (T #[I Z k,I Z 0]) [] x)/\ (¬d1 = false->∀ e1:Int,e1 = W Z (w + 1)->s [I Z u,I Z v,I Z e1] x/\ t [I Z u,I Z v,I Z e1] < t [I Z u,I Z v,I Z w]))/\ (¬w < (q:Int)->∀ y:Int,y = W Z (k + 1)->g [I Z u,I Z v,I Z y] x/\ h [I Z u,I Z v,I Z y] < h [I Z i,I Z j,I Z k]))/\ (¬k < (l:Int)->K (T #[I Z (l:Int),I Z 0]) [] m)))) := by kernel_rfl
open Go Go.Proofs
theorem vc62 (a : O) (l c : Nat) (base : Nat) (H : Heap) (K : KT) :
 (fV TryzMuts Tryz.f140 base H [.v (S a l c)] [] K) = (
 (12 < (l:Int)->K (I Z 2) [] H)/\ (¬12 < (l:Int)->∃ (b:LI) (d:LM),b [I Z 0,I Z 0] H/\ ∀ (e g:Int) (h:Heap),X base H h->b [I Z e,I Z g] h->(g < (l:Int)->∃ i j,a = some (D i j none)/\ 0 <= g/\ g < (l:Int)/\ ∃ k m:Int,(C h i (j + N g * 2) = some (I Z k)/\ C h i (j + N g * 2 + 1) = some (I Z m)/\ True)/\ ∀ n:Nat,(k < 1->K (I Z 3) [] h)/\ (¬k < 1->(20 < k->K (I Z 3) [] h)/\ (¬20 < k->(m < 1->K (I Z 3) [] h)/\ (¬m < 1->(99 < m->K (I Z 3) [] h)/\ (¬99 < m->(0 < g->∀ o:Int,o = W Z (g - 1)->∃ p q,a = some (D p q none)/\ 0 <= o/\ o < (l:Int)/\ ∃ r,C h p (q + N o * 2) = some (I Z r)/\ (k <= r->K (I Z 6) [] h)/\ (¬k <= r->∀ s:Int,s = W Z (g + 1)->b [I Z e,I Z s] h/\ d [I Z e,I Z s] < d [I Z e,I Z g]))/\ (¬0 < g->∀ o:Int,o = W Z (g + 1)->b [I Z e,I Z o] h/\ d [I Z e,I Z o] < d [I Z e,I Z g]))))))/\ (¬g < (l:Int)->K (I Z 0) [] h))) := by kernel_rfl
theorem vc108 (a : O) (l c : Nat) (base : Nat) (H : Heap) (K : KT) :
 (fV TryzMuts Tryz.f159 base H [.v (S a l c)] [] K) = (
 (12 < (l:Int)->K (I Z 2) [] H)/\ (¬12 < (l:Int)->∃ (b:LI) (d:LM),b [I Z 0,I Z 0,I Z 0] H/\ ∀ (e g h:Int) (i:Heap),X base H i->b [I Z e,I Z g,I Z h] i->(h < (l:Int)->∃ j k,a = some (D j k none)/\ 0 <= h/\ h < (l:Int)/\ ∃ m n:Int,(C i j (k + N h * 2) = some (I Z m)/\ C i j (k + N h * 2 + 1) = some (I Z n)/\ True)/\ ∀ o:Nat,Y Tryz.prog 92 [I Z m,I Z 1,I Z 20] i fun p q =>∃ r,p = B r/\ (X base i q->(r = false->K (I Z 3) [] q)/\ (¬r = false->Y Tryz.prog 92 [I Z n,I Z 1,I Z 99] q fun s t =>∃ u,s = B u/\ (X base q t->(u = false->K (I Z 3) [] t)/\ (¬u = false->(m <= g->K (I Z 6) [] t)/\ (¬m <= g->∀ v:Int,v = W Z (h + 1)->b [I Z e,I Z m,I Z v] t/\ d [I Z e,I Z m,I Z v] < d [I Z e,I Z g,I Z h]))))))/\ (¬h < (l:Int)->K (I Z 0) [] i))) := by kernel_rfl
theorem vc114 (n v : Int) (p : Nat) (base : Nat) (H : Heap) (K : KT) :
 (fV TryzMuts Tryz.f148 base H [.v (A #[I Z n, I Z v]), .v (.pointer (some ⟨p, 0, none⟩))] [] K) = (
 ∀ a:Nat,∃ b,C H p 0 = some (I Z b)/\ K (B (decide (n = b))) [] H) := by kernel_rfl
theorem vc113 (a : O) (l c : Nat) (p : Nat) (base : Nat) (H : Heap) (K : KT) :
 (fV TryzMuts Tryz.f147 base H [.v (S a l c), .v (.func (.func 148) #[] #[.pointer (some ⟨p, 0, none⟩)])] [] K) = (
 ∃ (b:LI) (d:LM),b [I Z 0,I Z 0] H/\ ∀ (e g:Int) (h:Heap),X base H h->b [I Z e,I Z g] h->(g < (l:Int)->∃ i j,a = some (D i j none)/\ 0 <= g/\ g < (l:Int)/\ ∃ k m:Int,(C h i (j + N g * 2) = some (I Z k)/\ C h i (j + N g * 2 + 1) = some (I Z m)/\ True)/\ Y Tryz.prog 148 [A #[I Z k,I Z m],P (some (D p 0 none))] h fun n o =>∃ q,n = B q/\ (X base h o->(q = true->K (I Z g) [] o)/\ (q = false->∀ r:Int,r = W Z (g + 1)->b [I Z e,I Z r] o/\ d [I Z e,I Z r] < d [I Z e,I Z g])))/\ (¬g < (l:Int)->K (I Z (-1)) [] h)) := by kernel_rfl
theorem vc42 (a : O) (l c : Nat) (k : Int) (base : Nat) (H : Heap) (K : KT) :
 (fV TryzMuts Tryz.f75 base H [.v (S a l c), .v (I Z k)] [] K) = (
 ∀ b:Nat,true = true/\ ∀ d:Heap,X 0 H d->d b = some (boxKB 3 [I Z k])/\ True->Y Tryz.prog 147 [S a l c,Value.func (Fn.func 148) #[] #[P (some (D b 0 none))]] d fun e g =>∃ h,e = I Z h/\ ∀ i,X base H i->(∀ (j:Nat) (m:KB),g j = some m->(∀ n:Bx,n ∈ [J b false 3 [I Z k]]->j ≠ Bx.b n)->i j = some m)->(h < 0->K (I Z 0) [] i)/\ (¬h < 0->∃ j m,a = some (D j m none)/\ 0 <= h/\ h < (l:Int)/\ ∃ n,C i j (m + N h * 2 + 1) = some (I Z n)/\ K (I Z n) [] i)) := by kernel_rfl
theorem vc41 (a a' : O) (l c l' c' : Nat) (base : Nat) (H : Heap) (K : KT) :
 (fV TryzMuts Tryz.f47 base H [.v (S a l c), .v (S a' l' c')] [] K) = (
 (¬(l:Int) = (l':Int)->K (B false) [] H)/\ (¬¬(l:Int) = (l':Int)->∃ (b:LI) (d:LM),b [B false,I Z 0] H/\ ∀ (e:Bool) (g:Int) (h:Heap),X base H h->b [B e,I Z g] h->(g < (l:Int)->∃ i j,a = some (D i j none)/\ 0 <= g/\ g < (l:Int)/\ ∃ k m:Int,(C h i (j + N g * 2) = some (I Z k)/\ C h i (j + N g * 2 + 1) = some (I Z m)/\ True)/\ ∃ n o,a' = some (D n o none)/\ 0 <= g/\ g < (l':Int)/\ ∃ p q:Int,(C h n (o + N g * 2) = some (I Z p)/\ C h n (o + N g * 2 + 1) = some (I Z q)/\ True)/\ ∃ r,RunsTo Tryz.prog (binRun BinOp.neq 91 (Operand.tmp 19) (Operand.tmp 23) (A #[I Z k,I Z m]) (A #[I Z p,I Z q])) (B r)/\ (r = true->K (B false) [] h)/\ (¬r = true->∀ s:Int,s = W Z (g + 1)->b [B e,I Z s] h/\ d [B e,I Z s] < d [B e,I Z g]))/\ (¬g < (l:Int)->K (B true) [] h))) := by kernel_rfl
theorem vc39 (a : O) (l c : Nat) (base : Nat) (H : Heap) (K : KT) :
 (fV TryzMuts Tryz.f222 base H [.v (S a l c)] [] K) = (
 (10 < (l:Int)->K (I Z 2) [] H)/\ (¬10 < (l:Int)->∃ (b:LI) (d:LM),b [I Z 0,I Z 0] H/\ ∀ (e g:Int) (h:Heap),X base H h->b [I Z e,I Z g] h->(g < (l:Int)->∃ i j,a = some (D i j none)/\ 0 <= g/\ g < (l:Int)/\ ∃ k m n o:Int,(fun w1:LL=>(C h i (j + N g * 4) = some (I Z k)/\ C h i (j + N g * 4 + 1) = some (I Z m)/\ C h i (j + N g * 4 + 2) = some (I Z n)/\ C h i (j + N g * 4 + 3) = some (I Z o)/\ True)/\ ∀ p:Nat,∃ (q:LI) (r:LM),q [I Z e,I Z 0] h/\ ∀ (s t:Int) (u:Heap),X base H u->q [I Z s,I Z t] u->(t < 2->0 <= t/\ t < 2/\ ∃ v,List.get?Internal [I Z k,I Z n] (N t * 1) = some (I Z v)/\ (v < 1->K (I Z 3) [] u)/\ (¬v < 1->(20 < v->K (I Z 3) [] u)/\ (¬20 < v->∀ w:Int,w = W Z (t + 1)->w1 = w1/\ q [I Z s,I Z w] u/\ r [I Z s,I Z w] < r [I Z s,I Z t])))/\ (¬t < 2->∃ (v:LI) (w:LM),v [I Z s,I Z 0] u/\ ∀ (x y:Int) (z:Heap),X base H z->v [I Z x,I Z y] z->(y < 2->0 <= y/\ y < 2/\ ∃ a1,List.get?Internal [I Z m,I Z o] (N y * 1) = some (I Z a1)/\ (a1 < 1->K (I Z 3) [] z)/\ (¬a1 < 1->(99 < a1->K (I Z 3) [] z)/\ (¬99 < a1->∀ b1:Int,b1 = W Z (y + 1)->w1 = w1/\ v [I Z x,I Z b1] z/\ w [I Z x,I Z b1] < w [I Z x,I Z y])))/\ (¬y < 2->(k = n->K (I Z 4) [] z)/\ (¬k = n->∀ a1:Int,a1 = W Z (g + 1)->b [I Z x,I Z a1] z/\ d [I Z x,I Z a1] < d [I Z e,I Z g])))) [[I Z k,I Z m,I Z n,I Z o]])/\ (¬g < (l:Int)->K (I Z 0) [] h))) := by kernel_rfl
theorem vc34 (a a' : O) (l c l' c' : Nat) (base : Nat) (H : Heap) (K : KT) :
 (fV TryzMuts Tryz.f186 base H [.v (S a l c), .v (S a' l' c')] [] K) = (
 Y Tryz.prog 140 [S a l c] H fun b d =>∃ e,b = I Z e/\ (X base H d->(¬e = 0->K (T #[I Z 0,I Z e]) [] d)/\ (¬¬e = 0->Y Tryz.prog 222 [S a' l' c'] d fun g h =>∃ i,g = I Z i/\ (X base d h->(¬i = 0->K (T #[I Z 0,I Z i]) [] h)/\ (¬¬i = 0->∃ (j:LI) (k:LM),j [I Z 0,I Z 0,I Z 0] h/\ ∀ (m n o:Int) (p:Heap),X base H p->j [I Z m,I Z n,I Z o] p->(o < (l':Int)->∃ q r,a' = some (D q r none)/\ 0 <= o/\ o < (l':Int)/\ ∃ s t u v:Int,(C p q (r + N o * 4) = some (I Z s)/\ C p q (r + N o * 4 + 1) = some (I Z t)/\ C p q (r + N o * 4 + 2) = some (I Z u)/\ C p q (r + N o * 4 + 3) = some (I Z v)/\ True)/\ ∀ w:Nat,Y Tryz.prog 75 [S a l c,I Z s] p fun x y =>∃ z,x = I Z z/\ (X base p y->(t <= z->Y Tryz.prog 75 [S a l c,I Z u] y fun a1 b1 =>∃ c1,a1 = I Z c1/\ (X base y b1->(c1 < v->K (T #[I Z o,I Z 0]) [] b1)/\ (¬c1 < v->∀ d1:Int,d1 = W Z (o + 1)->j [I Z m,I Z n,I Z d1] b1/\ k [I Z m,I Z n,I Z d1] < k [I Z m,I Z n,I Z o])))/\ (¬t <= z->∀ a1:Int,a1 = W Z (o + 1)->j [I Z m,I Z n,I Z a1] y/\ k [I Z m,I Z n,I Z a1] < k [I Z m,I Z n,I Z o])))/\ (¬o < (l':Int)->K (T #[I Z (-1),I Z 0]) [] p)))))) := by kernel_rfl
theorem vc33 (k n : Int) (base : Nat) (H : Heap) (K : KT) :
 (fV TryzMuts Tryz.f35 base H [.v (I Z k), .v (I Z n)] [] K) = (
 n ≠ 0/\ (Int.tmod k n < 0->∀ a:Int,a = W Z (Int.tmod k n + n)->K (I Z a) [] H)/\ (¬Int.tmod k n < 0->K (I Z (Int.tmod k n)) [] H)) := by kernel_rfl
end Go.Vg
