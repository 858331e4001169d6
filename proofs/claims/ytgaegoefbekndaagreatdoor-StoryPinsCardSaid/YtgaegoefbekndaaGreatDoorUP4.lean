/- What is proved here: a part of the proof of laws of this seat: what a contract is, how it comes of a condition, contracts of the functions that are reached, the plain laws. -/
import Derived.Test.YtgaegoefbekndaaGreatDoorUP3
import Derived.KernelRfl
import Derived.Laws.Cover2
import Derived.Laws.Cover3
import Derived.Laws.Pointers
import Derived.Laws.Small
import Derived.Laws.StructEq
import Derived.Laws.Tables
import Derived.StillTactics
import Derived.Tactics
import Derived.Tactics2
set_option linter.unusedSimpArgs false
set_option linter.unusedVariables false
set_option maxRecDepth 100000
namespace Go.Vg
open Go Go.Proofs Go.RowKit Go.Shelf
set_option maxHeartbeats 1000000 in
theorem str_run {w : World} {b g cap : Nat} {p : Value} {cur : Array Value} {fz : Nat × Nat} {l : List UInt8} (hbk : w.heap[b]? = some (.cells #[p, .slice (some ⟨g, 0, none⟩) l.length cap] 311 (0, 0))) (h0 : l ≠ [])
  (hg : w.heap[g]? = some (.cells cur 5 fz)) (hn : l.length <= cap) (hcm : cap <= maxLen) (hcs : cur.size = cap) (hc : ∀ (j : Nat) (x : UInt8), l[j]? = some x->w.cell? ⟨g, j, none⟩ = some (.int .u8 x.toNat)) :
  Calls Tryz.prog 285 #[.pointer (some ⟨b, 0, none⟩)] w fun e w' => e = .returned (.string ⟨l.toArray⟩)/\ w' = w.drew.freeze ⟨g, 0, none⟩ l.length := by
 have hl0 : l.length ≠ 0 := by simpa using h0
 have c1 : w.drew.cell? ⟨b, 1, none⟩ = some (.slice (some ⟨g, 0, none⟩) l.length cap) := by
  have : w.drew.heap[b]? = some (.cells #[p, .slice (some ⟨g, 0, none⟩) l.length cap] 311 (0, 0)) := hbk
  rw [Lib.cell_of_heap this]; rfl
 have hSD : (Builtin.unsafeSliceData_ #[33] 333 #[.slice (some ⟨g, 0, none⟩) l.length cap]).run Tryz.prog w.drew = .ok (.pointer (some ⟨g, 0, none⟩)) w.drew :=
  Lib.run_unsafeSliceData_row _ _ _ _ _ _ (by omega)
 have hUS : (Builtin.unsafeString_ #[333, 3] 9 #[.pointer (some ⟨g, 0, none⟩), .int .i64 l.length]).run Tryz.prog w.drew = .ok (.string ⟨l.toArray⟩) (w.drew.freeze ⟨g, 0, none⟩ l.length) := by
  refine Lib.run_unsafeString_row w.drew 333 3 9 5 Tryz.underlying333 (by kernel_rfl) g cur.size (by have hg' : w.drew.heap[g]? = some (.cells cur 5 fz) := hg; simp [World.shape?, hg']) l h0 (by omega) (by unfold maxLen at hcm; omega) ?_
  intro j x hx
  have := hc j x hx
  simpa [addr_add] using this
 go_enter Tryz.func285, Tryz.ntmps285
 go_wp2
 go_region
 all_goals (go_wp2; go_ret; exact ⟨rfl, rfl⟩)
def strP (base : Nat) (own : List Bx) (H : Heap) (f : SV->List Bx->Heap->Prop) (i : Nat) : Prop :=
 match own[i]? with
 | some ⟨b, false, ty, [p, .slice a n c]⟩ => ty = 311/\ 0 < n /\ 
  ∃ l : List UInt8, Row base H 5 1 a n c (u8s l)/\ ∀ H', (∀ x k, H x = some k->a ≠ some ⟨x, 0, none⟩->H' x = some k)->(∀ x k, H' x = some k->H x = some k)->f (.v (.string ⟨l.toArray⟩)) own H'
 | _ => False
noncomputable def TryzSum : InlFn := fun base H0 g pre own H f =>
 if g = 285 then (match pre with
  | [.loc i 0] => some (strP base own H f i)
  | _ => none)
 else if g = 235 then (match pre with
  | [.v (.slice a n c), .v (.int .i64 i), .v (.slice (some ⟨g', 0, none⟩) 1 1)] => some (insP base own H f a n c i g')
  | _ => none)
 else if g = 236 then (match pre with
  | [.v (.slice a n c), .v (.int .i64 i), .v (.int .i64 j)] => some (delP base 2 91 own H f a n c i j)
  | _ => none)
 else if g = 43 then (match pre with
  | [.v (.slice a n c), .v (.int .i64 i), .v (.int .i64 j)] => some (delP base 6 74 own H f a n c i j)
  | _ => none)
 else TryzIn3 base H0 g pre own H f
theorem freeze_heap (w : World) (g n : Nat) {k : Nat} (hk : k ≠ g) : (w.drew.freeze ⟨g, 0, none⟩ n).heap[k]? = w.heap[k]? := by
 unfold World.freeze
 split
 ·rfl
 ·show (w.heap.modify g _)[k]? = _
  rw [Array.getElem?_modify, if_neg (fun e => hk e.symm)]
theorem freeze_size (w : World) (g n : Nat) : (w.drew.freeze ⟨g, 0, none⟩ n).heap.size = w.heap.size := by
 unfold World.freeze
 split
 ·rfl
 ·show (w.heap.modify g _).size = _
  simp
theorem freeze_os (w : World) (g n : Nat) : (w.drew.freeze ⟨g, 0, none⟩ n).os = w.os/\ (w.drew.freeze ⟨g, 0, none⟩ n).tape = w.tape/\ (w.drew.freeze ⟨g, 0, none⟩ n).output = w.output := by
 unfold World.freeze
 split <;> exact ⟨rfl, rfl, rfl⟩
theorem in3_at {g : FuncId} {fn : Func} (hl : lookFn g TryzFs = some fn) {pre : List SV} (hn : pre.length <= fn.ntmps) {base : Nat} {H0 : Heap} {own : List Bx} {H : Heap} {f : SV->List Bx->Heap->Prop} :
  TryzIn3 base H0 g pre own H f = some (codeI ⟨Tryz.prog, fn.ntmps, ⟨TryzList, TryzIn2, true⟩, base, H0⟩ fn pre own H f) := by
 unfold TryzIn3 inlOf
 rw [hl]
 dsimp only
 rw [if_pos hn]
theorem Tryzsum (j : Bool) : InlOk Tryz.prog ⟨TryzList, TryzSum, j⟩ := by
 have key : ∀ base H0 g pre own H f p q, TryzIn3 base H0 g pre own H f = some q->(p->q)->TryzList.contains g = true/\ (p->∀ (C : Cfg) (w0 : World) (own0 : List Nat) (w : World), C.base = base->C.H0 = H0->StW C w0 own0 own H w->(∀ s ∈ pre, SV.wf own.length s)->
   Calls Tryz.prog g (pre.map (SV.val own)).toArray w fun e w' => ∃ v own' H', e = .returned v/\ f (.v v) own' H'/\ OwnExt own own'/\ StW C w0 own0 own' H' w') := fun base H0 g pre own H f p q hq hpq => by
  obtain ⟨h1, h2⟩ := Tryzin3 j base H0 g pre own H f q hq
  exact ⟨h1, fun hp => h2 (hpq hp)⟩
 intro base H0 g pre own H f p hp
 unfold TryzSum at hp
 dsimp only at hp
 split at hp
 ·rename_i e
  subst e
  split at hp
  ·rename_i i
   obtain rfl := Option.some.inj hp
   refine ⟨by show TryzList.contains 285 = true; decide, fun h C w0 own0 w hbase hH0 hw hwf => ?_⟩
   subst hbase hH0
   unfold strP at h
   split at h
   ·rename_i b ty p a n c hx
    obtain ⟨rfl, hn, l, hR, hf⟩ := h
    have hbk : w.heap[b]? = some (.cells #[p, .slice a n c] 311 (0, 0)) := hw.boxes.ok _ (List.mem_of_getElem? hx)
    obtain ⟨h1, h2, h3, h4⟩ := hR
    obtain rfl : l.length = n := by simpa [u8s] using h1
    rcases h4 with ⟨h0, _⟩ | ⟨g, k, rfl, hgb, hH, hty, hksz, hfree, hcl⟩
    ·omega
    obtain ⟨cur, fr, hcu, hsz, _, hcell⟩ := hw.sees g _ hH
    rw [hty] at hcu
    have hbn : boxNo own i = b := box_no hx
    have hargs : (([SV.loc i 0] : List SV).map (SV.val own)).toArray = #[.pointer (some ⟨b, 0, none⟩)] := by simp [SV.val, hbn]
    rw [hargs]
    refine (str_run hbk (by intro e; subst e; simp at hn) hcu h2 h3 (by rw [hsz, hksz, Nat.mul_one]) (fun j x hj => hw.sees.cell ?_)).mono fun e w' ⟨he, hw'⟩ => ?_
    ·unfold Heap.cell; rw [hH]; exact hcl j _ (by simp [u8s, hj])
    have hbx : ∀ y ∈ own, y.b ≠ g := fun y hy e => by
     have := hw.boxes.hid y hy
     rw [e, hH] at this; cases this
    obtain ⟨o1, o2, o3⟩ := freeze_os w g l.length
    refine ⟨_, own, fun x => if x = g then none else H x, he, hf _ (fun x k hk hne => ?_) (fun x k hk => ?_), OwnExt.refl _, ?_⟩
    ·have : x ≠ g := fun e => hne (by rw [e])
     simp only [if_neg this]; exact hk
    ·split at hk
     ·cases hk
     ·exact hk
    ·have hblock : ∀ k, k ≠ g->w'.heap[k]? = w.heap[k]? := fun k hk => by rw [hw']; exact freeze_heap w g _ hk
     refine ⟨fun x k hk => ?_, ⟨fun y hy => Bx.ok_same (hw.boxes.ok y hy) (hblock _ (hbx y hy)), fun y hy => ?_, hw.boxes.apart⟩, hw.locs, hw.step (by rw [hw']; exact o1) (by rw [hw']; exact o2) (by rw [hw']; exact o3) (by rw [hw', freeze_size]; exact Nat.le_refl _) fun k hk hk' => hblock k (by omega), ⟨fun x k hk => ?_, fun x k hk hn => ?_⟩, hw.base, hw.seen0⟩
     ·split at hk
      ·cases hk
      ·rename_i hne
       rw [hblock x hne]; exact hw.sees x k hk
     ·split
      ·rfl
      ·exact hw.boxes.hid y hy
     ·have := hw.h0_lt hk
      rw [if_neg (by omega)]
      exact hw.next.ext x k hk
     ·split at hk
      ·cases hk
      ·exact hw.next.fresh x k hk hn
   ·exact h.elim
  ·cases hp
 ·split at hp
  ·rename_i e
   subst e
   split at hp
   ·obtain rfl := Option.some.inj hp
    exact key _ _ _ _ _ _ _ _ _ (in3_at (fn := Tryz.f235) (by rfl) (Nat.le_of_ble_eq_true (by kernel_rfl))) ins_sum
   ·cases hp
  ·split at hp
   ·rename_i e
    subst e
    split at hp
    ·obtain rfl := Option.some.inj hp
     exact key _ _ _ _ _ _ _ _ _ (in3_at (fn := Tryz.f236) (by rfl) (Nat.le_of_ble_eq_true (by kernel_rfl))) fun h => by
      show codeI ⟨Tryz.prog, Tryz.f236.ntmps, ⟨TryzList, TryzIn2, true⟩, base, H0⟩ Tryz.f236 _ own H f
      rw [vcI123]
      exact del_sum (bytes := 16) (by omega) h
    ·cases hp
   ·split at hp
    ·rename_i e
     subst e
     split at hp
     ·obtain rfl := Option.some.inj hp
      exact key _ _ _ _ _ _ _ _ _ (in3_at (fn := Tryz.f43) (by rfl) (Nat.le_of_ble_eq_true (by kernel_rfl))) fun h => by
       show codeI ⟨Tryz.prog, Tryz.f43.ntmps, ⟨TryzList, TryzIn2, true⟩, base, H0⟩ Tryz.f43 _ own H f
       rw [vcI53]
       exact del_sum (bytes := 56) (by omega) h
     ·cases hp
    ·exact Tryzin3 j base H0 g pre own H f p hp
noncomputable def TryzMutsJ : Muts := ⟨TryzList, TryzSum, true⟩
theorem TryzvcJ {f : FuncId} {fn : Func} (hf : Tryz.prog.funcs[f]? = some fn) (hok : okFn fn = true) {args : List Value} (hargs : Nat.ble args.length fn.ntmps = true) {H : Heap} (Q : Value->Heap->Prop) {sv : List SV} (hsv : args.map SV.v = sv)
  {F : Nat->(Value->List (List Value)->Heap->Prop)->Prop} (hv : ∀ base K, funV ⟨Tryz.prog, fn.ntmps, TryzMutsJ, base, H⟩ (bodyOf fn) fn.results.toList sv [] K = F base K)
  (h : ∀ base, (∀ b k, H b = some k->b < base)->F base (fun v _ H' => Q v H')) : Spec Tryz.prog f args H Q :=
 spec_of (muts := TryzMutsJ) (Tryzsum true) hf (body_some hok) rfl Tryzmixed (ops_ok hok) (Nat.le_of_ble_eq_true hargs) fun base hb => by
  rw [hsv, hv base]
  exact h base hb
theorem cCopyCheck {H : Heap} {b : Nat} {p : O} {v : Value} (hp : p = none ∨ p = some ⟨b, 0, none⟩) : SpecO Tryz.prog 298 [.pointer (some ⟨b, 0, none⟩)] [⟨b, false, 311, [.pointer p, v]⟩] H
  fun r css H' => r = .tuple #[]/\ css = [[.pointer (some ⟨b, 0, none⟩), v]]/\ H' = H := fun w hw hb => by
 have hbk : w.heap[b]? = some (.cells #[.pointer p, v] 311 (0, 0)) := hb.ok _ List.mem_cons_self
 have hbn : H b = none := hb.hid _ List.mem_cons_self
 have hlt : b < w.heap.size := by
  rcases Nat.lt_or_ge b w.heap.size with h | h
  ·exact h
  ·simp [Array.getElem?_eq_none h] at hbk
 have hX : Builder.X72 Tryz.prog Tryz.lays156_ren := { sizeBuilder := by kernel_rfl, liesBuilder := by kernel_rfl }
 rcases hp with rfl | rfl
 ·refine (Any.Builder_copyCheck_fresh { Tryz.lays156 with } hX b w (by rw [Lib.cell_of_heap hbk]; rfl) (by simp [World.shape?, hbk]; rfl) (by simp [World.frozen?, hbk])).mono fun e w' ⟨he, hw'⟩ => ?_
  have hblock : ∀ k, k ≠ b->w'.heap[k]? = w.heap[k]? := fun k hk => by
   rw [hw']
   simp [World.setCell, Array.getElem?_modify, Ne.symm hk]
  have hnew : w'.heap[b]? = some (.cells #[.pointer (some ⟨b, 0, none⟩), v] 311 (0, 0)) := by
   rw [hw']
   simp [World.setCell, Array.getElem?_modify, hbk]
  have hsz : w'.heap.size = w.heap.size := by rw [hw']; simp [World.setCell]
  refine ⟨_, [[.pointer (some ⟨b, 0, none⟩), v]], H, he, rfl, ⟨by rw [hw']; rfl, by rw [hw']; rfl, by rw [hw']; rfl, by omega, fun k _ hk => hblock k (by simpa using hk)⟩, fun x k hx => ?_, ⟨fun y hy => ?_, fun y hy => ?_, by simp [setAll]⟩, ⟨fun _ _ h => h, fun x k h h' => (by rw [h] at h'; cases h')⟩, rfl, rfl, rfl⟩
  ·rw [hblock x (fun e => by rw [e, hbn] at hx; cases hx)]; exact hw x k hx
  ·obtain rfl : y = ⟨b, false, 311, [.pointer (some ⟨b, 0, none⟩), v]⟩ := by simpa [setAll, Bx.set] using hy
   exact hnew
  ·obtain rfl : y = ⟨b, false, 311, [.pointer (some ⟨b, 0, none⟩), v]⟩ := by simpa [setAll, Bx.set] using hy
   exact hbn
 ·refine (Any.Builder_copyCheck_used { Tryz.lays156 with } hX b w (by rw [Lib.cell_of_heap hbk]; rfl)).mono fun e w' ⟨he, hw'⟩ => ?_
  subst hw'
  exact ⟨_, [[.pointer (some ⟨b, 0, none⟩), v]], H, he, rfl, BelowX.refl _ _, hw, hb, ⟨fun _ _ h => h, fun x k h h' => (by rw [h] at h'; cases h')⟩, rfl, rfl, rfl⟩
open Go Go.Proofs
def TryzListK : List FuncId := 1000000 :: TryzList
theorem contK {g : FuncId} (h : TryzList.contains g = true) : TryzListK.contains g = true := by
 unfold TryzListK
 rw [List.contains_cons, h, Bool.or_true]
theorem TryzsumK (j : Bool) : InlOk Tryz.prog ⟨TryzListK, TryzSum, j⟩ := fun base H0 g pre own H f p hp => by
 obtain ⟨h1, h2⟩ := Tryzsum j base H0 g pre own H f p hp
 exact ⟨contK h1, h2⟩
noncomputable def TryzMutsK : Muts := ⟨TryzListK, TryzSum, true⟩
theorem TryzvcK {f : FuncId} {fn : Func} (hf : Tryz.prog.funcs[f]? = some fn) (hok : okFn fn = true) {args : List Value} (hargs : Nat.ble args.length fn.ntmps = true) {H : Heap} (Q : Value->Heap->Prop) {sv : List SV} (hsv : args.map SV.v = sv)
  {F : Nat->(Value->List (List Value)->Heap->Prop)->Prop} (hv : ∀ base K, funV ⟨Tryz.prog, fn.ntmps, TryzMutsK, base, H⟩ (bodyOf fn) fn.results.toList sv [] K = F base K)
  (h : ∀ base, (∀ b k, H b = some k->b < base)->F base (fun v _ H' => Q v H')) : Spec Tryz.prog f args H Q :=
 spec_of (muts := TryzMutsK) (TryzsumK true) hf (body_some hok) rfl Tryzmixed (ops_ok hok) (Nat.le_of_ble_eq_true hargs) fun base hb => by
  rw [hsv, hv base]
  exact h base hb
open Go Go.Proofs
open Go.Value renaming int → I, slice → S, bool → B, agg → A, tuple → T, pointer → P, string → Str
open Go.IntKind renaming i64 → Z, wrap → W
open Go.Addr renaming mk → D
open Go.Vg.Bx renaming mk → J
open Go.Vg renaming Next → X, Spec → Y, SpecO → YO
open Go.Vg.Heap renaming cell → C
open Int renaming toNat → N
theorem vk51 (now goal nx : Int) (back : Bool) (la ka : O) (ll lc kl kc : Nat) (xa : O) (xn xc : Nat) (base : Nat) (H : Heap) (K : KT) :
 (fV TryzMutsK Tryz.f51 base H [.v (A #[S la ll lc, I Z now, I Z goal, B back, S ka kl kc, I Z nx]), .v (S xa xn xc)] [] K) = (
 (fun w5:LV=>∀ a:Nat,∃ (b:NI) (c:Nat),b c [B false,I Z 0] H/\ ∀ (d:Nat) (e:Bool) (g:Int) (h:Heap),X base H h->b d [B e,I Z g] h->(g < (xn:Int)->∃ i j,xa = some (D i j none)/\ 0 <= g/\ g < (xn:Int)/\ ∃ (k:O) (l m:Nat) (n o:Int) (p:Bool) (q:Int) (r:O) (s t:Nat) (u:Bool),(fun w4:LV=>(C h i (j + N g * 7) = some (S k l m)/\ C h i (j + N g * 7 + 1) = some (I Z n)/\ C h i (j + N g * 7 + 2) = some (I Z o)/\ C h i (j + N g * 7 + 3) = some (B p)/\ C h i (j + N g * 7 + 4) = some (I Z q)/\ C h i (j + N g * 7 + 5) = some (S r s t)/\ C h i (j + N g * 7 + 6) = some (B u)/\ True)/\ ∀ v:Nat,(fun w3:LB=>(fun w2:LV=>∃ (w:NI) (x:Nat),w x [B e,I Z 0] h/\ ∀ (y:Nat) (z:Bool) (a1:Int) (b1:Heap),X base H b1->w y [B z,I Z a1] b1->(a1 < (l:Int)->∃ c1 d1,k = some (D c1 d1 none)/\ 0 <= a1/\ a1 < (l:Int)/\ ∃ e1 f1:Int,(C b1 c1 (d1 + N a1 * 2) = some (I Z e1)/\ C b1 c1 (d1 + N a1 * 2 + 1) = some (I Z f1)/\ True)/\ ∀ g1:Nat,true = true/\ ∀ h1:Heap,X 0 b1 h1->h1 g1 = some (boxKB 91 [I Z e1,I Z f1])/\ True->Y Tryz.prog 52 [S la ll lc,Value.func (Fn.func 53) #[] #[P (some (D g1 0 none))]] h1 fun i1 j1 =>∃ k1,i1 = B k1/\ ∀ l1,X base b1 l1->(∀ (m1:Nat) (n1:KB),j1 m1 = some n1->(∀ o1:Bx,o1 ∈ [J g1 false 91 [I Z e1,I Z f1]]->m1 ≠ Bx.b o1)->l1 m1 = some n1)->(k1 = false->K (B false) [] l1)/\ (¬k1 = false->∀ m1:Int,m1 = W Z (a1 + 1)->[w5,w4] = [w5,w4]/\ ∃ n1:Nat,n1 < y/\ w n1 [B z,I Z m1] l1))/\ (¬a1 < (l:Int)->((ll:Int) < n->K (B false) [] b1)/\ (¬(ll:Int) < n->(p = false->∀ c1:Int,c1 = W Z (n - 1)->∃ d1 e1,la = some (D d1 e1 none)/\ 0 <= c1/\ c1 < (ll:Int)/\ ∃ f1 g1 h1,C b1 d1 (e1 + N c1 * 2 + 1) = some (S f1 g1 h1)/\ Y Tryz.prog 47 [S k l m,S f1 g1 h1] b1 fun i1 j1 =>∃ k1,i1 = B k1/\ (X base b1 j1->(k1 = false->K (B false) [] j1)/\ (¬k1 = false->(p = true->true = true/\ ∀ l1:Heap,X 0 j1 l1->l1 v = some (boxKB 46 w4)/\ True->Y Tryz.prog 52 w2 l1 fun m1 n1 =>∃ o1,m1 = B o1/\ ∀ p1,X base j1 p1->(∀ (q1:Nat) (r1:KB),n1 q1 = some r1->(∀ s1:Bx,s1 ∈ w3->q1 ≠ Bx.b s1)->p1 q1 = some r1)->(o1 = false->K (B false) [] p1)/\ (¬o1 = false->Y Tryz.prog 57 [S k l m,S r s t] p1 fun q1 r1 =>∃ s1 t1 u1 v1,q1 = T #[S s1 t1 u1,I Z v1]/\ (X
 base p1 r1->(¬v1 = 0->K (B false) [] r1)/\ (¬¬v1 = 0->∀ w1:Int,w1 = W Z (g + 1)->[w5] = [w5]/\ ∃ x1:Nat,x1 < d/\ b x1 [B z,I Z w1] r1))))/\ (p = false->∀ l1:Int,l1 = W Z (g + 1)->[w5] = [w5]/\ ∃ m1:Nat,m1 < d/\ b m1 [B z,I Z l1] j1))))/\ (¬p = false->(p = true->true = true/\ ∀ c1:Heap,X 0 b1 c1->c1 v = some (boxKB 46 w4)/\ True->Y Tryz.prog 52 w2 c1 fun d1 e1 =>∃ f1,d1 = B f1/\ ∀ g1,X base b1 g1->(∀ (h1:Nat) (i1:KB),e1 h1 = some i1->(∀ j1:Bx,j1 ∈ w3->h1 ≠ Bx.b j1)->g1 h1 = some i1)->(f1 = false->K (B false) [] g1)/\ (¬f1 = false->Y Tryz.prog 57 [S k l m,S r s t] g1 fun h1 i1 =>∃ j1 k1 l1 m1,h1 = T #[S j1 k1 l1,I Z m1]/\ (X base g1 i1->(¬m1 = 0->K (B false) [] i1)/\ (¬¬m1 = 0->∀ n1:Int,n1 = W Z (g + 1)->[w5] = [w5]/\ ∃ o1:Nat,o1 < d/\ b o1 [B z,I Z n1] i1))))/\ (p = false->∀ c1:Int,c1 = W Z (g + 1)->[w5] = [w5]/\ ∃ d1:Nat,d1 < d/\ b d1 [B z,I Z c1] b1))))) [S la ll lc,Value.func (Fn.func 55) #[] #[P (some (D v 0 none))]]) [J v false 46 w4]) [S k l m,I Z n,I Z o,B p,I Z q,S r s t,B u])/\ (¬g < (xn:Int)->K (B true) [] h)) [S la ll lc,I Z now,I Z goal,B back,S ka kl kc,I Z nx]) := by kernel_rfl
open Go Go.Proofs
theorem vk14 (id bud : Int) (fa ra wa : O) (fl fc rl rc wl wc : Nat) (ha : O) (hl hc : Nat) (base : Nat) (H : Heap) (K : KT) :
 (fV TryzMutsK Tryz.f14 base H [.v (A #[I Z id, S fa fl fc, S ra rl rc, S wa wl wc, I Z bud]), .v (S ha hl hc)] [] K) = (
 ∀ a:Nat,Y Tryz.prog 45 [A #[I Z id,S fa fl fc,S ra rl rc,S wa wl wc,I Z bud],S ha hl hc,Value.func (Fn.func 51) #[] #[]] H fun b c =>∃ d e g h i j k l m n o p q r s t u v w x y z a1 b1 c1 d1 e1 f1 g1 h1 i1 j1 k1 l1 m1,b = T #[A #[I Z d,S e g h,S i j k,S l m n,I Z o,S p q r,I Z s,I Z t,B u,S v w x,I Z y,S z a1 b1,S c1 d1 e1,B f1,S g1 h1 i1,S j1 k1 l1],B m1]/\ (X base H c->∀ n1:Nat,(fun w1:LB=>∃ o1:Prop,(Y Tryz.prog 20 [] c fun p1 q1 =>∃ r1,p1 = B r1/\ (X base c q1->(r1 = true->w1 = w1/\ SubH c q1/\ (o1↔m1 = true))/\ (r1 = false->w1 = w1/\ SubH c q1/\ ¬o1)))/\ K (B (@decide o1 (Classical.propDecidable o1))) [] c) [J a false 28 [I Z id,S fa fl fc,S ra rl rc,S wa wl wc,I Z bud],J n1 false 41 [I Z d,S e g h,S i j k,S l m n,I Z o,S p q r,I Z s,I Z t,B u,S v w x,I Z y,S z a1 b1,S c1 d1 e1,B f1,S g1 h1 i1,S j1 k1 l1]])) := by kernel_rfl
open Go Go.Proofs
theorem vk139 (a : O) (l c : Nat) (nm vr : Int) (base : Nat) (H : Heap) (K : KT) :
 (fV TryzMutsK Tryz.f139 base H [.v (S a l c), .v (A #[I Z nm, I Z vr])] [] K) = (
 ∀ b:Nat,∃ (d:NI) (e:Nat),d e [I Z 0,I Z 0] H/\ ∀ (g:Nat) (h i:Int) (j:Heap),X base H j->d g [I Z h,I Z i] j->(i < (l:Int)->∃ k m,a = some (D k m none)/\ 0 <= i/\ i < (l:Int)/\ ∃ n o:Int,(C j k (m + N i * 2) = some (I Z n)/\ C j k (m + N i * 2 + 1) = some (I Z o)/\ True)/\ ∃ p,RunsTo Tryz.prog (binRun BinOp.eql 91 (Operand.tmp 11) (Operand.tmp 15) (A #[I Z nm,I Z vr]) (A #[I Z n,I Z o])) (B p)/\ (p = true->K (I Z i) [] j)/\ (¬p = true->∀ q:Int,q = W Z (i + 1)->[[I Z nm,I Z vr]] = [[I Z nm,I Z vr]]/\ ∃ r:Nat,r < g/\ d r [I Z h,I Z q] j))/\ (¬i < (l:Int)->K (I Z (-1)) [] j)) := by kernel_rfl
theorem vk54 (a : O) (l c : Nat) (nm vr : Int) (base : Nat) (H : Heap) (K : KT) :
 (fV TryzMutsK Tryz.f54 base H [.v (S a l c), .v (A #[I Z nm, I Z vr])] [] K) = (
 ∀ b:Nat,Y Tryz.prog 139 [S a l c,A #[I Z nm,I Z vr]] H fun d e =>∃ g,d = I Z g/\ (X base H e->K (B (decide (0 <= g))) [] e)) := by kernel_rfl
theorem vk53 (id : Int) (a : O) (l c p : Nat) (base : Nat) (H : Heap) (K : KT) :
 (fV TryzMutsK Tryz.f53 base H [.v (A #[I Z id, S a l c]), .v (.pointer (some ⟨p, 0, none⟩))] [] K) = (
 ∀ b:Nat,∃ d e:Int,(C H p 0 = some (I Z d)/\ C H p 1 = some (I Z e)/\ True)/\ Y Tryz.prog 54 [S a l c,A #[I Z d,I Z e]] H fun g h =>∃ i,g = B i/\ (X base H h->K (B i) [] h)) := by kernel_rfl
theorem vk55 (id : Int) (a : O) (l c p : Nat) (base : Nat) (H : Heap) (K : KT) :
 (fV TryzMutsK Tryz.f55 base H [.v (A #[I Z id, S a l c]), .v (.pointer (some ⟨p, 0, none⟩))] [] K) = (
 ∀ b:Nat,∃ (d:Int) (e:O) (g h:Nat),(C H p 4 = some (I Z d)/\ C H p 5 = some (S e g h)/\ True)/\ Y Tryz.prog 56 [A #[I Z id,S a l c],A #[I Z d,S e g h]] H fun i j =>∃ k,i = B k/\ (X base H j->K (B k) [] j)) := by kernel_rfl
theorem vk138a (a : O) (l c p : Nat) (base : Nat) (H : Heap) (K : KT) :
 (fV TryzMutsK Tryz.f138 base H [.v (S a l c), .v (.func (.func 53) #[] #[.pointer (some ⟨p, 0, none⟩)])] [] K) = (
 ∃ (b:NI) (d:Nat),b d [I Z 0,I Z 0] H/\ ∀ (e:Nat) (g h:Int) (i:Heap),X base H i->b e [I Z g,I Z h] i->(h < (l:Int)->∃ j k,a = some (D j k none)/\ 0 <= h/\ h < (l:Int)/\ ∃ (m:Int) (n:O) (o q:Nat),(C i j (k + N h * 2) = some (I Z m)/\ C i j (k + N h * 2 + 1) = some (S n o q)/\ True)/\ Y Tryz.prog 53 [A #[I Z m,S n o q],P (some (D p 0 none))] i fun r s =>∃ t,r = B t/\ (X base i s->(t = true->K (I Z h) [] s)/\ (t = false->∀ u:Int,u = W Z (h + 1)->∃ v:Nat,v < e/\ b v [I Z g,I Z u] s)))/\ (¬h < (l:Int)->K (I Z (-1)) [] i)) := by kernel_rfl
theorem vk138b (a : O) (l c p : Nat) (base : Nat) (H : Heap) (K : KT) :
 (fV TryzMutsK Tryz.f138 base H [.v (S a l c), .v (.func (.func 55) #[] #[.pointer (some ⟨p, 0, none⟩)])] [] K) = (
 ∃ (b:NI) (d:Nat),b d [I Z 0,I Z 0] H/\ ∀ (e:Nat) (g h:Int) (i:Heap),X base H i->b e [I Z g,I Z h] i->(h < (l:Int)->∃ j k,a = some (D j k none)/\ 0 <= h/\ h < (l:Int)/\ ∃ (m:Int) (n:O) (o q:Nat),(C i j (k + N h * 2) = some (I Z m)/\ C i j (k + N h * 2 + 1) = some (S n o q)/\ True)/\ Y Tryz.prog 55 [A #[I Z m,S n o q],P (some (D p 0 none))] i fun r s =>∃ t,r = B t/\ (X base i s->(t = true->K (I Z h) [] s)/\ (t = false->∀ u:Int,u = W Z (h + 1)->∃ v:Nat,v < e/\ b v [I Z g,I Z u] s)))/\ (¬h < (l:Int)->K (I Z (-1)) [] i)) := by kernel_rfl
theorem vk52a (a : O) (l c p : Nat) (base : Nat) (H : Heap) (K : KT) :
 (fV TryzMutsK Tryz.f52 base H [.v (S a l c), .v (.func (.func 53) #[] #[.pointer (some ⟨p, 0, none⟩)])] [] K) = (
 Y Tryz.prog 138 [S a l c,Value.func (Fn.func 53) #[] #[P (some (D p 0 none))]] H fun b d =>∃ e,b = I Z e/\ (X base H d->K (B (decide (0 <= e))) [] d)) := by kernel_rfl
theorem vk52b (a : O) (l c p : Nat) (base : Nat) (H : Heap) (K : KT) :
 (fV TryzMutsK Tryz.f52 base H [.v (S a l c), .v (.func (.func 55) #[] #[.pointer (some ⟨p, 0, none⟩)])] [] K) = (
 Y Tryz.prog 138 [S a l c,Value.func (Fn.func 55) #[] #[P (some (D p 0 none))]] H fun b d =>∃ e,b = I Z e/\ (X base H d->K (B (decide (0 <= e))) [] d)) := by kernel_rfl
open Go Go.Proofs
theorem vk45d (id bud : Int) (fa ra wa : O) (fl fc rl rc wl wc : Nat) (ha : O) (hl hc : Nat) (base : Nat) (H : Heap) (K : KT) :
 (fV TryzMutsK Tryz.f45 base H [.v (A #[I Z id, S fa fl fc, S ra rl rc, S wa wl wc, I Z bud]), .v (S ha hl hc), .v (.func (.func 51) #[] #[])] [] K) = (
 (fun w10:LL=>∀ a b:Nat,Y Tryz.prog 26 [A #[I Z id,S fa fl fc,S ra rl rc,S wa wl wc,I Z bud]] H fun c d =>∃ (e:Int) (g:O) (h i:Nat) (j:O) (k l:Nat) (m:O) (n o:Nat) (p:Int) (q:O) (r s:Nat) (t u:Int) (v:Bool) (w:O) (x y:Nat) (z:Int) (a1:O) (b1 c1:Nat) (d1:O) (e1 f1:Nat) (g1:Bool) (h1:O) (i1 j1:Nat) (k1:O) (l1 m1:Nat),(fun w9:AV=>∃ n1,c = T #[A w9,I Z n1]/\ (X base H d->∀ o1:Nat,(¬n1 = 0->K (T #[A w9,B true]) [] d)/\ (¬¬n1 = 0->(0 <= if 90 < (hl:Int) then 90 else (hl:Int))/\ (if 90 < (hl:Int) then 90 else (hl:Int)) <= (hc:Int)/\ ∃ (p1:NI) (q1:Nat),p1 q1 [B false,I Z 0,A #[I Z 0,S none 0 0,S none 0 0,S none 0 0,I Z 0,S none 0 0,I Z 0,I Z 0,B false,S none 0 0,I Z 0,S none 0 0,S none 0 0,B false,S none 0 0,S none 0 0],A w9] d/\ ∀ (r1:Nat) (s1:Bool) (t1 u1:Int) (v1:O) (w1 x1:Nat) (y1:O) (z1 a2:Nat) (b2:O) (c2 d2:Nat) (e2:Int) (f2:O) (g2 h2:Nat) (i2 j2:Int) (k2:Bool) (l2:O) (m2 n2:Nat) (o2:Int) (p2:O) (q2 r2:Nat) (s2:O) (t2 u2:Nat) (v2:Bool) (w2:O) (x2 y2:Nat) (z2:O) (a3 b3:Nat) (c3:Int) (d3:O) (e3 f3:Nat) (g3:O) (h3 i3:Nat) (j3:O) (k3 l3:Nat) (m3:Int) (n3:O) (o3 p3:Nat) (q3 r3:Int) (s3:Bool) (t3:O) (u3 v3:Nat) (w3:Int) (x3:O) (y3 z3:Nat) (a4:O) (b4 c4:Nat) (d4:Bool) (e4:O) (f4 g4:Nat) (h4:O) (i4 j4:Nat) (k4:Heap),(fun w8:AV=>X base H k4->p1 r1 [B s1,I Z t1,A #[I Z u1,S v1 w1 x1,S y1 z1 a2,S b2 c2 d2,I Z e2,S f2 g2 h2,I Z i2,I Z j2,B k2,S l2 m2 n2,I Z o2,S p2 q2 r2,S s2 t2 u2,B v2,S w2 x2 y2,S z2 a3 b3],A w8] k4->(t1 < (↑(N (if 90 < (hl:Int) then 90 else (hl:Int))) : Int)->∃ l4 m4,ha = some (D l4 m4 none)/\ 0 <= t1/\ t1 < (↑(N (if 90 < (hl:Int) then 90 else (hl:Int))) : Int)/\ ∃ (n4 o4 p4:Int) (q4:Bool) (r4:O) (s4 t4:Nat),(C k4 l4 (m4 + N t1 * 5) = some (I Z n4)/\ C k4 l4 (m4 + N t1 * 5 + 1) = some (I Z o4)/\ C k4 l4 (m4 + N t1 * 5 + 2) = some (I Z p4)/\ C k4 l4 (m4 + N t1 * 5 + 3) = some (B q4)/\ C k4 l4 (m4 + N t1 * 5 + 4) = some (S r4 s4 t4)/\ True)/\ ∀ u4:Nat,Y Tryz.prog 27 [A w8,A #[I Z n4,I Z o4,I Z p4,B q4,S r4 s4 t4]] k4 fun v4 w4 =>∃ x4 y4 z4 a5 b5 c5 d5 e5 f5 g5 h5 i5 j5 k5 l5 m5 n5 o5 p5 q5 r5 s5 t5 u5
 v5 w5 x5 y5 z5 a6 b6 c6 d6 e6 f6,v4 = T #[A #[I Z x4,S y4 z4 a5,S b5 c5 d5,S e5 f5 g5,I Z h5,S i5 j5 k5,I Z l5,I Z m5,B n5,S o5 p5 q5,I Z r5,S s5 t5 u5,S v5 w5 x5,B y5,S z5 a6 b6,S c6 d6 e6],I Z f6]/\ (X base k4 w4->∀ g6:Nat,(f6 = 0->Y Tryz.prog 133 [A #[I Z x4,S y4 z4 a5,S b5 c5 d5,S e5 f5 g5,I Z h5,S i5 j5 k5,I Z l5,I Z m5,B n5,S o5 p5 q5,I Z r5,S s5 t5 u5,S v5 w5 x5,B y5,S z5 a6 b6,S c6 d6 e6]] w4 fun h6 i6 =>∃ j6 k6 l6 m6 n6 o6 p6 q6 r6 s6 t6 u6 v6 w6,h6 = T #[A #[S j6 k6 l6,I Z m6,I Z n6,B o6,S p6 q6 r6,I Z s6],S t6 u6 v6,B w6]/\ (X base w4 i6->∀ x6:Nat,(fun w7:LB=>∃ y6:Prop,((w6 = false->w7 = w7/\ SubH i6 i6/\ y6)/\ (¬w6 = false->Y Tryz.prog 51 [A #[S j6 k6 l6,I Z m6,I Z n6,B o6,S p6 q6 r6,I Z s6],S t6 u6 v6] i6 fun z6 a7 =>∃ b7,z6 = B b7/\ (X base i6 a7->w7 = w7/\ SubH i6 a7/\ (y6↔b7 = false))))/\ (y6->K (T #[A #[I Z x4,S y4 z4 a5,S b5 c5 d5,S e5 f5 g5,I Z h5,S i5 j5 k5,I Z l5,I Z m5,B n5,S o5 p5 q5,I Z r5,S s5 t5 u5,S v5 w5 x5,B y5,S z5 a6 b6,S c6 d6 e6],B false]) [] i6)/\ (¬y6->∀ z6:Int,z6 = W Z (t1 + 1)->w10 = w10/\ ∃ a7:Nat,a7 < r1/\ p1 a7 [B s1,I Z z6,A #[I Z u1,S v1 w1 x1,S y1 z1 a2,S b2 c2 d2,I Z e2,S f2 g2 h2,I Z i2,I Z j2,B k2,S l2 m2 n2,I Z o2,S p2 q2 r2,S s2 t2 u2,B v2,S w2 x2 y2,S z2 a3 b3],A #[I Z x4,S y4 z4 a5,S b5 c5 d5,S e5 f5 g5,I Z h5,S i5 j5 k5,I Z l5,I Z m5,B n5,S o5 p5 q5,I Z r5,S s5 t5 u5,S v5 w5 x5,B y5,S z5 a6 b6,S c6 d6 e6]] i6)) [J a false 28 [I Z id,S fa fl fc,S ra rl rc,S wa wl wc,I Z bud],J b false 41 [I Z u1,S v1 w1 x1,S y1 z1 a2,S b2 c2 d2,I Z e2,S f2 g2 h2,I Z i2,I Z j2,B k2,S l2 m2 n2,I Z o2,S p2 q2 r2,S s2 t2 u2,B v2,S w2 x2 y2,S z2 a3 b3],J o1 false 41 [I Z x4,S y4 z4 a5,S b5 c5 d5,S e5 f5 g5,I Z h5,S i5 j5 k5,I Z l5,I Z m5,B n5,S o5 p5 q5,I Z r5,S s5 t5 u5,S v5 w5 x5,B y5,S z5 a6 b6,S c6 d6 e6],J u4 false 62 [I Z n4,I Z o4,I Z p4,B q4,S r4 s4 t4],J g6 false 41 [I Z x4,S y4 z4 a5,S b5 c5 d5,S e5 f5 g5,I Z h5,S i5 j5 k5,I Z l5,I Z m5,B n5,S o5 p5 q5,I Z r5,S s5 t5 u5,S v5 w5 x5,B y5,S z5 a6 b6,S c6 d6 e6],J x6 false 32 [S j6 k6 l6,I Z m6,I Z n6,B o6,S p6 q6
 r6,I Z s6]]))/\ (¬f6 = 0->∀ h6:Int,h6 = W Z (t1 + 1)->w10 = w10/\ ∃ i6:Nat,i6 < r1/\ p1 i6 [B s1,I Z h6,A #[I Z u1,S v1 w1 x1,S y1 z1 a2,S b2 c2 d2,I Z e2,S f2 g2 h2,I Z i2,I Z j2,B k2,S l2 m2 n2,I Z o2,S p2 q2 r2,S s2 t2 u2,B v2,S w2 x2 y2,S z2 a3 b3],A w8] w4)))/\ (¬t1 < (↑(N (if 90 < (hl:Int) then 90 else (hl:Int))) : Int)->Y Tryz.prog 134 [A w8] k4 fun l4 m4 =>∃ n4,l4 = B n4/\ (X base k4 m4->K (T #[A w8,B n4]) [] m4))) #[I Z c3,S d3 e3 f3,S g3 h3 i3,S j3 k3 l3,I Z m3,S n3 o3 p3,I Z q3,I Z r3,B s3,S t3 u3 v3,I Z w3,S x3 y3 z3,S a4 b4 c4,B d4,S e4 f4 g4,S h4 i4 j4]))) #[I Z e,S g h i,S j k l,S m n o,I Z p,S q r s,I Z t,I Z u,B v,S w x y,I Z z,S a1 b1 c1,S d1 e1 f1,B g1,S h1 i1 j1,S k1 l1 m1]) [[I Z id,S fa fl fc,S ra rl rc,S wa wl wc,I Z bud]]) := by kernel_rfl
open Go Go.Proofs
noncomputable def TryzMutsN : Muts := ⟨TryzListK, TryzSum, false⟩
theorem TryzvcN {f : FuncId} {fn : Func} (hf : Tryz.prog.funcs[f]? = some fn) (hok : okFn fn = true) {args : List Value} (hargs : Nat.ble args.length fn.ntmps = true) {H : Heap} (Q : Value->Heap->Prop) {sv : List SV} (hsv : args.map SV.v = sv)
  {F : Nat->(Value->List (List Value)->Heap->Prop)->Prop} (hv : ∀ base K, funV ⟨Tryz.prog, fn.ntmps, TryzMutsN, base, H⟩ (bodyOf fn) fn.results.toList sv [] K = F base K)
  (h : ∀ base, (∀ b k, H b = some k->b < base)->F base (fun v _ H' => Q v H')) : Spec Tryz.prog f args H Q :=
 spec_of (muts := TryzMutsN) (TryzsumK false) hf (body_some hok) rfl Tryzmixed (ops_ok hok) (Nat.le_of_ble_eq_true hargs) fun base hb => by
  rw [hsv, hv base]
  exact h base hb
open Go Go.Proofs
theorem vk133 (id bud : Int) (fa ra wa : O) (fl fc rl rc wl wc : Nat) (now goal nx : Int) (back : Bool) (la ka : O) (ll lc kl kc : Nat) (sa ta : O) (sl sc tl tc : Nat) (up : Bool) (na ma : O) (nl nc ml mc : Nat) (base : Nat) (H : Heap) (K : KT) :
 (fV TryzMutsN Tryz.f133 base H [.v (A #[I Z id, S fa fl fc, S ra rl rc, S wa wl wc, I Z bud, S la ll lc, I Z now, I Z goal, B back, S ka kl kc, I Z nx, S sa sl sc, S ta tl tc, B up, S na nl nc, S ma ml mc])] [] K) = (
 ∀ a b:Nat,Y Tryz.prog 64 [A #[S sa sl sc,S ta tl tc]] H fun c d =>∃ e g h i j k l m n o,c = T #[A #[S e g h,S i j k],S l m n,I Z o]/\ (X base H d->∀ p:Nat,Y Tryz.prog 66 [A #[I Z id,S fa fl fc,S ra rl rc,S wa wl wc,I Z bud],S l m n] d fun q r =>∃ s t u v w x y z a1 b1,(fun w6:AV=>(fun w5:LL=>∃ c1,q = T #[A #[S s t u,I Z v,I Z w,B x,S y z a1,I Z b1],I Z c1]/\ (X base d r->∀ d1:Nat,∃ (e1:NI) (f1:Nat),e1 f1 [S none 0 0,B false,S none 0 0,I Z 0,A #[S none 0 0,I Z 0,I Z 0,B false,S none 0 0,I Z 0]] r/\ ∀ (g1:Nat) (h1:O) (i1 j1:Nat) (k1:Bool) (l1:O) (m1 n1:Nat) (o1:Int) (p1:O) (q1 r1:Nat) (s1 t1:Int) (u1:Bool) (v1:O) (w1 x1:Nat) (y1:Int) (z1:Heap),(fun w4:AV=>X base H z1->e1 g1 [S h1 i1 j1,B k1,S l1 m1 n1,I Z o1,A w4] z1->(o1 < (nl:Int)->∃ a2 b2,na = some (D a2 b2 none)/\ 0 <= o1/\ o1 < (nl:Int)/\ ∃ (c2:O) (d2 e2:Nat) (f2 g2:Int) (h2:Bool) (i2:Int) (j2:O) (k2 l2:Nat) (m2:Bool) (n2:O) (o2 p2:Nat) (q2:O) (r2 s2:Nat) (t2:Bool),(C z1 a2 (b2 + N o1 * 10) = some (S c2 d2 e2)/\ C z1 a2 (b2 + N o1 * 10 + 1) = some (I Z f2)/\ C z1 a2 (b2 + N o1 * 10 + 2) = some (I Z g2)/\ C z1 a2 (b2 + N o1 * 10 + 3) = some (B h2)/\ C z1 a2 (b2 + N o1 * 10 + 4) = some (I Z i2)/\ C z1 a2 (b2 + N o1 * 10 + 5) = some (S j2 k2 l2)/\ C z1 a2 (b2 + N o1 * 10 + 6) = some (B m2)/\ C z1 a2 (b2 + N o1 * 10 + 7) = some (S n2 o2 p2)/\ C z1 a2 (b2 + N o1 * 10 + 8) = some (S q2 r2 s2)/\ C z1 a2 (b2 + N o1 * 10 + 9) = some (B t2)/\ True)/\ ∀ u2:Nat,Y Tryz.prog 64 [A #[S n2 o2 p2,S q2 r2 s2]] z1 fun v2 w2 =>∃ x2 y2 z2 a3 b3 c3 d3 e3 f3 g3,v2 = T #[A #[S x2 y2 z2,S a3 b3 c3],S d3 e3 f3,I Z g3]/\ (X base z1 w2->∀ h3:Nat,Y Tryz.prog 67 [A #[I Z id,S fa fl fc],S d3 e3 f3] w2 fun i3 j3 =>∃ k3 l3 m3 n3 o3 p3 q3 r3 s3 t3 u3 v3,i3 = T #[A #[S k3 l3 m3,I Z n3,I Z o3,B p3,I Z q3,S r3 s3 t3,B u3],I Z v3]/\ (X base w2 j3->∀ w3:Nat,(¬g3 = 0->K (T w6) [] j3)/\ (¬¬g3 = 0->(¬v3 = 0->K (T w6) [] j3)/\ (¬¬v3 = 0->∀ x3:Nat,∃ y3:List Value,Row base j3 46 7 l1 m1 n1 y3/\ (m1 + 1) * 88 <= 140737488355328/\ m1 + 1 <= 9223372036854775807/\ ∀ (z3:O) (a4:Nat) (b4:Heap),Grew base j3 b4 l1 n1 z3 a4 (m1 +
 1)->Row base b4 46 7 z3 (m1 + 1) a4 (y3 ++ [S k3 l3 m3,I Z n3,I Z o3,B p3,I Z q3,S r3 s3 t3,B u3])->∀ c4:Int,c4 = W Z (o1 + 1)->w5 = w5/\ ∃ d4:Nat,d4 < g1/\ e1 d4 [S h1 i1 j1,B k1,S z3 (m1 + 1) a4,I Z c4,A w4] b4)))))/\ (¬o1 < (nl:Int)->(o = 0->K (T #[A #[S s t u,I Z v,I Z w,B x,S y z a1,I Z b1],S l1 m1 n1,B (decide (c1 = 0))]) [] z1)/\ (¬o = 0->K (T #[A #[S s t u,I Z v,I Z w,B x,S y z a1,I Z b1],S l1 m1 n1,B false]) [] z1))) #[S p1 q1 r1,I Z s1,I Z t1,B u1,S v1 w1 x1,I Z y1])) [[I Z id,S fa fl fc,S ra rl rc,S wa wl wc,I Z bud,S la ll lc,I Z now,I Z goal,B back,S ka kl kc,I Z nx,S sa sl sc,S ta tl tc,B up,S na nl nc,S ma ml mc],[S e g h,S i j k],[S s t u,I Z v,I Z w,B x,S y z a1,I Z b1]]) #[A #[S s t u,I Z v,I Z w,B x,S y z a1,I Z b1],S none 0 0,B false])) := by kernel_rfl
open Go Go.Proofs
theorem vk134 (id bud : Int) (fa ra wa : O) (fl fc rl rc wl wc : Nat) (now goal nx : Int) (back : Bool) (la ka : O) (ll lc kl kc : Nat) (sa ta : O) (sl sc tl tc : Nat) (up : Bool) (na ma : O) (nl nc ml mc : Nat) (base : Nat) (H : Heap) (K : KT) :
 (fV TryzMutsK Tryz.f134 base H [.v (A #[I Z id, S fa fl fc, S ra rl rc, S wa wl wc, I Z bud, S la ll lc, I Z now, I Z goal, B back, S ka kl kc, I Z nx, S sa sl sc, S ta tl tc, B up, S na nl nc, S ma ml mc])] [] K) = (
 (fun w5:LV=>∀ a:Nat,Y Tryz.prog 133 w5 H fun b c =>∃ d e g h i j k l m n o p q r,b = T #[A #[S d e g,I Z h,I Z i,B j,S k l m,I Z n],S o p q,B r]/\ (X base H c->∀ s:Nat,Y Tryz.prog 17 w5 c fun t u =>∃ v w x y z a1 b1 c1 d1 e1,(fun w4:LL=>∃ f1,t = T #[A #[S v w x,I Z y,I Z z,B a1,S b1 c1 d1,I Z e1],I Z f1]/\ (X base c u->∀ g1:Nat,(fun w3:LB=>∃ h1:Prop,((r = false->w3 = w3/\ SubH u u/\ h1)/\ (¬r = false->(¬f1 = 0->w3 = w3/\ SubH u u/\ h1)/\ (¬¬f1 = 0->Y Tryz.prog 36 [A #[S d e g,I Z h,I Z i,B j,S k l m,I Z n],A #[S v w x,I Z y,I Z z,B a1,S b1 c1 d1,I Z e1]] u fun i1 j1 =>∃ k1,i1 = B k1/\ (X base u j1->w3 = w3/\ SubH u j1/\ (h1↔k1 = false)))))/\ (h1->K (B false) [] u)/\ (¬h1->∃ (i1:NI) (j1:Nat),i1 j1 [B false,I Z 0] u/\ ∀ (k1:Nat) (l1:Bool) (m1:Int) (n1:Heap),X base H n1->i1 k1 [B l1,I Z m1] n1->(m1 < (p:Int)->∃ o1 p1,o = some (D o1 p1 none)/\ 0 <= m1/\ m1 < (p:Int)/\ ∃ (q1:O) (r1 s1:Nat) (t1 u1:Int) (v1:Bool) (w1:Int) (x1:O) (y1 z1:Nat) (a2:Bool),(C n1 o1 (p1 + N m1 * 7) = some (S q1 r1 s1)/\ C n1 o1 (p1 + N m1 * 7 + 1) = some (I Z t1)/\ C n1 o1 (p1 + N m1 * 7 + 2) = some (I Z u1)/\ C n1 o1 (p1 + N m1 * 7 + 3) = some (B v1)/\ C n1 o1 (p1 + N m1 * 7 + 4) = some (I Z w1)/\ C n1 o1 (p1 + N m1 * 7 + 5) = some (S x1 y1 z1)/\ C n1 o1 (p1 + N m1 * 7 + 6) = some (B a2)/\ True)/\ ∀ b2:Nat,Y Tryz.prog 18 [A #[I Z id,S fa fl fc,S ra rl rc,S wa wl wc,I Z bud,S la ll lc,I Z now,I Z goal,B back,S ka kl kc,I Z nx,S sa sl sc,S ta tl tc,B up,S na nl nc,S ma ml mc],I Z m1] n1 fun c2 d2 =>∃ e2 f2 g2 h2 i2 j2 k2 l2 m2 n2 o2 p2,c2 = T #[A #[S e2 f2 g2,I Z h2,I Z i2,B j2,I Z k2,S l2 m2 n2,B o2],I Z p2]/\ (X base n1 d2->∀ q2:Nat,(fun w2:LB=>∃ r2:Prop,((¬p2 = 0->w2 = w2/\ SubH d2 d2/\ r2)/\ (¬¬p2 = 0->Y Tryz.prog 38 [A #[S q1 r1 s1,I Z t1,I Z u1,B v1,I Z w1,S x1 y1 z1,B a2],A #[S e2 f2 g2,I Z h2,I Z i2,B j2,I Z k2,S l2 m2 n2,B o2]] d2 fun s2 t2 =>∃ u2,s2 = B u2/\ (X base d2 t2->w2 = w2/\ SubH d2 t2/\ (r2↔u2 = false))))/\ (r2->K (B false) [] d2)/\ (¬r2->∀ s2:Int,s2 = W Z (m1 + 1)->w4 = w4/\ ∃ t2:Nat,t2 < k1/\ i1 t2 [B l1,I Z s2] d2)) [J a false 41 [I Z id,S fa fl fc,S ra rl rc,S wa wl
 wc,I Z bud,S la ll lc,I Z now,I Z goal,B back,S ka kl kc,I Z nx,S sa sl sc,S ta tl tc,B up,S na nl nc,S ma ml mc],J s false 32 [S d e g,I Z h,I Z i,B j,S k l m,I Z n],J g1 false 32 [S v w x,I Z y,I Z z,B a1,S b1 c1 d1,I Z e1],J b2 false 46 [S q1 r1 s1,I Z t1,I Z u1,B v1,I Z w1,S x1 y1 z1,B a2],J q2 false 46 [S e2 f2 g2,I Z h2,I Z i2,B j2,I Z k2,S l2 m2 n2,B o2]]))/\ (¬m1 < (p:Int)->K (B true) [] n1))) [J a false 41 [I Z id,S fa fl fc,S ra rl rc,S wa wl wc,I Z bud,S la ll lc,I Z now,I Z goal,B back,S ka kl kc,I Z nx,S sa sl sc,S ta tl tc,B up,S na nl nc,S ma ml mc],J s false 32 [S d e g,I Z h,I Z i,B j,S k l m,I Z n],J g1 false 32 [S v w x,I Z y,I Z z,B a1,S b1 c1 d1,I Z e1]])) [[I Z id,S fa fl fc,S ra rl rc,S wa wl wc,I Z bud,S la ll lc,I Z now,I Z goal,B back,S ka kl kc,I Z nx,S sa sl sc,S ta tl tc,B up,S na nl nc,S ma ml mc],[S d e g,I Z h,I Z i,B j,S k l m,I Z n],[S v w x,I Z y,I Z z,B a1,S b1 c1 d1,I Z e1]])) [A #[I Z id,S fa fl fc,S ra rl rc,S wa wl wc,I Z bud,S la ll lc,I Z now,I Z goal,B back,S ka kl kc,I Z nx,S sa sl sc,S ta tl tc,B up,S na nl nc,S ma ml mc]]) := by kernel_rfl
open Go
structure Step where
 kind : Int
 name : Int
 ver : Int
 deriving DecidableEq
def dropOf (b : List Pin) (p : Pin) : Option Step := if find b p.name = 0 then some ⟨2, p.name, 0⟩ else none
def addOf (a : List Pin) (p : Pin) : Option Step := if find a p.name = p.ver then none else if find a p.name = 0 then some ⟨1, p.name, p.ver⟩ else some ⟨3, p.name, p.ver⟩
def drops (a b : List Pin) : List Step := a.filterMap (dropOf b)
def adds (a b : List Pin) : List Step := b.filterMap (addOf a)
def diffs (a b : List Pin) : List Step := drops a b ++ adds a b
def diffErr (a b : List Pin) : Int := if lockCheck a = 0 then lockCheck b else lockCheck a
def del (n : Int) (l : List Pin) : List Pin := l.filter fun p => p.name ≠ n
def applied (l : List Pin) (o : Step) : List Pin := if o.kind = 2 then del o.name l else up o.name o.ver l
def badStep (o : Step) : Prop := o.name < 1 ∨ 20 < o.name ∨ (o.kind ≠ 2/\ (o.ver < 1 ∨ 99 < o.ver)) ∨ (o.kind = 2/\ o.ver ≠ 0)
instance (o : Step) : Decidable (badStep o) := by unfold badStep; infer_instance
def applyErr (l : List Pin) (o : Step) : Int :=
 if lockCheck l ≠ 0 then lockCheck l else
 if o.kind < 1 ∨ 3 < o.kind then 4 else
 if badStep o then 3 else
 if o.kind = 1/\ find l o.name ≠ 0 then 6 else
 if o.kind ≠ 1/\ find l o.name = 0 then 5 else
 if o.kind = 1/\ l.length = 12 then 2 else 0
theorem find_del {l : List Pin} (n m : Int) : find (del n l) m = if m = n then 0 else find l m := by
 induction l with
 | nil => simp [del, find]
 | cons p r ih =>
  unfold del at ih ⊢
  rw [List.filter_cons]
  by_cases h : p.name = n
  ·rw [if_neg (by simp [h]), ih]
   by_cases e : m = n
   ·rw [if_pos e, if_pos e]
   ·rw [if_neg e, if_neg e, find, if_neg (by omega)]
  ·rw [if_pos (by simp [h]), find, ih, find]
   by_cases e : p.name = m
   ·rw [if_pos e, if_pos e, if_neg (by omega)]
   ·rw [if_neg e, if_neg e]
theorem Lk.del {l : List Pin} (h : Lk l) (n : Int) : Lk (del n l) :=
 ⟨fun p hp => h.good p (List.mem_filter.1 hp).1, h.rise.sublist List.filter_sublist⟩
theorem applied_find {l : List Pin} (h : Lk l) (o : Step) (m : Int) (hk : o.kind = 2->o.ver = 0) : find (applied l o) m = if m = o.name then o.ver else find l m := by
 unfold applied
 split
 ·rename_i e; rw [find_del, hk e]
 ·rw [find_up m h]
theorem names_len : ∀ {l m : List Pin}, Lk l->Lk m->(∀ p ∈ l, find m p.name ≠ 0)->l.length <= m.length := by
 intro l m hl hm h
 have hlk : ∀ {x : List Pin}, Lk x->Lk (x.map fun p => ⟨p.name, 1⟩) := fun hx => ⟨fun p hp => by
  obtain ⟨q, hq, rfl⟩ := List.mem_map.1 hp
  have := hx.name hq
  unfold badPin; simp; omega, by
  rw [List.pairwise_map]; exact hx.rise⟩
 have hf : ∀ (x : List Pin) (n : Int), Lk x->find (x.map fun p => ⟨p.name, 1⟩) n = if find x n = 0 then 0 else 1 := by
  intro x n hx
  induction x with
  | nil => rfl
  | cons p r ih =>
   rw [List.map_cons, find, find]
   by_cases e : p.name = n
   ·have := hx.name (p := p) List.mem_cons_self
    rw [if_pos e, if_pos e, if_neg (by omega)]
   ·rw [if_neg e, if_neg e, ih hx.tail]
 have := LeL.len (hlk hl) (hlk hm) fun n => by
  rw [hf l n hl, hf m n hm]
  by_cases e : find l n = 0
  ·rw [if_pos e]; split <;> omega
  ·obtain ⟨p, h1, h2, _⟩ := find_pos e
   have := h p h1
   rw [h2] at this
   rw [if_neg e, if_neg this]
   exact Int.le_refl _
 simpa using this
theorem filterMap_congr' {f g : Pin->Option Step} : ∀ {l : List Pin}, (∀ x ∈ l, g x = f x)->l.filterMap g = l.filterMap f
 | [], _ => rfl
 | x :: r, h => by
  have ih := filterMap_congr' (l := r) fun y hy => h y (List.mem_cons_of_mem _ hy)
  have hx := h x List.mem_cons_self
  cases hf : f x with
  | none => rw [List.filterMap_cons_none hf, List.filterMap_cons_none (hx.trans hf), ih]
  | some s => rw [List.filterMap_cons_some hf, List.filterMap_cons_some (hx.trans hf), ih]
theorem first_gone {f g : Pin->Option Step} {n : Int} (hn : ∀ q s, f q = some s->s.name = q.name) : ∀ {l : List Pin}, l.Pairwise (fun p q => p.name < q.name)->(∀ q ∈ l, q.name ≠ n->g q = f q)->(∀ q ∈ l, q.name = n->g q = none)->
  ∀ {o : Step} {rest : List Step}, l.filterMap f = o :: rest->o.name = n->l.filterMap g = rest
 | [], _, _, _, o, rest, h, _ => by cases h
 | q :: r, hp, h1, h2, o, rest, h, ho => by
  obtain ⟨hq, hr⟩ := List.pairwise_cons.1 hp
  cases hf : f q with
  | none =>
   rw [List.filterMap_cons_none hf] at h
   have hg : g q = none := by
    by_cases e : q.name = n
    ·exact h2 q List.mem_cons_self e
    ·rw [h1 q List.mem_cons_self e, hf]
   rw [List.filterMap_cons_none hg]
   exact first_gone hn hr (fun x hx => h1 x (List.mem_cons_of_mem _ hx)) (fun x hx => h2 x (List.mem_cons_of_mem _ hx)) h ho
  | some s =>
   rw [List.filterMap_cons_some hf] at h
   obtain ⟨rfl, rfl⟩ : s = o/\ r.filterMap f = rest := by simpa using h
   have e := hn q s hf
   rw [List.filterMap_cons_none (h2 q List.mem_cons_self (by omega))]
   exact filterMap_congr' fun x hx => h1 x (List.mem_cons_of_mem _ hx) (by have := hq x hx; omega)
theorem dropOf_name {b : List Pin} (q : Pin) (s : Step) (h : dropOf b q = some s) : s.name = q.name/\ s.kind = 2/\ s.ver = 0/\ find b q.name = 0 := by
 unfold dropOf at h
 split at h
 ·cases h; rename_i e; exact ⟨rfl, rfl, rfl, e⟩
 ·cases h
theorem addOf_name {a : List Pin} (q : Pin) (s : Step) (h : addOf a q = some s) : s.name = q.name/\ s.ver = q.ver/\ find a q.name ≠ q.ver/\ (s.kind = 1/\ find a q.name = 0 ∨ s.kind = 3/\ find a q.name ≠ 0) := by
 unfold addOf at h
 split at h
 ·cases h
 ·rename_i e
  split at h
  ·cases h; rename_i e2; exact ⟨rfl, rfl, e, .inl ⟨rfl, e2⟩⟩
  ·cases h; rename_i e2; exact ⟨rfl, rfl, e, .inr ⟨rfl, e2⟩⟩
theorem drops_nil {a b : List Pin} (h : drops a b = []) : ∀ p ∈ a, find b p.name ≠ 0 := fun p hp e => by
 have := List.filterMap_eq_nil_iff.1 h p hp
 unfold dropOf at this
 rw [if_pos e] at this; cases this
theorem adds_nil {a b : List Pin} (h : adds a b = []) : ∀ p ∈ b, find a p.name = p.ver := fun p hp => by
 have := List.filterMap_eq_nil_iff.1 h p hp
 unfold addOf at this
 split at this
 ·assumption
 ·split at this <;> cases this
theorem diffs_nil {a b : List Pin} (ha : Lk a) (hb : Lk b) (h : diffs a b = []) : a = b := by
 obtain ⟨h1, h2⟩ := List.append_eq_nil_iff.1 h
 refine ha.ext hb fun n => ?_
 by_cases e : find b n = 0
 ·rw [e]
  by_cases e2 : find a n = 0
  ·exact e2
  ·obtain ⟨p, hp, rfl, _⟩ := find_pos e2
   exact absurd e (drops_nil h1 p hp)
 ·obtain ⟨p, hp, rfl, hv⟩ := find_pos e
  rw [adds_nil h2 p hp, hv]
structure StepOk (a b : List Pin) (o : Step) : Prop where
 name : 1 <= o.name/\ o.name <= 20
 ver : o.ver = find b o.name
 differs : find a o.name ≠ find b o.name
 kind : (o.kind = 2/\ find b o.name = 0/\ find a o.name ≠ 0) ∨ (o.kind = 1/\ find a o.name = 0/\ find b o.name ≠ 0) ∨ (o.kind = 3/\ find a o.name ≠ 0/\ find b o.name ≠ 0)
theorem diffs_mem {a b : List Pin} (ha : Lk a) (hb : Lk b) {o : Step} (h : o ∈ diffs a b) : StepOk a b o := by
 rcases List.mem_append.1 h with h | h
 ·obtain ⟨p, hp, he⟩ := List.mem_filterMap.1 h
  obtain ⟨h1, h2, h3, h4⟩ := dropOf_name p o he
  have hn := ha.name hp
  have hf := find_mem ha hp
  rw [← h1] at h4 hn hf
  exact ⟨⟨hn.1, hn.2.1⟩, by rw [h3, h4], by rw [hf, h4]; omega, .inl ⟨h2, h4, by rw [hf]; omega⟩⟩
 ·obtain ⟨p, hp, he⟩ := List.mem_filterMap.1 h
  obtain ⟨h1, h2, h3, h4⟩ := addOf_name p o he
  have hn := hb.name hp
  have hf := find_mem hb hp
  rw [← h1] at h3 h4 hn hf
  refine ⟨⟨hn.1, hn.2.1⟩, by rw [h2, hf], by rw [hf]; exact h3, ?_⟩
  rcases h4 with ⟨h5, h6⟩ | ⟨h5, h6⟩
  ·exact .inr (.inl ⟨h5, h6, by rw [hf]; omega⟩)
  ·exact .inr (.inr ⟨h5, h6, by rw [hf]; omega⟩)
theorem StepOk.good {a b : List Pin} (hb : Lk b) {o : Step} (h : StepOk a b o) : ¬ badStep o/\ 1 <= o.kind/\ o.kind <= 3/\ (o.kind = 2->o.ver = 0)/\ (o.kind ≠ 2->1 <= o.ver/\ o.ver <= 99) := by
 have h1 := h.name
 have h2 := h.ver
 have h3 := hb.find_range o.name
 unfold badStep
 rcases h.kind with h4 | h4 | h4 <;> omega
theorem StepOk.applied {a b : List Pin} (ha : Lk a) (hb : Lk b) {o : Step} (h : StepOk a b o) : Lk (applied a o)/\ ∀ m, find (applied a o) m = if m = o.name then find b m else find a m := by
 have hg := h.good hb
 refine ⟨?_, fun m => ?_⟩
 ·unfold Vg.applied
  split
  ·exact ha.del _
  ·rename_i e; exact ha.up h.name (hg.2.2.2.2 e)
 ·rw [applied_find ha o m hg.2.2.2.1]
  by_cases e : m = o.name
  ·rw [if_pos e, if_pos e, e, h.ver]
  ·rw [if_neg e, if_neg e]
theorem diffs_step {a b : List Pin} (ha : Lk a) (hb : Lk b) {o : Step} {rest : List Step} (h : diffs a b = o :: rest) : diffs (applied a o) b = rest := by
 have hok := diffs_mem ha hb (h ▸ List.mem_cons_self : o ∈ diffs a b)
 obtain ⟨hL, hf⟩ := hok.applied ha hb
 unfold diffs at h ⊢
 cases hd : drops a b with
 | nil =>
  rw [hd, List.nil_append] at h
  have h1 : drops (applied a o) b = [] := List.filterMap_eq_nil_iff.2 fun p hp => by
   have hm := hL.name hp
   have := hf p.name
   rw [find_mem hL hp] at this
   rw [dropOf, if_neg]
   intro e
   by_cases e2 : p.name = o.name
   ·rw [if_pos e2] at this; omega
   ·rw [if_neg e2] at this
    obtain ⟨q, hq, hqn, _⟩ := find_pos (l := a) (n := p.name) (by omega)
    have := drops_nil hd q hq
    rw [hqn] at this; exact this e
  rw [h1, List.nil_append]
  refine first_gone (f := addOf a) (g := addOf (applied a o)) (n := o.name) (fun q s hs => (addOf_name q s hs).1) hb.rise (fun q hq hn => ?_) (fun q hq hn => ?_) h rfl
  ·unfold addOf; rw [hf, if_neg hn]
  ·unfold addOf; rw [hf, if_pos hn, if_pos (find_mem hb hq)]
 | cons o' r =>
  rw [hd] at h
  obtain ⟨rfl, rfl⟩ : o' = o/\ r ++ adds a b = rest := by simpa using h
  obtain ⟨p, hp, he⟩ := List.mem_filterMap.1 (hd ▸ List.mem_cons_self : o' ∈ drops a b)
  obtain ⟨h1, h2, h3, h4⟩ := dropOf_name p o' he
  have happ : applied a o' = del o'.name a := by unfold applied; rw [if_pos h2]
  have hdr : drops (applied a o') b = r := by
   have e1 : (del o'.name a).filterMap (dropOf b) = a.filterMap fun q => if q.name ≠ o'.name then dropOf b q else none := by
    unfold del
    generalize a = x
    induction x with
    | nil => rfl
    | cons q x ih =>
     rw [List.filter_cons]
     by_cases e : q.name = o'.name
     ·rw [if_neg (by simp [e]), ih, List.filterMap_cons_none (by simp [e])]
     ·rw [if_pos (by simp [e])]
      cases hq : dropOf b q with
      | none => rw [List.filterMap_cons_none hq, List.filterMap_cons_none (by simp [e, hq]), ih]
      | some s => rw [List.filterMap_cons_some hq, List.filterMap_cons_some (b := s) (by simp [e, hq]), ih]
   unfold drops
   rw [happ, e1]
   refine first_gone (f := dropOf b) (n := o'.name) (fun q s hs => (dropOf_name q s hs).1) ha.rise (fun q hq hn => ?_) (fun q hq hn => ?_) hd rfl
   ·rw [if_pos hn]
   ·rw [if_neg (by simp [hn])]
  have had : adds (applied a o') b = adds a b := by
   unfold adds
   refine filterMap_congr' fun q hq => ?_
   have hne : q.name ≠ o'.name := fun e => by
    have := hb.name hq
    rw [← e] at h1
    rw [← h1, find_mem hb hq] at h4; omega
   unfold addOf; rw [hf, if_neg hne]
  rw [hdr, had]
theorem diffs_fits {a b : List Pin} (ha : Lk a) (hb : Lk b) (ha12 : a.length <= 12) (hb12 : b.length <= 12) {o : Step} {rest : List Step} (h : diffs a b = o :: rest) : applyErr a o = 0/\ (applied a o).length <= 12 := by
 have hok := diffs_mem ha hb (h ▸ List.mem_cons_self : o ∈ diffs a b)
 obtain ⟨hL, hf⟩ := hok.applied ha hb
 have hg := hok.good hb
 have hlen : (applied a o).length <= 12/\ (o.kind = 1->a.length + 1 <= (applied a o).length) := by
  rcases hok.kind with ⟨h1, h2, h3⟩ | ⟨h1, h2, h3⟩ | ⟨h1, h2, h3⟩
  ·refine ⟨?_, by omega⟩
   unfold applied; rw [if_pos h1]
   have := List.length_filter_le (fun p : Pin => p.name ≠ o.name) a
   unfold del; omega
  ·have hdn : drops a b = [] := by
    cases hd : drops a b with
    | nil => rfl
    | cons o' r =>
     obtain ⟨p, hp, he⟩ := List.mem_filterMap.1 (hd ▸ List.mem_cons_self : o' ∈ drops a b)
     have := dropOf_name p o' he
     unfold diffs at h
     rw [hd] at h
     obtain ⟨rfl, _⟩ : o' = o/\ r ++ adds a b = rest := by simpa using h
     omega
   have h5 := names_len hL hb fun p hp => by
    by_cases e : p.name = o.name
    ·rw [e]; exact h3
    ·have hm := hL.name hp
     have := hf p.name
     rw [find_mem hL hp, if_neg e] at this
     obtain ⟨q, hq, hqn, _⟩ := find_pos (l := a) (n := p.name) (by omega)
     have := drops_nil hdn q hq
     rw [hqn] at this; exact this
   refine ⟨by omega, fun _ => ?_⟩
   unfold applied; rw [if_neg (by omega)]
   have : ∀ {l : List Pin}, find l o.name = 0->(∀ p ∈ l, p.ver ≠ 0)->(up o.name o.ver l).length = l.length + 1 := by
    intro l
    induction l with
    | nil => intro _ _; rfl
    | cons p r ih =>
     intro h hv
     rw [find] at h
     have hp := hv p List.mem_cons_self
     by_cases e : p.name = o.name
     ·rw [if_pos e] at h; exact absurd h hp
     ·rw [if_neg e] at h
      unfold up
      split
      ·simp
      ·simp [ih h fun q hq => hv q (List.mem_cons_of_mem _ hq)]
   rw [this h2 fun p hp => by have := ha.name hp; omega]
   exact Nat.le_refl _
  ·refine ⟨?_, by omega⟩
   have h5 := names_len hL ha fun p hp => by
    by_cases e : p.name = o.name
    ·rw [e]; exact h2
    ·have hm := hL.name hp
     have := hf p.name
     rw [find_mem hL hp, if_neg e] at this
     omega
   omega
 refine ⟨?_, hlen.1⟩
 unfold applyErr
 rw [if_neg (by simp [lockCheck_zero.2 ⟨ha, ha12⟩]), if_neg (by omega), if_neg hg.1]
 rcases hok.kind with ⟨h1, h2, h3⟩ | ⟨h1, h2, h3⟩ | ⟨h1, h2, h3⟩
 ·rw [if_neg (by omega), if_neg (by omega), if_neg (by omega)]
 ·rw [if_neg (by omega), if_neg (by omega), if_neg (by have := hlen.2 h1; omega)]
 ·rw [if_neg (by omega), if_neg (by omega), if_neg (by omega)]
def between (ops : List Step) (l : List Pin) : Int->List Pin->Int
 | k, now => match ops with
  | [] => if now = l then k else -1
  | o :: r => if now = l then k else between r l (k + 1) (applied now o)
theorem diffErr_zero {a b : List Pin} : diffErr a b = 0 ↔ (Lk a/\ a.length <= 12)/\ (Lk b/\ b.length <= 12) := by
 unfold diffErr
 rw [← lockCheck_zero, ← lockCheck_zero]
 split <;> rename_i h <;> simp [h]
open Go
def inR (n a b : Int) : Bool := decide (a <= n/\ n <= b)
def waveIn (k : Int) : List Int->List Int->Except Int (List Int)
 | seen, [] => .ok seen
 | seen, a :: r => if a < 0 then .error 5 else if k <= a then .error 5 else if a ∈ seen then .error 6 else waveIn k (seen ++ [a]) r
def waveAll (k : Int) : List Int->List (List Int)->Int
 | seen, [] => if (seen.length : Int) < k then 4 else 0
 | seen, w :: r => if w = [] then 4 else match waveIn k seen w with | .error e => e | .ok s => waveAll k s r
def waveCheck (l : List (List Int)) (k : Int) : Int := if k < 1 then 3 else if 6 < k then 3 else waveAll k [] l
def WOk (k : Int) (s : List Int) : Prop := s.Nodup/\ ∀ a ∈ s, 0 <= a/\ a < k
theorem wok_nil (k : Int) : WOk k [] := ⟨List.nodup_nil, by simp⟩
theorem wok_snoc {k : Int} {s : List Int} (h : WOk k s) {a : Int} (h0 : 0 <= a) (h1 : a < k) (hn : a ∉ s) : WOk k (s ++ [a]) := by
 refine ⟨?_, fun b hb => ?_⟩
 ·rw [List.nodup_append]
  refine ⟨h.1, by simp, fun x hx y hy => ?_⟩
  simp at hy; subst hy; rintro rfl; exact hn hx
 ·rw [List.mem_append] at hb
  rcases hb with hb | hb
  ·exact h.2 b hb
  ·simp at hb; subst hb; exact ⟨h0, h1⟩
theorem nodup_len : ∀ (n : Nat) (s : List Int), s.Nodup->(∀ a ∈ s, 0 <= a/\ a < n)->s.length <= n
 | 0, s, _, h => by
  cases s with
  | nil => simp
  | cons a r => have := h a List.mem_cons_self; omega
 | n + 1, s, hn, h => by
  by_cases hm : (n : Int) ∈ s
  ·have h1 := List.length_erase_of_mem hm
   have h2 := nodup_len n (s.erase n) (hn.erase _) (fun a ha => by
    rw [hn.mem_erase_iff] at ha
    have := h a ha.2
    have := ha.1
    omega)
   have h3 : 0 < s.length := List.length_pos_of_mem hm
   omega
  ·have h2 := nodup_len n s hn (fun a ha => by
    have := h a ha
    have : a ≠ n := by rintro rfl; exact hm ha
    omega)
   omega
theorem WOk.len {k : Int} {s : List Int} (h : WOk k s) (hk : 0 <= k) : (s.length : Int) <= k := by
 have := nodup_len k.toNat s h.1 (fun a ha => by have := h.2 a ha; omega)
 omega
theorem waveIn_ok {k : Int} : ∀ (w : List Int) {s s' : List Int}, WOk k s->waveIn k s w = .ok s'->s' = s ++ w/\ WOk k s'
 | [], s, s', h, e => by simp [waveIn] at e; subst e; simp [h]
 | a :: r, s, s', h, e => by
  unfold waveIn at e
  split at e
  ·cases e
  ·split at e
   ·cases e
   ·split at e
    ·cases e
    ·rename_i h0 h1 h2
     obtain ⟨e1, e2⟩ := waveIn_ok r (wok_snoc h (by omega) (by omega) h2) e
     exact ⟨by rw [e1]; simp, e2⟩
theorem waveAll_zero {k : Int} (hk : 0 <= k) : ∀ (l : List (List Int)) {s : List Int}, WOk k s->waveAll k s l = 0->WOk k (s ++ l.flatten)/\ ((s ++ l.flatten).length : Int) = k/\ ∀ w ∈ l, w ≠ []
 | [], s, h, e => by
  unfold waveAll at e
  split at e
  ·omega
  ·have := h.len hk
   simp only [List.flatten_nil, List.append_nil]
   exact ⟨h, by omega, by simp⟩
 | w :: r, s, h, e => by
  unfold waveAll at e
  split at e
  ·omega
  ·rename_i hw
   cases e2 : waveIn k s w with
   | error x =>
    rw [e2] at e
    simp only at e
    exfalso
    clear hk
    induction w generalizing s with
    | nil => simp [waveIn] at e2
    | cons a q ih =>
     unfold waveIn at e2
     split at e2
     ·cases e2; omega
     ·split at e2
      ·cases e2; omega
      ·split at e2
       ·cases e2; omega
       ·rename_i h0 h1 h2
        by_cases hq : q = []
        ·subst hq; simp [waveIn] at e2
        ·exact ih _ (wok_snoc h (by omega) (by omega) h2) hq e2
   | ok s' =>
    rw [e2] at e
    obtain ⟨e3, e4⟩ := waveIn_ok w h e2
    obtain ⟨a1, a2, a3⟩ := waveAll_zero hk r e4 e
    subst e3
    rw [List.flatten_cons, ← List.append_assoc]
    exact ⟨a1, a2, fun x hx => by
     rcases List.mem_cons.1 hx with rfl | hx
     ·exact hw
     ·exact a3 x hx⟩
theorem nodup_full : ∀ (n : Nat) (s : List Int), s.Nodup->(∀ a ∈ s, 0 <= a/\ a < n)->s.length = n->∀ a : Int, 0 <= a->a < n->a ∈ s := by
 intro n s hn h hl a h0 h1
 by_cases hm : a ∈ s
 ·exact hm
 ·have := nodup_len n (a :: s) (List.nodup_cons.2 ⟨hm, hn⟩) (fun b hb => by
   rcases List.mem_cons.1 hb with rfl | hb
   ·exact ⟨h0, h1⟩
   ·exact h b hb)
  simp at this
  omega
theorem waveCheck_zero {l : List (List Int)} {k : Int} (h : waveCheck l k = 0) : 1 <= k/\ k <= 6/\ l.flatten.Nodup/\ (∀ a : Int, a ∈ l.flatten ↔ 0 <= a/\ a < k)/\ ∀ w ∈ l, w ≠ [] := by
 unfold waveCheck at h
 split at h
 ·omega
 ·split at h
  ·omega
  ·obtain ⟨h1, h2, h3⟩ := waveAll_zero (by omega) l (wok_nil k) h
   simp only [List.nil_append] at h1 h2
   refine ⟨by omega, by omega, h1.1, fun a => ⟨h1.2 a, fun ⟨ha, hb⟩ => ?_⟩, h3⟩
   exact nodup_full k.toNat _ h1.1 (fun b hb => by have := h1.2 b hb; omega) (by omega) a ha (by omega)

def waveOfFrom (a : Int) : Int->List (List Int)->Int
 | _, [] => -1
 | i, w :: r => if a ∈ w then i else waveOfFrom a (i + 1) r
def waveOf (l : List (List Int)) (a : Int) : Int := waveOfFrom a 0 l
theorem waveOfFrom_spec (a : Int) : ∀ (l : List (List Int)) (i : Int), (waveOfFrom a i l = -1/\ a ∉ l.flatten) ∨ ∃ (j : Nat) (w : List Int), waveOfFrom a i l = i + j/\ l[j]? = some w/\ a ∈ w/\ ∀ (m : Nat) (v : List Int), m < j->l[m]? = some v->a ∉ v
 | [], i => .inl ⟨rfl, by simp⟩
 | w :: r, i => by
  unfold waveOfFrom
  by_cases h : a ∈ w
  ·rw [if_pos h]
   exact .inr ⟨0, w, by simp, rfl, h, fun m v hm => by omega⟩
  ·rw [if_neg h]
   rcases waveOfFrom_spec a r (i + 1) with ⟨h1, h2⟩ | ⟨j, v, h1, h2, h3, h4⟩
   ·exact .inl ⟨h1, by simp [h]; simpa using h2⟩
   ·refine .inr ⟨j + 1, v, by rw [h1]; omega, h2, h3, fun m u hm hu => ?_⟩
    cases m with
    | zero => simp at hu; subst hu; exact h
    | succ m => exact h4 m u (by omega) hu
def notThrough (th : List Bool) (a : Int) : Bool := th[a.toNat]? == some false
def nowFrom (th : List Bool) : Int->List (List Int)->Int
 | i, [] => i
 | i, w :: r => if w.any (notThrough th) then i else nowFrom th (i + 1) r
structure IsNow (l : List (List Int)) (th : List Bool) (n : Nat) : Prop where
 ahead : ∀ (i : Nat) w, l[i]? = some w->i < n->∀ a ∈ w, notThrough th a = false
 le : n <= l.length
 here : n < l.length->∃ w, l[n]? = some w/\ ∃ a ∈ w, notThrough th a = true
theorem nowFrom_spec (th : List Bool) : ∀ (l : List (List Int)) (i : Int), ∃ n : Nat, nowFrom th i l = i + n/\ IsNow l th n
 | [], i => ⟨0, by simp [nowFrom], ⟨fun i w hw h => by omega, by simp, fun h => by simp at h⟩⟩
 | w :: r, i => by
  unfold nowFrom
  by_cases h : w.any (notThrough th) = true
  ·rw [if_pos h]
   refine ⟨0, by simp, ⟨fun i w hw h => by omega, by omega, fun _ => ⟨w, rfl, ?_⟩⟩⟩
   simpa using h
  ·rw [if_neg h]
   obtain ⟨n, hn, hI⟩ := nowFrom_spec th r (i + 1)
   refine ⟨n + 1, by rw [hn]; omega, ⟨fun j v hv hj a ha => ?_, by have := hI.le; simp; omega, fun hl => ?_⟩⟩
   ·cases j with
    | zero =>
     simp at hv; subst hv
     cases hx : notThrough th a with
     | false => rfl
     | true => exact absurd (List.any_eq_true.2 ⟨a, ha, hx⟩) h
    | succ j => exact hI.ahead j v (by simpa using hv) (by omega) a ha
   ·simpa using hI.here (by simp at hl; omega)
open Go Go.Proofs
theorem vc102 (n a b : Int) (base : Nat) (H : Heap) (K : KT) :
 (fV TryzMuts Tryz.f92 base H [.v (I Z n), .v (I Z a), .v (I Z b)] [] K) = (
 (a <= n->K (B (decide (n <= b))) [] H)/\ (¬a <= n->K (B false) [] H)) := by kernel_rfl
theorem vc140 (a : O) (l c : Nat) (x : Int) (base : Nat) (H : Heap) (K : KT) :
 (fV TryzMuts Tryz.f194 base H [.v (S a l c), .v (I Z x)] [] K) = (
 ∃ (b:LI) (d:LM),b [I Z 0,I Z 0] H/\ ∀ (e g:Int) (h:Heap),X base H h->b [I Z e,I Z g] h->(g < (l:Int)->∃ i j,a = some (D i j none)/\ 0 <= g/\ g < (l:Int)/\ ∃ k,C h i (j + N g * 1) = some (I Z k)/\ (x = k->K (I Z g) [] h)/\ (¬x = k->∀ m:Int,m = W Z (g + 1)->b [I Z e,I Z m] h/\ d [I Z e,I Z m] < d [I Z e,I Z g]))/\ (¬g < (l:Int)->K (I Z (-1)) [] h)) := by kernel_rfl
theorem vc103 (a : O) (l c : Nat) (x : Int) (base : Nat) (H : Heap) (K : KT) :
 (fV TryzMuts Tryz.f137 base H [.v (S a l c), .v (I Z x)] [] K) = (
 Y Tryz.prog 194 [S a l c,I Z x] H fun b d =>∃ e,b = I Z e/\ (X base H d->K (B (decide (0 <= e))) [] d)) := by kernel_rfl
theorem vc26 (a : O) (l c : Nat) (k : Int) (base : Nat) (H : Heap) (K : KT) :
 (fV TryzMuts Tryz.f187 base H [.v (S a l c), .v (I Z k)] [] K) = (
 (k < 1->K (I Z 3) [] H)/\ (¬k < 1->(6 < k->K (I Z 3) [] H)/\ (¬6 < k->∀ b:Nat,∃ (d:LI) (e:LM),d [I Z 0,I Z 0,A #[]] H/\ ∀ (g h:Int) (i:List Value) (j:Heap),X base H j->d [I Z g,I Z h,A (List.toArray i)] j->(h < (l:Int)->∃ m n,a = some (D m n none)/\ 0 <= h/\ h < (l:Int)/\ ∃ o p q,C j m (n + N h * 1) = some (S o p q)/\ ((p:Int) = 0->K (I Z 4) [] j)/\ (¬(p:Int) = 0->∃ (r:LI) (s:LM),r [I Z g,I Z 0,A (List.toArray i)] j/\ ∀ (t u:Int) (v:List Value) (w:Heap),X base H w->r [I Z t,I Z u,A (List.toArray v)] w->(u < (p:Int)->∃ x y,o = some (D x y none)/\ 0 <= u/\ u < (p:Int)/\ ∃ z,C w x (y + N u * 1) = some (I Z z)/\ (z < 0->K (I Z 5) [] w)/\ (¬z < 0->(k <= z->K (I Z 5) [] w)/\ (¬k <= z->∃ a1 b1:Bool,mapGet (B false) (I Z z) v = some (B a1,b1)/\ (a1 = true->K (I Z 6) [] w)/\ (a1 = false->∃ c1:List Value,mapSet (I Z z) (B true) v = some c1/\ ∀ d1:Int,d1 = W Z (u + 1)->r [I Z t,I Z d1,A (List.toArray c1)] w/\ s [I Z t,I Z d1,A (List.toArray c1)] < s [I Z t,I Z u,A (List.toArray v)]))))/\ (¬u < (p:Int)->∀ x:Int,x = W Z (h + 1)->d [I Z t,I Z x,A (List.toArray v)] w/\ e [I Z t,I Z x,A (List.toArray v)] < e [I Z g,I Z h,A (List.toArray i)])))/\ (¬h < (l:Int)->((↑(List.length i / 2) : Int) < k->K (I Z 4) [] j)/\ (¬(↑(List.length i / 2) : Int) < k->K (I Z 0) [] j))))) := by kernel_rfl
theorem vc105 (a : O) (l c : Nat) (p : Nat) (base : Nat) (H : Heap) (K : KT) :
 (fV TryzMuts Tryz.f136 base H [.v (S a l c), .v (.pointer (some ⟨p, 0, none⟩))] [] K) = (
 ∃ b,C H p 0 = some (I Z b)/\ Y Tryz.prog 137 [S a l c,I Z b] H fun d e =>∃ g,d = B g/\ (X base H e->K (B g) [] e)) := by kernel_rfl
theorem vc104 (a : O) (l c : Nat) (p : Nat) (base : Nat) (H : Heap) (K : KT) :
 (fV TryzMuts Tryz.f135 base H [.v (S a l c), .v (.func (.func 136) #[] #[.pointer (some ⟨p, 0, none⟩)])] [] K) = (
 ∃ (b:LI) (d:LM),b [I Z 0,I Z 0] H/\ ∀ (e g:Int) (h:Heap),X base H h->b [I Z e,I Z g] h->(g < (l:Int)->∃ i j,a = some (D i j none)/\ 0 <= g/\ g < (l:Int)/\ ∃ k m n,C h i (j + N g * 1) = some (S k m n)/\ Y Tryz.prog 136 [S k m n,P (some (D p 0 none))] h fun o q =>∃ r,o = B r/\ (X base h q->(r = true->K (I Z g) [] q)/\ (r = false->∀ s:Int,s = W Z (g + 1)->b [I Z e,I Z s] q/\ d [I Z e,I Z s] < d [I Z e,I Z g])))/\ (¬g < (l:Int)->K (I Z (-1)) [] h)) := by kernel_rfl
theorem vc27 (a : O) (l c : Nat) (k : Int) (base : Nat) (H : Heap) (K : KT) :
 (fV TryzMuts Tryz.f49 base H [.v (S a l c), .v (I Z k)] [] K) = (
 ∀ b:Nat,true = true/\ ∀ d:Heap,X 0 H d->d b = some (boxKB 3 [I Z k])/\ True->Y Tryz.prog 135 [S a l c,Value.func (Fn.func 136) #[] #[P (some (D b 0 none))]] d fun e g =>∃ h,e = I Z h/\ ∀ i,X base H i->(∀ (j:Nat) (m:KB),g j = some m->(∀ n:Bx,n ∈ [J b false 3 [I Z k]]->j ≠ Bx.b n)->i j = some m)->K (I Z h) [] i) := by kernel_rfl
theorem vc23 (a a' : O) (l c l' c' : Nat) (base : Nat) (H : Heap) (K : KT) :
 (fV TryzMuts Tryz.f252 base H [.v (S a l c), .v (S a' l' c')] [] K) = (
 Y Tryz.prog 187 [S a l c,I Z (l':Int)] H fun b d =>∃ e,b = I Z e/\ (X base H d->(¬e = 0->K (T #[I Z 0,I Z e]) [] d)/\ (¬¬e = 0->∃ (g:LI) (h:LM),g [I Z 0,I Z 0,I Z 0] d/\ ∀ (i j k:Int) (m:Heap),X base H m->g [I Z i,I Z j,I Z k] m->(k < (l:Int)->∃ n o,a = some (D n o none)/\ 0 <= k/\ k < (l:Int)/\ ∃ p q r,C m n (o + N k * 1) = some (S p q r)/\ ∃ (s:LI) (t:LM),s [I Z i,I Z j,I Z 0] m/\ ∀ (u v w:Int) (x:Heap),X base H x->s [I Z u,I Z v,I Z w] x->(w < (q:Int)->∃ y z,p = some (D y z none)/\ 0 <= w/\ w < (q:Int)/\ ∃ a1,C x y (z + N w * 1) = some (I Z a1)/\ ∃ b1 c1,a' = some (D b1 c1 none)/\ 0 <= a1/\ a1 < (l':Int)/\ ∃ d1,C x b1 (c1 + N a1 * 1) = some (B d1)/\ (d1 = false->K (T #[I Z k,I Z 0]) [] x)/\ (¬d1 = false->∀ e1:Int,e1 = W Z (w + 1)->s [I Z u,I Z v,I Z e1] x/\ t [I Z u,I Z v,I Z e1] < t [I Z u,I Z v,I Z w]))/\ (¬w < (q:Int)->∀ y:Int,y = W Z (k + 1)->g [I Z u,I Z v,I Z y] x/\ h [I Z u,I Z v,I Z y] < h [I Z i,I Z j,I Z k]))/\ (¬k < (l:Int)->K (T #[I Z (l:Int),I Z 0]) [] m)))) := by kernel_rfl
open Go Go.Proofs
theorem vc62 (a : O) (l c : Nat) (base : Nat) (H : Heap) (K : KT) :
 (fV TryzMuts Tryz.f140 base H [.v (S a l c)] [] K) = (
 (12 < (l:Int)->K (I Z 2) [] H)/\ (¬12 < (l:Int)->∃ (b:LI) (d:LM),b [I Z 0,I Z 0] H/\ ∀ (e g:Int) (h:Heap),X base H h->b [I Z e,I Z g] h->(g < (l:Int)->∃ i j,a = some (D i j none)/\ 0 <= g/\ g < (l:Int)/\ ∃ k m:Int,(C h i (j + N g * 2) = some (I Z k)/\ C h i (j + N g * 2 + 1) = some (I Z m)/\ True)/\ ∀ n:Nat,(k < 1->K (I Z 3) [] h)/\ (¬k < 1->(20 < k->K (I Z 3) [] h)/\ (¬20 < k->(m < 1->K (I Z 3) [] h)/\ (¬m < 1->(99 < m->K (I Z 3) [] h)/\ (¬99 < m->(0 < g->∀ o:Int,o = W Z (g - 1)->∃ p q,a = some (D p q none)/\ 0 <= o/\ o < (l:Int)/\ ∃ r,C h p (q + N o * 2) = some (I Z r)/\ (k <= r->K (I Z 6) [] h)/\ (¬k <= r->∀ s:Int,s = W Z (g + 1)->b [I Z e,I Z s] h/\ d [I Z e,I Z s] < d [I Z e,I Z g]))/\ (¬0 < g->∀ o:Int,o = W Z (g + 1)->b [I Z e,I Z o] h/\ d [I Z e,I Z o] < d [I Z e,I Z g]))))))/\ (¬g < (l:Int)->K (I Z 0) [] h))) := by kernel_rfl
theorem vc108 (a : O) (l c : Nat) (base : Nat) (H : Heap) (K : KT) :
 (fV TryzMuts Tryz.f159 base H [.v (S a l c)] [] K) = (
 (12 < (l:Int)->K (I Z 2) [] H)/\ (¬12 < (l:Int)->∃ (b:LI) (d:LM),b [I Z 0,I Z 0,I Z 0] H/\ ∀ (e g h:Int) (i:Heap),X base H i->b [I Z e,I Z g,I Z h] i->(h < (l:Int)->∃ j k,a = some (D j k none)/\ 0 <= h/\ h < (l:Int)/\ ∃ m n:Int,(C i j (k + N h * 2) = some (I Z m)/\ C i j (k + N h * 2 + 1) = some (I Z n)/\ True)/\ ∀ o:Nat,Y Tryz.prog 92 [I Z m,I Z 1,I Z 20] i fun p q =>∃ r,p = B r/\ (X base i q->(r = false->K (I Z 3) [] q)/\ (¬r = false->Y Tryz.prog 92 [I Z n,I Z 1,I Z 99] q fun s t =>∃ u,s = B u/\ (X base q t->(u = false->K (I Z 3) [] t)/\ (¬u = false->(m <= g->K (I Z 6) [] t)/\ (¬m <= g->∀ v:Int,v = W Z (h + 1)->b [I Z e,I Z m,I Z v] t/\ d [I Z e,I Z m,I Z v] < d [I Z e,I Z g,I Z h]))))))/\ (¬h < (l:Int)->K (I Z 0) [] i))) := by kernel_rfl
theorem vc114 (n v : Int) (p : Nat) (base : Nat) (H : Heap) (K : KT) :
 (fV TryzMuts Tryz.f148 base H [.v (A #[I Z n, I Z v]), .v (.pointer (some ⟨p, 0, none⟩))] [] K) = (
 ∀ a:Nat,∃ b,C H p 0 = some (I Z b)/\ K (B (decide (n = b))) [] H) := by kernel_rfl
theorem vc113 (a : O) (l c : Nat) (p : Nat) (base : Nat) (H : Heap) (K : KT) :
 (fV TryzMuts Tryz.f147 base H [.v (S a l c), .v (.func (.func 148) #[] #[.pointer (some ⟨p, 0, none⟩)])] [] K) = (
 ∃ (b:LI) (d:LM),b [I Z 0,I Z 0] H/\ ∀ (e g:Int) (h:Heap),X base H h->b [I Z e,I Z g] h->(g < (l:Int)->∃ i j,a = some (D i j none)/\ 0 <= g/\ g < (l:Int)/\ ∃ k m:Int,(C h i (j + N g * 2) = some (I Z k)/\ C h i (j + N g * 2 + 1) = some (I Z m)/\ True)/\ Y Tryz.prog 148 [A #[I Z k,I Z m],P (some (D p 0 none))] h fun n o =>∃ q,n = B q/\ (X base h o->(q = true->K (I Z g) [] o)/\ (q = false->∀ r:Int,r = W Z (g + 1)->b [I Z e,I Z r] o/\ d [I Z e,I Z r] < d [I Z e,I Z g])))/\ (¬g < (l:Int)->K (I Z (-1)) [] h)) := by kernel_rfl
theorem vc42 (a : O) (l c : Nat) (k : Int) (base : Nat) (H : Heap) (K : KT) :
 (fV TryzMuts Tryz.f75 base H [.v (S a l c), .v (I Z k)] [] K) = (
 ∀ b:Nat,true = true/\ ∀ d:Heap,X 0 H d->d b = some (boxKB 3 [I Z k])/\ True->Y Tryz.prog 147 [S a l c,Value.func (Fn.func 148) #[] #[P (some (D b 0 none))]] d fun e g =>∃ h,e = I Z h/\ ∀ i,X base H i->(∀ (j:Nat) (m:KB),g j = some m->(∀ n:Bx,n ∈ [J b false 3 [I Z k]]->j ≠ Bx.b n)->i j = some m)->(h < 0->K (I Z 0) [] i)/\ (¬h < 0->∃ j m,a = some (D j m none)/\ 0 <= h/\ h < (l:Int)/\ ∃ n,C i j (m + N h * 2 + 1) = some (I Z n)/\ K (I Z n) [] i)) := by kernel_rfl
theorem vc41 (a a' : O) (l c l' c' : Nat) (base : Nat) (H : Heap) (K : KT) :
 (fV TryzMuts Tryz.f47 base H [.v (S a l c), .v (S a' l' c')] [] K) = (
 (¬(l:Int) = (l':Int)->K (B false) [] H)/\ (¬¬(l:Int) = (l':Int)->∃ (b:LI) (d:LM),b [B false,I Z 0] H/\ ∀ (e:Bool) (g:Int) (h:Heap),X base H h->b [B e,I Z g] h->(g < (l:Int)->∃ i j,a = some (D i j none)/\ 0 <= g/\ g < (l:Int)/\ ∃ k m:Int,(C h i (j + N g * 2) = some (I Z k)/\ C h i (j + N g * 2 + 1) = some (I Z m)/\ True)/\ ∃ n o,a' = some (D n o none)/\ 0 <= g/\ g < (l':Int)/\ ∃ p q:Int,(C h n (o + N g * 2) = some (I Z p)/\ C h n (o + N g * 2 + 1) = some (I Z q)/\ True)/\ ∃ r,RunsTo Tryz.prog (binRun BinOp.neq 91 (Operand.tmp 19) (Operand.tmp 23) (A #[I Z k,I Z m]) (A #[I Z p,I Z q])) (B r)/\ (r = true->K (B false) [] h)/\ (¬r = true->∀ s:Int,s = W Z (g + 1)->b [B e,I Z s] h/\ d [B e,I Z s] < d [B e,I Z g]))/\ (¬g < (l:Int)->K (B true) [] h))) := by kernel_rfl
theorem vc39 (a : O) (l c : Nat) (base : Nat) (H : Heap) (K : KT) :
 (fV TryzMuts Tryz.f222 base H [.v (S a l c)] [] K) = (
 (10 < (l:Int)->K (I Z 2) [] H)/\ (¬10 < (l:Int)->∃ (b:LI) (d:LM),b [I Z 0,I Z 0] H/\ ∀ (e g:Int) (h:Heap),X base H h->b [I Z e,I Z g] h->(g < (l:Int)->∃ i j,a = some (D i j none)/\ 0 <= g/\ g < (l:Int)/\ ∃ k m n o:Int,(fun w1:LL=>(C h i (j + N g * 4) = some (I Z k)/\ C h i (j + N g * 4 + 1) = some (I Z m)/\ C h i (j + N g * 4 + 2) = some (I Z n)/\ C h i (j + N g * 4 + 3) = some (I Z o)/\ True)/\ ∀ p:Nat,∃ (q:LI) (r:LM),q [I Z e,I Z 0] h/\ ∀ (s t:Int) (u:Heap),X base H u->q [I Z s,I Z t] u->(t < 2->0 <= t/\ t < 2/\ ∃ v,List.get?Internal [I Z k,I Z n] (N t * 1) = some (I Z v)/\ (v < 1->K (I Z 3) [] u)/\ (¬v < 1->(20 < v->K (I Z 3) [] u)/\ (¬20 < v->∀ w:Int,w = W Z (t + 1)->w1 = w1/\ q [I Z s,I Z w] u/\ r [I Z s,I Z w] < r [I Z s,I Z t])))/\ (¬t < 2->∃ (v:LI) (w:LM),v [I Z s,I Z 0] u/\ ∀ (x y:Int) (z:Heap),X base H z->v [I Z x,I Z y] z->(y < 2->0 <= y/\ y < 2/\ ∃ a1,List.get?Internal [I Z m,I Z o] (N y * 1) = some (I Z a1)/\ (a1 < 1->K (I Z 3) [] z)/\ (¬a1 < 1->(99 < a1->K (I Z 3) [] z)/\ (¬99 < a1->∀ b1:Int,b1 = W Z (y + 1)->w1 = w1/\ v [I Z x,I Z b1] z/\ w [I Z x,I Z b1] < w [I Z x,I Z y])))/\ (¬y < 2->(k = n->K (I Z 4) [] z)/\ (¬k = n->∀ a1:Int,a1 = W Z (g + 1)->b [I Z x,I Z a1] z/\ d [I Z x,I Z a1] < d [I Z e,I Z g])))) [[I Z k,I Z m,I Z n,I Z o]])/\ (¬g < (l:Int)->K (I Z 0) [] h))) := by kernel_rfl
theorem vc34 (a a' : O) (l c l' c' : Nat) (base : Nat) (H : Heap) (K : KT) :
 (fV TryzMuts Tryz.f186 base H [.v (S a l c), .v (S a' l' c')] [] K) = (
 Y Tryz.prog 140 [S a l c] H fun b d =>∃ e,b = I Z e/\ (X base H d->(¬e = 0->K (T #[I Z 0,I Z e]) [] d)/\ (¬¬e = 0->Y Tryz.prog 222 [S a' l' c'] d fun g h =>∃ i,g = I Z i/\ (X base d h->(¬i = 0->K (T #[I Z 0,I Z i]) [] h)/\ (¬¬i = 0->∃ (j:LI) (k:LM),j [I Z 0,I Z 0,I Z 0] h/\ ∀ (m n o:Int) (p:Heap),X base H p->j [I Z m,I Z n,I Z o] p->(o < (l':Int)->∃ q r,a' = some (D q r none)/\ 0 <= o/\ o < (l':Int)/\ ∃ s t u v:Int,(C p q (r + N o * 4) = some (I Z s)/\ C p q (r + N o * 4 + 1) = some (I Z t)/\ C p q (r + N o * 4 + 2) = some (I Z u)/\ C p q (r + N o * 4 + 3) = some (I Z v)/\ True)/\ ∀ w:Nat,Y Tryz.prog 75 [S a l c,I Z s] p fun x y =>∃ z,x = I Z z/\ (X base p y->(t <= z->Y Tryz.prog 75 [S a l c,I Z u] y fun a1 b1 =>∃ c1,a1 = I Z c1/\ (X base y b1->(c1 < v->K (T #[I Z o,I Z 0]) [] b1)/\ (¬c1 < v->∀ d1:Int,d1 = W Z (o + 1)->j [I Z m,I Z n,I Z d1] b1/\ k [I Z m,I Z n,I Z d1] < k [I Z m,I Z n,I Z o])))/\ (¬t <= z->∀ a1:Int,a1 = W Z (o + 1)->j [I Z m,I Z n,I Z a1] y/\ k [I Z m,I Z n,I Z a1] < k [I Z m,I Z n,I Z o])))/\ (¬o < (l':Int)->K (T #[I Z (-1),I Z 0]) [] p)))))) := by kernel_rfl
open Go Go.Proofs
theorem cIn {H : Heap} (n a b : Int) : Spec Tryz.prog 92 [i64 n, i64 a, i64 b] H fun v _ => v = .bool (inR n a b) := by
 refine Tryzvc Tryz.func92 (by kernel_rfl) (by kernel_rfl) _ rfl (fun base K => vc102 n a b base H K) fun base hb => ⟨fun h => ?_, fun h => ?_⟩
 ·simp [inR, h]
 ·simp [inR, h]
def idxFrom (x : Int) : Int->List Int->Int
 | _, [] => -1
 | i, y :: r => if x = y then i else idxFrom x (i + 1) r
theorem idxFrom_mem (x : Int) : ∀ (l : List Int) (i : Int), 0 <= i->(0 <= idxFrom x i l ↔ x ∈ l)
 | [], i, _ => by simp [idxFrom]
 | y :: r, i, h => by
  unfold idxFrom
  split
  ·rename_i e; subst e; simp [h]
  ·rename_i e; rw [idxFrom_mem x r (i + 1) (by omega)]; simp [e]
theorem cIndex {H : Heap} {a : O} {l c : Nat} {xs : List Int} (hx : Sl RInt 1 H a l xs) (x : Int) : Spec Tryz.prog 194 [.slice a l c, i64 x] H fun v _ => v = i64 (idxFrom x 0 xs) := by
 refine Tryzvc Tryz.func194 (by kernel_rfl) (by kernel_rfl) _ rfl (fun base K => vc140 a l c x base H K) fun base hb => ?_
 have hle := hx.le
 refine ⟨fun vs _ => ∃ (d : Int) (k : Nat), vs = [i64 d, i64 k]/\ k <= l/\ idxFrom x k (xs.drop k) = idxFrom x 0 xs, upTo l 1, ⟨0, 0, rfl, by omega, rfl⟩, fun d n H' hN hI => ?_⟩
 obtain ⟨d', k, hvs, hk, hI⟩ := hI
 obtain ⟨rfl, rfl⟩ : d = d'/\ n = (k : Int) := by simpa using hvs
 refine ⟨fun hlt => hx.int hN.ext (by omega) hlt fun y hy => ?_, fun hge => ?_⟩
 ·rw [Int.toNat_natCast] at hy
  rw [drop_at hy] at hI
  refine ⟨fun he => ?_, ?_⟩
  ·rw [← hI, idxFrom, if_pos he]
  ·rintro he r rfl
   rw [wrap_in (by omega) (by omega)]
   exact ⟨⟨d, k + 1, rfl, by omega, by rw [idxFrom, if_neg he] at hI; exact hI⟩, by simp [upTo]; omega⟩
 ·rw [← hI, drop_all hx.len (by omega), idxFrom]
theorem cContains {H : Heap} {a : O} {l c : Nat} {xs : List Int} (hx : Sl RInt 1 H a l xs) (x : Int) : Spec Tryz.prog 137 [.slice a l c, i64 x] H fun v _ => v = .bool (decide (x ∈ xs)) := by
 refine Tryzvc Tryz.func137 (by kernel_rfl) (by kernel_rfl) _ rfl (fun base K => vc103 a l c x base H K) fun base hb => ?_
 refine (cIndex hx x).int1 fun H' _ _ => ?_
 simp [idxFrom_mem x xs 0 (by omega)]

def seenCells (s : List Int) : List Value := s.flatMap fun x => [i64 x, .bool true]
theorem seenCells_len (s : List Int) : (seenCells s).length = 2 * s.length := by
 induction s with
 | nil => rfl
 | cons a r ih => simp [seenCells] at ih ⊢; omega
theorem mapGet_seen (x : Int) : ∀ s : List Int, mapGet (.bool false) (.int .i64 x) (seenCells s) = some (.bool (decide (x ∈ s)), decide (x ∈ s))
 | [] => by simp [seenCells, mapGet]
 | y :: r => by
  have ih := mapGet_seen x r
  simp only [seenCells, List.flatMap_cons, List.cons_append, List.nil_append, mapGet, keySame, if_pos] at ih ⊢
  by_cases e : y = x
  ·subst e; simp
  ·have e' : ¬ x = y := fun h => e h.symm
   simp only [e, decide_false, List.mem_cons, e', false_or]; exact ih
theorem mapSet_seen (x : Int) : ∀ s : List Int, x ∉ s->mapSet (.int .i64 x) (.bool true) (seenCells s) = some (seenCells (s ++ [x]))
 | [], _ => rfl
 | y :: r, h => by
  have ih := mapSet_seen x r (fun h' => h (List.mem_cons_of_mem _ h'))
  have e : ¬ y = x := fun h' => h (h' ▸ List.mem_cons_self)
  have e' : ¬ x = y := fun h' => h (h' ▸ List.mem_cons_self)
  simp only [seenCells, List.flatMap_cons, List.cons_append, List.nil_append, mapSet, keySame, if_pos, e, e', decide_false] at ih ⊢
  rw [ih]; rfl

abbrev Waves (H : Heap) (a : O) (n : Nat) (l : List (List Int)) : Prop := Sl (RSl RInt 1) 1 H a n l
theorem Waves.ext' {H H' : Heap} {a : O} {n : Nat} {l : List (List Int)} (h : Waves H a n l) (e : Ext H H') : Waves H' a n l := Sl.ext (RSl.mono RInt.mono) h e
theorem cWaveCheck {H : Heap} {a : O} {l c : Nat} {ws : List (List Int)} (hx : Waves H a l ws) (k : Int) : Spec Tryz.prog 187 [.slice a l c, i64 k] H fun v _ => v = i64 (waveCheck ws k) := by
 refine Tryzvc Tryz.func187 (by kernel_rfl) (by kernel_rfl) _ rfl (fun base K => vc26 a l c k base H K) fun base hb => ⟨fun h1 => ?_, fun h1 => ⟨fun h2 => ?_, fun h2 => ?_⟩⟩
 ·rw [waveCheck, if_pos h1]
 ·rw [waveCheck, if_neg h1, if_pos h2]
 have hW : waveCheck ws k = waveAll k [] ws := by rw [waveCheck, if_neg h1, if_neg h2]
 rw [hW]
 have hle := hx.le
 intro _
 refine ⟨fun vs _ => ∃ (d : Int) (i : Nat) (s : List Int), vs = [i64 d, i64 i, .agg (seenCells s).toArray]/\ i <= l/\ waveAll k s (ws.drop i) = waveAll k [] ws, upTo l 1, ⟨0, 0, [], rfl, by omega, rfl⟩, fun d n cs H' hN hI => ?_⟩
 obtain ⟨d', i, s, hvs, hi, hI⟩ := hI
 obtain ⟨rfl, rfl, rfl⟩ : d = d'/\ n = (i : Int)/\ cs = seenCells s := by simpa using hvs
 refine ⟨fun hlt => hx.slice hN.ext (by omega) hlt fun w a' n' c' hw hs => ?_, fun hge => ?_⟩
 ·rw [Int.toNat_natCast] at hw
  rw [drop_at hw, waveAll] at hI
  have hwl := hs.len
  have hwle := hs.le
  refine ⟨fun h0 => ?_, fun h0 => ?_⟩
  ·rw [← hI, if_pos (List.length_eq_zero_iff.1 (by omega))]
  ·rw [if_neg (by rintro rfl; simp at hwl; omega)] at hI
   refine ⟨fun vs _ => ∃ (d2 : Int) (j : Nat) (s' : List Int), vs = [i64 d2, i64 j, .agg (seenCells s').toArray]/\ j <= n'/\ (match waveIn k s' (w.drop j) with | .error e => e | .ok s'' => waveAll k s'' (ws.drop (i + 1))) = waveAll k [] ws,
    upTo n' 1, ⟨_, 0, s, rfl, by omega, hI⟩, fun d2 m cs2 H2 hN2 hI2 => ?_⟩
   obtain ⟨d3, j, s', hvs2, hj, hI2⟩ := hI2
   obtain ⟨rfl, rfl, rfl⟩ : d2 = d3/\ m = (j : Int)/\ cs2 = seenCells s' := by simpa using hvs2
   refine ⟨fun hlt2 => ?_, fun hge2 => ?_⟩
   ·refine hs.int hN2.ext (by omega) hlt2 fun x hx2 => ?_
    rw [Int.toNat_natCast] at hx2
    rw [drop_at hx2, waveIn] at hI2
    refine ⟨fun hlo => ?_, fun hlo => ⟨fun hhi => ?_, fun hhi => ?_⟩⟩
    ·rw [if_pos hlo] at hI2; rw [← hI2]
    ·rw [if_neg hlo, if_pos hhi] at hI2; rw [← hI2]
    ·rw [if_neg hlo, if_neg hhi] at hI2
     refine ⟨_, _, mapGet_seen x s', fun hm => ?_, fun hm => ?_⟩
     ·rw [if_pos (by simpa using hm)] at hI2; rw [← hI2]
     ·have hm' : x ∉ s' := by simpa using hm
      rw [if_neg hm'] at hI2
      refine ⟨_, mapSet_seen x s' hm', ?_⟩
      rintro r rfl
      rw [wrap_in (by omega) (by omega)]
      exact ⟨⟨_, j + 1, s' ++ [x], rfl, by omega, hI2⟩, by simp [upTo]; omega⟩
   ·rw [drop_all hwl (by omega), waveIn] at hI2
    rintro r rfl
    rw [wrap_in (by omega) (by omega)]
    exact ⟨⟨_, i + 1, s', rfl, by omega, hI2⟩, by simp [upTo]; omega⟩
 ·rw [drop_all hx.len (by omega), waveAll] at hI
  rw [← hI, seenCells_len]
  refine ⟨fun h => ?_, fun h => ?_⟩
  ·rw [if_pos (by omega)]
  ·rw [if_neg (by omega)]
theorem wrap_small {n : Int} (h : -100000 <= n) (h' : n <= 100000) : IntKind.wrap .i64 n = n := wrap_in (by omega) (by omega)
theorem cWaveOf {H : Heap} {a : O} {l c : Nat} {ws : List (List Int)} (hx : Waves H a l ws) (k : Int) : Spec Tryz.prog 49 [.slice a l c, i64 k] H fun v _ => v = i64 (waveOf ws k) := by
 have h105 : ∀ {H : Heap} {a : O} {l c : Nat} {xs : List Int} {p : Nat}, Sl RInt 1 H a l xs->H.cell p 0 = some (i64 k)->Spec Tryz.prog 136 [.slice a l c, .pointer (some ⟨p, 0, none⟩)] H fun v _ => v = .bool (decide (k ∈ xs)) := by
  intro H a l c xs p hx hp
  refine Tryzvc Tryz.func136 (by kernel_rfl) (by kernel_rfl) _ rfl (fun base K => vc105 a l c p base H K) fun base hb => ⟨k, hp, (cContains hx k).bool1 fun H' _ _ => rfl⟩
 have h104 : ∀ {H : Heap} {a : O} {l c : Nat} {ws : List (List Int)} {p : Nat}, Waves H a l ws->H.cell p 0 = some (i64 k)->Spec Tryz.prog 135 [.slice a l c, .func (.func 136) #[] #[.pointer (some ⟨p, 0, none⟩)]] H fun v _ => v = i64 (waveOf ws k) := by
  intro H a l c ws p hx hp
  refine Tryzvc Tryz.func135 (by kernel_rfl) (by kernel_rfl) _ rfl (fun base K => vc104 a l c p base H K) fun base hb => ?_
  have hle := hx.le
  refine ⟨fun vs _ => ∃ (d : Int) (i : Nat), vs = [i64 d, i64 i]/\ i <= l/\ waveOfFrom k i (ws.drop i) = waveOf ws k, upTo l 1, ⟨0, 0, rfl, by omega, rfl⟩, fun d n H' hN hI => ?_⟩
  obtain ⟨d', i, hvs, hi, hI⟩ := hI
  obtain ⟨rfl, rfl⟩ : d = d'/\ n = (i : Int) := by simpa using hvs
  refine ⟨fun hlt => hx.slice hN.ext (by omega) hlt fun w a' n' c' hw hs => ?_, fun hge => ?_⟩
  ·rw [Int.toNat_natCast] at hw
   rw [drop_at hw, waveOfFrom] at hI
   refine (h105 (hs.ext RInt.mono hN.ext) (Heap.cell_next hN.ext hp)).bool1 fun H2 _ _ => ⟨fun h => ?_, fun h => ?_⟩
   ·rw [if_pos (by simpa using h)] at hI; rw [← hI]
   ·rw [if_neg (by simpa using h)] at hI
    rintro r rfl
    rw [wrap_in (by omega) (by omega)]
    exact ⟨⟨_, i + 1, rfl, by omega, hI⟩, by simp [upTo]; omega⟩
  ·rw [← hI, drop_all hx.len (by omega), waveOfFrom]
 refine Tryzvc Tryz.func49 (by kernel_rfl) (by kernel_rfl) _ rfl (fun base K => vc27 a l c k base H K) fun base hb => ?_
 intro b
 refine ⟨rfl, fun Hl hNl hb => ?_⟩
 refine (h104 (hx.ext' hNl.ext) (p := b) (by unfold Heap.cell; rw [hb.1]; rfl)).mono fun v H2 e2 hv => ⟨_, hv, fun H' hN _ => rfl⟩
def waveNow (ws : List (List Int)) (th : List Bool) : Int := if waveCheck ws th.length = 0 then nowFrom th 0 ws else 0
theorem cWaveNow {H : Heap} {a a' : O} {l c l' c' : Nat} {ws : List (List Int)} {th : List Bool} (hx : Waves H a l ws) (ht : Sl RBool 1 H a' l' th) :
  Spec Tryz.prog 252 [.slice a l c, .slice a' l' c'] H fun v _ => v = .tuple #[i64 (waveNow ws th), i64 (waveCheck ws th.length)] := by
 refine Tryzvc Tryz.func252 (by kernel_rfl) (by kernel_rfl) _ rfl (fun base K => vc23 a a' l c l' c' base H K) fun base hb => ?_
 have hle := hx.le
 have htl := ht.len
 rw [htl]
 refine (cWaveCheck hx l').int1 fun H1 e1 hN1 => ⟨fun h => ?_, fun h => ?_⟩
 ·rw [waveNow, htl, if_neg h]
 have h := Decidable.not_not.1 h
 obtain ⟨k1, k2, hnd, hin, hne⟩ := waveCheck_zero h
 have hW : waveNow ws th = nowFrom th 0 ws := by rw [waveNow, htl, if_pos h]
 rw [hW, h]
 refine ⟨fun vs _ => ∃ (d1 d2 : Int) (i : Nat), vs = [i64 d1, i64 d2, i64 i]/\ i <= l/\ nowFrom th i (ws.drop i) = nowFrom th 0 ws, upTo l 2, ⟨0, 0, 0, rfl, by omega, rfl⟩, fun d1 d2 n H' hN hI => ?_⟩
 obtain ⟨d1', d2', i, hvs, hi, hI⟩ := hI
 obtain ⟨rfl, rfl, rfl⟩ : d1 = d1'/\ d2 = d2'/\ n = (i : Int) := by simpa using hvs
 refine ⟨fun hlt => hx.slice hN.ext (by omega) hlt fun w b n' d' hw hs => ?_, fun hge => ?_⟩
 ·rw [Int.toNat_natCast] at hw
  rw [drop_at hw, nowFrom] at hI
  have hwle := hs.le
  refine ⟨fun vs _ => ∃ (d1 d2 : Int) (j : Nat), vs = [i64 d1, i64 d2, i64 j]/\ j <= n'/\ (if (w.drop j).any (notThrough th) then (i : Int) else nowFrom th (i + 1) (ws.drop (i + 1))) = nowFrom th 0 ws,
   upTo n' 2, ⟨_, _, 0, rfl, by omega, hI⟩, fun e1 e2 m H2 hN2 hI2 => ?_⟩
  obtain ⟨e1', e2', j, hvs2, hj, hI2⟩ := hI2
  obtain ⟨rfl, rfl, rfl⟩ : e1 = e1'/\ e2 = e2'/\ m = (j : Int) := by simpa using hvs2
  refine ⟨fun hlt2 => hs.int hN2.ext (by omega) hlt2 fun x hx2 => ?_, fun hge2 => ?_⟩
  ·rw [Int.toNat_natCast] at hx2
   have hxin := (hin x).1 (List.mem_flatten.2 ⟨w, List.mem_of_getElem? hw, List.mem_of_getElem? hx2⟩)
   rw [drop_at hx2, List.any_cons] at hI2
   refine ht.bool hN2.ext hxin.1 hxin.2 fun y hy => ⟨fun h => ?_, fun h => ?_⟩
   ·rw [if_pos (by simp [notThrough, hy, h])] at hI2; rw [← hI2]
   ·rintro r rfl
    rw [wrap_in (by omega) (by omega)]
    exact ⟨⟨_, _, j + 1, rfl, by omega, by simpa [notThrough, hy, h] using hI2⟩, by simp [upTo]; omega⟩
  ·rw [drop_all hs.len (by omega), if_neg (by simp)] at hI2
   rintro r rfl
   rw [wrap_in (by omega) (by omega)]
   exact ⟨⟨_, _, i + 1, rfl, by omega, hI2⟩, by simp [upTo]; omega⟩
 ·rw [← hI, drop_all hx.len (by omega), nowFrom]
  rw [show (i : Int) = l from by omega]
theorem ints_of_box {H : Heap} {g : Nat} {ty : TypeId} {xs : List Int} {n : Nat} (h : H g = some (boxKB ty (xs.map i64))) (hn : xs.length = n) (hle : (n : Int) <= 9223372036854775807) : Sl RInt 1 H (some ⟨g, 0, none⟩) n xs :=
 Sl.of_has (rows := intRows xs) (Has.of_box h (by clear h hn; induction xs with | nil => rfl | cons x r ih => simp [intRows] at ih ⊢; exact ih) (by intro r hr; simp [intRows] at hr; obtain ⟨x, _, rfl⟩ := hr; rfl) (by simp [intRows]; exact hn) hle) (by simp [intRows])
  fun i r x hr hx => by
   simp [intRows] at hr
   obtain ⟨y, hy, rfl⟩ := hr
   rw [hx] at hy
   obtain rfl := Option.some.inj hy
   rfl
open Go Go.Proofs
theorem neq48 {xo yo : Operand} (a b c d : Int) : RunsTo Tryz.prog (binRun .neq 91 xo yo (.agg #[.int .i64 a, .int .i64 b]) (.agg #[.int .i64 c, .int .i64 d])) (.bool (!(a == c && b == d))) := by
 intro w
 have u3 := Tryz.underlying3
 have a3 := Tryz.isAgg3
 have z3 := Tryz.sizeOf3
 have hS : Tryz.prog.underlying 91 = some (.struct (Tryz.prog.fieldsOf 91)) := by kernel_rfl
 have hp : Tryz.prog.stoodInHeld 91 = false := by kernel_rfl
 have hm : Tryz.prog.eqGuardType Tryz.prog.depth 91 = false := by kernel_rfl
 have he : (Op.equalIn 10000 91 (.agg #[.int .i64 a, .int .i64 b]) (.agg #[.int .i64 c, .int .i64 d])).run Tryz.prog w = .ok (a == c && b == d) w := by
  rw [show (10000 : Nat) = 9999 + 1 from rfl, run_equalIn_agg w 9999 91 _ _ hS hp]
  simp only [Program.fieldsOf, Tryz.underlying91]
  go_simp
  by_cases h1 : a = c <;> by_cases h2 : b = d <;> simp [h1, h2]
 simp only [binRun, Sem.run_bind, run_eqGuard_agg w _ 91 _ _ _ _ hm, Result.andThen_ok, run_neq_struct, he]
theorem eqNil {ty e : TypeId} (h : Tryz.prog.underlying ty = some (.slice e)) {xo : Operand} {a : O} {n c : Nat} : RunsTo Tryz.prog (binRun .eql ty xo (.const (.slice none 0 0)) (.slice a n c) (.slice none 0 0)) (.bool a.isNone) := by
 intro w
 have hg : (eqGuard .eql ty xo (.const (.slice none 0 0)) (.slice a n c) (.slice none 0 0)).run Tryz.prog w = .ok () w := by simp [eqGuard]
 simp only [binRun, Sem.run_bind, hg, Result.andThen_ok]
 have := run_equal_slice_nil w ty e a n c h
 simp [binOp, this]
theorem eqBool {xo yo : Operand} {a b : Bool} : RunsTo Tryz.prog (binRun .eql 4 xo yo (.bool a) (.bool b)) (.bool (a == b)) := by
 intro w
 have hg : (eqGuard .eql 4 xo yo (.bool a) (.bool b)).run Tryz.prog w = .ok () w := by simp [eqGuard]
 simp only [binRun, Sem.run_bind, hg, Result.andThen_ok]
 have := run_equal_bool w 4 a b Tryz.underlying4
 simp [binOp, this]
open Go Go.Proofs
def lastName (xs : List Pin) : Nat->Int
 | 0 => 0
 | i + 1 => match xs[i]? with | some p => p.name | none => 0
theorem cLockCheck {H : Heap} {a : O} {l c : Nat} {xs : List Pin} (hx : Pins H a l xs) : Spec Tryz.prog 140 [.slice a l c] H fun v _ => v = i64 (lockCheck xs) := by
 refine Tryzvc Tryz.func140 (by kernel_rfl) (by kernel_rfl) _ rfl (fun base K => vc62 a l c base H K) fun base hb => ?_
 have hl := hx.len
 refine ⟨fun h => ?_, fun h => ?_⟩
 ·rw [lockCheck, if_pos (by omega)]
 have hW : lockCheck xs = lockFrom 0 xs := by rw [lockCheck, if_neg (by omega)]
 rw [hW]
 refine ⟨fun vs _ => ∃ (d : Int) (i : Nat), vs = [i64 d, i64 i]/\ i <= l/\ lockFrom (lastName xs i) (xs.drop i) = lockFrom 0 xs, upTo l 1, ⟨0, 0, rfl, by omega, rfl⟩, fun d n H' hN hI => ?_⟩
 obtain ⟨d', i, hvs, hi, hI⟩ := hI
 obtain ⟨rfl, rfl⟩ : d = d'/\ n = (i : Int) := by simpa using hvs
 refine ⟨fun hlt => hx.pin hN.ext (by omega) hlt fun p hp => ?_, fun hge => ?_⟩
 ·rw [Int.toNat_natCast] at hp
  rw [drop_at hp, lockFrom] at hI
  intro _
  have hnext : lastName xs (i + 1) = p.name := by simp [lastName, hp]
  refine ⟨fun h1 => ?_, fun h1 => ⟨fun h2 => ?_, fun h2 => ⟨fun h3 => ?_, fun h3 => ⟨fun h4 => ?_, fun h4 => ⟨fun h5 => ?_, fun h5 => ?_⟩⟩⟩⟩⟩
  ·rw [if_pos (by unfold badPin; omega)] at hI; rw [← hI]
  ·rw [if_pos (by unfold badPin; omega)] at hI; rw [← hI]
  ·rw [if_pos (by unfold badPin; omega)] at hI; rw [← hI]
  ·rw [if_pos (by unfold badPin; omega)] at hI; rw [← hI]
  ·rw [if_neg (by unfold badPin; omega)] at hI
   rintro r rfl
   rw [wrap_small (by omega) (by omega)]
   refine hx.pinName hN.ext (by omega) (by omega) fun q hq => ?_
   have hlast : lastName xs i = q.name := by
    obtain ⟨j, rfl⟩ : ∃ j, i = j + 1 := ⟨i - 1, by omega⟩
    rw [show ((j + 1 : Nat) : Int) - 1 = (j : Int) from by omega, Int.toNat_natCast] at hq
    simp [lastName, hq]
   rw [hlast] at hI
   refine ⟨fun h6 => ?_, fun h6 => ?_⟩
   ·rw [if_pos h6] at hI; rw [← hI]
   ·rw [if_neg h6] at hI
    rintro r rfl
    rw [wrap_small (by omega) (by omega)]
    exact ⟨⟨_, i + 1, rfl, by omega, by rw [hnext]; exact hI⟩, by simp [upTo]; omega⟩
  ·rw [if_neg (by unfold badPin; omega)] at hI
   obtain rfl : i = 0 := by omega
   rw [if_neg (by simp [lastName]; omega)] at hI
   rintro r rfl
   rw [wrap_small (by omega) (by omega)]
   exact ⟨⟨_, 1, rfl, by omega, by rw [hnext]; exact hI⟩, by simp [upTo]; omega⟩
 ·rw [← hI, drop_all hx.len (by omega), lockFrom]
theorem cRefLockCheck {H : Heap} {a : O} {l c : Nat} {xs : List Pin} (hx : Pins H a l xs) : Spec Tryz.prog 159 [.slice a l c] H fun v _ => v = i64 (lockCheck xs) := by
 refine Tryzvc Tryz.func159 (by kernel_rfl) (by kernel_rfl) _ rfl (fun base K => vc108 a l c base H K) fun base hb => ?_
 have hl := hx.len
 refine ⟨fun h => ?_, fun h => ?_⟩
 ·rw [lockCheck, if_pos (by omega)]
 have hW : lockCheck xs = lockFrom 0 xs := by rw [lockCheck, if_neg (by omega)]
 rw [hW]
 refine ⟨fun vs _ => ∃ (d m : Int) (i : Nat), vs = [i64 d, i64 m, i64 i]/\ i <= l/\ lockFrom m (xs.drop i) = lockFrom 0 xs, upTo l 2, ⟨0, 0, 0, rfl, by omega, rfl⟩, fun d m n H' hN hI => ?_⟩
 obtain ⟨d', m', i, hvs, hi, hI⟩ := hI
 obtain ⟨rfl, rfl, rfl⟩ : d = d'/\ m = m'/\ n = (i : Int) := by simpa using hvs
 refine ⟨fun hlt => hx.pin hN.ext (by omega) hlt fun p hp => ?_, fun hge => ?_⟩
 ·rw [Int.toNat_natCast] at hp
  rw [drop_at hp, lockFrom] at hI
  intro _
  refine (cIn _ _ _).bool1 fun H1 _ _ => ⟨fun h1 => ?_, fun h1 => (cIn _ _ _).bool1 fun H2 _ _ => ⟨fun h2 => ?_, fun h2 => ⟨fun h3 => ?_, fun h3 => ?_⟩⟩⟩
  ·have : ¬ (1 <= p.name/\ p.name <= 20) := by simpa [inR] using h1
   rw [if_pos (by unfold badPin; omega)] at hI; rw [← hI]
  ·have : ¬ (1 <= p.ver/\ p.ver <= 99) := by simpa [inR] using h2
   rw [if_pos (by unfold badPin; omega)] at hI; rw [← hI]
  ·have h1' : 1 <= p.name/\ p.name <= 20 := by simpa [inR] using h1
   have h2' : 1 <= p.ver/\ p.ver <= 99 := by simpa [inR] using h2
   rw [if_neg (by unfold badPin; omega), if_pos h3] at hI; rw [← hI]
  ·have h1' : 1 <= p.name/\ p.name <= 20 := by simpa [inR] using h1
   have h2' : 1 <= p.ver/\ p.ver <= 99 := by simpa [inR] using h2
   rw [if_neg (by unfold badPin; omega), if_neg h3] at hI
   rintro r rfl
   rw [wrap_small (by omega) (by omega)]
   exact ⟨⟨_, _, i + 1, rfl, by omega, hI⟩, by simp [upTo]; omega⟩
 ·rw [← hI, drop_all hx.len (by omega), lockFrom]
def pinIdx (k : Int) : Int->List Pin->Int
 | _, [] => -1
 | i, p :: r => if p.name = k then i else pinIdx k (i + 1) r
theorem pinIdx_spec (k : Int) : ∀ (xs : List Pin) (i : Int), 0 <= i->(pinIdx k i xs = -1/\ find xs k = 0/\ ∀ p ∈ xs, p.name ≠ k) ∨ ∃ (j : Nat) (p : Pin), pinIdx k i xs = i + j/\ xs[j]? = some p/\ find xs k = p.ver/\ p.name = k
 | [], i, _ => .inl ⟨rfl, rfl, by simp⟩
 | p :: r, i, hi => by
  unfold pinIdx
  by_cases e : p.name = k
  ·rw [if_pos e]; exact .inr ⟨0, p, by simp, rfl, by rw [find, if_pos e], e⟩
  ·rw [if_neg e]
   rcases pinIdx_spec k r (i + 1) (by omega) with ⟨h1, h2, h3⟩ | ⟨j, q, h1, h2, h3, h4⟩
   ·exact .inl ⟨h1, by rw [find, if_neg e, h2], fun q hq => by rcases List.mem_cons.1 hq with rfl | hq; exact e; exact h3 q hq⟩
   ·exact .inr ⟨j + 1, q, by rw [h1]; omega, by simpa using h2, by rw [find, if_neg e, h3], h4⟩
theorem cPinIdx {H : Heap} {a : O} {l c : Nat} {xs : List Pin} (hx : Pins H a l xs) {k : Int} {p : Nat} (hp : H.cell p 0 = some (i64 k)) :
  Spec Tryz.prog 147 [.slice a l c, .func (.func 148) #[] #[.pointer (some ⟨p, 0, none⟩)]] H fun v _ => v = i64 (pinIdx k 0 xs) := by
 have h114 : ∀ {H : Heap} {n v : Int}, H.cell p 0 = some (i64 k)->Spec Tryz.prog 148 [.agg #[.int .i64 n, .int .i64 v], .pointer (some ⟨p, 0, none⟩)] H fun r _ => r = .bool (decide (n = k)) := by
  intro H n v hp
  refine Tryzvc Tryz.func148 (by kernel_rfl) (by kernel_rfl) _ rfl (fun base K => vc114 n v p base H K) fun base hb => ?_
  intro _
  exact ⟨k, hp, rfl⟩
 refine Tryzvc Tryz.func147 (by kernel_rfl) (by kernel_rfl) _ rfl (fun base K => vc113 a l c p base H K) fun base hb => ?_
 have hle := hx.le
 refine ⟨fun vs _ => ∃ (d : Int) (i : Nat), vs = [i64 d, i64 i]/\ i <= l/\ pinIdx k i (xs.drop i) = pinIdx k 0 xs, upTo l 1, ⟨0, 0, rfl, by omega, rfl⟩, fun d n H' hN hI => ?_⟩
 obtain ⟨d', i, hvs, hi, hI⟩ := hI
 obtain ⟨rfl, rfl⟩ : d = d'/\ n = (i : Int) := by simpa using hvs
 refine ⟨fun hlt => hx.pin hN.ext (by omega) hlt fun q hq => ?_, fun hge => ?_⟩
 ·rw [Int.toNat_natCast] at hq
  rw [drop_at hq, pinIdx] at hI
  refine (h114 (Heap.cell_next hN.ext hp)).bool1 fun H2 _ _ => ⟨fun h => ?_, fun h => ?_⟩
  ·rw [if_pos (by simpa using h)] at hI; rw [← hI]
  ·rw [if_neg (by simpa using h)] at hI
   rintro r rfl
   rw [wrap_in (by omega) (by omega)]
   exact ⟨⟨_, i + 1, rfl, by omega, hI⟩, by simp [upTo]; omega⟩
 ·rw [← hI, drop_all hx.len (by omega), pinIdx]
theorem cFind {H : Heap} {a : O} {l c : Nat} {xs : List Pin} (hx : Pins H a l xs) (k : Int) : Spec Tryz.prog 75 [.slice a l c, i64 k] H fun v _ => v = i64 (find xs k) := by
 refine Tryzvc Tryz.func75 (by kernel_rfl) (by kernel_rfl) _ rfl (fun base K => vc42 a l c k base H K) fun base hb => ?_
 intro b
 refine ⟨rfl, fun Hl hNl hb => ?_⟩
 refine (cPinIdx (hx.ext' hNl.ext) (k := k) (p := b) (by unfold Heap.cell; rw [hb.1]; rfl)).mono fun v H2 e2 hv => ⟨_, hv, fun H' hN _ => ?_⟩
 rcases pinIdx_spec k xs 0 (by omega) with ⟨h1, h2, _⟩ | ⟨j, p, h1, h2, h3, _⟩
 ·rw [h1, h2]; exact ⟨fun _ => rfl, fun h => absurd (by omega) h⟩
 ·rw [h1]
  have hj := (List.getElem?_eq_some_iff.1 h2).1
  have hl := hx.len
  refine ⟨fun h => by omega, fun _ => hx.pinVer hN.ext (by omega) (by omega) fun q hq => ?_⟩
  rw [show (0 + (j : Int)).toNat = j from by omega, h2] at hq
  obtain rfl := Option.some.inj hq
  rw [h3]
theorem get_two {x y n : Int} {k : Nat} (hk : k < 2) (h : n = if k = 0 then x else y) : ([Value.int .i64 x, Value.int .i64 y] : List Value)[k * 1]? = some (.int .i64 n) := by
 subst h
 match k, hk with
 | 0, _ => rfl
 | 1, _ => rfl
theorem cRuleCheck {H : Heap} {a : O} {l c : Nat} {rs : List Rule} (hx : Rules H a l rs) : Spec Tryz.prog 222 [.slice a l c] H fun v _ => v = i64 (rulesCheck rs) := by
 refine Tryzvc Tryz.func222 (by kernel_rfl) (by kernel_rfl) _ rfl (fun base K => vc39 a l c base H K) fun base hb => ?_
 have hl := hx.len
 refine ⟨fun h => ?_, fun h => ?_⟩
 ·rw [rulesCheck, if_pos (by omega)]
 have hW : rulesCheck rs = rulesFrom rs := by rw [rulesCheck, if_neg (by omega)]
 rw [hW]
 refine ⟨fun vs _ => ∃ (d : Int) (i : Nat), vs = [i64 d, i64 i]/\ i <= l/\ rulesFrom (rs.drop i) = rulesFrom rs, upTo l 1, ⟨0, 0, rfl, by omega, rfl⟩, fun d n H' hN hI => ?_⟩
 obtain ⟨d', i, hvs, hi, hI⟩ := hI
 obtain ⟨rfl, rfl⟩ : d = d'/\ n = (i : Int) := by simpa using hvs
 refine ⟨fun hlt => hx.rule hN.ext (by omega) hlt fun p hp => ?_, fun hge => ?_⟩
 ·rw [Int.toNat_natCast] at hp
  rw [drop_at hp, rulesFrom] at hI
  intro _
  refine ⟨fun vs _ => ∃ (d : Int) (j : Nat), vs = [i64 d, i64 j]/\ j <= 2/\ (0 < j->1 <= p.name/\ p.name <= 20)/\ (1 < j->1 <= p.wth/\ p.wth <= 20), upTo 2 1, ⟨_, 0, rfl, by omega, by omega, by omega⟩, fun d2 m H2 hN2 hI2 => ?_⟩
  obtain ⟨d3, j, hvs2, hj, hj0, hj1⟩ := hI2
  obtain ⟨rfl, rfl⟩ : d2 = d3/\ m = (j : Int) := by simpa using hvs2
  refine ⟨fun hlt2 => ⟨by omega, hlt2, (if j = 0 then p.name else p.wth), ?_, fun g1 => ?_, fun g1 => ⟨fun g2 => ?_, fun g2 => ?_⟩⟩, fun hge2 => ?_⟩
  ·rw [Int.toNat_natCast]; exact get_two (by omega) rfl
  ·rw [if_pos (by unfold badRule; split at g1 <;> omega)] at hI; rw [← hI]
  ·rw [if_pos (by unfold badRule; split at g2 <;> omega)] at hI; rw [← hI]
  ·rintro r rfl
   rw [wrap_small (by omega) (by omega)]
   refine ⟨rfl, ⟨_, j + 1, rfl, by omega, fun _ => ?_, fun _ => ?_⟩, by simp [upTo]; omega⟩
   ·by_cases e : j = 0
    ·subst e; simp at g1 g2; omega
    ·exact hj0 (by omega)
   ·have e : j ≠ 0 := by omega
    simp [e] at g1 g2; omega
  ·obtain rfl : j = 2 := by omega
   have k0 := hj0 (by omega)
   have k1 := hj1 (by omega)
   refine ⟨fun vs _ => ∃ (d : Int) (j : Nat), vs = [i64 d, i64 j]/\ j <= 2/\ (0 < j->1 <= p.ver/\ p.ver <= 99)/\ (1 < j->1 <= p.least/\ p.least <= 99), upTo 2 1, ⟨_, 0, rfl, by omega, by omega, by omega⟩, fun d2 m H2 hN2 hI2 => ?_⟩
   obtain ⟨d3, j, hvs2, hj, hj0, hj1⟩ := hI2
   obtain ⟨rfl, rfl⟩ : d2 = d3/\ m = (j : Int) := by simpa using hvs2
   refine ⟨fun hlt2 => ⟨by omega, hlt2, (if j = 0 then p.ver else p.least), ?_, fun g1 => ?_, fun g1 => ⟨fun g2 => ?_, fun g2 => ?_⟩⟩, fun hge2 => ?_⟩
   ·rw [Int.toNat_natCast]; exact get_two (by omega) rfl
   ·rw [if_pos (by unfold badRule; split at g1 <;> omega)] at hI; rw [← hI]
   ·rw [if_pos (by unfold badRule; split at g2 <;> omega)] at hI; rw [← hI]
   ·rintro r rfl
    rw [wrap_small (by omega) (by omega)]
    refine ⟨rfl, ⟨_, j + 1, rfl, by omega, fun _ => ?_, fun _ => ?_⟩, by simp [upTo]; omega⟩
    ·by_cases e : j = 0
     ·subst e; simp at g1 g2; omega
     ·exact hj0 (by omega)
    ·have e : j ≠ 0 := by omega
     simp [e] at g1 g2; omega
   ·obtain rfl : j = 2 := by omega
    have k2 := hj0 (by omega)
    have k3 := hj1 (by omega)
    rw [if_neg (by unfold badRule; omega)] at hI
    refine ⟨fun h => ?_, fun h => ?_⟩
    ·rw [if_pos h] at hI; rw [← hI]
    ·rw [if_neg h] at hI
     rintro r rfl
     rw [wrap_small (by omega) (by omega)]
     exact ⟨⟨_, i + 1, rfl, by omega, hI⟩, by simp [upTo]; omega⟩
 ·rw [← hI, drop_all hx.len (by omega), rulesFrom]
theorem cBroken {H : Heap} {a a' : O} {l c l' c' : Nat} {xs : List Pin} {rs : List Rule} (hx : Pins H a l xs) (hr : Rules H a' l' rs) :
  Spec Tryz.prog 186 [.slice a l c, .slice a' l' c'] H fun v _ => v = .tuple #[i64 (broken xs rs), i64 (brokenErr xs rs)] := by
 refine Tryzvc Tryz.func186 (by kernel_rfl) (by kernel_rfl) _ rfl (fun base K => vc34 a a' l c l' c' base H K) fun base hb => ?_
 refine (cLockCheck hx).int1 fun H1 e1 hN1 => ⟨fun h => ?_, fun h => (cRuleCheck (hr.ext' e1)).int1 fun H2 e2 hN2 => ⟨fun h2 => ?_, fun h2 => ?_⟩⟩
 ·have e : brokenErr xs rs = lockCheck xs := by rw [brokenErr, if_neg h]
  rw [broken, e, if_neg h]
 ·have e : brokenErr xs rs = rulesCheck rs := by rw [brokenErr, if_pos (Decidable.not_not.1 h)]
  rw [broken, e, if_neg h2]
 have e : brokenErr xs rs = 0 := by rw [brokenErr, if_pos (Decidable.not_not.1 h)]; exact Decidable.not_not.1 h2
 have hW : broken xs rs = brokenFrom xs 0 rs := by rw [broken, if_pos e]
 rw [e, hW]
 have hle := hr.le
 refine ⟨fun vs _ => ∃ (d1 d2 : Int) (i : Nat), vs = [i64 d1, i64 d2, i64 i]/\ i <= l'/\ brokenFrom xs i (rs.drop i) = brokenFrom xs 0 rs, upTo l' 2, ⟨0, 0, 0, rfl, by omega, rfl⟩, fun d1 d2 n H' hN hI => ?_⟩
 obtain ⟨d1', d2', i, hvs, hi, hI⟩ := hI
 obtain ⟨rfl, rfl, rfl⟩ : d1 = d1'/\ d2 = d2'/\ n = (i : Int) := by simpa using hvs
 refine ⟨fun hlt => hr.rule hN.ext (by omega) hlt fun p hp => ?_, fun hge => ?_⟩
 ·rw [Int.toNat_natCast] at hp
  rw [drop_at hp, brokenFrom] at hI
  intro _
  refine (cFind (hx.ext' hN.ext) _).int1 fun H3 e3 hN3 => ⟨fun h3 => (cFind ((hx.ext' hN.ext).ext' e3) _).int1 fun H4 e4 hN4 => ⟨fun h4 => ?_, fun h4 => ?_⟩, fun h3 => ?_⟩
  ·rw [if_pos ⟨h3, h4⟩] at hI; rw [← hI]
  ·rw [if_neg (fun h => h4 h.2)] at hI
   rintro r rfl
   rw [wrap_in (by omega) (by omega)]
   exact ⟨⟨_, _, i + 1, rfl, by omega, hI⟩, by simp [upTo]; omega⟩
  ·rw [if_neg (fun h => h3 h.1)] at hI
   rintro r rfl
   rw [wrap_in (by omega) (by omega)]
   exact ⟨⟨_, _, i + 1, rfl, by omega, hI⟩, by simp [upTo]; omega⟩
 ·rw [← hI, drop_all hr.len (by omega), brokenFrom]
open Go Go.Proofs
theorem drop_eq_iff {α : Type} {xs ys : List α} {k : Nat} {p q : α} (hp : xs[k]? = some p) (hq : ys[k]? = some q) : (xs.drop k = ys.drop k) ↔ (p = q/\ xs.drop (k + 1) = ys.drop (k + 1)) := by
 rw [drop_at hp, drop_at hq]; simp
theorem cEqPins {H : Heap} {a a' : O} {l c l' c' : Nat} {xs ys : List Pin} (hx : Pins H a l xs) (hy : Pins H a' l' ys) :
  Spec Tryz.prog 47 [.slice a l c, .slice a' l' c'] H fun v _ => v = .bool (decide (xs = ys)) := by
 refine Tryzvc Tryz.func47 (by kernel_rfl) (by kernel_rfl) _ rfl (fun base K => vc41 a a' l c l' c' base H K) fun base hb => ?_
 have hxl := hx.len
 have hyl := hy.len
 have hle := hx.le
 refine ⟨fun hne => ?_, fun he => ?_⟩
 ·rw [decide_eq_false]; rintro rfl; omega
 ·refine ⟨fun vs _ => ∃ (b : Bool) (k : Nat), vs = [.bool b, i64 k]/\ k <= l/\ (xs.drop k = ys.drop k ↔ xs = ys), upTo l 1, ⟨false, 0, rfl, by omega, by simp⟩, fun b n H' hN hI => ?_⟩
  obtain ⟨b', k, hvs, hk, hI⟩ := hI
  obtain ⟨rfl, rfl⟩ : b = b'/\ n = (k : Int) := by simpa using hvs
  refine ⟨fun hlt => hx.pin hN.ext (by omega) hlt fun p hp => hy.pin hN.ext (by omega) (by omega) fun q hq => ⟨_, neq48 _ _ _ _, fun h => ?_, fun h => ?_⟩, fun hge => ?_⟩
  ·rw [Int.toNat_natCast] at hp hq
   rw [drop_eq_iff hp hq] at hI
   rw [decide_eq_false]
   intro e
   obtain ⟨rfl, _⟩ := hI.2 e
   simp at h
  ·rw [Int.toNat_natCast] at hp hq
   rw [drop_eq_iff hp hq] at hI
   have hpq : p = q := by
    cases p; cases q; simp at h; simp [h]
   rintro r rfl
   rw [wrap_in (by omega) (by omega)]
   exact ⟨⟨b, k + 1, rfl, by omega, by rw [← hI]; simp [hpq]⟩, by simp [upTo]; omega⟩
  ·rw [decide_eq_true]
   exact hI.1 (by rw [drop_all hxl (by omega), drop_all hyl (by omega)])
theorem pins_of_row {base : Nat} {H : Heap} {e : TypeId} {a : O} {n c : Nat} {xs : List Pin} (h : Row base H e 2 a n c (xs.flatMap pinCells)) : Pins H a n xs := sl_of_rowE pinCells_len (by omega) h
theorem one_pins (xs : List Pin) : allOne (xs.flatMap pinCells) = true := allOne_flat (fun _ => rfl) xs
open Classical in
open Go Go.Proofs
end Go.Vg
