/- Soundness of the computed verification condition: calls. -/
import Derived.Test.YtglnjkkaojhgnaaGreatDoorSnd7
import Derived.Lib.AppendStr
import Derived.Laws.IdiomStrings
import Derived.Lib.ConvBytes
set_option linter.unusedSimpArgs false
set_option linter.unusedVariables false
namespace Go.Vg
open Go Go.RowKit
section
variable {C : Cfg} {w0 : World} {own0 : List Nat}
theorem svsOf_sound {nt : Nat} {st : St} {a : Act} (h : EnvOk nt st.env st.own a) : ∀ {xs : List Operand} {l : List SV}, svsOf st xs = some l → xs.map a.eval = l.map (SV.val st.own)
  | [], l, e => by simp [svsOf] at e; subst e; rfl
  | x :: r, l, e => by
    simp only [svsOf] at e
    split at e
    · rename_i s l' hs hl
      obtain rfl := Option.some.inj e
      simp [(get_sound h hs).1, svsOf_sound h hl]
    · cases e
theorem mem_dedup {l : List Nat} {x : Nat} (h : x ∈ dedup l) : x ∈ l := by
  induction l with
  | nil => exact h
  | cons y r ih =>
    simp only [dedup] at h
    split at h
    · exact List.mem_cons_of_mem _ (ih h)
    · rcases List.mem_cons.1 h with rfl | h
      · exact List.mem_cons_self
      · exact List.mem_cons_of_mem _ (ih h)
theorem dedup_nodup (l : List Nat) : (dedup l).Nodup := by
  induction l with
  | nil => exact List.nodup_nil
  | cons y r ih =>
    simp only [dedup]
    split
    · exact ih
    · rename_i h
      exact List.nodup_cons.2 ⟨by simpa using h, ih⟩
theorem pick_spec {own : List Bx} : ∀ {is : List Nat} {xs : List Bx}, pick own is = some xs → xs.length = is.length ∧ ∀ k i : Nat, is[k]? = some i → ∃ x, own[i]? = some x ∧ xs[k]? = some x
  | [], xs, h => by simp [pick] at h; subst h; exact ⟨rfl, fun k i h => by simp at h⟩
  | i :: r, xs, h => by
    simp only [pick] at h
    split at h
    · rename_i x l hx hl
      obtain rfl := Option.some.inj h
      obtain ⟨h1, h2⟩ := pick_spec hl
      refine ⟨by simp [h1], fun k j hk => ?_⟩
      cases k with
      | zero => simp at hk; subst hk; exact ⟨x, hx, rfl⟩
      | succ k => simpa using h2 k j (by simpa using hk)
    · cases h
theorem pick_mem {own : List Bx} {is : List Nat} {xs : List Bx} (h : pick own is = some xs) {x : Bx} (hx : x ∈ xs) : ∃ k i : Nat, is[k]? = some i ∧ own[i]? = some x ∧ xs[k]? = some x := by
  obtain ⟨k, hk⟩ := List.mem_iff_getElem?.1 hx
  obtain ⟨h1, h2⟩ := pick_spec h
  have hl := idx_lt hk
  have hi : is[k]? = some is[k] := List.getElem?_eq_getElem (by omega)
  obtain ⟨x', ha, hb⟩ := h2 k _ hi
  rw [hk] at hb
  obtain rfl := Option.some.inj hb
  exact ⟨k, _, hi, ha, hk⟩
theorem pick_own {own : List Bx} {is : List Nat} {xs : List Bx} (h : pick own is = some xs) {x : Bx} (hx : x ∈ xs) : x ∈ own := by
  obtain ⟨_, i, _, h2, _⟩ := pick_mem h hx
  exact List.mem_of_getElem? h2
/-- Boxes picked out are boxes. -/
theorem pick_boxes {own : List Bx} {H : Heap} {w : World} (hb : BoxesOk own H w) {is : List Nat} (hn : is.Nodup) {xs : List Bx} (h : pick own is = some xs) : BoxesOk xs H w := by
  refine ⟨fun x hx => hb.ok x (pick_own h hx), fun x hx => hb.hid x (pick_own h hx), ?_⟩
  unfold List.Nodup
  rw [List.pairwise_iff_getElem]
  intro k l hk hl hkl e
  obtain ⟨h1, h2⟩ := pick_spec h
  simp only [List.length_map] at hl hk
  have hi : is[k]? = some is[k] := List.getElem?_eq_getElem (by omega)
  have hj : is[l]? = some is[l] := List.getElem?_eq_getElem (by omega)
  obtain ⟨x, ha, hx⟩ := h2 k _ hi
  obtain ⟨y, hc, hy⟩ := h2 l _ hj
  simp only [List.getElem_map] at e
  rw [List.getElem?_eq_getElem hk] at hx
  rw [List.getElem?_eq_getElem hl] at hy
  rw [Option.some.inj hx, Option.some.inj hy] at e
  have he := own_unique hb ha hc e
  have := (List.getElem?_inj (by omega) hn).1 (hi.trans ((congrArg some he).trans hj.symm))
  omega
theorem alook_zip : ∀ {is : List Nat} {cs : List (List Value)} {i : Nat} {c : List Value}, alook i (is.zip cs) = some c → ∃ k : Nat, is[k]? = some i ∧ cs[k]? = some c
  | [], _, _, _, h => by simp [alook] at h
  | j :: r, [], _, _, h => by simp [alook] at h
  | j :: r, d :: cs, i, c, h => by
    simp only [List.zip_cons_cons, alook] at h
    split at h
    · rename_i e
      subst e
      exact ⟨0, rfl, h⟩
    · obtain ⟨k, h1, h2⟩ := alook_zip h
      exact ⟨k + 1, h1, h2⟩
theorem alook_zip_none : ∀ {is : List Nat} {cs : List (List Value)} {i : Nat}, cs.length = is.length → alook i (is.zip cs) = none → i ∉ is
  | [], _, _, _, _ => by simp
  | j :: r, [], _, hl, _ => by simp at hl
  | j :: r, d :: cs, i, hl, h => by
    simp only [List.zip_cons_cons, alook] at h
    split at h
    · cases h
    · rename_i e
      simp only [List.mem_cons, not_or]
      exact ⟨Ne.symm e, alook_zip_none (by simpa using hl) h⟩
theorem ownWith_getElem? (al : List (Nat × List Value)) : ∀ (own : List Bx) (i j : Nat), (ownWith al i own)[j]? = (own[j]?).map fun x => match alook (i + j) al with | some c => x.set c | none => x
  | [], i, j => by simp [ownWith]
  | x :: r, i, 0 => by cases h : alook i al <;> simp [ownWith, h]
  | x :: r, i, j + 1 => by
    simp only [ownWith, List.getElem?_cons_succ]
    rw [ownWith_getElem? al r (i + 1) j, show i + 1 + j = i + (j + 1) from by omega]
theorem putBack_getElem? (own : List Bx) (is : List Nat) (cs : List (List Value)) (j : Nat) : (putBack own is cs)[j]? = (own[j]?).map fun x => match alook j (is.zip cs) with | some c => x.set c | none => x := by
  simp [putBack, ownWith_getElem?]
theorem set_same (x : Bx) (c : List Value) : (x.set c).b = x.b ∧ (x.set c).map = x.map ∧ (x.set c).ty = x.ty := ⟨rfl, rfl, rfl⟩
theorem ownWith_length (al : List (Nat × List Value)) : ∀ (own : List Bx) (i : Nat), (ownWith al i own).length = own.length
  | [], _ => rfl
  | x :: r, i => by simp [ownWith, ownWith_length al r]
theorem putBack_length (own : List Bx) (is : List Nat) (cs : List (List Value)) : (putBack own is cs).length = own.length := ownWith_length _ _ _
theorem putBack_ext (own : List Bx) (is : List Nat) (cs : List (List Value)) : OwnExt own (putBack own is cs) := by
  refine ⟨by rw [putBack_length]; exact Nat.le_refl _, fun i x hx => ?_⟩
  rw [putBack_getElem?, hx]
  simp only [Option.map_some]
  split
  · exact ⟨_, rfl, rfl, rfl, rfl⟩
  · exact ⟨_, rfl, rfl, rfl, rfl⟩
theorem putBack_b (own : List Bx) (is : List Nat) (cs : List (List Value)) : (putBack own is cs).map Bx.b = own.map Bx.b := by
  apply List.ext_getElem?
  intro j
  rw [List.getElem?_map, putBack_getElem?, List.getElem?_map]
  cases own[j]? with
  | none => rfl
  | some x => simp only [Option.map_some]; split <;> rfl
theorem setAll_getElem? : ∀ {xs : List Bx} {cs : List (List Value)} {k : Nat} {x : Bx} {c : List Value}, xs[k]? = some x → cs[k]? = some c → (setAll xs cs)[k]? = some (x.set c)
  | [], _, _, _, _, h, _ => by simp at h
  | x :: xs, [], _, _, _, _, h => by simp at h
  | x :: xs, c :: cs, 0, _, _, h, h' => by simp at h h'; subst h; subst h'; rfl
  | x :: xs, c :: cs, k + 1, _, _, h, h' => by simpa [setAll] using setAll_getElem? (xs := xs) (cs := cs) (k := k) (by simpa using h) (by simpa using h')
/-- Behind a call to which boxes were handed. -/
theorem StW.called {own : List Bx} {H H' : Heap} {w w' : World} (hw : StW C w0 own0 own H w) {is : List Nat} {xs : List Bx} (hp : pick own is = some xs) {css : List (List Value)} (hl : css.length = xs.length)
    (hB : BelowX (xs.map Bx.b) w w') (hS : Sees H' w') (hO : BoxesOk (setAll xs css) H' w') (hN : Next w.heap.size H H') : StW C w0 own0 (putBack own is css) H' w' := by
  have hbl := hw.base_le
  obtain ⟨hlen, _⟩ := pick_spec hp
  have hmem : ∀ y ∈ putBack own is css, (∃ x ∈ own, y.b = x.b) ∧ y.ok w' ∧ H' y.b = none := fun y hy => by
    obtain ⟨j, hj⟩ := List.mem_iff_getElem?.1 hy
    rw [putBack_getElem?] at hj
    cases hx : own[j]? with
    | none => simp [hx] at hj
    | some x =>
      simp only [hx, Option.map_some, Option.some.injEq] at hj
      have hxm := List.mem_of_getElem? hx
      cases ha : alook j (is.zip css) with
      | some c =>
        simp only [ha] at hj
        subst hj
        obtain ⟨k, h1, h2⟩ := alook_zip ha
        obtain ⟨x', h3, h4⟩ := (pick_spec hp).2 k j h1
        rw [hx] at h3
        obtain rfl := Option.some.inj h3
        have hm := List.mem_of_getElem? (setAll_getElem? h4 h2)
        exact ⟨⟨x, hxm, rfl⟩, hO.ok _ hm, hO.hid _ hm⟩
      | none =>
        simp only [ha] at hj
        subst hj
        have hnj := alook_zip_none (by omega) ha
        have hlt := Bx.ok_lt (hw.boxes.ok x hxm)
        have hnx : x.b ∉ xs.map Bx.b := fun hmem => by
          obtain ⟨z, hz, hzb⟩ := List.mem_map.1 hmem
          obtain ⟨k, i, h1, h2, _⟩ := pick_mem hp hz
          have := own_unique hw.boxes h2 hx hzb
          subst this
          exact hnj (List.mem_of_getElem? h1)
        refine ⟨⟨x, hxm, rfl⟩, Bx.ok_same (hw.boxes.ok x hxm) (hB.block _ hlt hnx), ?_⟩
        cases hk : H' x.b with
        | none => rfl
        | some k => have := hN.fresh _ _ hk (hw.boxes.hid x hxm); omega
  refine ⟨hS, ⟨fun y hy => (hmem y hy).2.1, fun y hy => (hmem y hy).2.2, by rw [putBack_b]; exact hw.boxes.apart⟩, fun y hy => ?_, hw.step hB.os hB.tape hB.output hB.size fun k hk hn => hB.block k (by omega) (fun hm => ?_), hw.next.trans (hN.mono hbl), hw.base, hw.seen0⟩
  · obtain ⟨⟨x, hx, e⟩, _⟩ := hmem y hy
    rw [e]; exact hw.locs x hx
  · obtain ⟨z, hz, hzb⟩ := List.mem_map.1 hm
    rcases hw.locs z (pick_own hp hz) with h | h
    · omega
    · exact hn (hzb ▸ h)
/-- Behind a call that only read the boxes lent to it. -/
theorem StW.calledPlain {own : List Bx} {H H' : Heap} {w w' : World} (hw : StW C w0 own0 own H w) (hB : BelowX [] w w') (hS : Sees H' w') (hN : Next w.heap.size H H') : StW C w0 own0 own H' w' := by
  have hbl := hw.base_le
  refine ⟨hS, ⟨(hw.boxes.below hB).ok, fun y hy => ?_, hw.boxes.apart⟩, hw.locs, hw.step hB.os hB.tape hB.output hB.size fun k hk _ => hB.block k (by omega) (by simp), hw.next.trans (hN.mono hbl), hw.base, hw.seen0⟩
  have hlt := Bx.ok_lt (hw.boxes.ok y hy)
  cases hk : H' y.b with
  | none => rfl
  | some k => have := hN.fresh _ _ hk (hw.boxes.hid y hy); omega
def lendH (xs : List Bx) (H : Heap) : Heap := fun b => match xs.find? (fun x => x.b == b) with
  | some x => some (boxKB x.ty x.cs)
  | none => H b
theorem lendH_at {xs : List Bx} {H : Heap} {w : World} (hb : BoxesOk xs H w) {x : Bx} (hx : x ∈ xs) : lendH xs H x.b = some (boxKB x.ty x.cs) := by
  unfold lendH
  cases hf : xs.find? (fun y => y.b == x.b) with
  | none => have := List.find?_eq_none.1 hf x hx; simp at this
  | some y =>
    have h1 := List.mem_of_find?_eq_some hf
    have h2 := List.find?_some hf
    simp at h2
    obtain ⟨i, hi⟩ := List.mem_iff_getElem?.1 h1
    obtain ⟨j, hj⟩ := List.mem_iff_getElem?.1 hx
    have e := own_unique hb hi hj h2
    subst e
    rw [hi] at hj
    obtain rfl := Option.some.inj hj
    rfl
theorem lendH_other {xs : List Bx} {H : Heap} {b : Nat} (h : ∀ x ∈ xs, b ≠ x.b) : lendH xs H b = H b := by
  unfold lendH
  have : xs.find? (fun x => x.b == b) = none := List.find?_eq_none.2 fun x hx => by simp; exact fun e => h x hx e.symm
  rw [this]
theorem lendH_knows {xs : List Bx} {H : Heap} {w : World} (hb : BoxesOk xs H w) : ∀ ys : List Bx, (∀ y ∈ ys, y ∈ xs) → knows (lendH xs H) ys
  | [], _ => trivial
  | y :: r, h => ⟨lendH_at hb (h y List.mem_cons_self), lendH_knows hb r fun z hz => h z (List.mem_cons_of_mem _ hz)⟩
theorem lendH_sees {xs : List Bx} {H : Heap} {w : World} (hs : Sees H w) (hb : BoxesOk xs H w) (hmap : xs.all (fun x => !x.map) = true) : Sees (lendH xs H) w := by
  intro b k hk
  by_cases h : ∃ x ∈ xs, b = x.b
  · obtain ⟨x, hx, rfl⟩ := h
    rw [lendH_at hb hx] at hk
    obtain rfl := Option.some.inj hk
    have hm : x.map = false := by simpa using List.all_eq_true.1 hmap x hx
    have hok := hb.ok x hx
    simp only [Bx.ok, hm] at hok
    rw [hok]; exact boxKB_sees _ _
  · have hn : ∀ x ∈ xs, b ≠ x.b := fun x hx e => h ⟨x, hx, e⟩
    rw [lendH_other hn] at hk
    exact hs b k hk
theorem lendH_next {xs : List Bx} {H : Heap} {w : World} (hb : BoxesOk xs H w) : Next 0 H (lendH xs H) := by
  refine ⟨fun b k hk => ?_, fun _ _ _ _ => Nat.zero_le _⟩
  rw [lendH_other fun x hx e => ?_]
  · exact hk
  · rw [e, hb.hid x hx] at hk; cases hk
def maskH (xs : List Bx) (H : Heap) : Heap := fun b => if xs.any (fun x => x.b == b) then none else H b
theorem maskH_spec {xs : List Bx} {H : Heap} {b : Nat} : (∀ x ∈ xs, b ≠ x.b) ∧ maskH xs H b = H b ∨ maskH xs H b = none := by
  unfold maskH
  by_cases h : xs.any (fun x => x.b == b) = true
  · rw [if_pos h]; exact .inr rfl
  · rw [if_neg h]
    refine .inl ⟨fun x hx e => h (List.any_eq_true.2 ⟨x, hx, by simp [e]⟩), rfl⟩

theorem run_callFunc {P : Program} {g : FuncId} (h : bodied P g = true) (args : Array Value) (w : World) : (callFunc g args).run P w = .ok (.enter g args) w := by
  unfold bodied at h
  split at h
  · rename_i fn hf
    simp only [Bool.and_eq_true, bne_iff_ne, ne_eq] at h
    have h2 : fn.body ≠ none := by cases hb : fn.body <;> simp_all
    simp [callFunc, hf, h.2, h2]
  · cases h
/-- Taking bodies in place is right. -/
def InlOk (P : Program) (m : Muts) : Prop := ∀ base H0 g pre own H f p, m.inl base H0 g pre own H f = some p → m.list.contains g = true ∧ (p → ∀ (C : Cfg) (w0 : World) (own0 : List Nat) (w : World), C.base = base → C.H0 = H0 → StW C w0 own0 own H w → (∀ s ∈ pre, SV.wf own.length s) →
  Calls P g (pre.map (SV.val own)).toArray w fun e w' => ∃ v own' H', e = .returned v ∧ f (.v v) own' H' ∧ OwnExt own own' ∧ StW C w0 own0 own' H' w')
theorem svsOf_wf {nt : Nat} {st : St} {a : Act} (h : EnvOk nt st.env st.own a) : ∀ {xs : List Operand} {l : List SV}, svsOf st xs = some l → ∀ s ∈ l, SV.wf st.own.length s
  | [], l, e => by simp [svsOf] at e; subst e; simp
  | x :: r, l, e => by
    simp only [svsOf] at e
    split at e
    · rename_i s l' hs hl
      obtain rfl := Option.some.inj e
      intro t ht
      rcases List.mem_cons.1 ht with rfl | ht
      · exact (get_sound h hs).2
      · exact svsOf_wf h hl t ht
    · cases e
theorem callTo_sound (hin : InlOk C.P C.muts) {o : Oper} {st : St} {a : Act} {w : World} {g : FuncId} {pre : List SV} {rty : TypeId}
    (hr : ∀ (w : World), (execOp a.eval o).run C.P w = (callFunc g (pre.map (SV.val st.own)).toArray).run C.P w)
    (hturn : turns C o = false → C.muts.list.contains g = false) (hwf : ∀ s ∈ pre, SV.wf st.own.length s)
    (hw : StW C w0 own0 st.own st.H w) {f : SV → List Bx → Heap → Prop} {K : Act → World → Prop} {Q : Exit → Act → World → Prop} (hK : Cont C w0 own0 st o a w f K)
    (h : callTo C g pre st rty f) : o.wp C.P a w K Q := by
  unfold callTo at h
  split at h
  case isFalse =>
    split at h
    · split at h
      · obtain ⟨hx, hf⟩ := h
        exact wp_value ((hr w).trans (hx w hw.sees)) (hK .ff _ _ _ hf trivial (OwnExt.refl _) hw (fun _ => BelowX.refl _ _))
      · obtain ⟨r, hx, hf⟩ := K2.ex_spec h
        exact wp_value ((hr w).trans (hx w hw.sees)) (hK (.v r) _ _ _ hf trivial (OwnExt.refl _) hw (fun _ => BelowX.refl _ _))
    · exact h.elim
  rename_i hg
  unfold Oper.wp
  rw [hr, run_callFunc hg]
  rw [Oper.upon_enter]
  split at h
  · rename_i p hp
    obtain ⟨hc, hcall⟩ := hin _ _ _ _ _ _ _ _ hp
    refine Calls.mono (hcall h C w0 own0 w rfl rfl hw hwf) fun e w' he => ?_
    obtain ⟨v, own', H', rfl, hf, hext, hw'⟩ := he
    exact hK (.v v) _ _ _ hf trivial hext hw' (fun ht => by rw [hturn ht] at hc; cases hc)
  split at h
  · rename_i hd
    have hS := h w hw.sees ⟨by simp, by simp, by simp⟩
    refine Calls.mono hS fun e w' he => ?_
    obtain ⟨v, css, H', rfl, hl, hB, hS', _, hN, hq⟩ := he
    obtain ⟨r, rfl, hf⟩ := K2.ex_spec hq
    exact hK (.v _) _ _ _ (hf (hN.mono hw.base_le)) trivial (OwnExt.refl _) (hw.calledPlain (by simpa using hB) hS' hN) (fun _ => by simpa using hB)
  · rename_i is hd
    split at h
    · rename_i xs hp
      have hnd : (dedup (lentBy pre)).Nodup := dedup_nodup _
      have hbx := pick_boxes hw.boxes hnd hp
      split at h
      · rename_i hmut
        refine Calls.mono (h w hw.sees hbx) fun e w' he => ?_
        obtain ⟨v, css, H', rfl, hl, hB, hS', hO, hN, hq⟩ := he
        obtain ⟨r, rfl, hq⟩ := K2.ex_spec hq
        obtain ⟨ws, ⟨rfl, hf⟩, _⟩ := K1.exs_spec hq
        exact hK (.v _) _ _ _ (hf (hN.mono hw.base_le)) trivial (putBack_ext _ _ _) (hw.called hp hl hB hS' hO hN) (fun ht => by rw [hturn ht] at hmut; cases hmut)
      · obtain ⟨hmap, h⟩ := h
        have hSl := lendH_sees hw.sees hbx hmap
        refine Calls.mono (h (lendH xs st.H) (lendH_next hbx) (lendH_knows hbx xs fun _ h => h) w hSl ⟨by simp, by simp, by simp⟩) fun e w' he => ?_
        obtain ⟨v, css, H'', rfl, hl, hB, hS', _, hN, hq⟩ := he
        obtain ⟨r, rfl, hq⟩ := K2.ex_spec hq
        have hB' : BelowX [] w w' := by simpa using hB
        have hN' : Next w.heap.size st.H (maskH xs H'') := by
          refine ⟨fun b k hk => ?_, fun b k hk hk0 => ?_⟩
          · have hn : ∀ x ∈ xs, b ≠ x.b := fun x hx e => by rw [e, hbx.hid x hx] at hk; cases hk
            have h1 := hN.ext b k (by rw [lendH_other hn]; exact hk)
            unfold maskH
            rw [if_neg, h1]
            intro hany
            obtain ⟨x, hx, e⟩ := List.any_eq_true.1 hany
            exact hn x hx (by simpa using (beq_iff_eq.1 e).symm)
          · rcases maskH_spec (xs := xs) (H := H'') (b := b) with ⟨hn, e⟩ | e
            · rw [e] at hk
              exact hN.fresh b k hk (by rw [lendH_other hn]; exact hk0)
            · rw [e] at hk; cases hk
        have hSm : Sees (maskH xs H'') w' := fun b k hk => by
          rcases maskH_spec (xs := xs) (H := H'') (b := b) with ⟨hn, e⟩ | e
          · rw [e] at hk; exact hS' b k hk
          · rw [e] at hk; cases hk
        refine hK (.v _) _ _ _ (hq _ (hN'.mono hw.base_le) fun b k hk hn => ?_) trivial (OwnExt.refl _) (hw.calledPlain hB' hSm hN') (fun _ => hB')
        unfold maskH
        rw [if_neg, hk]
        intro hany
        obtain ⟨x, hx, e⟩ := List.any_eq_true.1 hany
        exact hn x hx (by simpa using (beq_iff_eq.1 e).symm)
    · exact h.elim
theorem callV_sound (hin : InlOk C.P C.muts) {o : Oper} {fo : Operand} {args : Array Operand} {ts : Array TypeId} (ho : o.op = .call { callee := .value fo, args := args, argTypes := ts }) {st : St} {a : Act} {w : World} (ha : EnvOk C.nt st.env st.own a)
    (hw : StW C w0 own0 st.own st.H w) {f : SV → List Bx → Heap → Prop} {K : Act → World → Prop} {Q : Exit → Act → World → Prop} (hK : Cont C w0 own0 st o a w f K)
    (h : callV C fo args.toList st o.type f) : o.wp C.P a w K Q := by
  unfold callV at h
  split at h
  case h_2 => exact h.elim
  rename_i as has
  have hargs := svsOf_sound ha has
  have hmap : args.map a.eval = (as.map (SV.val st.own)).toArray := by
    apply Array.ext'
    simpa using hargs
  have key : ∀ g, ((∃ g', fo = .func g') → fo = .func g) → turns C o = false → C.muts.list.contains g = false := fun g hg ht => by
    cases fo with
    | func g' =>
      have := hg ⟨g', rfl⟩
      cases this
      simpa [turns, ho] using ht
    | _ => simp [turns, ho] at ht
  split at h
  · rename_i g first caps hfo
    have hv := (get_sound ha hfo).1
    refine callTo_sound hin (fun w => ?_) (key g ?_) (fun s hs => ?_) hw hK h
    · simp only [SV.val] at hv
      simp [execOp, ho, resolve, Deferred.ofValue, hv, invoke, hmap, SV.val, Function.comp_def]
      congr 2
      exact Array.ext' (by simp)
    · rintro ⟨g', rfl⟩
      simp [St.get] at hfo
      rw [hfo.1]
    · simp only [List.mem_append, List.mem_map] at hs
      rcases hs with (⟨v, _, rfl⟩ | hs) | ⟨v, _, rfl⟩
      · trivial
      · exact svsOf_wf ha has s hs
      · trivial
  · rename_i g caps hfo
    have hv := (get_sound ha hfo).1
    refine callTo_sound hin (fun w => ?_) (key g ?_) (fun s hs => ?_) hw hK h
    · simp only [SV.val] at hv
      simp [execOp, ho, resolve, Deferred.ofValue, hv, invoke, hmap, SV.val, Function.comp_def]
    · rintro ⟨g', rfl⟩
      simp [St.get] at hfo
    · simp only [List.mem_append, List.mem_map] at hs
      rcases hs with hs | ⟨i, hi, rfl⟩
      · exact svsOf_wf ha has s hs
      · exact (get_sound ha hfo).2 i hi
  · exact h.elim
end
end Go.Vg
namespace Go.Vg
open Go Go.RowKit
section
variable {C : Cfg} {w0 : World} {own0 : List Nat}
theorem strCells_u8s (s : ByteArray) : Lib.strCells s = u8s s.data.toList := by simp [Lib.strCells, u8s]
theorem run_append_bareS {P : Program} {t u e ty : TypeId} {i : TypeInfo} (a : Option Addr) {s : ByteArray} {v : Value} {w w' : World} (hm : 0 < s.size) (hu : P.underlying t = some (.slice e)) (hu2 : P.underlying u = some .string) (hi : P.info? e = some i)
    (hb : s.size * i.bytes ≤ 140737488355328) (h : (Builtin.append_ #[t, u] ty #[.slice none 0 0, .string s]).run P w = .ok v w') : (Builtin.append_ #[t, u] ty #[.slice a 0 0, .string s]).run P w = .ok v w' := by
  have hn : ¬ s.size = 0 := by omega
  have hf : ∀ (s : Option Addr) (w : World), (Builtin.firstCells i.size 0 (.slice s 0 0)).run P w = .ok #[] w := fun s w => by
    cases s <;> simp [Builtin.firstCells, loadCells, loadCellsFrom]
  have hcap : ¬ (281474976710656 < Builtin.nextslicecap s.size 0 * i.bytes) := by rw [nextslicecap_zero (by omega)]; omega
  rw [← h]
  simp [Builtin.append_, run_underlying hu, run_underlying hu2, sizeOf, typeInfo, hi, Builtin.lenOf, hn, hcap, Sem.run_bind, hf]
theorem run_append_zeroS {P : Program} {t u e : TypeId} {i : TypeInfo} (hu : P.underlying t = some (.slice e)) (hu2 : P.underlying u = some .string) (hi : P.info? e = some i) {a : Option Addr} {n c : Nat} (h : n ≤ c) (ty : TypeId) (w : World) {s : ByteArray} (hs : s.size = 0) :
    (Builtin.append_ #[t, u] ty #[.slice a n c, .string s]).run P w = .ok (.slice a n c) w := by
  have hf : (Builtin.firstCells i.size s.size (.string s)).run P w = .ok #[] w := by
    rw [Lib.run_firstCells_string]
    have : Lib.strCells s = [] := List.eq_nil_of_length_eq_zero (by rw [Lib.strCells_length]; exact hs)
    rw [this]
  rw [hs] at hf
  cases a <;> simp [Builtin.append_, run_underlying hu, run_underlying hu2, sizeOf, typeInfo, hi, Builtin.lenOf, h, hs, hf, storeCells]
theorem appendS_sound {o : Oper} {t u : TypeId} {so xo : Operand} (ho : o.op = .call { callee := .builtin .append, args := #[so, xo], argTypes := #[t, u] }) {st : St} {a : Act} {w : World} (ha : EnvOk C.nt st.env st.own a)
    (hw : StW C w0 own0 st.own st.H w) {f : SV → List Bx → Heap → Prop} {K : Act → World → Prop} {Q : Exit → Act → World → Prop} (hK : Cont C w0 own0 st o a w f K) {e : TypeId} {sa : Option Addr} {n c : Nat} {s : ByteArray}
    (hs : st.get so = some (.v (.slice sa n c))) (hx : st.get xo = some (.v (.string s))) (hu : C.P.underlying t = some (.slice e)) (hu2 : C.P.underlying u = some .string)
    (h : appendSV C e st f sa n c s) : o.wp C.P a w K Q := by
  have hturn : turns C o = true := by simp [turns, ho]
  have run : ∀ {v : Value} {w' : World}, (Builtin.append_ #[t, u] o.type #[.slice sa n c, .string s]).run C.P w = .ok v w' → (execOp a.eval o).run C.P w = .ok (.value v) w' := fun {v w'} h => by
    simp [execOp, ho, resolve, invoke, builtin, (get_sound ha hs).1, (get_sound ha hx).1, SV.val, h]
  have hmx : maxLen = 9223372036854775807 := rfl
  unfold appendSV at h
  split at h
  · rename_i hzz'
    cases hi : C.P.info? e with
    | none => rw [hi] at hzz'; cases hzz'
    | some i =>
      rw [hi] at hzz'
      have hzz : i.zero = some (.int .u8 0) := hzz'
      split at h
      · rename_i hc
        have hsz : i.size = 1 := by rw [← hc.1]; simp [Program.cellsOf, hi]
        have hby : i.bytes = 1 := by rw [← hc.2]; simp [Program.bytesOf, hi]
        obtain ⟨xs, hrow, hbytes, h⟩ := h
        by_cases hm : s.size = 0
        · have hr := run_append_zeroS (a := sa) hu hu2 hi hrow.2.1 o.type w hm
          have hc0 : u8s s.data.toList = [] := by rw [← strCells_u8s]; exact List.eq_nil_of_length_eq_zero (by rw [Lib.strCells_length]; exact hm)
          have h' := h sa c st.H ⟨fun x k hx _ => hx, fun x k hx hn => by (rw [hx] at hn; cases hn), fun hc _ _ => .inr ⟨rfl, hc⟩, fun _ => ⟨rfl, rfl⟩⟩ (by rw [hc0, hm]; simpa using hrow)
          rw [hm] at h'
          exact wp_value (run hr) (hK _ _ _ _ h' trivial (OwnExt.refl _) hw (fun ht => by rw [hturn] at ht; cases ht))
        · have hsl := Lib.strCells_length s
          rcases hrow.old with ⟨rfl, rfl, hro⟩ | ⟨hc0, hro⟩
          · obtain ⟨v', w', hr, h2, h3, _⟩ := Lib.run_append_own_string (P := C.P) w C.base t u o.type e i hu hu2 hi hzz hsz hby (.slice none 0 0) 0 xs (hro.owns hw.sees) s (by omega) hbytes hw.base_le
            have h4 : v'.ownBlock = some w.heap.size := by
              have := run_append_nil_string (P := C.P) w t u o.type e i (.int .u8 0) hu hu2 hi hzz s (by omega) (by omega) (by rw [hby]; omega)
              rw [hr] at this
              injection this with e1 _
              rw [e1]; rfl
            obtain ⟨a', c', H', rfl, hg, hrow', hw'⟩ := append_step hw hro (fun _ => rfl) h2 h3 (.inr h4) (fun h => by omega)
            rw [strCells_u8s] at hrow'
            have hr' := run_append_bareS sa (by omega) hu hu2 hi (by rw [hby]; omega) hr
            exact wp_value (run hr') (hK _ _ _ _ (h a' c' H' ⟨fun x k hx _ => hg.keep x k hx (.inl rfl), hg.fresh, fun hc g he => .inl ((hg.place hc g he).resolve_right fun h => h.2 rfl), fun h => by omega⟩ hrow') trivial (OwnExt.refl _) hw' (fun ht => by rw [hturn] at ht; cases ht))
          · obtain ⟨v', w', hr, h2, h3, _⟩ := Lib.run_append_own_string (P := C.P) w C.base t u o.type e i hu hu2 hi hzz hsz hby (.slice sa n c) n xs (hro.owns hw.sees) s (by omega) hbytes hw.base_le
            have hxl := hro.1
            rw [Nat.mul_one] at hxl
            have h45 : (v'.ownBlock = (Value.slice sa n c).ownBlock ∨ v'.ownBlock = some w.heap.size) ∧ (n + s.size ≤ c → v' = .slice sa (n + s.size) c) := by
              obtain ⟨_, hnc, hcm, hf4⟩ := hro
              rcases hf4 with ⟨_, _, h0⟩ | ⟨g, k, rfl, hb, hH, hty, hksz, hfree, hcl⟩
              · exact absurd h0 hc0
              · obtain ⟨cur, fr, hcu, hcsz, hfr, hcell⟩ := hw.sees g _ hH
                obtain rfl := hfr hfree
                rw [hty] at hcu
                by_cases hroom : n + s.size ≤ c
                · have := Lib.run_append_room_string (P := C.P) w t u o.type e i hu hu2 hi hsz g n c cur hcu s hroom (by omega)
                  rw [hr] at this
                  injection this with e1 _
                  rw [e1]
                  exact ⟨.inl rfl, fun _ => rfl⟩
                · have := Lib.run_append_grow_string (P := C.P) w t u o.type e i (.int .u8 0) hu hu2 hi hzz ⟨g, 0, none⟩ n c xs (by rw [hsz]; omega) (fun j v hj => by
                    rw [addr_add, Nat.zero_add]
                    refine hw.sees.cell ?_
                    unfold Heap.cell; rw [hH]; exact hcl j v hj) s (by omega) (by omega) (by rw [hby]; exact growslice_fits (by omega) (by omega))
                  rw [hr] at this
                  injection this with e1 _
                  rw [e1]
                  exact ⟨.inr rfl, fun h => absurd h hroom⟩
            obtain ⟨a', c', H', rfl, hg, hrow', hw'⟩ := append_step hw hro (fun h => absurd h hc0) h2 h3 h45.1 h45.2
            rw [strCells_u8s] at hrow'
            exact wp_value (run hr) (hK _ _ _ _ (h a' c' H' hg hrow') trivial (OwnExt.refl _) hw' (fun ht => by rw [hturn] at ht; cases ht))
      · exact h.elim
  · exact h.elim
theorem cellsAt_ofS {H : Heap} {b o : Nat} : ∀ (cs : List Value) (i : Nat), (∀ (j : Nat) v, cs[j]? = some v → H.cell b (o + (i + j)) = some v) → cellsAt H b o i cs
  | [], _, _ => trivial
  | v :: r, i, h => ⟨by simpa using h 0 v rfl, cellsAt_ofS r (i + 1) fun j u hj => by
      have := h (j + 1) u (by simpa using hj)
      rw [show i + 1 + j = i + (j + 1) from by omega]; exact this⟩
theorem toBytes_sound {o : Oper} {src dst : TypeId} {xo : Operand} (ho : o.op = .convert src dst xo) {st : St} {a : Act} {w : World} (ha : EnvOk C.nt st.env st.own a)
    (hw : StW C w0 own0 st.own st.H w) {f : SV → List Bx → Heap → Prop} {K : Act → World → Prop} {Q : Exit → Act → World → Prop} (hK : Cont C w0 own0 st o a w f K) {s : ByteArray} (hx : st.get xo = some (.v (.string s)))
    (h : toBytesV C src dst st f s) : o.wp C.P a w K Q := by
  unfold toBytesV at h
  split at h
  · rename_i d e hu1 hu2
    split at h
    · rename_i hu3
      have hr : (execOp a.eval o).run C.P w = .ok (.value (.slice (some ⟨w.heap.size, 0, none⟩) s.size (grownCap w s.size 0 e))) (Lib.bytesWorld w e s) := by
        simp only [execOp, ho, (get_sound ha hx).1, SV.val, Sem.run_bind, Lib.run_convert_string_bytes w src dst e s hu1 hu2 hu3]
        rfl
      refine wp_value hr ?_
      have hB : Below w.heap.size w (Lib.bytesWorld w e s) := ⟨rfl, rfl, rfl, by rw [Lib.bytesWorld_size]; omega, fun k hk => Lib.bytesWorld_at_old w e s k hk⟩
      have hBX : BelowX [] w (Lib.bytesWorld w e s) := ⟨hB.os, hB.tape, hB.output, hB.size, fun k hk _ => hB.block k hk⟩
      have hnew := Lib.bytesWorld_at_new w e s
      have hn : st.H w.heap.size = none := by
        cases hk : st.H w.heap.size with
        | none => rfl
        | some k => exact absurd (hw.sees.lt hk) (by omega)
      let k : KB := ⟨e, (Lib.bytesCells w e s).size, false, fun j => (u8s s.data.toList)[j]?⟩
      have hlen : (u8s s.data.toList).length = s.size := by simp [u8s]
      have hN : Next w.heap.size st.H (fun b => if b = w.heap.size then some k else st.H b) := by
        refine ⟨fun b k' hb => ?_, fun b k' hb hnb => ?_⟩
        · by_cases e : b = w.heap.size
          · subst e; rw [hn] at hb; cases hb
          · simpa [e] using hb
        · by_cases e : b = w.heap.size
          · omega
          · simp [e, hnb] at hb
      have hsee : Sees (fun b => if b = w.heap.size then some k else st.H b) (Lib.bytesWorld w e s) := fun b k' hb => by
        by_cases e1 : b = w.heap.size
        · subst e1
          simp only [if_pos] at hb
          obtain rfl := Option.some.inj hb
          refine ⟨_, _, hnew, rfl, fun h => (by cases h), fun j v hj => ?_⟩
          have hj' : (u8s s.data.toList)[j]? = some v := hj
          have hjl : j < s.data.size := by
            have := (List.getElem?_eq_some_iff.1 hj').1
            rw [hlen] at this; exact this
          unfold Lib.bytesCells
          rw [Array.getElem?_append_left (by simpa using hjl)]
          rw [← hj', ← Array.getElem?_toList]
          simp [u8s]
        · simp only [if_neg e1] at hb
          rw [hB.block b (hw.sees.lt hb)]
          exact hw.sees b k' hb
      refine hK _ _ _ _ (h w.heap.size (grownCap w s.size 0 e) _ (grownCap_ge w s.size 0 e) (hN.mono hw.base_le) hn (cellsAt_ofS _ 0 fun j v hj => ?_)) trivial (OwnExt.refl _) (hw.calledPlain hBX hsee hN) (fun _ => hBX)
      unfold Heap.cell
      simpa [k] using hj
    · exact h.elim
  · exact h.elim
end
end Go.Vg
namespace Go.Vg
open Go Go.RowKit
section
variable {C : Cfg} {w0 : World} {own0 : List Nat}
theorem appendZ_sound {o : Oper} {t u : TypeId} {so xo : Operand} (ho : o.op = .call { callee := .builtin .append, args := #[so, xo], argTypes := #[t, u] }) {st : St} {a : Act} {w : World} (ha : EnvOk C.nt st.env st.own a)
    (hw : StW C w0 own0 st.own st.H w) {f : SV → List Bx → Heap → Prop} {K : Act → World → Prop} {Q : Exit → Act → World → Prop} (hK : Cont C w0 own0 st o a w f K) {ss sx : SV} (hs : st.get so = some ss) (hx : st.get xo = some sx)
    (h : appendZV C t u st f ss sx) : o.wp C.P a w K Q := by
  have hturn : turns C o = true := by simp [turns, ho]
  unfold appendZV at h
  split at h
  case h_3 => exact h.elim
  case h_2 =>
    rename_i e sa n c y hu hu2
    exact appendS_sound ho ha hw hK hs hx hu hu2 h
  rename_i e ki sa n c kx k hu htn
  cases hz : zeroCellsOf C.P e with
  | none => rw [hz] at h; exact h.elim
  | some z =>
    rw [hz] at h
    dsimp only at h
    split at h
    case isFalse => exact h.elim
    rename_i hc
    obtain ⟨hzl, hpos⟩ := hc
    obtain ⟨xs, m, rfl, hm, hroom, hrow, hbytes, hmax, h⟩ := h
    obtain ⟨i, zv, hi, hzz, rfl⟩ := zeroCells_spec hz
    have hsz : i.size = C.P.cellsOf e := by simp [Program.cellsOf, hi]
    have hby : i.bytes = C.P.bytesOf e := by simp [Program.bytesOf, hi]
    have hzs : zv.cells.size = C.P.cellsOf e := by simpa using hzl
    have hmx : maxLen = 9223372036854775807 := rfl
    have hold : (Builtin.firstCells i.size n (.slice sa n c)).run C.P w.drew = .ok xs.toArray w.drew := by
      by_cases hn : n = 0
      · subst hn
        have : xs = [] := List.eq_nil_of_length_eq_zero (by simpa using hrow.1)
        subst this
        cases sa <;> simp [Builtin.firstCells, loadCells, loadCellsFrom]
      · rcases hrow.2.2.2 with ⟨h1, _⟩ | ⟨g, kb, rfl, hg, hH, _, _, _, hcl⟩
        · exact absurd h1 hn
        · refine run_firstCells_some (P := C.P) w.drew i.size n ⟨g, 0, none⟩ n c xs (by rw [hsz]; exact hrow.1) fun j v hj => ?_
          rw [addr_add, Nat.zero_add]
          have : st.H.cell g j = some v := by unfold Heap.cell; rw [hH]; exact hcl j v hj
          have := hw.sees.cell this
          simpa using this
    have hfit : Builtin.nextslicecap (n + m) c * i.bytes ≤ 281474976710656 := growslice_fits (by omega) (by rw [hby]; exact hbytes)
    have hr := Lib.run_append_grow_zeros (P := C.P) w t u o.type e i zv kx ki hu htn hi hzz sa n c xs hold m hm (by omega) hroom (by omega) (by
      rw [hby]
      have : m * C.P.bytesOf e ≤ (n + m) * C.P.bytesOf e := Nat.mul_le_mul_right _ (by omega)
      omega) hfit
    have hr' : (execOp a.eval o).run C.P w = .ok (.value (.slice (some ⟨w.heap.size, 0, none⟩) (n + m) (grownCap w (n + m) c e))) (w.drew.alloc (.cells (xs.toArray ++ Builtin.zeroCells zv.cells m ++ Builtin.zeroCells zv.cells (grownCap w (n + m) c e - (n + m))) e)) := by
      simp only [execOp, ho, resolve, invoke, builtin, (get_sound ha hs).1, (get_sound ha hx).1, SV.val, List.map_toArray, List.map_cons, List.map_nil, Sem.run_bind, Sem.run_pure, Result.andThen_ok]
      rw [hr]
      rfl
    refine wp_value hr' ?_
    have hge := grownCap_ge w (n + m) c e
    have hcm : grownCap w (n + m) c e ≤ maxLen := grownCap_le_maxLen w (n + m) c e hmax
    have hwd : StW C w0 own0 st.own st.H w.drew := hw.calledPlain (BelowX.drew [] w) (hw.sees.below (BelowX.drew [] w)) (Next.refl _ _)
    have hzc : (Builtin.zeroCells zv.cells m).toList = (List.replicate m zv.cells.toList).flatten := by
      have : Builtin.zeroCells zv.cells m = madeCells zv.cells (m * zv.cells.size) := rfl
      rw [this, made_eq]
    have hsize : (xs.toArray ++ Builtin.zeroCells zv.cells m ++ Builtin.zeroCells zv.cells (grownCap w (n + m) c e - (n + m))).size = grownCap w (n + m) c e * C.P.cellsOf e := by
      simp only [Array.size_append, List.size_toArray, size_zeroCells, hzs, hrow.1, ← Nat.add_mul]
      congr 1; omega
    have hlen : (xs ++ (List.replicate m zv.cells.toList).flatten).length = (n + m) * C.P.cellsOf e := by
      rw [List.length_append, hrow.1, ← hzc, Nat.add_mul]; simp [size_zeroCells, hzs]
    obtain ⟨h4, h5, h6⟩ := hwd.newKnown (k := ⟨e, grownCap w (n + m) c e * C.P.cellsOf e, true, fun j => (xs ++ (List.replicate m zv.cells.toList).flatten)[j]?⟩) (o := .cells (xs.toArray ++ Builtin.zeroCells zv.cells m ++ Builtin.zeroCells zv.cells (grownCap w (n + m) c e - (n + m))) e) (by
      refine ⟨_, _, rfl, hsize, fun _ => rfl, fun j v hj => ?_⟩
      have hj' : (xs ++ (List.replicate m zv.cells.toList).flatten)[j]? = some v := hj
      rw [← Array.getElem?_toList, Array.toList_append, Array.toList_append, hzc]
      rw [List.getElem?_append_left (by
        have := (List.getElem?_eq_some_iff.1 hj').1
        simpa using this)]
      exact hj')
    exact hK _ _ _ _ (h w.heap.size _ _ (h5.mono hw.base_le) h6 ⟨hlen, hge, hcm, .inr ⟨w.heap.size, _, rfl, hw.base_le, if_pos rfl, rfl, rfl, rfl, fun j v hj => hj⟩⟩) trivial (OwnExt.refl _) h4 (fun ht => by rw [hturn] at ht; cases ht)
theorem loud_sound (hin : InlOk C.P C.muts) {o : Oper} {next : Option Oper} {st : St} {a : Act} {w : World} (ha : EnvOk C.nt st.env st.own a)
    (hw : StW C w0 own0 st.own st.H w) {f : SV → List Bx → Heap → Prop} {K : Act → World → Prop} {Q : Exit → Act → World → Prop} (hK : Cont C w0 own0 st o a w f K)
    (h : loudV C o next st f) : o.wp C.P a w K Q := by
  unfold loudV at h
  split at h
  case h_1 t ao x ho =>
    split at h
    · rename_i sa sx hsa hsx
      obtain ⟨own', H', w', hf, hext, hw', hr⟩ := storeV_sound t st (sx.val st.own) _ sa hw h
      exact wp_skip' (by simp [execOp, ho, (get_sound ha hsa).1, (get_sound ha hsx).1, hr]) (hK _ _ _ _ hf trivial hext hw' (fun ht => by simp [turns, ho] at ht))
    · exact h.elim
  case h_2 t ho =>
    split at h
    · rename_i z hz; exact alloc_sound ho hw hK hz h
    · exact h.elim
  case h_3 t x ho =>
    split at h
    · rename_i s hs; exact box_sound ho ha hw hK hs h
    · exact h.elim
  case h_4 t n parts ho => exact buildSlice_sound ho ha hw hK h
  case h_5 t ho => exact makeMap_sound ho hw hK h
  case h_6 t m k x ho =>
    split at h
    · rename_i kt e i sk sx hu hm hk hx
      split at h
      · rename_i b bt cs hfit hbx
        obtain ⟨cs', hset, hf⟩ := h
        exact mapUpdate_sound (.inl ho) ha hw hK hu hm hk hx hfit hbx hset hf
      · exact h.elim
    · exact h.elim
  case h_7 t m k x ho =>
    split at h
    · rename_i kt e i sk sx hu hm hk hx
      split at h
      · rename_i b bt cs hfit hbx
        obtain ⟨cs', hset, hf⟩ := h
        exact mapUpdate_sound (.inr ho) ha hw hK hu hm hk hx hfit hbx hset hf
      · exact h.elim
    · exact h.elim
  case h_8 t l c ho =>
    split at h
    · rename_i sl sc hl hc; exact makeSlice_sound ho ha hw hK hl hc h
    · exact h.elim
  case h_9 args ts ho =>
    split at h
    · rename_i so xo t u hargs hts
      split at h
      · rename_i ss sx hs hx
        split at h
        · rename_i e
          subst e
          have e1 : args = #[so, xo] := Array.ext' (by simpa using hargs)
          have e2 : ts = #[t, t] := Array.ext' (by simpa using hts)
          subst e1; subst e2
          exact append_sound ho ha hw hK hs hx h
        · have e1 : args = #[so, xo] := Array.ext' (by simpa using hargs)
          have e2 : ts = #[t, u] := Array.ext' (by simpa using hts)
          subst e1; subst e2
          exact appendZ_sound ho ha hw hK hs hx h
      · exact h.elim
    · exact h.elim
  case h_10 args ts ho =>
    split at h
    · rename_i d x t u hargs hts
      split at h
      · rename_i sd sx hd hx
        split at h
        · rename_i e
          subst e
          have e1 : args = #[d, x] := Array.ext' (by simpa using hargs)
          have e2 : ts = #[t, t] := Array.ext' (by simpa using hts)
          subst e1; subst e2
          exact copy_sound ho ha hw hK hd hx h
        · exact h.elim
      · exact h.elim
    · exact h.elim
  case h_11 args ts ho =>
    split at h
    · rename_i d t hargs hts
      split at h
      · rename_i sd hd
        have e1 : args = #[d] := Array.ext' (by simpa using hargs)
        have e2 : ts = #[t] := Array.ext' (by simpa using hts)
        subst e1; subst e2
        exact clear_sound ho ha hw hK hd h
      · exact h.elim
    · exact h.elim
  case h_12 fo args ts ho => exact callV_sound hin ho ha hw hK h
  case h_13 src dst x ho =>
    split at h
    · rename_i s hs; exact toBytes_sound ho ha hw hK hs h
    · exact h.elim
  case h_14 => exact h.elim
theorem opV_sound (hin : InlOk C.P C.muts) {o : Oper} {next : Option Oper} {st : St} {a : Act} {w : World} (ha : EnvOk C.nt st.env st.own a)
    (hw : StW C w0 own0 st.own st.H w) {f : SV → List Bx → Heap → Prop} {K : Act → World → Prop} {Q : Exit → Act → World → Prop} (hK : Cont C w0 own0 st o a w f K)
    (h : opV C o next st f) : o.wp C.P a w K Q := by
  unfold opV at h
  split at h
  · rename_i q hq
    obtain ⟨s, hf, hwf, hy⟩ := quiet_sound (f := fun s => f s st.own st.H) o st hq h a ha
    exact wp_value (hy a w ha (.inr ⟨hw.sees, hw.boxes⟩)) (hK _ _ _ _ hf hwf (OwnExt.refl _) hw (fun _ => BelowX.refl _ _))
  · exact loud_sound hin ha hw hK h
/-! ### Guards -/
theorem yielded_of {nt : Nat} {env : List (Nat × SV)} {own : List Bx} {a : Act} (h : EnvOk nt env own a) {ops : Array Oper} {j t : Nat} (ht : (ops[j]?).bind (·.dst) = some t) {s : SV} (hs : look t env = some s) :
    yielded ops a.tmps j = (match s.val own with | .bool b => some b | _ => none) := by
  obtain ⟨h1, h2, _⟩ := h.at_ t s hs
  have : a.tmps[t]? = some (s.val own) := by
    rw [← h2]
    simp [h.size, h1]
  simp only [yielded, ht, Option.bind_some, this]
  cases s.val own <;> rfl
/-- What a guard says, and the state behind it. -/
theorem guardV_sound {ops : Array Oper} {o : Oper} {st : St} {yes no : St → Prop} {a : Act} (ha : EnvOk C.nt st.env st.own a) (h : guardV ops o st yes no) :
    ∃ env', EnvOk C.nt env' st.own a ∧ ((Region.wanted o (yielded ops a.tmps) = true ∧ yes ⟨env', st.own, st.H⟩) ∨ (Region.wanted o (yielded ops a.tmps) = false ∧ no ⟨env', st.own, st.H⟩)) := by
  unfold guardV at h
  split at h
  · rename_i hg
    exact ⟨st.env, ha, .inl ⟨by simp [Region.wanted, hg], h⟩⟩
  · rename_i j want hg
    split at h
    · rename_i t ht
      have hw : ∀ {s : SV} {b : Bool}, look t st.env = some s → s.val st.own = .bool b → Region.wanted o (yielded ops a.tmps) = (b == want) := fun {s b} hs hv => by
        simp only [Region.wanted, hg, yielded_of ha ht hs, hv]
        cases want <;> cases b <;> rfl
      have key : ∀ {s : SV} {b : Bool} {env' : List (Nat × SV)}, look t st.env = some s → s.val st.own = .bool b → EnvOk C.nt env' st.own a → byWant want (if b then yes ⟨env', st.own, st.H⟩ else no ⟨env', st.own, st.H⟩) (if b then no ⟨env', st.own, st.H⟩ else yes ⟨env', st.own, st.H⟩) →
          ∃ env', EnvOk C.nt env' st.own a ∧ ((Region.wanted o (yielded ops a.tmps) = true ∧ yes ⟨env', st.own, st.H⟩) ∨ (Region.wanted o (yielded ops a.tmps) = false ∧ no ⟨env', st.own, st.H⟩)) := fun {s b env'} hs hv he hb => by
        have := hw hs hv
        refine ⟨env', he, ?_⟩
        cases want <;> cases b <;> simp_all [byWant]
      split at h
      · rename_i hs
        exact key hs rfl ha (by simpa using h)
      · rename_i hs
        refine key hs rfl ha ?_
        cases want <;> simpa [byWant] using h
      · rename_i q d hs
        by_cases hq : q
        · have hv : (SV.p q d).val st.own = .bool true := by simp [SV.val, hq]
          have he := ha.respell (s' := .tt) hs (by rw [hv]; rfl) trivial
          exact key hs hv he (by simpa [St.put] using h.1 hq)
        · have hv : (SV.p q d).val st.own = .bool false := by simp [SV.val, hq]
          have he := ha.respell (s' := .ff) hs (by rw [hv]; rfl) trivial
          refine key hs hv he ?_
          have := h.2 hq
          cases want <;> simpa [byWant, St.put] using this
      · rename_i b hs
        cases b
        · have he := ha.respell (s' := .ff) hs rfl trivial
          refine key hs rfl he ?_
          have := h.2 rfl
          cases want <;> simpa [byWant, St.put] using this
        · have he := ha.respell (s' := .tt) hs rfl trivial
          exact key hs rfl he (by simpa [St.put] using h.1 rfl)
      · rename_i vs hs
        refine ⟨st.env, ha, .inr ⟨?_, h⟩⟩
        simp [Region.wanted, hg, yielded_of ha ht hs, SV.val]
      · exact h.elim
    · exact h.elim
/-! ### What is kept along the way -/
/-- The boxes are those of 'base' and more; slots outside W are as they were in a₀. -/
structure Rel (base : List Bx) (W : List Nat) (a₀ a : Act) (own : List Bx) : Prop where
  ext : OwnExt base own
  keep : ∀ s : Nat, s ∉ W → a.tmps.getD s undef = a₀.tmps.getD s undef
structure Good (C : Cfg) (w0 : World) (own0 : List Nat) (base : List Bx) (W : List Nat) (a₀ : Act) (st : St) (a : Act) (w : World) : Prop where
  env : EnvOk C.nt st.env st.own a
  stw : StW C w0 own0 st.own st.H w
  rel : Rel base W a₀ a st.own
theorem put_keep {a : Act} {d : Option Tmp} {v : Value} {s : Nat} (h : d ≠ some s) : (a.put d v).tmps.getD s undef = a.tmps.getD s undef := by
  cases d with
  | none => rfl
  | some t =>
    have : t ≠ s := fun e => h (by rw [e])
    simp [Act.put, Array.getElem?_setIfInBounds_ne this]
theorem Good.put {base : List Bx} {W : List Nat} {a₀ : Act} {st : St} {a : Act} {w w' : World} (h : Good C w0 own0 base W a₀ st a w) {own' : List Bx} {H' : Heap} (he : OwnExt st.own own') (hs : StW C w0 own0 own' H' w') {d : Option Tmp}
    (hd : ∀ t, d = some t → t < C.nt ∧ t ∈ W) {s : SV} (hwf : s.wf own'.length) : Good C w0 own0 base W a₀ (St.put ⟨st.env, own', H'⟩ d s) (a.put d (s.val own')) w' := by
  have h1 := h.env.ext he
  cases d with
  | none => exact ⟨h1, hs, h.rel.ext.trans he, h.rel.keep⟩
  | some t =>
    obtain ⟨h2, h3⟩ := hd t rfl
    refine ⟨h1.put h2 hwf, hs, h.rel.ext.trans he, fun s' hs' => ?_⟩
    rw [put_keep (fun e => hs' (by cases e; exact h3))]
    exact h.rel.keep s' hs'
theorem opsV_sound (hin : InlOk C.P C.muts) {ops : Array Oper} {Q : Exit → Act → World → Prop} {base : List Bx} {W : List Nat} {a₀ : Act} {k : St → Prop} (hQ : ∀ st a w, k st → Good C w0 own0 base W a₀ st a w → Q .normal a w) :
    ∀ (l : List Oper) (st : St) (a : Act) (w : World), (∀ o ∈ l, ∀ t, o.dst = some t → t < C.nt ∧ t ∈ W) → Good C w0 own0 base W a₀ st a w → opsV C ops l st k → wpList C.P ops Q l a w
  | [], st, a, w, _, hg, h => hQ st a w h hg
  | o :: rest, st, a, w, hd, hg, h => by
    simp only [opsV] at h
    obtain ⟨env', he, h⟩ := guardV_sound hg.env h
    have hg' : Good C w0 own0 base W a₀ ⟨env', st.own, st.H⟩ a w := ⟨he, hg.stw, hg.rel⟩
    have hdo := hd o List.mem_cons_self
    unfold wpList
    rcases h with ⟨hw, h⟩ | ⟨hw, h⟩
    · rw [if_pos hw]
      refine .inl (opV_sound hin (st := ⟨env', st.own, st.H⟩) he hg.stw (fun s own' H' w' hf hwf hext hs _ => ?_) h)
      exact opsV_sound hin hQ rest _ _ _ (fun o ho => hd o (List.mem_cons_of_mem _ ho)) (hg'.put hext hs hdo hwf) hf
    · rw [if_neg (by simp [hw])]
      exact opsV_sound hin hQ rest _ _ _ (fun o ho => hd o (List.mem_cons_of_mem _ ho)) (hg'.put (s := .v undef) (OwnExt.refl _) hg.stw hdo trivial) h
end
end Go.Vg
