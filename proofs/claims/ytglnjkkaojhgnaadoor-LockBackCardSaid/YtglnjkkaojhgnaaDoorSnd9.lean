/- Soundness of the computed verification condition: calls. -/
import Derived.Test.YtglnjkkaojhgnaaDoorSnd8
set_option linter.unusedSimpArgs false
set_option linter.unusedVariables false
namespace Go.Vg
open Go Go.RowKit
section
variable {C : Cfg} {w0 : World} {own0 : List Nat}
theorem svsOf_sound {nt : Nat} {st : St} {a : Act} (h : EnvOk nt st.env st.own a) : ∀ {xs : List Operand} {l : List SV}, svsOf st xs = some l → xs.map a.eval = l.map (SV.val st.own)
  | [], l, e => by simp [svsOf] at e; subst e; rfl
  | x :: r, l, e => by
    simp only [svsOf] at e
    split at e
    · rename_i s l' hs hl
      obtain rfl := Option.some.inj e
      simp [(get_sound h hs).1, svsOf_sound h hl]
    · cases e
theorem mem_dedup {l : List Nat} {x : Nat} (h : x ∈ dedup l) : x ∈ l := by
  induction l with
  | nil => exact h
  | cons y r ih =>
    simp only [dedup] at h
    split at h
    · exact List.mem_cons_of_mem _ (ih h)
    · rcases List.mem_cons.1 h with rfl | h
      · exact List.mem_cons_self
      · exact List.mem_cons_of_mem _ (ih h)
theorem dedup_nodup (l : List Nat) : (dedup l).Nodup := by
  induction l with
  | nil => exact List.nodup_nil
  | cons y r ih =>
    simp only [dedup]
    split
    · exact ih
    · rename_i h
      exact List.nodup_cons.2 ⟨by simpa using h, ih⟩
theorem pick_spec {own : List Bx} : ∀ {is : List Nat} {xs : List Bx}, pick own is = some xs → xs.length = is.length ∧ ∀ k i : Nat, is[k]? = some i → ∃ x, own[i]? = some x ∧ xs[k]? = some x
  | [], xs, h => by simp [pick] at h; subst h; exact ⟨rfl, fun k i h => by simp at h⟩
  | i :: r, xs, h => by
    simp only [pick] at h
    split at h
    · rename_i x l hx hl
      obtain rfl := Option.some.inj h
      obtain ⟨h1, h2⟩ := pick_spec hl
      refine ⟨by simp [h1], fun k j hk => ?_⟩
      cases k with
      | zero => simp at hk; subst hk; exact ⟨x, hx, rfl⟩
      | succ k => simpa using h2 k j (by simpa using hk)
    · cases h
theorem pick_mem {own : List Bx} {is : List Nat} {xs : List Bx} (h : pick own is = some xs) {x : Bx} (hx : x ∈ xs) : ∃ k i : Nat, is[k]? = some i ∧ own[i]? = some x ∧ xs[k]? = some x := by
  obtain ⟨k, hk⟩ := List.mem_iff_getElem?.1 hx
  obtain ⟨h1, h2⟩ := pick_spec h
  have hl := idx_lt hk
  have hi : is[k]? = some is[k] := List.getElem?_eq_getElem (by omega)
  obtain ⟨x', ha, hb⟩ := h2 k _ hi
  rw [hk] at hb
  obtain rfl := Option.some.inj hb
  exact ⟨k, _, hi, ha, hk⟩
theorem pick_own {own : List Bx} {is : List Nat} {xs : List Bx} (h : pick own is = some xs) {x : Bx} (hx : x ∈ xs) : x ∈ own := by
  obtain ⟨_, i, _, h2, _⟩ := pick_mem h hx
  exact List.mem_of_getElem? h2
/-- Boxes picked out are boxes. -/
theorem pick_boxes {own : List Bx} {H : Heap} {w : World} (hb : BoxesOk own H w) {is : List Nat} (hn : is.Nodup) {xs : List Bx} (h : pick own is = some xs) : BoxesOk xs H w := by
  refine ⟨fun x hx => hb.ok x (pick_own h hx), fun x hx => hb.hid x (pick_own h hx), ?_⟩
  unfold List.Nodup
  rw [List.pairwise_iff_getElem]
  intro k l hk hl hkl e
  obtain ⟨h1, h2⟩ := pick_spec h
  simp only [List.length_map] at hl hk
  have hi : is[k]? = some is[k] := List.getElem?_eq_getElem (by omega)
  have hj : is[l]? = some is[l] := List.getElem?_eq_getElem (by omega)
  obtain ⟨x, ha, hx⟩ := h2 k _ hi
  obtain ⟨y, hc, hy⟩ := h2 l _ hj
  simp only [List.getElem_map] at e
  rw [List.getElem?_eq_getElem hk] at hx
  rw [List.getElem?_eq_getElem hl] at hy
  rw [Option.some.inj hx, Option.some.inj hy] at e
  have he := own_unique hb ha hc e
  have := (List.getElem?_inj (by omega) hn).1 (hi.trans ((congrArg some he).trans hj.symm))
  omega
theorem alook_zip : ∀ {is : List Nat} {cs : List (List Value)} {i : Nat} {c : List Value}, alook i (is.zip cs) = some c → ∃ k : Nat, is[k]? = some i ∧ cs[k]? = some c
  | [], _, _, _, h => by simp [alook] at h
  | j :: r, [], _, _, h => by simp [alook] at h
  | j :: r, d :: cs, i, c, h => by
    simp only [List.zip_cons_cons, alook] at h
    split at h
    · rename_i e
      subst e
      exact ⟨0, rfl, h⟩
    · obtain ⟨k, h1, h2⟩ := alook_zip h
      exact ⟨k + 1, h1, h2⟩
theorem alook_zip_none : ∀ {is : List Nat} {cs : List (List Value)} {i : Nat}, cs.length = is.length → alook i (is.zip cs) = none → i ∉ is
  | [], _, _, _, _ => by simp
  | j :: r, [], _, hl, _ => by simp at hl
  | j :: r, d :: cs, i, hl, h => by
    simp only [List.zip_cons_cons, alook] at h
    split at h
    · cases h
    · rename_i e
      simp only [List.mem_cons, not_or]
      exact ⟨Ne.symm e, alook_zip_none (by simpa using hl) h⟩
theorem ownWith_getElem? (al : List (Nat × List Value)) : ∀ (own : List Bx) (i j : Nat), (ownWith al i own)[j]? = (own[j]?).map fun x => match alook (i + j) al with | some c => x.set c | none => x
  | [], i, j => by simp [ownWith]
  | x :: r, i, 0 => by cases h : alook i al <;> simp [ownWith, h]
  | x :: r, i, j + 1 => by
    simp only [ownWith, List.getElem?_cons_succ]
    rw [ownWith_getElem? al r (i + 1) j, show i + 1 + j = i + (j + 1) from by omega]
theorem putBack_getElem? (own : List Bx) (is : List Nat) (cs : List (List Value)) (j : Nat) : (putBack own is cs)[j]? = (own[j]?).map fun x => match alook j (is.zip cs) with | some c => x.set c | none => x := by
  simp [putBack, ownWith_getElem?]
theorem set_same (x : Bx) (c : List Value) : (x.set c).b = x.b ∧ (x.set c).map = x.map ∧ (x.set c).ty = x.ty := ⟨rfl, rfl, rfl⟩
theorem ownWith_length (al : List (Nat × List Value)) : ∀ (own : List Bx) (i : Nat), (ownWith al i own).length = own.length
  | [], _ => rfl
  | x :: r, i => by simp [ownWith, ownWith_length al r]
theorem putBack_length (own : List Bx) (is : List Nat) (cs : List (List Value)) : (putBack own is cs).length = own.length := ownWith_length _ _ _
theorem putBack_ext (own : List Bx) (is : List Nat) (cs : List (List Value)) : OwnExt own (putBack own is cs) := by
  refine ⟨by rw [putBack_length]; exact Nat.le_refl _, fun i x hx => ?_⟩
  rw [putBack_getElem?, hx]
  simp only [Option.map_some]
  split
  · exact ⟨_, rfl, rfl, rfl, rfl⟩
  · exact ⟨_, rfl, rfl, rfl, rfl⟩
theorem putBack_b (own : List Bx) (is : List Nat) (cs : List (List Value)) : (putBack own is cs).map Bx.b = own.map Bx.b := by
  apply List.ext_getElem?
  intro j
  rw [List.getElem?_map, putBack_getElem?, List.getElem?_map]
  cases own[j]? with
  | none => rfl
  | some x => simp only [Option.map_some]; split <;> rfl
theorem setAll_getElem? : ∀ {xs : List Bx} {cs : List (List Value)} {k : Nat} {x : Bx} {c : List Value}, xs[k]? = some x → cs[k]? = some c → (setAll xs cs)[k]? = some (x.set c)
  | [], _, _, _, _, h, _ => by simp at h
  | x :: xs, [], _, _, _, _, h => by simp at h
  | x :: xs, c :: cs, 0, _, _, h, h' => by simp at h h'; subst h; subst h'; rfl
  | x :: xs, c :: cs, k + 1, _, _, h, h' => by simpa [setAll] using setAll_getElem? (xs := xs) (cs := cs) (k := k) (by simpa using h) (by simpa using h')
/-- Behind a call to which boxes were handed. -/
theorem StW.called {own : List Bx} {H H' : Heap} {w w' : World} (hw : StW C w0 own0 own H w) {is : List Nat} {xs : List Bx} (hp : pick own is = some xs) {css : List (List Value)} (hl : css.length = xs.length)
    (hB : BelowX (xs.map Bx.b) w w') (hS : Sees H' w') (hO : BoxesOk (setAll xs css) H' w') (hN : Next w.heap.size H H') : StW C w0 own0 (putBack own is css) H' w' := by
  have hbl := hw.base_le
  obtain ⟨hlen, _⟩ := pick_spec hp
  have hmem : ∀ y ∈ putBack own is css, (∃ x ∈ own, y.b = x.b) ∧ y.ok w' ∧ H' y.b = none := fun y hy => by
    obtain ⟨j, hj⟩ := List.mem_iff_getElem?.1 hy
    rw [putBack_getElem?] at hj
    cases hx : own[j]? with
    | none => simp [hx] at hj
    | some x =>
      simp only [hx, Option.map_some, Option.some.injEq] at hj
      have hxm := List.mem_of_getElem? hx
      cases ha : alook j (is.zip css) with
      | some c =>
        simp only [ha] at hj
        subst hj
        obtain ⟨k, h1, h2⟩ := alook_zip ha
        obtain ⟨x', h3, h4⟩ := (pick_spec hp).2 k j h1
        rw [hx] at h3
        obtain rfl := Option.some.inj h3
        have hm := List.mem_of_getElem? (setAll_getElem? h4 h2)
        exact ⟨⟨x, hxm, rfl⟩, hO.ok _ hm, hO.hid _ hm⟩
      | none =>
        simp only [ha] at hj
        subst hj
        have hnj := alook_zip_none (by omega) ha
        have hlt := Bx.ok_lt (hw.boxes.ok x hxm)
        have hnx : x.b ∉ xs.map Bx.b := fun hmem => by
          obtain ⟨z, hz, hzb⟩ := List.mem_map.1 hmem
          obtain ⟨k, i, h1, h2, _⟩ := pick_mem hp hz
          have := own_unique hw.boxes h2 hx hzb
          subst this
          exact hnj (List.mem_of_getElem? h1)
        refine ⟨⟨x, hxm, rfl⟩, Bx.ok_same (hw.boxes.ok x hxm) (hB.block _ hlt hnx), ?_⟩
        cases hk : H' x.b with
        | none => rfl
        | some k => have := hN.fresh _ _ hk (hw.boxes.hid x hxm); omega
  refine ⟨hS, ⟨fun y hy => (hmem y hy).2.1, fun y hy => (hmem y hy).2.2, by rw [putBack_b]; exact hw.boxes.apart⟩, fun y hy => ?_, hw.step hB.os hB.tape hB.output hB.size fun k hk hn => hB.block k (by omega) (fun hm => ?_), hw.next.trans (hN.mono hbl), hw.base, hw.seen0⟩
  · obtain ⟨⟨x, hx, e⟩, _⟩ := hmem y hy
    rw [e]; exact hw.locs x hx
  · obtain ⟨z, hz, hzb⟩ := List.mem_map.1 hm
    rcases hw.locs z (pick_own hp hz) with h | h
    · omega
    · exact hn (hzb ▸ h)
/-- Behind a call that only read the boxes lent to it. -/
theorem StW.calledPlain {own : List Bx} {H H' : Heap} {w w' : World} (hw : StW C w0 own0 own H w) (hB : BelowX [] w w') (hS : Sees H' w') (hN : Next w.heap.size H H') : StW C w0 own0 own H' w' := by
  have hbl := hw.base_le
  refine ⟨hS, ⟨(hw.boxes.below hB).ok, fun y hy => ?_, hw.boxes.apart⟩, hw.locs, hw.step hB.os hB.tape hB.output hB.size fun k hk _ => hB.block k (by omega) (by simp), hw.next.trans (hN.mono hbl), hw.base, hw.seen0⟩
  have hlt := Bx.ok_lt (hw.boxes.ok y hy)
  cases hk : H' y.b with
  | none => rfl
  | some k => have := hN.fresh _ _ hk (hw.boxes.hid y hy); omega
def lendH (xs : List Bx) (H : Heap) : Heap := fun b => match xs.find? (fun x => x.b == b) with
  | some x => some (boxKB x.ty x.cs)
  | none => H b
theorem lendH_at {xs : List Bx} {H : Heap} {w : World} (hb : BoxesOk xs H w) {x : Bx} (hx : x ∈ xs) : lendH xs H x.b = some (boxKB x.ty x.cs) := by
  unfold lendH
  cases hf : xs.find? (fun y => y.b == x.b) with
  | none => have := List.find?_eq_none.1 hf x hx; simp at this
  | some y =>
    have h1 := List.mem_of_find?_eq_some hf
    have h2 := List.find?_some hf
    simp at h2
    obtain ⟨i, hi⟩ := List.mem_iff_getElem?.1 h1
    obtain ⟨j, hj⟩ := List.mem_iff_getElem?.1 hx
    have e := own_unique hb hi hj h2
    subst e
    rw [hi] at hj
    obtain rfl := Option.some.inj hj
    rfl
theorem lendH_other {xs : List Bx} {H : Heap} {b : Nat} (h : ∀ x ∈ xs, b ≠ x.b) : lendH xs H b = H b := by
  unfold lendH
  have : xs.find? (fun x => x.b == b) = none := List.find?_eq_none.2 fun x hx => by simp; exact fun e => h x hx e.symm
  rw [this]
theorem lendH_knows {xs : List Bx} {H : Heap} {w : World} (hb : BoxesOk xs H w) : ∀ ys : List Bx, (∀ y ∈ ys, y ∈ xs) → knows (lendH xs H) ys
  | [], _ => trivial
  | y :: r, h => ⟨lendH_at hb (h y List.mem_cons_self), lendH_knows hb r fun z hz => h z (List.mem_cons_of_mem _ hz)⟩
theorem lendH_sees {xs : List Bx} {H : Heap} {w : World} (hs : Sees H w) (hb : BoxesOk xs H w) (hmap : xs.all (fun x => !x.map) = true) : Sees (lendH xs H) w := by
  intro b k hk
  by_cases h : ∃ x ∈ xs, b = x.b
  · obtain ⟨x, hx, rfl⟩ := h
    rw [lendH_at hb hx] at hk
    obtain rfl := Option.some.inj hk
    have hm : x.map = false := by simpa using List.all_eq_true.1 hmap x hx
    have hok := hb.ok x hx
    simp only [Bx.ok, hm] at hok
    rw [hok]; exact boxKB_sees _ _
  · have hn : ∀ x ∈ xs, b ≠ x.b := fun x hx e => h ⟨x, hx, e⟩
    rw [lendH_other hn] at hk
    exact hs b k hk
theorem lendH_next {xs : List Bx} {H : Heap} {w : World} (hb : BoxesOk xs H w) : Next 0 H (lendH xs H) := by
  refine ⟨fun b k hk => ?_, fun _ _ _ _ => Nat.zero_le _⟩
  rw [lendH_other fun x hx e => ?_]
  · exact hk
  · rw [e, hb.hid x hx] at hk; cases hk
def maskH (xs : List Bx) (H : Heap) : Heap := fun b => if xs.any (fun x => x.b == b) then none else H b
theorem maskH_spec {xs : List Bx} {H : Heap} {b : Nat} : (∀ x ∈ xs, b ≠ x.b) ∧ maskH xs H b = H b ∨ maskH xs H b = none := by
  unfold maskH
  by_cases h : xs.any (fun x => x.b == b) = true
  · rw [if_pos h]; exact .inr rfl
  · rw [if_neg h]
    refine .inl ⟨fun x hx e => h (List.any_eq_true.2 ⟨x, hx, by simp [e]⟩), rfl⟩

theorem run_callFunc {P : Program} {g : FuncId} (h : bodied P g = true) (args : Array Value) (w : World) : (callFunc g args).run P w = .ok (.enter g args) w := by
  unfold bodied at h
  split at h
  · rename_i fn hf
    simp only [Bool.and_eq_true, bne_iff_ne, ne_eq] at h
    have h2 : fn.body ≠ none := by cases hb : fn.body <;> simp_all
    simp [callFunc, hf, h.2, h2]
  · cases h
/-- Taking bodies in place is right. -/
def InlOk (P : Program) (m : Muts) : Prop := ∀ base H0 g pre own H f p, m.inl base H0 g pre own H f = some p → m.list.contains g = true ∧ (p → ∀ (C : Cfg) (w0 : World) (own0 : List Nat) (w : World), C.base = base → C.H0 = H0 → StW C w0 own0 own H w → (∀ s ∈ pre, SV.wf own.length s) →
  Calls P g (pre.map (SV.val own)).toArray w fun e w' => ∃ v own' H', e = .returned v ∧ f (.v v) own' H' ∧ OwnExt own own' ∧ StW C w0 own0 own' H' w')
theorem svsOf_wf {nt : Nat} {st : St} {a : Act} (h : EnvOk nt st.env st.own a) : ∀ {xs : List Operand} {l : List SV}, svsOf st xs = some l → ∀ s ∈ l, SV.wf st.own.length s
  | [], l, e => by simp [svsOf] at e; subst e; simp
  | x :: r, l, e => by
    simp only [svsOf] at e
    split at e
    · rename_i s l' hs hl
      obtain rfl := Option.some.inj e
      intro t ht
      rcases List.mem_cons.1 ht with rfl | ht
      · exact (get_sound h hs).2
      · exact svsOf_wf h hl t ht
    · cases e
theorem callTo_sound (hin : InlOk C.P C.muts) {o : Oper} {st : St} {a : Act} {w : World} {g : FuncId} {pre : List SV} {rty : TypeId}
    (hr : ∀ (w : World), (execOp a.eval o).run C.P w = (callFunc g (pre.map (SV.val st.own)).toArray).run C.P w)
    (hturn : turns C o = false → C.muts.list.contains g = false) (hwf : ∀ s ∈ pre, SV.wf st.own.length s)
    (hw : StW C w0 own0 st.own st.H w) {f : SV → List Bx → Heap → Prop} {K : Act → World → Prop} {Q : Exit → Act → World → Prop} (hK : Cont C w0 own0 st o a w f K)
    (h : callTo C g pre st rty f) : o.wp C.P a w K Q := by
  unfold callTo at h
  split at h
  case isFalse =>
    split at h
    · split at h
      · obtain ⟨hx, hf⟩ := h
        exact wp_value ((hr w).trans (hx w hw.sees)) (hK .ff _ _ _ hf trivial (OwnExt.refl _) hw (fun _ => BelowX.refl _ _))
      · obtain ⟨r, hx, hf⟩ := K2.ex_spec h
        exact wp_value ((hr w).trans (hx w hw.sees)) (hK (.v r) _ _ _ hf trivial (OwnExt.refl _) hw (fun _ => BelowX.refl _ _))
    · exact h.elim
  rename_i hg
  unfold Oper.wp
  rw [hr, run_callFunc hg]
  rw [Oper.upon_enter]
  split at h
  · rename_i p hp
    obtain ⟨hc, hcall⟩ := hin _ _ _ _ _ _ _ _ hp
    refine Calls.mono (hcall h C w0 own0 w rfl rfl hw hwf) fun e w' he => ?_
    obtain ⟨v, own', H', rfl, hf, hext, hw'⟩ := he
    exact hK (.v v) _ _ _ hf trivial hext hw' (fun ht => by rw [hturn ht] at hc; cases hc)
  split at h
  · rename_i hd
    have hS := h w hw.sees ⟨by simp, by simp, by simp⟩
    refine Calls.mono hS fun e w' he => ?_
    obtain ⟨v, css, H', rfl, hl, hB, hS', _, hN, hq⟩ := he
    obtain ⟨r, rfl, hf⟩ := K2.ex_spec hq
    exact hK (.v _) _ _ _ (hf (hN.mono hw.base_le)) trivial (OwnExt.refl _) (hw.calledPlain (by simpa using hB) hS' hN) (fun _ => by simpa using hB)
  · rename_i is hd
    split at h
    · rename_i xs hp
      have hnd : (dedup (lentBy pre)).Nodup := dedup_nodup _
      have hbx := pick_boxes hw.boxes hnd hp
      split at h
      · rename_i hmut
        refine Calls.mono (h w hw.sees hbx) fun e w' he => ?_
        obtain ⟨v, css, H', rfl, hl, hB, hS', hO, hN, hq⟩ := he
        obtain ⟨r, rfl, hq⟩ := K2.ex_spec hq
        obtain ⟨ws, ⟨rfl, hf⟩, _⟩ := K1.exs_spec hq
        exact hK (.v _) _ _ _ (hf (hN.mono hw.base_le)) trivial (putBack_ext _ _ _) (hw.called hp hl hB hS' hO hN) (fun ht => by rw [hturn ht] at hmut; cases hmut)
      · obtain ⟨hmap, h⟩ := h
        have hSl := lendH_sees hw.sees hbx hmap
        refine Calls.mono (h (lendH xs st.H) (lendH_next hbx) (lendH_knows hbx xs fun _ h => h) w hSl ⟨by simp, by simp, by simp⟩) fun e w' he => ?_
        obtain ⟨v, css, H'', rfl, hl, hB, hS', _, hN, hq⟩ := he
        obtain ⟨r, rfl, hq⟩ := K2.ex_spec hq
        have hB' : BelowX [] w w' := by simpa using hB
        have hN' : Next w.heap.size st.H (maskH xs H'') := by
          refine ⟨fun b k hk => ?_, fun b k hk hk0 => ?_⟩
          · have hn : ∀ x ∈ xs, b ≠ x.b := fun x hx e => by rw [e, hbx.hid x hx] at hk; cases hk
            have h1 := hN.ext b k (by rw [lendH_other hn]; exact hk)
            unfold maskH
            rw [if_neg, h1]
            intro hany
            obtain ⟨x, hx, e⟩ := List.any_eq_true.1 hany
            exact hn x hx (by simpa using (beq_iff_eq.1 e).symm)
          · rcases maskH_spec (xs := xs) (H := H'') (b := b) with ⟨hn, e⟩ | e
            · rw [e] at hk
              exact hN.fresh b k hk (by rw [lendH_other hn]; exact hk0)
            · rw [e] at hk; cases hk
        have hSm : Sees (maskH xs H'') w' := fun b k hk => by
          rcases maskH_spec (xs := xs) (H := H'') (b := b) with ⟨hn, e⟩ | e
          · rw [e] at hk; exact hS' b k hk
          · rw [e] at hk; cases hk
        refine hK (.v _) _ _ _ (hq _ (hN'.mono hw.base_le) fun b k hk hn => ?_) trivial (OwnExt.refl _) (hw.calledPlain hB' hSm hN') (fun _ => hB')
        unfold maskH
        rw [if_neg, hk]
        intro hany
        obtain ⟨x, hx, e⟩ := List.any_eq_true.1 hany
        exact hn x hx (by simpa using (beq_iff_eq.1 e).symm)
    · exact h.elim
theorem callV_sound (hin : InlOk C.P C.muts) {o : Oper} {fo : Operand} {args : Array Operand} {ts : Array TypeId} (ho : o.op = .call { callee := .value fo, args := args, argTypes := ts }) {st : St} {a : Act} {w : World} (ha : EnvOk C.nt st.env st.own a)
    (hw : StW C w0 own0 st.own st.H w) {f : SV → List Bx → Heap → Prop} {K : Act → World → Prop} {Q : Exit → Act → World → Prop} (hK : Cont C w0 own0 st o a w f K)
    (h : callV C fo args.toList st o.type f) : o.wp C.P a w K Q := by
  unfold callV at h
  split at h
  case h_2 => exact h.elim
  rename_i as has
  have hargs := svsOf_sound ha has
  have hmap : args.map a.eval = (as.map (SV.val st.own)).toArray := by
    apply Array.ext'
    simpa using hargs
  have key : ∀ g, ((∃ g', fo = .func g') → fo = .func g) → turns C o = false → C.muts.list.contains g = false := fun g hg ht => by
    cases fo with
    | func g' =>
      have := hg ⟨g', rfl⟩
      cases this
      simpa [turns, ho] using ht
    | _ => simp [turns, ho] at ht
  split at h
  · rename_i g first caps hfo
    have hv := (get_sound ha hfo).1
    refine callTo_sound hin (fun w => ?_) (key g ?_) (fun s hs => ?_) hw hK h
    · simp only [SV.val] at hv
      simp [execOp, ho, resolve, Deferred.ofValue, hv, invoke, hmap, SV.val, Function.comp_def]
      congr 2
      exact Array.ext' (by simp)
    · rintro ⟨g', rfl⟩
      simp [St.get] at hfo
      rw [hfo.1]
    · simp only [List.mem_append, List.mem_map] at hs
      rcases hs with (⟨v, _, rfl⟩ | hs) | ⟨v, _, rfl⟩
      · trivial
      · exact svsOf_wf ha has s hs
      · trivial
  · rename_i g caps hfo
    have hv := (get_sound ha hfo).1
    refine callTo_sound hin (fun w => ?_) (key g ?_) (fun s hs => ?_) hw hK h
    · simp only [SV.val] at hv
      simp [execOp, ho, resolve, Deferred.ofValue, hv, invoke, hmap, SV.val, Function.comp_def]
    · rintro ⟨g', rfl⟩
      simp [St.get] at hfo
    · simp only [List.mem_append, List.mem_map] at hs
      rcases hs with hs | ⟨i, hi, rfl⟩
      · exact svsOf_wf ha has s hs
      · exact (get_sound ha hfo).2 i hi
  · exact h.elim
end
end Go.Vg
