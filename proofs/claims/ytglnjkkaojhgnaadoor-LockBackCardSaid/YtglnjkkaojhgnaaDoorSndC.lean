/- Soundness of the computed verification condition: code. -/
import Derived.Test.YtglnjkkaojhgnaaDoorSndB
set_option linter.unusedSimpArgs false
set_option linter.unusedVariables false
namespace Go.Vg
open Go Go.RowKit

/-- The kit's loop rule with a ghost value in the invariant. -/
theorem wp_loop_ghost {α : Type} {P : Program} {c : Code} {Q : Exit → Act → World → Prop} {a : Act} {w : World} (I : α → Act → World → Prop) (μ : α → Nat) (x₀ : α) (h₀ : I x₀ a w)
    (round : ∀ x a w, I x a w → c.wp P (Exit.then (fun a' w' => ∃ x', I x' a' w' ∧ μ x' < μ x) Q) a w) : (Code.loop c).wp P Q a w := by
  have least : ∀ a w, (∃ x, I x a w) → ∃ m, (∃ x, I x a w ∧ μ x = m) ∧ ∀ x, I x a w → m ≤ μ x := fun a w => by
    rintro ⟨x, hx⟩
    generalize hn : μ x = n
    induction n using Nat.strongRecOn generalizing x with
    | _ n ih =>
      by_cases h : ∃ y, I y a w ∧ μ y < n
      · obtain ⟨y, hy, hlt⟩ := h
        exact ih (μ y) hlt y hy rfl
      · exact ⟨n, ⟨x, hx, hn⟩, fun y hy => Nat.le_of_not_lt fun hlt => h ⟨y, hy, hlt⟩⟩
  classical
  let m : Act → World → Nat := fun a w => if h : ∃ x, I x a w then (least a w h).choose else 0
  have hm : ∀ a w, (∃ x, I x a w) → (∃ x, I x a w ∧ μ x = m a w) ∧ ∀ x, I x a w → m a w ≤ μ x := fun a w h => by
    have := (least a w h).choose_spec
    simp only [m, dif_pos h]
    exact this
  refine wp_loop (fun a w => ∃ x, I x a w) m ⟨x₀, h₀⟩ fun a w hx => ?_
  obtain ⟨⟨x, hI, hx'⟩, _⟩ := hm a w hx
  refine wp_mono (round x a w hI) fun e a' w' hq => ?_
  cases e with
  | normal =>
    obtain ⟨x', hI', hlt⟩ := hq
    refine ⟨⟨x', hI'⟩, ?_⟩
    have := (hm a' w' ⟨x', hI'⟩).2 x' hI'
    show m a' w' < m a w
    omega
  | _ => exact hq

theorem Bx_eq {x y : Bx} (hb : y.b = x.b) (hm : y.map = x.map) (ht : y.ty = x.ty) : x.set y.cs = y := by
  cases x; cases y; simp_all [Bx.set]
theorem alook_zip_some {α : Type} {f : α → List Value} : ∀ {is : List Nat} {xs : List α} {i : Nat} {c : List Value}, alook i (is.zip (xs.map f)) = some c → ∃ (k : Nat) (x : α), is[k]? = some i ∧ xs[k]? = some x ∧ f x = c
  | is, xs, i, c, h => by
    obtain ⟨k, h1, h2⟩ := alook_zip h
    rw [List.getElem?_map] at h2
    cases hx : xs[k]? with
    | none => rw [hx] at h2; cases h2
    | some x => rw [hx] at h2; exact ⟨k, x, h1, hx, by simpa using h2⟩
theorem boxVals_spec {own : List Bx} : ∀ {is : List Nat} {vs : List Value}, boxVals own is = some vs → vs.length = is.length ∧ toCells vs = (is.filterMap fun i => (own[i]?).map Bx.cs) ∧ ∀ i ∈ is, ∃ x, own[i]? = some x
  | [], vs, h => by simp [boxVals] at h; subst h; exact ⟨rfl, rfl, by simp⟩
  | i :: r, vs, h => by
    simp only [boxVals] at h
    split at h
    · rename_i x l hx hl
      obtain rfl := Option.some.inj h
      obtain ⟨h1, h2, h3⟩ := boxVals_spec hl
      refine ⟨by simp [h1], ?_, fun j hj => ?_⟩
      · simp only [toCells, List.map_cons] at h2 ⊢
        rw [List.filterMap_cons, hx]
        simp only [Option.map_some]
        rw [← h2]
        simp [Value.cells]
      · rcases List.mem_cons.1 hj with rfl | hj
        · exact ⟨x, hx⟩
        · exact h3 j hj
    · cases h
theorem filterMap_getElem {own : List Bx} : ∀ {is : List Nat}, (∀ i ∈ is, ∃ x, own[i]? = some x) → ∀ k : Nat, (is.filterMap fun i => (own[i]?).map Bx.cs)[k]? = (is[k]?).bind fun i => (own[i]?).map Bx.cs
  | [], _, k => by simp
  | i :: r, h, k => by
    obtain ⟨x, hx⟩ := h i List.mem_cons_self
    rw [List.filterMap_cons, hx]
    simp only [Option.map_some]
    cases k with
    | zero => simp [hx]
    | succ k =>
      simp only [List.getElem?_cons_succ]
      exact filterMap_getElem (fun j hj => h j (List.mem_cons_of_mem _ hj)) k
theorem slotVals_spec {st : St} : ∀ {ss : List Nat} {vs : List Value}, slotVals st ss = some vs → vs.length = ss.length ∧ ∀ k s : Nat, ss[k]? = some s → ∃ sv, look s st.env = some sv ∧ vs[k]? = some (sv.val st.own)
  | [], vs, h => by simp [slotVals] at h; subst h; exact ⟨rfl, fun k s hk => by simp at hk⟩
  | s :: r, vs, h => by
    simp only [slotVals] at h
    split at h
    · rename_i v l hv hl
      obtain rfl := Option.some.inj h
      obtain ⟨h1, h2⟩ := slotVals_spec hl
      refine ⟨by simp [h1], fun k s' hk => ?_⟩
      cases k with
      | zero => simp at hk; subst hk; exact ⟨v, hv, rfl⟩
      | succ k => simpa using h2 k s' (by simpa using hk)
    · cases h
theorem headVals_spec {slots boxes : List Nat} {st : St} {vs : List Value} (h : headVals slots boxes st = some vs) :
    slotVals st slots = some (vs.take slots.length) ∧ boxVals st.own boxes = some (vs.drop slots.length) := by
  unfold headVals at h
  split at h
  · rename_i a b ha hb
    obtain rfl := Option.some.inj h
    have := (slotVals_spec ha).1
    rw [← this, List.take_left', List.drop_left'] <;> first | exact ⟨ha, hb⟩ | rfl
  · cases h
/-- At a loop's head the boxes are what they were, but for the contents of those that are named. -/
theorem head_own {own own' : List Bx} (he : OwnExt own own') {boxes : List Nat} {vs : List Value} (hb : boxVals own' boxes = some vs)
    (hrest : restCs boxes own own.length = [] ∨ restCs boxes own' own.length = restCs boxes own own.length) : putBack own boxes (toCells vs) = own'.take own.length := by
  obtain ⟨_, hc, hin⟩ := boxVals_spec hb
  apply List.ext_getElem?
  intro j
  rw [putBack_getElem?]
  cases hx : own[j]? with
  | none =>
    have : own.length ≤ j := by simpa using hx
    rw [List.getElem?_eq_none (by simp; omega)]
    rfl
  | some x =>
    have hlt := idx_lt hx
    obtain ⟨x', hx', h1, h2, h3⟩ := he.same j x hx
    rw [List.getElem?_take, if_pos hlt, hx']
    simp only [Option.map_some, Option.some.injEq]
    rw [hc]
    split
    · rename_i c ha
      obtain ⟨k, h4, h5⟩ := alook_zip ha
      rw [filterMap_getElem hin, h4] at h5
      simp only [Option.bind_some, hx', Option.map_some, Option.some.injEq] at h5
      subst h5
      exact Bx_eq h1 h2 h3
    · rename_i ha
      have hl : (boxes.filterMap fun i => (own'[i]?).map Bx.cs).length = boxes.length := by
        rw [← hc]; simp [toCells, (boxVals_spec hb).1]
      have hnj := alook_zip_none hl ha
      have hall : ∀ i ∈ (List.range own.length).filter (fun i => !boxes.contains i), (∃ x, own[i]? = some x) ∧ ∃ x, own'[i]? = some x := fun i hi => by
        have := List.mem_range.1 (List.mem_filter.1 hi).1
        have hl := he.len
        exact ⟨⟨_, List.getElem?_eq_getElem this⟩, ⟨_, List.getElem?_eq_getElem (by omega)⟩⟩
      have hmem : j ∈ (List.range own.length).filter (fun i => !boxes.contains i) := List.mem_filter.2 ⟨List.mem_range.2 hlt, by simpa using hnj⟩
      obtain ⟨k, hk⟩ := List.mem_iff_getElem?.1 hmem
      have g1 := filterMap_getElem (fun i hi => (hall i hi).1) k
      have g2 := filterMap_getElem (fun i hi => (hall i hi).2) k
      rw [hk] at g1 g2
      simp only [Option.bind_some, hx, hx', Option.map_some] at g1 g2
      have hcs : x'.cs = x.cs := by
        unfold restCs at hrest
        rcases hrest with hr | hr
        · rw [hr] at g1; simp at g1
        · rw [hr, g1] at g2; exact (Option.some.inj g2).symm
      have := Bx_eq h1 h2 h3
      rw [hcs] at this
      rw [← this]
      cases x; rfl
theorem look_reslot {ss : List Nat} : ∀ {vs : List Value} {env : List (Nat × SV)} {s : Nat} {sv : SV}, vs.length = ss.length → look s (reslot ss vs env) = some sv → (∃ (k : Nat) (v : Value), ss[k]? = some s ∧ vs[k]? = some v ∧ sv = .v v) ∨ look s env = some sv := by
  induction ss with
  | nil => intro vs env s sv _ h; cases vs <;> exact .inr (by simpa [reslot] using h)
  | cons x r ih =>
    intro vs env s sv hl h
    cases vs with
    | nil => simp at hl
    | cons v vs =>
      simp only [reslot, look] at h
      split at h
      · rename_i e
        subst e
        exact .inl ⟨0, v, rfl, rfl, (Option.some.inj h).symm⟩
      · rcases ih (by simpa using hl) h with ⟨k, u, h1, h2, h3⟩ | h
        · exact .inl ⟨k + 1, u, by simpa using h1, by simpa using h2, h3⟩
        · exact .inr h
theorem sameRest_spec {was now : List (List Value)} {f : Prop} (h : sameRest was now f) : (was = [] ∨ now = was) ∧ f := by
  unfold sameRest at h
  split at h
  · exact ⟨.inl rfl, h⟩
  · exact ⟨.inr h.1, h.2⟩

section
variable {C : Cfg} {w0 : World} {own0 : List Nat}
def Qof (C : Cfg) (w0 : World) (own0 : List Nat) (ks : Ks) (base : List Bx) (W : List Nat) (a₀ : Act) : Exit → Act → World → Prop
  | .normal, a, w => ∃ st, ks.n st ∧ Good C w0 own0 base W a₀ st a w
  | .exit i, a, w => ∃ st, ks.x i st ∧ Good C w0 own0 base W a₀ st a w
  | .ret, a, w => ∃ st, ks.r st ∧ Good C w0 own0 base W a₀ st a w
  | _, _, _ => False
theorem StW.shorter {own own' : List Bx} {H : Heap} {w : World} (h : StW C w0 own0 own' H w) (he : ∀ x ∈ own, x ∈ own') (hn : (own.map Bx.b).Nodup) : StW C w0 own0 own H w :=
  ⟨h.sees, ⟨fun x hx => h.boxes.ok x (he x hx), fun x hx => h.boxes.hid x (he x hx), hn⟩, fun x hx => h.locs x (he x hx), h.below, h.next, h.base, h.seen0⟩
theorem writes_mem {ops : List Oper} {o : Oper} {t : Nat} (ho : o ∈ ops) (ht : o.dst = some t) : t ∈ writes ops := List.mem_filterMap.2 ⟨o, ho, ht⟩
theorem joins_spec {ops : List Oper} {t : Tmp} (h : joins C ops = some t) : ∃ o ∈ ops, o.dst = some t := by
  unfold joins at h
  split at h
  · rename_i o _ hl
    split at h
    · exact ⟨o, List.mem_of_getLast? hl, h⟩
    · cases h
  · cases h
theorem sameOwn_spec {f : Prop} {a b : List Bx} (h : sameOwn f a b) : b = a ∧ f := by
  unfold sameOwn at h
  split at h
  · exact ⟨rfl, h⟩
  · exact h
theorem leafV_spec {φ : Prop} {s : SV} {own : List Bx} (h : leafV φ s) : s.val own = .bool (@decide φ (Classical.propDecidable φ)) := by
  unfold leafV at h
  split at h
  · simp [SV.val, h]
  · simp [SV.val, h]
  · rename_i q d
    simp only [SV.val, Value.bool.injEq]
    exact (decide_eq_decide.2 h).symm
  · rename_i b
    simp only [SV.val, Value.bool.injEq]
    cases b <;> simp_all
  · exact h.elim
theorem regionV_sound (hin : InlOk C.P C.muts) {ops : Array Oper} {Q : Exit → Act → World → Prop} {base : List Bx} {W : List Nat} {a₀ : Act} {k : St → Prop} (hQ : ∀ st a w, k st → Good C w0 own0 base W a₀ st a w → Q .normal a w)
    {st : St} {a : Act} {w : World} (hd : ∀ o ∈ ops.toList, ∀ t, o.dst = some t → t < C.nt ∧ t ∈ W) (hg : Good C w0 own0 base W a₀ st a w) (h : regionV C ops st k) : wpList C.P ops Q ops.toList a w := by
  unfold regionV at h
  split at h
  · split at h
    · rename_i t ht
      obtain ⟨φ, hops, hk⟩ := h
      obtain ⟨o, ho, hot⟩ := joins_spec ht
      refine opsV_sound (base := st.own) (W := writes ops.toList) (a₀ := a) hin (fun st' a' w' hl hg' => ?_) _ _ _ _ (fun o ho t ht => ⟨(hd o ho t ht).1, writes_mem ho ht⟩) ⟨hg.env, hg.stw, ⟨OwnExt.refl _, fun _ _ => rfl⟩⟩ hops
      obtain ⟨hown, hsub, hl⟩ := sameOwn_spec hl
      refine hQ _ _ _ hk ⟨⟨hg'.env.size, hg'.env.defers, fun s sv hs => ?_⟩, ⟨fun b kb hb => hg'.stw.sees b kb (hsub b kb hb), ⟨fun x hx => hg'.stw.boxes.ok x (hown ▸ hx), hg.stw.boxes.hid, hg.stw.boxes.apart⟩, hg.stw.locs, hg'.stw.below, hg.stw.next, hg.stw.base, hg.stw.seen0⟩, ⟨hg.rel.ext, fun s hs => ?_⟩⟩
      · simp only [look] at hs
        split at hs
        · rename_i e
          subst e
          obtain rfl := Option.some.inj hs
          split at hl
          · rename_i s' hs'
            obtain ⟨_, h2, _⟩ := hg'.env.at_ _ _ hs'
            exact ⟨(hd o ho _ hot).1, by rw [h2, leafV_spec hl]; rfl, trivial⟩
          · exact hl.elim
        · obtain ⟨h1, h2⟩ := look_filter (p := fun s => !(writes ops.toList).contains s) hs
          obtain ⟨h3, h4, h5⟩ := hg.env.at_ s sv h1
          exact ⟨h3, by rw [hg'.rel.keep s (by simpa using h2), h4], h5⟩
      · rw [hg'.rel.keep s (fun hm => ?_), hg.rel.keep s hs]
        obtain ⟨o, ho, ht⟩ := List.mem_filterMap.1 hm
        exact hs (hd o ho _ ht).2
    · exact opsV_sound hin hQ _ _ _ _ hd hg h
  · exact opsV_sound hin hQ _ _ _ _ hd hg h
variable (hmix : C.P.follows .mixedOrders = true)
include hmix
theorem codeV_sound (hin : InlOk C.P C.muts) : ∀ (c : Code) (ks : Ks) (base : List Bx) (W : List Nat) (a₀ : Act) (st : St) (a : Act) (w : World), opsOk C.nt (codeOps c) = true → (∀ o ∈ codeOps c, ∀ t, o.dst = some t → t ∈ W) →
    Good C w0 own0 base W a₀ st a w → codeV C c ks st → c.wp C.P (Qof C w0 own0 ks base W a₀) a w := by
  intro c
  induction c with
  | skip => intro ks base W a₀ st a w _ _ hg h; exact wp_skip ⟨st, h, hg⟩
  | label l => intro ks base W a₀ st a w _ _ hg h; exact wp_label ⟨st, h, hg⟩
  | exit i => intro ks base W a₀ st a w _ _ hg h; exact wp_exit ⟨st, h, hg⟩
  | ret => intro ks base W a₀ st a w _ _ hg h; exact wp_ret ⟨st, h, hg⟩
  | goto l => intro ks base W a₀ st a w _ _ hg h; exact h.elim
  | refuse s => intro ks base W a₀ st a w _ _ hg h; exact h.elim
  | rangeFunc f ps x y => intro ks base W a₀ st a w _ _ hg h; exact h.elim
  | seq x y ihx ihy =>
    intro ks base W a₀ st a w hok hW hg h
    simp only [codeOps, opsOk, List.all_append, Bool.and_eq_true] at hok
    refine wp_seq (wp_mono (ihx _ base W a₀ st a w hok.1 (fun o ho => hW o (by simp [codeOps, ho])) hg h) fun e a' w' hq => ?_)
    cases e with
    | normal =>
      obtain ⟨st', hk, hg'⟩ := hq
      exact ihy ks base W a₀ st' a' w' hok.2 (fun o ho => hW o (by simp [codeOps, ho])) hg' hk
    | _ => exact hq
  | cond c x y ihx ihy =>
    intro ks base W a₀ st a w hok hW hg h
    simp only [codeOps, opsOk, List.all_append, Bool.and_eq_true] at hok
    have hx := fun h => ihx ks base W a₀ st a w hok.1 (fun o ho => hW o (by simp [codeOps, ho])) hg h
    have hy := fun h => ihy ks base W a₀ st a w hok.2 (fun o ho => hW o (by simp [codeOps, ho])) hg h
    simp only [codeV] at h
    split at h
    · rename_i hs; exact wp_cond_true (get_sound hg.env hs).1 (hx h)
    · rename_i hs; exact wp_cond_false (get_sound hg.env hs).1 (hy h)
    · rename_i q d hs
      by_cases hq : q
      · exact wp_cond_true (by rw [(get_sound hg.env hs).1]; simp [SV.val, hq]) (hx (h.1 hq))
      · exact wp_cond_false (by rw [(get_sound hg.env hs).1]; simp [SV.val, hq]) (hy (h.2 hq))
    · rename_i b hs
      cases b
      · exact wp_cond_false (get_sound hg.env hs).1 (hy (h.2 rfl))
      · exact wp_cond_true (get_sound hg.env hs).1 (hx (h.1 rfl))
    · exact h.elim
  | block id x ih =>
    intro ks base W a₀ st a w hok hW hg h
    refine wp_block (wp_mono (ih _ base W a₀ st a w hok hW hg h) fun e a' w' hq => ?_)
    cases e with
    | exit i =>
      obtain ⟨st', hk, hg'⟩ := hq
      simp only [Exit.inBlock]
      simp only at hk
      split at hk
      · rename_i e; rw [if_pos e]; exact ⟨st', hk, hg'⟩
      · rename_i e; rw [if_neg e]; exact ⟨st', hk, hg'⟩
    | _ => exact hq
  | scope x ih =>
    intro ks base W a₀ st a w hok hW hg h
    refine wp_scope_straight (wp_mono (ih _ base W a₀ st a w hok hW hg h) fun e a' w' hq => ?_)
    cases e with
    | goto l => exact hq
    | _ => exact hq
  | region id ops draw =>
    intro ks base W a₀ st a w hok hW hg h
    simp only [codeV] at h
    simp only [codeOps] at hok hW
    split at h
    · refine wp_region_any hmix (vAny_wpAny _ _ _ _ ?_)
      have hB : BelowX [] w { w with drawn := w.drawn + 1 } := BelowX.drew [] w
      have hg' : Good C w0 own0 base W a₀ st a { w with drawn := w.drawn + 1 } := ⟨hg.env, hg.stw.calledPlain hB (hg.stw.sees.below hB) (Next.refl _ _), hg.rel⟩
      exact drawV_sound hin (fun st a w hk hg => ⟨st, hk, hg⟩) (fun _ _ _ h => h) hok hW _ _ _ _ _ hg' h
    · exact wp_region_list (regionV_sound hin (fun st a w hk hg => ⟨st, hk, hg⟩) (fun o ho t ht => ⟨(opsOk_spec hok ho).2 t ht, hW o ho t ht⟩) hg h)
  | loop x ih =>
    intro ks base W a₀ st a w hok hW hg h
    simp only [codeV] at h
    simp only [codeOps] at hok hW
    split at h
    case h_2 => exact h.elim
    rename_i vs0 xs hv0 hxs
    generalize hslots : genSlots C (codeOps x) st.env = slots at *
    generalize hboxes : modBoxes C (codeOps x) st.env = boxes at *
    obtain ⟨hfit0, I, μ, hI0, hround⟩ := fitP_spec h
    clear h
    have hsw : ∀ s ∈ slots, s ∈ writes (codeOps x) ∧ s < C.nt := fun s hs => by
      rw [← hslots] at hs
      have := List.mem_filter.1 hs
      have h2 := this.2
      simp only [Bool.and_eq_true, List.contains_iff_mem] at h2
      exact ⟨h2.2, List.mem_range.1 this.1⟩
    -- the loop's invariant
    let headO : List Value → List Bx := fun vs => putBack st.own boxes (toCells (vs.drop slots.length))
    let headE : List Value → List (Nat × SV) := fun vs => reslot slots (vs.take slots.length) (dropSlots (codeOps x) st.env)
    let LI : List Value → Act → World → Prop := fun vs a' w' => ∃ H', Fits (slots.map (slotK C (codeOps x)) ++ boxKs C.P xs) vs ∧ I vs H' ∧ EnvOk C.nt (headE vs) (headO vs) a' ∧ StW C w0 own0 (headO vs) H' w' ∧
      ∀ s : Nat, s ∉ writes (codeOps x) → a'.tmps.getD s undef = a.tmps.getD s undef
    -- what a state at the round's end gives
    have key : ∀ (st' : St) (vs' : List Value) (a' : Act) (w' : World), headVals slots boxes st' = some vs' → (restCs boxes st.own st.own.length = [] ∨ restCs boxes st'.own st.own.length = restCs boxes st.own st.own.length) →
        OwnExt st.own st'.own → EnvOk C.nt st'.env st'.own a' → StW C w0 own0 st'.own st'.H w' → (∀ s : Nat, s ∉ writes (codeOps x) → a'.tmps.getD s undef = a.tmps.getD s undef) → EnvOk C.nt (headE vs') (headO vs') a' ∧ StW C w0 own0 (headO vs') st'.H w' := fun st' vs' a' w' hv hr he ha' hw' hkeep => by
      obtain ⟨hsv, hbv⟩ := headVals_spec hv
      have hown : headO vs' = st'.own.take st.own.length := head_own he hbv hr
      have hext : OwnExt st.own (headO vs') := putBack_ext _ _ _
      refine ⟨⟨ha'.size, ha'.defers, fun s sv hs => ?_⟩, ?_⟩
      · obtain ⟨hl, hat⟩ := slotVals_spec hsv
        rcases look_reslot hl hs with ⟨k, v, h1, h2, rfl⟩ | hs
        · obtain ⟨sv, h3, h4⟩ := hat k s h1
          rw [h2] at h4
          obtain ⟨_, h5, _⟩ := ha'.at_ s sv h3
          exact ⟨(hsw s (List.mem_of_getElem? h1)).2, by rw [h5]; exact (Option.some.inj h4).symm, trivial⟩
        · obtain ⟨h1, h2⟩ := look_filter (p := fun s => !(writes (codeOps x)).contains s) hs
          obtain ⟨h3, h4, h5⟩ := hg.env.at_ s sv h1
          refine ⟨h3, ?_, SV.wf_mono hext.len h5⟩
          rw [hkeep s (by simpa using h2), h4, SV.val_ext hext h5]
      · refine hw'.shorter (fun y hy => ?_) ?_
        · rw [hown] at hy; exact List.mem_of_mem_take hy
        · show ((headO vs').map Bx.b).Nodup
          rw [show (headO vs').map Bx.b = st.own.map Bx.b from putBack_b _ _ _]
          exact hg.stw.boxes.apart
    refine wp_loop_ghost LI μ vs0 ?_ fun vs a' w' hLI => ?_
    · obtain ⟨h1, h2⟩ := key st vs0 a w hv0 (.inr rfl) (OwnExt.refl _) hg.env hg.stw (fun _ _ => rfl)
      exact ⟨st.H, hfit0, hI0, h1, h2, fun _ _ => rfl⟩
    · obtain ⟨H', hfit, hI, henv, hstw, hkeep⟩ := hLI
      have hext : OwnExt st.own (headO vs) := putBack_ext _ _ _
      have hc := K1.als_spec hfit hround H' hstw.next hI
      have hgood : Good C w0 own0 (headO vs) (writes (codeOps x)) a' ⟨headE vs, headO vs, H'⟩ a' w' := ⟨henv, hstw, ⟨OwnExt.refl _, fun _ _ => rfl⟩⟩
      have hsub : ∀ {s : Nat}, s ∉ W → s ∉ writes (codeOps x) := fun hs hm => by
        obtain ⟨o, ho, ht⟩ := List.mem_filterMap.1 hm
        exact hs (hW o ho _ ht)
      refine wp_mono (ih _ (headO vs) (writes (codeOps x)) a' _ a' w' hok (fun o ho t ht => writes_mem ho ht) hgood hc) fun e a'' w'' hq => ?_
      have out : ∀ st', Good C w0 own0 (headO vs) (writes (codeOps x)) a' st' a'' w'' → Good C w0 own0 base W a₀ st' a'' w'' := fun st' hg' =>
        ⟨hg'.env, hg'.stw, ⟨hg.rel.ext.trans (hext.trans hg'.rel.ext), fun s hs => by rw [hg'.rel.keep s (hsub hs), hkeep s (hsub hs), hg.rel.keep s hs]⟩⟩
      cases e with
      | normal =>
        obtain ⟨st', hk, hg'⟩ := hq
        simp only at hk
        split at hk
        case h_2 => exact hk.elim
        rename_i vs' hv'
        obtain ⟨hfit', hk⟩ := fitP_spec hk
        obtain ⟨hr, hI', hlt⟩ := sameRest_spec hk
        have hkeep' : ∀ s : Nat, s ∉ writes (codeOps x) → a''.tmps.getD s undef = a.tmps.getD s undef := fun s hs => by rw [hg'.rel.keep s hs, hkeep s hs]
        obtain ⟨h1, h2⟩ := key st' vs' a'' w'' hv' hr (hext.trans hg'.rel.ext) hg'.env hg'.stw hkeep'
        exact ⟨vs', ⟨st'.H, hfit', hI', h1, h2, hkeep'⟩, hlt⟩
      | exit i => obtain ⟨st', hk, hg'⟩ := hq; exact ⟨st', hk, out st' hg'⟩
      | ret => obtain ⟨st', hk, hg'⟩ := hq; exact ⟨st', hk, out st' hg'⟩
      | _ => exact hq
end
end Go.Vg
