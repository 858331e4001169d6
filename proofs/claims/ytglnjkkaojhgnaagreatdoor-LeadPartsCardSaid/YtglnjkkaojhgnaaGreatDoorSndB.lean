/- Soundness of the computed verification condition: regions that draw their order. -/
import Derived.Test.YtglnjkkaojhgnaaGreatDoorSnd9
set_option linter.unusedSimpArgs false
set_option linter.unusedVariables false
namespace Go.Vg
open Go Go.RowKit

section
variable {P : Program} {ops : Array Oper} {Q : Exit → Act → World → Prop}
/-- It yields v in every world of which G holds, or its guard passes it over. -/
def YieldsG (G : World → Prop) (P : Program) (ops : Array Oper) (o : Oper) (v : Value) (a : Act) : Prop :=
  (Region.wanted o (yielded ops a.tmps) = true ∧ ∀ w, G w → (execOp a.eval o).run P w = .ok (.value v) w) ∨ (Region.wanted o (yielded ops a.tmps) = false ∧ v = undef)
theorem YieldsG.same {G : World → Prop} {o : Oper} {v : Value} {a a' : Act} (h : YieldsG G P ops o v a) (he : execOp a'.eval o = execOp a.eval o)
    (hw : Region.wanted o (yielded ops a'.tmps) = Region.wanted o (yielded ops a.tmps)) : YieldsG G P ops o v a' := by
  unfold YieldsG at *; rw [he, hw]; exact h
theorem YieldsG.take {G : World → Prop} {i : Nat} {o : Oper} {v : Value} {a : Act} {w : World} (h : YieldsG G P ops o v a) (hi : ops[i]? = some o) (hG : G w) {K : Act → World → Prop} (hK : K (a.put o.dst v) w) : wpOp P ops Q i K a w := by
  simp only [wpOp, hi]
  rcases h with ⟨hw, hv⟩ | ⟨hw, rfl⟩
  · rw [if_pos hw]; exact .inl (wp_value (hv w hG) hK)
  · rw [if_neg (by simp [hw])]; exact hK
/-- An operation run before oi's slot is written does what it does behind it. -/
theorem wpOp_before {G : World → Prop} {j : Nat} {oi oj : Oper} {v : Value} (hj : ops[j]? = some oj) (hap : oi.apart ops oj = true)
    (hsi : ∀ cs b, oi.op ≠ .select cs b) (hsj : ∀ cs b, oj.op ≠ .select cs b) (hQ : ∀ c a w, ¬ Q (.panic c) a w) {K : Act → World → Prop} {a : Act} {w : World} (hy : YieldsG G P ops oi v a)
    (h : wpOp P ops Q j K (a.put oi.dst v) w) : wpOp P ops Q j (fun a' w' => YieldsG G P ops oi v a' ∧ K (a'.put oi.dst v) w') a w := by
  obtain ⟨h1, h2, h3⟩ := Oper.apart_spec hap
  have ex : execOp (a.put oi.dst v).eval oj = execOp a.eval oj := execOp_put oj hsj a oi.dst v h1
  have wn := wanted_put (ops := ops) oj a oi.dst v h1
  have keep : ∀ b : Act, YieldsG G P ops oi v b → ∀ u, YieldsG G P ops oi v (b.put oj.dst u) := fun b hb u => hb.same (execOp_put oi hsi b oj.dst u h3) (wanted_put oi b oj.dst u h3)
  have go : ∀ (b : Act), YieldsG G P ops oi v b → ∀ u w', K ((b.put oi.dst v).put oj.dst u) w' → YieldsG G P ops oi v (b.put oj.dst u) ∧ K ((b.put oj.dst u).put oi.dst v) w' := fun b hb u w' hk =>
    ⟨keep b hb u, by rw [← Act.put_comm b v u h2]; exact hk⟩
  simp only [wpOp, hj] at h ⊢
  rw [wn] at h
  by_cases hw : Region.wanted oj (yielded ops a.tmps) = true
  · rw [if_pos hw] at h ⊢
    refine h.imp (fun h => ?_) (fun h => ⟨by have := h.1; unfold Oper.asks at *; rw [ex] at this; exact this, h.2⟩)
    unfold Oper.wp at *
    rw [ex] at h
    generalize (execOp a.eval oj).run P w = r at h ⊢
    cases r with
    | halt x w' => cases x <;> simp only [Oper.upon] at h ⊢; exact absurd h (hQ _ _ _)
    | ok n w' =>
      cases n <;> simp only [Oper.upon] at h ⊢
      case value u => exact go a hy u w' h
      case skip => exact go a hy undef w' h
      case defer d => exact go { a with defers := d :: a.defers } (hy.same rfl rfl) undef w' (by rw [← Act.put_defers]; exact h)
      case enter f args =>
        refine Calls.mono h fun e w'' he => ?_
        cases e with
        | returned u => exact go a hy u w'' he
        | panicked c => exact absurd he (hQ _ _ _)
        | outgrown => exact he
      case row row args => exact Rows.mono h fun u w'' he => go a hy u w'' he
  · rw [if_neg hw] at h ⊢
    exact go a hy undef w h
end

section
variable (C : Cfg) (ops : Array Oper) (Q : Exit → Act → World → Prop)
/-- As the kit's wpAny; and each operation's world is told to be no other below where it may turn nothing. -/
def vAny : Nat → Array Bool → Act → World → Prop
  | 0, listed, a, w => Region.ready .any ops listed = [] ∧ Q .normal a w
  | n + 1, listed, a, w => (Region.ready .any ops listed = [] → Q .normal a w) ∧
    ∀ i ∈ Region.ready .any ops listed, wpOp C.P ops Q i (fun a' w' => (∀ o, ops[i]? = some o → turns C o = false → BelowX [] w w') ∧ vAny n (listed.setIfInBounds i true) a' w') a w
end
section
variable {C : Cfg} {ops : Array Oper} {Q : Exit → Act → World → Prop}
theorem vAny_wpAny : ∀ (n : Nat) (listed : Array Bool) (a : Act) (w : World), vAny C ops Q n listed a w → wpAny C.P .any ops Q n listed a w
  | 0, listed, a, w, h => h
  | n + 1, listed, a, w, h => ⟨h.1, fun i hi => wpOp_mono (fun a' w' h' => vAny_wpAny n _ a' w' h'.2) (h.2 i hi)⟩
theorem waits_mono {j i : Nat} : ∀ {n : Nat}, waits ops n j i = true → waits ops (n + 1) j i = true := by
  intro n
  induction n generalizing j with
  | zero =>
    intro h
    simp only [waits] at h ⊢
    split at h
    · rename_i o ho; simp only [h, Bool.true_or]
    · cases h
  | succ n ih =>
    intro h
    rw [waits] at h ⊢
    split at h
    · rename_i o ho
      simp only [Bool.or_eq_true] at h ⊢
      refine h.imp id fun h => ?_
      obtain ⟨e, he, h⟩ := Array.any_eq_true'.1 h
      simp only [Bool.and_eq_true] at h
      exact Array.any_eq_true'.2 ⟨e, he, by simp only [Bool.and_eq_true]; exact ⟨h.1, ih h.2⟩⟩
    · cases h
theorem getD_flip {l : Array Bool} {i : Nat} (h : l.getD i true = false) : l.getD i false = false := by
  rcases Nat.lt_or_ge i l.size with h' | h'
  · simpa [h'] using h
  · simp [h'] at h
/-- What waits for an operation not yet listed is not ready. -/
theorem not_ready {listed : Array Bool} {i j : Nat} (hi : listed.getD i true = false) (hw : ∀ k, waits ops 4 k i = true → listed.getD k true = false) (hj : j ∈ Region.ready .any ops listed) : waits ops 4 j i = false := by
  cases h : waits ops 4 j i with
  | false => rfl
  | true =>
    obtain ⟨_, o, ho, hall⟩ := mem_ready.1 hj
    rw [waits, ho] at h
    simp only [Bool.or_eq_true] at h
    rcases h with h | h
    · obtain ⟨e, he, h⟩ := Array.any_eq_true'.1 h
      simp only [Bool.and_eq_true, beq_iff_eq] at h
      have := hall e he h.1
      rw [h.2, getD_flip hi] at this
      cases this
    · obtain ⟨e, he, h⟩ := Array.any_eq_true'.1 h
      simp only [Bool.and_eq_true] at h
      have h1 := hall e he h.1
      rw [getD_flip (hw _ (waits_mono h.2))] at h1
      cases h1
/-- G stays true whatever ready operation is run before i. -/
def Calm (C : Cfg) (ops : Array Oper) (G : World → Prop) (i : Nat) (listed : Array Bool) : Prop :=
  (∀ w, G w) ∨ ((∀ w w', BelowX [] w w' → G w → G w') ∧ (∀ k, waits ops 4 k i = true → listed.getD k true = false) ∧
    ∀ (j : Nat) (o : Oper), ops[j]? = some o → j ≠ i → listed.getD j true = false → turns C o = true → waits ops 4 j i = true)
theorem vAny_first {G : World → Prop} {i : Nat} {oi : Oper} {v : Value} (hi : ops[i]? = some oi) (hsel : ∀ (j : Nat) (o : Oper) cs b, ops[j]? = some o → o.op ≠ .select cs b) (hQ : ∀ c a w, ¬ Q (.panic c) a w) :
    ∀ (n : Nat) (listed : Array Bool) (a : Act) (w : World),
      (∀ j oj, ops[j]? = some oj → j ≠ i → listed.getD j true = false → (∀ e ∈ oj.after, Region.binds .any e = true → e.on ≠ i) → oi.apart ops oj = true) →
      i ∈ Region.ready .any ops listed → YieldsG G C.P ops oi v a → G w → Calm C ops G i listed → vAny C ops Q n (listed.setIfInBounds i true) (a.put oi.dst v) w → vAny C ops Q (n + 1) listed a w := by
  intro n
  induction n with
  | zero =>
    intro listed a w _ hr hy hG hC H
    refine ⟨fun h => (by rw [h] at hr; cases hr), fun j hj => ?_⟩
    by_cases hji : j = i
    · subst hji; exact hy.take hi hG ⟨fun _ _ _ => BelowX.refl _ _, H⟩
    · have := ready_mono hj hji
      rw [H.1] at this
      cases this
  | succ n ih =>
    intro listed a w hfree hr hy hG hC H
    refine ⟨fun h => (by rw [h] at hr; cases hr), fun j hj => ?_⟩
    by_cases hji : j = i
    · subst hji; exact hy.take hi hG ⟨fun _ _ _ => BelowX.refl _ _, H⟩
    · have h1 := H.2 j (ready_mono hj hji)
      obtain ⟨hjun, oj, hoj, hall⟩ := mem_ready.1 hj
      have hiun := (mem_ready.1 hr).1
      have hnot : ∀ e ∈ oj.after, Region.binds .any e = true → e.on ≠ i := fun e he hb heq => by
        have h1 := hall e he hb
        rw [heq, getD_flip hiun] at h1
        cases h1
      have hturn : Calm C ops G i (listed.setIfInBounds j true) ∧ ((∀ w, G w) ∨ ((∀ w w', BelowX [] w w' → G w → G w') ∧ turns C oj = false)) := by
        rcases hC with hC | ⟨hC1, hC2, hC3⟩
        · exact ⟨.inl hC, .inl hC⟩
        · have hnw := not_ready hiun hC2 hj
          refine ⟨.inr ⟨hC1, fun k hk => ?_, fun k o ho hki hun ht => ?_⟩, .inr ⟨hC1, ?_⟩⟩
          · have hjk : j ≠ k := fun e => by subst e; rw [hnw] at hk; cases hk
            rw [getD_set_ne true hjk]; exact hC2 k hk
          · by_cases hjk : j = k
            · subst hjk
              rcases Nat.lt_or_ge j listed.size with h' | h'
              · simp [h'] at hun
              · simp [h'] at hjun
            · rw [getD_set_ne true hjk] at hun; exact hC3 k o ho hki hun ht
          · cases ht : turns C oj with
            | false => rfl
            | true => have := hC3 j oj hoj hji hjun ht; rw [hnw] at this; cases this
      obtain ⟨hC', hstep⟩ := hturn
      have h2 := wpOp_before hoj (hfree j oj hoj hji hjun hnot) (fun cs b => hsel i oi cs b hi) (fun cs b => hsel j oj cs b hoj) hQ hy h1
      have hfree' : ∀ k ok, ops[k]? = some ok → k ≠ i → (listed.setIfInBounds j true).getD k true = false →
          (∀ e ∈ ok.after, Region.binds .any e = true → e.on ≠ i) → oi.apart ops ok = true := fun k ok hk hki hun hno => by
        refine hfree k ok hk hki ?_ hno
        by_cases hjk : j = k
        · subst hjk; exact hjun
        · rw [getD_set_ne true hjk] at hun; exact hun
      refine wpOp_mono (fun a' w' h3 => ⟨h3.2.1, ih (listed.setIfInBounds j true) a' w' hfree' (ready_mono hr (Ne.symm hji)) h3.1 ?_ hC' ?_⟩) h2
      · rcases hstep with h | ⟨h, ht⟩
        · exact h w'
        · exact h w w' (h3.2.1 oj hoj ht) hG
      · rw [Array.setIfInBounds_comm _ _ hji]
        exact h3.2.2
end

section
variable {C : Cfg} {w0 : World} {own0 : List Nat}
/-- No operation waits on another goroutine, and each writes a slot there is. -/
def opsOk (nt : Nat) (ops : List Oper) : Bool := ops.all fun o => (match o.op with | .select .. => false | _ => true) && (match o.dst with | some t => decide (t < nt) | none => true)
theorem opsOk_spec {nt : Nat} {ops : List Oper} (h : opsOk nt ops = true) {o : Oper} (ho : o ∈ ops) : (∀ cs b, o.op ≠ .select cs b) ∧ ∀ t, o.dst = some t → t < nt := by
  have := List.all_eq_true.1 h o ho
  simp only [Bool.and_eq_true] at this
  refine ⟨fun cs b e => ?_, fun t ht => ?_⟩
  · simp [e] at this
  · simpa [ht] using this.2
theorem quiet_some {o : Oper} {st : St} (h : worldless C o = true ∨ isLoad o = true) : ∃ q, quietV C o st = some q := by
  unfold quietV
  unfold worldless isLoad at h
  split <;> first | exact ⟨_, rfl⟩ | skip
  all_goals simp_all
theorem drawV_sound (hin : InlOk C.P C.muts) {ops : Array Oper} {Q : Exit → Act → World → Prop} {base : List Bx} {W : List Nat} {a₀ : Act} {k : St → Prop} (hQ : ∀ st a w, k st → Good C w0 own0 base W a₀ st a w → Q .normal a w) (hp : ∀ c a w, ¬ Q (.panic c) a w)
    (hok : opsOk C.nt ops.toList = true) (hd : ∀ o ∈ ops.toList, ∀ t, o.dst = some t → t ∈ W) :
    ∀ (n : Nat) (listed : Array Bool) (st : St) (a : Act) (w : World), Good C w0 own0 base W a₀ st a w → drawV C ops n listed st k → vAny C ops Q n listed a w
  | 0, listed, st, a, w, hg, h => by
    simp only [drawV] at h
    split at h
    · rename_i hr; exact ⟨hr, hQ st a w h hg⟩
    · exact h.elim
  | n + 1, listed, st, a, w, hg, h => by
    simp only [drawV] at h
    have dsts : ∀ {i : Nat} {o : Oper}, ops[i]? = some o → ∀ t, o.dst = some t → t < C.nt ∧ t ∈ W := fun hi t ht => by
      have hm := Array.mem_toList_iff.2 (Array.mem_of_getElem? hi)
      exact ⟨(opsOk_spec hok hm).2 t ht, hd _ hm t ht⟩
    -- one operation run first
    have go : ∀ i, (match ops[i]? with
         | some o => guardV ops o st
             (fun st => opV C o none st fun s own H => drawV C ops n (listed.setIfInBounds i true) (St.put ⟨st.env, own, H⟩ o.dst s) k)
             (fun st => drawV C ops n (listed.setIfInBounds i true) (st.put o.dst (.v undef)) k)
         | none => False) → wpOp C.P ops Q i (fun a' w' => (∀ o, ops[i]? = some o → turns C o = false → BelowX [] w w') ∧ vAny C ops Q n (listed.setIfInBounds i true) a' w') a w := fun i h => by
      split at h
      · rename_i o ho
        obtain ⟨env', he, h⟩ := guardV_sound hg.env h
        have hg' : Good C w0 own0 base W a₀ ⟨env', st.own, st.H⟩ a w := ⟨he, hg.stw, hg.rel⟩
        simp only [wpOp, ho]
        rcases h with ⟨hw, h⟩ | ⟨hw, h⟩
        · rw [if_pos hw]
          refine .inl (opV_sound hin (st := ⟨env', st.own, st.H⟩) he hg.stw (fun s own' H' w' hf hwf hext hs ht => ⟨fun o' ho' => ?_, ?_⟩) h)
          · obtain rfl := Option.some.inj ho'; exact ht
          · exact drawV_sound hin hQ hp hok hd n _ _ _ _ (hg'.put hext hs (dsts ho) hwf) hf
        · rw [if_neg (by simp [hw])]
          exact ⟨fun _ _ _ => BelowX.refl _ _, drawV_sound hin hQ hp hok hd n _ _ _ _ (hg'.put (s := .v undef) (OwnExt.refl _) hg.stw (dsts ho) trivial) h⟩
      · exact h.elim
    split at h
    · rename_i hr
      exact ⟨fun _ => hQ st a w h hg, by rw [hr]; simp⟩
    · rename_i hne
      split at h
      · rename_i i hf
        have hi := List.mem_of_find?_eq_some hf
        have hc := List.find?_some hf
        split at h
        case h_2 => exact h.elim
        rename_i o ho
        simp only [canTake, ho, Bool.and_eq_true, Bool.or_eq_true] at hc
        obtain ⟨hfree, hc⟩ := hc
        have hsel : ∀ (j : Nat) (o : Oper) cs b, ops[j]? = some o → o.op ≠ .select cs b := fun j o cs b hj => (opsOk_spec hok (Array.mem_toList_iff.2 (Array.mem_of_getElem? hj))).1 cs b
        obtain ⟨env', he, h⟩ := guardV_sound hg.env h
        have hg' : Good C w0 own0 base W a₀ ⟨env', st.own, st.H⟩ a w := ⟨he, hg.stw, hg.rel⟩
        have hwl : worldless C o = true ∨ isLoad o = true := by
          rcases hc with hc | hc
          · exact .inl hc
          · exact .inr hc.1.1
        -- G: in which worlds it yields the same
        obtain ⟨G, hG, hGw, hCalm⟩ : ∃ G : World → Prop, G w ∧ (∀ w, G w → worldless C o = true ∨ (Sees st.H w ∧ BoxesOk st.own st.H w)) ∧ Calm C ops G i listed := by
          rcases hc with hc | hc
          · exact ⟨fun _ => True, trivial, fun _ _ => .inl hc, .inl fun _ => trivial⟩
          · refine ⟨fun w => Sees st.H w ∧ BoxesOk st.own st.H w, ⟨hg.stw.sees, hg.stw.boxes⟩, fun _ h => .inr h, .inr ⟨fun w w' hb h => ⟨h.1.below hb, h.2.below hb⟩, fun k hk => ?_, fun j oj hoj hji hun ht => ?_⟩⟩
            · have hlt : k < ops.size := by
                rw [waits] at hk
                split at hk
                · rename_i o' ho'; exact (Array.getElem?_eq_some_iff.1 ho').1
                · cases hk
              have := List.all_eq_true.1 hc.2 k (List.mem_range.2 hlt)
              simpa [hk] using this
            · have hlt := (Array.getElem?_eq_some_iff.1 hoj).1
              have := List.all_eq_true.1 hc.1.2 j (List.mem_range.2 hlt)
              simpa [hun, hoj, ht] using this
        have fin : ∀ v, YieldsG G C.P ops o v a → vAny C ops Q n (listed.setIfInBounds i true) (a.put o.dst v) w → vAny C ops Q (n + 1) listed a w := fun v hy hv =>
          vAny_first ho hsel hp n listed a w (Region.free_spec ho hfree) hi hy hG hCalm hv
        rcases h with ⟨hw, h⟩ | ⟨hw, h⟩
        · obtain ⟨q, hq⟩ := quiet_some (st := ⟨env', st.own, st.H⟩) hwl
          simp only [opV, hq] at h
          obtain ⟨s, hf, hwf, hy⟩ := quiet_sound (f := fun s => drawV C ops n (listed.setIfInBounds i true) (St.put ⟨env', st.own, st.H⟩ o.dst s) k) o _ hq h a he
          exact fin _ (.inl ⟨hw, fun w' hG' => hy a w' he (hGw w' hG')⟩) (drawV_sound hin hQ hp hok hd n _ _ _ _ (hg'.put (OwnExt.refl _) hg.stw (dsts ho) hwf) hf)
        · exact fin _ (.inr ⟨hw, rfl⟩) (drawV_sound hin hQ hp hok hd n _ _ _ _ (hg'.put (s := .v undef) (OwnExt.refl _) hg.stw (dsts ho) trivial) h)
      · refine ⟨fun h0 => absurd h0 hne, fun i hi => go i ?_⟩
        have : ∀ (l : List Nat) (f : Nat → Prop), allV l f → ∀ i ∈ l, f i := fun l f => by
          induction l with
          | nil => intro _ i hi; cases hi
          | cons x r ih =>
            intro h i hi
            cases r with
            | nil => simp at hi; subst hi; exact h
            | cons y r =>
              rcases List.mem_cons.1 hi with rfl | hi
              · exact h.1
              · exact ih h.2 i hi
        exact this _ _ h i hi
end
end Go.Vg
namespace Go.Vg
open Go Go.RowKit

/-- The kit's loop rule with a ghost value in the invariant. -/
theorem wp_loop_ghost {α : Type} {P : Program} {c : Code} {Q : Exit → Act → World → Prop} {a : Act} {w : World} (I : α → Act → World → Prop) (μ : α → Nat) (x₀ : α) (h₀ : I x₀ a w)
    (round : ∀ x a w, I x a w → c.wp P (Exit.then (fun a' w' => ∃ x', I x' a' w' ∧ μ x' < μ x) Q) a w) : (Code.loop c).wp P Q a w := by
  have least : ∀ a w, (∃ x, I x a w) → ∃ m, (∃ x, I x a w ∧ μ x = m) ∧ ∀ x, I x a w → m ≤ μ x := fun a w => by
    rintro ⟨x, hx⟩
    generalize hn : μ x = n
    induction n using Nat.strongRecOn generalizing x with
    | _ n ih =>
      by_cases h : ∃ y, I y a w ∧ μ y < n
      · obtain ⟨y, hy, hlt⟩ := h
        exact ih (μ y) hlt y hy rfl
      · exact ⟨n, ⟨x, hx, hn⟩, fun y hy => Nat.le_of_not_lt fun hlt => h ⟨y, hy, hlt⟩⟩
  classical
  let m : Act → World → Nat := fun a w => if h : ∃ x, I x a w then (least a w h).choose else 0
  have hm : ∀ a w, (∃ x, I x a w) → (∃ x, I x a w ∧ μ x = m a w) ∧ ∀ x, I x a w → m a w ≤ μ x := fun a w h => by
    have := (least a w h).choose_spec
    simp only [m, dif_pos h]
    exact this
  refine wp_loop (fun a w => ∃ x, I x a w) m ⟨x₀, h₀⟩ fun a w hx => ?_
  obtain ⟨⟨x, hI, hx'⟩, _⟩ := hm a w hx
  refine wp_mono (round x a w hI) fun e a' w' hq => ?_
  cases e with
  | normal =>
    obtain ⟨x', hI', hlt⟩ := hq
    refine ⟨⟨x', hI'⟩, ?_⟩
    have := (hm a' w' ⟨x', hI'⟩).2 x' hI'
    show m a' w' < m a w
    omega
  | _ => exact hq

theorem Bx_eq {x y : Bx} (hb : y.b = x.b) (hm : y.map = x.map) (ht : y.ty = x.ty) : x.set y.cs = y := by
  cases x; cases y; simp_all [Bx.set]
theorem alook_zip_some {α : Type} {f : α → List Value} : ∀ {is : List Nat} {xs : List α} {i : Nat} {c : List Value}, alook i (is.zip (xs.map f)) = some c → ∃ (k : Nat) (x : α), is[k]? = some i ∧ xs[k]? = some x ∧ f x = c
  | is, xs, i, c, h => by
    obtain ⟨k, h1, h2⟩ := alook_zip h
    rw [List.getElem?_map] at h2
    cases hx : xs[k]? with
    | none => rw [hx] at h2; cases h2
    | some x => rw [hx] at h2; exact ⟨k, x, h1, hx, by simpa using h2⟩
theorem boxVals_spec {own : List Bx} : ∀ {is : List Nat} {vs : List Value}, boxVals own is = some vs → vs.length = is.length ∧ toCells vs = (is.filterMap fun i => (own[i]?).map Bx.cs) ∧ ∀ i ∈ is, ∃ x, own[i]? = some x
  | [], vs, h => by simp [boxVals] at h; subst h; exact ⟨rfl, rfl, by simp⟩
  | i :: r, vs, h => by
    simp only [boxVals] at h
    split at h
    · rename_i x l hx hl
      obtain rfl := Option.some.inj h
      obtain ⟨h1, h2, h3⟩ := boxVals_spec hl
      refine ⟨by simp [h1], ?_, fun j hj => ?_⟩
      · simp only [toCells, List.map_cons] at h2 ⊢
        rw [List.filterMap_cons, hx]
        simp only [Option.map_some]
        rw [← h2]
        simp [Value.cells]
      · rcases List.mem_cons.1 hj with rfl | hj
        · exact ⟨x, hx⟩
        · exact h3 j hj
    · cases h
theorem filterMap_getElem {own : List Bx} : ∀ {is : List Nat}, (∀ i ∈ is, ∃ x, own[i]? = some x) → ∀ k : Nat, (is.filterMap fun i => (own[i]?).map Bx.cs)[k]? = (is[k]?).bind fun i => (own[i]?).map Bx.cs
  | [], _, k => by simp
  | i :: r, h, k => by
    obtain ⟨x, hx⟩ := h i List.mem_cons_self
    rw [List.filterMap_cons, hx]
    simp only [Option.map_some]
    cases k with
    | zero => simp [hx]
    | succ k =>
      simp only [List.getElem?_cons_succ]
      exact filterMap_getElem (fun j hj => h j (List.mem_cons_of_mem _ hj)) k
theorem slotVals_spec {st : St} : ∀ {ss : List Nat} {vs : List Value}, slotVals st ss = some vs → vs.length = ss.length ∧ ∀ k s : Nat, ss[k]? = some s → ∃ sv, look s st.env = some sv ∧ vs[k]? = some (sv.val st.own)
  | [], vs, h => by simp [slotVals] at h; subst h; exact ⟨rfl, fun k s hk => by simp at hk⟩
  | s :: r, vs, h => by
    simp only [slotVals] at h
    split at h
    · rename_i v l hv hl
      obtain rfl := Option.some.inj h
      obtain ⟨h1, h2⟩ := slotVals_spec hl
      refine ⟨by simp [h1], fun k s' hk => ?_⟩
      cases k with
      | zero => simp at hk; subst hk; exact ⟨v, hv, rfl⟩
      | succ k => simpa using h2 k s' (by simpa using hk)
    · cases h
theorem headVals_spec {slots boxes : List Nat} {st : St} {vs : List Value} (h : headVals slots boxes st = some vs) :
    slotVals st slots = some (vs.take slots.length) ∧ boxVals st.own boxes = some (vs.drop slots.length) := by
  unfold headVals at h
  split at h
  · rename_i a b ha hb
    obtain rfl := Option.some.inj h
    have := (slotVals_spec ha).1
    rw [← this, List.take_left', List.drop_left'] <;> first | exact ⟨ha, hb⟩ | rfl
  · cases h
/-- At a loop's head the boxes are what they were, but for the contents of those that are named. -/
theorem head_own {own own' : List Bx} (he : OwnExt own own') {boxes : List Nat} {vs : List Value} (hb : boxVals own' boxes = some vs)
    (hrest : restCs boxes own own.length = [] ∨ restCs boxes own' own.length = restCs boxes own own.length) : putBack own boxes (toCells vs) = own'.take own.length := by
  obtain ⟨_, hc, hin⟩ := boxVals_spec hb
  apply List.ext_getElem?
  intro j
  rw [putBack_getElem?]
  cases hx : own[j]? with
  | none =>
    have : own.length ≤ j := by simpa using hx
    rw [List.getElem?_eq_none (by simp; omega)]
    rfl
  | some x =>
    have hlt := idx_lt hx
    obtain ⟨x', hx', h1, h2, h3⟩ := he.same j x hx
    rw [List.getElem?_take, if_pos hlt, hx']
    simp only [Option.map_some, Option.some.injEq]
    rw [hc]
    split
    · rename_i c ha
      obtain ⟨k, h4, h5⟩ := alook_zip ha
      rw [filterMap_getElem hin, h4] at h5
      simp only [Option.bind_some, hx', Option.map_some, Option.some.injEq] at h5
      subst h5
      exact Bx_eq h1 h2 h3
    · rename_i ha
      have hl : (boxes.filterMap fun i => (own'[i]?).map Bx.cs).length = boxes.length := by
        rw [← hc]; simp [toCells, (boxVals_spec hb).1]
      have hnj := alook_zip_none hl ha
      have hall : ∀ i ∈ (List.range own.length).filter (fun i => !boxes.contains i), (∃ x, own[i]? = some x) ∧ ∃ x, own'[i]? = some x := fun i hi => by
        have := List.mem_range.1 (List.mem_filter.1 hi).1
        have hl := he.len
        exact ⟨⟨_, List.getElem?_eq_getElem this⟩, ⟨_, List.getElem?_eq_getElem (by omega)⟩⟩
      have hmem : j ∈ (List.range own.length).filter (fun i => !boxes.contains i) := List.mem_filter.2 ⟨List.mem_range.2 hlt, by simpa using hnj⟩
      obtain ⟨k, hk⟩ := List.mem_iff_getElem?.1 hmem
      have g1 := filterMap_getElem (fun i hi => (hall i hi).1) k
      have g2 := filterMap_getElem (fun i hi => (hall i hi).2) k
      rw [hk] at g1 g2
      simp only [Option.bind_some, hx, hx', Option.map_some] at g1 g2
      have hcs : x'.cs = x.cs := by
        unfold restCs at hrest
        rcases hrest with hr | hr
        · rw [hr] at g1; simp at g1
        · rw [hr, g1] at g2; exact (Option.some.inj g2).symm
      have := Bx_eq h1 h2 h3
      rw [hcs] at this
      rw [← this]
      cases x; rfl
theorem look_reslot {ss : List Nat} : ∀ {vs : List Value} {env : List (Nat × SV)} {s : Nat} {sv : SV}, vs.length = ss.length → look s (reslot ss vs env) = some sv → (∃ (k : Nat) (v : Value), ss[k]? = some s ∧ vs[k]? = some v ∧ sv = .v v) ∨ look s env = some sv := by
  induction ss with
  | nil => intro vs env s sv _ h; cases vs <;> exact .inr (by simpa [reslot] using h)
  | cons x r ih =>
    intro vs env s sv hl h
    cases vs with
    | nil => simp at hl
    | cons v vs =>
      simp only [reslot, look] at h
      split at h
      · rename_i e
        subst e
        exact .inl ⟨0, v, rfl, rfl, (Option.some.inj h).symm⟩
      · rcases ih (by simpa using hl) h with ⟨k, u, h1, h2, h3⟩ | h
        · exact .inl ⟨k + 1, u, by simpa using h1, by simpa using h2, h3⟩
        · exact .inr h
theorem sameRest_spec {was now : List (List Value)} {f : Prop} (h : sameRest was now f) : (was = [] ∨ now = was) ∧ f := by
  unfold sameRest at h
  split at h
  · exact ⟨.inl rfl, h⟩
  · exact ⟨.inr h.1, h.2⟩

section
variable {C : Cfg} {w0 : World} {own0 : List Nat}
def Qof (C : Cfg) (w0 : World) (own0 : List Nat) (ks : Ks) (base : List Bx) (W : List Nat) (a₀ : Act) : Exit → Act → World → Prop
  | .normal, a, w => ∃ st, ks.n st ∧ Good C w0 own0 base W a₀ st a w
  | .exit i, a, w => ∃ st, ks.x i st ∧ Good C w0 own0 base W a₀ st a w
  | .ret, a, w => ∃ st, ks.r st ∧ Good C w0 own0 base W a₀ st a w
  | _, _, _ => False
theorem StW.shorter {own own' : List Bx} {H : Heap} {w : World} (h : StW C w0 own0 own' H w) (he : ∀ x ∈ own, x ∈ own') (hn : (own.map Bx.b).Nodup) : StW C w0 own0 own H w :=
  ⟨h.sees, ⟨fun x hx => h.boxes.ok x (he x hx), fun x hx => h.boxes.hid x (he x hx), hn⟩, fun x hx => h.locs x (he x hx), h.below, h.next, h.base, h.seen0⟩
theorem writes_mem {ops : List Oper} {o : Oper} {t : Nat} (ho : o ∈ ops) (ht : o.dst = some t) : t ∈ writes ops := List.mem_filterMap.2 ⟨o, ho, ht⟩
theorem joins_spec {ops : List Oper} {t : Tmp} (h : joins C ops = some t) : ∃ o ∈ ops, o.dst = some t := by
  unfold joins at h
  split at h
  · rename_i o _ hl
    split at h
    · exact ⟨o, List.mem_of_getLast? hl, h⟩
    · cases h
  · cases h
theorem sameOwn_spec {f : Prop} {a b : List Bx} (h : sameOwn f a b) : b = a ∧ f := by
  unfold sameOwn at h
  split at h
  · exact ⟨rfl, h⟩
  · exact h
theorem leafV_spec {φ : Prop} {s : SV} {own : List Bx} (h : leafV φ s) : s.val own = .bool (@decide φ (Classical.propDecidable φ)) := by
  unfold leafV at h
  split at h
  · simp [SV.val, h]
  · simp [SV.val, h]
  · rename_i q d
    simp only [SV.val, Value.bool.injEq]
    exact (decide_eq_decide.2 h).symm
  · rename_i b
    simp only [SV.val, Value.bool.injEq]
    cases b <;> simp_all
  · exact h.elim
theorem regionV_sound (hin : InlOk C.P C.muts) {ops : Array Oper} {Q : Exit → Act → World → Prop} {base : List Bx} {W : List Nat} {a₀ : Act} {k : St → Prop} (hQ : ∀ st a w, k st → Good C w0 own0 base W a₀ st a w → Q .normal a w)
    {st : St} {a : Act} {w : World} (hd : ∀ o ∈ ops.toList, ∀ t, o.dst = some t → t < C.nt ∧ t ∈ W) (hg : Good C w0 own0 base W a₀ st a w) (h : regionV C ops st k) : wpList C.P ops Q ops.toList a w := by
  unfold regionV at h
  split at h
  · split at h
    · rename_i t ht
      obtain ⟨φ, hops, hk⟩ := h
      obtain ⟨o, ho, hot⟩ := joins_spec ht
      refine opsV_sound (base := st.own) (W := writes ops.toList) (a₀ := a) hin (fun st' a' w' hl hg' => ?_) _ _ _ _ (fun o ho t ht => ⟨(hd o ho t ht).1, writes_mem ho ht⟩) ⟨hg.env, hg.stw, ⟨OwnExt.refl _, fun _ _ => rfl⟩⟩ hops
      obtain ⟨hown, hsub, hl⟩ := sameOwn_spec hl
      refine hQ _ _ _ hk ⟨⟨hg'.env.size, hg'.env.defers, fun s sv hs => ?_⟩, ⟨fun b kb hb => hg'.stw.sees b kb (hsub b kb hb), ⟨fun x hx => hg'.stw.boxes.ok x (hown ▸ hx), hg.stw.boxes.hid, hg.stw.boxes.apart⟩, hg.stw.locs, hg'.stw.below, hg.stw.next, hg.stw.base, hg.stw.seen0⟩, ⟨hg.rel.ext, fun s hs => ?_⟩⟩
      · simp only [look] at hs
        split at hs
        · rename_i e
          subst e
          obtain rfl := Option.some.inj hs
          split at hl
          · rename_i s' hs'
            obtain ⟨_, h2, _⟩ := hg'.env.at_ _ _ hs'
            exact ⟨(hd o ho _ hot).1, by rw [h2, leafV_spec hl]; rfl, trivial⟩
          · exact hl.elim
        · obtain ⟨h1, h2⟩ := look_filter (p := fun s => !(writes ops.toList).contains s) hs
          obtain ⟨h3, h4, h5⟩ := hg.env.at_ s sv h1
          exact ⟨h3, by rw [hg'.rel.keep s (by simpa using h2), h4], h5⟩
      · rw [hg'.rel.keep s (fun hm => ?_), hg.rel.keep s hs]
        obtain ⟨o, ho, ht⟩ := List.mem_filterMap.1 hm
        exact hs (hd o ho _ ht).2
    · exact opsV_sound hin hQ _ _ _ _ hd hg h
  · exact opsV_sound hin hQ _ _ _ _ hd hg h
variable (hmix : C.P.follows .mixedOrders = true)
include hmix
theorem codeV_sound (hin : InlOk C.P C.muts) : ∀ (c : Code) (ks : Ks) (base : List Bx) (W : List Nat) (a₀ : Act) (st : St) (a : Act) (w : World), opsOk C.nt (codeOps c) = true → (∀ o ∈ codeOps c, ∀ t, o.dst = some t → t ∈ W) →
    Good C w0 own0 base W a₀ st a w → codeV C c ks st → c.wp C.P (Qof C w0 own0 ks base W a₀) a w := by
  intro c
  induction c with
  | skip => intro ks base W a₀ st a w _ _ hg h; exact wp_skip ⟨st, h, hg⟩
  | label l => intro ks base W a₀ st a w _ _ hg h; exact wp_label ⟨st, h, hg⟩
  | exit i => intro ks base W a₀ st a w _ _ hg h; exact wp_exit ⟨st, h, hg⟩
  | ret => intro ks base W a₀ st a w _ _ hg h; exact wp_ret ⟨st, h, hg⟩
  | goto l => intro ks base W a₀ st a w _ _ hg h; exact h.elim
  | refuse s => intro ks base W a₀ st a w _ _ hg h; exact h.elim
  | rangeFunc f ps x y => intro ks base W a₀ st a w _ _ hg h; exact h.elim
  | seq x y ihx ihy =>
    intro ks base W a₀ st a w hok hW hg h
    simp only [codeOps, opsOk, List.all_append, Bool.and_eq_true] at hok
    refine wp_seq (wp_mono (ihx _ base W a₀ st a w hok.1 (fun o ho => hW o (by simp [codeOps, ho])) hg h) fun e a' w' hq => ?_)
    cases e with
    | normal =>
      obtain ⟨st', hk, hg'⟩ := hq
      exact ihy ks base W a₀ st' a' w' hok.2 (fun o ho => hW o (by simp [codeOps, ho])) hg' hk
    | _ => exact hq
  | cond c x y ihx ihy =>
    intro ks base W a₀ st a w hok hW hg h
    simp only [codeOps, opsOk, List.all_append, Bool.and_eq_true] at hok
    have hx := fun h => ihx ks base W a₀ st a w hok.1 (fun o ho => hW o (by simp [codeOps, ho])) hg h
    have hy := fun h => ihy ks base W a₀ st a w hok.2 (fun o ho => hW o (by simp [codeOps, ho])) hg h
    simp only [codeV] at h
    split at h
    · rename_i hs; exact wp_cond_true (get_sound hg.env hs).1 (hx h)
    · rename_i hs; exact wp_cond_false (get_sound hg.env hs).1 (hy h)
    · rename_i q d hs
      by_cases hq : q
      · exact wp_cond_true (by rw [(get_sound hg.env hs).1]; simp [SV.val, hq]) (hx (h.1 hq))
      · exact wp_cond_false (by rw [(get_sound hg.env hs).1]; simp [SV.val, hq]) (hy (h.2 hq))
    · rename_i b hs
      cases b
      · exact wp_cond_false (get_sound hg.env hs).1 (hy (h.2 rfl))
      · exact wp_cond_true (get_sound hg.env hs).1 (hx (h.1 rfl))
    · exact h.elim
  | block id x ih =>
    intro ks base W a₀ st a w hok hW hg h
    refine wp_block (wp_mono (ih _ base W a₀ st a w hok hW hg h) fun e a' w' hq => ?_)
    cases e with
    | exit i =>
      obtain ⟨st', hk, hg'⟩ := hq
      simp only [Exit.inBlock]
      simp only at hk
      split at hk
      · rename_i e; rw [if_pos e]; exact ⟨st', hk, hg'⟩
      · rename_i e; rw [if_neg e]; exact ⟨st', hk, hg'⟩
    | _ => exact hq
  | scope x ih =>
    intro ks base W a₀ st a w hok hW hg h
    refine wp_scope_straight (wp_mono (ih _ base W a₀ st a w hok hW hg h) fun e a' w' hq => ?_)
    cases e with
    | goto l => exact hq
    | _ => exact hq
  | region id ops draw =>
    intro ks base W a₀ st a w hok hW hg h
    simp only [codeV] at h
    simp only [codeOps] at hok hW
    split at h
    · refine wp_region_any hmix (vAny_wpAny _ _ _ _ ?_)
      have hB : BelowX [] w { w with drawn := w.drawn + 1 } := BelowX.drew [] w
      have hg' : Good C w0 own0 base W a₀ st a { w with drawn := w.drawn + 1 } := ⟨hg.env, hg.stw.calledPlain hB (hg.stw.sees.below hB) (Next.refl _ _), hg.rel⟩
      exact drawV_sound hin (fun st a w hk hg => ⟨st, hk, hg⟩) (fun _ _ _ h => h) hok hW _ _ _ _ _ hg' h
    · exact wp_region_list (regionV_sound hin (fun st a w hk hg => ⟨st, hk, hg⟩) (fun o ho t ht => ⟨(opsOk_spec hok ho).2 t ht, hW o ho t ht⟩) hg h)
  | loop x ih =>
    intro ks base W a₀ st a w hok hW hg h
    simp only [codeV] at h
    simp only [codeOps] at hok hW
    split at h
    case h_2 => exact h.elim
    rename_i vs0 xs hv0 hxs
    generalize hslots : genSlots C (codeOps x) st.env = slots at *
    generalize hboxes : modBoxes C (codeOps x) st.env = boxes at *
    obtain ⟨hfit0, I, μ, hI0, hround⟩ := fitP_spec h
    clear h
    have hsw : ∀ s ∈ slots, s ∈ writes (codeOps x) ∧ s < C.nt := fun s hs => by
      rw [← hslots] at hs
      have := List.mem_filter.1 hs
      have h2 := this.2
      simp only [Bool.and_eq_true, List.contains_iff_mem] at h2
      exact ⟨h2.2, List.mem_range.1 this.1⟩
    -- the loop's invariant
    let headO : List Value → List Bx := fun vs => putBack st.own boxes (toCells (vs.drop slots.length))
    let headE : List Value → List (Nat × SV) := fun vs => reslot slots (vs.take slots.length) (dropSlots (codeOps x) st.env)
    let LI : List Value → Act → World → Prop := fun vs a' w' => ∃ H', Fits (slots.map (slotK C (codeOps x)) ++ boxKs C.P xs) vs ∧ I vs H' ∧ EnvOk C.nt (headE vs) (headO vs) a' ∧ StW C w0 own0 (headO vs) H' w' ∧
      ∀ s : Nat, s ∉ writes (codeOps x) → a'.tmps.getD s undef = a.tmps.getD s undef
    -- what a state at the round's end gives
    have key : ∀ (st' : St) (vs' : List Value) (a' : Act) (w' : World), headVals slots boxes st' = some vs' → (restCs boxes st.own st.own.length = [] ∨ restCs boxes st'.own st.own.length = restCs boxes st.own st.own.length) →
        OwnExt st.own st'.own → EnvOk C.nt st'.env st'.own a' → StW C w0 own0 st'.own st'.H w' → (∀ s : Nat, s ∉ writes (codeOps x) → a'.tmps.getD s undef = a.tmps.getD s undef) → EnvOk C.nt (headE vs') (headO vs') a' ∧ StW C w0 own0 (headO vs') st'.H w' := fun st' vs' a' w' hv hr he ha' hw' hkeep => by
      obtain ⟨hsv, hbv⟩ := headVals_spec hv
      have hown : headO vs' = st'.own.take st.own.length := head_own he hbv hr
      have hext : OwnExt st.own (headO vs') := putBack_ext _ _ _
      refine ⟨⟨ha'.size, ha'.defers, fun s sv hs => ?_⟩, ?_⟩
      · obtain ⟨hl, hat⟩ := slotVals_spec hsv
        rcases look_reslot hl hs with ⟨k, v, h1, h2, rfl⟩ | hs
        · obtain ⟨sv, h3, h4⟩ := hat k s h1
          rw [h2] at h4
          obtain ⟨_, h5, _⟩ := ha'.at_ s sv h3
          exact ⟨(hsw s (List.mem_of_getElem? h1)).2, by rw [h5]; exact (Option.some.inj h4).symm, trivial⟩
        · obtain ⟨h1, h2⟩ := look_filter (p := fun s => !(writes (codeOps x)).contains s) hs
          obtain ⟨h3, h4, h5⟩ := hg.env.at_ s sv h1
          refine ⟨h3, ?_, SV.wf_mono hext.len h5⟩
          rw [hkeep s (by simpa using h2), h4, SV.val_ext hext h5]
      · refine hw'.shorter (fun y hy => ?_) ?_
        · rw [hown] at hy; exact List.mem_of_mem_take hy
        · show ((headO vs').map Bx.b).Nodup
          rw [show (headO vs').map Bx.b = st.own.map Bx.b from putBack_b _ _ _]
          exact hg.stw.boxes.apart
    refine wp_loop_ghost LI μ vs0 ?_ fun vs a' w' hLI => ?_
    · obtain ⟨h1, h2⟩ := key st vs0 a w hv0 (.inr rfl) (OwnExt.refl _) hg.env hg.stw (fun _ _ => rfl)
      exact ⟨st.H, hfit0, hI0, h1, h2, fun _ _ => rfl⟩
    · obtain ⟨H', hfit, hI, henv, hstw, hkeep⟩ := hLI
      have hext : OwnExt st.own (headO vs) := putBack_ext _ _ _
      have hc := K1.als_spec hfit hround H' hstw.next hI
      have hgood : Good C w0 own0 (headO vs) (writes (codeOps x)) a' ⟨headE vs, headO vs, H'⟩ a' w' := ⟨henv, hstw, ⟨OwnExt.refl _, fun _ _ => rfl⟩⟩
      have hsub : ∀ {s : Nat}, s ∉ W → s ∉ writes (codeOps x) := fun hs hm => by
        obtain ⟨o, ho, ht⟩ := List.mem_filterMap.1 hm
        exact hs (hW o ho _ ht)
      refine wp_mono (ih _ (headO vs) (writes (codeOps x)) a' _ a' w' hok (fun o ho t ht => writes_mem ho ht) hgood hc) fun e a'' w'' hq => ?_
      have out : ∀ st', Good C w0 own0 (headO vs) (writes (codeOps x)) a' st' a'' w'' → Good C w0 own0 base W a₀ st' a'' w'' := fun st' hg' =>
        ⟨hg'.env, hg'.stw, ⟨hg.rel.ext.trans (hext.trans hg'.rel.ext), fun s hs => by rw [hg'.rel.keep s (hsub hs), hkeep s (hsub hs), hg.rel.keep s hs]⟩⟩
      cases e with
      | normal =>
        obtain ⟨st', hk, hg'⟩ := hq
        simp only at hk
        split at hk
        case h_2 => exact hk.elim
        rename_i vs' hv'
        obtain ⟨hfit', hk⟩ := fitP_spec hk
        obtain ⟨hr, hI', hlt⟩ := sameRest_spec hk
        have hkeep' : ∀ s : Nat, s ∉ writes (codeOps x) → a''.tmps.getD s undef = a.tmps.getD s undef := fun s hs => by rw [hg'.rel.keep s hs, hkeep s hs]
        obtain ⟨h1, h2⟩ := key st' vs' a'' w'' hv' hr (hext.trans hg'.rel.ext) hg'.env hg'.stw hkeep'
        exact ⟨vs', ⟨st'.H, hfit', hI', h1, h2, hkeep'⟩, hlt⟩
      | exit i => obtain ⟨st', hk, hg'⟩ := hq; exact ⟨st', hk, out st' hg'⟩
      | ret => obtain ⟨st', hk, hg'⟩ := hq; exact ⟨st', hk, out st' hg'⟩
      | _ => exact hq
end
end Go.Vg
namespace Go.Vg
open Go Go.RowKit
section
variable {C : Cfg} {w0 : World} {own0 : List Nat}
/-- One result. -/
def resOne (tmps : Array Value) : ResultVar → Sem Value
  | .tmp t => pure (tmps.getD t undef)
  | .cell a t => do loadVar t (← asAddr (tmps.getD a undef))
theorem run_resOne_tmp {P : Program} {tmps : Array Value} {t : Nat} {v : Value} (h : tmps.getD t undef = v) (w : World) : (resOne tmps (.tmp t)).run P w = .ok v w := by
  simp only [resOne, h, Sem.run_pure]
theorem run_resOne_cell {P : Program} {tmps : Array Value} {x : Nat} {t : TypeId} {ad : Addr} {v : Value} {w : World} (h : tmps.getD x undef = .pointer (some ad)) (hr : (loadVar t ad).run P w = .ok v w) : (resOne tmps (.cell x t)).run P w = .ok v w := by
  simp only [resOne, h, asAddr, Sem.run_bind, Sem.run_pure, Result.andThen_ok, hr]
theorem run_mapM_cons {P : Program} {f : ResultVar → Sem Value} {r : ResultVar} {rs : List ResultVar} {v : Value} {vs : List Value} {w : World} (h1 : (f r).run P w = .ok v w) (h2 : (rs.mapM f).run P w = .ok vs w) : ((r :: rs).mapM f).run P w = .ok (v :: vs) w := by
  simp only [List.mapM_cons, Sem.run_bind, h1, h2, Result.andThen_ok, Sem.run_pure]
theorem resV_sound {st : St} {a : Act} {w : World} (ha : EnvOk C.nt st.env st.own a) (hb : BoxesOk st.own st.H w) : ∀ {rs : List ResultVar} {f : List Value → Prop}, resV C st rs f →
    ∃ vs, f vs ∧ (rs.mapM (resOne a.tmps)).run C.P w = .ok vs w
  | [], f, h => ⟨[], h, by simp⟩
  | .tmp t :: r, f, h => by
    simp only [resV] at h
    split at h
    · rename_i s hs
      obtain ⟨vs, hf, hr⟩ := resV_sound ha hb h
      obtain ⟨_, h2, _⟩ := ha.at_ t s hs
      exact ⟨_, hf, run_mapM_cons (run_resOne_tmp h2 w) hr⟩
    · exact h.elim
  | .cell x t :: r, f, h => by
    simp only [resV] at h
    split at h
    · rename_i i hs
      obtain ⟨_, h2, _⟩ := ha.at_ x _ hs
      split at h
      · rename_i b ty cs hx
        have e : boxNo st.own i = b := box_no hx
        have hv : a.tmps.getD x undef = .pointer (some ⟨b, 0, none⟩) := by rw [h2]; simp [SV.val, e]
        split at h
        · rename_i d lk hu hk
          split at h
          · rename_i v
            obtain ⟨vs, hf, ih⟩ := resV_sound ha hb h
            exact ⟨_, hf, run_mapM_cons (run_resOne_cell hv (run_loadVar_one hk (by simp [hu]) (box_cell hb hx (by simp)).2)) ih⟩
          · exact h.elim
        · rename_i d n hu hk
          obtain ⟨hlen, h⟩ := h
          obtain ⟨vs, hf, ih⟩ := resV_sound ha hb h
          exact ⟨_, hf, run_mapM_cons (run_resOne_cell hv (run_loadVar_agg (fun lk hk' => by rw [hk] at hk'; cases hk') hlen (info_of_underlying (by simp [hu])) (fun j v hj => by simpa using (box_cell hb hx hj).2))) ih⟩
        · rename_i d hu hk1 hk2
          split at h
          · rename_i hlen
            obtain ⟨vs, hf, ih⟩ := resV_sound ha hb h
            exact ⟨_, hf, run_mapM_cons (run_resOne_cell hv (run_loadVar_agg (fun lk hk' => hk1 lk hk') hlen (info_of_underlying (by simp [hu])) (fun j v hj => by simpa using (box_cell hb hx hj).2))) ih⟩
          · exact h.elim
        · exact h.elim
      · exact h.elim
    · exact h.elim
theorem run_results {P : Program} {fn : Func} {tmps : Array Value} {vs : List Value} {w : World} (h : (fn.results.toList.mapM (resOne tmps)).run P w = .ok vs w) :
    (results fn tmps).run P w = .ok (if h : vs.length = 1 then vs[0] else .tuple vs.toArray) w := by
  have e : results fn tmps = (do let vs ← fn.results.mapM (resOne tmps); pure (if h : vs.size = 1 then vs[0] else .tuple vs)) := by
    unfold results
    congr 1
  rw [e, Array.mapM_eq_mapM_toList, map_eq_pure_bind]
  simp [h]
theorem look_zipFrom : ∀ {args : List SV} {i s : Nat} {sv : SV}, look s (zipFrom i args) = some sv → ∃ k : Nat, s = i + k ∧ args[k]? = some sv
  | [], i, s, sv, h => by simp [zipFrom, look] at h
  | x :: r, i, s, sv, h => by
    simp only [zipFrom, look] at h
    split at h
    · rename_i e
      subst e
      exact ⟨0, rfl, h⟩
    · obtain ⟨k, h1, h2⟩ := look_zipFrom h
      exact ⟨k + 1, by omega, h2⟩
theorem setAll_take {own own' : List Bx} (he : OwnExt own own') : setAll own ((own'.take own.length).map Bx.cs) = own'.take own.length := by
  induction own generalizing own' with
  | nil => simp [setAll]
  | cons x r ih =>
    obtain ⟨y, hy, h1, h2, h3⟩ := he.same 0 x rfl
    cases own' with
    | nil => simp at hy
    | cons z r' =>
      simp at hy
      subst hy
      simp only [List.length_cons, List.take_succ_cons, List.map_cons, setAll]
      rw [Bx_eq h1 h2 h3, ih]
      exact ⟨by have := he.len; simpa using this, fun i u hu => by simpa using he.same (i + 1) u (by simpa using hu)⟩
end
/-- A FUNCTION's CONTRACT from its verification condition. -/
theorem specO_of {P : Program} {f : FuncId} {fn : Func} {c : Code} {nt : Nat} {muts : Muts} (hin : InlOk P muts) (hf : P.funcs[f]? = some fn) (hb : fn.body = some c) (hnt : fn.ntmps = nt)
    (hmix : P.follows .mixedOrders = true) (hok : opsOk nt (codeOps c) = true)
    {own : List Bx} {args : List SV} (hargs : args.length ≤ nt) (hwf : ∀ s ∈ args, s.wf own.length) {H : Heap} {Q : Value → List (List Value) → Heap → Prop}
    (h : ∀ base, (∀ b k, H b = some k → b < base) → (∀ x ∈ own, x.b < base) → funV ⟨P, nt, muts, base, H⟩ c fn.results.toList args own Q) : SpecO P f (args.map (SV.val own)) own H Q := by
  intro w hs hbx
  refine calls_of_wp hf hb ?_
  let C : Cfg := ⟨P, nt, muts, w.heap.size, H⟩
  have hV := h w.heap.size (fun b k hk => hs.lt hk) (fun x hx => Bx.ok_lt (hbx.ok x hx))
  have hsz : (args.map (SV.val own)).toArray.size = args.length := by simp
  have henv : EnvOk C.nt (zipFrom 0 args) own { tmps := (args.map (SV.val own)).toArray ++ Array.replicate (fn.ntmps - (args.map (SV.val own)).toArray.size) undef, defers := [] } := by
    refine ⟨by simp [C, hnt]; omega, rfl, fun s sv hs => ?_⟩
    obtain ⟨k, rfl, hk⟩ := look_zipFrom hs
    have hlt := idx_lt hk
    refine ⟨by show 0 + k < nt; omega, ?_, hwf sv (List.mem_of_getElem? hk)⟩
    rw [Array.getD_eq_getD_getElem?, Array.getElem?_append_left (by simpa using hlt)]
    simp [hk]
  have hstw : StW C w (own.map Bx.b) own H w := ⟨hs, hbx, fun x hx => .inr (List.mem_map_of_mem hx), BelowX.refl _ _, Next.refl _ _, rfl, hs⟩
  refine wp_mono (codeV_sound (C := C) (w0 := w) (own0 := own.map Bx.b) hmix hin c _ own (writes (codeOps c)) _ ⟨zipFrom 0 args, own, H⟩ _ w hok (fun o ho t ht => writes_mem ho ht) ⟨henv, hstw, ⟨OwnExt.refl _, fun _ _ => rfl⟩⟩ hV) fun e a' w' hq => ?_
  have key : ∀ st, retV C fn.results.toList own.length Q st → Good C w (own.map Bx.b) own (writes (codeOps c)) { tmps := (args.map (SV.val own)).toArray ++ Array.replicate (fn.ntmps - (args.map (SV.val own)).toArray.size) undef, defers := [] } st a' w' →
      a'.defers = [] ∧ ∃ v, (results fn a'.tmps).run P w' = .ok v w' ∧ ∃ v' css H', Ending.returned v = .returned v' ∧ css.length = own.length ∧ BelowX (own.map Bx.b) w w' ∧
        Sees H' w' ∧ BoxesOk (setAll own css) H' w' ∧ Next w.heap.size H H' ∧ Q v' css H' := fun st hr hg => by
    refine ⟨hg.env.defers, ?_⟩
    have hext := hg.rel.ext
    have post : ∀ v, Q v ((st.own.take own.length).map Bx.cs) st.H → ∃ v' css H', Ending.returned v = .returned v' ∧ css.length = own.length ∧ BelowX (own.map Bx.b) w w' ∧
        Sees H' w' ∧ BoxesOk (setAll own css) H' w' ∧ Next w.heap.size H H' ∧ Q v' css H' := fun v hQ => by
      refine ⟨v, _, st.H, rfl, ?_, hg.stw.below, hg.stw.sees, ?_, hg.stw.next, hQ⟩
      · simp; have := hext.len; omega
      · rw [setAll_take hext]
        refine ⟨fun x hx => hg.stw.boxes.ok x (List.mem_of_mem_take hx), fun x hx => hg.stw.boxes.hid x (List.mem_of_mem_take hx), ?_⟩
        rw [List.map_take]
        exact hg.stw.boxes.apart.sublist (List.take_sublist _ _)
    obtain ⟨vs, hf, hrun⟩ := resV_sound hg.env hg.stw.boxes hr
    have hres := run_results (fn := fn) hrun
    split at hf
    · rename_i v
      exact ⟨v, by simpa using hres, post v hf⟩
    · rename_i hne
      refine ⟨.tuple vs.toArray, ?_, post _ hf⟩
      rw [dif_neg (fun hl => ?_)] at hres
      · exact hres
      · obtain ⟨x, hx⟩ := List.length_eq_one_iff.1 hl
        exact hne x hx
  cases e with
  | normal => obtain ⟨st, hr, hg⟩ := hq; exact key st hr hg
  | ret => obtain ⟨st, hr, hg⟩ := hq; exact key st hr hg
  | exit i => obtain ⟨st, hr, hg⟩ := hq; exact hr.elim
  | _ => exact hq.elim
theorem spec_of {P : Program} {f : FuncId} {fn : Func} {c : Code} {nt : Nat} {muts : Muts} (hin : InlOk P muts) (hf : P.funcs[f]? = some fn) (hb : fn.body = some c) (hnt : fn.ntmps = nt)
    (hmix : P.follows .mixedOrders = true) (hok : opsOk nt (codeOps c) = true)
    {args : List Value} (hargs : args.length ≤ nt) {H : Heap} {Q : Value → Heap → Prop}
    (h : ∀ base, (∀ b k, H b = some k → b < base) → funV ⟨P, nt, muts, base, H⟩ c fn.results.toList (args.map SV.v) [] (fun v _ H' => Q v H')) : Spec P f args H Q := by
  have := specO_of (own := []) (args := args.map SV.v) hin hf hb hnt hmix hok (by simpa using hargs) (fun s hs => by obtain ⟨v, _, rfl⟩ := List.mem_map.1 hs; trivial) (fun base hb _ => h base hb)
  simpa [Spec, Function.comp_def, SV.val] using this
end Go.Vg
namespace Go.Vg
open Go Go.RowKit
theorem inl0_ok (P : Program) (list : List FuncId) (j : Bool) : InlOk P ⟨list, inl0, j⟩ := fun _ _ _ _ _ _ _ _ h => by cases h
theorem lookFn_mem {g : FuncId} {fn : Func} : ∀ {fs : List (FuncId × Func)}, lookFn g fs = some fn → (g, fn) ∈ fs
  | [], h => by cases h
  | (k, f) :: r, h => by
    simp only [lookFn] at h
    split at h
    · rename_i e
      subst e
      obtain rfl := Option.some.inj h
      exact List.mem_cons_self
    · exact List.mem_cons_of_mem _ (lookFn_mem h)
theorem inl_ok {P : Program} {list : List FuncId} {fs : List (FuncId × Func)} {prev : InlFn} {j : Bool} (hprev : InlOk P ⟨list, prev, true⟩) (hmix : P.follows .mixedOrders = true)
    (hfs : ∀ p ∈ fs, P.funcs[p.1]? = some p.2 ∧ p.2.body = some (p.2.body.getD .skip) ∧ opsOk p.2.ntmps (codeOps (p.2.body.getD .skip)) = true ∧ list.contains p.1 = true) : InlOk P ⟨list, inlOf P list fs prev, j⟩ := by
  intro base H0 g pre own H f p hp
  simp only [inlOf] at hp
  split at hp
  · cases hp
  · rename_i fn hl
    split at hp
    · rename_i hlen
      obtain rfl := Option.some.inj hp
      obtain ⟨hf, hb, hok, hc⟩ := hfs _ (lookFn_mem hl)
      refine ⟨hc, fun h C w0 own0 w hbase hH0 hw hwf => ?_⟩
      subst hbase hH0
      refine calls_of_wp hf hb ?_
      let C' : Cfg := ⟨P, fn.ntmps, ⟨list, prev, true⟩, C.base, C.H0⟩
      have hstw : StW C' w0 own0 own H w := ⟨hw.sees, hw.boxes, hw.locs, hw.below, hw.next, hw.base, hw.seen0⟩
      have henv : EnvOk C'.nt (zipFrom 0 pre) own { tmps := (pre.map (SV.val own)).toArray ++ Array.replicate (fn.ntmps - (pre.map (SV.val own)).toArray.size) undef, defers := [] } := by
        refine ⟨by simp [C']; omega, rfl, fun s sv hs => ?_⟩
        obtain ⟨k, rfl, hk⟩ := look_zipFrom hs
        have hlt := idx_lt hk
        refine ⟨by show 0 + k < fn.ntmps; omega, ?_, hwf sv (List.mem_of_getElem? hk)⟩
        rw [Array.getD_eq_getD_getElem?, Array.getElem?_append_left (by simpa using hlt)]
        simp [hk]
      refine wp_mono (codeV_sound (C := C') (w0 := w0) (own0 := own0) hmix hprev _ _ own (writes (codeOps (fn.body.getD .skip))) _ ⟨zipFrom 0 pre, own, H⟩ _ w hok (fun o ho t ht => writes_mem ho ht) ⟨henv, hstw, ⟨OwnExt.refl _, fun _ _ => rfl⟩⟩ h) fun e a' w' hq => ?_
      have key : ∀ st, retI C' fn.results.toList f st → Good C' w0 own0 own (writes (codeOps (fn.body.getD .skip))) { tmps := (pre.map (SV.val own)).toArray ++ Array.replicate (fn.ntmps - (pre.map (SV.val own)).toArray.size) undef, defers := [] } st a' w' →
          a'.defers = [] ∧ ∃ v, (results fn a'.tmps).run P w' = .ok v w' ∧ ∃ v' own' H', Ending.returned v = .returned v' ∧ f (.v v') own' H' ∧ OwnExt own own' ∧ StW C w0 own0 own' H' w' := fun st hr hg => by
        refine ⟨hg.env.defers, ?_⟩
        have hs' : StW C w0 own0 st.own st.H w' := ⟨hg.stw.sees, hg.stw.boxes, hg.stw.locs, hg.stw.below, hg.stw.next, hg.stw.base, hg.stw.seen0⟩
        obtain ⟨vs, hf, hrun⟩ := resV_sound hg.env hg.stw.boxes hr
        have hres := run_results (fn := fn) hrun
        split at hf
        · rename_i v
          exact ⟨v, by simpa using hres, v, st.own, st.H, rfl, hf, hg.rel.ext, hs'⟩
        · rename_i hne
          refine ⟨.tuple vs.toArray, ?_, _, st.own, st.H, rfl, hf, hg.rel.ext, hs'⟩
          rw [dif_neg (fun hl => ?_)] at hres
          · exact hres
          · obtain ⟨x, hx⟩ := List.length_eq_one_iff.1 hl
            exact hne x hx
      cases e with
      | normal => obtain ⟨st, hr, hg⟩ := hq; exact key st hr hg
      | ret => obtain ⟨st, hr, hg⟩ := hq; exact key st hr hg
      | exit i => obtain ⟨st, hr, hg⟩ := hq; exact hr.elim
      | _ => exact hq.elim
    · cases hp
end Go.Vg
