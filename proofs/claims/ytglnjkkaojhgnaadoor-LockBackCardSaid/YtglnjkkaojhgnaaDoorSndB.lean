/- Soundness of the computed verification condition: regions that draw their order. -/
import Derived.Test.YtglnjkkaojhgnaaDoorSndA
set_option linter.unusedSimpArgs false
set_option linter.unusedVariables false
namespace Go.Vg
open Go Go.RowKit

section
variable {P : Program} {ops : Array Oper} {Q : Exit → Act → World → Prop}
/-- It yields v in every world of which G holds, or its guard passes it over. -/
def YieldsG (G : World → Prop) (P : Program) (ops : Array Oper) (o : Oper) (v : Value) (a : Act) : Prop :=
  (Region.wanted o (yielded ops a.tmps) = true ∧ ∀ w, G w → (execOp a.eval o).run P w = .ok (.value v) w) ∨ (Region.wanted o (yielded ops a.tmps) = false ∧ v = undef)
theorem YieldsG.same {G : World → Prop} {o : Oper} {v : Value} {a a' : Act} (h : YieldsG G P ops o v a) (he : execOp a'.eval o = execOp a.eval o)
    (hw : Region.wanted o (yielded ops a'.tmps) = Region.wanted o (yielded ops a.tmps)) : YieldsG G P ops o v a' := by
  unfold YieldsG at *; rw [he, hw]; exact h
theorem YieldsG.take {G : World → Prop} {i : Nat} {o : Oper} {v : Value} {a : Act} {w : World} (h : YieldsG G P ops o v a) (hi : ops[i]? = some o) (hG : G w) {K : Act → World → Prop} (hK : K (a.put o.dst v) w) : wpOp P ops Q i K a w := by
  simp only [wpOp, hi]
  rcases h with ⟨hw, hv⟩ | ⟨hw, rfl⟩
  · rw [if_pos hw]; exact .inl (wp_value (hv w hG) hK)
  · rw [if_neg (by simp [hw])]; exact hK
/-- An operation run before oi's slot is written does what it does behind it. -/
theorem wpOp_before {G : World → Prop} {j : Nat} {oi oj : Oper} {v : Value} (hj : ops[j]? = some oj) (hap : oi.apart ops oj = true)
    (hsi : ∀ cs b, oi.op ≠ .select cs b) (hsj : ∀ cs b, oj.op ≠ .select cs b) (hQ : ∀ c a w, ¬ Q (.panic c) a w) {K : Act → World → Prop} {a : Act} {w : World} (hy : YieldsG G P ops oi v a)
    (h : wpOp P ops Q j K (a.put oi.dst v) w) : wpOp P ops Q j (fun a' w' => YieldsG G P ops oi v a' ∧ K (a'.put oi.dst v) w') a w := by
  obtain ⟨h1, h2, h3⟩ := Oper.apart_spec hap
  have ex : execOp (a.put oi.dst v).eval oj = execOp a.eval oj := execOp_put oj hsj a oi.dst v h1
  have wn := wanted_put (ops := ops) oj a oi.dst v h1
  have keep : ∀ b : Act, YieldsG G P ops oi v b → ∀ u, YieldsG G P ops oi v (b.put oj.dst u) := fun b hb u => hb.same (execOp_put oi hsi b oj.dst u h3) (wanted_put oi b oj.dst u h3)
  have go : ∀ (b : Act), YieldsG G P ops oi v b → ∀ u w', K ((b.put oi.dst v).put oj.dst u) w' → YieldsG G P ops oi v (b.put oj.dst u) ∧ K ((b.put oj.dst u).put oi.dst v) w' := fun b hb u w' hk =>
    ⟨keep b hb u, by rw [← Act.put_comm b v u h2]; exact hk⟩
  simp only [wpOp, hj] at h ⊢
  rw [wn] at h
  by_cases hw : Region.wanted oj (yielded ops a.tmps) = true
  · rw [if_pos hw] at h ⊢
    refine h.imp (fun h => ?_) (fun h => ⟨by have := h.1; unfold Oper.asks at *; rw [ex] at this; exact this, h.2⟩)
    unfold Oper.wp at *
    rw [ex] at h
    generalize (execOp a.eval oj).run P w = r at h ⊢
    cases r with
    | halt x w' => cases x <;> simp only [Oper.upon] at h ⊢; exact absurd h (hQ _ _ _)
    | ok n w' =>
      cases n <;> simp only [Oper.upon] at h ⊢
      case value u => exact go a hy u w' h
      case skip => exact go a hy undef w' h
      case defer d => exact go { a with defers := d :: a.defers } (hy.same rfl rfl) undef w' (by rw [← Act.put_defers]; exact h)
      case enter f args =>
        refine Calls.mono h fun e w'' he => ?_
        cases e with
        | returned u => exact go a hy u w'' he
        | panicked c => exact absurd he (hQ _ _ _)
        | outgrown => exact he
      case row row args => exact Rows.mono h fun u w'' he => go a hy u w'' he
  · rw [if_neg hw] at h ⊢
    exact go a hy undef w h
end

section
variable (C : Cfg) (ops : Array Oper) (Q : Exit → Act → World → Prop)
/-- As the kit's wpAny; and each operation's world is told to be no other below where it may turn nothing. -/
def vAny : Nat → Array Bool → Act → World → Prop
  | 0, listed, a, w => Region.ready .any ops listed = [] ∧ Q .normal a w
  | n + 1, listed, a, w => (Region.ready .any ops listed = [] → Q .normal a w) ∧
    ∀ i ∈ Region.ready .any ops listed, wpOp C.P ops Q i (fun a' w' => (∀ o, ops[i]? = some o → turns C o = false → BelowX [] w w') ∧ vAny n (listed.setIfInBounds i true) a' w') a w
end
section
variable {C : Cfg} {ops : Array Oper} {Q : Exit → Act → World → Prop}
theorem vAny_wpAny : ∀ (n : Nat) (listed : Array Bool) (a : Act) (w : World), vAny C ops Q n listed a w → wpAny C.P .any ops Q n listed a w
  | 0, listed, a, w, h => h
  | n + 1, listed, a, w, h => ⟨h.1, fun i hi => wpOp_mono (fun a' w' h' => vAny_wpAny n _ a' w' h'.2) (h.2 i hi)⟩
theorem waits_mono {j i : Nat} : ∀ {n : Nat}, waits ops n j i = true → waits ops (n + 1) j i = true := by
  intro n
  induction n generalizing j with
  | zero =>
    intro h
    simp only [waits] at h ⊢
    split at h
    · rename_i o ho; simp only [h, Bool.true_or]
    · cases h
  | succ n ih =>
    intro h
    rw [waits] at h ⊢
    split at h
    · rename_i o ho
      simp only [Bool.or_eq_true] at h ⊢
      refine h.imp id fun h => ?_
      obtain ⟨e, he, h⟩ := Array.any_eq_true'.1 h
      simp only [Bool.and_eq_true] at h
      exact Array.any_eq_true'.2 ⟨e, he, by simp only [Bool.and_eq_true]; exact ⟨h.1, ih h.2⟩⟩
    · cases h
theorem getD_flip {l : Array Bool} {i : Nat} (h : l.getD i true = false) : l.getD i false = false := by
  rcases Nat.lt_or_ge i l.size with h' | h'
  · simpa [h'] using h
  · simp [h'] at h
/-- What waits for an operation not yet listed is not ready. -/
theorem not_ready {listed : Array Bool} {i j : Nat} (hi : listed.getD i true = false) (hw : ∀ k, waits ops 4 k i = true → listed.getD k true = false) (hj : j ∈ Region.ready .any ops listed) : waits ops 4 j i = false := by
  cases h : waits ops 4 j i with
  | false => rfl
  | true =>
    obtain ⟨_, o, ho, hall⟩ := mem_ready.1 hj
    rw [waits, ho] at h
    simp only [Bool.or_eq_true] at h
    rcases h with h | h
    · obtain ⟨e, he, h⟩ := Array.any_eq_true'.1 h
      simp only [Bool.and_eq_true, beq_iff_eq] at h
      have := hall e he h.1
      rw [h.2, getD_flip hi] at this
      cases this
    · obtain ⟨e, he, h⟩ := Array.any_eq_true'.1 h
      simp only [Bool.and_eq_true] at h
      have h1 := hall e he h.1
      rw [getD_flip (hw _ (waits_mono h.2))] at h1
      cases h1
/-- G stays true whatever ready operation is run before i. -/
def Calm (C : Cfg) (ops : Array Oper) (G : World → Prop) (i : Nat) (listed : Array Bool) : Prop :=
  (∀ w, G w) ∨ ((∀ w w', BelowX [] w w' → G w → G w') ∧ (∀ k, waits ops 4 k i = true → listed.getD k true = false) ∧
    ∀ (j : Nat) (o : Oper), ops[j]? = some o → j ≠ i → listed.getD j true = false → turns C o = true → waits ops 4 j i = true)
theorem vAny_first {G : World → Prop} {i : Nat} {oi : Oper} {v : Value} (hi : ops[i]? = some oi) (hsel : ∀ (j : Nat) (o : Oper) cs b, ops[j]? = some o → o.op ≠ .select cs b) (hQ : ∀ c a w, ¬ Q (.panic c) a w) :
    ∀ (n : Nat) (listed : Array Bool) (a : Act) (w : World),
      (∀ j oj, ops[j]? = some oj → j ≠ i → listed.getD j true = false → (∀ e ∈ oj.after, Region.binds .any e = true → e.on ≠ i) → oi.apart ops oj = true) →
      i ∈ Region.ready .any ops listed → YieldsG G C.P ops oi v a → G w → Calm C ops G i listed → vAny C ops Q n (listed.setIfInBounds i true) (a.put oi.dst v) w → vAny C ops Q (n + 1) listed a w := by
  intro n
  induction n with
  | zero =>
    intro listed a w _ hr hy hG hC H
    refine ⟨fun h => (by rw [h] at hr; cases hr), fun j hj => ?_⟩
    by_cases hji : j = i
    · subst hji; exact hy.take hi hG ⟨fun _ _ _ => BelowX.refl _ _, H⟩
    · have := ready_mono hj hji
      rw [H.1] at this
      cases this
  | succ n ih =>
    intro listed a w hfree hr hy hG hC H
    refine ⟨fun h => (by rw [h] at hr; cases hr), fun j hj => ?_⟩
    by_cases hji : j = i
    · subst hji; exact hy.take hi hG ⟨fun _ _ _ => BelowX.refl _ _, H⟩
    · have h1 := H.2 j (ready_mono hj hji)
      obtain ⟨hjun, oj, hoj, hall⟩ := mem_ready.1 hj
      have hiun := (mem_ready.1 hr).1
      have hnot : ∀ e ∈ oj.after, Region.binds .any e = true → e.on ≠ i := fun e he hb heq => by
        have h1 := hall e he hb
        rw [heq, getD_flip hiun] at h1
        cases h1
      have hturn : Calm C ops G i (listed.setIfInBounds j true) ∧ ((∀ w, G w) ∨ ((∀ w w', BelowX [] w w' → G w → G w') ∧ turns C oj = false)) := by
        rcases hC with hC | ⟨hC1, hC2, hC3⟩
        · exact ⟨.inl hC, .inl hC⟩
        · have hnw := not_ready hiun hC2 hj
          refine ⟨.inr ⟨hC1, fun k hk => ?_, fun k o ho hki hun ht => ?_⟩, .inr ⟨hC1, ?_⟩⟩
          · have hjk : j ≠ k := fun e => by subst e; rw [hnw] at hk; cases hk
            rw [getD_set_ne true hjk]; exact hC2 k hk
          · by_cases hjk : j = k
            · subst hjk
              rcases Nat.lt_or_ge j listed.size with h' | h'
              · simp [h'] at hun
              · simp [h'] at hjun
            · rw [getD_set_ne true hjk] at hun; exact hC3 k o ho hki hun ht
          · cases ht : turns C oj with
            | false => rfl
            | true => have := hC3 j oj hoj hji hjun ht; rw [hnw] at this; cases this
      obtain ⟨hC', hstep⟩ := hturn
      have h2 := wpOp_before hoj (hfree j oj hoj hji hjun hnot) (fun cs b => hsel i oi cs b hi) (fun cs b => hsel j oj cs b hoj) hQ hy h1
      have hfree' : ∀ k ok, ops[k]? = some ok → k ≠ i → (listed.setIfInBounds j true).getD k true = false →
          (∀ e ∈ ok.after, Region.binds .any e = true → e.on ≠ i) → oi.apart ops ok = true := fun k ok hk hki hun hno => by
        refine hfree k ok hk hki ?_ hno
        by_cases hjk : j = k
        · subst hjk; exact hjun
        · rw [getD_set_ne true hjk] at hun; exact hun
      refine wpOp_mono (fun a' w' h3 => ⟨h3.2.1, ih (listed.setIfInBounds j true) a' w' hfree' (ready_mono hr (Ne.symm hji)) h3.1 ?_ hC' ?_⟩) h2
      · rcases hstep with h | ⟨h, ht⟩
        · exact h w'
        · exact h w w' (h3.2.1 oj hoj ht) hG
      · rw [Array.setIfInBounds_comm _ _ hji]
        exact h3.2.2
end

section
variable {C : Cfg} {w0 : World} {own0 : List Nat}
/-- No operation waits on another goroutine, and each writes a slot there is. -/
def opsOk (nt : Nat) (ops : List Oper) : Bool := ops.all fun o => (match o.op with | .select .. => false | _ => true) && (match o.dst with | some t => decide (t < nt) | none => true)
theorem opsOk_spec {nt : Nat} {ops : List Oper} (h : opsOk nt ops = true) {o : Oper} (ho : o ∈ ops) : (∀ cs b, o.op ≠ .select cs b) ∧ ∀ t, o.dst = some t → t < nt := by
  have := List.all_eq_true.1 h o ho
  simp only [Bool.and_eq_true] at this
  refine ⟨fun cs b e => ?_, fun t ht => ?_⟩
  · simp [e] at this
  · simpa [ht] using this.2
theorem quiet_some {o : Oper} {st : St} (h : worldless C o = true ∨ isLoad o = true) : ∃ q, quietV C o st = some q := by
  unfold quietV
  unfold worldless isLoad at h
  split <;> first | exact ⟨_, rfl⟩ | skip
  all_goals simp_all
theorem drawV_sound (hin : InlOk C.P C.muts) {ops : Array Oper} {Q : Exit → Act → World → Prop} {base : List Bx} {W : List Nat} {a₀ : Act} {k : St → Prop} (hQ : ∀ st a w, k st → Good C w0 own0 base W a₀ st a w → Q .normal a w) (hp : ∀ c a w, ¬ Q (.panic c) a w)
    (hok : opsOk C.nt ops.toList = true) (hd : ∀ o ∈ ops.toList, ∀ t, o.dst = some t → t ∈ W) :
    ∀ (n : Nat) (listed : Array Bool) (st : St) (a : Act) (w : World), Good C w0 own0 base W a₀ st a w → drawV C ops n listed st k → vAny C ops Q n listed a w
  | 0, listed, st, a, w, hg, h => by
    simp only [drawV] at h
    split at h
    · rename_i hr; exact ⟨hr, hQ st a w h hg⟩
    · exact h.elim
  | n + 1, listed, st, a, w, hg, h => by
    simp only [drawV] at h
    have dsts : ∀ {i : Nat} {o : Oper}, ops[i]? = some o → ∀ t, o.dst = some t → t < C.nt ∧ t ∈ W := fun hi t ht => by
      have hm := Array.mem_toList_iff.2 (Array.mem_of_getElem? hi)
      exact ⟨(opsOk_spec hok hm).2 t ht, hd _ hm t ht⟩
    -- one operation run first
    have go : ∀ i, (match ops[i]? with
         | some o => guardV ops o st
             (fun st => opV C o none st fun s own H => drawV C ops n (listed.setIfInBounds i true) (St.put ⟨st.env, own, H⟩ o.dst s) k)
             (fun st => drawV C ops n (listed.setIfInBounds i true) (st.put o.dst (.v undef)) k)
         | none => False) → wpOp C.P ops Q i (fun a' w' => (∀ o, ops[i]? = some o → turns C o = false → BelowX [] w w') ∧ vAny C ops Q n (listed.setIfInBounds i true) a' w') a w := fun i h => by
      split at h
      · rename_i o ho
        obtain ⟨env', he, h⟩ := guardV_sound hg.env h
        have hg' : Good C w0 own0 base W a₀ ⟨env', st.own, st.H⟩ a w := ⟨he, hg.stw, hg.rel⟩
        simp only [wpOp, ho]
        rcases h with ⟨hw, h⟩ | ⟨hw, h⟩
        · rw [if_pos hw]
          refine .inl (opV_sound hin (st := ⟨env', st.own, st.H⟩) he hg.stw (fun s own' H' w' hf hwf hext hs ht => ⟨fun o' ho' => ?_, ?_⟩) h)
          · obtain rfl := Option.some.inj ho'; exact ht
          · exact drawV_sound hin hQ hp hok hd n _ _ _ _ (hg'.put hext hs (dsts ho) hwf) hf
        · rw [if_neg (by simp [hw])]
          exact ⟨fun _ _ _ => BelowX.refl _ _, drawV_sound hin hQ hp hok hd n _ _ _ _ (hg'.put (s := .v undef) (OwnExt.refl _) hg.stw (dsts ho) trivial) h⟩
      · exact h.elim
    split at h
    · rename_i hr
      exact ⟨fun _ => hQ st a w h hg, by rw [hr]; simp⟩
    · rename_i hne
      split at h
      · rename_i i hf
        have hi := List.mem_of_find?_eq_some hf
        have hc := List.find?_some hf
        split at h
        case h_2 => exact h.elim
        rename_i o ho
        simp only [canTake, ho, Bool.and_eq_true, Bool.or_eq_true] at hc
        obtain ⟨hfree, hc⟩ := hc
        have hsel : ∀ (j : Nat) (o : Oper) cs b, ops[j]? = some o → o.op ≠ .select cs b := fun j o cs b hj => (opsOk_spec hok (Array.mem_toList_iff.2 (Array.mem_of_getElem? hj))).1 cs b
        obtain ⟨env', he, h⟩ := guardV_sound hg.env h
        have hg' : Good C w0 own0 base W a₀ ⟨env', st.own, st.H⟩ a w := ⟨he, hg.stw, hg.rel⟩
        have hwl : worldless C o = true ∨ isLoad o = true := by
          rcases hc with hc | hc
          · exact .inl hc
          · exact .inr hc.1.1
        -- G: in which worlds it yields the same
        obtain ⟨G, hG, hGw, hCalm⟩ : ∃ G : World → Prop, G w ∧ (∀ w, G w → worldless C o = true ∨ (Sees st.H w ∧ BoxesOk st.own st.H w)) ∧ Calm C ops G i listed := by
          rcases hc with hc | hc
          · exact ⟨fun _ => True, trivial, fun _ _ => .inl hc, .inl fun _ => trivial⟩
          · refine ⟨fun w => Sees st.H w ∧ BoxesOk st.own st.H w, ⟨hg.stw.sees, hg.stw.boxes⟩, fun _ h => .inr h, .inr ⟨fun w w' hb h => ⟨h.1.below hb, h.2.below hb⟩, fun k hk => ?_, fun j oj hoj hji hun ht => ?_⟩⟩
            · have hlt : k < ops.size := by
                rw [waits] at hk
                split at hk
                · rename_i o' ho'; exact (Array.getElem?_eq_some_iff.1 ho').1
                · cases hk
              have := List.all_eq_true.1 hc.2 k (List.mem_range.2 hlt)
              simpa [hk] using this
            · have hlt := (Array.getElem?_eq_some_iff.1 hoj).1
              have := List.all_eq_true.1 hc.1.2 j (List.mem_range.2 hlt)
              simpa [hun, hoj, ht] using this
        have fin : ∀ v, YieldsG G C.P ops o v a → vAny C ops Q n (listed.setIfInBounds i true) (a.put o.dst v) w → vAny C ops Q (n + 1) listed a w := fun v hy hv =>
          vAny_first ho hsel hp n listed a w (Region.free_spec ho hfree) hi hy hG hCalm hv
        rcases h with ⟨hw, h⟩ | ⟨hw, h⟩
        · obtain ⟨q, hq⟩ := quiet_some (st := ⟨env', st.own, st.H⟩) hwl
          simp only [opV, hq] at h
          obtain ⟨s, hf, hwf, hy⟩ := quiet_sound (f := fun s => drawV C ops n (listed.setIfInBounds i true) (St.put ⟨env', st.own, st.H⟩ o.dst s) k) o _ hq h a he
          exact fin _ (.inl ⟨hw, fun w' hG' => hy a w' he (hGw w' hG')⟩) (drawV_sound hin hQ hp hok hd n _ _ _ _ (hg'.put (OwnExt.refl _) hg.stw (dsts ho) hwf) hf)
        · exact fin _ (.inr ⟨hw, rfl⟩) (drawV_sound hin hQ hp hok hd n _ _ _ _ (hg'.put (s := .v undef) (OwnExt.refl _) hg.stw (dsts ho) trivial) h)
      · refine ⟨fun h0 => absurd h0 hne, fun i hi => go i ?_⟩
        have : ∀ (l : List Nat) (f : Nat → Prop), allV l f → ∀ i ∈ l, f i := fun l f => by
          induction l with
          | nil => intro _ i hi; cases hi
          | cons x r ih =>
            intro h i hi
            cases r with
            | nil => simp at hi; subst hi; exact h
            | cons y r =>
              rcases List.mem_cons.1 hi with rfl | hi
              · exact h.1
              · exact ih h.2 i hi
        exact this _ _ h i hi
end
end Go.Vg
