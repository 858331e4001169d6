/- Soundness of the computed verification condition: operations that only compute or read. -/
import Derived.Test.YtglnjkkaojhgnaaDoorSnd1
set_option linter.unusedSimpArgs false
set_option linter.unusedVariables false
namespace Go.Vg
open Go

theorem boolSV_val (own : List Bx) (x : Value) : (boolSV x).val own = x := by
  unfold boolSV; split <;> rfl
theorem boolSV_wf (n : Nat) (x : Value) : (boolSV x).wf n := by
  unfold boolSV; split <;> trivial
theorem get_sound {nt : Nat} {st : St} {a : Act} (h : EnvOk nt st.env st.own a) {x : Operand} {s : SV} (hs : st.get x = some s) : a.eval x = s.val st.own ∧ s.wf st.own.length := by
  cases x with
  | tmp t => obtain ⟨_, h2, h3⟩ := h.at_ t s hs; exact ⟨h2, h3⟩
  | const v => obtain rfl := Option.some.inj hs; exact ⟨(boolSV_val _ _).symm, boolSV_wf _ _⟩
  | global g => obtain rfl := Option.some.inj hs; exact ⟨rfl, trivial⟩
  | func f => obtain rfl := Option.some.inj hs; exact ⟨rfl, trivial⟩

section
variable {C : Cfg}

theorem beq_dec (a b : Int) : (a == b) = decide (a = b) := by
  rw [Bool.eq_iff_iff]; simp
theorem bne_dec (a b : Int) : (a != b) = decide (¬ a = b) := by
  rw [Bool.eq_iff_iff]; simp

/-- What a symbolic value must satisfy: it is well formed, and a reckoning yields it in every world. -/
def Gives (P : Program) (own : List Bx) (m : Sem Value) (s : SV) : Prop := s.wf own.length ∧ ∀ w, m.run P w = .ok (s.val own) w

theorem intBin_sound (own : List Bx) (op : BinOp) (ty : TypeId) (xo yo : Operand) (k : IntKind) (a b : Int) (f : SV → Prop) (h : intBin op k a b f) :
    ∃ s, f s ∧ Gives C.P own (binRun op ty xo yo (.int k a) (.int k b)) s := by
  cases op <;> simp only [intBin] at h
  case add => exact ⟨_, h _ rfl, trivial, fun w => by simp [binRun, eqGuard, binOp, Op.intArith, SV.val]⟩
  case sub => exact ⟨_, h _ rfl, trivial, fun w => by simp [binRun, eqGuard, binOp, Op.intArith, SV.val]⟩
  case mul => exact ⟨_, h _ rfl, trivial, fun w => by simp [binRun, eqGuard, binOp, Op.intArith, SV.val]⟩
  case quo => exact ⟨_, h.2 _ rfl, trivial, fun w => by simp [binRun, eqGuard, binOp, Op.intDiv, SV.val, h.1]⟩
  case rem => exact ⟨_, h.2, trivial, fun w => by simp [binRun, eqGuard, binOp, Op.intDiv, SV.val, h.1]⟩
  case eql => exact ⟨_, h, trivial, fun w => by simp [binRun, eqGuard, binOp, Op.intCmp, SV.val, beq_dec]⟩
  case neq => exact ⟨_, h, trivial, fun w => by simp [binRun, eqGuard, binOp, Op.intCmp, SV.val, bne_dec]⟩
  case lss => exact ⟨_, h, trivial, fun w => by simp [binRun, eqGuard, binOp, Op.intCmp, SV.val]⟩
  case leq => exact ⟨_, h, trivial, fun w => by simp [binRun, eqGuard, binOp, Op.intCmp, SV.val]⟩
  case gtr => exact ⟨_, h, trivial, fun w => by simp [binRun, eqGuard, binOp, Op.intCmp, SV.val]⟩
  case geq => exact ⟨_, h, trivial, fun w => by simp [binRun, eqGuard, binOp, Op.intCmp, SV.val]⟩

theorem binV_sound (op : BinOp) (ty rty : TypeId) (xo yo : Operand) (own : List Bx) (sx sy : SV) (f : SV → Prop) (h : binV C op ty rty xo yo own sx sy f) :
    ∃ s, f s ∧ Gives C.P own (binRun op ty xo yo (sx.val own) (sy.val own)) s := by
  unfold binV at h
  split at h
  · rename_i k a k' b
    split at h
    · rename_i e; subst e; exact intBin_sound own op ty xo yo k a b f h
    · exact h.elim
  · split at h
    · obtain ⟨b, hr, hf⟩ := h
      refine ⟨_, hf, trivial, fun w => ?_⟩
      rw [hr w]
      simp [SV.val]
    · obtain ⟨v, ⟨hr, hf⟩, _⟩ := K1.ex_spec h
      exact ⟨_, hf, trivial, hr⟩

theorem notV_sound (own : List Bx) (f : SV → Prop) (s : SV) (h : notV f s) : ∃ r, f r ∧ Gives C.P own (Op.unary .not (s.val own)) r := by
  unfold notV at h
  split at h
  · exact ⟨_, h, trivial, fun w => by simp [SV.val, Op.unary]⟩
  · exact ⟨_, h, trivial, fun w => by simp [SV.val, Op.unary]⟩
  · exact ⟨_, h, trivial, fun w => by simp [SV.val, Op.unary]⟩
  · rename_i b
    exact ⟨_, h, trivial, fun w => by cases b <;> simp [SV.val, Op.unary]⟩
  · exact h.elim

theorem pickV_sound {nt : Nat} {st : St} (f : SV → Prop) (x y : Operand) (s : SV) (h : pickV f (st.get x) (st.get y) s) :
    ∃ r, f r ∧ ∀ a : Act, EnvOk nt st.env st.own a → r.wf st.own.length ∧ ∃ b, s.val st.own = .bool b ∧ (if b then a.eval x else a.eval y) = r.val st.own := by
  unfold pickV at h
  split at h
  · split at h
    · rename_i r hr; exact ⟨r, h, fun a ha => ⟨(get_sound ha hr).2, true, rfl, (get_sound ha hr).1⟩⟩
    · exact h.elim
  · split at h
    · rename_i r hr; exact ⟨r, h, fun a ha => ⟨(get_sound ha hr).2, false, rfl, (get_sound ha hr).1⟩⟩
    · exact h.elim
  · rename_i q d
    split at h
    · rename_i r t hr ht
      by_cases hq : q
      · exact ⟨r, h.1 hq, fun a ha => ⟨(get_sound ha hr).2, true, by simp [SV.val, hq], (get_sound ha hr).1⟩⟩
      · exact ⟨t, h.2 hq, fun a ha => ⟨(get_sound ha ht).2, false, by simp [SV.val, hq], (get_sound ha ht).1⟩⟩
    · exact h.elim
  · rename_i b
    split at h
    · rename_i r t hr ht
      cases b with
      | true => exact ⟨r, h.1 rfl, fun a ha => ⟨(get_sound ha hr).2, true, rfl, (get_sound ha hr).1⟩⟩
      | false => exact ⟨t, h.2 rfl, fun a ha => ⟨(get_sound ha ht).2, false, rfl, (get_sound ha ht).1⟩⟩
    · exact h.elim
  · exact h.elim

/-! ### Loads -/
theorem addr_add (b o n : Nat) : (⟨b, o, none⟩ : Addr).add n = ⟨b, o + n, none⟩ := by unfold Addr.add; split <;> simp_all
theorem run_loadVar_one {P : Program} {ty : TypeId} {lk : LK} (hk : k1Of P ty = .one lk) {w : World} {b o : Nat} {v : Value} (hd : (P.underlying ty).isSome = true) (hc : w.cell? ⟨b, o, none⟩ = some v) :
    (loadVar ty ⟨b, o, none⟩).run P w = .ok v w := by
  obtain ⟨d, hd⟩ := Option.isSome_iff_exists.1 hd
  have hagg : (isAgg ty).run P w = .ok false w := by
    unfold isAgg
    rw [Sem.run_bind, run_underlying hd w]
    unfold k1Of at hk
    rw [hd] at hk
    cases d <;> simp_all
    split at hk <;> simp at hk
  simp [loadVar, Sem.run_bind, hagg, run_load, hc]
theorem run_loadVar_agg {P : Program} {ty : TypeId} (hk : ∀ lk, k1Of P ty ≠ .one lk) {w : World} {b o : Nat} {cs : List Value} (hn : cs.length = P.cellsOf ty) (hi : (P.info? ty).isSome = true)
    (hc : ∀ j v, cs[j]? = some v → w.cell? ⟨b, o + j, none⟩ = some v) :
    (loadVar ty ⟨b, o, none⟩).run P w = .ok (.agg cs.toArray) w := by
  have hl : (loadCells ⟨b, o, none⟩ cs.length).run P w = .ok cs.toArray w :=
    run_loadCells_list (P := P) w ⟨b, o, none⟩ cs (fun j v hv => by rw [addr_add]; exact hc j v hv)
  obtain ⟨i, hi⟩ := Option.isSome_iff_exists.1 hi
  have hs : i.size = cs.length := by rw [hn]; simp [Program.cellsOf, hi]
  cases hd : P.underlying ty with
  | none => exact absurd (by simp [k1Of, hd]) (hk (lkOf P ty))
  | some d =>
    have hagg : (isAgg ty).run P w = .ok true w := by
      unfold isAgg
      rw [Sem.run_bind, run_underlying hd w]
      cases d with
      | struct fs => rfl
      | array n e => rfl
      | _ => exact absurd (by simp [k1Of, hd]) (hk (lkOf P ty))
    simp [loadVar, Sem.run_bind, hagg, sizeOf, typeInfo, hi, hs, hl]
theorem info_of_underlying {P : Program} {t : TypeId} (h : (P.underlying t).isSome = true) : (P.info? t).isSome = true := by
  unfold Program.underlying at h
  cases hi : P.info? t with
  | none => simp [hi] at h
  | some i => rfl
theorem k1_some {P : Program} {t : TypeId} (h : ∀ lk, k1Of P t ≠ .one lk) : (P.underlying t).isSome = true := by
  cases hd : P.underlying t with
  | some d => rfl
  | none => exact absurd (by simp [k1Of, hd]) (h (lkOf P t))
theorem cellsAt_spec {H : Heap} {b o : Nat} : ∀ {vs : List Value} {i : Nat}, cellsAt H b o i vs → ∀ j v, vs[j]? = some v → H.cell b (o + i + j) = some v
  | [], _, _, j, v, h => by simp at h
  | x :: vs, i, h, 0, v, hv => by simp at hv; subst hv; exact h.1
  | x :: vs, i, h, j + 1, v, hv => by
    have := cellsAt_spec (i := i + 1) h.2 j v (by simpa using hv)
    rw [show o + i + (j + 1) = o + (i + 1) + j from by omega]
    exact this
theorem listAt_spec {cs : List Value} {o : Nat} : ∀ {vs : List Value} {i : Nat}, listAt cs o i vs → ∀ j v, vs[j]? = some v → cs[o + i + j]? = some v
  | [], _, _, j, v, h => by simp at h
  | x :: vs, i, h, 0, v, hv => by simp at hv; subst hv; exact h.1
  | x :: vs, i, h, j + 1, v, hv => by
    have := listAt_spec (i := i + 1) h.2 j v (by simpa using hv)
    rw [show o + i + (j + 1) = o + (i + 1) + j from by omega]
    exact this
theorem box_cell {own : List Bx} {H : Heap} {w : World} (h : BoxesOk own H w) {i : Nat} {b : Nat} {ty : TypeId} {cs : List Value} (hx : own[i]? = some ⟨b, false, ty, cs⟩) {j : Nat} {v : Value} (hv : cs[j]? = some v) :
    boxNo own i = b ∧ w.cell? ⟨b, j, none⟩ = some v := by
  have hm : (⟨b, false, ty, cs⟩ : Bx) ∈ own := List.mem_of_getElem? hx
  have := h.ok _ hm
  simp only [Bx.ok] at this
  exact ⟨by simp [boxNo, hx], by simp [World.cell?, this, hv]⟩

/-- A kind's value has as many cells as its type. -/
theorem fit_cells {P : Program} {t : TypeId} {v : Value} (h : (k1Of P t).Fit v) (hk : ∀ lk, k1Of P t ≠ .one lk) : ∃ cs : List Value, v = .agg cs.toArray ∧ cs.length = P.cellsOf t := by
  have hfl : ∀ (ks : List LK) (vs : List Value), LK.fits ks vs = true → vs.length = ks.length := by
    intro ks
    induction ks with
    | nil => intro vs h; cases vs <;> simp_all [LK.fits]
    | cons k ks ih => intro vs h; cases vs with
      | nil => simp [LK.fits] at h
      | cons v vs => simp only [LK.fits, Bool.and_eq_true] at h; simp [ih vs h.2]
  unfold k1Of at h hk
  split at h
  · split at h
    · rename_i hl
      obtain ⟨cs, rfl, hf⟩ := h
      exact ⟨cs, rfl, (hfl _ _ hf).trans hl⟩
    · obtain ⟨cs, rfl, hl⟩ := h
      exact ⟨cs, rfl, hl⟩
  · obtain ⟨cs, rfl, hl⟩ := h
    exact ⟨cs, rfl, hl⟩
  · rename_i h1 h2
    exfalso
    refine hk (lkOf P t) ?_
    split
    · rename_i fs e; exact absurd e (h1 fs)
    · rename_i n e' e; exact absurd e (h2 n e')
    · rfl

def Reads (P : Program) (st : St) (m : Sem Value) (s : SV) : Prop := s.wf st.own.length ∧ ∀ w, Sees st.H w → BoxesOk st.own st.H w → m.run P w = .ok (s.val st.own) w
end
end Go.Vg
