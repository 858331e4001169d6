/- Soundness of the computed verification condition: the ground: slots, boxes, worlds, kinds. -/
import Derived.Test.YtglnjkkaojhgnaaGreatDoorVc2
set_option linter.unusedSimpArgs false
set_option linter.unusedVariables false
namespace Go.Vg
open Go

/-! ### Slots -/
def SV.wf (n : Nat) : SV → Prop
  | .loc i _ => i < n
  | .dloc i _ => i < n
  | .mp i => i < n
  | .lst i _ => i < n
  | .fn _ caps => ∀ i ∈ caps, i < n
  | _ => True
/-- The boxes are those that they were, or more: their addresses and types stay. -/
structure OwnExt (own own' : List Bx) : Prop where
  len : own.length ≤ own'.length
  same : ∀ (i : Nat) (x : Bx), own[i]? = some x → ∃ x' : Bx, own'[i]? = some x' ∧ x'.b = x.b ∧ x'.map = x.map ∧ x'.ty = x.ty
theorem OwnExt.refl (own : List Bx) : OwnExt own own := ⟨Nat.le_refl _, fun _ x h => ⟨x, h, rfl, rfl, rfl⟩⟩
theorem OwnExt.trans {a b c : List Bx} (h : OwnExt a b) (k : OwnExt b c) : OwnExt a c :=
  ⟨Nat.le_trans h.len k.len, fun i x hx => by
    obtain ⟨y, hy, e1, e2, e3⟩ := h.same i x hx
    obtain ⟨z, hz, f1, f2, f3⟩ := k.same i y hy
    exact ⟨z, hz, f1.trans e1, f2.trans e2, f3.trans e3⟩⟩
theorem OwnExt.append (own more : List Bx) : OwnExt own (own ++ more) :=
  ⟨by simp, fun i x hx => ⟨x, by rw [List.getElem?_append_left (by have := List.getElem?_eq_some_iff.1 hx; exact this.1)]; exact hx, rfl, rfl, rfl⟩⟩
theorem OwnExt.set {own : List Bx} {i : Nat} {x x' : Bx} (hx : own[i]? = some x) (hb : x'.b = x.b) (hm : x'.map = x.map) (ht : x'.ty = x.ty) : OwnExt own (own.set i x') := by
  refine ⟨by simp, fun j y hy => ?_⟩
  by_cases e : i = j
  · subst e
    rw [hx] at hy
    obtain rfl := Option.some.inj hy
    have hl := (List.getElem?_eq_some_iff.1 hx).1
    exact ⟨x', by simp [hl], hb, hm, ht⟩
  · exact ⟨y, by rw [List.getElem?_set_ne e]; exact hy, rfl, rfl, rfl⟩
theorem boxNo_ext {own own' : List Bx} (h : OwnExt own own') {i : Nat} (hi : i < own.length) : boxNo own' i = boxNo own i := by
  have hx : own[i]? = some own[i] := by simp
  obtain ⟨y, hy, e, _, _⟩ := h.same i _ hx
  simp [boxNo, hy, e, hi]
theorem SV.val_ext {own own' : List Bx} (h : OwnExt own own') {s : SV} (hs : s.wf own.length) : s.val own' = s.val own := by
  cases s with
  | loc i off => simp only [SV.val, boxNo_ext h hs]
  | dloc i off => simp only [SV.val, boxNo_ext h hs]
  | mp i => simp only [SV.val, boxNo_ext h hs]
  | lst i n => simp only [SV.val, boxNo_ext h hs]
  | fn g caps =>
    simp only [SV.val]
    congr 2
    exact List.map_congr_left fun i hi => by rw [boxNo_ext h (hs i hi)]
  | _ => rfl
theorem SV.wf_mono {n m : Nat} (h : n ≤ m) {s : SV} (hs : s.wf n) : s.wf m := by
  cases s with
  | fn g caps => exact fun i hi => Nat.lt_of_lt_of_le (hs i hi) h
  | loc i off => exact Nat.lt_of_lt_of_le hs h
  | dloc i off => exact Nat.lt_of_lt_of_le hs h
  | mp i => exact Nat.lt_of_lt_of_le hs h
  | lst i n => exact Nat.lt_of_lt_of_le hs h
  | _ => trivial

/-- The slots hold what 'env' says. -/
structure EnvOk (nt : Nat) (env : List (Nat × SV)) (own : List Bx) (a : Act) : Prop where
  size : a.tmps.size = nt
  defers : a.defers = []
  at_ : ∀ s sv, look s env = some sv → s < nt ∧ a.tmps.getD s undef = sv.val own ∧ sv.wf own.length
theorem EnvOk.ext {nt : Nat} {env : List (Nat × SV)} {own own' : List Bx} {a : Act} (h : EnvOk nt env own a) (e : OwnExt own own') : EnvOk nt env own' a :=
  ⟨h.size, h.defers, fun s sv hs => by
    obtain ⟨h1, h2, h3⟩ := h.at_ s sv hs
    exact ⟨h1, by rw [SV.val_ext e h3]; exact h2, SV.wf_mono e.len h3⟩⟩
theorem EnvOk.put {nt : Nat} {env : List (Nat × SV)} {own : List Bx} {a : Act} (h : EnvOk nt env own a) {t : Nat} (ht : t < nt) {sv : SV} (hw : sv.wf own.length) :
    EnvOk nt ((t, sv) :: env) own (a.put (some t) (sv.val own)) := by
  refine ⟨by simp [Act.put, h.size], h.defers, fun s sv' hs => ?_⟩
  simp only [look] at hs
  split at hs
  · rename_i e
    subst e
    obtain rfl := Option.some.inj hs
    refine ⟨ht, ?_, hw⟩
    simp [Act.put, h.size, ht]
  · rename_i e
    obtain ⟨h1, h2, h3⟩ := h.at_ s sv' hs
    refine ⟨h1, ?_, h3⟩
    simp only [Act.put, Array.getD_eq_getD_getElem?] at *
    rw [Array.getElem?_setIfInBounds_ne e]
    exact h2
/-- A slot that 'env' says to hold tt does hold true: another spelling of the same value. -/
theorem EnvOk.respell {nt : Nat} {env : List (Nat × SV)} {own : List Bx} {a : Act} (h : EnvOk nt env own a) {t : Nat} {s s' : SV} (hs : look t env = some s) (hv : s'.val own = s.val own) (hw : s'.wf own.length) :
    EnvOk nt ((t, s') :: env) own a := by
  refine ⟨h.size, h.defers, fun u sv hu => ?_⟩
  simp only [look] at hu
  split at hu
  · rename_i e
    subst e
    obtain rfl := Option.some.inj hu
    obtain ⟨h1, h2, _⟩ := h.at_ _ _ hs
    exact ⟨h1, h2.trans hv.symm, hw⟩
  · exact h.at_ u sv hu
theorem look_filter {p : Nat → Bool} {env : List (Nat × SV)} {s : Nat} {sv : SV} (h : look s (env.filter fun x => p x.1) = some sv) : look s env = some sv ∧ p s = true := by
  induction env with
  | nil => simp [look] at h
  | cons x r ih =>
    obtain ⟨t, v⟩ := x
    by_cases hp : p t = true
    · rw [List.filter_cons_of_pos (by simpa using hp)] at h
      simp only [look] at h ⊢
      split at h
      · rename_i e; subst e; exact ⟨by simpa using h, hp⟩
      · rename_i e; rw [if_neg e]; exact ih h
    · rw [List.filter_cons_of_neg (by simpa using hp)] at h
      obtain ⟨h1, h2⟩ := ih h
      refine ⟨?_, h2⟩
      simp only [look]
      rw [if_neg (fun e => hp (by rw [e]; exact h2))]
      exact h1

/-! ### Worlds -/
theorem BelowX.refl (own : List Nat) (w : World) : BelowX own w w := ⟨rfl, rfl, rfl, Nat.le_refl _, fun _ _ _ => rfl⟩
theorem BelowX.trans {own : List Nat} {a b c : World} (h : BelowX own a b) (k : BelowX own b c) : BelowX own a c :=
  ⟨k.os.trans h.os, k.tape.trans h.tape, k.output.trans h.output, Nat.le_trans h.size k.size, fun i hi hn => (k.block i (Nat.lt_of_lt_of_le hi h.size) hn).trans (h.block i hi hn)⟩
theorem BelowX.mono {own own' : List Nat} {a b : World} (h : BelowX own a b) (hs : ∀ k ∈ own, k ∈ own') : BelowX own' a b :=
  ⟨h.os, h.tape, h.output, h.size, fun k hk hn => h.block k hk fun hm => hn (hs k hm)⟩
theorem BelowX.drew (own : List Nat) (w : World) : BelowX own w { w with drawn := w.drawn + 1 } := ⟨rfl, rfl, rfl, Nat.le_refl _, fun _ _ _ => rfl⟩
theorem BelowX.alloc (own : List Nat) (w : World) (o : Obj) : BelowX own w (w.alloc o) :=
  ⟨rfl, rfl, rfl, by simp, fun k hk _ => by show (w.heap.push o)[k]? = _; rw [Array.getElem?_push, if_neg (by omega)]⟩
theorem BelowX.setCell (own : List Nat) (w : World) (p : Addr) (v : Value) (hp : p.block ∈ own ∨ w.heap.size ≤ p.block) : BelowX own w (w.setCell p v) :=
  ⟨rfl, rfl, rfl, by simp [World.setCell], fun k hk hn => heap_setCell_other w p k v (fun e => hp.elim (fun hp => hn (e ▸ hp)) (fun hp => absurd hk (by rw [e]; omega)))⟩
theorem Sees.of_same {H : Heap} {w w' : World} (h : Sees H w) (hb : ∀ b k, H b = some k → w'.heap[b]? = w.heap[b]?) : Sees H w' :=
  fun b k hk => by rw [hb b k hk]; exact h b k hk
theorem KB.sees_lt {k : KB} {w : World} {b : Nat} (h : k.sees w.heap[b]?) : b < w.heap.size := by
  obtain ⟨cur, fr, e, _⟩ := h
  exact (Array.getElem?_eq_some_iff.1 e).1
theorem Sees.lt {H : Heap} {w : World} (h : Sees H w) {b : Nat} {k : KB} (hk : H b = some k) : b < w.heap.size := KB.sees_lt (h b k hk)
theorem Sees.below {H : Heap} {w w' : World} (h : Sees H w) (hb : BelowX [] w w') : Sees H w' :=
  h.of_same fun b _ hk => hb.block b (h.lt hk) (by simp)
theorem Bx.ok_lt {x : Bx} {w : World} (h : x.ok w) : x.b < w.heap.size := by
  unfold Bx.ok at h
  split at h
  · exact (Array.getElem?_eq_some_iff.1 h).1
  · obtain ⟨es, c, e, _⟩ := h; exact (Array.getElem?_eq_some_iff.1 e).1
theorem Bx.ok_same {x : Bx} {w w' : World} (h : x.ok w) (e : w'.heap[x.b]? = w.heap[x.b]?) : x.ok w' := by
  unfold Bx.ok at *
  rw [e]; exact h
theorem BoxesOk.below {own : List Bx} {H : Heap} {w w' : World} (h : BoxesOk own H w) (hb : BelowX [] w w') : BoxesOk own H w' :=
  ⟨fun x hx => Bx.ok_same (h.ok x hx) (hb.block _ (Bx.ok_lt (h.ok x hx)) (by simp)), h.hid, h.apart⟩
theorem Sees.cell {H : Heap} {w : World} (h : Sees H w) {b o : Nat} {v : Value} (hc : H.cell b o = some v) : w.cell? ⟨b, o, none⟩ = some v := by
  unfold Heap.cell at hc
  cases hk : H b with
  | none => simp [hk] at hc
  | some k =>
    simp only [hk, Option.bind_some] at hc
    obtain ⟨cur, fr, e, _, _, hcell⟩ := h b k hk
    simp [World.cell?, e, hcell o v hc]
theorem Next.refl (base : Nat) (H : Heap) : Next base H H := ⟨fun _ _ h => h, fun b k h h' => by rw [h] at h'; cases h'⟩
theorem Next.trans {base : Nat} {a b c : Heap} (h : Next base a b) (k : Next base b c) : Next base a c :=
  ⟨fun x y hx => k.ext x y (h.ext x y hx), fun x y hy hn => by
    cases hb : b x with
    | none => exact k.fresh x y hy hb
    | some z => exact h.fresh x z hb hn⟩
theorem Next.mono {base base' : Nat} {a b : Heap} (h : Next base a b) (hb : base' ≤ base) : Next base' a b :=
  ⟨h.ext, fun x y hx hn => Nat.le_trans hb (h.fresh x y hx hn)⟩

/-! ### Kinds -/
theorem LK.al_spec {k : LK} {f : Value → Prop} (h : k.al f) {v : Value} (hv : k.fit v = true) : f v := by
  cases k <;> cases v <;> simp [LK.fit] at hv <;> first | exact h _ | (subst hv; exact h _) | exact h _ _ _ | exact h.1 | exact h.2 _ _
theorem LK.ex_spec {k : LK} {f : Value → Prop} (h : k.ex f) : ∃ v, f v ∧ k.fit v = true := by
  cases k with
  | int k => obtain ⟨n, hn⟩ := h; exact ⟨_, hn, by simp [LK.fit]⟩
  | bool => obtain ⟨n, hn⟩ := h; exact ⟨_, hn, rfl⟩
  | str => obtain ⟨n, hn⟩ := h; exact ⟨_, hn, rfl⟩
  | slice => obtain ⟨a, n, c, hn⟩ := h; exact ⟨_, hn, rfl⟩
  | iface =>
    rcases h with h | ⟨t, p, h⟩
    · exact ⟨_, h, rfl⟩
    · exact ⟨_, h, rfl⟩
  | any => obtain ⟨n, hn⟩ := h; exact ⟨_, hn, rfl⟩
theorem LK.als_spec : ∀ {ks : List LK} {f : List Value → Prop}, LK.als ks f → ∀ {vs : List Value}, LK.fits ks vs = true → f vs
  | [], _, h, [], _ => h
  | [], _, _, _ :: _, hv => by simp [LK.fits] at hv
  | _ :: _, _, _, [], hv => by simp [LK.fits] at hv
  | k :: ks, f, h, v :: vs, hv => by
    simp only [LK.fits, Bool.and_eq_true] at hv
    exact LK.als_spec (ks := ks) (f := fun vs => f (v :: vs)) (LK.al_spec h hv.1) hv.2
theorem LK.exs_spec : ∀ {ks : List LK} {f : List Value → Prop}, LK.exs ks f → ∃ vs, f vs ∧ LK.fits ks vs = true ∧ vs.length = ks.length
  | [], _, h => ⟨[], h, rfl, rfl⟩
  | k :: ks, f, h => by
    obtain ⟨v, hv, hf⟩ := LK.ex_spec h
    obtain ⟨vs, hvs, hfs, hl⟩ := LK.exs_spec (ks := ks) hv
    exact ⟨v :: vs, hvs, by simp [LK.fits, hf, hfs], by simp [hl]⟩
/-- A value of this kind. -/
def K1.Fit : K1 → Value → Prop
  | .one k, v => k.fit v = true
  | .agg ks, v => ∃ cs : List Value, v = .agg cs.toArray ∧ LK.fits ks cs = true
  | .arr n, v => ∃ cs : List Value, v = .agg cs.toArray ∧ cs.length = n
  | .sym, v => ∃ cs : List Value, v = .agg cs.toArray
inductive Fits : List K1 → List Value → Prop
  | nil : Fits [] []
  | cons {k : K1} {ks : List K1} {v : Value} {vs : List Value} (h : k.Fit v) (t : Fits ks vs) : Fits (k :: ks) (v :: vs)
theorem K1.al_spec {k : K1} {f : Value → Prop} (h : k.al f) {v : Value} (hv : k.Fit v) : f v := by
  cases k with
  | one k => exact LK.al_spec h hv
  | agg ks => obtain ⟨cs, rfl, hf⟩ := hv; exact LK.als_spec (f := fun vs => f (.agg vs.toArray)) h hf
  | arr n => obtain ⟨cs, rfl, hl⟩ := hv; exact h cs hl
  | sym => obtain ⟨cs, rfl⟩ := hv; exact h cs
theorem K1.als_spec {ks : List K1} {vs : List Value} (hv : Fits ks vs) : ∀ {f : List Value → Prop}, K1.als ks f → f vs := by
  induction hv with
  | nil => exact fun h => h
  | cons h _ ih => exact fun {f} hf => ih (f := fun vs => f (_ :: vs)) (K1.al_spec hf h)
theorem K1.ex_spec {k : K1} {f : Value → Prop} (h : k.ex f) : ∃ v, f v ∧ k.Fit v := by
  cases k with
  | one k => exact LK.ex_spec h
  | agg ks => obtain ⟨vs, h1, h2, _⟩ := LK.exs_spec h; exact ⟨_, h1, vs, rfl, h2⟩
  | arr n => obtain ⟨cs, hl, hf⟩ := h; exact ⟨_, hf, cs, rfl, hl⟩
  | sym => obtain ⟨cs, hf⟩ := h; exact ⟨_, hf, cs, rfl⟩
theorem K1.exs_spec : ∀ {ks : List K1} {f : List Value → Prop}, K1.exs ks f → ∃ vs, f vs ∧ Fits ks vs
  | [], _, h => ⟨[], h, .nil⟩
  | k :: ks, f, h => by
    obtain ⟨v, hv, hf⟩ := K1.ex_spec h
    obtain ⟨vs, hvs, hfs⟩ := K1.exs_spec (ks := ks) hv
    exact ⟨v :: vs, hvs, .cons hf hfs⟩
theorem K2.ex_spec {k : K2} {f : Value → Prop} (h : k.ex f) : ∃ v, f v := by
  cases k with
  | k1 k => obtain ⟨v, hv, _⟩ := K1.ex_spec h; exact ⟨v, hv⟩
  | tup ks => obtain ⟨vs, hvs, _⟩ := K1.exs_spec h; exact ⟨_, hvs⟩
theorem fitP_spec : ∀ {ks : List K1} {vs : List Value} {f : Prop}, fitP ks vs f → Fits ks vs ∧ f
  | [], [], _, h => ⟨.nil, h⟩
  | [], _ :: _, _, h => h.elim
  | _ :: _, [], _, h => h.elim
  | .one k :: ks, v :: vs, f, h => by
    simp only [fitP] at h
    split at h
    · rename_i hk; obtain ⟨h1, h2⟩ := fitP_spec h; exact ⟨.cons hk h1, h2⟩
    · exact h.elim
  | .agg k :: ks, v :: vs, f, h => by
    cases v with
    | agg cs =>
      simp only [fitP] at h
      split at h
      · rename_i hk; obtain ⟨h1, h2⟩ := fitP_spec h; exact ⟨.cons ⟨cs.toList, by simp, hk⟩ h1, h2⟩
      · exact h.elim
    | _ => exact h.elim
  | .arr n :: ks, v :: vs, f, h => by
    cases v with
    | agg cs =>
      simp only [fitP] at h
      obtain ⟨h1, h2⟩ := fitP_spec h.2
      exact ⟨.cons ⟨cs.toList, by simp, h.1⟩ h1, h2⟩
    | _ => exact h.elim
  | .sym :: ks, v :: vs, f, h => by
    cases v with
    | agg cs =>
      simp only [fitP] at h
      obtain ⟨h1, h2⟩ := fitP_spec h
      exact ⟨.cons ⟨cs.toList, by simp⟩ h1, h2⟩
    | _ => exact h.elim
end Go.Vg
namespace Go.Vg
open Go

theorem boolSV_val (own : List Bx) (x : Value) : (boolSV x).val own = x := by
  unfold boolSV; split <;> rfl
theorem boolSV_wf (n : Nat) (x : Value) : (boolSV x).wf n := by
  unfold boolSV; split <;> trivial
theorem get_sound {nt : Nat} {st : St} {a : Act} (h : EnvOk nt st.env st.own a) {x : Operand} {s : SV} (hs : st.get x = some s) : a.eval x = s.val st.own ∧ s.wf st.own.length := by
  cases x with
  | tmp t => obtain ⟨_, h2, h3⟩ := h.at_ t s hs; exact ⟨h2, h3⟩
  | const v => obtain rfl := Option.some.inj hs; exact ⟨(boolSV_val _ _).symm, boolSV_wf _ _⟩
  | global g => obtain rfl := Option.some.inj hs; exact ⟨rfl, trivial⟩
  | func f => obtain rfl := Option.some.inj hs; exact ⟨rfl, trivial⟩

section
variable {C : Cfg}

theorem beq_dec (a b : Int) : (a == b) = decide (a = b) := by
  rw [Bool.eq_iff_iff]; simp
theorem bne_dec (a b : Int) : (a != b) = decide (¬ a = b) := by
  rw [Bool.eq_iff_iff]; simp

/-- What a symbolic value must satisfy: it is well formed, and a reckoning yields it in every world. -/
def Gives (P : Program) (own : List Bx) (m : Sem Value) (s : SV) : Prop := s.wf own.length ∧ ∀ w, m.run P w = .ok (s.val own) w

theorem intBin_sound (own : List Bx) (op : BinOp) (ty : TypeId) (xo yo : Operand) (k : IntKind) (a b : Int) (f : SV → Prop) (h : intBin op k a b f) :
    ∃ s, f s ∧ Gives C.P own (binRun op ty xo yo (.int k a) (.int k b)) s := by
  cases op <;> simp only [intBin] at h
  case add => exact ⟨_, h _ rfl, trivial, fun w => by simp [binRun, eqGuard, binOp, Op.intArith, SV.val]⟩
  case sub => exact ⟨_, h _ rfl, trivial, fun w => by simp [binRun, eqGuard, binOp, Op.intArith, SV.val]⟩
  case mul => exact ⟨_, h _ rfl, trivial, fun w => by simp [binRun, eqGuard, binOp, Op.intArith, SV.val]⟩
  case quo => exact ⟨_, h.2 _ rfl, trivial, fun w => by simp [binRun, eqGuard, binOp, Op.intDiv, SV.val, h.1]⟩
  case rem => exact ⟨_, h.2, trivial, fun w => by simp [binRun, eqGuard, binOp, Op.intDiv, SV.val, h.1]⟩
  case eql => exact ⟨_, h, trivial, fun w => by simp [binRun, eqGuard, binOp, Op.intCmp, SV.val, beq_dec]⟩
  case neq => exact ⟨_, h, trivial, fun w => by simp [binRun, eqGuard, binOp, Op.intCmp, SV.val, bne_dec]⟩
  case lss => exact ⟨_, h, trivial, fun w => by simp [binRun, eqGuard, binOp, Op.intCmp, SV.val]⟩
  case leq => exact ⟨_, h, trivial, fun w => by simp [binRun, eqGuard, binOp, Op.intCmp, SV.val]⟩
  case gtr => exact ⟨_, h, trivial, fun w => by simp [binRun, eqGuard, binOp, Op.intCmp, SV.val]⟩
  case geq => exact ⟨_, h, trivial, fun w => by simp [binRun, eqGuard, binOp, Op.intCmp, SV.val]⟩

theorem binV_sound (op : BinOp) (ty rty : TypeId) (xo yo : Operand) (own : List Bx) (sx sy : SV) (f : SV → Prop) (h : binV C op ty rty xo yo own sx sy f) :
    ∃ s, f s ∧ Gives C.P own (binRun op ty xo yo (sx.val own) (sy.val own)) s := by
  unfold binV at h
  split at h
  · rename_i k a k' b
    split at h
    · rename_i e; subst e; exact intBin_sound own op ty xo yo k a b f h
    · exact h.elim
  · split at h
    · obtain ⟨b, hr, hf⟩ := h
      refine ⟨_, hf, trivial, fun w => ?_⟩
      rw [hr w]
      simp [SV.val]
    · obtain ⟨v, ⟨hr, hf⟩, _⟩ := K1.ex_spec h
      exact ⟨_, hf, trivial, hr⟩

theorem notV_sound (own : List Bx) (f : SV → Prop) (s : SV) (h : notV f s) : ∃ r, f r ∧ Gives C.P own (Op.unary .not (s.val own)) r := by
  unfold notV at h
  split at h
  · exact ⟨_, h, trivial, fun w => by simp [SV.val, Op.unary]⟩
  · exact ⟨_, h, trivial, fun w => by simp [SV.val, Op.unary]⟩
  · exact ⟨_, h, trivial, fun w => by simp [SV.val, Op.unary]⟩
  · rename_i b
    exact ⟨_, h, trivial, fun w => by cases b <;> simp [SV.val, Op.unary]⟩
  · exact h.elim

theorem pickV_sound {nt : Nat} {st : St} (f : SV → Prop) (x y : Operand) (s : SV) (h : pickV f (st.get x) (st.get y) s) :
    ∃ r, f r ∧ ∀ a : Act, EnvOk nt st.env st.own a → r.wf st.own.length ∧ ∃ b, s.val st.own = .bool b ∧ (if b then a.eval x else a.eval y) = r.val st.own := by
  unfold pickV at h
  split at h
  · split at h
    · rename_i r hr; exact ⟨r, h, fun a ha => ⟨(get_sound ha hr).2, true, rfl, (get_sound ha hr).1⟩⟩
    · exact h.elim
  · split at h
    · rename_i r hr; exact ⟨r, h, fun a ha => ⟨(get_sound ha hr).2, false, rfl, (get_sound ha hr).1⟩⟩
    · exact h.elim
  · rename_i q d
    split at h
    · rename_i r t hr ht
      by_cases hq : q
      · exact ⟨r, h.1 hq, fun a ha => ⟨(get_sound ha hr).2, true, by simp [SV.val, hq], (get_sound ha hr).1⟩⟩
      · exact ⟨t, h.2 hq, fun a ha => ⟨(get_sound ha ht).2, false, by simp [SV.val, hq], (get_sound ha ht).1⟩⟩
    · exact h.elim
  · rename_i b
    split at h
    · rename_i r t hr ht
      cases b with
      | true => exact ⟨r, h.1 rfl, fun a ha => ⟨(get_sound ha hr).2, true, rfl, (get_sound ha hr).1⟩⟩
      | false => exact ⟨t, h.2 rfl, fun a ha => ⟨(get_sound ha ht).2, false, rfl, (get_sound ha ht).1⟩⟩
    · exact h.elim
  · exact h.elim

/-! ### Loads -/
theorem addr_add (b o n : Nat) : (⟨b, o, none⟩ : Addr).add n = ⟨b, o + n, none⟩ := by unfold Addr.add; split <;> simp_all
theorem run_loadVar_one {P : Program} {ty : TypeId} {lk : LK} (hk : k1Of P ty = .one lk) {w : World} {b o : Nat} {v : Value} (hd : (P.underlying ty).isSome = true) (hc : w.cell? ⟨b, o, none⟩ = some v) :
    (loadVar ty ⟨b, o, none⟩).run P w = .ok v w := by
  obtain ⟨d, hd⟩ := Option.isSome_iff_exists.1 hd
  have hagg : (isAgg ty).run P w = .ok false w := by
    unfold isAgg
    rw [Sem.run_bind, run_underlying hd w]
    unfold k1Of at hk
    rw [hd] at hk
    cases d <;> simp_all
    split at hk <;> simp at hk
  simp [loadVar, Sem.run_bind, hagg, run_load, hc]
theorem run_loadVar_agg {P : Program} {ty : TypeId} (hk : ∀ lk, k1Of P ty ≠ .one lk) {w : World} {b o : Nat} {cs : List Value} (hn : cs.length = P.cellsOf ty) (hi : (P.info? ty).isSome = true)
    (hc : ∀ j v, cs[j]? = some v → w.cell? ⟨b, o + j, none⟩ = some v) :
    (loadVar ty ⟨b, o, none⟩).run P w = .ok (.agg cs.toArray) w := by
  have hl : (loadCells ⟨b, o, none⟩ cs.length).run P w = .ok cs.toArray w :=
    run_loadCells_list (P := P) w ⟨b, o, none⟩ cs (fun j v hv => by rw [addr_add]; exact hc j v hv)
  obtain ⟨i, hi⟩ := Option.isSome_iff_exists.1 hi
  have hs : i.size = cs.length := by rw [hn]; simp [Program.cellsOf, hi]
  cases hd : P.underlying ty with
  | none => exact absurd (by simp [k1Of, hd]) (hk (lkOf P ty))
  | some d =>
    have hagg : (isAgg ty).run P w = .ok true w := by
      unfold isAgg
      rw [Sem.run_bind, run_underlying hd w]
      cases d with
      | struct fs => rfl
      | array n e => rfl
      | _ => exact absurd (by simp [k1Of, hd]) (hk (lkOf P ty))
    simp [loadVar, Sem.run_bind, hagg, sizeOf, typeInfo, hi, hs, hl]
theorem info_of_underlying {P : Program} {t : TypeId} (h : (P.underlying t).isSome = true) : (P.info? t).isSome = true := by
  unfold Program.underlying at h
  cases hi : P.info? t with
  | none => simp [hi] at h
  | some i => rfl
theorem k1_some {P : Program} {t : TypeId} (h : ∀ lk, k1Of P t ≠ .one lk) : (P.underlying t).isSome = true := by
  cases hd : P.underlying t with
  | some d => rfl
  | none => exact absurd (by simp [k1Of, hd]) (h (lkOf P t))
theorem cellsAt_spec {H : Heap} {b o : Nat} : ∀ {vs : List Value} {i : Nat}, cellsAt H b o i vs → ∀ j v, vs[j]? = some v → H.cell b (o + i + j) = some v
  | [], _, _, j, v, h => by simp at h
  | x :: vs, i, h, 0, v, hv => by simp at hv; subst hv; exact h.1
  | x :: vs, i, h, j + 1, v, hv => by
    have := cellsAt_spec (i := i + 1) h.2 j v (by simpa using hv)
    rw [show o + i + (j + 1) = o + (i + 1) + j from by omega]
    exact this
theorem listAt_spec {cs : List Value} {o : Nat} : ∀ {vs : List Value} {i : Nat}, listAt cs o i vs → ∀ j v, vs[j]? = some v → cs[o + i + j]? = some v
  | [], _, _, j, v, h => by simp at h
  | x :: vs, i, h, 0, v, hv => by simp at hv; subst hv; exact h.1
  | x :: vs, i, h, j + 1, v, hv => by
    have := listAt_spec (i := i + 1) h.2 j v (by simpa using hv)
    rw [show o + i + (j + 1) = o + (i + 1) + j from by omega]
    exact this
theorem box_cell {own : List Bx} {H : Heap} {w : World} (h : BoxesOk own H w) {i : Nat} {b : Nat} {ty : TypeId} {cs : List Value} (hx : own[i]? = some ⟨b, false, ty, cs⟩) {j : Nat} {v : Value} (hv : cs[j]? = some v) :
    boxNo own i = b ∧ w.cell? ⟨b, j, none⟩ = some v := by
  have hm : (⟨b, false, ty, cs⟩ : Bx) ∈ own := List.mem_of_getElem? hx
  have := h.ok _ hm
  simp only [Bx.ok] at this
  exact ⟨by simp [boxNo, hx], by simp [World.cell?, this, hv]⟩

/-- A kind's value has as many cells as its type. -/
theorem fit_cells {P : Program} {t : TypeId} {v : Value} (h : (k1Of P t).Fit v) (hk : ∀ lk, k1Of P t ≠ .one lk) : ∃ cs : List Value, v = .agg cs.toArray ∧ cs.length = P.cellsOf t := by
  have hfl : ∀ (ks : List LK) (vs : List Value), LK.fits ks vs = true → vs.length = ks.length := by
    intro ks
    induction ks with
    | nil => intro vs h; cases vs <;> simp_all [LK.fits]
    | cons k ks ih => intro vs h; cases vs with
      | nil => simp [LK.fits] at h
      | cons v vs => simp only [LK.fits, Bool.and_eq_true] at h; simp [ih vs h.2]
  unfold k1Of at h hk
  split at h
  · split at h
    · rename_i hl
      obtain ⟨cs, rfl, hf⟩ := h
      exact ⟨cs, rfl, (hfl _ _ hf).trans hl⟩
    · obtain ⟨cs, rfl, hl⟩ := h
      exact ⟨cs, rfl, hl⟩
  · obtain ⟨cs, rfl, hl⟩ := h
    exact ⟨cs, rfl, hl⟩
  · rename_i h1 h2
    exfalso
    refine hk (lkOf P t) ?_
    split
    · rename_i fs e; exact absurd e (h1 fs)
    · rename_i n e' e; exact absurd e (h2 n e')
    · rfl

def Reads (P : Program) (st : St) (m : Sem Value) (s : SV) : Prop := s.wf st.own.length ∧ ∀ w, Sees st.H w → BoxesOk st.own st.H w → m.run P w = .ok (s.val st.own) w
end
end Go.Vg
namespace Go.Vg
open Go
section
variable {C : Cfg}
theorem typed_spec {t : TypeId} {f : Prop} (h : typed C t f) : (C.P.underlying t).isSome = true ∧ f := by
  unfold typed at h
  split at h
  · rename_i d e; exact ⟨by rw [e]; rfl, h⟩
  · exact h.elim
theorem k1_cases (k : K1) : (∃ lk, k = .one lk) ∨ ∀ lk, k ≠ .one lk := by
  cases k with
  | one lk => exact .inl ⟨lk, rfl⟩
  | _ => exact .inr fun lk h => by cases h
theorem box_no {own : List Bx} {i : Nat} {x : Bx} (hx : own[i]? = some x) : boxNo own i = x.b := by simp [boxNo, hx]
theorem idx_lt {α : Type} {l : List α} {i : Nat} {x : α} (h : l[i]? = some x) : i < l.length := (List.getElem?_eq_some_iff.1 h).1

theorem loadV_sound (ty : TypeId) (st : St) (f : SV → Prop) (s : SV) (h : loadV C ty st f s) : ∃ r, f r ∧ Reads C.P st (Instr.loadAt ty (s.val st.own)) r := by
  have lift : ∀ (b o : Nat) (v : Value) (w : World), (loadVar ty ⟨b, o, none⟩).run C.P w = .ok v w → (Instr.loadAt ty (.pointer (some ⟨b, o, none⟩))).run C.P w = .ok v w := fun b o v w h => by
    simp only [Instr.loadAt, Instr.sureAddr, Sem.run_bind, Sem.run_pure, Result.andThen_ok, h]
  unfold loadV at h
  split at h
  · rename_i i off
    split at h
    · rename_i b bt cs hx
      obtain ⟨hd, h⟩ := typed_spec h
      split at h
      · rename_i lk hk
        split at h
        · rename_i v hv
          refine ⟨_, h, trivial, fun w _ hb => ?_⟩
          obtain ⟨e, hc⟩ := box_cell hb hx hv
          simp only [SV.val, e]
          exact lift _ _ _ _ (run_loadVar_one hk hd hc)
        · exact h.elim
      · rename_i n hk
        have hk' : ∀ lk, k1Of C.P ty ≠ .one lk := fun lk h => by rw [hk] at h; cases h
        split at h
        · obtain ⟨hl, h⟩ := h
          refine ⟨_, h, trivial, fun w _ hb => ?_⟩
          have e : boxNo st.own i = b := box_no hx
          simp only [SV.val, e]
          exact lift _ _ _ _ (run_loadVar_agg hk' hl (info_of_underlying hd) fun j v hv => (box_cell hb hx (by simpa using hv)).2)
        · split at h
          · rename_i hl
            refine ⟨_, h, trivial, fun w _ hb => ?_⟩
            have e : boxNo st.own i = b := box_no hx
            simp only [SV.val, e]
            refine lift _ _ _ _ (run_loadVar_agg hk' hl (info_of_underlying hd) fun j v hv => ?_)
            rw [List.getElem?_take] at hv
            split at hv
            · rw [List.getElem?_drop] at hv
              exact (box_cell hb hx hv).2
            · cases hv
          · exact h.elim
      · rename_i hk1 hk2
        split at h
        · rename_i hl
          refine ⟨_, h, trivial, fun w _ hb => ?_⟩
          have e : boxNo st.own i = b := box_no hx
          simp only [SV.val, e]
          refine lift _ _ _ _ (run_loadVar_agg (fun lk h => hk1 lk h) hl (info_of_underlying hd) fun j v hv => ?_)
          rw [List.getElem?_take] at hv
          split at hv
          · rw [List.getElem?_drop] at hv
            exact (box_cell hb hx hv).2
          · cases hv
        · exact h.elim
    · exact h.elim
  · rename_i i off
    split at h
    · rename_i b bt cs hx
      obtain ⟨hd, h⟩ := typed_spec h
      have e : boxNo st.own i = b := box_no hx
      split at h
      · rename_i k hk
        obtain ⟨v, ⟨hl, hf⟩, _⟩ := LK.ex_spec h
        refine ⟨_, hf, trivial, fun w _ hb => ?_⟩
        simp only [SV.val, e]
        exact lift _ _ _ _ (run_loadVar_one hk hd (box_cell hb hx hl).2)
      · rename_i hk
        obtain ⟨v, ⟨hl, hf⟩, hfit⟩ := K1.ex_spec h
        refine ⟨_, hf, trivial, fun w _ hb => ?_⟩
        simp only [SV.val, e]
        have hk' : ∀ lk, k1Of C.P ty ≠ .one lk := fun lk h => hk lk h
        obtain ⟨cs', rfl, hn⟩ := fit_cells hfit hk'
        refine lift _ _ _ _ (run_loadVar_agg hk' hn (info_of_underlying hd) fun j v hv => ?_)
        have := listAt_spec (vs := cs') (by simpa [Value.cells] using hl) j v hv
        exact (box_cell hb hx (by simpa using this)).2
    · exact h.elim
  · rename_i b o
    obtain ⟨hd, h⟩ := typed_spec h
    split at h
    · rename_i k hk
      obtain ⟨v, ⟨hl, hf⟩, _⟩ := LK.ex_spec h
      refine ⟨_, hf, trivial, fun w hs _ => ?_⟩
      exact lift _ _ _ _ (run_loadVar_one hk hd (hs.cell hl))
    · rename_i hk
      obtain ⟨v, ⟨hl, hf⟩, hfit⟩ := K1.ex_spec h
      refine ⟨_, hf, trivial, fun w hs _ => ?_⟩
      have hk' : ∀ lk, k1Of C.P ty ≠ .one lk := fun lk h => hk lk h
      obtain ⟨cs', rfl, hn⟩ := fit_cells hfit hk'
      refine lift _ _ _ _ (run_loadVar_agg hk' hn (info_of_underlying hd) fun j v hv => ?_)
      have := cellsAt_spec (vs := cs') (by simpa [Value.cells] using hl) j v hv
      exact hs.cell (by simpa using this)
  · exact h.elim

/-! ### Addresses -/
theorem fieldAddrV_sound (s : TypeId) (fld : Nat) (st : St) (f : SV → Prop) (x : SV) (hx : x.wf st.own.length) (h : fieldAddrV C s fld f x) : ∃ r, f r ∧ Gives C.P st.own (Instr.fieldAt s (x.val st.own) fld) r := by
  unfold fieldAddrV at h
  split at h
  · rename_i fs hu
    split at h
    · rename_i fd hfd
      split at h
      · exact h.elim
      · rename_i hn
        have hi : (C.P.info? fd.type).isSome = true := by
          cases hi : C.P.info? fd.type with
          | none => simp [Program.cellsOf, hi] at hn
          | some i => rfl
        obtain ⟨i, hi⟩ := Option.isSome_iff_exists.1 hi
        have hs : i.size ≠ 0 := by simpa [Program.cellsOf, hi] using hn
        have key : ∀ (b o : Nat) (w : World), (Instr.fieldAt s (.pointer (some ⟨b, o, none⟩)) fld).run C.P w = .ok (.pointer (some ⟨b, o + fd.offset, none⟩)) w := fun b o w => by
          simp [Instr.fieldAt, run_underlying hu, hfd, Instr.sureAddr, fieldPlace, sizeOf, typeInfo, hi, hs, addr_add]
        split at h
        · exact ⟨_, h, hx, fun w => key _ _ w⟩
        · exact ⟨_, h, hx, fun w => key _ _ w⟩
        · exact ⟨_, h, trivial, fun w => key _ _ w⟩
        · exact h.elim
    · exact h.elim
  · exact h.elim
theorem run_sizeOf' {P : Program} {t : TypeId} (h : (P.info? t).isSome = true) (w : World) : (sizeOf t).run P w = .ok (P.cellsOf t) w := by
  obtain ⟨i, hi⟩ := Option.isSome_iff_exists.1 h
  simp [sizeOf, typeInfo, hi, Program.cellsOf]
theorem numeral_eval {a : Act} {x : Operand} {m : Nat} (h : numeral x = some m) : ∃ k, a.eval x = .int k (m : Int) := by
  unfold numeral at h
  split at h
  · obtain rfl := Option.some.inj h; exact ⟨_, rfl⟩
  · cases h
theorem sized_spec {t : TypeId} {f : Prop} (h : sized C t f) : (C.P.info? t).isSome = true ∧ f := by
  unfold sized at h
  split at h
  · rename_i d e; exact ⟨by rw [e]; rfl, h⟩
  · exact h.elim
theorem indexAddrV_sound (t : TypeId) (ixo : Operand) (st : St) (f : SV → Prop) (x ix : SV) (hx : x.wf st.own.length) (h : indexAddrV C t ixo f x ix)
    (hn : ∀ m, numeral ixo = some m → ∃ k, ix.val st.own = .int k (m : Int)) :
    ∃ r, f r ∧ Gives C.P st.own (Instr.indexAt t (x.val st.own) (ix.val st.own)) r := by
  unfold indexAddrV at h
  split at h
  · rename_i e hu
    obtain ⟨hi, h⟩ := sized_spec h
    split at h
    · rename_i a n c k i
      obtain ⟨b, o, rfl, h0, h1, hf⟩ := h
      refine ⟨_, hf, trivial, fun w => ?_⟩
      simp [SV.val, Instr.indexAt, asIntOf, run_underlying hu, h0, h1, run_sizeOf' hi, addr_add]
    · exact h.elim
  · rename_i n e hu
    obtain ⟨hi, h⟩ := sized_spec h
    have key : ∀ (b o : Nat) (k : IntKind) (i : Int) (w : World), 0 ≤ i → i < n → (Instr.indexAt t (.pointer (some ⟨b, o, none⟩)) (.int k i)).run C.P w = .ok (.pointer (some ⟨b, o + i.toNat * C.P.cellsOf e, none⟩)) w := fun b o k i w h0 h1 => by
      simp [Instr.indexAt, asIntOf, run_underlying hu, Instr.sureAddr, h0, h1, run_sizeOf' hi, addr_add]
    split at h
    · rename_i m hm
      obtain ⟨k, hk⟩ := hn m hm
      split at h
      · rename_i hlt
        have key' : ∀ (b o : Nat) (w : World), (Instr.indexAt t (.pointer (some ⟨b, o, none⟩)) (ix.val st.own)).run C.P w = .ok (.pointer (some ⟨b, o + m * C.P.cellsOf e, none⟩)) w := fun b o w => by
          rw [hk, key b o k m w (by omega) (by omega)]
          simp
        split at h
        · exact ⟨_, h, hx, fun w => key' _ _ w⟩
        · exact ⟨_, h, hx, fun w => key' _ _ w⟩
        · exact ⟨_, h, trivial, fun w => key' _ _ w⟩
        · exact h.elim
      · exact h.elim
    · split at h
      · exact ⟨_, h.2.2, hx, fun w => key _ _ _ _ w h.1 h.2.1⟩
      · exact ⟨_, h.2.2, hx, fun w => key _ _ _ _ w h.1 h.2.1⟩
      · exact ⟨_, h.2.2, trivial, fun w => key _ _ _ _ w h.1 h.2.1⟩
      · exact h.elim
  · exact h.elim

/-! ### Parts -/
theorem run_isAgg_one {P : Program} {ty : TypeId} {lk : LK} (hk : k1Of P ty = .one lk) (hd : (P.underlying ty).isSome = true) (w : World) : (isAgg ty).run P w = .ok false w := by
  obtain ⟨d, hd⟩ := Option.isSome_iff_exists.1 hd
  unfold isAgg
  rw [Sem.run_bind, run_underlying hd w]
  unfold k1Of at hk
  rw [hd] at hk
  cases d <;> simp_all
  split at hk <;> simp at hk
theorem run_isAgg_agg {P : Program} {ty : TypeId} (hk : ∀ lk, k1Of P ty ≠ .one lk) (w : World) : (isAgg ty).run P w = .ok true w := by
  cases hd : P.underlying ty with
  | none => exact absurd (by simp [k1Of, hd]) (hk (lkOf P ty))
  | some d =>
    unfold isAgg
    rw [Sem.run_bind, run_underlying hd w]
    cases d with
    | struct fs => rfl
    | array n e => rfl
    | _ => exact absurd (by simp [k1Of, hd]) (hk (lkOf P ty))
theorem partV_sound (t : TypeId) (st : St) (cs : List Value) (off : Nat) (f : SV → Prop) (h : partV C t cs off f) : ∃ r, f r ∧ Gives C.P st.own (part t cs.toArray off) r := by
  unfold partV at h
  obtain ⟨hd, h⟩ := typed_spec h
  split at h
  · rename_i lk hk
    split at h
    · rename_i v hv
      exact ⟨_, h, trivial, fun w => by simp [part, run_isAgg_one hk hd, hv, SV.val]⟩
    · exact h.elim
  · rename_i hk
    refine ⟨_, h, trivial, fun w => ?_⟩
    have e : (cs.toArray.extract off (off + C.P.cellsOf t)) = ((cs.drop off).take (C.P.cellsOf t)).toArray := by
      rw [List.extract_toArray]
      simp [List.extract]
    simp [part, run_isAgg_agg (fun lk h => hk lk h), run_sizeOf' (info_of_underlying hd), e, SV.val]
theorem fieldV_sound (t : TypeId) (fld : Nat) (st : St) (f : SV → Prop) (x : SV) (h : fieldV C t fld f x) : ∃ r, f r ∧ Gives C.P st.own (Instr.field t (x.val st.own) fld) r := by
  unfold fieldV at h
  split at h
  · rename_i fs cs hu
    split at h
    · rename_i fd hfd
      obtain ⟨r, hf, hw, hr⟩ := partV_sound fd.type st cs.toList fd.offset f h
      refine ⟨r, hf, hw, fun w => ?_⟩
      have := hr w
      simp at this
      simp [Instr.field, run_underlying hu, hfd, asAgg, SV.val, this]
    · exact h.elim
  · exact h.elim
theorem indexV_sound (t rty : TypeId) (st : St) (f : SV → Prop) (x ix : SV) (h : indexV C t rty f x ix) : ∃ r, f r ∧ Gives C.P st.own (Instr.index t (x.val st.own) (ix.val st.own)) r := by
  unfold indexV at h
  split at h
  · rename_i n e cs k i hu
    obtain ⟨hd, h⟩ := typed_spec h
    split at h
    · rename_i lk hk
      obtain ⟨h0, h1, h⟩ := h
      obtain ⟨v, ⟨hc, hf⟩, _⟩ := LK.ex_spec h
      refine ⟨_, hf, trivial, fun w => ?_⟩
      have hc' : cs[i.toNat * C.P.cellsOf e]? = some v := by simpa using hc
      simp [Instr.index, SV.val, asIntOf, run_underlying hu, h0, h1, run_sizeOf' (info_of_underlying hd), part, run_isAgg_one hk hd, hc']
    · exact h.elim
  · rename_i s k i hu
    obtain ⟨v, ⟨hr, hf⟩, _⟩ := K1.ex_spec h
    exact ⟨_, hf, trivial, hr⟩
  · exact h.elim

/-! ### Building -/
theorem valsOf_sound {nt : Nat} {st : St} {a : Act} (h : EnvOk nt st.env st.own a) : ∀ {ps : List (Nat × Operand)} {vs : List (Nat × Value)}, valsOf st ps = some vs → ps.map (fun p => (p.1, a.eval p.2)) = vs
  | [], vs, hv => by simp [valsOf] at hv; subst hv; rfl
  | (i, x) :: r, vs, hv => by
    simp only [valsOf] at hv
    split at hv
    · rename_i s l hs hl
      obtain rfl := Option.some.inj hv
      simp [valsOf_sound h hl, (get_sound h hs).1]
    · cases hv
theorem foldl_setRange : ∀ (vs : List Value) (off i : Nat) (cells : List Value),
    (vs.zipIdx i).foldl (fun cs (x : Value × Nat) => cs.setIfInBounds (off + x.2) x.1) cells.toArray = (setRange cells (off + i) vs).toArray
  | [], off, i, cells => rfl
  | v :: vs, off, i, cells => by
    simp only [List.zipIdx_cons, List.foldl_cons, setRange]
    rw [List.setIfInBounds_toArray, foldl_setRange vs off (i + 1)]
    rfl
theorem setRange_length : ∀ (vs : List Value) (off : Nat) (cells : List Value), (setRange cells off vs).length = cells.length
  | [], _, _ => rfl
  | v :: vs, off, cells => by simp [setRange, setRange_length vs]
theorem fill_eq (place : Nat → Option (Nat × Nat)) : ∀ (parts : List (Nat × Value)) (cells out : List Value), fillL place cells parts = some out → Instr.fill place cells.toArray parts = some out.toArray
  | [], cells, out, h => by simp [fillL] at h; subst h; rfl
  | (i, v) :: rest, cells, out, h => by
    simp only [fillL] at h
    unfold Instr.fill
    split at h
    · cases h
    · rename_i off size hp
      split at h
      · rename_i hc
        have e1 : v.cells.size = size := by simpa using hc.1
        have e2 : ¬ (cells.length < off + size) := by omega
        have := fill_eq place rest _ _ h
        have hf := foldl_setRange v.cells.toList off 0 cells
        simp only [Nat.add_zero] at hf
        rw [hp]
        simp only [e1, ne_eq, not_true_eq_false, decide_false, Bool.false_or, List.size_toArray, gt_iff_lt, e2, Bool.false_eq_true, if_false]
        rw [← this, ← hf]
        congr 1
        rw [← Array.foldl_toList]
        simp
      · cases h
theorem placesOf_spec {P : Program} : ∀ {fs : List Field} {l : List (Nat × Nat)}, placesOf P fs = some l → fs.mapM (fun f => (P.info? f.type).map fun i => (f.offset, i.size)) = some l
  | [], l, h => by simp [placesOf] at h; subst h; rfl
  | fd :: r, l, h => by
    simp only [placesOf] at h
    split at h
    · rename_i i l' hi hl
      obtain rfl := Option.some.inj h
      simp [List.mapM_cons, hi, placesOf_spec hl]
    · cases h
theorem buildV_sound (t : TypeId) (parts : Array (Nat × Operand)) (st : St) (f : SV → Prop) (h : buildV C t parts.toList st f) :
    ∃ r, f r ∧ ∀ a : Act, EnvOk C.nt st.env st.own a → Gives C.P st.own (Instr.build t (parts.map fun (i, x) => (i, a.eval x))) r := by
  unfold buildV at h
  split at h
  · rename_i z vs hz hvs
    have hz' : ∃ it zv, C.P.info? t = some it ∧ it.zero = some zv ∧ zv.cells.toList = z := by
      unfold zeroCellsOf at hz
      cases hi : C.P.info? t with
      | none => simp [hi] at hz
      | some it =>
        cases hzz : it.zero with
        | none => simp [hi, hzz] at hz
        | some zv => exact ⟨it, zv, rfl, hzz, by simpa [hi, hzz] using hz⟩
    obtain ⟨it, zv, hit, hzz, rfl⟩ := hz'
    have hev : ∀ a : Act, EnvOk C.nt st.env st.own a → (parts.map fun (i, x) => (i, a.eval x)).toList = vs := fun a ha => by
      rw [Array.toList_map]
      exact valsOf_sound ha hvs
    split at h
    · rename_i fs hu
      split at h
      · rename_i cells hc
        refine ⟨_, h, fun a ha => ⟨trivial, fun w => ?_⟩⟩
        refine run_build w t _ _ ?_
        rw [hev a ha]
        cases hp : placesOf C.P fs.toList with
        | none => simp [hp] at hc
        | some places =>
          simp only [hp, Option.bind_some] at hc
          have hf := fill_eq _ _ _ _ hc
          simp only [Program.built, hit, hu, hzz, placesOf_spec hp]
          simpa using hf
      · exact h.elim
    · rename_i n e hu
      split at h
      · rename_i cells hc
        refine ⟨_, h, fun a ha => ⟨trivial, fun w => ?_⟩⟩
        refine run_build w t _ _ ?_
        rw [hev a ha]
        cases hp : C.P.info? e with
        | none => simp [hp] at hc
        | some ie =>
          simp only [hp, Option.bind_some] at hc
          have hf := fill_eq _ _ _ _ hc
          simp only [Program.built, hit, hu, hzz, hp]
          simpa using hf
      · exact h.elim
    · exact h.elim
  · exact h.elim
end
end Go.Vg
