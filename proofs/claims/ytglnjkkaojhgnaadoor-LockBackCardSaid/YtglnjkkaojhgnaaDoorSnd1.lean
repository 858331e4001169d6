/- Soundness of the computed verification condition: the ground: slots, boxes, worlds, kinds. -/
import Derived.Test.YtglnjkkaojhgnaaDoorVc2
set_option linter.unusedSimpArgs false
set_option linter.unusedVariables false
namespace Go.Vg
open Go

/-! ### Slots -/
def SV.wf (n : Nat) : SV → Prop
  | .loc i _ => i < n
  | .dloc i _ => i < n
  | .mp i => i < n
  | .lst i _ => i < n
  | .fn _ caps => ∀ i ∈ caps, i < n
  | _ => True
/-- The boxes are those that they were, or more: their addresses and types stay. -/
structure OwnExt (own own' : List Bx) : Prop where
  len : own.length ≤ own'.length
  same : ∀ (i : Nat) (x : Bx), own[i]? = some x → ∃ x' : Bx, own'[i]? = some x' ∧ x'.b = x.b ∧ x'.map = x.map ∧ x'.ty = x.ty
theorem OwnExt.refl (own : List Bx) : OwnExt own own := ⟨Nat.le_refl _, fun _ x h => ⟨x, h, rfl, rfl, rfl⟩⟩
theorem OwnExt.trans {a b c : List Bx} (h : OwnExt a b) (k : OwnExt b c) : OwnExt a c :=
  ⟨Nat.le_trans h.len k.len, fun i x hx => by
    obtain ⟨y, hy, e1, e2, e3⟩ := h.same i x hx
    obtain ⟨z, hz, f1, f2, f3⟩ := k.same i y hy
    exact ⟨z, hz, f1.trans e1, f2.trans e2, f3.trans e3⟩⟩
theorem OwnExt.append (own more : List Bx) : OwnExt own (own ++ more) :=
  ⟨by simp, fun i x hx => ⟨x, by rw [List.getElem?_append_left (by have := List.getElem?_eq_some_iff.1 hx; exact this.1)]; exact hx, rfl, rfl, rfl⟩⟩
theorem OwnExt.set {own : List Bx} {i : Nat} {x x' : Bx} (hx : own[i]? = some x) (hb : x'.b = x.b) (hm : x'.map = x.map) (ht : x'.ty = x.ty) : OwnExt own (own.set i x') := by
  refine ⟨by simp, fun j y hy => ?_⟩
  by_cases e : i = j
  · subst e
    rw [hx] at hy
    obtain rfl := Option.some.inj hy
    have hl := (List.getElem?_eq_some_iff.1 hx).1
    exact ⟨x', by simp [hl], hb, hm, ht⟩
  · exact ⟨y, by rw [List.getElem?_set_ne e]; exact hy, rfl, rfl, rfl⟩
theorem boxNo_ext {own own' : List Bx} (h : OwnExt own own') {i : Nat} (hi : i < own.length) : boxNo own' i = boxNo own i := by
  have hx : own[i]? = some own[i] := by simp
  obtain ⟨y, hy, e, _, _⟩ := h.same i _ hx
  simp [boxNo, hy, e, hi]
theorem SV.val_ext {own own' : List Bx} (h : OwnExt own own') {s : SV} (hs : s.wf own.length) : s.val own' = s.val own := by
  cases s with
  | loc i off => simp only [SV.val, boxNo_ext h hs]
  | dloc i off => simp only [SV.val, boxNo_ext h hs]
  | mp i => simp only [SV.val, boxNo_ext h hs]
  | lst i n => simp only [SV.val, boxNo_ext h hs]
  | fn g caps =>
    simp only [SV.val]
    congr 2
    exact List.map_congr_left fun i hi => by rw [boxNo_ext h (hs i hi)]
  | _ => rfl
theorem SV.wf_mono {n m : Nat} (h : n ≤ m) {s : SV} (hs : s.wf n) : s.wf m := by
  cases s with
  | fn g caps => exact fun i hi => Nat.lt_of_lt_of_le (hs i hi) h
  | loc i off => exact Nat.lt_of_lt_of_le hs h
  | dloc i off => exact Nat.lt_of_lt_of_le hs h
  | mp i => exact Nat.lt_of_lt_of_le hs h
  | lst i n => exact Nat.lt_of_lt_of_le hs h
  | _ => trivial

/-- The slots hold what 'env' says. -/
structure EnvOk (nt : Nat) (env : List (Nat × SV)) (own : List Bx) (a : Act) : Prop where
  size : a.tmps.size = nt
  defers : a.defers = []
  at_ : ∀ s sv, look s env = some sv → s < nt ∧ a.tmps.getD s undef = sv.val own ∧ sv.wf own.length
theorem EnvOk.ext {nt : Nat} {env : List (Nat × SV)} {own own' : List Bx} {a : Act} (h : EnvOk nt env own a) (e : OwnExt own own') : EnvOk nt env own' a :=
  ⟨h.size, h.defers, fun s sv hs => by
    obtain ⟨h1, h2, h3⟩ := h.at_ s sv hs
    exact ⟨h1, by rw [SV.val_ext e h3]; exact h2, SV.wf_mono e.len h3⟩⟩
theorem EnvOk.put {nt : Nat} {env : List (Nat × SV)} {own : List Bx} {a : Act} (h : EnvOk nt env own a) {t : Nat} (ht : t < nt) {sv : SV} (hw : sv.wf own.length) :
    EnvOk nt ((t, sv) :: env) own (a.put (some t) (sv.val own)) := by
  refine ⟨by simp [Act.put, h.size], h.defers, fun s sv' hs => ?_⟩
  simp only [look] at hs
  split at hs
  · rename_i e
    subst e
    obtain rfl := Option.some.inj hs
    refine ⟨ht, ?_, hw⟩
    simp [Act.put, h.size, ht]
  · rename_i e
    obtain ⟨h1, h2, h3⟩ := h.at_ s sv' hs
    refine ⟨h1, ?_, h3⟩
    simp only [Act.put, Array.getD_eq_getD_getElem?] at *
    rw [Array.getElem?_setIfInBounds_ne e]
    exact h2
/-- A slot that 'env' says to hold tt does hold true: another spelling of the same value. -/
theorem EnvOk.respell {nt : Nat} {env : List (Nat × SV)} {own : List Bx} {a : Act} (h : EnvOk nt env own a) {t : Nat} {s s' : SV} (hs : look t env = some s) (hv : s'.val own = s.val own) (hw : s'.wf own.length) :
    EnvOk nt ((t, s') :: env) own a := by
  refine ⟨h.size, h.defers, fun u sv hu => ?_⟩
  simp only [look] at hu
  split at hu
  · rename_i e
    subst e
    obtain rfl := Option.some.inj hu
    obtain ⟨h1, h2, _⟩ := h.at_ _ _ hs
    exact ⟨h1, h2.trans hv.symm, hw⟩
  · exact h.at_ u sv hu
theorem look_filter {p : Nat → Bool} {env : List (Nat × SV)} {s : Nat} {sv : SV} (h : look s (env.filter fun x => p x.1) = some sv) : look s env = some sv ∧ p s = true := by
  induction env with
  | nil => simp [look] at h
  | cons x r ih =>
    obtain ⟨t, v⟩ := x
    by_cases hp : p t = true
    · rw [List.filter_cons_of_pos (by simpa using hp)] at h
      simp only [look] at h ⊢
      split at h
      · rename_i e; subst e; exact ⟨by simpa using h, hp⟩
      · rename_i e; rw [if_neg e]; exact ih h
    · rw [List.filter_cons_of_neg (by simpa using hp)] at h
      obtain ⟨h1, h2⟩ := ih h
      refine ⟨?_, h2⟩
      simp only [look]
      rw [if_neg (fun e => hp (by rw [e]; exact h2))]
      exact h1

/-! ### Worlds -/
theorem BelowX.refl (own : List Nat) (w : World) : BelowX own w w := ⟨rfl, rfl, rfl, Nat.le_refl _, fun _ _ _ => rfl⟩
theorem BelowX.trans {own : List Nat} {a b c : World} (h : BelowX own a b) (k : BelowX own b c) : BelowX own a c :=
  ⟨k.os.trans h.os, k.tape.trans h.tape, k.output.trans h.output, Nat.le_trans h.size k.size, fun i hi hn => (k.block i (Nat.lt_of_lt_of_le hi h.size) hn).trans (h.block i hi hn)⟩
theorem BelowX.mono {own own' : List Nat} {a b : World} (h : BelowX own a b) (hs : ∀ k ∈ own, k ∈ own') : BelowX own' a b :=
  ⟨h.os, h.tape, h.output, h.size, fun k hk hn => h.block k hk fun hm => hn (hs k hm)⟩
theorem BelowX.drew (own : List Nat) (w : World) : BelowX own w { w with drawn := w.drawn + 1 } := ⟨rfl, rfl, rfl, Nat.le_refl _, fun _ _ _ => rfl⟩
theorem BelowX.alloc (own : List Nat) (w : World) (o : Obj) : BelowX own w (w.alloc o) :=
  ⟨rfl, rfl, rfl, by simp, fun k hk _ => by show (w.heap.push o)[k]? = _; rw [Array.getElem?_push, if_neg (by omega)]⟩
theorem BelowX.setCell (own : List Nat) (w : World) (p : Addr) (v : Value) (hp : p.block ∈ own ∨ w.heap.size ≤ p.block) : BelowX own w (w.setCell p v) :=
  ⟨rfl, rfl, rfl, by simp [World.setCell], fun k hk hn => heap_setCell_other w p k v (fun e => hp.elim (fun hp => hn (e ▸ hp)) (fun hp => absurd hk (by rw [e]; omega)))⟩
theorem Sees.of_same {H : Heap} {w w' : World} (h : Sees H w) (hb : ∀ b k, H b = some k → w'.heap[b]? = w.heap[b]?) : Sees H w' :=
  fun b k hk => by rw [hb b k hk]; exact h b k hk
theorem KB.sees_lt {k : KB} {w : World} {b : Nat} (h : k.sees w.heap[b]?) : b < w.heap.size := by
  obtain ⟨cur, fr, e, _⟩ := h
  exact (Array.getElem?_eq_some_iff.1 e).1
theorem Sees.lt {H : Heap} {w : World} (h : Sees H w) {b : Nat} {k : KB} (hk : H b = some k) : b < w.heap.size := KB.sees_lt (h b k hk)
theorem Sees.below {H : Heap} {w w' : World} (h : Sees H w) (hb : BelowX [] w w') : Sees H w' :=
  h.of_same fun b _ hk => hb.block b (h.lt hk) (by simp)
theorem Bx.ok_lt {x : Bx} {w : World} (h : x.ok w) : x.b < w.heap.size := by
  unfold Bx.ok at h
  split at h
  · exact (Array.getElem?_eq_some_iff.1 h).1
  · obtain ⟨es, c, e, _⟩ := h; exact (Array.getElem?_eq_some_iff.1 e).1
theorem Bx.ok_same {x : Bx} {w w' : World} (h : x.ok w) (e : w'.heap[x.b]? = w.heap[x.b]?) : x.ok w' := by
  unfold Bx.ok at *
  rw [e]; exact h
theorem BoxesOk.below {own : List Bx} {H : Heap} {w w' : World} (h : BoxesOk own H w) (hb : BelowX [] w w') : BoxesOk own H w' :=
  ⟨fun x hx => Bx.ok_same (h.ok x hx) (hb.block _ (Bx.ok_lt (h.ok x hx)) (by simp)), h.hid, h.apart⟩
theorem Sees.cell {H : Heap} {w : World} (h : Sees H w) {b o : Nat} {v : Value} (hc : H.cell b o = some v) : w.cell? ⟨b, o, none⟩ = some v := by
  unfold Heap.cell at hc
  cases hk : H b with
  | none => simp [hk] at hc
  | some k =>
    simp only [hk, Option.bind_some] at hc
    obtain ⟨cur, fr, e, _, _, hcell⟩ := h b k hk
    simp [World.cell?, e, hcell o v hc]
theorem Next.refl (base : Nat) (H : Heap) : Next base H H := ⟨fun _ _ h => h, fun b k h h' => by rw [h] at h'; cases h'⟩
theorem Next.trans {base : Nat} {a b c : Heap} (h : Next base a b) (k : Next base b c) : Next base a c :=
  ⟨fun x y hx => k.ext x y (h.ext x y hx), fun x y hy hn => by
    cases hb : b x with
    | none => exact k.fresh x y hy hb
    | some z => exact h.fresh x z hb hn⟩
theorem Next.mono {base base' : Nat} {a b : Heap} (h : Next base a b) (hb : base' ≤ base) : Next base' a b :=
  ⟨h.ext, fun x y hx hn => Nat.le_trans hb (h.fresh x y hx hn)⟩

/-! ### Kinds -/
theorem LK.al_spec {k : LK} {f : Value → Prop} (h : k.al f) {v : Value} (hv : k.fit v = true) : f v := by
  cases k <;> cases v <;> simp [LK.fit] at hv <;> first | exact h _ | (subst hv; exact h _) | exact h _ _ _ | exact h.1 | exact h.2 _ _
theorem LK.ex_spec {k : LK} {f : Value → Prop} (h : k.ex f) : ∃ v, f v ∧ k.fit v = true := by
  cases k with
  | int k => obtain ⟨n, hn⟩ := h; exact ⟨_, hn, by simp [LK.fit]⟩
  | bool => obtain ⟨n, hn⟩ := h; exact ⟨_, hn, rfl⟩
  | str => obtain ⟨n, hn⟩ := h; exact ⟨_, hn, rfl⟩
  | slice => obtain ⟨a, n, c, hn⟩ := h; exact ⟨_, hn, rfl⟩
  | iface =>
    rcases h with h | ⟨t, p, h⟩
    · exact ⟨_, h, rfl⟩
    · exact ⟨_, h, rfl⟩
  | any => obtain ⟨n, hn⟩ := h; exact ⟨_, hn, rfl⟩
theorem LK.als_spec : ∀ {ks : List LK} {f : List Value → Prop}, LK.als ks f → ∀ {vs : List Value}, LK.fits ks vs = true → f vs
  | [], _, h, [], _ => h
  | [], _, _, _ :: _, hv => by simp [LK.fits] at hv
  | _ :: _, _, _, [], hv => by simp [LK.fits] at hv
  | k :: ks, f, h, v :: vs, hv => by
    simp only [LK.fits, Bool.and_eq_true] at hv
    exact LK.als_spec (ks := ks) (f := fun vs => f (v :: vs)) (LK.al_spec h hv.1) hv.2
theorem LK.exs_spec : ∀ {ks : List LK} {f : List Value → Prop}, LK.exs ks f → ∃ vs, f vs ∧ LK.fits ks vs = true ∧ vs.length = ks.length
  | [], _, h => ⟨[], h, rfl, rfl⟩
  | k :: ks, f, h => by
    obtain ⟨v, hv, hf⟩ := LK.ex_spec h
    obtain ⟨vs, hvs, hfs, hl⟩ := LK.exs_spec (ks := ks) hv
    exact ⟨v :: vs, hvs, by simp [LK.fits, hf, hfs], by simp [hl]⟩
/-- A value of this kind. -/
def K1.Fit : K1 → Value → Prop
  | .one k, v => k.fit v = true
  | .agg ks, v => ∃ cs : List Value, v = .agg cs.toArray ∧ LK.fits ks cs = true
  | .arr n, v => ∃ cs : List Value, v = .agg cs.toArray ∧ cs.length = n
  | .sym, v => ∃ cs : List Value, v = .agg cs.toArray
inductive Fits : List K1 → List Value → Prop
  | nil : Fits [] []
  | cons {k : K1} {ks : List K1} {v : Value} {vs : List Value} (h : k.Fit v) (t : Fits ks vs) : Fits (k :: ks) (v :: vs)
theorem K1.al_spec {k : K1} {f : Value → Prop} (h : k.al f) {v : Value} (hv : k.Fit v) : f v := by
  cases k with
  | one k => exact LK.al_spec h hv
  | agg ks => obtain ⟨cs, rfl, hf⟩ := hv; exact LK.als_spec (f := fun vs => f (.agg vs.toArray)) h hf
  | arr n => obtain ⟨cs, rfl, hl⟩ := hv; exact h cs hl
  | sym => obtain ⟨cs, rfl⟩ := hv; exact h cs
theorem K1.als_spec {ks : List K1} {vs : List Value} (hv : Fits ks vs) : ∀ {f : List Value → Prop}, K1.als ks f → f vs := by
  induction hv with
  | nil => exact fun h => h
  | cons h _ ih => exact fun {f} hf => ih (f := fun vs => f (_ :: vs)) (K1.al_spec hf h)
theorem K1.ex_spec {k : K1} {f : Value → Prop} (h : k.ex f) : ∃ v, f v ∧ k.Fit v := by
  cases k with
  | one k => exact LK.ex_spec h
  | agg ks => obtain ⟨vs, h1, h2, _⟩ := LK.exs_spec h; exact ⟨_, h1, vs, rfl, h2⟩
  | arr n => obtain ⟨cs, hl, hf⟩ := h; exact ⟨_, hf, cs, rfl, hl⟩
  | sym => obtain ⟨cs, hf⟩ := h; exact ⟨_, hf, cs, rfl⟩
theorem K1.exs_spec : ∀ {ks : List K1} {f : List Value → Prop}, K1.exs ks f → ∃ vs, f vs ∧ Fits ks vs
  | [], _, h => ⟨[], h, .nil⟩
  | k :: ks, f, h => by
    obtain ⟨v, hv, hf⟩ := K1.ex_spec h
    obtain ⟨vs, hvs, hfs⟩ := K1.exs_spec (ks := ks) hv
    exact ⟨v :: vs, hvs, .cons hf hfs⟩
theorem K2.ex_spec {k : K2} {f : Value → Prop} (h : k.ex f) : ∃ v, f v := by
  cases k with
  | k1 k => obtain ⟨v, hv, _⟩ := K1.ex_spec h; exact ⟨v, hv⟩
  | tup ks => obtain ⟨vs, hvs, _⟩ := K1.exs_spec h; exact ⟨_, hvs⟩
theorem fitP_spec : ∀ {ks : List K1} {vs : List Value} {f : Prop}, fitP ks vs f → Fits ks vs ∧ f
  | [], [], _, h => ⟨.nil, h⟩
  | [], _ :: _, _, h => h.elim
  | _ :: _, [], _, h => h.elim
  | .one k :: ks, v :: vs, f, h => by
    simp only [fitP] at h
    split at h
    · rename_i hk; obtain ⟨h1, h2⟩ := fitP_spec h; exact ⟨.cons hk h1, h2⟩
    · exact h.elim
  | .agg k :: ks, v :: vs, f, h => by
    cases v with
    | agg cs =>
      simp only [fitP] at h
      split at h
      · rename_i hk; obtain ⟨h1, h2⟩ := fitP_spec h; exact ⟨.cons ⟨cs.toList, by simp, hk⟩ h1, h2⟩
      · exact h.elim
    | _ => exact h.elim
  | .arr n :: ks, v :: vs, f, h => by
    cases v with
    | agg cs =>
      simp only [fitP] at h
      obtain ⟨h1, h2⟩ := fitP_spec h.2
      exact ⟨.cons ⟨cs.toList, by simp, h.1⟩ h1, h2⟩
    | _ => exact h.elim
  | .sym :: ks, v :: vs, f, h => by
    cases v with
    | agg cs =>
      simp only [fitP] at h
      obtain ⟨h1, h2⟩ := fitP_spec h
      exact ⟨.cons ⟨cs.toList, by simp⟩ h1, h2⟩
    | _ => exact h.elim
end Go.Vg
