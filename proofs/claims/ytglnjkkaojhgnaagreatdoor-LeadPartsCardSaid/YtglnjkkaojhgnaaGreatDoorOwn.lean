/- What is proved here: slices of the call's own whose elements hold slices themselves. -/
import Derived.Test.YtglnjkkaojhgnaaGreatDoorRp4
set_option linter.unusedSimpArgs false
set_option linter.unusedVariables false
namespace Go.Vg
open Go
/-! ### Rows, each for its element -/
def AllR {α : Type} (R : Rep α) (H : Heap) : List (List Value) → List α → Prop
  | [], [] => True
  | r :: rs, x :: xs => R H r x ∧ AllR R H rs xs
  | _, _ => False
theorem AllR.len {α : Type} {R : Rep α} {H : Heap} : ∀ {rs : List (List Value)} {xs : List α}, AllR R H rs xs → rs.length = xs.length
  | [], [], _ => rfl
  | _ :: _, _ :: _, h => by simp [AllR.len h.2]
theorem AllR.mono {α : Type} {R : Rep α} (hR : R.Mono) {H H' : Heap} (e : Ext H H') : ∀ {rs : List (List Value)} {xs : List α}, AllR R H rs xs → AllR R H' rs xs
  | [], [], _ => trivial
  | _ :: _, _ :: _, h => ⟨hR _ _ _ _ e h.1, AllR.mono hR e h.2⟩
theorem AllR.append {α : Type} {R : Rep α} {H : Heap} {ss : List (List Value)} {ys : List α} (k : AllR R H ss ys) : ∀ {rs : List (List Value)} {xs : List α}, AllR R H rs xs → AllR R H (rs ++ ss) (xs ++ ys)
  | [], [], _ => k
  | _ :: _, _ :: _, h => ⟨h.1, AllR.append k h.2⟩
theorem AllR.one {α : Type} {R : Rep α} {H : Heap} {r : List Value} {x : α} (h : R H r x) : AllR R H [r] [x] := ⟨h, trivial⟩
theorem AllR.get {α : Type} {R : Rep α} {H : Heap} : ∀ {rs : List (List Value)} {xs : List α}, AllR R H rs xs → ∀ {i : Nat} {r : List Value} {x : α}, rs[i]? = some r → xs[i]? = some x → R H r x
  | [], [], _, i, r, x, h, _ => by simp at h
  | _ :: _, _ :: _, h, 0, r, x, h1, h2 => by simp at h1 h2; subst h1 h2; exact h.1
  | _ :: _, _ :: _, h, i + 1, r, x, h1, h2 => AllR.get h.2 (i := i) (by simpa using h1) (by simpa using h2)
theorem AllR.drop {α : Type} {R : Rep α} {H : Heap} : ∀ {rs : List (List Value)} {xs : List α} (k : Nat), AllR R H rs xs → AllR R H (rs.drop k) (xs.drop k)
  | [], [], k, _ => by simp [AllR]
  | _ :: _, _ :: _, 0, h => h
  | _ :: _, _ :: _, k + 1, h => AllR.drop k h.2
theorem AllR.take {α : Type} {R : Rep α} {H : Heap} : ∀ {rs : List (List Value)} {xs : List α} (k : Nat), AllR R H rs xs → AllR R H (rs.take k) (xs.take k)
  | [], [], k, _ => by simp [AllR]
  | _ :: _, _ :: _, 0, h => by simp [AllR]
  | _ :: _, _ :: _, k + 1, h => ⟨h.1, AllR.take k h.2⟩
theorem AllR.enc {α : Type} {enc : α → List Value} {H : Heap} : ∀ {xs : List α}, AllR (REnc enc) H (xs.map enc) xs
  | [] => trivial
  | _ :: _ => ⟨rfl, AllR.enc⟩
theorem flat_wid {sz : Nat} : ∀ {rs : List (List Value)}, (∀ r ∈ rs, r.length = sz) → rs.flatten.length = rs.length * sz
  | [], _ => by simp
  | r :: rs, h => by
    rw [List.flatten_cons, List.length_append, flat_wid fun x hx => h x (List.mem_cons_of_mem _ hx), h r List.mem_cons_self, List.length_cons, Nat.succ_mul]; omega
theorem setRange_app {xs vs ys : List Value} {o : Nat} (h : o + vs.length ≤ ys.length) : setRange (xs ++ ys) (xs.length + o) vs = xs ++ setRange ys o vs := by
  rw [setRange_eq _ _ _ (by simp; omega), setRange_eq _ _ _ h, List.take_length_add_append, show xs.length + o + vs.length = xs.length + (o + vs.length) from by omega, List.drop_length_add_append]
  simp only [List.append_assoc]
theorem setRange_left {ys vs zs : List Value} {o : Nat} (h : o + vs.length ≤ ys.length) : setRange (ys ++ zs) o vs = setRange ys o vs ++ zs := by
  rw [setRange_eq _ _ _ (by simp; omega), setRange_eq _ _ _ h, List.take_append_of_le_length (by omega), List.drop_append_of_le_length h]
  simp only [List.append_assoc]
/-- A store into one row. -/
theorem rows_set {sz : Nat} {rs : List (List Value)} {r : List Value} {ss : List (List Value)} (hw : ∀ x ∈ rs, x.length = sz) (hr : r.length = sz) {k : Nat} {vs : List Value} (hk : k + vs.length ≤ sz) :
    setRange (rs ++ r :: ss).flatten (rs.length * sz + k) vs = (rs ++ setRange r k vs :: ss).flatten := by
  rw [List.flatten_append, List.flatten_cons, ← flat_wid hw, setRange_app (by simp; omega), setRange_left (by omega), List.flatten_append, List.flatten_cons]
/-! ### What is known of an element of a slice -/
theorem Sl.rows {α : Type} {R : Rep α} {sz n : Nat} {H : Heap} {a : Option Addr} {xs : List α} (hlen : ∀ {H : Heap} {r : List Value} {x : α}, R H r x → r.length = sz) (h : Sl R sz H a n xs) :
    ∃ rs : List (List Value), (∀ r ∈ rs, r.length = sz) ∧ AllR R H rs xs ∧ rs.flatten.length = n * sz ∧ (n = 0 ∨ ∃ (b o : Nat), a = some ⟨b, o, none⟩ ∧ cellsAt H b o 0 rs.flatten) := by
  have key : ∀ (b o : Nat) (ys : List α), (∀ (i : Nat) (x : α), ys[i]? = some x → ∃ r, R H r x ∧ ∀ (j : Nat) (v : Value), r[j]? = some v → H.cell b (o + i * sz + j) = some v) →
      ∃ rs : List (List Value), (∀ r ∈ rs, r.length = sz) ∧ AllR R H rs ys ∧ ∀ (j : Nat) v, rs.flatten[j]? = some v → H.cell b (o + j) = some v := by
    intro b o ys
    induction ys generalizing o with
    | nil => intro _; exact ⟨[], by simp, trivial, by simp⟩
    | cons y ys ih =>
      intro hc
      obtain ⟨r, hr, hv⟩ := hc 0 y rfl
      obtain ⟨rs, h1, h2, h3⟩ := ih (o + sz) fun i x hx => by
        obtain ⟨r', hr', hv'⟩ := hc (i + 1) x (by simpa using hx)
        refine ⟨r', hr', fun j v hj => ?_⟩
        have := hv' j v hj
        rw [Nat.succ_mul] at this
        rw [show o + sz + i * sz + j = o + (i * sz + sz) + j from by omega]; exact this
      have hl := hlen hr
      refine ⟨r :: rs, fun x hx => by rcases List.mem_cons.1 hx with rfl | hx; exact hl; exact h1 x hx, ⟨hr, h2⟩, fun j v hj => ?_⟩
      rw [List.flatten_cons] at hj
      by_cases hjl : j < r.length
      · rw [List.getElem?_append_left hjl] at hj
        have := hv j v hj
        simpa using this
      · rw [List.getElem?_append_right (by omega)] at hj
        have := h3 _ v hj
        rw [show o + sz + (j - r.length) = o + j from by omega] at this
        exact this
  by_cases hn : n = 0
  · subst hn
    have : xs = [] := List.eq_nil_of_length_eq_zero h.len
    subst this
    exact ⟨[], by simp, trivial, by simp, .inl rfl⟩
  · obtain ⟨b, o, ha, hc⟩ := h.at_ (by omega)
    obtain ⟨rs, h1, h2, h3⟩ := key b o xs hc
    refine ⟨rs, h1, h2, by rw [flat_wid h1, h2.len, h.len], .inr ⟨b, o, ha, cellsAt_of _ 0 fun j v hj => by rw [Nat.zero_add]; exact h3 j v hj⟩⟩
theorem cellsAt_ext {H H' : Heap} (e : Ext H H') {b o : Nat} : ∀ {cs : List Value} {i : Nat}, cellsAt H b o i cs → cellsAt H' b o i cs
  | [], _, _ => trivial
  | _ :: _, _, h => ⟨Heap.cell_next e h.1, cellsAt_ext e h.2⟩
theorem allOne_rows {α : Type} {R : Rep α} {H : Heap} (h : ∀ {r : List Value} {x : α}, R H r x → allOne r = true) : ∀ {rs : List (List Value)} {xs : List α}, AllR R H rs xs → allOne rs.flatten = true
  | [], [], _ => rfl
  | _ :: _, _ :: _, k => by rw [List.flatten_cons]; exact allOne_append _ _ (h k.1) (allOne_rows h k.2)
/-! ### Slices of the call's own -/
/-- What is known in H' and wasn't in H. -/
def newOf (H H' : Heap) : Heap := fun x => match H x with | none => H' x | some _ => none
def Heap.plus (G K : Heap) : Heap := fun x => match G x with | some k => some k | none => K x
/-- All of it is new. -/
def Away (H G : Heap) : Prop := ∀ x k, G x = some k → H x = none
theorem newOf_ext {H H' : Heap} : Ext (newOf H H') H' := fun x k h => by
  unfold newOf at h; split at h
  · exact h
  · cases h
theorem newOf_away {H H' : Heap} : Away H (newOf H H') := fun x k h => by
  unfold newOf at h; split at h
  · assumption
  · cases h
theorem Away.sub {H0 H G : Heap} (h : Away H G) (e : Ext H0 H) : Away H0 G := fun x k hx => by
  cases h0 : H0 x with
  | none => rfl
  | some k0 => have := h x k hx; rw [e x k0 h0] at this; cases this
theorem plus_left {G K : Heap} : Ext G (G.plus K) := fun x k h => by unfold Heap.plus; rw [h]
theorem plus_right {G K : Heap} (h : ∀ x k, K x = some k → ∀ k', G x = some k' → k' = k) : Ext K (G.plus K) := fun x k hk => by
  unfold Heap.plus
  cases hg : G x with
  | none => exact hk
  | some k' => rw [h x k hk k' hg]
theorem plus_sub {G K H : Heap} (h1 : Ext G H) (h2 : Ext K H) : Ext (G.plus K) H := fun x k hx => by
  unfold Heap.plus at hx
  cases hg : G x with
  | none => rw [hg] at hx; exact h2 x k hx
  | some k' => rw [hg] at hx; cases hx; exact h1 x _ hg
theorem plus_away {G K H : Heap} (h1 : Away H G) (h2 : Away H K) : Away H (G.plus K) := fun x k hx => by
  unfold Heap.plus at hx
  cases hg : G x with
  | none => rw [hg] at hx; exact h2 x k hx
  | some k' => exact h1 x _ hg
structure OwnSl {α : Type} (R : Rep α) (sz : Nat) (e : TypeId) (base : Nat) (G H : Heap) (a : Option Addr) (n c : Nat) (rows : List (List Value)) (xs : List α) : Prop where
  row : Row base H e sz a n c rows.flatten
  wid : ∀ r ∈ rows, r.length = sz
  all : AllR R G rows xs
  sub : Ext G H
  clear : c ≠ 0 → ∀ g, a = some ⟨g, 0, none⟩ → G g = none
/-- The same, made by a call that began at H and is at H' now. -/
structure NewSl {α : Type} (R : Rep α) (sz : Nat) (e : TypeId) (H G H' : Heap) (a : Option Addr) (n c : Nat) (rows : List (List Value)) (xs : List α) : Prop where
  row : Fresh H H' e sz a n c rows.flatten
  wid : ∀ r ∈ rows, r.length = sz
  all : AllR R G rows xs
  sub : Ext G H'
  clear : c ≠ 0 → ∀ g, a = some ⟨g, 0, none⟩ → G g = none
  away : Away H G
section
variable {α : Type} {R : Rep α} {sz : Nat} {e : TypeId} {base : Nat} {G H H' : Heap} {a a' : Option Addr} {n c n' c' : Nat} {rows : List (List Value)} {xs : List α}
theorem OwnSl.new (h : OwnSl R sz e base G H' a n c rows xs) (hb : ∀ b k, H b = some k → b < base) (ha : Away H G) : NewSl R sz e H G H' a n c rows xs := ⟨h.row.fresh hb, h.wid, h.all, h.sub, h.clear, ha⟩
theorem NewSl.own (h : NewSl R sz e H G H' a n c rows xs) (hN : Next base H H') : OwnSl R sz e base G H' a n c rows xs := ⟨h.row.row hN, h.wid, h.all, h.sub, h.clear⟩
theorem OwnSl.rlen (h : OwnSl R sz e base G H a n c rows xs) (h0 : 0 < sz) : rows.length = n ∧ xs.length = n := by
  have := h.row.1
  rw [flat_wid h.wid] at this
  have := Nat.eq_of_mul_eq_mul_right h0 this
  exact ⟨this, by rw [← h.all.len]; exact this⟩
theorem OwnSl.sl (hR : R.Mono) (h0 : 0 < sz) (h : OwnSl R sz e base G H a n c rows xs) : Sl R sz H a n xs :=
  Sl.of_has (has_of_row h.row rfl h.wid (h.rlen h0).1) h.all.len fun i r x hr hx => hR _ _ _ _ h.sub (h.all.get hr hx)
theorem OwnSl.ext (h : OwnSl R sz e base G H a n c rows xs) (x : Ext H H') : OwnSl R sz e base G H' a n c rows xs := ⟨h.row.ext x, h.wid, h.all, h.sub.trans x, h.clear⟩
theorem OwnSl.block (h : OwnSl R sz e base G H a n c rows xs) (hc : c ≠ 0) : ∃ g k, a = some ⟨g, 0, none⟩ ∧ H g = some k := by
  rcases h.row.2.2.2 with ⟨_, h1⟩ | ⟨g, k, h1, h2, h3, _⟩
  · exact absurd h1 hc
  · exact ⟨g, k, h1, h3⟩
/-- What was made since may be used too. -/
theorem OwnSl.grow (hR : R.Mono) (h : OwnSl R sz e base G H a n c rows xs) (x : Ext H H') : OwnSl R sz e base (G.plus (newOf H H')) H' a n c rows xs :=
  ⟨h.row.ext x, h.wid, h.all.mono hR plus_left, plus_sub (h.sub.trans x) newOf_ext, fun hc g hg => by
    obtain ⟨g', k, h1, h2⟩ := h.block hc
    obtain rfl : g = g' := by rw [hg] at h1; simpa using h1
    unfold Heap.plus newOf
    rw [h.clear hc g hg, h2]⟩
theorem new_in_grow (h : Ext G H) : Ext (newOf H H') (G.plus (newOf H H')) := plus_right fun x k hk k' hg => by
  have := newOf_away x k hk
  rw [h x k' hg] at this; cases this
/-- Rows of a call's result live in what is new. -/
theorem NewSl.all_new (hR : R.Mono) (h : NewSl R sz e H G H' a n c rows xs) : AllR R (newOf H H') rows xs := h.all.mono hR fun x k hx => by
  unfold newOf
  rw [h.away x k hx]; exact h.sub x k hx
/-- Behind an append. -/
theorem OwnSl.grew {rows' : List (List Value)} {ys : List α} (h : OwnSl R sz e base G H a n c rows xs) {nn : Nat} (hg : Grew base H H' a c a' c' nn) (hr : Row base H' e sz a' n' c' (rows.flatten ++ rows'.flatten)) (hw : ∀ r ∈ rows', r.length = sz) (ha : AllR R G rows' ys) :
    OwnSl R sz e base G H' a' n' c' (rows ++ rows') (xs ++ ys) :=
  ⟨by rw [List.flatten_append]; exact hr, fun r hr => by rcases List.mem_append.1 hr with hr | hr; exact h.wid r hr; exact hw r hr, ha.append h.all, fun x k hx => hg.keep x k (h.sub x k hx) (by
    by_cases hc : c = 0
    · exact .inl hc
    · exact .inr fun e => by have := h.clear hc x e; rw [hx] at this; cases this), fun hc g hga => by
    rcases hg.place hc g hga with h1 | ⟨h1, h2⟩
    · cases hG : G g with
      | none => rfl
      | some k => rw [h.sub g k hG] at h1; cases h1
    · exact h.clear h2 g (h1 ▸ hga)⟩
theorem NewSl.sl (hR : R.Mono) (h0 : 0 < sz) (h : NewSl R sz e H G H' a n c rows xs) (hN : Next base H H') : Sl R sz H' a n xs := (h.own hN).sl hR h0
theorem OwnSl.zero (hn : Ext G H) : OwnSl R sz e base G H a 0 0 [] ([] : List α) := ⟨Row.zero, by simp, trivial, hn, fun h => absurd rfl h⟩
end
end Go.Vg
