/- Plain laws of releases and mail; how cells stand for mail. -/
import Derived.Test.YtonlnlkkokigiaaC9
import Derived.Test.YtonlnlkkokigiaaOwn
set_option linter.unusedSimpArgs false
set_option linter.unusedVariables false
namespace Go.Vg
open Go
structure Rls where
  id : Int
  lock : List Pin
  deriving DecidableEq
structure Mail where
  agent : Int
  try_ : Int
  rep : Bool
  good : Bool
  rel : Rls
  deriving DecidableEq
def relErr (r : Rls) : Int := if r.id < 1 ∨ 6 < r.id then 3 else lockCheck r.lock
def noRel (r : Rls) : Prop := r.id = 0 ∧ r.lock = []
instance (r : Rls) : Decidable (noRel r) := by unfold noRel; infer_instance
def badWho (m : Mail) : Prop := m.agent < 0 ∨ 6 ≤ m.agent ∨ m.try_ < 1 ∨ 200 < m.try_
instance (m : Mail) : Decidable (badWho m) := by unfold badWho; infer_instance
def badForm (m : Mail) : Prop := (m.rep = true ∧ ¬ noRel m.rel) ∨ (m.rep = false ∧ m.good = true)
instance (m : Mail) : Decidable (badForm m) := by unfold badForm; infer_instance
def mailsFrom : List Mail → Int
  | [] => 0
  | m :: q => if badWho m then 3 else if badForm m then 4 else if m.rep = true then mailsFrom q else if relErr m.rel ≠ 0 then relErr m.rel else mailsFrom q
def mailsCheck (l : List Mail) : Int := if 40 < l.length then 2 else mailsFrom l
theorem mailsFrom_zero : ∀ {l : List Mail}, mailsFrom l = 0 → ∀ m ∈ l, m.rel.lock.length ≤ 12
  | [], _, m, h => by cases h
  | x :: q, h, m, hm => by
    unfold mailsFrom at h
    split at h
    · omega
    · split at h
      · omega
      · rename_i h1 h2
        split at h
        · rename_i h3
          rcases List.mem_cons.1 hm with rfl | hm
          · unfold badForm noRel at h2
            have : m.rel.lock = [] := by
              by_cases e : m.rel.lock = []
              · exact e
              · exact absurd (.inl ⟨h3, fun h => e h.2⟩) h2
            simp [this]
          · exact mailsFrom_zero h m hm
        · split at h
          · rename_i h4; exact absurd h h4
          · rename_i h4
            rcases List.mem_cons.1 hm with rfl | hm
            · have h4 : relErr m.rel = 0 := Decidable.not_not.1 h4
              unfold relErr at h4
              split at h4
              · omega
              · exact (lockCheck_zero.1 h4).2
            · exact mailsFrom_zero h m hm
theorem mailsCheck_zero {l : List Mail} (h : mailsCheck l = 0) : l.length ≤ 40 ∧ ∀ m ∈ l, m.rel.lock.length ≤ 12 := by
  unfold mailsCheck at h
  split at h
  · omega
  · exact ⟨by omega, mailsFrom_zero h⟩
def sendErr (l : List Mail) (m : Mail) : Int := if mailsCheck l = 0 then mailsCheck [m] else mailsCheck l
def sent (l : List Mail) (m : Mail) : List Mail := if l.length < 40 then l ++ [m] else l
def takeErr (l : List Mail) (k : Int) : Int := if mailsCheck l = 0 then (if k < 0 ∨ (l.length : Int) ≤ k then 5 else 0) else mailsCheck l
def noMail : Mail := ⟨0, 0, false, false, ⟨0, []⟩⟩
def took (l : List Mail) (k : Int) : Mail := l.getD k.toNat noMail
def left (l : List Mail) (k : Int) (tw : Bool) : List Mail := if tw = true then l else l.take k.toNat ++ l.drop (k.toNat + 1)
/-! ### Cells -/
def mailVal (m : Mail) (a : Option Addr) (n c : Nat) : List Value := [i64 m.agent, i64 m.try_, .bool m.rep, .bool m.good, i64 m.rel.id, .slice a n c]
def RMail : Rep Mail := fun H r m => ∃ a n c, r = mailVal m a n c ∧ Pins H a n m.rel.lock
theorem RMail.mono : RMail.Mono := fun _ _ _ _ e ⟨a, n, c, h, hp⟩ => ⟨a, n, c, h, hp.ext' e⟩
theorem RMail.len {H : Heap} {r : List Value} {m : Mail} (h : RMail H r m) : r.length = 6 := by obtain ⟨a, n, c, rfl, _⟩ := h; rfl
theorem RMail.one {r : List Value} {m : Mail} {H : Heap} (h : RMail H r m) : allOne r = true := by obtain ⟨a, n, c, rfl, _⟩ := h; rfl
abbrev Mails (H : Heap) (a : Option Addr) (n : Nat) (l : List Mail) : Prop := Sl RMail 6 H a n l
theorem Mails.ext' {H H' : Heap} {a : Option Addr} {n : Nat} {l : List Mail} (h : Mails H a n l) (e : Ext H H') : Mails H' a n l := Sl.ext RMail.mono h e
theorem Sl.mail {H H' : Heap} {a : Option Addr} {n : Nat} {xs : List Mail} (h : Mails H a n xs) (e : Ext H H') {k : Int} (h0 : 0 ≤ k) (h1 : k < n) {F : Int → Int → Bool → Bool → Int → Option Addr → Nat → Nat → Prop}
    (hF : ∀ m a n c, xs[k.toNat]? = some m → Pins H a n m.rel.lock → F m.agent m.try_ m.rep m.good m.rel.id a n c) :
    ∃ (b o : Nat), a = some ⟨b, o, none⟩ ∧ 0 ≤ k ∧ k < n ∧ ∃ (x y : Int) (p q : Bool) (z : Int) (a' : Option Addr) (n' c' : Nat), (H'.cell b (o + k.toNat * 6) = some (.int .i64 x) ∧ H'.cell b (o + k.toNat * 6 + 1) = some (.int .i64 y) ∧ H'.cell b (o + k.toNat * 6 + 2) = some (.bool p) ∧
      H'.cell b (o + k.toNat * 6 + 3) = some (.bool q) ∧ H'.cell b (o + k.toNat * 6 + 4) = some (.int .i64 z) ∧ H'.cell b (o + k.toNat * 6 + 5) = some (.slice a' n' c') ∧ True) ∧ F x y p q z a' n' c' := by
  obtain ⟨b, o, r, x, ha, hx, ⟨a', n', c', rfl, hp⟩, hc⟩ := h.get h0 h1
  exact ⟨b, o, ha, h0, h1, _, _, _, _, _, _, _, _, ⟨Heap.cell_next e (hc 0 _ rfl), Heap.cell_next e (hc 1 _ rfl), Heap.cell_next e (hc 2 _ rfl), Heap.cell_next e (hc 3 _ rfl), Heap.cell_next e (hc 4 _ rfl), Heap.cell_next e (hc 5 _ rfl), trivial⟩, hF x a' n' c' hx hp⟩
/-- One piece of mail in a block of its own. -/
theorem mail_box {H : Heap} {g : Nat} {ty : TypeId} {m : Mail} {a : Option Addr} {n c : Nat} (h : H g = some (boxKB ty (mailVal m a n c))) (hp : Pins H a n m.rel.lock) : Mails H (some ⟨g, 0, none⟩) 1 [m] :=
  Sl.of_has (rows := [mailVal m a n c]) (Has.of_box h (by simp) (by simp [mailVal]) rfl (by decide)) rfl fun i r x hr hx => by
    match i, hr, hx with
    | 0, hr, hx => simp at hr hx; subst hr hx; exact ⟨a, n, c, rfl, hp⟩
    | i + 1, hr, hx => simp at hr
theorem newOf_mono {H1 H2 H3 : Heap} (e : Ext H1 H2) : Ext (newOf H2 H3) (newOf H1 H3) := fun x k h => by
  have h1 := newOf_away x k h
  have h2 := newOf_ext x k h
  unfold newOf
  cases h3 : H1 x with
  | none => exact h2
  | some k' => rw [e x k' h3] at h1; cases h1
/-- What a call made afresh holds without what was there. -/
theorem Fresh.sl_new {α : Type} {enc : α → List Value} {sz : Nat} (hs : ∀ x, (enc x).length = sz) (h0 : 0 < sz) {H H' : Heap} {e : TypeId} {a : Option Addr} {n c : Nat} {xs : List α} (h : Fresh H H' e sz a n c (xs.flatMap enc)) : Sl (REnc enc) sz (newOf H H') a n xs :=
  sl_of_rowE (base := 0) (e := e) (c := c) hs h0 ⟨h.1, h.2.1, h.2.2.1, h.2.2.2.imp id fun ⟨g, k, h1, h2, h3, h4⟩ => ⟨g, k, h1, Nat.zero_le _, by unfold newOf; rw [h2]; exact h3, h4⟩⟩
theorem flat_takeR {sz : Nat} : ∀ {rs : List (List Value)} (k : Nat), (∀ r ∈ rs, r.length = sz) → rs.flatten.take (k * sz) = (rs.take k).flatten
  | [], k, _ => by simp
  | x :: r, 0, _ => by simp
  | x :: r, k + 1, h => by
    rw [List.flatten_cons, Nat.succ_mul, List.take_succ_cons, List.flatten_cons, ← flat_takeR k fun y hy => h y (List.mem_cons_of_mem _ hy), ← h x List.mem_cons_self, Nat.add_comm, List.take_length_add_append]
theorem flat_dropR {sz : Nat} : ∀ {rs : List (List Value)} (k : Nat), (∀ r ∈ rs, r.length = sz) → rs.flatten.drop (k * sz) = (rs.drop k).flatten
  | [], k, _ => by simp
  | x :: r, 0, _ => by simp
  | x :: r, k + 1, h => by
    rw [List.flatten_cons, Nat.succ_mul, List.drop_succ_cons, ← flat_dropR k fun y hy => h y (List.mem_cons_of_mem _ hy), ← h x List.mem_cons_self, Nat.add_comm, List.drop_length_add_append]
/-- Other rows in the same block. -/
theorem OwnSl.regrew {α : Type} {R : Rep α} {sz : Nat} {e : TypeId} {base : Nat} {G H H' : Heap} {a a' : Option Addr} {n c n' c' nn : Nat} {rows rows' : List (List Value)} {xs ys : List α} (h : OwnSl R sz e base G H a n c rows xs) (hg : Grew base H H' a c a' c' nn)
    (hr : Row base H' e sz a' n' c' rows'.flatten) (hw : ∀ r ∈ rows', r.length = sz) (ha : AllR R G rows' ys) : OwnSl R sz e base G H' a' n' c' rows' ys :=
  ⟨hr, hw, ha, fun x k hx => hg.keep x k (h.sub x k hx) (by
    by_cases hc : c = 0
    · exact .inl hc
    · exact .inr fun e => by have := h.clear hc x e; rw [hx] at this; cases this), fun hc g hga => by
    rcases hg.place hc g hga with h1 | ⟨h1, h2⟩
    · cases hG : G g with
      | none => rfl
      | some k => rw [h.sub g k hG] at h1; cases h1
    · exact h.clear h2 g (h1 ▸ hga)⟩
end Go.Vg
