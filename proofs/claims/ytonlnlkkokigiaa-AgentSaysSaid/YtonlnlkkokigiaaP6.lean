/- Plain laws of records and agents; how cells stand for them. -/
import Derived.Test.YtonlnlkkokigiaaP10
set_option linter.unusedSimpArgs false
set_option linter.unusedVariables false
namespace Go.Vg
open Go
structure Recd where
  kind : Int
  agent : Int
  try_ : Int
  num : Int
  good : Bool
  rel : Rls
  deriving DecidableEq
structure Agt where
  lock : List Pin
  at_ : Int
  try_ : Int
  going : Bool
  goal : Rls
  good : Bool
  deriving DecidableEq
def recForm (r : Recd) : Prop := (r.agent ≠ 0 ∧ ¬ (r.kind = 6 ∨ r.kind = 7)) ∨ (r.try_ ≠ 0 ∧ ¬ (r.kind = 1 ∨ r.kind = 2 ∨ r.kind = 3 ∨ r.kind = 6 ∨ r.kind = 7)) ∨ (r.num ≠ 0 ∧ ¬ r.kind = 5) ∨ (r.good = true ∧ ¬ (r.kind = 3 ∨ r.kind = 7)) ∨ (¬ noRel r.rel ∧ ¬ (r.kind = 1 ∨ r.kind = 4))
instance (r : Recd) : Decidable (recForm r) := by unfold recForm; infer_instance
def recRange (r : Recd) : Prop := r.agent < 0 ∨ 6 ≤ r.agent ∨ ((r.kind = 1 ∨ r.kind = 2 ∨ r.kind = 3 ∨ r.kind = 6 ∨ r.kind = 7) ∧ (r.try_ < 1 ∨ 200 < r.try_)) ∨ (r.kind = 5 ∧ (r.num < 1 ∨ 6 < r.num))
instance (r : Recd) : Decidable (recRange r) := by unfold recRange; infer_instance
def recErr (r : Recd) : Int := if r.kind < 1 ∨ 9 < r.kind then 4 else if recForm r then 4 else if recRange r then 3 else if r.kind = 1 ∨ r.kind = 4 then relErr r.rel else 0
def agtErr (a : Agt) : Int :=
  if lockCheck a.lock ≠ 0 then lockCheck a.lock else
  if a.at_ < 1 ∨ 6 < a.at_ ∨ a.try_ < 0 ∨ 200 < a.try_ then 3 else
  if a.going = true then (if a.try_ = 0 ∨ a.good = true then 4 else relErr a.goal) else (if noRel a.goal then 0 else 4)
def noAgt : Agt := ⟨[], 0, 0, false, ⟨0, []⟩, false⟩
def agtLeft (a : Agt) : List Step := if a.going = true then diffs a.lock a.goal.lock else []
def nextErr (a : Agt) (r : Recd) : Int :=
  if agtErr a ≠ 0 then agtErr a else if recErr r ≠ 0 then recErr r else
  if r.kind = 1 then (if r.try_ ≤ a.try_ then 7 else 0) else
  if r.kind ≠ 2 ∧ r.kind ≠ 3 then 4 else
  if a.going = false ∨ r.try_ ≠ a.try_ ∨ (r.kind = 2 ∧ agtLeft a = []) ∨ (r.kind = 3 ∧ agtLeft a ≠ []) then 7 else 0
def agtNext (a : Agt) (r : Recd) : Agt :=
  if r.kind = 1 then ⟨a.lock, a.at_, r.try_, true, r.rel, false⟩ else
  if r.kind = 2 then (match agtLeft a with
    | [] => a
    | o :: _ => ⟨applied a.lock o, a.at_, a.try_, a.going, a.goal, a.good⟩) else
  ⟨a.lock, a.goal.id, a.try_, false, ⟨0, []⟩, r.good⟩
def nextV (a : Agt) (r : Recd) : Agt := if nextErr a r = 0 then agtNext a r else noAgt
def newAgt (r : Rls) : Agt := ⟨r.lock, r.id, 0, false, ⟨0, []⟩, true⟩
def replayFrom : Agt → List Recd → Except Int Agt
  | a, [] => .ok a
  | a, r :: q => if nextErr a r = 0 then replayFrom (agtNext a r) q else .error (nextErr a r)
def agtReplay (f : Rls) (l : List Recd) : Except Int Agt := if relErr f ≠ 0 then .error (relErr f) else if 200 < l.length then .error 2 else replayFrom (newAgt f) l
def okA : Except Int Agt → Agt
  | .ok a => a
  | .error _ => noAgt
theorem relErr_zero {r : Rls} (h : relErr r = 0) : (1 ≤ r.id ∧ r.id ≤ 6) ∧ Lk r.lock ∧ r.lock.length ≤ 12 := by
  unfold relErr at h
  split at h
  · omega
  · exact ⟨by omega, lockCheck_zero.1 h⟩
theorem agtErr_zero {a : Agt} (h : agtErr a = 0) : (Lk a.lock ∧ a.lock.length ≤ 12) ∧ 1 ≤ a.at_ ∧ a.at_ ≤ 6 ∧ 0 ≤ a.try_ ∧ a.try_ ≤ 200 ∧ (a.going = true → a.try_ ≠ 0 ∧ a.good = false ∧ relErr a.goal = 0) ∧ (a.going = false → noRel a.goal) := by
  unfold agtErr at h
  split at h
  · omega
  · rename_i h1
    have h1 := lockCheck_zero.1 (Decidable.not_not.1 h1)
    split at h
    · omega
    · split at h
      · rename_i h2 h3
        split at h
        · omega
        · rename_i h4
          refine ⟨h1, by omega, by omega, by omega, by omega, fun _ => ⟨fun e => h4 (.inl e), ?_, h⟩, fun e => by rw [h3] at e; cases e⟩
          cases hg : a.good with
          | false => rfl
          | true => exact absurd (.inr hg) h4
      · rename_i h2 h3
        split at h
        · rename_i h4; exact ⟨h1, by omega, by omega, by omega, by omega, fun e => absurd e h3, fun _ => h4⟩
        · omega
theorem agt_goal {a : Agt} (h : agtErr a = 0) : Lk a.goal.lock ∧ a.goal.lock.length ≤ 12 := by
  obtain ⟨_, _, _, _, _, h1, h2⟩ := agtErr_zero h
  cases hg : a.going with
  | true => exact (relErr_zero (h1 hg).2.2).2
  | false => rw [(h2 hg).2]; exact ⟨Lk.nil, by simp⟩
/-! ### Cells -/
def recVal (r : Recd) (a : Option Addr) (n c : Nat) : List Value := [i64 r.kind, i64 r.agent, i64 r.try_, i64 r.num, .bool r.good, i64 r.rel.id, .slice a n c]
def RRec : Rep Recd := fun H r m => ∃ a n c, r = recVal m a n c ∧ Pins H a n m.rel.lock
theorem RRec.mono : RRec.Mono := fun _ _ _ _ e ⟨a, n, c, h, hp⟩ => ⟨a, n, c, h, hp.ext' e⟩
theorem RRec.len {H : Heap} {r : List Value} {m : Recd} (h : RRec H r m) : r.length = 7 := by obtain ⟨a, n, c, rfl, _⟩ := h; rfl
abbrev Recs (H : Heap) (a : Option Addr) (n : Nat) (l : List Recd) : Prop := Sl RRec 7 H a n l
theorem Recs.ext' {H H' : Heap} {a : Option Addr} {n : Nat} {l : List Recd} (h : Recs H a n l) (e : Ext H H') : Recs H' a n l := Sl.ext RRec.mono h e
theorem Sl.recd {H H' : Heap} {a : Option Addr} {n : Nat} {xs : List Recd} (h : Recs H a n xs) (e : Ext H H') {k : Int} (h0 : 0 ≤ k) (h1 : k < n) {F : Int → Int → Int → Int → Bool → Int → Option Addr → Nat → Nat → Prop}
    (hF : ∀ m a n c, xs[k.toNat]? = some m → Pins H a n m.rel.lock → F m.kind m.agent m.try_ m.num m.good m.rel.id a n c) :
    ∃ (b o : Nat), a = some ⟨b, o, none⟩ ∧ 0 ≤ k ∧ k < n ∧ ∃ (x y u v : Int) (q : Bool) (z : Int) (a' : Option Addr) (n' c' : Nat), (H'.cell b (o + k.toNat * 7) = some (.int .i64 x) ∧ H'.cell b (o + k.toNat * 7 + 1) = some (.int .i64 y) ∧ H'.cell b (o + k.toNat * 7 + 2) = some (.int .i64 u) ∧ H'.cell b (o + k.toNat * 7 + 3) = some (.int .i64 v) ∧
      H'.cell b (o + k.toNat * 7 + 4) = some (.bool q) ∧ H'.cell b (o + k.toNat * 7 + 5) = some (.int .i64 z) ∧ H'.cell b (o + k.toNat * 7 + 6) = some (.slice a' n' c') ∧ True) ∧ F x y u v q z a' n' c' := by
  obtain ⟨b, o, r, x, ha, hx, ⟨a', n', c', rfl, hp⟩, hc⟩ := h.get h0 h1
  exact ⟨b, o, ha, h0, h1, _, _, _, _, _, _, _, _, _, ⟨Heap.cell_next e (hc 0 _ rfl), Heap.cell_next e (hc 1 _ rfl), Heap.cell_next e (hc 2 _ rfl), Heap.cell_next e (hc 3 _ rfl), Heap.cell_next e (hc 4 _ rfl), Heap.cell_next e (hc 5 _ rfl), Heap.cell_next e (hc 6 _ rfl), trivial⟩, hF x a' n' c' hx hp⟩
abbrev recArg (r : Recd) (a : Option Addr) (n c : Nat) : Value := .agg #[.int .i64 r.kind, .int .i64 r.agent, .int .i64 r.try_, .int .i64 r.num, .bool r.good, .int .i64 r.rel.id, .slice a n c]
abbrev agtArg (x : Agt) (a : Option Addr) (n c : Nat) (ga : Option Addr) (gn gc : Nat) : Value := .agg #[.slice a n c, .int .i64 x.at_, .int .i64 x.try_, .bool x.going, .int .i64 x.goal.id, .slice ga gn gc, .bool x.good]
theorem agt_eq {x y : Agt} : x = y ↔ x.lock = y.lock ∧ x.at_ = y.at_ ∧ x.try_ = y.try_ ∧ x.going = y.going ∧ x.goal = y.goal ∧ x.good = y.good := by cases x; cases y; simp
/-- A call that yields an agent and an error. -/
theorem Spec.agt {P : Program} {f : FuncId} {args : List Value} {H : Heap} {x : Agt} {e : Int} (h : Spec P f args H fun v H' => ∃ a n c ga gn gc, v = .tuple #[agtArg x a n c ga gn gc, i64 e] ∧ Pins H' a n x.lock ∧ Pins H' ga gn x.goal.lock) {base : Nat}
    {G : Option Addr → Nat → Nat → Int → Int → Bool → Int → Option Addr → Nat → Nat → Bool → Int → Heap → Prop} (hG : ∀ a n c ga gn gc H', Ext H H' → Next base H H' → Pins H' a n x.lock → Pins H' ga gn x.goal.lock → G a n c x.at_ x.try_ x.going x.goal.id ga gn gc x.good e H') :
    Spec P f args H fun v H' => ∃ (a : Option Addr) (n c : Nat) (n2 n3 : Int) (b : Bool) (n4 : Int) (a2 : Option Addr) (n5 c1 : Nat) (b3 : Bool) (n6 : Int), v = .tuple #[.agg #[.slice a n c, .int .i64 n2, .int .i64 n3, .bool b, .int .i64 n4, .slice a2 n5 c1, .bool b3], .int .i64 n6] ∧ (Next base H H' → G a n c n2 n3 b n4 a2 n5 c1 b3 n6 H') :=
  h.mono fun v H' ex hv => by
    obtain ⟨a, n, c, ga, gn, gc, h1, h2, h3⟩ := hv
    exact ⟨a, n, c, _, _, _, _, ga, gn, gc, _, e, h1, fun hN => hG a n c ga gn gc H' ex hN h2 h3⟩
end Go.Vg
