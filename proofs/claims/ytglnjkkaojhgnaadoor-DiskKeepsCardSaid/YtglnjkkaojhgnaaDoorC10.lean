/- What is proved here: the contracts of the functions of releases and mail. -/
import Derived.Test.YtglnjkkaojhgnaaDoorC9
import Derived.Test.YtglnjkkaojhgnaaDoorV4
import Derived.Test.YtglnjkkaojhgnaaDoorC3
set_option linter.unusedSimpArgs false
set_option maxRecDepth 100000
set_option linter.unusedVariables false
namespace Go.Vg
open Go Go.Proofs
/-! ### Releases -/
theorem cNoteRelease {H : Heap} {a : Option Addr} {l c : Nat} {xs : List Pin} (hx : Pins H a l xs) (id : Int) : Spec Tryd.prog 23 [.agg #[.int .i64 id, .slice a l c]] H fun v _ => v = i64 (relErr ⟨id, xs⟩) := by
  refine TrydvcJ Tryd.func23 (by kernel_rfl) (by kernel_rfl) _ rfl (fun base K => vc68 id a l c base H K) fun base hb => ?_
  intro b
  refine ⟨id < 1 ∨ 6 < id, ⟨fun _ => ⟨rfl, fun _ _ h => h, by omega⟩, fun _ => ⟨rfl, fun _ _ h => h, by omega⟩⟩, fun h => by rw [relErr, if_pos h], fun h => ?_⟩
  refine (cLockCheck hx).int1 fun H1 e1 _ => ?_
  rw [relErr, if_neg h]
theorem cRefRelease {H : Heap} {a : Option Addr} {l c : Nat} {xs : List Pin} (hx : Pins H a l xs) (id : Int) : Spec Tryd.prog 24 [.agg #[.int .i64 id, .slice a l c]] H fun v _ => v = i64 (relErr ⟨id, xs⟩) := by
  refine TrydvcJ Tryd.func24 (by kernel_rfl) (by kernel_rfl) _ rfl (fun base K => vc74 id a l c base H K) fun base hb => ?_
  intro b
  refine (cIn id 1 6).bool1 fun H1 e1 _ => ⟨fun h => ?_, fun h => (cRefLockCheck (hx.ext' e1)).int1 fun H2 e2 _ => ?_⟩
  · have h : ¬ (1 ≤ id ∧ id ≤ 6) := by simpa [inR] using h
    rw [relErr, if_pos (show id < 1 ∨ 6 < id by omega)]
  · have h : 1 ≤ id ∧ id ≤ 6 := by simpa [inR] using h
    rw [relErr, if_neg (show ¬ (id < 1 ∨ 6 < id) by omega)]
theorem rel_eq {id id' : Int} {xs ys : List Pin} : ((⟨id, xs⟩ : Rls) = ⟨id', ys⟩) ↔ id = id' ∧ xs = ys := by simp
theorem cAlike {H : Heap} {a a' : Option Addr} {l c l' c' : Nat} {xs ys : List Pin} (hx : Pins H a l xs) (hy : Pins H a' l' ys) (id id' : Int) :
    Spec Tryd.prog 27 [.agg #[.int .i64 id, .slice a l c], .agg #[.int .i64 id', .slice a' l' c']] H fun v _ => v = .bool (decide ((⟨id, xs⟩ : Rls) = ⟨id', ys⟩)) := by
  refine TrydvcJ Tryd.func27 (by kernel_rfl) (by kernel_rfl) _ rfl (fun base K => vc86 id id' a a' l c l' c' base H K) fun base hb => ?_
  have hxl := hx.len
  have hyl := hy.len
  have hle := hx.le
  intro b b1
  refine ⟨id ≠ id' ∨ l ≠ l', ⟨fun _ => ⟨rfl, fun _ _ h => h, by omega⟩, fun _ => ⟨rfl, fun _ _ h => h, by omega⟩⟩, fun h => ?_, fun h => ?_⟩
  · rw [decide_eq_false]
    rw [rel_eq]
    rintro ⟨rfl, rfl⟩
    omega
  have hid : id = id' := by omega
  have hll : l = l' := by omega
  have hW : decide ((⟨id, xs⟩ : Rls) = ⟨id', ys⟩) = decide (xs = ys) := by rw [decide_eq_decide, rel_eq]; simp [hid]
  rw [hW]
  refine ⟨fun vs _ => ∃ (b : Bool) (k : Nat), vs = [.bool b, i64 k] ∧ k ≤ l ∧ (xs.drop k = ys.drop k ↔ xs = ys), upTo l 1, ⟨false, 0, rfl, by omega, by simp⟩, fun b n H' hN hI => ?_⟩
  obtain ⟨b', k, hvs, hk, hI⟩ := hI
  obtain ⟨rfl, rfl⟩ : b = b' ∧ n = (k : Int) := by simpa using hvs
  refine ⟨fun hlt => hx.pin hN.ext (by omega) hlt fun p hp => fun b3 => hy.pin hN.ext (by omega) (by omega) fun q hq => ⟨_, neq48 _ _ _ _, fun h => ?_, fun h => ?_⟩, fun hge => ?_⟩
  · rw [Int.toNat_natCast] at hp hq
    rw [drop_at hp, drop_at hq] at hI
    rw [decide_eq_false]
    intro e
    obtain ⟨rfl, _⟩ := List.cons.inj (hI.2 e)
    simp at h
  · rw [Int.toNat_natCast] at hp hq
    rw [drop_at hp, drop_at hq] at hI
    have hpq : p = q := by cases p; cases q; simp at h; simp [h]
    rintro r rfl
    rw [wrap_in (by omega) (by omega)]
    exact ⟨rfl, ⟨b, k + 1, rfl, by omega, by rw [← hI]; simp [hpq]⟩, by simp [upTo]; omega⟩
  · rw [decide_eq_true]
    exact hI.1 (by rw [drop_all hxl (by omega), drop_all hyl (by omega)])
theorem cRefAlike {H : Heap} {a a' : Option Addr} {l c l' c' : Nat} {xs ys : List Pin} (hx : Pins H a l xs) (hy : Pins H a' l' ys) (id id' : Int) :
    Spec Tryd.prog 28 [.agg #[.int .i64 id, .slice a l c], .agg #[.int .i64 id', .slice a' l' c']] H fun v _ => v = .bool (decide ((⟨id, xs⟩ : Rls) = ⟨id', ys⟩)) := by
  refine TrydvcJ Tryd.func28 (by kernel_rfl) (by kernel_rfl) _ rfl (fun base K => vc99 id id' a a' l c l' c' base H K) fun base hb => ?_
  intro b b1
  refine ⟨id = id' ∧ xs = ys, ⟨fun h => (cEqPins hx hy).bool1 fun H1 e1 _ => ⟨rfl, e1, by simp [h]⟩, fun h => ⟨rfl, fun _ _ h => h, fun h' => h h'.1⟩⟩, ?_⟩
  congr 1
  rw [decide_eq_decide, rel_eq]
/-! ### way.Check -/
theorem len_zero {xs : List Pin} {n : Nat} (h : xs.length = n) : (xs = [] ↔ n = 0) := by rw [← h]; exact List.length_eq_zero_iff.symm
end Go.Vg
set_option linter.unusedSimpArgs false
set_option maxRecDepth 100000
set_option linter.unusedVariables false
namespace Go.Vg
open Go Go.Proofs
theorem Row.at {base : Nat} {H : Heap} {e : TypeId} {sz n c i : Nat} {a : Option Addr} {L : List (List Value)} {r : List Value} (h : Row base H e sz a n c L.flatten) (hw : ∀ r ∈ L, r.length = sz) (hn : L.length = n) (hr : L[i]? = some r) :
    ∃ b : Nat, a = some ⟨b, 0, none⟩ ∧ ∀ (j : Nat) (v : Value), r[j]? = some v → H.cell b (0 + i * sz + j) = some v := by
  have hi : i < n := by have := (List.getElem?_eq_some_iff.1 hr).1; omega
  obtain ⟨b, o, r', ha, hr', hc⟩ := (has_of_row h rfl hw hn).get hi
  rw [hr] at hr'
  obtain rfl := Option.some.inj hr'
  obtain ⟨b', _, hb', _⟩ := h.block (by omega)
  rw [ha] at hb'
  simp at hb'
  obtain ⟨rfl, rfl⟩ := hb'
  exact ⟨b, ha, hc⟩
/-! ### way.Send -/
/-! ### way.Take -/
end Go.Vg
set_option linter.unusedSimpArgs false
set_option maxRecDepth 100000
set_option linter.unusedVariables false
namespace Go.Vg
open Go Go.Proofs
theorem mail_eq {m m' : Mail} : m = m' ↔ m.agent = m'.agent ∧ m.try_ = m'.try_ ∧ m.rep = m'.rep ∧ m.good = m'.good ∧ m.rel = m'.rel := by
  cases m; cases m'; simp
abbrev mailArg (m : Mail) (a : Option Addr) (n c : Nat) : Value := .agg #[.int .i64 m.agent, .int .i64 m.try_, .bool m.rep, .bool m.good, .int .i64 m.rel.id, .slice a n c]
/-- A call that yields mail, a piece of mail, an error. -/
theorem Spec.mail3 {P : Program} {f : FuncId} {args : List Value} {H : Heap} {x : Mail} {e : Int} {Q : Option Addr → Nat → Nat → Heap → Prop} (h : Spec P f args H fun v H' => ∃ a n c la ln lc, v = .tuple #[.slice a n c, .agg (mailVal x la ln lc).toArray, i64 e] ∧ Q a n c H' ∧ Pins H' la ln x.rel.lock) {base : Nat}
    {G : Option Addr → Nat → Nat → Int → Int → Bool → Bool → Int → Option Addr → Nat → Nat → Int → Heap → Prop} (hG : ∀ a n c la ln lc H', Ext H H' → Next base H H' → Q a n c H' → Pins H' la ln x.rel.lock → G a n c x.agent x.try_ x.rep x.good x.rel.id la ln lc e H') :
    Spec P f args H fun v H' => ∃ (a : Option Addr) (n c : Nat) (n5 n6 : Int) (b2 b3 : Bool) (n7 : Int) (a8 : Option Addr) (n8 c3 : Nat) (n9 : Int), v = .tuple #[.slice a n c, .agg #[.int .i64 n5, .int .i64 n6, .bool b2, .bool b3, .int .i64 n7, .slice a8 n8 c3], .int .i64 n9] ∧ (Next base H H' → G a n c n5 n6 b2 b3 n7 a8 n8 c3 n9 H') :=
  h.mono fun v H' ex hv => by
    obtain ⟨a, n, c, la, ln, lc, h1, h2, h3⟩ := hv
    exact ⟨a, n, c, _, _, _, _, _, la, ln, lc, e, h1, fun hN => hG a n c la ln lc H' ex hN h2 h3⟩
/-! ### A closed fact -/
def m1 : Mail := ⟨1, 2, true, true, ⟨0, []⟩⟩
def m2 : Mail := ⟨2, 3, false, false, ⟨2, [⟨1, 2⟩, ⟨2, 1⟩]⟩⟩
/-! ### The law WayBack -/
theorem mailsFrom_app : ∀ {a b : List Mail}, mailsFrom a = 0 → mailsFrom (a ++ b) = mailsFrom b
  | [], b, _ => rfl
  | m :: q, b, h => by
    unfold mailsFrom at h
    rw [List.cons_append, mailsFrom]
    split at h
    · omega
    · split at h
      · omega
      · rename_i h1 h2
        rw [if_neg h1, if_neg h2]
        split at h
        · rename_i h3; rw [if_pos h3]; exact mailsFrom_app h
        · rename_i h3
          rw [if_neg h3]
          split at h
          · rename_i h4; exact absurd h h4
          · rename_i h4; rw [if_neg h4]; exact mailsFrom_app h
theorem sent_ok {ms : List Mail} {m : Mail} (h : sendErr ms m = 0) : mailsCheck ms = 0 ∧ mailsCheck [m] = 0 ∧ mailsCheck (sent ms m) = 0 := by
  unfold sendErr at h
  split at h
  · rename_i h1
    refine ⟨h1, h, ?_⟩
    unfold sent
    split
    · rename_i h2
      have h1' := h1
      have h' := h
      unfold mailsCheck at h1' h' ⊢
      rw [if_neg (by omega)] at h1'
      rw [if_neg (by simp)] at h'
      rw [if_neg (by simp; omega), mailsFrom_app h1']
      exact h'
    · exact h1
  · rename_i h1; exact absurd h h1
end Go.Vg
