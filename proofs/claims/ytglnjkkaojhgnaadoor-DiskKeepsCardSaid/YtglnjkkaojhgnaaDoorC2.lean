/- What is proved here: the contracts of the functions of waves, and of the law WaveSays. -/
import Derived.Test.YtglnjkkaojhgnaaDoorP2
import Derived.Test.YtglnjkkaojhgnaaDoorV2
set_option linter.unusedSimpArgs false
set_option maxRecDepth 100000
set_option linter.unusedVariables false
namespace Go.Vg
open Go Go.Proofs
theorem cIn {H : Heap} (n a b : Int) : Spec Tryd.prog 45 [i64 n, i64 a, i64 b] H fun v _ => v = .bool (inR n a b) := by
  refine Trydvc Tryd.func45 (by kernel_rfl) (by kernel_rfl) _ rfl (fun base K => vc102 n a b base H K) fun base hb => ⟨fun h => ?_, fun h => ?_⟩
  · simp [inR, h]
  · simp [inR, h]
def idxFrom (x : Int) : Int → List Int → Int
  | _, [] => -1
  | i, y :: r => if x = y then i else idxFrom x (i + 1) r
theorem idxFrom_mem (x : Int) : ∀ (l : List Int) (i : Int), 0 ≤ i → (0 ≤ idxFrom x i l ↔ x ∈ l)
  | [], i, _ => by simp [idxFrom]
  | y :: r, i, h => by
    unfold idxFrom
    split
    · rename_i e; subst e; simp [h]
    · rename_i e; rw [idxFrom_mem x r (i + 1) (by omega)]; simp [e]
/-! ### A map of numbers met -/
def seenCells (s : List Int) : List Value := s.flatMap fun x => [i64 x, .bool true]
theorem seenCells_len (s : List Int) : (seenCells s).length = 2 * s.length := by
  induction s with
  | nil => rfl
  | cons a r ih => simp [seenCells] at ih ⊢; omega
theorem mapGet_seen (x : Int) : ∀ s : List Int, mapGet (.bool false) (.int .i64 x) (seenCells s) = some (.bool (decide (x ∈ s)), decide (x ∈ s))
  | [] => by simp [seenCells, mapGet]
  | y :: r => by
    have ih := mapGet_seen x r
    simp only [seenCells, List.flatMap_cons, List.cons_append, List.nil_append, mapGet, keySame, if_pos] at ih ⊢
    by_cases e : y = x
    · subst e; simp
    · have e' : ¬ x = y := fun h => e h.symm
      simp only [e, decide_false, List.mem_cons, e', false_or]; exact ih
theorem mapSet_seen (x : Int) : ∀ s : List Int, x ∉ s → mapSet (.int .i64 x) (.bool true) (seenCells s) = some (seenCells (s ++ [x]))
  | [], _ => rfl
  | y :: r, h => by
    have ih := mapSet_seen x r (fun h' => h (List.mem_cons_of_mem _ h'))
    have e : ¬ y = x := fun h' => h (h' ▸ List.mem_cons_self)
    have e' : ¬ x = y := fun h' => h (h' ▸ List.mem_cons_self)
    simp only [seenCells, List.flatMap_cons, List.cons_append, List.nil_append, mapSet, keySame, if_pos, e, e', decide_false] at ih ⊢
    rw [ih]; rfl

/-! ### wave.Check -/
abbrev Waves (H : Heap) (a : Option Addr) (n : Nat) (l : List (List Int)) : Prop := Sl (RSl RInt 1) 1 H a n l
theorem Waves.ext' {H H' : Heap} {a : Option Addr} {n : Nat} {l : List (List Int)} (h : Waves H a n l) (e : Ext H H') : Waves H' a n l := Sl.ext (RSl.mono RInt.mono) h e
theorem wrap_small {n : Int} (h : -100000 ≤ n) (h' : n ≤ 100000) : IntKind.wrap .i64 n = n := wrap_in (by omega) (by omega)
/-! ### wave.Of -/
/-! ### wave.Now -/
def waveNow (ws : List (List Int)) (th : List Bool) : Int := if waveCheck ws th.length = 0 then nowFrom th 0 ws else 0
theorem min_cases (a b : Int) : (if b < a then b else a) = min a b := by split <;> omega
/-! ### The law -/
theorem ints_of_box {H : Heap} {g : Nat} {ty : TypeId} {xs : List Int} {n : Nat} (h : H g = some (boxKB ty (xs.map i64))) (hn : xs.length = n) (hle : (n : Int) ≤ 9223372036854775807) : Sl RInt 1 H (some ⟨g, 0, none⟩) n xs :=
  Sl.of_has (rows := intRows xs) (Has.of_box h (by clear h hn; induction xs with | nil => rfl | cons x r ih => simp [intRows] at ih ⊢; exact ih) (by intro r hr; simp [intRows] at hr; obtain ⟨x, _, rfl⟩ := hr; rfl) (by simp [intRows]; exact hn) hle) (by simp [intRows])
    fun i r x hr hx => by
      simp [intRows] at hr
      obtain ⟨y, hy, rfl⟩ := hr
      rw [hx] at hy
      obtain rfl := Option.some.inj hy
      rfl
theorem bools_of_box {H : Heap} {g : Nat} {ty : TypeId} {xs : List Bool} {n : Nat} (h : H g = some (boxKB ty (xs.map Value.bool))) (hn : xs.length = n) (hle : (n : Int) ≤ 9223372036854775807) : Sl RBool 1 H (some ⟨g, 0, none⟩) n xs :=
  Sl.of_has (rows := xs.map fun x => [.bool x]) (Has.of_box h (by clear h hn; induction xs with | nil => rfl | cons x r ih => simp at ih ⊢; exact ih) (by intro r hr; simp at hr; rcases hr with ⟨_, rfl⟩ | ⟨_, rfl⟩ <;> rfl) (by simp; exact hn) hle) (by simp)
    fun i r x hr hx => by rw [List.getElem?_map, hx] at hr; simp at hr; exact hr.symm
end Go.Vg
