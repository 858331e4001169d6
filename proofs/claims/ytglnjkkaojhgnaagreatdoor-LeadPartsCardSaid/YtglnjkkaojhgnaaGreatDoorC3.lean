/- What is proved here: the contracts of the functions of waves, and of the law WaveSays. -/
import Derived.Test.YtglnjkkaojhgnaaGreatDoorP2
import Derived.Test.YtglnjkkaojhgnaaGreatDoorV3
import Derived.Test.YtglnjkkaojhgnaaGreatDoorRp3
import Derived.Test.YtglnjkkaojhgnaaGreatDoorSeat
import Derived.Tactics
import Derived.Tactics2
import Derived.StillTactics
import Derived.Laws.Pointers
import Derived.Laws.Small
import Derived.Laws.StructEq
import Derived.Laws.Tables
import Derived.Laws.Cover2
import Derived.Laws.Cover3
import Derived.KernelRfl
import Derived.Test.YtglnjkkaojhgnaaGreatDoorRp4
set_option linter.unusedSimpArgs false
set_option maxRecDepth 100000
set_option linter.unusedVariables false
namespace Go.Vg
open Go Go.Proofs
theorem cIn {H : Heap} (n a b : Int) : Spec Tryz.prog 105 [i64 n, i64 a, i64 b] H fun v _ => v = .bool (inR n a b) := by
  refine Tryzvc Tryz.func105 (by kernel_rfl) (by kernel_rfl) _ rfl (fun base K => vc102 n a b base H K) fun base hb => ⟨fun h => ?_, fun h => ?_⟩
  · simp [inR, h]
  · simp [inR, h]
def idxFrom (x : Int) : Int → List Int → Int
  | _, [] => -1
  | i, y :: r => if x = y then i else idxFrom x (i + 1) r
theorem idxFrom_mem (x : Int) : ∀ (l : List Int) (i : Int), 0 ≤ i → (0 ≤ idxFrom x i l ↔ x ∈ l)
  | [], i, _ => by simp [idxFrom]
  | y :: r, i, h => by
    unfold idxFrom
    split
    · rename_i e; subst e; simp [h]
    · rename_i e; rw [idxFrom_mem x r (i + 1) (by omega)]; simp [e]
theorem cIndex {H : Heap} {a : Option Addr} {l c : Nat} {xs : List Int} (hx : Sl RInt 1 H a l xs) (x : Int) : Spec Tryz.prog 161 [.slice a l c, i64 x] H fun v _ => v = i64 (idxFrom x 0 xs) := by
  refine Tryzvc Tryz.func161 (by kernel_rfl) (by kernel_rfl) _ rfl (fun base K => vc140 a l c x base H K) fun base hb => ?_
  have hle := hx.le
  refine ⟨fun vs _ => ∃ (d : Int) (k : Nat), vs = [i64 d, i64 k] ∧ k ≤ l ∧ idxFrom x k (xs.drop k) = idxFrom x 0 xs, upTo l 1, ⟨0, 0, rfl, by omega, rfl⟩, fun d n H' hN hI => ?_⟩
  obtain ⟨d', k, hvs, hk, hI⟩ := hI
  obtain ⟨rfl, rfl⟩ : d = d' ∧ n = (k : Int) := by simpa using hvs
  refine ⟨fun hlt => hx.int hN.ext (by omega) hlt fun y hy => ?_, fun hge => ?_⟩
  · rw [Int.toNat_natCast] at hy
    rw [drop_at hy] at hI
    refine ⟨fun he => ?_, ?_⟩
    · rw [← hI, idxFrom, if_pos he]
    · rintro he r rfl
      rw [wrap_in (by omega) (by omega)]
      exact ⟨⟨d, k + 1, rfl, by omega, by rw [idxFrom, if_neg he] at hI; exact hI⟩, by simp [upTo]; omega⟩
  · rw [← hI, drop_all hx.len (by omega), idxFrom]
theorem cContains {H : Heap} {a : Option Addr} {l c : Nat} {xs : List Int} (hx : Sl RInt 1 H a l xs) (x : Int) : Spec Tryz.prog 140 [.slice a l c, i64 x] H fun v _ => v = .bool (decide (x ∈ xs)) := by
  refine Tryzvc Tryz.func140 (by kernel_rfl) (by kernel_rfl) _ rfl (fun base K => vc103 a l c x base H K) fun base hb => ?_
  refine (cIndex hx x).int1 fun H' _ _ => ?_
  simp [idxFrom_mem x xs 0 (by omega)]

/-! ### A map of numbers met -/
def seenCells (s : List Int) : List Value := s.flatMap fun x => [i64 x, .bool true]
theorem seenCells_len (s : List Int) : (seenCells s).length = 2 * s.length := by
  induction s with
  | nil => rfl
  | cons a r ih => simp [seenCells] at ih ⊢; omega
theorem mapGet_seen (x : Int) : ∀ s : List Int, mapGet (.bool false) (.int .i64 x) (seenCells s) = some (.bool (decide (x ∈ s)), decide (x ∈ s))
  | [] => by simp [seenCells, mapGet]
  | y :: r => by
    have ih := mapGet_seen x r
    simp only [seenCells, List.flatMap_cons, List.cons_append, List.nil_append, mapGet, keySame, if_pos] at ih ⊢
    by_cases e : y = x
    · subst e; simp
    · have e' : ¬ x = y := fun h => e h.symm
      simp only [e, decide_false, List.mem_cons, e', false_or]; exact ih
theorem mapSet_seen (x : Int) : ∀ s : List Int, x ∉ s → mapSet (.int .i64 x) (.bool true) (seenCells s) = some (seenCells (s ++ [x]))
  | [], _ => rfl
  | y :: r, h => by
    have ih := mapSet_seen x r (fun h' => h (List.mem_cons_of_mem _ h'))
    have e : ¬ y = x := fun h' => h (h' ▸ List.mem_cons_self)
    have e' : ¬ x = y := fun h' => h (h' ▸ List.mem_cons_self)
    simp only [seenCells, List.flatMap_cons, List.cons_append, List.nil_append, mapSet, keySame, if_pos, e, e', decide_false] at ih ⊢
    rw [ih]; rfl

/-! ### wave.Check -/
abbrev Waves (H : Heap) (a : Option Addr) (n : Nat) (l : List (List Int)) : Prop := Sl (RSl RInt 1) 1 H a n l
theorem Waves.ext' {H H' : Heap} {a : Option Addr} {n : Nat} {l : List (List Int)} (h : Waves H a n l) (e : Ext H H') : Waves H' a n l := Sl.ext (RSl.mono RInt.mono) h e
theorem cWaveCheck {H : Heap} {a : Option Addr} {l c : Nat} {ws : List (List Int)} (hx : Waves H a l ws) (k : Int) : Spec Tryz.prog 113 [.slice a l c, i64 k] H fun v _ => v = i64 (waveCheck ws k) := by
  refine Tryzvc Tryz.func113 (by kernel_rfl) (by kernel_rfl) _ rfl (fun base K => vc26 a l c k base H K) fun base hb => ⟨fun h1 => ?_, fun h1 => ⟨fun h2 => ?_, fun h2 => ?_⟩⟩
  · rw [waveCheck, if_pos h1]
  · rw [waveCheck, if_neg h1, if_pos h2]
  have hW : waveCheck ws k = waveAll k [] ws := by rw [waveCheck, if_neg h1, if_neg h2]
  rw [hW]
  have hle := hx.le
  intro _
  refine ⟨fun vs _ => ∃ (d : Int) (i : Nat) (s : List Int), vs = [i64 d, i64 i, .agg (seenCells s).toArray] ∧ i ≤ l ∧ waveAll k s (ws.drop i) = waveAll k [] ws, upTo l 1, ⟨0, 0, [], rfl, by omega, rfl⟩, fun d n cs H' hN hI => ?_⟩
  obtain ⟨d', i, s, hvs, hi, hI⟩ := hI
  obtain ⟨rfl, rfl, rfl⟩ : d = d' ∧ n = (i : Int) ∧ cs = seenCells s := by simpa using hvs
  refine ⟨fun hlt => hx.slice hN.ext (by omega) hlt fun w a' n' c' hw hs => ?_, fun hge => ?_⟩
  · rw [Int.toNat_natCast] at hw
    rw [drop_at hw, waveAll] at hI
    have hwl := hs.len
    have hwle := hs.le
    refine ⟨fun h0 => ?_, fun h0 => ?_⟩
    · rw [← hI, if_pos (List.length_eq_zero_iff.1 (by omega))]
    · rw [if_neg (by rintro rfl; simp at hwl; omega)] at hI
      refine ⟨fun vs _ => ∃ (d2 : Int) (j : Nat) (s' : List Int), vs = [i64 d2, i64 j, .agg (seenCells s').toArray] ∧ j ≤ n' ∧ (match waveIn k s' (w.drop j) with | .error e => e | .ok s'' => waveAll k s'' (ws.drop (i + 1))) = waveAll k [] ws,
        upTo n' 1, ⟨_, 0, s, rfl, by omega, hI⟩, fun d2 m cs2 H2 hN2 hI2 => ?_⟩
      obtain ⟨d3, j, s', hvs2, hj, hI2⟩ := hI2
      obtain ⟨rfl, rfl, rfl⟩ : d2 = d3 ∧ m = (j : Int) ∧ cs2 = seenCells s' := by simpa using hvs2
      refine ⟨fun hlt2 => ?_, fun hge2 => ?_⟩
      · refine hs.int hN2.ext (by omega) hlt2 fun x hx2 => ?_
        rw [Int.toNat_natCast] at hx2
        rw [drop_at hx2, waveIn] at hI2
        refine ⟨fun hlo => ?_, fun hlo => ⟨fun hhi => ?_, fun hhi => ?_⟩⟩
        · rw [if_pos hlo] at hI2; rw [← hI2]
        · rw [if_neg hlo, if_pos hhi] at hI2; rw [← hI2]
        · rw [if_neg hlo, if_neg hhi] at hI2
          refine ⟨_, _, mapGet_seen x s', fun hm => ?_, fun hm => ?_⟩
          · rw [if_pos (by simpa using hm)] at hI2; rw [← hI2]
          · have hm' : x ∉ s' := by simpa using hm
            rw [if_neg hm'] at hI2
            refine ⟨_, mapSet_seen x s' hm', ?_⟩
            rintro r rfl
            rw [wrap_in (by omega) (by omega)]
            exact ⟨⟨_, j + 1, s' ++ [x], rfl, by omega, hI2⟩, by simp [upTo]; omega⟩
      · rw [drop_all hwl (by omega), waveIn] at hI2
        rintro r rfl
        rw [wrap_in (by omega) (by omega)]
        exact ⟨⟨_, i + 1, s', rfl, by omega, hI2⟩, by simp [upTo]; omega⟩
  · rw [drop_all hx.len (by omega), waveAll] at hI
    rw [← hI, seenCells_len]
    refine ⟨fun h => ?_, fun h => ?_⟩
    · rw [if_pos (by omega)]
    · rw [if_neg (by omega)]
theorem wrap_small {n : Int} (h : -100000 ≤ n) (h' : n ≤ 100000) : IntKind.wrap .i64 n = n := wrap_in (by omega) (by omega)
/-! ### wave.Of -/
theorem cWaveOf {H : Heap} {a : Option Addr} {l c : Nat} {ws : List (List Int)} (hx : Waves H a l ws) (k : Int) : Spec Tryz.prog 116 [.slice a l c, i64 k] H fun v _ => v = i64 (waveOf ws k) := by
  have h105 : ∀ {H : Heap} {a : Option Addr} {l c : Nat} {xs : List Int} {p : Nat}, Sl RInt 1 H a l xs → H.cell p 0 = some (i64 k) → Spec Tryz.prog 139 [.slice a l c, .pointer (some ⟨p, 0, none⟩)] H fun v _ => v = .bool (decide (k ∈ xs)) := by
    intro H a l c xs p hx hp
    refine Tryzvc Tryz.func139 (by kernel_rfl) (by kernel_rfl) _ rfl (fun base K => vc105 a l c p base H K) fun base hb => ⟨k, hp, (cContains hx k).bool1 fun H' _ _ => rfl⟩
  have h104 : ∀ {H : Heap} {a : Option Addr} {l c : Nat} {ws : List (List Int)} {p : Nat}, Waves H a l ws → H.cell p 0 = some (i64 k) → Spec Tryz.prog 138 [.slice a l c, .func (.func 139) #[] #[.pointer (some ⟨p, 0, none⟩)]] H fun v _ => v = i64 (waveOf ws k) := by
    intro H a l c ws p hx hp
    refine Tryzvc Tryz.func138 (by kernel_rfl) (by kernel_rfl) _ rfl (fun base K => vc104 a l c p base H K) fun base hb => ?_
    have hle := hx.le
    refine ⟨fun vs _ => ∃ (d : Int) (i : Nat), vs = [i64 d, i64 i] ∧ i ≤ l ∧ waveOfFrom k i (ws.drop i) = waveOf ws k, upTo l 1, ⟨0, 0, rfl, by omega, rfl⟩, fun d n H' hN hI => ?_⟩
    obtain ⟨d', i, hvs, hi, hI⟩ := hI
    obtain ⟨rfl, rfl⟩ : d = d' ∧ n = (i : Int) := by simpa using hvs
    refine ⟨fun hlt => hx.slice hN.ext (by omega) hlt fun w a' n' c' hw hs => ?_, fun hge => ?_⟩
    · rw [Int.toNat_natCast] at hw
      rw [drop_at hw, waveOfFrom] at hI
      refine (h105 (hs.ext RInt.mono hN.ext) (Heap.cell_next hN.ext hp)).bool1 fun H2 _ _ => ⟨fun h => ?_, fun h => ?_⟩
      · rw [if_pos (by simpa using h)] at hI; rw [← hI]
      · rw [if_neg (by simpa using h)] at hI
        rintro r rfl
        rw [wrap_in (by omega) (by omega)]
        exact ⟨⟨_, i + 1, rfl, by omega, hI⟩, by simp [upTo]; omega⟩
    · rw [← hI, drop_all hx.len (by omega), waveOfFrom]
  refine Tryzvc Tryz.func116 (by kernel_rfl) (by kernel_rfl) _ rfl (fun base K => vc27 a l c k base H K) fun base hb => ?_
  intro b
  refine ⟨rfl, fun Hl hNl hb => ?_⟩
  refine (h104 (hx.ext' hNl.ext) (p := b) (by unfold Heap.cell; rw [hb.1]; rfl)).mono fun v H2 e2 hv => ⟨_, hv, fun H' hN _ => rfl⟩
/-! ### wave.Now -/
def waveNow (ws : List (List Int)) (th : List Bool) : Int := if waveCheck ws th.length = 0 then nowFrom th 0 ws else 0
theorem cWaveNow {H : Heap} {a a' : Option Addr} {l c l' c' : Nat} {ws : List (List Int)} {th : List Bool} (hx : Waves H a l ws) (ht : Sl RBool 1 H a' l' th) :
    Spec Tryz.prog 114 [.slice a l c, .slice a' l' c'] H fun v _ => v = .tuple #[i64 (waveNow ws th), i64 (waveCheck ws th.length)] := by
  refine Tryzvc Tryz.func114 (by kernel_rfl) (by kernel_rfl) _ rfl (fun base K => vc23 a a' l c l' c' base H K) fun base hb => ?_
  have hle := hx.le
  have htl := ht.len
  rw [htl]
  refine (cWaveCheck hx l').int1 fun H1 e1 hN1 => ⟨fun h => ?_, fun h => ?_⟩
  · rw [waveNow, htl, if_neg h]
  have h := Decidable.not_not.1 h
  obtain ⟨k1, k2, hnd, hin, hne⟩ := waveCheck_zero h
  have hW : waveNow ws th = nowFrom th 0 ws := by rw [waveNow, htl, if_pos h]
  rw [hW, h]
  refine ⟨fun vs _ => ∃ (d1 d2 : Int) (i : Nat), vs = [i64 d1, i64 d2, i64 i] ∧ i ≤ l ∧ nowFrom th i (ws.drop i) = nowFrom th 0 ws, upTo l 2, ⟨0, 0, 0, rfl, by omega, rfl⟩, fun d1 d2 n H' hN hI => ?_⟩
  obtain ⟨d1', d2', i, hvs, hi, hI⟩ := hI
  obtain ⟨rfl, rfl, rfl⟩ : d1 = d1' ∧ d2 = d2' ∧ n = (i : Int) := by simpa using hvs
  refine ⟨fun hlt => hx.slice hN.ext (by omega) hlt fun w b n' d' hw hs => ?_, fun hge => ?_⟩
  · rw [Int.toNat_natCast] at hw
    rw [drop_at hw, nowFrom] at hI
    have hwle := hs.le
    refine ⟨fun vs _ => ∃ (d1 d2 : Int) (j : Nat), vs = [i64 d1, i64 d2, i64 j] ∧ j ≤ n' ∧ (if (w.drop j).any (notThrough th) then (i : Int) else nowFrom th (i + 1) (ws.drop (i + 1))) = nowFrom th 0 ws,
      upTo n' 2, ⟨_, _, 0, rfl, by omega, hI⟩, fun e1 e2 m H2 hN2 hI2 => ?_⟩
    obtain ⟨e1', e2', j, hvs2, hj, hI2⟩ := hI2
    obtain ⟨rfl, rfl, rfl⟩ : e1 = e1' ∧ e2 = e2' ∧ m = (j : Int) := by simpa using hvs2
    refine ⟨fun hlt2 => hs.int hN2.ext (by omega) hlt2 fun x hx2 => ?_, fun hge2 => ?_⟩
    · rw [Int.toNat_natCast] at hx2
      have hxin := (hin x).1 (List.mem_flatten.2 ⟨w, List.mem_of_getElem? hw, List.mem_of_getElem? hx2⟩)
      rw [drop_at hx2, List.any_cons] at hI2
      refine ht.bool hN2.ext hxin.1 hxin.2 fun y hy => ⟨fun h => ?_, fun h => ?_⟩
      · rw [if_pos (by simp [notThrough, hy, h])] at hI2; rw [← hI2]
      · rintro r rfl
        rw [wrap_in (by omega) (by omega)]
        exact ⟨⟨_, _, j + 1, rfl, by omega, by simpa [notThrough, hy, h] using hI2⟩, by simp [upTo]; omega⟩
    · rw [drop_all hs.len (by omega), if_neg (by simp)] at hI2
      rintro r rfl
      rw [wrap_in (by omega) (by omega)]
      exact ⟨⟨_, _, i + 1, rfl, by omega, hI2⟩, by simp [upTo]; omega⟩
  · rw [← hI, drop_all hx.len (by omega), nowFrom]
    rw [show (i : Int) = l from by omega]
theorem min_cases (a b : Int) : (if b < a then b else a) = min a b := by split <;> omega
/-! ### The law -/
theorem ints_of_box {H : Heap} {g : Nat} {ty : TypeId} {xs : List Int} {n : Nat} (h : H g = some (boxKB ty (xs.map i64))) (hn : xs.length = n) (hle : (n : Int) ≤ 9223372036854775807) : Sl RInt 1 H (some ⟨g, 0, none⟩) n xs :=
  Sl.of_has (rows := intRows xs) (Has.of_box h (by clear h hn; induction xs with | nil => rfl | cons x r ih => simp [intRows] at ih ⊢; exact ih) (by intro r hr; simp [intRows] at hr; obtain ⟨x, _, rfl⟩ := hr; rfl) (by simp [intRows]; exact hn) hle) (by simp [intRows])
    fun i r x hr hx => by
      simp [intRows] at hr
      obtain ⟨y, hy, rfl⟩ := hr
      rw [hx] at hy
      obtain rfl := Option.some.inj hy
      rfl
theorem bools_of_box {H : Heap} {g : Nat} {ty : TypeId} {xs : List Bool} {n : Nat} (h : H g = some (boxKB ty (xs.map Value.bool))) (hn : xs.length = n) (hle : (n : Int) ≤ 9223372036854775807) : Sl RBool 1 H (some ⟨g, 0, none⟩) n xs :=
  Sl.of_has (rows := xs.map fun x => [.bool x]) (Has.of_box h (by clear h hn; induction xs with | nil => rfl | cons x r ih => simp at ih ⊢; exact ih) (by intro r hr; simp at hr; rcases hr with ⟨_, rfl⟩ | ⟨_, rfl⟩ <;> rfl) (by simp; exact hn) hle) (by simp)
    fun i r x hr hx => by rw [List.getElem?_map, hx] at hr; simp at hr; exact hr.symm
end Go.Vg
set_option maxRecDepth 100000
set_option linter.unusedSimpArgs false
set_option linter.unusedVariables false
namespace Go.Vg
open Go Go.Proofs
theorem neq48 {xo yo : Operand} (a b c d : Int) : RunsTo Tryz.prog (binRun .neq 80 xo yo (.agg #[.int .i64 a, .int .i64 b]) (.agg #[.int .i64 c, .int .i64 d])) (.bool (!(a == c && b == d))) := by
  intro w
  have u3 := Tryz.underlying3
  have a3 := Tryz.isAgg3
  have z3 := Tryz.sizeOf3
  have hS : Tryz.prog.underlying 80 = some (.struct (Tryz.prog.fieldsOf 80)) := by kernel_rfl
  have hp : Tryz.prog.stoodInHeld 80 = false := by kernel_rfl
  have hm : Tryz.prog.eqGuardType Tryz.prog.depth 80 = false := by kernel_rfl
  have he : (Op.equalIn 10000 80 (.agg #[.int .i64 a, .int .i64 b]) (.agg #[.int .i64 c, .int .i64 d])).run Tryz.prog w = .ok (a == c && b == d) w := by
    rw [show (10000 : Nat) = 9999 + 1 from rfl, run_equalIn_agg w 9999 80 _ _ hS hp]
    simp only [Program.fieldsOf, Tryz.underlying80]
    go_simp
    by_cases h1 : a = c <;> by_cases h2 : b = d <;> simp [h1, h2]
  simp only [binRun, Sem.run_bind, run_eqGuard_agg w _ 80 _ _ _ _ hm, Result.andThen_ok, run_neq_struct, he]
theorem eqNil {ty e : TypeId} (h : Tryz.prog.underlying ty = some (.slice e)) {xo : Operand} {a : Option Addr} {n c : Nat} : RunsTo Tryz.prog (binRun .eql ty xo (.const (.slice none 0 0)) (.slice a n c) (.slice none 0 0)) (.bool a.isNone) := by
  intro w
  have hg : (eqGuard .eql ty xo (.const (.slice none 0 0)) (.slice a n c) (.slice none 0 0)).run Tryz.prog w = .ok () w := by simp [eqGuard]
  simp only [binRun, Sem.run_bind, hg, Result.andThen_ok]
  have := run_equal_slice_nil w ty e a n c h
  simp [binOp, this]
theorem eqBool {xo yo : Operand} {a b : Bool} : RunsTo Tryz.prog (binRun .eql 4 xo yo (.bool a) (.bool b)) (.bool (a == b)) := by
  intro w
  have hg : (eqGuard .eql 4 xo yo (.bool a) (.bool b)).run Tryz.prog w = .ok () w := by simp [eqGuard]
  simp only [binRun, Sem.run_bind, hg, Result.andThen_ok]
  have := run_equal_bool w 4 a b Tryz.underlying4
  simp [binOp, this]
end Go.Vg
set_option linter.unusedSimpArgs false
set_option maxRecDepth 100000
set_option linter.unusedVariables false
namespace Go.Vg
open Go Go.Proofs
/-! ### lock.Check -/
def lastName (xs : List Pin) : Nat → Int
  | 0 => 0
  | i + 1 => match xs[i]? with | some p => p.name | none => 0
theorem cLockCheck {H : Heap} {a : Option Addr} {l c : Nat} {xs : List Pin} (hx : Pins H a l xs) : Spec Tryz.prog 81 [.slice a l c] H fun v _ => v = i64 (lockCheck xs) := by
  refine Tryzvc Tryz.func81 (by kernel_rfl) (by kernel_rfl) _ rfl (fun base K => vc62 a l c base H K) fun base hb => ?_
  have hl := hx.len
  refine ⟨fun h => ?_, fun h => ?_⟩
  · rw [lockCheck, if_pos (by omega)]
  have hW : lockCheck xs = lockFrom 0 xs := by rw [lockCheck, if_neg (by omega)]
  rw [hW]
  refine ⟨fun vs _ => ∃ (d : Int) (i : Nat), vs = [i64 d, i64 i] ∧ i ≤ l ∧ lockFrom (lastName xs i) (xs.drop i) = lockFrom 0 xs, upTo l 1, ⟨0, 0, rfl, by omega, rfl⟩, fun d n H' hN hI => ?_⟩
  obtain ⟨d', i, hvs, hi, hI⟩ := hI
  obtain ⟨rfl, rfl⟩ : d = d' ∧ n = (i : Int) := by simpa using hvs
  refine ⟨fun hlt => hx.pin hN.ext (by omega) hlt fun p hp => ?_, fun hge => ?_⟩
  · rw [Int.toNat_natCast] at hp
    rw [drop_at hp, lockFrom] at hI
    intro _
    have hnext : lastName xs (i + 1) = p.name := by simp [lastName, hp]
    refine ⟨fun h1 => ?_, fun h1 => ⟨fun h2 => ?_, fun h2 => ⟨fun h3 => ?_, fun h3 => ⟨fun h4 => ?_, fun h4 => ⟨fun h5 => ?_, fun h5 => ?_⟩⟩⟩⟩⟩
    · rw [if_pos (by unfold badPin; omega)] at hI; rw [← hI]
    · rw [if_pos (by unfold badPin; omega)] at hI; rw [← hI]
    · rw [if_pos (by unfold badPin; omega)] at hI; rw [← hI]
    · rw [if_pos (by unfold badPin; omega)] at hI; rw [← hI]
    · rw [if_neg (by unfold badPin; omega)] at hI
      rintro r rfl
      rw [wrap_small (by omega) (by omega)]
      refine hx.pinName hN.ext (by omega) (by omega) fun q hq => ?_
      have hlast : lastName xs i = q.name := by
        obtain ⟨j, rfl⟩ : ∃ j, i = j + 1 := ⟨i - 1, by omega⟩
        rw [show ((j + 1 : Nat) : Int) - 1 = (j : Int) from by omega, Int.toNat_natCast] at hq
        simp [lastName, hq]
      rw [hlast] at hI
      refine ⟨fun h6 => ?_, fun h6 => ?_⟩
      · rw [if_pos h6] at hI; rw [← hI]
      · rw [if_neg h6] at hI
        rintro r rfl
        rw [wrap_small (by omega) (by omega)]
        exact ⟨⟨_, i + 1, rfl, by omega, by rw [hnext]; exact hI⟩, by simp [upTo]; omega⟩
    · rw [if_neg (by unfold badPin; omega)] at hI
      obtain rfl : i = 0 := by omega
      rw [if_neg (by simp [lastName]; omega)] at hI
      rintro r rfl
      rw [wrap_small (by omega) (by omega)]
      exact ⟨⟨_, 1, rfl, by omega, by rw [hnext]; exact hI⟩, by simp [upTo]; omega⟩
  · rw [← hI, drop_all hx.len (by omega), lockFrom]
theorem cRefLockCheck {H : Heap} {a : Option Addr} {l c : Nat} {xs : List Pin} (hx : Pins H a l xs) : Spec Tryz.prog 135 [.slice a l c] H fun v _ => v = i64 (lockCheck xs) := by
  refine Tryzvc Tryz.func135 (by kernel_rfl) (by kernel_rfl) _ rfl (fun base K => vc108 a l c base H K) fun base hb => ?_
  have hl := hx.len
  refine ⟨fun h => ?_, fun h => ?_⟩
  · rw [lockCheck, if_pos (by omega)]
  have hW : lockCheck xs = lockFrom 0 xs := by rw [lockCheck, if_neg (by omega)]
  rw [hW]
  refine ⟨fun vs _ => ∃ (d m : Int) (i : Nat), vs = [i64 d, i64 m, i64 i] ∧ i ≤ l ∧ lockFrom m (xs.drop i) = lockFrom 0 xs, upTo l 2, ⟨0, 0, 0, rfl, by omega, rfl⟩, fun d m n H' hN hI => ?_⟩
  obtain ⟨d', m', i, hvs, hi, hI⟩ := hI
  obtain ⟨rfl, rfl, rfl⟩ : d = d' ∧ m = m' ∧ n = (i : Int) := by simpa using hvs
  refine ⟨fun hlt => hx.pin hN.ext (by omega) hlt fun p hp => ?_, fun hge => ?_⟩
  · rw [Int.toNat_natCast] at hp
    rw [drop_at hp, lockFrom] at hI
    intro _
    refine (cIn _ _ _).bool1 fun H1 _ _ => ⟨fun h1 => ?_, fun h1 => (cIn _ _ _).bool1 fun H2 _ _ => ⟨fun h2 => ?_, fun h2 => ⟨fun h3 => ?_, fun h3 => ?_⟩⟩⟩
    · have : ¬ (1 ≤ p.name ∧ p.name ≤ 20) := by simpa [inR] using h1
      rw [if_pos (by unfold badPin; omega)] at hI; rw [← hI]
    · have : ¬ (1 ≤ p.ver ∧ p.ver ≤ 99) := by simpa [inR] using h2
      rw [if_pos (by unfold badPin; omega)] at hI; rw [← hI]
    · have h1' : 1 ≤ p.name ∧ p.name ≤ 20 := by simpa [inR] using h1
      have h2' : 1 ≤ p.ver ∧ p.ver ≤ 99 := by simpa [inR] using h2
      rw [if_neg (by unfold badPin; omega), if_pos h3] at hI; rw [← hI]
    · have h1' : 1 ≤ p.name ∧ p.name ≤ 20 := by simpa [inR] using h1
      have h2' : 1 ≤ p.ver ∧ p.ver ≤ 99 := by simpa [inR] using h2
      rw [if_neg (by unfold badPin; omega), if_neg h3] at hI
      rintro r rfl
      rw [wrap_small (by omega) (by omega)]
      exact ⟨⟨_, _, i + 1, rfl, by omega, hI⟩, by simp [upTo]; omega⟩
  · rw [← hI, drop_all hx.len (by omega), lockFrom]
/-! ### lock.Find -/
def pinIdx (k : Int) : Int → List Pin → Int
  | _, [] => -1
  | i, p :: r => if p.name = k then i else pinIdx k (i + 1) r
theorem pinIdx_spec (k : Int) : ∀ (xs : List Pin) (i : Int), 0 ≤ i → (pinIdx k i xs = -1 ∧ find xs k = 0 ∧ ∀ p ∈ xs, p.name ≠ k) ∨ ∃ (j : Nat) (p : Pin), pinIdx k i xs = i + j ∧ xs[j]? = some p ∧ find xs k = p.ver ∧ p.name = k
  | [], i, _ => .inl ⟨rfl, rfl, by simp⟩
  | p :: r, i, hi => by
    unfold pinIdx
    by_cases e : p.name = k
    · rw [if_pos e]; exact .inr ⟨0, p, by simp, rfl, by rw [find, if_pos e], e⟩
    · rw [if_neg e]
      rcases pinIdx_spec k r (i + 1) (by omega) with ⟨h1, h2, h3⟩ | ⟨j, q, h1, h2, h3, h4⟩
      · exact .inl ⟨h1, by rw [find, if_neg e, h2], fun q hq => by rcases List.mem_cons.1 hq with rfl | hq; exact e; exact h3 q hq⟩
      · exact .inr ⟨j + 1, q, by rw [h1]; omega, by simpa using h2, by rw [find, if_neg e, h3], h4⟩
theorem cPinIdx {H : Heap} {a : Option Addr} {l c : Nat} {xs : List Pin} (hx : Pins H a l xs) {k : Int} {p : Nat} (hp : H.cell p 0 = some (i64 k)) :
    Spec Tryz.prog 82 [.slice a l c, .func (.func 136) #[] #[.pointer (some ⟨p, 0, none⟩)]] H fun v _ => v = i64 (pinIdx k 0 xs) := by
  have h114 : ∀ {H : Heap} {n v : Int}, H.cell p 0 = some (i64 k) → Spec Tryz.prog 136 [.agg #[.int .i64 n, .int .i64 v], .pointer (some ⟨p, 0, none⟩)] H fun r _ => r = .bool (decide (n = k)) := by
    intro H n v hp
    refine Tryzvc Tryz.func136 (by kernel_rfl) (by kernel_rfl) _ rfl (fun base K => vc114 n v p base H K) fun base hb => ?_
    intro _
    exact ⟨k, hp, rfl⟩
  refine Tryzvc Tryz.func82 (by kernel_rfl) (by kernel_rfl) _ rfl (fun base K => vc113 a l c p base H K) fun base hb => ?_
  have hle := hx.le
  refine ⟨fun vs _ => ∃ (d : Int) (i : Nat), vs = [i64 d, i64 i] ∧ i ≤ l ∧ pinIdx k i (xs.drop i) = pinIdx k 0 xs, upTo l 1, ⟨0, 0, rfl, by omega, rfl⟩, fun d n H' hN hI => ?_⟩
  obtain ⟨d', i, hvs, hi, hI⟩ := hI
  obtain ⟨rfl, rfl⟩ : d = d' ∧ n = (i : Int) := by simpa using hvs
  refine ⟨fun hlt => hx.pin hN.ext (by omega) hlt fun q hq => ?_, fun hge => ?_⟩
  · rw [Int.toNat_natCast] at hq
    rw [drop_at hq, pinIdx] at hI
    refine (h114 (Heap.cell_next hN.ext hp)).bool1 fun H2 _ _ => ⟨fun h => ?_, fun h => ?_⟩
    · rw [if_pos (by simpa using h)] at hI; rw [← hI]
    · rw [if_neg (by simpa using h)] at hI
      rintro r rfl
      rw [wrap_in (by omega) (by omega)]
      exact ⟨⟨_, i + 1, rfl, by omega, hI⟩, by simp [upTo]; omega⟩
  · rw [← hI, drop_all hx.len (by omega), pinIdx]
theorem cFind {H : Heap} {a : Option Addr} {l c : Nat} {xs : List Pin} (hx : Pins H a l xs) (k : Int) : Spec Tryz.prog 109 [.slice a l c, i64 k] H fun v _ => v = i64 (find xs k) := by
  refine Tryzvc Tryz.func109 (by kernel_rfl) (by kernel_rfl) _ rfl (fun base K => vc42 a l c k base H K) fun base hb => ?_
  intro b
  refine ⟨rfl, fun Hl hNl hb => ?_⟩
  refine (cPinIdx (hx.ext' hNl.ext) (k := k) (p := b) (by unfold Heap.cell; rw [hb.1]; rfl)).mono fun v H2 e2 hv => ⟨_, hv, fun H' hN _ => ?_⟩
  rcases pinIdx_spec k xs 0 (by omega) with ⟨h1, h2, _⟩ | ⟨j, p, h1, h2, h3, _⟩
  · rw [h1, h2]; exact ⟨fun _ => rfl, fun h => absurd (by omega) h⟩
  · rw [h1]
    have hj := (List.getElem?_eq_some_iff.1 h2).1
    have hl := hx.len
    refine ⟨fun h => by omega, fun _ => hx.pinVer hN.ext (by omega) (by omega) fun q hq => ?_⟩
    rw [show (0 + (j : Int)).toNat = j from by omega, h2] at hq
    obtain rfl := Option.some.inj hq
    rw [h3]
/-! ### rule.Check -/
theorem get_two {x y n : Int} {k : Nat} (hk : k < 2) (h : n = if k = 0 then x else y) : ([Value.int .i64 x, Value.int .i64 y] : List Value)[k * 1]? = some (.int .i64 n) := by
  subst h
  match k, hk with
  | 0, _ => rfl
  | 1, _ => rfl
theorem cRuleCheck {H : Heap} {a : Option Addr} {l c : Nat} {rs : List Rule} (hx : Rules H a l rs) : Spec Tryz.prog 121 [.slice a l c] H fun v _ => v = i64 (rulesCheck rs) := by
  refine Tryzvc Tryz.func121 (by kernel_rfl) (by kernel_rfl) _ rfl (fun base K => vc39 a l c base H K) fun base hb => ?_
  have hl := hx.len
  refine ⟨fun h => ?_, fun h => ?_⟩
  · rw [rulesCheck, if_pos (by omega)]
  have hW : rulesCheck rs = rulesFrom rs := by rw [rulesCheck, if_neg (by omega)]
  rw [hW]
  refine ⟨fun vs _ => ∃ (d : Int) (i : Nat), vs = [i64 d, i64 i] ∧ i ≤ l ∧ rulesFrom (rs.drop i) = rulesFrom rs, upTo l 1, ⟨0, 0, rfl, by omega, rfl⟩, fun d n H' hN hI => ?_⟩
  obtain ⟨d', i, hvs, hi, hI⟩ := hI
  obtain ⟨rfl, rfl⟩ : d = d' ∧ n = (i : Int) := by simpa using hvs
  refine ⟨fun hlt => hx.rule hN.ext (by omega) hlt fun p hp => ?_, fun hge => ?_⟩
  · rw [Int.toNat_natCast] at hp
    rw [drop_at hp, rulesFrom] at hI
    intro _
    refine ⟨fun vs _ => ∃ (d : Int) (j : Nat), vs = [i64 d, i64 j] ∧ j ≤ 2 ∧ (0 < j → 1 ≤ p.name ∧ p.name ≤ 20) ∧ (1 < j → 1 ≤ p.wth ∧ p.wth ≤ 20), upTo 2 1, ⟨_, 0, rfl, by omega, by omega, by omega⟩, fun d2 m H2 hN2 hI2 => ?_⟩
    obtain ⟨d3, j, hvs2, hj, hj0, hj1⟩ := hI2
    obtain ⟨rfl, rfl⟩ : d2 = d3 ∧ m = (j : Int) := by simpa using hvs2
    refine ⟨fun hlt2 => ⟨by omega, hlt2, (if j = 0 then p.name else p.wth), ?_, fun g1 => ?_, fun g1 => ⟨fun g2 => ?_, fun g2 => ?_⟩⟩, fun hge2 => ?_⟩
    · rw [Int.toNat_natCast]; exact get_two (by omega) rfl
    · rw [if_pos (by unfold badRule; split at g1 <;> omega)] at hI; rw [← hI]
    · rw [if_pos (by unfold badRule; split at g2 <;> omega)] at hI; rw [← hI]
    · rintro r rfl
      rw [wrap_small (by omega) (by omega)]
      refine ⟨rfl, ⟨_, j + 1, rfl, by omega, fun _ => ?_, fun _ => ?_⟩, by simp [upTo]; omega⟩
      · by_cases e : j = 0
        · subst e; simp at g1 g2; omega
        · exact hj0 (by omega)
      · have e : j ≠ 0 := by omega
        simp [e] at g1 g2; omega
    · obtain rfl : j = 2 := by omega
      have k0 := hj0 (by omega)
      have k1 := hj1 (by omega)
      refine ⟨fun vs _ => ∃ (d : Int) (j : Nat), vs = [i64 d, i64 j] ∧ j ≤ 2 ∧ (0 < j → 1 ≤ p.ver ∧ p.ver ≤ 99) ∧ (1 < j → 1 ≤ p.least ∧ p.least ≤ 99), upTo 2 1, ⟨_, 0, rfl, by omega, by omega, by omega⟩, fun d2 m H2 hN2 hI2 => ?_⟩
      obtain ⟨d3, j, hvs2, hj, hj0, hj1⟩ := hI2
      obtain ⟨rfl, rfl⟩ : d2 = d3 ∧ m = (j : Int) := by simpa using hvs2
      refine ⟨fun hlt2 => ⟨by omega, hlt2, (if j = 0 then p.ver else p.least), ?_, fun g1 => ?_, fun g1 => ⟨fun g2 => ?_, fun g2 => ?_⟩⟩, fun hge2 => ?_⟩
      · rw [Int.toNat_natCast]; exact get_two (by omega) rfl
      · rw [if_pos (by unfold badRule; split at g1 <;> omega)] at hI; rw [← hI]
      · rw [if_pos (by unfold badRule; split at g2 <;> omega)] at hI; rw [← hI]
      · rintro r rfl
        rw [wrap_small (by omega) (by omega)]
        refine ⟨rfl, ⟨_, j + 1, rfl, by omega, fun _ => ?_, fun _ => ?_⟩, by simp [upTo]; omega⟩
        · by_cases e : j = 0
          · subst e; simp at g1 g2; omega
          · exact hj0 (by omega)
        · have e : j ≠ 0 := by omega
          simp [e] at g1 g2; omega
      · obtain rfl : j = 2 := by omega
        have k2 := hj0 (by omega)
        have k3 := hj1 (by omega)
        rw [if_neg (by unfold badRule; omega)] at hI
        refine ⟨fun h => ?_, fun h => ?_⟩
        · rw [if_pos h] at hI; rw [← hI]
        · rw [if_neg h] at hI
          rintro r rfl
          rw [wrap_small (by omega) (by omega)]
          exact ⟨⟨_, i + 1, rfl, by omega, hI⟩, by simp [upTo]; omega⟩
  · rw [← hI, drop_all hx.len (by omega), rulesFrom]
/-! ### rule.Broken -/
theorem cBroken {H : Heap} {a a' : Option Addr} {l c l' c' : Nat} {xs : List Pin} {rs : List Rule} (hx : Pins H a l xs) (hr : Rules H a' l' rs) :
    Spec Tryz.prog 89 [.slice a l c, .slice a' l' c'] H fun v _ => v = .tuple #[i64 (broken xs rs), i64 (brokenErr xs rs)] := by
  refine Tryzvc Tryz.func89 (by kernel_rfl) (by kernel_rfl) _ rfl (fun base K => vc34 a a' l c l' c' base H K) fun base hb => ?_
  refine (cLockCheck hx).int1 fun H1 e1 hN1 => ⟨fun h => ?_, fun h => (cRuleCheck (hr.ext' e1)).int1 fun H2 e2 hN2 => ⟨fun h2 => ?_, fun h2 => ?_⟩⟩
  · have e : brokenErr xs rs = lockCheck xs := by rw [brokenErr, if_neg h]
    rw [broken, e, if_neg h]
  · have e : brokenErr xs rs = rulesCheck rs := by rw [brokenErr, if_pos (Decidable.not_not.1 h)]
    rw [broken, e, if_neg h2]
  have e : brokenErr xs rs = 0 := by rw [brokenErr, if_pos (Decidable.not_not.1 h)]; exact Decidable.not_not.1 h2
  have hW : broken xs rs = brokenFrom xs 0 rs := by rw [broken, if_pos e]
  rw [e, hW]
  have hle := hr.le
  refine ⟨fun vs _ => ∃ (d1 d2 : Int) (i : Nat), vs = [i64 d1, i64 d2, i64 i] ∧ i ≤ l' ∧ brokenFrom xs i (rs.drop i) = brokenFrom xs 0 rs, upTo l' 2, ⟨0, 0, 0, rfl, by omega, rfl⟩, fun d1 d2 n H' hN hI => ?_⟩
  obtain ⟨d1', d2', i, hvs, hi, hI⟩ := hI
  obtain ⟨rfl, rfl, rfl⟩ : d1 = d1' ∧ d2 = d2' ∧ n = (i : Int) := by simpa using hvs
  refine ⟨fun hlt => hr.rule hN.ext (by omega) hlt fun p hp => ?_, fun hge => ?_⟩
  · rw [Int.toNat_natCast] at hp
    rw [drop_at hp, brokenFrom] at hI
    intro _
    refine (cFind (hx.ext' hN.ext) _).int1 fun H3 e3 hN3 => ⟨fun h3 => (cFind ((hx.ext' hN.ext).ext' e3) _).int1 fun H4 e4 hN4 => ⟨fun h4 => ?_, fun h4 => ?_⟩, fun h3 => ?_⟩
    · rw [if_pos ⟨h3, h4⟩] at hI; rw [← hI]
    · rw [if_neg (fun h => h4 h.2)] at hI
      rintro r rfl
      rw [wrap_in (by omega) (by omega)]
      exact ⟨⟨_, _, i + 1, rfl, by omega, hI⟩, by simp [upTo]; omega⟩
    · rw [if_neg (fun h => h3 h.1)] at hI
      rintro r rfl
      rw [wrap_in (by omega) (by omega)]
      exact ⟨⟨_, _, i + 1, rfl, by omega, hI⟩, by simp [upTo]; omega⟩
  · rw [← hI, drop_all hr.len (by omega), brokenFrom]
/-! ### up -/
end Go.Vg
set_option linter.unusedSimpArgs false
set_option maxRecDepth 100000
set_option linter.unusedVariables false
namespace Go.Vg
open Go Go.Proofs
theorem drop_eq_iff {α : Type} {xs ys : List α} {k : Nat} {p q : α} (hp : xs[k]? = some p) (hq : ys[k]? = some q) : (xs.drop k = ys.drop k) ↔ (p = q ∧ xs.drop (k + 1) = ys.drop (k + 1)) := by
  rw [drop_at hp, drop_at hq]; simp
theorem cEqPins {H : Heap} {a a' : Option Addr} {l c l' c' : Nat} {xs ys : List Pin} (hx : Pins H a l xs) (hy : Pins H a' l' ys) :
    Spec Tryz.prog 42 [.slice a l c, .slice a' l' c'] H fun v _ => v = .bool (decide (xs = ys)) := by
  refine Tryzvc Tryz.func42 (by kernel_rfl) (by kernel_rfl) _ rfl (fun base K => vc41 a a' l c l' c' base H K) fun base hb => ?_
  have hxl := hx.len
  have hyl := hy.len
  have hle := hx.le
  refine ⟨fun hne => ?_, fun he => ?_⟩
  · rw [decide_eq_false]; rintro rfl; omega
  · refine ⟨fun vs _ => ∃ (b : Bool) (k : Nat), vs = [.bool b, i64 k] ∧ k ≤ l ∧ (xs.drop k = ys.drop k ↔ xs = ys), upTo l 1, ⟨false, 0, rfl, by omega, by simp⟩, fun b n H' hN hI => ?_⟩
    obtain ⟨b', k, hvs, hk, hI⟩ := hI
    obtain ⟨rfl, rfl⟩ : b = b' ∧ n = (k : Int) := by simpa using hvs
    refine ⟨fun hlt => hx.pin hN.ext (by omega) hlt fun p hp => hy.pin hN.ext (by omega) (by omega) fun q hq => ⟨_, neq48 _ _ _ _, fun h => ?_, fun h => ?_⟩, fun hge => ?_⟩
    · rw [Int.toNat_natCast] at hp hq
      rw [drop_eq_iff hp hq] at hI
      rw [decide_eq_false]
      intro e
      obtain ⟨rfl, _⟩ := hI.2 e
      simp at h
    · rw [Int.toNat_natCast] at hp hq
      rw [drop_eq_iff hp hq] at hI
      have hpq : p = q := by
        cases p; cases q; simp at h; simp [h]
      rintro r rfl
      rw [wrap_in (by omega) (by omega)]
      exact ⟨⟨b, k + 1, rfl, by omega, by rw [← hI]; simp [hpq]⟩, by simp [upTo]; omega⟩
    · rw [decide_eq_true]
      exact hI.1 (by rw [drop_all hxl (by omega), drop_all hyl (by omega)])
/-! ### rule.Mend -/
def mendedN (rs : List Rule) (n : Nat) (l : List Pin) : Except Int (List Pin) := if brokenErr l rs = 0 then mend rs n l else .error (brokenErr l rs)
theorem pins_of_row {base : Nat} {H : Heap} {e : TypeId} {a : Option Addr} {n c : Nat} {xs : List Pin} (h : Row base H e 2 a n c (xs.flatMap pinCells)) : Pins H a n xs := sl_of_rowE pinCells_len (by omega) h
theorem one_pins (xs : List Pin) : allOne (xs.flatMap pinCells) = true := allOne_flat (fun _ => rfl) xs
theorem one_rules (xs : List Rule) : allOne (xs.flatMap ruleCells) = true := allOne_flat (fun _ => rfl) xs
/-! ### Tables -/
def tabCells (l : List Pin) : List Value := (tabI l).map i64
theorem tabCells_len (l : List Pin) : (tabCells l).length = 21 := by simp [tabCells, tabI]
theorem allOne_ints : ∀ l : List Int, allOne (l.map i64) = true
  | [] => rfl
  | x :: r => by simp only [List.map_cons, allOne, Bool.and_eq_true]; exact ⟨rfl, allOne_ints r⟩
theorem tabCells_one (l : List Pin) : allOne (tabCells l) = true := allOne_ints _
theorem tabCells_at (l : List Pin) {i : Nat} (hi : i < 21) : (tabCells l)[i]? = some (i64 (find l i)) := by rw [tabCells, List.getElem?_map, tabI_at l hi]; rfl
def tabSet : List Value → List Pin → List Value
  | cs, [] => cs
  | cs, p :: r => tabSet (cs.set (0 + p.name.toNat * 1) (i64 p.ver)) r
theorem tabSet_map : ∀ (xs : List Pin), Lk xs → ∀ f : Nat → Int, tabSet ((List.range 21).map fun n => i64 (f n)) xs = (List.range 21).map fun n : Nat => i64 (if find xs n = 0 then f n else find xs n)
  | [], _, f => by simp [tabSet, find]
  | p :: r, h, f => by
    have hp := h.name (p := p) List.mem_cons_self
    have e : ((List.range 21).map fun n => i64 (f n)).set (0 + p.name.toNat * 1) (i64 p.ver) = (List.range 21).map fun n : Nat => i64 (if (n : Int) = p.name then p.ver else f n) := by
      apply List.ext_getElem?
      intro i
      rw [List.getElem?_set]
      simp only [List.length_map, List.length_range, List.getElem?_map, Nat.zero_add, Nat.mul_one]
      by_cases hi : i < 21
      · rw [List.getElem?_range hi]
        split
        · rename_i e; rw [if_pos (by omega)]; simp; intro h; omega
        · simp; intro h; omega
      · rw [if_neg (by omega), List.getElem?_eq_none (by simp; omega)]; rfl
    rw [tabSet, e, tabSet_map r h.tail]
    apply List.map_congr_left
    intro n hn
    have hz : find r p.name = 0 := find_none fun x hx => by have := h.head x hx; omega
    by_cases e2 : (n : Int) = p.name
    · rw [e2, hz, if_pos rfl, if_pos rfl, find, if_pos rfl, if_neg (by omega)]
    · simp only [find, if_neg e2, if_neg (fun h : p.name = (n : Int) => e2 h.symm)]
theorem tabSet_zero {xs : List Pin} (h : Lk xs) : tabSet (List.replicate 21 (i64 0)) xs = tabCells xs := by
  have := tabSet_map xs h (fun _ => 0)
  rw [show ((List.range 21).map fun _ => i64 0) = List.replicate 21 (i64 0) from rfl] at this
  rw [this, tabCells, tabI, List.map_map]
  apply List.map_congr_left
  intro n _
  simp only [Function.comp_apply]
  split
  · rename_i e; rw [e]
  · rfl
/-! ### FirstBroken -/
/-! ### Mended -/
theorem tabCells_inj {x y : List Pin} (hx : Lk x) (hy : Lk y) (h : tabCells x = tabCells y) : x = y := by
  refine hx.ext hy fun n => ?_
  by_cases hn : n < 1 ∨ 20 < n
  · rw [hx.find_out hn, hy.find_out hn]
  · have e1 := tabCells_at x (i := n.toNat) (by omega)
    have e2 := tabCells_at y (i := n.toNat) (by omega)
    rw [h, e2] at e1
    rw [show (n.toNat : Int) = n from by omega] at e1
    simpa using e1.symm
open Classical in
noncomputable def tabMeas (vs : List Value) : Nat := if h : ∃ cur, Lk cur ∧ vs[3]? = some (.agg (tabCells cur).toArray) then (1981 - weight h.choose).toNat else 0
theorem tabMeas_eq {cur : List Pin} (h : Lk cur) (x y z : Value) : tabMeas [x, y, z, .agg (tabCells cur).toArray] = (1981 - weight cur).toNat := by
  unfold tabMeas
  have hex : ∃ c, Lk c ∧ [x, y, z, Value.agg (tabCells cur).toArray][3]? = some (.agg (tabCells c).toArray) := ⟨cur, h, rfl⟩
  rw [dif_pos hex]
  have hc := hex.choose_spec
  have : tabCells cur = tabCells hex.choose := by simpa using hc.2
  rw [← tabCells_inj h hc.1 this]
theorem tabCells_up {l : List Pin} (hl : Lk l) {n v : Int} (hn : 1 ≤ n ∧ n ≤ 20) : (tabCells l).set (0 + n.toNat * 1) (i64 v) = tabCells (up n v l) := by
  rw [Nat.zero_add, Nat.mul_one, tabCells, tabCells, ← tab_set hl hn, List.map_set]
/-! ### The laws -/
end Go.Vg
set_option linter.unusedSimpArgs false
set_option maxRecDepth 100000
set_option linter.unusedVariables false
namespace Go.Vg
open Go Go.Proofs
def boolIdx (f : Int → Bool) : Int → List Int → Int
  | _, [] => -1
  | i, x :: r => if f x then i else boolIdx f (i + 1) r
theorem boolIdx_any (f : Int → Bool) : ∀ (l : List Int) (i : Int), 0 ≤ i → (0 ≤ boolIdx f i l ↔ l.any f = true)
  | [], i, _ => by simp [boolIdx]
  | x :: r, i, h => by
    unfold boolIdx
    split
    · rename_i e; simp [h, e]
    · rename_i e; rw [boolIdx_any f r (i + 1) (by omega)]; simp [e]
def atP (k n : Int) : Int := if k.tmod n < 0 then k.tmod n + n else k.tmod n
theorem atP_range (k : Int) {n : Int} (h : 0 < n) : 0 ≤ atP k n ∧ atP k n < n := by
  unfold atP
  have h1 := Int.tmod_lt_of_pos k h
  have h2 : -n < k.tmod n := by
    have := Int.lt_tmod_of_pos k h
    omega
  split <;> omega
theorem cAt {H : Heap} (k n : Int) (h : 0 < n) (h' : n ≤ 9223372036854775807) : Spec Tryz.prog 22 [i64 k, i64 n] H fun v _ => v = i64 (atP k n) := by
  have hr := atP_range k h
  refine Tryzvc Tryz.func22 (by kernel_rfl) (by kernel_rfl) _ rfl (fun base K => vc33 k n base H K) fun base hb => ⟨by omega, fun h1 => ?_, fun h1 => ?_⟩
  · rintro r rfl
    unfold atP at hr ⊢
    rw [if_pos h1] at hr ⊢
    rw [wrap_in (by omega) (by omega)]
  · unfold atP; rw [if_neg h1]
theorem waveNow_spec {ws : List (List Int)} {th : List Bool} (h : waveCheck ws th.length = 0) : ∃ n : Nat, waveNow ws th = n ∧ IsNow ws th n := by
  obtain ⟨n, hn, hI⟩ := nowFrom_spec th ws 0
  exact ⟨n, by rw [waveNow, if_pos h, hn]; omega, hI⟩
theorem now_rises {ws : List (List Int)} {th th' : List Bool} {n m : Nat} (h : IsNow ws th n) (h' : IsNow ws th' m) (hs : ∀ a, notThrough th' a = true → notThrough th a = true) : n ≤ m := by
  rcases Nat.lt_or_ge m n with c | c
  · exfalso
    obtain ⟨w, hw, a, ha, hx⟩ := h'.here (by have := h.le; omega)
    have := h.ahead m w hw c a ha
    rw [hs a hx] at this
    cases this
  · exact c
end Go.Vg
