/- What is proved here: the contracts of the functions of waves, and of the law WaveSays. -/
import Derived.Test.YtonlnlkkokigiaaP2
import Derived.Test.YtonlnlkkokigiaaV2
set_option linter.unusedSimpArgs false
set_option maxRecDepth 100000
set_option linter.unusedVariables false
namespace Go.Vg
open Go Go.Proofs
theorem cIn {H : Heap} (n a b : Int) : Spec Try.prog 102 [i64 n, i64 a, i64 b] H fun v _ => v = .bool (inR n a b) := by
  refine Tryvc Try.func102 (by kernel_rfl) (by kernel_rfl) _ rfl (fun base K => vc102 n a b base H K) fun base hb => ⟨fun h => ?_, fun h => ?_⟩
  · simp [inR, h]
  · simp [inR, h]
def idxFrom (x : Int) : Int → List Int → Int
  | _, [] => -1
  | i, y :: r => if x = y then i else idxFrom x (i + 1) r
theorem idxFrom_mem (x : Int) : ∀ (l : List Int) (i : Int), 0 ≤ i → (0 ≤ idxFrom x i l ↔ x ∈ l)
  | [], i, _ => by simp [idxFrom]
  | y :: r, i, h => by
    unfold idxFrom
    split
    · rename_i e; subst e; simp [h]
    · rename_i e; rw [idxFrom_mem x r (i + 1) (by omega)]; simp [e]
theorem cIndex {H : Heap} {a : Option Addr} {l c : Nat} {xs : List Int} (hx : Sl RInt 1 H a l xs) (x : Int) : Spec Try.prog 140 [.slice a l c, i64 x] H fun v _ => v = i64 (idxFrom x 0 xs) := by
  refine Tryvc Try.func140 (by kernel_rfl) (by kernel_rfl) _ rfl (fun base K => vc140 a l c x base H K) fun base hb => ?_
  have hle := hx.le
  refine ⟨fun vs _ => ∃ (d : Int) (k : Nat), vs = [i64 d, i64 k] ∧ k ≤ l ∧ idxFrom x k (xs.drop k) = idxFrom x 0 xs, upTo l 1, ⟨0, 0, rfl, by omega, rfl⟩, fun d n H' hN hI => ?_⟩
  obtain ⟨d', k, hvs, hk, hI⟩ := hI
  obtain ⟨rfl, rfl⟩ : d = d' ∧ n = (k : Int) := by simpa using hvs
  refine ⟨fun hlt => hx.int hN.ext (by omega) hlt fun y hy => ?_, fun hge => ?_⟩
  · rw [Int.toNat_natCast] at hy
    rw [drop_at hy] at hI
    refine ⟨fun he => ?_, ?_⟩
    · rw [← hI, idxFrom, if_pos he]
    · rintro he r rfl
      rw [wrap_in (by omega) (by omega)]
      exact ⟨⟨d, k + 1, rfl, by omega, by rw [idxFrom, if_neg he] at hI; exact hI⟩, by simp [upTo]; omega⟩
  · rw [← hI, drop_all hx.len (by omega), idxFrom]
theorem cContains {H : Heap} {a : Option Addr} {l c : Nat} {xs : List Int} (hx : Sl RInt 1 H a l xs) (x : Int) : Spec Try.prog 103 [.slice a l c, i64 x] H fun v _ => v = .bool (decide (x ∈ xs)) := by
  refine Tryvc Try.func103 (by kernel_rfl) (by kernel_rfl) _ rfl (fun base K => vc103 a l c x base H K) fun base hb => ?_
  refine (cIndex hx x).int1 fun H' _ _ => ?_
  simp [idxFrom_mem x xs 0 (by omega)]

/-! ### A map of numbers met -/
def seenCells (s : List Int) : List Value := s.flatMap fun x => [i64 x, .bool true]
theorem seenCells_len (s : List Int) : (seenCells s).length = 2 * s.length := by
  induction s with
  | nil => rfl
  | cons a r ih => simp [seenCells] at ih ⊢; omega
theorem mapGet_seen (x : Int) : ∀ s : List Int, mapGet (.bool false) (.int .i64 x) (seenCells s) = some (.bool (decide (x ∈ s)), decide (x ∈ s))
  | [] => by simp [seenCells, mapGet]
  | y :: r => by
    have ih := mapGet_seen x r
    simp only [seenCells, List.flatMap_cons, List.cons_append, List.nil_append, mapGet, keySame, if_pos] at ih ⊢
    by_cases e : y = x
    · subst e; simp
    · have e' : ¬ x = y := fun h => e h.symm
      simp only [e, decide_false, List.mem_cons, e', false_or]; exact ih
theorem mapSet_seen (x : Int) : ∀ s : List Int, x ∉ s → mapSet (.int .i64 x) (.bool true) (seenCells s) = some (seenCells (s ++ [x]))
  | [], _ => rfl
  | y :: r, h => by
    have ih := mapSet_seen x r (fun h' => h (List.mem_cons_of_mem _ h'))
    have e : ¬ y = x := fun h' => h (h' ▸ List.mem_cons_self)
    have e' : ¬ x = y := fun h' => h (h' ▸ List.mem_cons_self)
    simp only [seenCells, List.flatMap_cons, List.cons_append, List.nil_append, mapSet, keySame, if_pos, e, e', decide_false] at ih ⊢
    rw [ih]; rfl

/-! ### wave.Check -/
abbrev Waves (H : Heap) (a : Option Addr) (n : Nat) (l : List (List Int)) : Prop := Sl (RSl RInt 1) 1 H a n l
theorem Waves.ext' {H H' : Heap} {a : Option Addr} {n : Nat} {l : List (List Int)} (h : Waves H a n l) (e : Ext H H') : Waves H' a n l := Sl.ext (RSl.mono RInt.mono) h e
theorem cWaveCheck {H : Heap} {a : Option Addr} {l c : Nat} {ws : List (List Int)} (hx : Waves H a l ws) (k : Int) : Spec Try.prog 26 [.slice a l c, i64 k] H fun v _ => v = i64 (waveCheck ws k) := by
  refine Tryvc Try.func26 (by kernel_rfl) (by kernel_rfl) _ rfl (fun base K => vc26 a l c k base H K) fun base hb => ⟨fun h1 => ?_, fun h1 => ⟨fun h2 => ?_, fun h2 => ?_⟩⟩
  · rw [waveCheck, if_pos h1]
  · rw [waveCheck, if_neg h1, if_pos h2]
  have hW : waveCheck ws k = waveAll k [] ws := by rw [waveCheck, if_neg h1, if_neg h2]
  rw [hW]
  have hle := hx.le
  intro _
  refine ⟨fun vs _ => ∃ (d : Int) (i : Nat) (s : List Int), vs = [i64 d, i64 i, .agg (seenCells s).toArray] ∧ i ≤ l ∧ waveAll k s (ws.drop i) = waveAll k [] ws, upTo l 1, ⟨0, 0, [], rfl, by omega, rfl⟩, fun d n cs H' hN hI => ?_⟩
  obtain ⟨d', i, s, hvs, hi, hI⟩ := hI
  obtain ⟨rfl, rfl, rfl⟩ : d = d' ∧ n = (i : Int) ∧ cs = seenCells s := by simpa using hvs
  refine ⟨fun hlt => hx.slice hN.ext (by omega) hlt fun w a' n' c' hw hs => ?_, fun hge => ?_⟩
  · rw [Int.toNat_natCast] at hw
    rw [drop_at hw, waveAll] at hI
    have hwl := hs.len
    have hwle := hs.le
    refine ⟨fun h0 => ?_, fun h0 => ?_⟩
    · rw [← hI, if_pos (List.length_eq_zero_iff.1 (by omega))]
    · rw [if_neg (by rintro rfl; simp at hwl; omega)] at hI
      refine ⟨fun vs _ => ∃ (d2 : Int) (j : Nat) (s' : List Int), vs = [i64 d2, i64 j, .agg (seenCells s').toArray] ∧ j ≤ n' ∧ (match waveIn k s' (w.drop j) with | .error e => e | .ok s'' => waveAll k s'' (ws.drop (i + 1))) = waveAll k [] ws,
        upTo n' 1, ⟨_, 0, s, rfl, by omega, hI⟩, fun d2 m cs2 H2 hN2 hI2 => ?_⟩
      obtain ⟨d3, j, s', hvs2, hj, hI2⟩ := hI2
      obtain ⟨rfl, rfl, rfl⟩ : d2 = d3 ∧ m = (j : Int) ∧ cs2 = seenCells s' := by simpa using hvs2
      refine ⟨fun hlt2 => ?_, fun hge2 => ?_⟩
      · refine hs.int hN2.ext (by omega) hlt2 fun x hx2 => ?_
        rw [Int.toNat_natCast] at hx2
        rw [drop_at hx2, waveIn] at hI2
        refine ⟨fun hlo => ?_, fun hlo => ⟨fun hhi => ?_, fun hhi => ?_⟩⟩
        · rw [if_pos hlo] at hI2; rw [← hI2]
        · rw [if_neg hlo, if_pos hhi] at hI2; rw [← hI2]
        · rw [if_neg hlo, if_neg hhi] at hI2
          refine ⟨_, _, mapGet_seen x s', fun hm => ?_, fun hm => ?_⟩
          · rw [if_pos (by simpa using hm)] at hI2; rw [← hI2]
          · have hm' : x ∉ s' := by simpa using hm
            rw [if_neg hm'] at hI2
            refine ⟨_, mapSet_seen x s' hm', ?_⟩
            rintro r rfl
            rw [wrap_in (by omega) (by omega)]
            exact ⟨⟨_, j + 1, s' ++ [x], rfl, by omega, hI2⟩, by simp [upTo]; omega⟩
      · rw [drop_all hwl (by omega), waveIn] at hI2
        rintro r rfl
        rw [wrap_in (by omega) (by omega)]
        exact ⟨⟨_, i + 1, s', rfl, by omega, hI2⟩, by simp [upTo]; omega⟩
  · rw [drop_all hx.len (by omega), waveAll] at hI
    rw [← hI, seenCells_len]
    refine ⟨fun h => ?_, fun h => ?_⟩
    · rw [if_pos (by omega)]
    · rw [if_neg (by omega)]
theorem wrap_small {n : Int} (h : -100000 ≤ n) (h' : n ≤ 100000) : IntKind.wrap .i64 n = n := wrap_in (by omega) (by omega)
theorem cRefWaveCheck {H : Heap} {a : Option Addr} {l c : Nat} {ws : List (List Int)} (hx : Waves H a l ws) (k : Int) : Spec Try.prog 24 [.slice a l c, i64 k] H fun v _ => v = i64 (refWaveCheck ws k) := by
  refine Tryvc Try.func24 (by kernel_rfl) (by kernel_rfl) _ rfl (fun base K => vc24 a l c k base H K) fun base hb => (cIn k 1 6).bool1 fun H1 e1 hN1 => ⟨fun h1 => ?_, fun h1 => ?_⟩
  · rw [refWaveCheck, if_pos h1]
  have hW : refWaveCheck ws k = refWaveAll k [] ws := by rw [refWaveCheck, if_neg h1]
  rw [hW]
  have hk : 1 ≤ k ∧ k ≤ 6 := by simpa [inR] using h1
  have hle := hx.le
  refine ⟨fun vs Hc => ∃ (d : Int) (s : List Int) (a : Option Addr) (c i : Nat), vs = [i64 d, .slice a s.length c, i64 i] ∧ Row base Hc 3 1 a s.length c (s.map i64) ∧ WOk k s ∧ i ≤ l ∧ refWaveAll k s (ws.drop i) = refWaveAll k [] ws,
    upTo l 2, ⟨0, [], none, 0, 0, rfl, Row.nil, wok_nil k, by omega, rfl⟩, fun d a1 n1 c1 n H2 hN2 hI => ?_⟩
  obtain ⟨d', s, a1', c1', i, hvs, hR, hok, hi, hI⟩ := hI
  obtain ⟨rfl, ⟨rfl, rfl, rfl⟩, rfl⟩ : d = d' ∧ (a1 = a1' ∧ n1 = s.length ∧ c1 = c1') ∧ n = (i : Int) := by simpa using hvs
  refine ⟨fun hlt => hx.slice hN2.ext (by omega) hlt fun w a' n' c' hw hs => ?_, fun hge => ?_⟩
  · rw [Int.toNat_natCast] at hw
    rw [drop_at hw, refWaveAll] at hI
    have hwl := hs.len
    have hwle := hs.le
    refine ⟨fun h0 => ?_, fun h0 => ?_⟩
    · rw [← hI, if_pos (List.length_eq_zero_iff.1 (by omega))]
    · rw [if_neg (by rintro rfl; simp at hwl; omega)] at hI
      refine ⟨fun vs Hc => ∃ (d : Int) (s : List Int) (a : Option Addr) (c j : Nat), vs = [i64 d, .slice a s.length c, i64 j] ∧ Row base Hc 3 1 a s.length c (s.map i64) ∧ WOk k s ∧ j ≤ n' ∧
          (match waveIn k s (w.drop j) with | .error e => e | .ok s'' => refWaveAll k s'' (ws.drop (i + 1))) = refWaveAll k [] ws,
        upTo n' 2, ⟨_, s, _, _, 0, rfl, hR, hok, by omega, hI⟩, fun d2 a2 n2 c2 m H3 hN3 hI2 => ?_⟩
      obtain ⟨d3, s', a3, c3, j, hvs2, hR2, hok2, hj, hI2⟩ := hI2
      obtain ⟨rfl, ⟨rfl, rfl, rfl⟩, rfl⟩ : d2 = d3 ∧ (a2 = a3 ∧ n2 = s'.length ∧ c2 = c3) ∧ m = (j : Int) := by simpa using hvs2
      refine ⟨fun hlt2 => hs.int hN3.ext (by omega) hlt2 fun x hx2 => ?_, fun hge2 => ?_⟩
      · rw [Int.toNat_natCast] at hx2
        rw [drop_at hx2, waveIn] at hI2
        rintro r rfl
        rw [wrap_small (by omega) (by omega)]
        refine (cIn x 0 (k - 1)).bool1 fun H4 e4 hN4 => ⟨fun h4 => ?_, fun h4 => ?_⟩
        · have : ¬ (0 ≤ x ∧ x ≤ k - 1) := by simpa [inR] using h4
          by_cases c1 : x < 0
          · rw [if_pos c1] at hI2; rw [← hI2]
          · rw [if_neg c1, if_pos (by omega)] at hI2; rw [← hI2]
        · have h4' : 0 ≤ x ∧ x ≤ k - 1 := by simpa [inR] using h4
          rw [if_neg (by omega), if_neg (by omega)] at hI2
          refine (cContains (ints_of_row (hR2.ext e4)) x).bool1 fun H5 e5 hN5 => ⟨fun h5 => ?_, fun h5 => ?_⟩
          · rw [if_pos (by simpa using h5)] at hI2; rw [← hI2]
          · have h5' : x ∉ s' := by simpa using h5
            rw [if_neg h5'] at hI2
            have hok3 := wok_snoc hok2 h4'.1 (by omega) h5'
            have hl3 := hok3.len (by omega)
            simp at hl3
            refine fun _ => ⟨s'.map i64, (hR2.ext e4).ext e5, by omega, by omega, fun a6 c6 H6 _ hR6 => ?_⟩
            rintro r rfl
            rw [wrap_in (by omega) (by omega)]
            refine ⟨⟨d2, s' ++ [x], a6, c6, j + 1, by simp, ?_, hok3, by omega, hI2⟩, by simp [upTo]; omega⟩
            simpa using hR6
      · rw [drop_all hwl (by omega), waveIn] at hI2
        rintro r rfl
        rw [wrap_in (by omega) (by omega)]
        exact ⟨⟨_, s', a2, c2, i + 1, rfl, hR2, hok2, by omega, hI2⟩, by simp [upTo]; omega⟩
  · rw [drop_all hx.len (by omega), refWaveAll] at hI
    rw [← hI]
    refine ⟨fun h => ?_, fun h => ?_⟩
    · rw [if_neg h]
    · rw [if_pos (by omega)]

/-! ### wave.Of -/
theorem cWaveOf {H : Heap} {a : Option Addr} {l c : Nat} {ws : List (List Int)} (hx : Waves H a l ws) (k : Int) : Spec Try.prog 27 [.slice a l c, i64 k] H fun v _ => v = i64 (waveOf ws k) := by
  have h105 : ∀ {H : Heap} {a : Option Addr} {l c : Nat} {xs : List Int} {p : Nat}, Sl RInt 1 H a l xs → H.cell p 0 = some (i64 k) → Spec Try.prog 105 [.slice a l c, .pointer (some ⟨p, 0, none⟩)] H fun v _ => v = .bool (decide (k ∈ xs)) := by
    intro H a l c xs p hx hp
    refine Tryvc Try.func105 (by kernel_rfl) (by kernel_rfl) _ rfl (fun base K => vc105 a l c p base H K) fun base hb => ⟨k, hp, (cContains hx k).bool1 fun H' _ _ => rfl⟩
  have h104 : ∀ {H : Heap} {a : Option Addr} {l c : Nat} {ws : List (List Int)} {p : Nat}, Waves H a l ws → H.cell p 0 = some (i64 k) → Spec Try.prog 104 [.slice a l c, .func (.func 105) #[] #[.pointer (some ⟨p, 0, none⟩)]] H fun v _ => v = i64 (waveOf ws k) := by
    intro H a l c ws p hx hp
    refine Tryvc Try.func104 (by kernel_rfl) (by kernel_rfl) _ rfl (fun base K => vc104 a l c p base H K) fun base hb => ?_
    have hle := hx.le
    refine ⟨fun vs _ => ∃ (d : Int) (i : Nat), vs = [i64 d, i64 i] ∧ i ≤ l ∧ waveOfFrom k i (ws.drop i) = waveOf ws k, upTo l 1, ⟨0, 0, rfl, by omega, rfl⟩, fun d n H' hN hI => ?_⟩
    obtain ⟨d', i, hvs, hi, hI⟩ := hI
    obtain ⟨rfl, rfl⟩ : d = d' ∧ n = (i : Int) := by simpa using hvs
    refine ⟨fun hlt => hx.slice hN.ext (by omega) hlt fun w a' n' c' hw hs => ?_, fun hge => ?_⟩
    · rw [Int.toNat_natCast] at hw
      rw [drop_at hw, waveOfFrom] at hI
      refine (h105 (hs.ext RInt.mono hN.ext) (Heap.cell_next hN.ext hp)).bool1 fun H2 _ _ => ⟨fun h => ?_, fun h => ?_⟩
      · rw [if_pos (by simpa using h)] at hI; rw [← hI]
      · rw [if_neg (by simpa using h)] at hI
        rintro r rfl
        rw [wrap_in (by omega) (by omega)]
        exact ⟨⟨_, i + 1, rfl, by omega, hI⟩, by simp [upTo]; omega⟩
    · rw [← hI, drop_all hx.len (by omega), waveOfFrom]
  refine Tryvc Try.func27 (by kernel_rfl) (by kernel_rfl) _ rfl (fun base K => vc27 a l c k base H K) fun base hb => ?_
  intro b
  refine ⟨rfl, fun Hl hNl hb => ?_⟩
  refine (h104 (hx.ext' hNl.ext) (p := b) (by unfold Heap.cell; rw [hb.1]; rfl)).mono fun v H2 e2 hv => ⟨_, hv, fun H' hN _ => rfl⟩
theorem cRefWaveOf {H : Heap} {a : Option Addr} {l c : Nat} {ws : List (List Int)} (hx : Waves H a l ws) (k : Int) : Spec Try.prog 28 [.slice a l c, i64 k] H fun v _ => v = i64 (waveOf ws k) := by
  refine Tryvc Try.func28 (by kernel_rfl) (by kernel_rfl) _ rfl (fun base K => vc28 a l c k base H K) fun base hb => ?_
  have hle := hx.le
  refine ⟨fun vs _ => ∃ (d : Int) (i : Nat), vs = [i64 d, i64 i] ∧ i ≤ l ∧ waveOfFrom k i (ws.drop i) = waveOf ws k, upTo l 1, ⟨0, 0, rfl, by omega, rfl⟩, fun d n H' hN hI => ?_⟩
  obtain ⟨d', i, hvs, hi, hI⟩ := hI
  obtain ⟨rfl, rfl⟩ : d = d' ∧ n = (i : Int) := by simpa using hvs
  refine ⟨fun hlt => hx.slice hN.ext (by omega) hlt fun w a' n' c' hw hs => ?_, fun hge => ?_⟩
  · rw [Int.toNat_natCast] at hw
    rw [drop_at hw, waveOfFrom] at hI
    have hwle := hs.le
    refine ⟨fun vs _ => ∃ (d : Int) (j : Nat), vs = [i64 d, i64 j] ∧ j ≤ n' ∧ (if k ∈ w.drop j then (i : Int) else waveOfFrom k (i + 1) (ws.drop (i + 1))) = waveOf ws k, upTo n' 1, ⟨_, 0, rfl, by omega, hI⟩, fun d2 m H2 hN2 hI2 => ?_⟩
    obtain ⟨d3, j, hvs2, hj, hI2⟩ := hI2
    obtain ⟨rfl, rfl⟩ : d2 = d3 ∧ m = (j : Int) := by simpa using hvs2
    refine ⟨fun hlt2 => hs.int hN2.ext (by omega) hlt2 fun x hx2 => ?_, fun hge2 => ?_⟩
    · rw [Int.toNat_natCast] at hx2
      rw [drop_at hx2] at hI2
      refine ⟨fun h => ?_, fun h => ?_⟩
      · rw [if_pos (by simp [h])] at hI2; rw [← hI2]
      · rintro r rfl
        rw [wrap_in (by omega) (by omega)]
        have h' : ¬ k = x := fun e => h e.symm
        exact ⟨⟨_, j + 1, rfl, by omega, by simpa [h'] using hI2⟩, by simp [upTo]; omega⟩
    · rw [drop_all hs.len (by omega), if_neg (by simp)] at hI2
      rintro r rfl
      rw [wrap_in (by omega) (by omega)]
      exact ⟨⟨_, i + 1, rfl, by omega, hI2⟩, by simp [upTo]; omega⟩
  · rw [← hI, drop_all hx.len (by omega), waveOfFrom]

/-! ### wave.Now -/
def waveNow (ws : List (List Int)) (th : List Bool) : Int := if waveCheck ws th.length = 0 then nowFrom th 0 ws else 0
theorem cWaveNow {H : Heap} {a a' : Option Addr} {l c l' c' : Nat} {ws : List (List Int)} {th : List Bool} (hx : Waves H a l ws) (ht : Sl RBool 1 H a' l' th) :
    Spec Try.prog 23 [.slice a l c, .slice a' l' c'] H fun v _ => v = .tuple #[i64 (waveNow ws th), i64 (waveCheck ws th.length)] := by
  refine Tryvc Try.func23 (by kernel_rfl) (by kernel_rfl) _ rfl (fun base K => vc23 a a' l c l' c' base H K) fun base hb => ?_
  have hle := hx.le
  have htl := ht.len
  rw [htl]
  refine (cWaveCheck hx l').int1 fun H1 e1 hN1 => ⟨fun h => ?_, fun h => ?_⟩
  · rw [waveNow, htl, if_neg h]
  have h := Decidable.not_not.1 h
  obtain ⟨k1, k2, hnd, hin, hne⟩ := waveCheck_zero h
  have hW : waveNow ws th = nowFrom th 0 ws := by rw [waveNow, htl, if_pos h]
  rw [hW, h]
  refine ⟨fun vs _ => ∃ (d1 d2 : Int) (i : Nat), vs = [i64 d1, i64 d2, i64 i] ∧ i ≤ l ∧ nowFrom th i (ws.drop i) = nowFrom th 0 ws, upTo l 2, ⟨0, 0, 0, rfl, by omega, rfl⟩, fun d1 d2 n H' hN hI => ?_⟩
  obtain ⟨d1', d2', i, hvs, hi, hI⟩ := hI
  obtain ⟨rfl, rfl, rfl⟩ : d1 = d1' ∧ d2 = d2' ∧ n = (i : Int) := by simpa using hvs
  refine ⟨fun hlt => hx.slice hN.ext (by omega) hlt fun w b n' d' hw hs => ?_, fun hge => ?_⟩
  · rw [Int.toNat_natCast] at hw
    rw [drop_at hw, nowFrom] at hI
    have hwle := hs.le
    refine ⟨fun vs _ => ∃ (d1 d2 : Int) (j : Nat), vs = [i64 d1, i64 d2, i64 j] ∧ j ≤ n' ∧ (if (w.drop j).any (notThrough th) then (i : Int) else nowFrom th (i + 1) (ws.drop (i + 1))) = nowFrom th 0 ws,
      upTo n' 2, ⟨_, _, 0, rfl, by omega, hI⟩, fun e1 e2 m H2 hN2 hI2 => ?_⟩
    obtain ⟨e1', e2', j, hvs2, hj, hI2⟩ := hI2
    obtain ⟨rfl, rfl, rfl⟩ : e1 = e1' ∧ e2 = e2' ∧ m = (j : Int) := by simpa using hvs2
    refine ⟨fun hlt2 => hs.int hN2.ext (by omega) hlt2 fun x hx2 => ?_, fun hge2 => ?_⟩
    · rw [Int.toNat_natCast] at hx2
      have hxin := (hin x).1 (List.mem_flatten.2 ⟨w, List.mem_of_getElem? hw, List.mem_of_getElem? hx2⟩)
      rw [drop_at hx2, List.any_cons] at hI2
      refine ht.bool hN2.ext hxin.1 hxin.2 fun y hy => ⟨fun h => ?_, fun h => ?_⟩
      · rw [if_pos (by simp [notThrough, hy, h])] at hI2; rw [← hI2]
      · rintro r rfl
        rw [wrap_in (by omega) (by omega)]
        exact ⟨⟨_, _, j + 1, rfl, by omega, by simpa [notThrough, hy, h] using hI2⟩, by simp [upTo]; omega⟩
    · rw [drop_all hs.len (by omega), if_neg (by simp)] at hI2
      rintro r rfl
      rw [wrap_in (by omega) (by omega)]
      exact ⟨⟨_, _, i + 1, rfl, by omega, hI2⟩, by simp [upTo]; omega⟩
  · rw [← hI, drop_all hx.len (by omega), nowFrom]
    rw [show (i : Int) = l from by omega]
theorem min_cases (a b : Int) : (if b < a then b else a) = min a b := by split <;> omega
theorem cRefWaveNow {H : Heap} {a a' : Option Addr} {l c l' c' : Nat} {ws : List (List Int)} {th : List Bool} (hx : Waves H a l ws) (ht : Sl RBool 1 H a' l' th) :
    Spec Try.prog 29 [.slice a l c, .slice a' l' c'] H fun v _ => v = i64 (refNow ws ws.length 0 th) := by
  refine Tryvc Try.func29 (by kernel_rfl) (by kernel_rfl) _ rfl (fun base K => vc29 a a' l c l' c' base H K) fun base hb => ?_
  have htle := ht.le
  have hxl := hx.len
  refine ⟨fun vs _ => ∃ (f : Int) (i : Nat), vs = [i64 f, i64 i] ∧ i ≤ l' ∧ refNow ws f i (th.drop i) = refNow ws ws.length 0 th, upTo l' 1, ⟨l, 0, rfl, by omega, by rw [hxl]; rfl⟩, fun d n H' hN hI => ?_⟩
  obtain ⟨f, i, hvs, hi, hI⟩ := hI
  obtain ⟨rfl, rfl⟩ : d = f ∧ n = (i : Int) := by simpa using hvs
  refine ⟨fun hlt => ht.bool hN.ext (by omega) hlt fun y hy => ?_, fun hge => ?_⟩
  · rw [Int.toNat_natCast] at hy
    rw [drop_at hy, refNow] at hI
    refine ⟨fun h => ?_, fun h => ?_⟩
    · rw [if_pos h] at hI
      refine (cRefWaveOf (hx.ext' hN.ext) i).int1 fun H2 _ _ => ?_
      rintro r rfl
      rw [wrap_in (by omega) (by omega), min_cases]
      exact ⟨⟨_, i + 1, rfl, by omega, hI⟩, by simp [upTo]; omega⟩
    · rw [if_neg h] at hI
      rintro r rfl
      rw [wrap_in (by omega) (by omega)]
      exact ⟨⟨_, i + 1, rfl, by omega, hI⟩, by simp [upTo]; omega⟩
  · rw [← hI, drop_all ht.len (by omega), refNow]

/-! ### The law -/
theorem ints_of_box {H : Heap} {g : Nat} {ty : TypeId} {xs : List Int} {n : Nat} (h : H g = some (boxKB ty (xs.map i64))) (hn : xs.length = n) (hle : (n : Int) ≤ 9223372036854775807) : Sl RInt 1 H (some ⟨g, 0, none⟩) n xs :=
  Sl.of_has (rows := intRows xs) (Has.of_box h (by clear h hn; induction xs with | nil => rfl | cons x r ih => simp [intRows] at ih ⊢; exact ih) (by intro r hr; simp [intRows] at hr; obtain ⟨x, _, rfl⟩ := hr; rfl) (by simp [intRows]; exact hn) hle) (by simp [intRows])
    fun i r x hr hx => by
      simp [intRows] at hr
      obtain ⟨y, hy, rfl⟩ := hr
      rw [hx] at hy
      obtain rfl := Option.some.inj hy
      rfl
theorem bools_of_box {H : Heap} {g : Nat} {ty : TypeId} {xs : List Bool} {n : Nat} (h : H g = some (boxKB ty (xs.map Value.bool))) (hn : xs.length = n) (hle : (n : Int) ≤ 9223372036854775807) : Sl RBool 1 H (some ⟨g, 0, none⟩) n xs :=
  Sl.of_has (rows := xs.map fun x => [.bool x]) (Has.of_box h (by clear h hn; induction xs with | nil => rfl | cons x r ih => simp at ih ⊢; exact ih) (by intro r hr; simp at hr; rcases hr with ⟨_, rfl⟩ | ⟨_, rfl⟩ <;> rfl) (by simp; exact hn) hle) (by simp)
    fun i r x hr hx => by rw [List.getElem?_map, hx] at hr; simp at hr; exact hr.symm
theorem cWaved {H : Heap} : Spec Try.prog 25 [] H fun v _ => v = .bool true := by
  refine Tryvc Try.func25 (by kernel_rfl) (by kernel_rfl) _ rfl (fun base K => vc25 base H K) fun base hb => ?_
  intro g1 H1 hN1 _ hg1 g2 H2 hN2 _ hg2 g3 H3 hN3 _ hg3 g4 H4 hN4 _ hg4
  have b1 : Sl RInt 1 H4 (some ⟨g1, 0, none⟩) 1 [1] := ints_of_box (hN4.ext _ _ (hN3.ext _ _ (hN2.ext _ _ hg1))) rfl (by decide)
  have b2 : Sl RInt 1 H4 (some ⟨g2, 0, none⟩) 2 [2, 0] := ints_of_box (hN4.ext _ _ (hN3.ext _ _ hg2)) rfl (by decide)
  have b3 : Waves H4 (some ⟨g3, 0, none⟩) 2 [[1], [2, 0]] := by
    refine Sl.of_has (Has.of_box (rows := [[_], [_]]) (hN4.ext _ _ hg3) rfl (by simp) rfl (by decide)) rfl fun i r x hr hx => ?_
    match i, hr, hx with
    | 0, hr, hx => simp at hr hx; subst hr hx; exact ⟨_, _, _, rfl, b1⟩
    | 1, hr, hx => simp at hr hx; subst hr hx; exact ⟨_, _, _, rfl, b2⟩
    | i + 2, hr, hx => simp at hr
  refine (cWaveNow b3 (bools_of_box (xs := [true, true, false]) hg4 rfl (by decide))).int2 fun H5 e5 hN5 => ?_
  intro g5 H6 hN6 _ hg6
  refine (cWaveNow ((b3.ext' e5).ext' hN6.ext) (bools_of_box (xs := [true, true, true]) hg6 rfl (by decide))).int2 fun H7 e7 hN7 => ?_
  have b3' := ((b3.ext' e5).ext' hN6.ext).ext' e7
  refine ⟨fun _ => ⟨fun _ => ⟨fun _ => ⟨fun _ => ?_, fun h => absurd (by decide) h⟩, fun h => absurd (by decide) h⟩, fun h => absurd (by decide) h⟩, fun h => absurd (by decide) h⟩
  refine (cWaveOf b3' 0).int1 fun H8 e8 hN8 => ⟨fun _ => ?_, fun h => absurd (by decide) h⟩
  refine (cWaveOf (b3'.ext' e8) 3).int1 fun H9 e9 hN9 => ⟨fun _ => ?_, fun h => absurd (by decide) h⟩
  refine (cWaveCheck ((b3'.ext' e8).ext' e9) 2).int1 fun H9 e9 hN9 => ?_
  exact congrArg Value.bool (by decide)
theorem cWaveSays {H : Heap} {a a' : Option Addr} {l c l' c' : Nat} {ws : List (List Int)} {th : List Bool} (hx : Waves H a l ws) (ht : Sl RBool 1 H a' l' th) (agents agent : Int) :
    Spec Try.prog 4 [.slice a l c, i64 agents, i64 agent, .slice a' l' c'] H fun v _ => v = .bool true := by
  refine Tryvc Try.func4 (by kernel_rfl) (by kernel_rfl) _ rfl (fun base K => vc4 a a' l c l' c' agents agent base H K) fun base hb => ?_
  have htl := ht.len
  refine (cWaveNow hx ht).int2 fun H1 e1 _ => (cRefWaveCheck (hx.ext' e1) l').int1 fun H2 e2 _ => cWaved.bool1 fun H3 e3 _ => ⟨fun h => by simp at h, fun _ => ?_⟩
  have hx3 := ((hx.ext' e1).ext' e2).ext' e3
  refine (cWaveCheck hx3 agents).int1 fun H4 e4 _ => (cRefWaveCheck (hx3.ext' e4) agents).int1 fun H5 e5 _ => ⟨fun h => absurd (waveCheck_ref _ _) h, fun _ => ?_⟩
  have hx5 := (hx3.ext' e4).ext' e5
  refine (cWaveOf hx5 agent).int1 fun H6 e6 _ => (cRefWaveOf (hx5.ext' e6) agent).int1 fun H7 e7 _ => ⟨fun h => absurd rfl h, fun _ => ?_⟩
  have hx7 := (hx5.ext' e6).ext' e7
  have ht7 := ((((((ht.ext RBool.mono e1).ext RBool.mono e2).ext RBool.mono e3).ext RBool.mono e4).ext RBool.mono e5).ext RBool.mono e6).ext RBool.mono e7
  have hr := waveCheck_ref ws l'
  refine ⟨fun h => absurd (by rw [htl]; exact hr) h, fun _ => ⟨fun h => ⟨fun _ => rfl, fun h0 => absurd ?_ h0⟩, fun h => ⟨fun _ => ?_, fun h0 => absurd h0 h⟩⟩⟩
  · rw [waveNow, htl, hr, if_neg h]
  · refine (cRefWaveNow hx7 ht7).int1 fun H8 _ _ => ?_
    have hz : waveCheck ws th.length = 0 := by rw [htl, hr]; exact Decidable.not_not.1 h
    rw [waveNow, if_pos hz, now_ref hz, decide_eq_true rfl]
end Go.Vg
