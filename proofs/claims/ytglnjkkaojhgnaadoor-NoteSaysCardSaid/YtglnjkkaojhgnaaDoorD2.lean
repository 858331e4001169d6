/- What is proved here: the contracts of the functions that print and read locks. -/
import Derived.Test.YtglnjkkaojhgnaaDoorD1
set_option linter.unusedSimpArgs false
set_option linter.unusedVariables false
set_option maxRecDepth 100000
namespace Go.Vg
open Go Go.Proofs
/-! ### Plain laws -/
theorem joinB_snoc {c : UInt8} {w : List UInt8} : ∀ {ws : List (List UInt8)}, ws ≠ [] → joinB c (ws ++ [w]) = joinB c ws ++ c :: w
  | x :: r, _ => by simp [joinB]
theorem lockText_snoc {l : List Pin} {p : Pin} (h : l ≠ []) : lockText (l ++ [p]) = lockText l ++ [44] ++ wordOf p := by
  unfold lockText
  rw [List.map_append, List.map_singleton, joinB_snoc (by simpa using h)]
  simp
theorem lockText_one {p : Pin} : lockText [p] = wordOf p := by simp [lockText, joinB]
theorem lockText_take {l : List Pin} (h : lockCheck l = 0) (m : Nat) : (lockText (l.take m)).length ≤ 72 := by
  have h1 := (lockCheck_zero.1 h).2
  unfold lockText
  cases hm : l.take m with
  | nil => simp [joinB]
  | cons p r =>
    have hmem : ∀ q ∈ p :: r, q ∈ l := fun q hq => List.mem_of_mem_take (by rw [hm]; exact hq)
    have hw : ∀ w ∈ r.map wordOf, w.length ≤ 5 := fun w hw => by
      obtain ⟨q, hq, rfl⟩ := List.mem_map.1 hw
      exact word_len (pin_range h (hmem q (by simp [hq])))
    have h2 := flat_words hw
    have h3 := word_len (pin_range h (hmem p (by simp)))
    have h4 : (p :: r).length ≤ l.length := by rw [← hm, List.length_take]; omega
    simp only [List.map_cons, joinB, List.length_append, List.length_map] at h2 ⊢
    simp at h4
    omega
theorem cuts_len (c : UInt8) : ∀ s : List UInt8, (cuts c s).length ≤ s.length + 1
  | [] => by simp [cuts]
  | b :: r => by
    have ih := cuts_len c r
    have := cuts_ne c r
    have hp : 0 < (cuts c r).length := List.length_pos_iff.2 this
    unfold cuts
    split
    · simp; omega
    · simp; omega
theorem mem_cuts_len {c : UInt8} {s w : List UInt8} (h : w ∈ cuts c s) : w.length ≤ s.length := by
  have hj := joinB_cuts c s
  have key : ∀ (ws : List (List UInt8)), w ∈ ws → w.length ≤ (joinB c ws).length := by
    intro ws hw
    cases ws with
    | nil => cases hw
    | cons x r =>
      unfold joinB
      rcases List.mem_cons.1 hw with rfl | hw
      · simp
      · obtain ⟨i, hi⟩ := List.getElem?_of_mem hw
        have : (c :: w).length ≤ (r.flatMap fun y => c :: y).length := by
          clear hi i h hj
          induction r with
          | nil => cases hw
          | cons y t ih =>
            simp only [List.flatMap_cons, List.length_append]
            rcases List.mem_cons.1 hw with rfl | hw
            · omega
            · have := ih (by simp [hw]) hw; omega
        simp only [List.length_append]; simp at this ⊢; omega
  rw [← hj]; exact key _ h
theorem readPins_cons {w : List UInt8} {ws : List (List UInt8)} {p : Pin} (h : readPin w = some p) : readPins (w :: ws) = (readPins ws).map (p :: ·) := by rw [readPins, h]
theorem readPins_bad {w : List UInt8} {ws : List (List UInt8)} (h : readPin w = none) : readPins (w :: ws) = none := by rw [readPins, h]
theorem lockRead_none {s : List UInt8} (h : readWords s = none) : lockRead s = .error 1 := by rw [lockRead, h]
theorem lockRead_some {s : List UInt8} {l : List Pin} (h : readWords s = some l) : lockRead s = if lockCheck l = 0 then .ok l else .error (lockCheck l) := by rw [lockRead, h]
theorem data_mk (l : List UInt8) : (⟨l.toArray⟩ : ByteArray).data.toList = l := rfl
theorem size_mk (l : List UInt8) : (⟨l.toArray⟩ : ByteArray).size = l.length := rfl
theorem size_data (s : ByteArray) : s.size = s.data.toList.length := by simp
/-! ### Loops beside what was made ahead of them -/
def Apart (H1 : Heap) (a : Option Addr) (c : Nat) : Prop := c ≠ 0 → ∀ x k, H1 x = some k → a ≠ some ⟨x, 0, none⟩
theorem Apart.none {H1 : Heap} {a : Option Addr} : Apart H1 a 0 := fun h => absurd rfl h
theorem Apart.grew {base : Nat} {H1 H H' : Heap} {a a' : Option Addr} {c c' nn : Nat} (h : Apart H1 a c) (e : Ext H1 H) (hg : Grew base H H' a c a' c' nn) : Ext H1 H' ∧ Apart H1 a' c' := by
  refine ⟨fun x k hx => hg.keep x k (e x k hx) ?_, fun hc' x k hx ha' => ?_⟩
  · by_cases hc : c = 0
    · exact .inl hc
    · exact .inr (h hc x k hx)
  · rcases hg.place hc' x ha' with hn | ⟨he, hc⟩
    · rw [e x k hx] at hn; cases hn
    · rw [he] at ha'; exact h hc x k hx ha'
/-! ### Print -/
section
variable {H : Heap} (hL : Lb H)
include hL
theorem cLockPrint {a : Option Addr} {l c : Nat} {xs : List Pin} (hp : Pins H a l xs) : Spec Tryd.prog 8 [.slice a l c] H fun v _ => v = .tuple #[str (if lockCheck xs = 0 then lockText xs else []), i64 (lockCheck xs)] := by
  refine TrydvcJ Tryd.func8 (by kernel_rfl) (by kernel_rfl) _ rfl (fun base K => vd8 a l c base H K) fun base hb => ?_
  have hl := hp.len
  refine (cLockCheck hp).int1 fun H1 e1 hN1 => ⟨fun h => ?_, fun h => ?_⟩
  · rw [if_neg h]; rfl
  have hz := Decidable.not_not.1 h
  rw [if_pos hz, hz]
  have hlk := (lockCheck_zero.1 hz).2
  refine ⟨fun vs H' => ∃ (a3 : Option Addr) (c3 m : Nat), vs = [.slice a3 m c3, i64 m] ∧ m ≤ l ∧ Row base H' 9 1 a3 m c3 ((xs.take m).flatMap fun p => [str (wordOf p)]), upTo l 1, ⟨none, 0, 0, rfl, by omega, Row.nil⟩, fun a3 n3 c3 n H2 hN2 hI => ?_⟩
  obtain ⟨a3', c3', m, hvs, hm, hR⟩ := hI
  obtain ⟨⟨rfl, rfl, rfl⟩, rfl⟩ : (a3 = a3' ∧ n3 = m ∧ c3 = c3') ∧ n = (m : Int) := by simpa using hvs
  refine ⟨fun hlt => hp.pin hN2.ext (by omega) hlt fun p hpp => ?_, fun hge => ?_⟩
  · rw [Int.toNat_natCast] at hpp
    have hr := pin_range hz (List.mem_of_getElem? hpp)
    have hi1 := itoa_short (n := p.name) (by omega) (by omega)
    have hi2 := itoa_short (n := p.ver) (by omega) (by omega)
    intro _
    refine (l_itoa (hL.ext hN2.ext) (by omega) (by omega)).str1 fun H3 e3 hN3 => ⟨_, runs_add rfl (by simp only [List.length_append, List.length_cons, List.length_nil]; omega), ?_⟩
    refine (l_itoa (hL.ext (Ext.trans hN2.ext e3)) (by omega) (by omega)).str1 fun H4 e4 hN4 => ⟨_, runs_add (c := wordOf p) (by simp [wordOf]) (by simp only [List.length_append, List.length_cons, List.length_nil]; omega), fun g H5 hN5 hg hH5 => ?_⟩
    refine ⟨_, _, hR.ext (Ext.trans e3 (Ext.trans e4 hN5.ext)), rfl, rfl, .inr ⟨g, 0, rfl, box_cells hH5⟩, by omega, by omega, fun a6 c6 H6 hG6 hR6 => ?_⟩
    rintro r rfl
    rw [wrap_in (by omega) (by omega)]
    refine ⟨⟨a6, c6, n3 + 1, rfl, by omega, ?_⟩, by simp [upTo]; omega⟩
    rw [take_at hpp, List.flatMap_append]
    exact hR6
  · obtain rfl : n3 = l := by omega
    rw [List.take_of_length_le (by omega)] at hR
    have hS : Sl RStr 1 H2 a3 n3 (xs.map wordOf) := by
      have hR' : Row base H2 9 1 a3 n3 c3 ((xs.map wordOf).flatMap fun w => [str w]) := by rw [List.flatMap_map]; exact hR
      exact sl_of_rowE (enc := fun w => [str w]) (sz := 1) (fun _ => rfl) (by omega) hR'
    have hjl : (joinB 44 (xs.map wordOf)).length ≤ 72 := lockText_len hz
    exact (l_join (b := 44) hS hR.2.1 (by omega) (by omega)).str1 fun H3 e3 hN3 => rfl
theorem cLockText {a : Option Addr} {l c : Nat} {xs : List Pin} (hp : Pins H a l xs) (hz : lockCheck xs = 0) : Spec Tryd.prog 13 [.slice a l c] H fun v _ => v = str (lockText xs) := by
  refine TrydvcJ Tryd.func13 (by kernel_rfl) (by kernel_rfl) _ rfl (fun base K => vd13 a l c base H K) fun base hb => ?_
  have hl := hp.len
  have hlk := (lockCheck_zero.1 hz).2
  refine ⟨fun vs H' => ∃ m : Nat, vs = [str (lockText (xs.take m)), i64 m] ∧ m ≤ l, upTo l 1, ⟨0, rfl, by omega⟩, fun s n H2 hN2 hI => ?_⟩
  obtain ⟨m, hvs, hm⟩ := hI
  obtain ⟨rfl, rfl⟩ : s = ⟨(lockText (xs.take m)).toArray⟩ ∧ n = (m : Int) := by simpa [str] using hvs
  have hln := lockText_take hz m
  refine ⟨fun hlt => hp.pin hN2.ext (by omega) hlt fun p hpp => ?_, fun hge => ?_⟩
  · rw [Int.toNat_natCast] at hpp
    have hr := pin_range hz (List.mem_of_getElem? hpp)
    have hi1 := itoa_short (n := p.name) (by omega) (by omega)
    have hi2 := itoa_short (n := p.ver) (by omega) (by omega)
    have hwl := word_len hr
    have hmx : m < xs.length := (List.getElem?_eq_some_iff.1 hpp).1
    intro _
    refine ⟨fun h0 => ?_, fun h0 => ?_⟩
    · refine ⟨_, runs_add rfl (by simp only [List.length_append, List.length_cons, List.length_nil]; omega), ?_⟩
      refine (l_itoa (hL.ext hN2.ext) (by omega) (by omega)).str1 fun H3 e3 hN3 => ⟨_, runs_add rfl (by simp only [List.length_append, List.length_cons, List.length_nil]; omega), ?_⟩
      refine (l_itoa (hL.ext (Ext.trans hN2.ext e3)) (by omega) (by omega)).str1 fun H4 e4 hN4 => ⟨_, runs_add (c := wordOf p) (by simp [wordOf]) (by simp only [List.length_append, List.length_cons, List.length_nil]; omega), _, runs_add (c := lockText (xs.take (m + 1))) ?_ (by simp only [List.length_append, List.length_cons, List.length_nil]; omega), ?_⟩
      · rw [take_at hpp, lockText_snoc (fun e => by have := congrArg List.length e; rw [List.length_take, List.length_nil] at this; omega)]
      · rintro r rfl
        rw [wrap_in (by omega) (by omega)]
        exact ⟨⟨m + 1, rfl, by omega⟩, by simp [upTo]; omega⟩
    · obtain rfl : m = 0 := by omega
      have hl0 : (lockText ([] : List Pin)).length = 0 := rfl
      rw [List.take_zero] at hln ⊢
      refine (l_itoa (hL.ext hN2.ext) (by omega) (by omega)).str1 fun H3 e3 hN3 => ⟨_, runs_add rfl (by simp only [List.length_append, List.length_cons, List.length_nil]; omega), ?_⟩
      refine (l_itoa (hL.ext (Ext.trans hN2.ext e3)) (by omega) (by omega)).str1 fun H4 e4 hN4 => ⟨_, runs_add (c := wordOf p) (by simp [wordOf]) (by simp only [List.length_append, List.length_cons, List.length_nil]; omega), _, runs_add (c := lockText (xs.take 1)) ?_ (by omega), ?_⟩
      · rw [take_at hpp, List.take_zero, List.nil_append, lockText_one]; rfl
      · rintro r rfl
        rw [wrap_in (by omega) (by omega)]
        exact ⟨⟨1, rfl, by omega⟩, by simp [upTo]; omega⟩
  · obtain rfl : m = l := by omega
    rw [List.take_of_length_le (by omega)]; rfl
/-! ### Parse -/
theorem cLockParse {s : ByteArray} : Spec Tryd.prog 11 [.string s] H fun v H' => ∃ a n c, v = .tuple #[.slice a n c, i64 (if 60000 < s.size then 2 else errOf (lockRead s.data.toList))] ∧ Fresh H H' 29 2 a n c ((if 60000 < s.size then [] else okL (lockRead s.data.toList)).flatMap pinCells) := by
  refine TrydvcJ Tryd.func11 (by kernel_rfl) (by kernel_rfl) _ rfl (fun base K => vd11 s base H K) fun base hb => ?_
  refine ⟨fun h => ?_, fun h => ?_⟩
  · rw [if_pos (by omega), if_pos (by omega)]; exact ⟨none, 0, 0, rfl, Fresh.zero⟩
  rw [if_neg (by omega), if_neg (by omega)]
  have hsz : s.data.toList.length ≤ 60000 := by rw [← size_data]; omega
  refine ⟨_, eqS, fun h0 => ?_, fun h0 => ?_⟩
  · have h0 : s.data.toList = [] := by simpa using h0
    rw [h0]; exact ⟨none, 0, 0, rfl, Fresh.zero⟩
  have hne : s.data.toList ≠ [] := by simpa using h0
  have hW : readWords s.data.toList = readPins (cuts 44 s.data.toList) := by rw [readWords, if_neg hne]
  generalize hws : cuts 44 s.data.toList = ws at hW
  have hwl : ws.length ≤ 60001 := by have := cuts_len 44 s.data.toList; rw [hws] at this; omega
  have hwm : ∀ w ∈ ws, w.length ≤ 60000 := fun w hw => by rw [← hws] at hw; have := mem_cuts_len hw; omega
  refine (l_split hL (s := s) (c := 44) (by omega)).mono fun v H1 e1 hv => ?_
  obtain ⟨g, N, hv, hS⟩ := hv
  rw [hws] at hS
  have hNl := hS.len
  refine ⟨_, _, _, hv, fun hN1 => ?_⟩
  refine ⟨fun vs H' => ∃ (a2 : Option Addr) (n2 c2 : Nat) (k : Int) (a3 : Option Addr) (c3 m : Nat) (ps : List Pin), vs = [.slice a2 n2 c2, i64 k, .slice a3 m c3, i64 m] ∧ m ≤ N ∧ Row base H' 29 2 a3 m c3 (ps.flatMap pinCells) ∧ Ext H1 H' ∧ Apart H1 a3 c3 ∧
    readPins ws = (readPins (ws.drop m)).map (ps ++ ·), upTo N 3, ⟨none, 0, 0, 0, none, 0, 0, [], rfl, by omega, Row.nil, Ext.refl _, Apart.none, by simp⟩, fun a2 n2 c2 k a3 n3 c3 n H2 hN2 hI => ?_⟩
  obtain ⟨a2', n2', c2', k', a3', c3', m, ps, hvs, hm, hR, hE, hA, hI⟩ := hI
  obtain ⟨⟨rfl, rfl, rfl⟩, rfl, ⟨rfl, rfl, rfl⟩, rfl⟩ : (a2 = a2' ∧ n2 = n2' ∧ c2 = c2') ∧ k = k' ∧ (a3 = a3' ∧ n3 = m ∧ c3 = c3') ∧ n = (m : Int) := by simpa using hvs
  refine ⟨fun hlt => hS.str hE (by omega) hlt fun w hw => ?_, fun hge => ?_⟩
  · rw [Int.toNat_natCast] at hw
    have hwz := hwm w (List.mem_of_getElem? hw)
    rw [drop_at hw] at hI
    refine (l_cut (hL.ext hN2.ext) (s := ⟨w.toArray⟩) (sep := ⟨#[64]⟩) (by rw [size_mk]; omega)).cut3 fun H3 e3 hN3 => ?_
    rw [data_mk, show (⟨#[64]⟩ : ByteArray).data.toList = [64] from rfl]
    generalize hcut : Lib.cut w [64] = x
    have hxl : x.1.length ≤ 60000 ∧ x.2.1.length ≤ 60000 := by
      rcases cut_cases 64 w with ⟨_, e⟩ | ⟨u, t, rfl, _, e⟩
      · rw [e] at hcut; subst hcut; exact ⟨hwz, by simp⟩
      · rw [e] at hcut; subst hcut; simp at hwz; exact ⟨by simp; omega, by simp; omega⟩
    refine (cNumber (hL.ext (Ext.trans hN2.ext e3)) (s := ⟨x.1.toArray⟩) (by rw [size_mk]; omega)).mono fun v H4 e4 hv4 => ?_
    obtain ⟨n4, b4, hv4, ht4, hf4⟩ := hv4
    refine ⟨n4, b4, hv4, fun hN4 => ?_⟩
    refine (cNumber (hL.ext (Ext.trans hN2.ext (Ext.trans e3 e4))) (s := ⟨x.2.1.toArray⟩) (by rw [size_mk]; omega)).mono fun v H5 e5 hv5 => ?_
    obtain ⟨n5, b5, hv5, ht5, hf5⟩ := hv5
    rw [data_mk] at ht4 hf4 ht5 hf5
    refine ⟨n5, b5, hv5, fun hN5 => ?_⟩
    have hrd : readPin w = if x.2.2 = true then (match num x.1, num x.2.1 with | some n, some v => some ⟨n, v⟩ | _, _ => none) else none := by unfold readPin; rw [hcut]; rfl
    refine ⟨readPin w = none, ⟨fun h1 => ⟨fun _ _ h => h, ?_⟩, fun h1 => ⟨fun h2 => ⟨fun _ _ h => h, ?_⟩, fun h2 => ⟨fun _ _ h => h, ?_⟩⟩⟩, fun hφ => ?_, fun hφ => ?_⟩
    · rw [hrd, if_neg (by rw [h1]; decide)]
    · rw [hrd, hf4 h2]; split <;> rfl
    · have h1' : x.2.2 = true := by simpa using h1
      have h2' : b4 = true := by simpa using h2
      rw [hrd, if_pos h1', ht4 h2']
      cases hb5 : b5 with
      | true => rw [ht5 hb5]; simp
      | false => rw [hf5 hb5]; simp
    · rw [readPins_bad hφ, Option.map_none] at hI
      rw [lockRead_none (hW.trans hI)]
      exact ⟨none, 0, 0, rfl, Fresh.zero⟩
    · have hpin : readPin w = some ⟨n4, n5⟩ := by
        rw [hrd] at hφ ⊢
        by_cases hx : x.2.2 = true
        · rw [if_pos hx] at hφ ⊢
          cases hb4 : b4 with
          | false => rw [hf4 hb4] at hφ; exact absurd rfl hφ
          | true =>
            cases hb5 : b5 with
            | false => rw [ht4 hb4, hf5 hb5] at hφ; exact absurd rfl hφ
            | true => rw [ht4 hb4, ht5 hb5]
        · rw [if_neg hx] at hφ; exact absurd rfl hφ
      rw [readPins_cons hpin] at hI
      intro _
      refine ⟨_, hR.ext (Ext.trans e3 (Ext.trans e4 e5)), by omega, by omega, fun a6 c6 H6 hG6 hR6 => ?_⟩
      rintro r rfl
      rw [wrap_in (by omega) (by omega)]
      obtain ⟨hE6, hA6⟩ := hA.grew (Ext.trans hE (Ext.trans e3 (Ext.trans e4 e5))) hG6
      exact ⟨⟨a2, n2, c2, k, a6, c6, n3 + 1, ps ++ [⟨n4, n5⟩], rfl, by omega, by rw [List.flatMap_append]; exact hR6, hE6, hA6, by rw [hI]; cases readPins (ws.drop (n3 + 1)) <;> simp⟩, by simp [upTo]; omega⟩
  · have hmN : n3 = N := by omega
    subst hmN
    rw [List.drop_of_length_le (by omega), readPins, Option.map_some, List.append_nil] at hI
    rw [lockRead_some (hW.trans hI)]
    refine (cLockCheck (pins_of_row hR)).int1 fun H3 e3 hN3 => ⟨fun h => ?_, fun h => ?_⟩
    · rw [if_neg h]; exact ⟨none, 0, 0, rfl, Fresh.zero⟩
    · have h := Decidable.not_not.1 h
      rw [if_pos h]
      exact ⟨a3, n3, c3, rfl, (hR.ext e3).fresh hb⟩
/-! ### LockRead -/
omit hL in
theorem extract_drop (s : ByteArray) (i : Nat) : (s.extract i s.size).data.toList = s.data.toList.drop i := by
  rw [ByteArray.data_extract, Array.toList_extract, List.extract_eq_take_drop, List.take_of_length_le (by simp)]
theorem cLockRead {s : ByteArray} (hsz : s.data.toList.length ≤ 60000) : Spec Tryd.prog 17 [.string s] H fun v H' => ∃ a n c, v = .tuple #[.slice a n c, i64 (errOf (lockRead s.data.toList))] ∧ Fresh H H' 29 2 a n c ((okL (lockRead s.data.toList)).flatMap pinCells) := by
  refine TrydvcJ Tryd.func17 (by kernel_rfl) (by kernel_rfl) _ rfl (fun base K => vd17 s base H K) fun base hb => ?_
  have hss : s.size ≤ 60000 := by rw [size_data]; omega
  refine ⟨_, neS, fun h0 => ?_, fun h0 => ?_⟩
  case refine_2 =>
    have h0 : s.data.toList = [] := by simpa using h0
    rw [h0]
    refine (cRefLockCheck (Sl.nil : Pins H none 0 [])).int1 fun H3 e3 hN3 => ⟨fun h => absurd rfl h, fun h => ⟨none, 0, 0, rfl, Fresh.zero⟩⟩
  have hne : s.data.toList ≠ [] := by simpa using h0
  have hW : readWords s.data.toList = readPins (cuts 44 s.data.toList) := by rw [readWords, if_neg hne]
  generalize hws : cuts 44 s.data.toList = ws at hW
  have hwl : ws.length ≤ 60001 := by have := cuts_len 44 s.data.toList; rw [hws] at this; omega
  have hwm : ∀ w ∈ ws, w.length ≤ 60000 := fun w hw => by rw [← hws] at hw; have := mem_cuts_len hw; omega
  refine (l_split hL (s := s) (c := 44) (by omega)).mono fun v H1 e1 hv => ?_
  obtain ⟨g, N, hv, hS⟩ := hv
  rw [hws] at hS
  have hNl := hS.len
  refine ⟨_, _, _, hv, fun hN1 => ?_⟩
  refine ⟨fun vs H' => ∃ (a2 : Option Addr) (n2 c2 : Nat) (k : Int) (a3 : Option Addr) (c3 m : Nat) (ps : List Pin), vs = [.slice a2 n2 c2, i64 k, .slice a3 m c3, i64 m] ∧ m ≤ N ∧ Row base H' 29 2 a3 m c3 (ps.flatMap pinCells) ∧ Ext H1 H' ∧ Apart H1 a3 c3 ∧
    readPins ws = (readPins (ws.drop m)).map (ps ++ ·), upTo N 3, ⟨none, 0, 0, 0, none, 0, 0, [], rfl, by omega, Row.nil, Ext.refl _, Apart.none, by simp⟩, fun a2 n2 c2 k a3 n3 c3 n H2 hN2 hI => ?_⟩
  obtain ⟨a2', n2', c2', k', a3', c3', m, ps, hvs, hm, hR, hE, hA, hI⟩ := hI
  obtain ⟨⟨rfl, rfl, rfl⟩, rfl, ⟨rfl, rfl, rfl⟩, rfl⟩ : (a2 = a2' ∧ n2 = n2' ∧ c2 = c2') ∧ k = k' ∧ (a3 = a3' ∧ n3 = m ∧ c3 = c3') ∧ n = (m : Int) := by simpa using hvs
  refine ⟨fun hlt => hS.str hE (by omega) hlt fun w hw => ?_, fun hge => ?_⟩
  · rw [Int.toNat_natCast] at hw
    have hwz := hwm w (List.mem_of_getElem? hw)
    rw [drop_at hw] at hI
    refine (l_index (hL.ext hN2.ext) (s := ⟨w.toArray⟩) (sep := ⟨#[64]⟩) (by rw [size_mk]; omega)).int1 fun H3 e3 hN3 => ?_
    rw [data_mk, show (⟨#[64]⟩ : ByteArray).data.toList = [64] from rfl]
    rcases index_byte 64 w with ⟨hno, hix⟩ | ⟨u, t, rfl, hu, hix⟩
    · rw [hix]
      refine ⟨fun _ => ?_, fun h => absurd (by decide) h⟩
      have : readPin w = none := by unfold readPin; rw [cut_miss hno]; rfl
      rw [readPins_bad this, Option.map_none] at hI
      rw [lockRead_none (hW.trans hI)]
      exact ⟨none, 0, 0, rfl, Fresh.zero⟩
    rw [hix]
    have hsz2 : (⟨(u ++ 64 :: t).toArray⟩ : ByteArray).size = u.length + 1 + t.length := by rw [size_mk]; simp; omega
    simp at hwz
    refine ⟨fun h => by omega, fun _ => ⟨by omega, by omega, ?_⟩⟩
    have hx1 : ((⟨(u ++ 64 :: t).toArray⟩ : ByteArray).extract 0 (Int.toNat (u.length : Int))).data.toList = u := by
      rw [Int.toNat_natCast, Lib.extract_from_zero, data_mk]; simp
    have hz1 : ((⟨(u ++ 64 :: t).toArray⟩ : ByteArray).extract 0 (Int.toNat (u.length : Int))).size ≤ 60000 := by rw [size_data, hx1]; omega
    refine (cWhole (hL.ext (Ext.trans hN2.ext e3)) (s := (⟨(u ++ 64 :: t).toArray⟩ : ByteArray).extract 0 (Int.toNat (u.length : Int))) (by omega)).mono fun v H4 e4 hv4 => ?_
    obtain ⟨n4, b4, hv4, ht4, hf4⟩ := hv4
    refine ⟨n4, b4, hv4, fun hN4 => ?_⟩
    rintro r rfl
    rw [wrap_in (by omega) (by omega)]
    refine ⟨by omega, by omega, ?_⟩
    have hx2 : ((⟨(u ++ 64 :: t).toArray⟩ : ByteArray).extract (Int.toNat ((u.length : Int) + 1)) (⟨(u ++ 64 :: t).toArray⟩ : ByteArray).size).data.toList = t := by
      rw [extract_drop, data_mk, show Int.toNat ((u.length : Int) + 1) = u.length + 1 from by omega, List.drop_append, List.drop_eq_nil_of_le (by omega)]
      simp
    have hz2 : ((⟨(u ++ 64 :: t).toArray⟩ : ByteArray).extract (Int.toNat ((u.length : Int) + 1)) (⟨(u ++ 64 :: t).toArray⟩ : ByteArray).size).size ≤ 60000 := by rw [size_data, hx2]; omega
    refine (cWhole (hL.ext (Ext.trans hN2.ext (Ext.trans e3 e4))) (s := (⟨(u ++ 64 :: t).toArray⟩ : ByteArray).extract (Int.toNat ((u.length : Int) + 1)) (⟨(u ++ 64 :: t).toArray⟩ : ByteArray).size) (by omega)).mono fun v H5 e5 hv5 => ?_
    obtain ⟨n5, b5, hv5, ht5, hf5⟩ := hv5
    rw [hx1] at ht4 hf4
    rw [hx2] at ht5 hf5
    refine ⟨n5, b5, hv5, fun hN5 => ?_⟩
    have hrd : readPin (u ++ 64 :: t) = match num u, num t with | some n, some v => some ⟨n, v⟩ | _, _ => none := by unfold readPin; rw [cut_hit hu]; rfl
    generalize u ++ 64 :: t = w at *
    refine ⟨readPin w = none, ⟨fun h2 => ⟨fun _ _ h => h, ?_⟩, fun h2 => ⟨fun _ _ h => h, ?_⟩⟩, fun hφ => ?_, fun hφ => ?_⟩
    · rw [hrd, hf4 h2]
    · have h2' : b4 = true := by simpa using h2
      rw [hrd, ht4 h2']
      cases hb5 : b5 with
      | true => rw [ht5 hb5]; simp
      | false => rw [hf5 hb5]; simp
    · rw [readPins_bad hφ, Option.map_none] at hI
      rw [lockRead_none (hW.trans hI)]
      exact ⟨none, 0, 0, rfl, Fresh.zero⟩
    · have hpin : readPin w = some ⟨n4, n5⟩ := by
        rw [hrd] at hφ ⊢
        cases hb4 : b4 with
        | false => rw [hf4 hb4] at hφ; exact absurd rfl hφ
        | true =>
          cases hb5 : b5 with
          | false => rw [ht4 hb4, hf5 hb5] at hφ; exact absurd rfl hφ
          | true => rw [ht4 hb4, ht5 hb5]
      rw [readPins_cons hpin] at hI
      intro _
      refine ⟨_, hR.ext (Ext.trans e3 (Ext.trans e4 e5)), by omega, by omega, fun a6 c6 H6 hG6 hR6 => ?_⟩
      rintro r rfl
      rw [wrap_in (by omega) (by omega)]
      obtain ⟨hE6, hA6⟩ := hA.grew (Ext.trans hE (Ext.trans e3 (Ext.trans e4 e5))) hG6
      exact ⟨⟨a2, n2, c2, k, a6, c6, n3 + 1, ps ++ [⟨n4, n5⟩], rfl, by omega, by rw [List.flatMap_append]; exact hR6, hE6, hA6, by rw [hI]; cases readPins (ws.drop (n3 + 1)) <;> simp⟩, by simp [upTo]; omega⟩
  · have hmN : n3 = N := by omega
    subst hmN
    rw [List.drop_of_length_le (by omega), readPins, Option.map_some, List.append_nil] at hI
    rw [lockRead_some (hW.trans hI)]
    refine (cRefLockCheck (pins_of_row hR)).int1 fun H3 e3 hN3 => ⟨fun h => ?_, fun h => ?_⟩
    · rw [if_neg h]; exact ⟨none, 0, 0, rfl, Fresh.zero⟩
    · have h := Decidable.not_not.1 h
      rw [if_pos h]
      exact ⟨a3, n3, c3, rfl, (hR.ext e3).fresh hb⟩
end
end Go.Vg
