/- What is proved here: the contracts of the functions that print and read locks. -/
import Derived.Test.YtglnjkkaojhgnaaDoorW1
import Derived.Test.YtglnjkkaojhgnaaDoorLb
import Derived.Test.YtglnjkkaojhgnaaDoorC6
import Derived.Test.YtglnjkkaojhgnaaDoorTx2
set_option linter.unusedSimpArgs false
set_option linter.unusedVariables false
set_option maxRecDepth 100000
namespace Go.Vg
open Go Go.Proofs
/-! ### Texts and errors compared -/
theorem beq_bytes (a b : List UInt8) : (a == b) = decide (a = b) := by by_cases h : a = b <;> simp [h]
theorem eqS {xo yo : Operand} {s t : ByteArray} : RunsTo Tryd.prog (binRun .eql 9 xo yo (.string s) (.string t)) (.bool (decide (s.data.toList = t.data.toList))) := by
  have := eqStr (xo := xo) (yo := yo) (s := s) (t := t)
  rw [ByteArray.toList_eq, ByteArray.toList_eq, beq_bytes] at this
  exact this
theorem neS {xo yo : Operand} {s t : ByteArray} : RunsTo Tryd.prog (binRun .neq 9 xo yo (.string s) (.string t)) (.bool (decide (¬ s.data.toList = t.data.toList))) := by
  intro w
  have hg : (eqGuard .neq 9 xo yo (.string s) (.string t)).run Tryd.prog w = .ok () w := by simp [eqGuard]
  simp only [binRun, Sem.run_bind, hg, Result.andThen_ok]
  have := run_equalIn_string (P := Tryd.prog) w 9999 9 s t Tryd.underlying9
  have e : (s.toList == t.toList) = decide (s.data.toList = t.data.toList) := by rw [ByteArray.toList_eq, ByteArray.toList_eq, beq_bytes]
  simp [binOp, Op.equal, this, Op.stringOp, e]
theorem eqNilE {xo : Operand} : RunsTo Tryd.prog (binRun .eql 82 xo (.const .nilIface) .nilIface .nilIface) (.bool true) := by
  intro w
  have hu := run_underlying Tryd.underlying82
  have hg : (eqGuard .eql 82 xo (.const .nilIface) .nilIface .nilIface).run Tryd.prog w = .ok () w := by simp [eqGuard]
  have he : (Op.equalIn (9999 + 1) 82 .nilIface .nilIface).run Tryd.prog w = .ok true w := by
    rw [Op.equalIn]
    simp only [Sem.run_bind, hu, Result.andThen_ok]
    rfl
  simp only [binRun, Sem.run_bind, hg, Result.andThen_ok]
  simp [binOp, Op.equal, show Op.maxDepth = 9999 + 1 from rfl, he]
theorem eqIfaceE {xo : Operand} {t : TypeId} {p : Value} : RunsTo Tryd.prog (binRun .eql 82 xo (.const .nilIface) (.iface t p) .nilIface) (.bool false) := by
  intro w
  have hu := run_underlying Tryd.underlying82
  have hg : (eqGuard .eql 82 xo (.const .nilIface) (.iface t p) .nilIface).run Tryd.prog w = .ok () w := by simp [eqGuard]
  have he : (Op.equalIn (9999 + 1) 82 (.iface t p) .nilIface).run Tryd.prog w = .ok false w := by
    rw [Op.equalIn]
    simp only [Sem.run_bind, hu, Result.andThen_ok]
    rfl
  simp only [binRun, Sem.run_bind, hg, Result.andThen_ok]
  simp [binOp, Op.equal, show Op.maxDepth = 9999 + 1 from rfl, he]
theorem box_cells {H : Heap} {g : Nat} {e : TypeId} {cs : List Value} (h : H g = some (boxKB e cs)) : Vg.cellsAt H g 0 0 cs :=
  cellsAt_of _ 0 fun j v hj => by unfold Heap.cell; rw [h]; simpa [boxKB] using hj
section
variable {H : Heap} (hL : Lb H)
include hL
/-! ### Numbers -/
theorem cNumber {s : ByteArray} (hs : s.size ≤ 281474976710656) : Spec Tryd.prog 44 [.string s] H fun v _ => ∃ (n : Int) (b : Bool), v = .tuple #[.int .i64 n, .bool b] ∧ (b = true → num s.data.toList = some n) ∧ (b = false → num s.data.toList = none) := by
  refine Trydvc Tryd.func44 (by kernel_rfl) (by kernel_rfl) _ rfl (fun base K => vd44 s base H K) fun base hb => ?_
  refine (l_atoi hL hs).spec.mono fun v H1 e1 hv => ?_
  obtain ⟨⟨n, e, rfl, h⟩, _⟩ := hv
  rcases h with ⟨hok, rfl⟩ | ⟨hno, t, p, rfl⟩
  · have hbd := Lib.atoiAll_bounds hok
    refine ⟨n, .inl ⟨rfl, fun hN => ⟨true, eqNilE, fun _ => (l_itoa (hL.ext e1) hbd.1 hbd.2).str1 fun H2 e2 hN2 => ⟨_, eqS, n, _, rfl, fun h => ?_, fun h => ?_⟩, fun h => absurd rfl h⟩⟩⟩
    · simp at h
      rw [num, hok]; simp [h]
    · simp at h
      rw [num, hok]; simp [h]
  · refine ⟨n, .inr ⟨t, p, rfl, fun hN => ⟨false, eqIfaceE, fun h => (by cases h), fun _ => ⟨n, false, rfl, fun h => (by cases h), fun _ => ?_⟩⟩⟩⟩
    unfold num
    split
    · rename_i v hv; exact absurd hv (hno v)
    · rfl
theorem cWhole {s : ByteArray} (hs : s.size ≤ 281474976710656) : Spec Tryd.prog 49 [.string s] H fun v _ => ∃ (n : Int) (b : Bool), v = .tuple #[.int .i64 n, .bool b] ∧ (b = true → num s.data.toList = some n) ∧ (b = false → num s.data.toList = none) := by
  refine Trydvc Tryd.func49 (by kernel_rfl) (by kernel_rfl) _ rfl (fun base K => vd49 s base H K) fun base hb => ?_
  refine (l_pint hL hs).spec.mono fun v H1 e1 hv => ?_
  obtain ⟨⟨n, e, rfl, h⟩, _⟩ := hv
  rcases h with ⟨hok, rfl⟩ | ⟨hno, t, p, rfl⟩
  · have hbd := Lib.atoiAll_bounds hok
    refine ⟨n, .inl ⟨rfl, fun hN => ⟨true, eqNilE, fun _ => (l_fmt (hL.ext e1) hbd.1 hbd.2).str1 fun H2 e2 hN2 => ⟨_, eqS, n, _, rfl, fun h => ?_, fun h => ?_⟩, fun h => absurd rfl h⟩⟩⟩
    · simp at h
      rw [num, hok]; simp [h]
    · simp at h
      rw [num, hok]; simp [h]
  · refine ⟨n, .inr ⟨t, p, rfl, fun hN => ⟨false, eqIfaceE, fun h => (by cases h), fun _ => ⟨n, false, rfl, fun h => (by cases h), fun _ => ?_⟩⟩⟩⟩
    unfold num
    split
    · rename_i v hv; exact absurd hv (hno v)
    · rfl
end
end Go.Vg
set_option linter.unusedSimpArgs false
set_option linter.unusedVariables false
set_option maxRecDepth 100000
namespace Go.Vg
open Go Go.Proofs
/-! ### Plain laws -/
theorem joinB_snoc {c : UInt8} {w : List UInt8} : ∀ {ws : List (List UInt8)}, ws ≠ [] → joinB c (ws ++ [w]) = joinB c ws ++ c :: w
  | x :: r, _ => by simp [joinB]
theorem lockText_snoc {l : List Pin} {p : Pin} (h : l ≠ []) : lockText (l ++ [p]) = lockText l ++ [44] ++ wordOf p := by
  unfold lockText
  rw [List.map_append, List.map_singleton, joinB_snoc (by simpa using h)]
  simp
theorem lockText_one {p : Pin} : lockText [p] = wordOf p := by simp [lockText, joinB]
theorem lockText_take {l : List Pin} (h : lockCheck l = 0) (m : Nat) : (lockText (l.take m)).length ≤ 72 := by
  have h1 := (lockCheck_zero.1 h).2
  unfold lockText
  cases hm : l.take m with
  | nil => simp [joinB]
  | cons p r =>
    have hmem : ∀ q ∈ p :: r, q ∈ l := fun q hq => List.mem_of_mem_take (by rw [hm]; exact hq)
    have hw : ∀ w ∈ r.map wordOf, w.length ≤ 5 := fun w hw => by
      obtain ⟨q, hq, rfl⟩ := List.mem_map.1 hw
      exact word_len (pin_range h (hmem q (by simp [hq])))
    have h2 := flat_words hw
    have h3 := word_len (pin_range h (hmem p (by simp)))
    have h4 : (p :: r).length ≤ l.length := by rw [← hm, List.length_take]; omega
    simp only [List.map_cons, joinB, List.length_append, List.length_map] at h2 ⊢
    simp at h4
    omega
theorem cuts_len (c : UInt8) : ∀ s : List UInt8, (cuts c s).length ≤ s.length + 1
  | [] => by simp [cuts]
  | b :: r => by
    have ih := cuts_len c r
    have := cuts_ne c r
    have hp : 0 < (cuts c r).length := List.length_pos_iff.2 this
    unfold cuts
    split
    · simp; omega
    · simp; omega
theorem mem_cuts_len {c : UInt8} {s w : List UInt8} (h : w ∈ cuts c s) : w.length ≤ s.length := by
  have hj := joinB_cuts c s
  have key : ∀ (ws : List (List UInt8)), w ∈ ws → w.length ≤ (joinB c ws).length := by
    intro ws hw
    cases ws with
    | nil => cases hw
    | cons x r =>
      unfold joinB
      rcases List.mem_cons.1 hw with rfl | hw
      · simp
      · obtain ⟨i, hi⟩ := List.getElem?_of_mem hw
        have : (c :: w).length ≤ (r.flatMap fun y => c :: y).length := by
          clear hi i h hj
          induction r with
          | nil => cases hw
          | cons y t ih =>
            simp only [List.flatMap_cons, List.length_append]
            rcases List.mem_cons.1 hw with rfl | hw
            · omega
            · have := ih (by simp [hw]) hw; omega
        simp only [List.length_append]; simp at this ⊢; omega
  rw [← hj]; exact key _ h
theorem readPins_cons {w : List UInt8} {ws : List (List UInt8)} {p : Pin} (h : readPin w = some p) : readPins (w :: ws) = (readPins ws).map (p :: ·) := by rw [readPins, h]
theorem readPins_bad {w : List UInt8} {ws : List (List UInt8)} (h : readPin w = none) : readPins (w :: ws) = none := by rw [readPins, h]
theorem lockRead_none {s : List UInt8} (h : readWords s = none) : lockRead s = .error 1 := by rw [lockRead, h]
theorem lockRead_some {s : List UInt8} {l : List Pin} (h : readWords s = some l) : lockRead s = if lockCheck l = 0 then .ok l else .error (lockCheck l) := by rw [lockRead, h]
theorem data_mk (l : List UInt8) : (⟨l.toArray⟩ : ByteArray).data.toList = l := rfl
theorem size_mk (l : List UInt8) : (⟨l.toArray⟩ : ByteArray).size = l.length := rfl
theorem size_data (s : ByteArray) : s.size = s.data.toList.length := by simp
/-! ### Loops beside what was made ahead of them -/
def Apart (H1 : Heap) (a : Option Addr) (c : Nat) : Prop := c ≠ 0 → ∀ x k, H1 x = some k → a ≠ some ⟨x, 0, none⟩
theorem Apart.none {H1 : Heap} {a : Option Addr} : Apart H1 a 0 := fun h => absurd rfl h
theorem Apart.grew {base : Nat} {H1 H H' : Heap} {a a' : Option Addr} {c c' nn : Nat} (h : Apart H1 a c) (e : Ext H1 H) (hg : Grew base H H' a c a' c' nn) : Ext H1 H' ∧ Apart H1 a' c' := by
  refine ⟨fun x k hx => hg.keep x k (e x k hx) ?_, fun hc' x k hx ha' => ?_⟩
  · by_cases hc : c = 0
    · exact .inl hc
    · exact .inr (h hc x k hx)
  · rcases hg.place hc' x ha' with hn | ⟨he, hc⟩
    · rw [e x k hx] at hn; cases hn
    · rw [he] at ha'; exact h hc x k hx ha'
/-! ### Print -/
section
variable {H : Heap} (hL : Lb H)
include hL
theorem cLockPrint {a : Option Addr} {l c : Nat} {xs : List Pin} (hp : Pins H a l xs) : Spec Tryd.prog 8 [.slice a l c] H fun v _ => v = .tuple #[str (if lockCheck xs = 0 then lockText xs else []), i64 (lockCheck xs)] := by
  refine TrydvcJ Tryd.func8 (by kernel_rfl) (by kernel_rfl) _ rfl (fun base K => vd8 a l c base H K) fun base hb => ?_
  have hl := hp.len
  refine (cLockCheck hp).int1 fun H1 e1 hN1 => ⟨fun h => ?_, fun h => ?_⟩
  · rw [if_neg h]; rfl
  have hz := Decidable.not_not.1 h
  rw [if_pos hz, hz]
  have hlk := (lockCheck_zero.1 hz).2
  refine ⟨fun vs H' => ∃ (a3 : Option Addr) (c3 m : Nat), vs = [.slice a3 m c3, i64 m] ∧ m ≤ l ∧ Row base H' 9 1 a3 m c3 ((xs.take m).flatMap fun p => [str (wordOf p)]), upTo l 1, ⟨none, 0, 0, rfl, by omega, Row.nil⟩, fun a3 n3 c3 n H2 hN2 hI => ?_⟩
  obtain ⟨a3', c3', m, hvs, hm, hR⟩ := hI
  obtain ⟨⟨rfl, rfl, rfl⟩, rfl⟩ : (a3 = a3' ∧ n3 = m ∧ c3 = c3') ∧ n = (m : Int) := by simpa using hvs
  refine ⟨fun hlt => hp.pin hN2.ext (by omega) hlt fun p hpp => ?_, fun hge => ?_⟩
  · rw [Int.toNat_natCast] at hpp
    have hr := pin_range hz (List.mem_of_getElem? hpp)
    have hi1 := itoa_short (n := p.name) (by omega) (by omega)
    have hi2 := itoa_short (n := p.ver) (by omega) (by omega)
    intro _
    refine (l_itoa (hL.ext hN2.ext) (by omega) (by omega)).str1 fun H3 e3 hN3 => ⟨_, runs_add rfl (by simp only [List.length_append, List.length_cons, List.length_nil]; omega), ?_⟩
    refine (l_itoa (hL.ext (Ext.trans hN2.ext e3)) (by omega) (by omega)).str1 fun H4 e4 hN4 => ⟨_, runs_add (c := wordOf p) (by simp [wordOf]) (by simp only [List.length_append, List.length_cons, List.length_nil]; omega), fun g H5 hN5 hg hH5 => ?_⟩
    refine ⟨_, _, hR.ext (Ext.trans e3 (Ext.trans e4 hN5.ext)), rfl, rfl, .inr ⟨g, 0, rfl, box_cells hH5⟩, by omega, by omega, fun a6 c6 H6 hG6 hR6 => ?_⟩
    rintro r rfl
    rw [wrap_in (by omega) (by omega)]
    refine ⟨⟨a6, c6, n3 + 1, rfl, by omega, ?_⟩, by simp [upTo]; omega⟩
    rw [take_at hpp, List.flatMap_append]
    exact hR6
  · obtain rfl : n3 = l := by omega
    rw [List.take_of_length_le (by omega)] at hR
    have hS : Sl RStr 1 H2 a3 n3 (xs.map wordOf) := by
      have hR' : Row base H2 9 1 a3 n3 c3 ((xs.map wordOf).flatMap fun w => [str w]) := by rw [List.flatMap_map]; exact hR
      exact sl_of_rowE (enc := fun w => [str w]) (sz := 1) (fun _ => rfl) (by omega) hR'
    have hjl : (joinB 44 (xs.map wordOf)).length ≤ 72 := lockText_len hz
    exact (l_join (b := 44) hS hR.2.1 (by omega) (by omega)).str1 fun H3 e3 hN3 => rfl
theorem cLockText {a : Option Addr} {l c : Nat} {xs : List Pin} (hp : Pins H a l xs) (hz : lockCheck xs = 0) : Spec Tryd.prog 13 [.slice a l c] H fun v _ => v = str (lockText xs) := by
  refine TrydvcJ Tryd.func13 (by kernel_rfl) (by kernel_rfl) _ rfl (fun base K => vd13 a l c base H K) fun base hb => ?_
  have hl := hp.len
  have hlk := (lockCheck_zero.1 hz).2
  refine ⟨fun vs H' => ∃ m : Nat, vs = [str (lockText (xs.take m)), i64 m] ∧ m ≤ l, upTo l 1, ⟨0, rfl, by omega⟩, fun s n H2 hN2 hI => ?_⟩
  obtain ⟨m, hvs, hm⟩ := hI
  obtain ⟨rfl, rfl⟩ : s = ⟨(lockText (xs.take m)).toArray⟩ ∧ n = (m : Int) := by simpa [str] using hvs
  have hln := lockText_take hz m
  refine ⟨fun hlt => hp.pin hN2.ext (by omega) hlt fun p hpp => ?_, fun hge => ?_⟩
  · rw [Int.toNat_natCast] at hpp
    have hr := pin_range hz (List.mem_of_getElem? hpp)
    have hi1 := itoa_short (n := p.name) (by omega) (by omega)
    have hi2 := itoa_short (n := p.ver) (by omega) (by omega)
    have hwl := word_len hr
    have hmx : m < xs.length := (List.getElem?_eq_some_iff.1 hpp).1
    intro _
    refine ⟨fun h0 => ?_, fun h0 => ?_⟩
    · refine ⟨_, runs_add rfl (by simp only [List.length_append, List.length_cons, List.length_nil]; omega), ?_⟩
      refine (l_itoa (hL.ext hN2.ext) (by omega) (by omega)).str1 fun H3 e3 hN3 => ⟨_, runs_add rfl (by simp only [List.length_append, List.length_cons, List.length_nil]; omega), ?_⟩
      refine (l_itoa (hL.ext (Ext.trans hN2.ext e3)) (by omega) (by omega)).str1 fun H4 e4 hN4 => ⟨_, runs_add (c := wordOf p) (by simp [wordOf]) (by simp only [List.length_append, List.length_cons, List.length_nil]; omega), _, runs_add (c := lockText (xs.take (m + 1))) ?_ (by simp only [List.length_append, List.length_cons, List.length_nil]; omega), ?_⟩
      · rw [take_at hpp, lockText_snoc (fun e => by have := congrArg List.length e; rw [List.length_take, List.length_nil] at this; omega)]
      · rintro r rfl
        rw [wrap_in (by omega) (by omega)]
        exact ⟨⟨m + 1, rfl, by omega⟩, by simp [upTo]; omega⟩
    · obtain rfl : m = 0 := by omega
      have hl0 : (lockText ([] : List Pin)).length = 0 := rfl
      rw [List.take_zero] at hln ⊢
      refine (l_itoa (hL.ext hN2.ext) (by omega) (by omega)).str1 fun H3 e3 hN3 => ⟨_, runs_add rfl (by simp only [List.length_append, List.length_cons, List.length_nil]; omega), ?_⟩
      refine (l_itoa (hL.ext (Ext.trans hN2.ext e3)) (by omega) (by omega)).str1 fun H4 e4 hN4 => ⟨_, runs_add (c := wordOf p) (by simp [wordOf]) (by simp only [List.length_append, List.length_cons, List.length_nil]; omega), _, runs_add (c := lockText (xs.take 1)) ?_ (by omega), ?_⟩
      · rw [take_at hpp, List.take_zero, List.nil_append, lockText_one]; rfl
      · rintro r rfl
        rw [wrap_in (by omega) (by omega)]
        exact ⟨⟨1, rfl, by omega⟩, by simp [upTo]; omega⟩
  · obtain rfl : m = l := by omega
    rw [List.take_of_length_le (by omega)]; rfl
/-! ### Parse -/
theorem cLockParse {s : ByteArray} : Spec Tryd.prog 11 [.string s] H fun v H' => ∃ a n c, v = .tuple #[.slice a n c, i64 (if 60000 < s.size then 2 else errOf (lockRead s.data.toList))] ∧ Fresh H H' 29 2 a n c ((if 60000 < s.size then [] else okL (lockRead s.data.toList)).flatMap pinCells) := by
  refine TrydvcJ Tryd.func11 (by kernel_rfl) (by kernel_rfl) _ rfl (fun base K => vd11 s base H K) fun base hb => ?_
  refine ⟨fun h => ?_, fun h => ?_⟩
  · rw [if_pos (by omega), if_pos (by omega)]; exact ⟨none, 0, 0, rfl, Fresh.zero⟩
  rw [if_neg (by omega), if_neg (by omega)]
  have hsz : s.data.toList.length ≤ 60000 := by rw [← size_data]; omega
  refine ⟨_, eqS, fun h0 => ?_, fun h0 => ?_⟩
  · have h0 : s.data.toList = [] := by simpa using h0
    rw [h0]; exact ⟨none, 0, 0, rfl, Fresh.zero⟩
  have hne : s.data.toList ≠ [] := by simpa using h0
  have hW : readWords s.data.toList = readPins (cuts 44 s.data.toList) := by rw [readWords, if_neg hne]
  generalize hws : cuts 44 s.data.toList = ws at hW
  have hwl : ws.length ≤ 60001 := by have := cuts_len 44 s.data.toList; rw [hws] at this; omega
  have hwm : ∀ w ∈ ws, w.length ≤ 60000 := fun w hw => by rw [← hws] at hw; have := mem_cuts_len hw; omega
  refine (l_split hL (s := s) (c := 44) (by omega)).mono fun v H1 e1 hv => ?_
  obtain ⟨g, N, hv, hS⟩ := hv
  rw [hws] at hS
  have hNl := hS.len
  refine ⟨_, _, _, hv, fun hN1 => ?_⟩
  refine ⟨fun vs H' => ∃ (a2 : Option Addr) (n2 c2 : Nat) (k : Int) (a3 : Option Addr) (c3 m : Nat) (ps : List Pin), vs = [.slice a2 n2 c2, i64 k, .slice a3 m c3, i64 m] ∧ m ≤ N ∧ Row base H' 29 2 a3 m c3 (ps.flatMap pinCells) ∧ Ext H1 H' ∧ Apart H1 a3 c3 ∧
    readPins ws = (readPins (ws.drop m)).map (ps ++ ·), upTo N 3, ⟨none, 0, 0, 0, none, 0, 0, [], rfl, by omega, Row.nil, Ext.refl _, Apart.none, by simp⟩, fun a2 n2 c2 k a3 n3 c3 n H2 hN2 hI => ?_⟩
  obtain ⟨a2', n2', c2', k', a3', c3', m, ps, hvs, hm, hR, hE, hA, hI⟩ := hI
  obtain ⟨⟨rfl, rfl, rfl⟩, rfl, ⟨rfl, rfl, rfl⟩, rfl⟩ : (a2 = a2' ∧ n2 = n2' ∧ c2 = c2') ∧ k = k' ∧ (a3 = a3' ∧ n3 = m ∧ c3 = c3') ∧ n = (m : Int) := by simpa using hvs
  refine ⟨fun hlt => hS.str hE (by omega) hlt fun w hw => ?_, fun hge => ?_⟩
  · rw [Int.toNat_natCast] at hw
    have hwz := hwm w (List.mem_of_getElem? hw)
    rw [drop_at hw] at hI
    refine (l_cut (hL.ext hN2.ext) (s := ⟨w.toArray⟩) (sep := ⟨#[64]⟩) (by rw [size_mk]; omega)).cut3 fun H3 e3 hN3 => ?_
    rw [data_mk, show (⟨#[64]⟩ : ByteArray).data.toList = [64] from rfl]
    generalize hcut : Lib.cut w [64] = x
    have hxl : x.1.length ≤ 60000 ∧ x.2.1.length ≤ 60000 := by
      rcases cut_cases 64 w with ⟨_, e⟩ | ⟨u, t, rfl, _, e⟩
      · rw [e] at hcut; subst hcut; exact ⟨hwz, by simp⟩
      · rw [e] at hcut; subst hcut; simp at hwz; exact ⟨by simp; omega, by simp; omega⟩
    refine (cNumber (hL.ext (Ext.trans hN2.ext e3)) (s := ⟨x.1.toArray⟩) (by rw [size_mk]; omega)).mono fun v H4 e4 hv4 => ?_
    obtain ⟨n4, b4, hv4, ht4, hf4⟩ := hv4
    refine ⟨n4, b4, hv4, fun hN4 => ?_⟩
    refine (cNumber (hL.ext (Ext.trans hN2.ext (Ext.trans e3 e4))) (s := ⟨x.2.1.toArray⟩) (by rw [size_mk]; omega)).mono fun v H5 e5 hv5 => ?_
    obtain ⟨n5, b5, hv5, ht5, hf5⟩ := hv5
    rw [data_mk] at ht4 hf4 ht5 hf5
    refine ⟨n5, b5, hv5, fun hN5 => ?_⟩
    have hrd : readPin w = if x.2.2 = true then (match num x.1, num x.2.1 with | some n, some v => some ⟨n, v⟩ | _, _ => none) else none := by unfold readPin; rw [hcut]; rfl
    refine ⟨readPin w = none, ⟨fun h1 => ⟨fun _ _ h => h, ?_⟩, fun h1 => ⟨fun h2 => ⟨fun _ _ h => h, ?_⟩, fun h2 => ⟨fun _ _ h => h, ?_⟩⟩⟩, fun hφ => ?_, fun hφ => ?_⟩
    · rw [hrd, if_neg (by rw [h1]; decide)]
    · rw [hrd, hf4 h2]; split <;> rfl
    · have h1' : x.2.2 = true := by simpa using h1
      have h2' : b4 = true := by simpa using h2
      rw [hrd, if_pos h1', ht4 h2']
      cases hb5 : b5 with
      | true => rw [ht5 hb5]; simp
      | false => rw [hf5 hb5]; simp
    · rw [readPins_bad hφ, Option.map_none] at hI
      rw [lockRead_none (hW.trans hI)]
      exact ⟨none, 0, 0, rfl, Fresh.zero⟩
    · have hpin : readPin w = some ⟨n4, n5⟩ := by
        rw [hrd] at hφ ⊢
        by_cases hx : x.2.2 = true
        · rw [if_pos hx] at hφ ⊢
          cases hb4 : b4 with
          | false => rw [hf4 hb4] at hφ; exact absurd rfl hφ
          | true =>
            cases hb5 : b5 with
            | false => rw [ht4 hb4, hf5 hb5] at hφ; exact absurd rfl hφ
            | true => rw [ht4 hb4, ht5 hb5]
        · rw [if_neg hx] at hφ; exact absurd rfl hφ
      rw [readPins_cons hpin] at hI
      intro _
      refine ⟨_, hR.ext (Ext.trans e3 (Ext.trans e4 e5)), by omega, by omega, fun a6 c6 H6 hG6 hR6 => ?_⟩
      rintro r rfl
      rw [wrap_in (by omega) (by omega)]
      obtain ⟨hE6, hA6⟩ := hA.grew (Ext.trans hE (Ext.trans e3 (Ext.trans e4 e5))) hG6
      exact ⟨⟨a2, n2, c2, k, a6, c6, n3 + 1, ps ++ [⟨n4, n5⟩], rfl, by omega, by rw [List.flatMap_append]; exact hR6, hE6, hA6, by rw [hI]; cases readPins (ws.drop (n3 + 1)) <;> simp⟩, by simp [upTo]; omega⟩
  · have hmN : n3 = N := by omega
    subst hmN
    rw [List.drop_of_length_le (by omega), readPins, Option.map_some, List.append_nil] at hI
    rw [lockRead_some (hW.trans hI)]
    refine (cLockCheck (pins_of_row hR)).int1 fun H3 e3 hN3 => ⟨fun h => ?_, fun h => ?_⟩
    · rw [if_neg h]; exact ⟨none, 0, 0, rfl, Fresh.zero⟩
    · have h := Decidable.not_not.1 h
      rw [if_pos h]
      exact ⟨a3, n3, c3, rfl, (hR.ext e3).fresh hb⟩
/-! ### LockRead -/
omit hL in
theorem extract_drop (s : ByteArray) (i : Nat) : (s.extract i s.size).data.toList = s.data.toList.drop i := by
  rw [ByteArray.data_extract, Array.toList_extract, List.extract_eq_take_drop, List.take_of_length_le (by simp)]
theorem cLockRead {s : ByteArray} (hsz : s.data.toList.length ≤ 60000) : Spec Tryd.prog 17 [.string s] H fun v H' => ∃ a n c, v = .tuple #[.slice a n c, i64 (errOf (lockRead s.data.toList))] ∧ Fresh H H' 29 2 a n c ((okL (lockRead s.data.toList)).flatMap pinCells) := by
  refine TrydvcJ Tryd.func17 (by kernel_rfl) (by kernel_rfl) _ rfl (fun base K => vd17 s base H K) fun base hb => ?_
  have hss : s.size ≤ 60000 := by rw [size_data]; omega
  refine ⟨_, neS, fun h0 => ?_, fun h0 => ?_⟩
  case refine_2 =>
    have h0 : s.data.toList = [] := by simpa using h0
    rw [h0]
    refine (cRefLockCheck (Sl.nil : Pins H none 0 [])).int1 fun H3 e3 hN3 => ⟨fun h => absurd rfl h, fun h => ⟨none, 0, 0, rfl, Fresh.zero⟩⟩
  have hne : s.data.toList ≠ [] := by simpa using h0
  have hW : readWords s.data.toList = readPins (cuts 44 s.data.toList) := by rw [readWords, if_neg hne]
  generalize hws : cuts 44 s.data.toList = ws at hW
  have hwl : ws.length ≤ 60001 := by have := cuts_len 44 s.data.toList; rw [hws] at this; omega
  have hwm : ∀ w ∈ ws, w.length ≤ 60000 := fun w hw => by rw [← hws] at hw; have := mem_cuts_len hw; omega
  refine (l_split hL (s := s) (c := 44) (by omega)).mono fun v H1 e1 hv => ?_
  obtain ⟨g, N, hv, hS⟩ := hv
  rw [hws] at hS
  have hNl := hS.len
  refine ⟨_, _, _, hv, fun hN1 => ?_⟩
  refine ⟨fun vs H' => ∃ (a2 : Option Addr) (n2 c2 : Nat) (k : Int) (a3 : Option Addr) (c3 m : Nat) (ps : List Pin), vs = [.slice a2 n2 c2, i64 k, .slice a3 m c3, i64 m] ∧ m ≤ N ∧ Row base H' 29 2 a3 m c3 (ps.flatMap pinCells) ∧ Ext H1 H' ∧ Apart H1 a3 c3 ∧
    readPins ws = (readPins (ws.drop m)).map (ps ++ ·), upTo N 3, ⟨none, 0, 0, 0, none, 0, 0, [], rfl, by omega, Row.nil, Ext.refl _, Apart.none, by simp⟩, fun a2 n2 c2 k a3 n3 c3 n H2 hN2 hI => ?_⟩
  obtain ⟨a2', n2', c2', k', a3', c3', m, ps, hvs, hm, hR, hE, hA, hI⟩ := hI
  obtain ⟨⟨rfl, rfl, rfl⟩, rfl, ⟨rfl, rfl, rfl⟩, rfl⟩ : (a2 = a2' ∧ n2 = n2' ∧ c2 = c2') ∧ k = k' ∧ (a3 = a3' ∧ n3 = m ∧ c3 = c3') ∧ n = (m : Int) := by simpa using hvs
  refine ⟨fun hlt => hS.str hE (by omega) hlt fun w hw => ?_, fun hge => ?_⟩
  · rw [Int.toNat_natCast] at hw
    have hwz := hwm w (List.mem_of_getElem? hw)
    rw [drop_at hw] at hI
    refine (l_index (hL.ext hN2.ext) (s := ⟨w.toArray⟩) (sep := ⟨#[64]⟩) (by rw [size_mk]; omega)).int1 fun H3 e3 hN3 => ?_
    rw [data_mk, show (⟨#[64]⟩ : ByteArray).data.toList = [64] from rfl]
    rcases index_byte 64 w with ⟨hno, hix⟩ | ⟨u, t, rfl, hu, hix⟩
    · rw [hix]
      refine ⟨fun _ => ?_, fun h => absurd (by decide) h⟩
      have : readPin w = none := by unfold readPin; rw [cut_miss hno]; rfl
      rw [readPins_bad this, Option.map_none] at hI
      rw [lockRead_none (hW.trans hI)]
      exact ⟨none, 0, 0, rfl, Fresh.zero⟩
    rw [hix]
    have hsz2 : (⟨(u ++ 64 :: t).toArray⟩ : ByteArray).size = u.length + 1 + t.length := by rw [size_mk]; simp; omega
    simp at hwz
    refine ⟨fun h => by omega, fun _ => ⟨by omega, by omega, ?_⟩⟩
    have hx1 : ((⟨(u ++ 64 :: t).toArray⟩ : ByteArray).extract 0 (Int.toNat (u.length : Int))).data.toList = u := by
      rw [Int.toNat_natCast, Lib.extract_from_zero, data_mk]; simp
    have hz1 : ((⟨(u ++ 64 :: t).toArray⟩ : ByteArray).extract 0 (Int.toNat (u.length : Int))).size ≤ 60000 := by rw [size_data, hx1]; omega
    refine (cWhole (hL.ext (Ext.trans hN2.ext e3)) (s := (⟨(u ++ 64 :: t).toArray⟩ : ByteArray).extract 0 (Int.toNat (u.length : Int))) (by omega)).mono fun v H4 e4 hv4 => ?_
    obtain ⟨n4, b4, hv4, ht4, hf4⟩ := hv4
    refine ⟨n4, b4, hv4, fun hN4 => ?_⟩
    rintro r rfl
    rw [wrap_in (by omega) (by omega)]
    refine ⟨by omega, by omega, ?_⟩
    have hx2 : ((⟨(u ++ 64 :: t).toArray⟩ : ByteArray).extract (Int.toNat ((u.length : Int) + 1)) (⟨(u ++ 64 :: t).toArray⟩ : ByteArray).size).data.toList = t := by
      rw [extract_drop, data_mk, show Int.toNat ((u.length : Int) + 1) = u.length + 1 from by omega, List.drop_append, List.drop_eq_nil_of_le (by omega)]
      simp
    have hz2 : ((⟨(u ++ 64 :: t).toArray⟩ : ByteArray).extract (Int.toNat ((u.length : Int) + 1)) (⟨(u ++ 64 :: t).toArray⟩ : ByteArray).size).size ≤ 60000 := by rw [size_data, hx2]; omega
    refine (cWhole (hL.ext (Ext.trans hN2.ext (Ext.trans e3 e4))) (s := (⟨(u ++ 64 :: t).toArray⟩ : ByteArray).extract (Int.toNat ((u.length : Int) + 1)) (⟨(u ++ 64 :: t).toArray⟩ : ByteArray).size) (by omega)).mono fun v H5 e5 hv5 => ?_
    obtain ⟨n5, b5, hv5, ht5, hf5⟩ := hv5
    rw [hx1] at ht4 hf4
    rw [hx2] at ht5 hf5
    refine ⟨n5, b5, hv5, fun hN5 => ?_⟩
    have hrd : readPin (u ++ 64 :: t) = match num u, num t with | some n, some v => some ⟨n, v⟩ | _, _ => none := by unfold readPin; rw [cut_hit hu]; rfl
    generalize u ++ 64 :: t = w at *
    refine ⟨readPin w = none, ⟨fun h2 => ⟨fun _ _ h => h, ?_⟩, fun h2 => ⟨fun _ _ h => h, ?_⟩⟩, fun hφ => ?_, fun hφ => ?_⟩
    · rw [hrd, hf4 h2]
    · have h2' : b4 = true := by simpa using h2
      rw [hrd, ht4 h2']
      cases hb5 : b5 with
      | true => rw [ht5 hb5]; simp
      | false => rw [hf5 hb5]; simp
    · rw [readPins_bad hφ, Option.map_none] at hI
      rw [lockRead_none (hW.trans hI)]
      exact ⟨none, 0, 0, rfl, Fresh.zero⟩
    · have hpin : readPin w = some ⟨n4, n5⟩ := by
        rw [hrd] at hφ ⊢
        cases hb4 : b4 with
        | false => rw [hf4 hb4] at hφ; exact absurd rfl hφ
        | true =>
          cases hb5 : b5 with
          | false => rw [ht4 hb4, hf5 hb5] at hφ; exact absurd rfl hφ
          | true => rw [ht4 hb4, ht5 hb5]
      rw [readPins_cons hpin] at hI
      intro _
      refine ⟨_, hR.ext (Ext.trans e3 (Ext.trans e4 e5)), by omega, by omega, fun a6 c6 H6 hG6 hR6 => ?_⟩
      rintro r rfl
      rw [wrap_in (by omega) (by omega)]
      obtain ⟨hE6, hA6⟩ := hA.grew (Ext.trans hE (Ext.trans e3 (Ext.trans e4 e5))) hG6
      exact ⟨⟨a2, n2, c2, k, a6, c6, n3 + 1, ps ++ [⟨n4, n5⟩], rfl, by omega, by rw [List.flatMap_append]; exact hR6, hE6, hA6, by rw [hI]; cases readPins (ws.drop (n3 + 1)) <;> simp⟩, by simp [upTo]; omega⟩
  · have hmN : n3 = N := by omega
    subst hmN
    rw [List.drop_of_length_le (by omega), readPins, Option.map_some, List.append_nil] at hI
    rw [lockRead_some (hW.trans hI)]
    refine (cRefLockCheck (pins_of_row hR)).int1 fun H3 e3 hN3 => ⟨fun h => ?_, fun h => ?_⟩
    · rw [if_neg h]; exact ⟨none, 0, 0, rfl, Fresh.zero⟩
    · have h := Decidable.not_not.1 h
      rw [if_pos h]
      exact ⟨a3, n3, c3, rfl, (hR.ext e3).fresh hb⟩
end
end Go.Vg
set_option linter.unusedSimpArgs false
set_option linter.unusedVariables false
set_option maxRecDepth 100000
namespace Go.Vg
open Go Go.Proofs
theorem neBool {xo yo : Operand} {a b : Bool} : RunsTo Tryd.prog (binRun .neq 4 xo yo (.bool a) (.bool b)) (.bool (a != b)) := by
  intro w
  have hg : (eqGuard .neq 4 xo yo (.bool a) (.bool b)).run Tryd.prog w = .ok () w := by simp [eqGuard]
  simp only [binRun, Sem.run_bind, hg, Result.andThen_ok]
  have := run_equal_bool w 4 a b Tryd.underlying4
  simp [binOp, this, bne]
theorem itoa_digit {d : Nat} (h : d < 10) : Lib.itoa (d : Int) = [UInt8.ofNat (48 + d)] := by
  unfold Lib.itoa
  rw [if_neg (by omega), Int.toNat_natCast]
  unfold Lib.decDigits
  rw [dif_pos h]
theorem locked_text : lockText [⟨1, 2⟩, ⟨7, 1⟩] = [49, 64, 50, 44, 55, 64, 49] := by
  show Lib.itoa ((1 : Nat) : Int) ++ 64 :: Lib.itoa ((2 : Nat) : Int) ++ (44 :: (Lib.itoa ((7 : Nat) : Int) ++ 64 :: Lib.itoa ((1 : Nat) : Int)) ++ []) = _
  rw [itoa_digit (by omega), itoa_digit (by omega), itoa_digit (by omega)]
  rfl
theorem locked_read : lockRead [49, 64, 50, 44, 55, 64, 49] = .ok [⟨1, 2⟩, ⟨7, 1⟩] := by
  rw [← locked_text]; exact lockRead_text (by decide)
theorem errOf_zero {s : List UInt8} (h : errOf (lockRead s) = 0) : ∃ l, lockRead s = .ok l := by
  cases hr : lockRead s with
  | ok l => exact ⟨l, rfl⟩
  | error e => rw [hr] at h; exact absurd h (lockRead_err hr)
section
variable {H : Heap} (hL : Lb H)
include hL
theorem cLocked : Spec Tryd.prog 9 [] H fun v _ => v = .bool true := by
  refine TrydvcJ Tryd.func9 (by kernel_rfl) (by kernel_rfl) _ rfl (fun base K => vd9 base H K) fun base hb => ?_
  refine (cLockParse hL).mono fun v H1 e1 hv => ?_
  obtain ⟨a, n, c, hv, hF⟩ := hv
  rw [if_neg (by decide)] at hv hF
  rw [show (⟨#[49, 64, 50, 44, 55, 64, 49]⟩ : ByteArray).data.toList = [49, 64, 50, 44, 55, 64, 49] from rfl, locked_read] at hv hF
  refine ⟨a, n, c, 0, hv, fun hN1 => ?_⟩
  have hp : Pins H1 a n [⟨1, 2⟩, ⟨7, 1⟩] := pins_of_row (hF.row hN1)
  obtain rfl : n = 2 := by have := hp.len; simpa using this.symm
  have h0 : lockCheck [⟨1, 2⟩, ⟨7, 1⟩] = 0 := by decide
  refine (cLockPrint (hL.ext e1) hp).strE fun H2 e2 hN2 => ?_
  rw [if_pos h0, h0, locked_text]
  refine ⟨True, ⟨fun _ => ⟨fun _ => ⟨_, eqS, fun _ => ⟨fun _ => (cFind (hp.ext' e2) 1).int1 fun H3 e3 hN3 => ⟨fun _ => (cFind (hp.ext' (Ext.trans e2 e3)) 2).int1 fun H4 e4 hN4 => ⟨Ext.trans e3 e4, by decide⟩, fun h => absurd (by decide) h⟩, fun h => absurd rfl h⟩, fun h => absurd (by decide) h⟩, fun h => absurd rfl h⟩, fun h => absurd rfl h⟩, ?_⟩
  show Value.bool _ = _
  congr 1
  simp
theorem cLockBack {a a' : Option Addr} {l c l' c' : Nat} {xs ys : List Pin} {s : ByteArray} (hx : Pins H a l xs) (hy : Pins H a' l' ys) : Spec Tryd.prog 3 [.slice a l c, .slice a' l' c', .string s] H fun v _ => v = .bool true := by
  refine TrydvcJ Tryd.func3 (by kernel_rfl) (by kernel_rfl) _ rfl (fun base K => vd3 a a' l c l' c' s base H K) fun base hb => ?_
  refine (cLockPrint hL hx).strE fun H1 e1 hN1 => (cLockPrint (hL.ext e1) (hy.ext' e1)).strE fun H2 e2 hN2 => ?_
  have e12 := Ext.trans e1 e2
  refine ⟨False, (cLocked (hL.ext e12)).bool1 fun H3 e3 hN3 => ⟨fun h => (by cases h), fun _ => ⟨fun hz1 => ⟨fun hz2 => ⟨_, eqS, (cEqPins (hx.ext' (Ext.trans e12 e3)) (hy.ext' (Ext.trans e12 e3))).bool1 fun H4 e4 hN4 => ⟨_, neBool, Ext.trans e3 e4, ?_⟩⟩, fun hz2 => ⟨e3, id⟩⟩, fun hz1 => ⟨e3, id⟩⟩⟩, fun h => h.elim, fun _ => ⟨fun hz1 => ?_, fun hz1 => ?_⟩⟩
  · rw [if_pos hz1, if_pos hz2, data_mk, data_mk]
    have : (lockText xs = lockText ys) ↔ xs = ys := ⟨lockText_inj hz1 hz2, fun h => by rw [h]⟩
    by_cases h : xs = ys
    · subst h; simp
    · have h' : ¬ lockText xs = lockText ys := fun e => h (this.1 e)
      simp [h, h']
  · rw [if_pos hz1]
    refine (cLockParse (hL.ext e12)).mono fun v H3 e3 hv => ?_
    obtain ⟨a3, n3, c3, hv, hF⟩ := hv
    have hln := lockText_len hz1
    rw [if_neg (by rw [size_mk]; omega), data_mk, lockRead_text hz1] at hv hF
    refine ⟨a3, n3, c3, 0, hv, fun hN3 => ?_⟩
    have hp3 : Pins H3 a3 n3 xs := pins_of_row (hF.row hN3)
    have e123 := Ext.trans e12 e3
    refine ⟨False, ⟨fun h => absurd rfl h, fun _ => (cEqPins hp3 (hx.ext' e123)).bool1 fun H4 e4 hN4 => ⟨e4, by simp⟩⟩, fun h => h.elim, fun _ => ?_⟩
    refine (cLockParse (hL.ext e123)).mono fun v H4 e4 hv => ?_
    obtain ⟨a4, n4, c4, hv, hF4⟩ := hv
    refine ⟨a4, n4, c4, _, hv, fun hN4 => ⟨fun _ => rfl, fun h => ?_⟩⟩
    have h := Decidable.not_not.1 h
    by_cases hs : 60000 < s.size
    · rw [if_pos hs] at h; cases h
    rw [if_neg hs] at h hF4
    obtain ⟨zs, hzs⟩ := errOf_zero h
    rw [hzs] at hF4
    obtain ⟨ht, hk⟩ := lockRead_ok hzs
    refine (cLockPrint (hL.ext (Ext.trans e123 e4)) (pins_of_row (hF4.row hN4) : Pins H4 a4 n4 zs)).strE fun H5 e5 hN5 => ?_
    rw [if_pos hk, hk, ht]
    refine ⟨True, ⟨fun _ => ⟨_, eqS, fun _ _ h => h, by rw [data_mk]; simp⟩, fun h => absurd rfl h⟩, ?_⟩
    show Value.bool _ = _
    congr 1
    simp
  · refine (cLockParse (hL.ext e12)).mono fun v H4 e4 hv => ?_
    obtain ⟨a4, n4, c4, hv, hF4⟩ := hv
    refine ⟨a4, n4, c4, _, hv, fun hN4 => ⟨fun _ => rfl, fun h => ?_⟩⟩
    have h := Decidable.not_not.1 h
    by_cases hs : 60000 < s.size
    · rw [if_pos hs] at h; cases h
    rw [if_neg hs] at h hF4
    obtain ⟨zs, hzs⟩ := errOf_zero h
    rw [hzs] at hF4
    obtain ⟨ht, hk⟩ := lockRead_ok hzs
    refine (cLockPrint (hL.ext (Ext.trans e12 e4)) (pins_of_row (hF4.row hN4) : Pins H4 a4 n4 zs)).strE fun H5 e5 hN5 => ?_
    rw [if_pos hk, hk, ht]
    refine ⟨True, ⟨fun _ => ⟨_, eqS, fun _ _ h => h, by rw [data_mk]; simp⟩, fun h => absurd rfl h⟩, ?_⟩
    show Value.bool _ = _
    congr 1
    simp
end
theorem except_eq {s : List UInt8} {x y : Except Int (List Pin)} (hx : ∀ e, x = .error e → e ≠ 0) (hy : ∀ e, y = .error e → e ≠ 0) (h1 : errOf x = errOf y) (h2 : okL x = okL y) : x = y := by
  cases x <;> cases y <;> simp_all [errOf, okL]
theorem cRefAt {H : Heap} {a : Option Addr} {l c : Nat} {xs : List Pin} (hp : Pins H a l xs) (k : Int) : Spec Tryd.prog 16 [.slice a l c, .int .i64 k] H fun v _ => v = i64 (find xs k) := by
  refine TrydvcJ Tryd.func16 (by kernel_rfl) (by kernel_rfl) _ rfl (fun base K => vd16 a l c k base H K) fun base hb => ?_
  have hl := hp.len
  refine ⟨fun vs H' => ∃ (n : Int) (m : Nat), vs = [i64 n, i64 m] ∧ m ≤ l ∧ find (xs.drop m) k = find xs k, upTo l 1, ⟨0, 0, rfl, by omega, rfl⟩, fun n n1 H2 hN2 hI => ?_⟩
  obtain ⟨n', m, hvs, hm, hI⟩ := hI
  obtain ⟨rfl, rfl⟩ : n = n' ∧ n1 = (m : Int) := by simpa using hvs
  refine ⟨fun hlt => hp.pin hN2.ext (by omega) hlt fun p hpp => ?_, fun hge => ?_⟩
  · rw [Int.toNat_natCast] at hpp
    rw [drop_at hpp, find] at hI
    intro _
    refine ⟨fun h => ?_, fun h => ?_⟩
    · rw [if_pos h] at hI; rw [← hI]
    · rw [if_neg h] at hI
      rintro r rfl
      have hm2 := hp.le
      rw [wrap_in (by omega) (by omega)]
      exact ⟨⟨n, m + 1, rfl, by omega, hI⟩, by simp [upTo]; omega⟩
  · rw [← hI, drop_all hl (by omega), find]
section
variable {H : Heap} (hL : Lb H)
include hL
theorem cLockSays {a : Option Addr} {l c : Nat} {xs : List Pin} {n : Int} {s : ByteArray} (hx : Pins H a l xs) : Spec Tryd.prog 4 [.slice a l c, .int .i64 n, .string s] H fun v _ => v = .bool true := by
  refine TrydvcJ Tryd.func4 (by kernel_rfl) (by kernel_rfl) _ rfl (fun base K => vd4 a l c n s base H K) fun base hb => ?_
  refine (cLockPrint hL hx).strE fun H1 e1 hN1 => ?_
  refine (cLockParse (hL.ext e1) (s := s)).mono fun v H2 e2 hv => ?_
  obtain ⟨a2, n2, c2, hv, hF⟩ := hv
  refine ⟨a2, n2, c2, _, hv, fun hN2 => ?_⟩
  have e12 : Ext H H2 := Ext.trans e1 e2
  have hp2 := (pins_of_row (hF.row hN2) : Pins H2 a2 n2 _)
  refine (cRefLockCheck (hx.ext' e12)).int1 fun H3 e3 hN3 => ?_
  have e13 : Ext H H3 := Ext.trans e12 e3
  have tail : ∀ Hx, Ext H2 Hx → (60000 < (s.size : Int) → ∃ φ : Prop, (((if 60000 < s.size then (2 : Int) else errOf (lockRead s.data.toList)) = 2 → SubH Hx Hx ∧ (φ ↔ (n2 : Int) = 0)) ∧ (¬(if 60000 < s.size then (2 : Int) else errOf (lockRead s.data.toList)) = 2 → SubH Hx Hx ∧ ¬φ)) ∧ Value.bool (@decide φ (Classical.propDecidable φ)) = Value.bool true) := fun Hx eX h => by
    rw [if_pos (by omega)] at hp2 ⊢
    obtain rfl : n2 = 0 := by have := hp2.len; simpa using this.symm
    exact ⟨True, ⟨fun _ => ⟨fun _ _ h => h, by simp⟩, fun h => absurd rfl h⟩, by simp⟩
  have tail2 : ∀ Hx, Ext H2 Hx → Next base H Hx → (¬60000 < (s.size : Int) → Spec Tryd.prog 17 [.string s] Hx fun v H' => ∃ (a : Option Addr) (n : Nat) (c : Nat) (n_5 : Int), v = .tuple #[.slice a n c, .int .i64 n_5] ∧ (Next base Hx H' → ∃ φ : Prop, (((if 60000 < s.size then (2 : Int) else errOf (lockRead s.data.toList)) = n_5 → Spec Tryd.prog 10 [.slice a2 n2 c2, .slice a n c] H' fun v H'_3 =>
      ∃ b : Bool, v = .bool b ∧ (Next base H' H'_3 → SubH H' H'_3 ∧ (φ ↔ b = true))) ∧ (¬(if 60000 < s.size then (2 : Int) else errOf (lockRead s.data.toList)) = n_5 → SubH H' H' ∧ ¬φ)) ∧ Value.bool (@decide φ (Classical.propDecidable φ)) = Value.bool true)) := fun Hx eX hNx h => by
    rw [if_neg (by omega)] at hp2 ⊢
    refine (cLockRead (hL.ext (Ext.trans e12 eX)) (by rw [← size_data]; omega)).mono fun v H5 e5 hv5 => ?_
    obtain ⟨a5, n5, c5, hv5, hF5⟩ := hv5
    refine ⟨a5, n5, c5, _, hv5, fun hN5 => ⟨True, ⟨fun _ => ?_, fun h => absurd rfl h⟩, by simp⟩⟩
    exact (cEqPins (hp2.ext' (Ext.trans eX e5)) (pins_of_row (hF5.row hN5))).bool1 fun H6 e6 hN6 => ⟨e6, by simp⟩
  refine ⟨fun hz => (cLockText (hL.ext e13) (hx.ext' e13) hz).str1 fun H4 e4 hN4 => ?_, fun hz => ?_⟩
  · have e14 : Ext H H4 := Ext.trans e13 e4
    have e24 : Ext H2 H4 := Ext.trans e3 e4
    refine ⟨False, (cLocked (hL.ext e14)).bool1 fun H5 e5 hN5 => ⟨fun h => (by cases h), fun _ => (cLockCheck (hx.ext' (Ext.trans e14 e5))).int1 fun H6 e6 hN6 => ⟨fun h => absurd rfl h, fun _ => (cFind (hx.ext' (Ext.trans e14 (Ext.trans e5 e6))) n).int1 fun H7 e7 hN7 =>
      (cRefAt (hx.ext' (Ext.trans e14 (Ext.trans e5 (Ext.trans e6 e7)))) n).int1 fun H8 e8 hN8 => ⟨fun h => absurd rfl h, fun _ => ⟨fun h => absurd rfl h, fun _ => ⟨_, neS, Ext.trans e5 (Ext.trans e6 (Ext.trans e7 e8)), ?_⟩⟩⟩⟩⟩, fun h => h.elim, fun _ => ⟨tail H4 e24, tail2 H4 e24 ?_⟩⟩
    · rw [if_pos hz]; simp
    · exact ⟨e14, fun b k h h' => by
        rcases hx4 : H3 b with _ | k3
        · exact Nat.le_trans (Nat.le_refl _) (hN4.fresh b k h hx4)
        · rcases hx3 : H2 b with _ | k2
          · exact hN3.fresh b k3 hx4 hx3
          · rcases hx2 : H1 b with _ | k1
            · exact hN2.fresh b k2 hx3 hx2
            · exact hN1.fresh b k1 hx2 h'⟩
  · refine ⟨False, (cLocked (hL.ext e13)).bool1 fun H5 e5 hN5 => ⟨fun h => (by cases h), fun _ => (cLockCheck (hx.ext' (Ext.trans e13 e5))).int1 fun H6 e6 hN6 => ⟨fun h => absurd rfl h, fun _ => (cFind (hx.ext' (Ext.trans e13 (Ext.trans e5 e6))) n).int1 fun H7 e7 hN7 =>
      (cRefAt (hx.ext' (Ext.trans e13 (Ext.trans e5 (Ext.trans e6 e7)))) n).int1 fun H8 e8 hN8 => ⟨fun h => absurd rfl h, fun _ => ⟨fun h => absurd rfl h, fun _ => ⟨_, neS, Ext.trans e5 (Ext.trans e6 (Ext.trans e7 e8)), ?_⟩⟩⟩⟩⟩, fun h => h.elim, fun _ => ⟨tail H3 e3, tail2 H3 e3 ?_⟩⟩
    · rw [if_neg hz]; simp
    · exact ⟨e13, fun b k h h' => by
        rcases hx3 : H2 b with _ | k2
        · exact hN3.fresh b k h hx3
        · rcases hx2 : H1 b with _ | k1
          · exact hN2.fresh b k2 hx3 hx2
          · exact hN1.fresh b k1 hx2 h'⟩
end
end Go.Vg
