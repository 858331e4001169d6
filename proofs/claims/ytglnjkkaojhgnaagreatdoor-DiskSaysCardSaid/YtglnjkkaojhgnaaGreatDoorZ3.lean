/- What is proved here: texts cut behind each line's end. -/
import Derived.Test.YtglnjkkaojhgnaaGreatDoorD8
import Derived.Test.YtglnjkkaojhgnaaGreatDoorZ1
set_option linter.unusedSimpArgs false
set_option linter.unusedVariables false
set_option maxRecDepth 100000
namespace Go.Vg
open Go Go.Proofs Go.RowKit Go.Shelf
/-- A text cut behind each c. -/
def cutsA (c : UInt8) (s : List UInt8) : List (List UInt8) := Lib.splitK [c] 1 (s.count c) s
theorem cutsA_last {c : UInt8} {s : List UInt8} (h : c ∉ s) : cutsA c s = [s] := by
  unfold cutsA
  rw [List.count_eq_zero.2 h, Lib.splitK]
theorem cutsA_line {c : UInt8} {w t : List UInt8} (h : c ∉ w) : cutsA c (w ++ c :: t) = (w ++ [c]) :: cutsA c t := by
  unfold cutsA
  have hc : (w ++ c :: t).count c = t.count c + 1 := by rw [List.count_append, List.count_eq_zero.2 h, List.count_cons_self]; omega
  have hi : Lib.index (w ++ c :: t) [c] = (w.length : Int) := by
    rcases index_byte c (w ++ c :: t) with ⟨h1, _⟩ | ⟨w', t', e, h2, h3⟩
    · exact absurd (by simp) h1
    · have := cuts_more (t := t) h
      rw [e, cuts_more h2] at this
      injection this with e1 e2
      rw [h3, e1]
  rw [hc, Lib.splitK, hi, if_neg (by simp)]
  have e1 : ((w.length : Int)).toNat = w.length := by omega
  rw [e1, List.length_singleton]
  have e2 : (w ++ c :: t).take (w.length + 1) = w ++ [c] := by rw [show w ++ c :: t = (w ++ [c]) ++ t from by simp, List.take_append_of_le_length (by simp), List.take_of_length_le (by simp)]
  have e3 : (w ++ c :: t).drop (w.length + 1) = t := by
    rw [List.drop_append, List.drop_eq_nil_of_le (by omega)]
    simp
  rw [e2, e3]
theorem suffix_line {c : UInt8} {w : List UInt8} : Lib.hasSuffix (w ++ [c]) [c] = true := by
  unfold Lib.hasSuffix
  rw [List.isSuffixOf_iff_suffix]
  exact ⟨w, rfl⟩
theorem suffix_none {c : UInt8} {w : List UInt8} (h : c ∉ w) : Lib.hasSuffix w [c] = false := by
  unfold Lib.hasSuffix
  cases hs : List.isSuffixOf [c] w with
  | false => rfl
  | true =>
    obtain ⟨t, rfl⟩ := List.isSuffixOf_iff_suffix.1 hs
    exact absurd (by simp) h
section
variable {H : Heap} (hL : Lb H)
include hL
theorem l_genSplit {s : ByteArray} {c : UInt8} (hs : s.size < 4294967281) : Spec Tryz.prog 100 [.string s, .string ⟨#[c]⟩, .int .i64 1, .int .i64 (-1)] H fun v H' =>
    ∃ (g n : Nat), v = .slice (some ⟨g, 0, none⟩) n n ∧ Sl RStr 1 H' (some ⟨g, 0, none⟩) n (cutsA c s.data.toList) := fun w hw hb => by
  obtain ⟨m, hm⟩ := hL.max
  have one : 1 ≤ (⟨#[c]⟩ : ByteArray).size := Nat.le_refl 1
  have hcall := Any.strings_genSplit { Tryz.lays146 with } (by kernel_rfl) s ⟨#[c]⟩ 1 (-1) (Lib.countB s ⟨#[c]⟩ + 1) m w hs (hw.cell hm) one one (by decide) (by decide) (by
    have := Lib.countB_le ⟨#[c]⟩ one s.size s (Nat.le_refl _)
    rw [if_pos (by decide)]; omega)
  rw [Nat.add_sub_cancel, Lib.splitB_all ⟨#[c]⟩ one 1 _ s rfl] at hcall
  have e2 : Lib.cellsOf (Lib.splitB ⟨#[c]⟩ 1 (Lib.countB s ⟨#[c]⟩) s) (Lib.countB s ⟨#[c]⟩ + 1) = ((Lib.splitB ⟨#[c]⟩ 1 (Lib.countB s ⟨#[c]⟩) s).map Value.string).toArray := by
    have hlen := Lib.splitB_all ⟨#[c]⟩ one 1 _ s rfl
    rw [← hlen]; exact Lib.cellsOf_full _
  rw [e2] at hcall
  refine hcall.mono fun e w' ⟨he, hw'⟩ => ?_
  have hn : H w.heap.size = none := by
    cases hk : H w.heap.size with
    | none => rfl
    | some k => exact absurd (hw.lt hk) (by omega)
  have hcnt : Lib.countB s ⟨#[c]⟩ = s.data.toList.count c := by rw [← Lib.count_one]
  have hdata : (Lib.splitB ⟨#[c]⟩ 1 (Lib.countB s ⟨#[c]⟩) s).map (·.data.toList) = cutsA c s.data.toList := by
    rw [Lib.splitB_data, hcnt]; rfl
  have hlen : (cutsA c s.data.toList).length = Lib.countB s ⟨#[c]⟩ + 1 := by
    rw [← hdata, List.length_map]; exact Lib.splitB_all _ one 1 _ s rfl
  have hmap : (Lib.splitB ⟨#[c]⟩ 1 (Lib.countB s ⟨#[c]⟩) s).map Value.string = (cutsA c s.data.toList).map str := by
    rw [← hdata, List.map_map]; rfl
  have hle := Lib.countB_le ⟨#[c]⟩ one s.size s (Nat.le_refl _)
  rw [hmap] at hw'
  have hwsz : w'.heap[w.heap.size]? = some (.cells ((cutsA c s.data.toList).map str).toArray 9 (0, 0)) := by
    rw [hw']; show (w.heap.push _)[w.heap.size]? = _; simp; rfl
  have hB : BelowX [] w w' := by rw [hw']; exact BelowX.alloc [] w _
  refine ⟨_, [], fun b => if b = w.heap.size then some (boxKB 9 ((cutsA c s.data.toList).map str)) else H b, he, rfl, hB, fun b k hk => ?_, ⟨fun _ hx => (by cases hx), fun _ hx => (by cases hx), by simp [setAll]⟩, ⟨fun b k hk => ?_, fun b k hk hn' => ?_⟩, w.heap.size, _, rfl, ?_⟩
  · by_cases e1 : b = w.heap.size
    · subst e1
      simp only [if_pos] at hk
      obtain rfl := Option.some.inj hk
      exact ⟨_, _, hwsz, by simp [boxKB], fun _ => rfl, fun j v hj => by simpa [boxKB] using hj⟩
    · simp only [if_neg e1] at hk
      rw [hB.block b (hw.lt hk) (by simp)]
      exact hw b k hk
  · have e1 : b ≠ w.heap.size := fun e1 => by rw [e1, hn] at hk; cases hk
    simp only [if_neg e1]; exact hk
  · by_cases e1 : b = w.heap.size
    · omega
    · simp only [if_neg e1] at hk; rw [hk] at hn'; cases hn'
  · refine ⟨hlen, by omega, fun _ => ⟨_, 0, rfl, fun i x hx => ⟨[str x], rfl, fun j v hj => ?_⟩⟩⟩
    cases j with
    | zero =>
      simp only [List.getElem?_cons_zero, Option.some.injEq] at hj
      subst hj
      unfold Heap.cell
      simp [boxKB, hx]
    | succ j => simp at hj
omit hL in
theorem l_suffix {s p : ByteArray} (hs : s.size ≤ 9223372036854775807) : SpecV Tryz.prog 70 [.string s, .string p] H fun v => v = .bool (Lib.hasSuffix s.data.toList p.data.toList) := fun w hw =>
  (Any.strings_HasSuffix Tryz.lays100 s p w hs).mono fun e w' ⟨he, hw'⟩ => ⟨_, he, rfl, by rw [hw']; exact Below.refl _ _⟩
theorem cSplitAfter {s : ByteArray} (hs : s.size < 4294967281) : Spec Tryz.prog 69 [.string s, .string ⟨#[10]⟩] H fun v H' =>
    ∃ (g n : Nat), v = .slice (some ⟨g, 0, none⟩) n n ∧ Sl RStr 1 H' (some ⟨g, 0, none⟩) n (cutsA 10 s.data.toList) := by
  refine TryzvcJ Tryz.func69 (by kernel_rfl) (by kernel_rfl) _ rfl (fun base K => vz69 s ⟨#[10]⟩ base H K) fun base hb => ?_
  refine (l_genSplit hL (s := s) (c := 10) hs).mono fun v H1 e1 hv => ?_
  obtain ⟨g, n, rfl, hS⟩ := hv
  exact ⟨_, _, _, rfl, fun _ => ⟨_, _, rfl, hS⟩⟩
end
end Go.Vg
set_option linter.unusedSimpArgs false
set_option linter.unusedVariables false
set_option maxRecDepth 100000
namespace Go.Vg
open Go Go.Proofs
theorem extract_init (w : List UInt8) (c : UInt8) : ((⟨(w ++ [c]).toArray⟩ : ByteArray).extract 0 w.length).data.toList = w := by
  simp
theorem cEqRecsR {H : Heap} {a a' : Option Addr} {l c l' c' : Nat} {xs ys : List Recd} (hx : Recs H a l xs) (hy : Recs H a' l' ys) : Spec Tryz.prog 18 [.slice a l c, .slice a' l' c', .func (.func 19) #[] #[]] H fun v _ => v = .bool (decide (xs = ys)) := by
  refine TryzvcJ Tryz.func18 (by kernel_rfl) (by kernel_rfl) _ rfl (fun base K => vz18 a a' l c l' c' base H K) fun base hb => ?_
  have hxl := hx.len
  have hyl := hy.len
  have hle := hx.le
  refine ⟨fun h => ?_, fun h => ?_⟩
  · rw [decide_eq_false]
    rintro rfl
    omega
  have hll : l = l' := by omega
  refine ⟨fun vs _ => ∃ (b : Bool) (k : Nat), vs = [.bool b, i64 k] ∧ k ≤ l ∧ (xs.drop k = ys.drop k ↔ xs = ys), upTo l 1, ⟨false, 0, rfl, by omega, by simp⟩, fun b n H' hN hI => ?_⟩
  obtain ⟨b', k, hvs, hk, hI⟩ := hI
  obtain ⟨rfl, rfl⟩ : b = b' ∧ n = (k : Int) := by simpa using hvs
  refine ⟨fun hlt => hx.recd hN.ext (by omega) hlt fun p pa pn pc hp hpp => fun b3 => hy.recd hN.ext (by omega) (by omega) fun q qa qn qc hq hqp => fun b6 => ?_, fun hge => ?_⟩
  · rw [Int.toNat_natCast] at hp hq
    rw [drop_at hp, drop_at hq] at hI
    refine (cSameRec (r := p) (q := q) (c := pc) (c' := qc) (hpp.ext' hN.ext) (hqp.ext' hN.ext)).bool1 fun H2 e2 hN2 => ⟨fun h => ?_, fun h => ?_⟩
    · rw [decide_eq_false]
      intro e
      obtain ⟨rfl, _⟩ := List.cons.inj (hI.2 e)
      simp at h
    · have hpq : p = q := by simpa using h
      rintro r rfl
      rw [wrap_in (by omega) (by omega)]
      exact ⟨⟨b, k + 1, rfl, by omega, by rw [← hI]; simp [hpq]⟩, by simp [upTo]; omega⟩
  · rw [decide_eq_true]
    exact hI.1 (by rw [drop_all hxl (by omega), drop_all hyl (by omega)])
section
variable {H : Heap} (hL : Lb H)
include hL
theorem cRefLines {s : ByteArray} {most : Nat} (hs : s.size ≤ 60000) (hm : most ≤ 200) : Spec Tryz.prog 35 [.string s, .int .i64 most] H fun v H' => ∃ a n c G rows, v = .tuple #[.slice a n c, i64 (linesF most 0 s.data.toList).2.1, i64 (linesF most 0 s.data.toList).2.2] ∧
    NewSl RRec 7 29 H G H' a n c rows (linesF most 0 s.data.toList).1 := by
  refine TryzvcJ Tryz.func35 (by kernel_rfl) (by kernel_rfl) _ rfl (fun base K => vz35 s most base H K) fun base hb => ?_
  have hsd := size_data s
  refine (cSplitAfter hL (s := s) (by omega)).mono fun v H0 e0 hv => ?_
  obtain ⟨g0, N, rfl, hSp⟩ := hv
  refine ⟨_, _, _, rfl, fun hN0 => ?_⟩
  generalize hS : s.data.toList = S at hsd hSp
  generalize hR : linesF most 0 S = R
  have hNl := hSp.len
  have hNle := hSp.le
  refine ⟨fun vs H' => ∃ (rest : List UInt8) (a : Option Addr) (n c : Nat) (n1 n2 : Int) (a1 : Option Addr) (n3 c1 : Nat) (m : Nat) (G : Heap) (rows : List (List Value)) (xs : List Recd), vs = [.slice a n c, i64 n1, i64 n2, .slice a1 n3 c1, i64 ((S.length - rest.length : Nat) : Int), i64 m] ∧
      OwnSl RRec 7 29 base G H' a1 n3 c1 rows xs ∧ Away H G ∧ rest.length ≤ S.length ∧ n3 ≤ most ∧ (cutsA 10 S).drop m = cutsA 10 rest ∧ Ext H0 H' ∧ Apart H0 a1 c1 ∧ R = (xs ++ (linesF most n3 rest).1, (S.length - rest.length) + (linesF most n3 rest).2.1, (linesF most n3 rest).2.2),
    upTo N 5,
    ⟨S, none, 0, 0, 0, 0, none, 0, 0, 0, fun _ => none, [], [], by simp, OwnSl.zero (fun _ _ h => by cases h), fun _ _ h => (by cases h), Nat.le_refl _, by omega, rfl, Ext.refl _, Apart.none, by simp [← hR]⟩, fun a n c n1 n2 a1 n3 c1 n5 n6 H1 hN1 hI => ?_⟩
  obtain ⟨rest, a', n', c', n1', n2', a1', n3', c1', m, G, rows, xs, hvs, hO, hAw, hrl, hn3, hdr, hE, hAp, hRR⟩ := hI
  obtain ⟨⟨rfl, rfl, rfl⟩, rfl, rfl, ⟨rfl, rfl, rfl⟩, rfl, rfl⟩ : (a = a' ∧ n = n' ∧ c = c') ∧ n1 = n1' ∧ n2 = n2' ∧ (a1 = a1' ∧ n3 = n3' ∧ c1 = c1') ∧ n5 = ((S.length - rest.length : Nat) : Int) ∧ n6 = (m : Int) := by simpa using hvs
  obtain ⟨hrlen, hxlen⟩ := hO.rlen (by omega)
  have hmN : m < N := by
    rcases Nat.lt_or_ge m N with h | h
    · exact h
    · rw [List.drop_eq_nil_of_le (by omega)] at hdr
      rcases cut_cases 10 rest with ⟨hno, _⟩ | ⟨w, t, hrest, hw, _⟩
      · rw [cutsA_last hno] at hdr; cases hdr
      · rw [hrest, cutsA_line hw] at hdr; cases hdr
  refine ⟨fun hlt => ?_, fun hge => absurd (by omega) hge⟩
  refine hSp.str hE (by omega) hlt fun x hx => ?_
  rw [Int.toNat_natCast] at hx
  have hhead : ∃ q, (cutsA 10 S).drop m = x :: q ∧ (cutsA 10 S).drop (m + 1) = q := ⟨_, drop_at hx, rfl⟩
  obtain ⟨q, hq1, hq2⟩ := hhead
  rw [hdr] at hq1
  rcases cut_cases 10 rest with ⟨hno, hcut⟩ | ⟨w, t, hrest, hw, hcut⟩
  · rw [cutsA_last hno] at hq1
    obtain ⟨rfl, rfl⟩ := List.cons.inj hq1
    refine ⟨_, eqS, fun h => ?_, fun h => ?_⟩
    · have hnil : rest = [] := by
        have h := of_decide_eq_true h
        rwa [data_mk] at h
      subst hnil
      rw [linesF_nil] at hRR
      subst hRR
      exact ⟨a1, n3, c1, G, rows, rfl, by rw [List.append_nil]; exact hO.new hb hAw⟩
    · have hne : rest ≠ [] := fun e => h (by subst e; simp)
      refine (l_suffix (s := ⟨rest.toArray⟩) (p := ⟨#[10]⟩) (by rw [size_mk]; omega)).bool1 fun H2 e2 hN2 => ⟨fun _ => ?_, fun h => ?_⟩
      · rw [linesF_torn hno hne] at hRR
        subst hRR
        exact ⟨a1, n3, c1, G, rows, rfl, by rw [List.append_nil]; exact (hO.ext e2).new hb hAw⟩
      · exfalso
        apply h
        rw [data_mk]
        exact suffix_none hno
  · rw [hrest, cutsA_line hw] at hq1
    obtain ⟨rfl, rfl⟩ := List.cons.inj hq1
    have hwl : w.length + t.length + 1 = rest.length := by rw [hrest]; simp; omega
    refine ⟨_, eqS, fun h => ?_, fun h => ?_⟩
    · have h := of_decide_eq_true h
      rw [data_mk] at h
      exact absurd h (by simp)
    have hsz : (⟨(w ++ [10]).toArray⟩ : ByteArray).size ≤ 9223372036854775807 := by rw [size_mk, List.length_append, List.length_singleton]; omega
    have hsx := l_suffix (H := H1) (s := ⟨(w ++ [10]).toArray⟩) (p := ⟨#[10]⟩) hsz
    rw [data_mk, show (⟨#[10]⟩ : ByteArray).data.toList = [10] from rfl, suffix_line] at hsx
    refine hsx.bool1 fun H2 e2 hN2 => ⟨fun h => (by cases h), fun _ => ?_⟩
    rintro r rfl
    rw [size_mk (w ++ [10]), List.length_append, List.length_singleton, wrap_in (by omega) (by omega)]
    have hrn : ((w.length + 1 : Nat) : Int) - 1 = (w.length : Int) := by omega
    rw [hrn]
    refine ⟨by omega, by omega, ?_⟩
    rw [Int.toNat_natCast]
    have hex := extract_init w 10
    generalize ((⟨(w ++ [10]).toArray⟩ : ByteArray).extract 0 w.length) = sw at hex
    refine (cRecRead (hL.ext (Ext.trans hN1.ext e2)) (s := sw) (by rw [hex]; omega)).mono fun v H3 e3 hv => ?_
    rw [hex] at hv
    obtain ⟨a7, n7, c7, hv, hF⟩ := hv
    refine ⟨_, _, _, _, _, _, a7, n7, c7, _, hv, fun hN3 => fun b1 => ?_⟩
    cases hr : recRead w with
    | error e =>
      have he := recRead_err hr
      rw [hrest, linesF_err hw hr, ← hrest] at hRR
      subst hRR
      refine ⟨False, ⟨fun h => absurd h he, fun _ => ⟨rfl, subH, id⟩⟩, fun h => h.elim, fun _ => ⟨fun _ => ?_, fun h => absurd he h⟩⟩
      exact ⟨a1, n3, c1, G, rows, rfl, by rw [List.append_nil]; exact (hO.ext (Ext.trans e2 e3)).new hb hAw⟩
    | ok r =>
      rw [hr] at hF
      have hF : Fresh H2 H3 80 2 a7 n7 c7 (r.rel.lock.flatMap pinCells) := hF
      refine ⟨(most : Int) ≤ n3, ⟨fun _ => ⟨rfl, subH, Iff.rfl⟩, fun h => absurd rfl h⟩, fun hmost => ⟨fun _ => ?_, fun h => absurd (by decide) h⟩, fun hmost => ⟨fun h => absurd rfl h, fun _ => ?_⟩⟩
      · have hmost : n3 = most := by omega
        rw [hrest, hmost, linesF_many hw hr, ← hrest] at hRR
        subst hRR
        exact ⟨a1, n3, c1, G, rows, rfl, by rw [List.append_nil]; exact (hO.ext (Ext.trans e2 e3)).new hb hAw⟩
      · have hmost : n3 ≠ most := by omega
        rw [hrest, linesF_more hw hr hmost] at hRR
        intro b2
        have hO3 := hO.grow RRec.mono (Ext.trans e2 e3)
        have hAw3 : Away H (G.plus (newOf H1 H3)) := plus_away hAw (newOf_away.sub hN1.ext)
        have hP : Pins (G.plus (newOf H1 H3)) a7 n7 r.rel.lock := Pins.ext' (hF.sl_new pinCells_len (by omega)) (Ext.trans (newOf_mono e2) (new_in_grow hO.sub))
        refine ⟨_, hO3.row, by omega, by omega, fun a8 c8 H8 hG8 hR8 => ?_⟩
        rintro q rfl
        rintro q' rfl
        rw [wrap_in (n := ((S.length - rest.length : Nat) : Int) + ((w.length + 1 : Nat) : Int)) (by omega) (by omega), wrap_in (n := (m : Int) + 1) (by omega) (by omega)]
        have hO8 := hO3.grew (rows' := [recVal r a7 n7 c7]) (ys := [r]) hG8 (by rw [List.flatten_cons, List.flatten_nil, List.append_nil]; exact hR8) (by intro q hq; simp at hq; subst hq; rfl) (AllR.one ⟨a7, n7, c7, rfl, hP⟩)
        obtain ⟨hE8, hAp8⟩ := hAp.grew (Ext.trans (Ext.trans hE e2) e3) hG8
        refine ⟨⟨t, a, n, c, n1, n2, a8, n3 + 1, c8, m + 1, _, rows ++ [recVal r a7 n7 c7], xs ++ [r], ?_, hO8, hAw3, by omega, by omega, hq2, hE8, hAp8, ?_⟩, by simp [upTo]; omega⟩
        · rw [show ((S.length - rest.length : Nat) : Int) + ((w.length + 1 : Nat) : Int) = ((S.length - t.length : Nat) : Int) from by omega]; rfl
        · rw [hRR]
          simp only [List.append_assoc, List.singleton_append]
          congr 2
          rw [List.length_append, List.length_cons]
          omega
theorem cRefDiskCheck {sa wa : Option Addr} {sn sc wn wc : Nat} {d : Dsk} (hd : DskAt H d sa sn sc wa wn wc) : Spec Tryz.prog 10 [dskArg sa sn sc wa wn wc] H fun v _ => v = i64 (dskErr d) := by
  refine TryzvcJ Tryz.func10 (by kernel_rfl) (by kernel_rfl) _ rfl (fun base K => vz10 sa wa sn sc wn wc base H K) fun base hb => fun b => ?_
  have hs := hd.safe.len
  have hw := hd.wait.len
  have h1 := hd.safe.le
  have h2 := hd.wait.le
  refine ⟨(60000 : Int) < sn ∨ (60000 : Int) - sn < wn, ⟨fun h => ⟨rfl, subH, .inl h⟩, fun h => ?_⟩, fun h => ?_, fun h => ?_⟩
  · rintro r rfl
    rw [wrap_in (by omega) (by omega)]
    exact ⟨rfl, subH, ⟨fun h' => h'.resolve_left h, fun h' => .inr h'⟩⟩
  · unfold dskErr
    by_cases hc : 60000 < d.safe.length
    · rw [if_pos hc]
    · rw [if_neg hc, if_pos (by omega)]
  · have e : dskErr d = (linesF 200 0 d.safe).2.2 := by
      unfold dskErr
      rw [if_neg (by omega), if_neg (by omega)]
    rw [e]
    refine ⟨d.safe, hs, (hd.safe.conv (Ext.refl _)).2, ?_⟩
    refine (cRefLines hL (s := ⟨d.safe.toArray⟩) (most := 200) (by rw [size_mk]; omega) (by omega)).mono fun v H1 e1 hv => ?_
    obtain ⟨a, n, c, G, rows, hv, _⟩ := hv
    exact ⟨a, n, c, _, _, hv, fun _ => rfl⟩
omit hL in
theorem cellsAt_at {H : Heap} {b o : Nat} : ∀ {cs : List Value} {i j : Nat} {v : Value}, cellsAt H b o i cs → cs[j]? = some v → H.cell b (o + (i + j)) = some v
  | [], i, j, v, _, h => by simp at h
  | x :: r, i, 0, v, hc, h => by
    simp at h; subst h
    exact hc.1
  | x :: r, i, j + 1, v, hc, h => by
    have := cellsAt_at hc.2 (j := j) (by simpa using h)
    rw [show i + (j + 1) = i + 1 + j from by omega]
    exact this
omit hL in
theorem bytes_of_cells {H : Heap} {g : Nat} {bs : List UInt8} (h : cellsAt H g 0 0 (u8s bs)) (hl : bs.length ≤ 1000000) : Bytes H (some ⟨g, 0, none⟩) bs.length bs :=
  ⟨rfl, by omega, fun _ => ⟨g, 0, rfl, fun i x hx => ⟨u8Cell x, rfl, fun j v hj => by
    cases j with
    | zero =>
      have hv : Value.int .u8 x.toNat = v := by simpa [u8Cell] using hj
      have := cellsAt_at (j := i) (v := .int .u8 x.toNat) h (by unfold u8s; rw [List.getElem?_map, hx]; rfl)
      rw [← hv]
      simpa using this
    | succ j => simp [u8Cell] at hj⟩⟩⟩
theorem cPutOn {sa wa ra : Option Addr} {sn sc wn wc rl rc : Nat} {d : Dsk} {r : Recd} (hd : DskAt H d sa sn sc wa wn wc) (hr : Pins H ra rl r.rel.lock) (h0 : dskErr d = 0) : Spec Tryz.prog 15 [dskArg sa sn sc wa wn wc, recArg r ra rl rc] H fun v H' =>
    ∃ sa sn sc wa wn wc, v = .tuple #[dskArg sa sn sc wa wn wc, i64 (errOf (dskPut d r))] ∧ DskAt H' (dskGet (dskPut d r)) sa sn sc wa wn wc := by
  refine TryzvcJ Tryz.func15 (by kernel_rfl) (by kernel_rfl) _ rfl (fun base K => vz15 sa wa sn sc wn wc r.kind r.agent r.try_ r.num r.rel.id r.good ra rl rc base H K) fun base hb => fun b b' b'' => ?_
  obtain ⟨z1, z2, z3⟩ := dskErr_zero h0
  have hs := hd.safe.len
  have hw := hd.wait.len
  refine (cRecText hL (r := r) (c := rc) hr).strE fun H1 e1 hN1 => ⟨fun h2 => ?_, fun h2 => ?_⟩
  · rw [dskPut, if_pos h0, if_neg h2]; exact ⟨none, 0, 0, none, 0, 0, rfl, DskAt.zero⟩
  have h2 := Decidable.not_not.1 h2
  rw [if_pos h2]
  have hlt := recText_len h2
  intro q hq
  rw [wrap_in (by omega) (by omega)] at hq
  subst hq
  intro q hq
  rw [size_mk, wrap_in (by omega) (by omega)] at hq
  subst hq
  intro q hq
  rw [wrap_in (by omega) (by omega)] at hq
  subst hq
  refine ⟨fun h3 => ?_, fun h3 => ?_⟩
  · rw [dskPut, if_pos h0, if_pos h2, if_pos (by omega)]; exact ⟨none, 0, 0, none, 0, 0, rfl, DskAt.zero⟩
  have hout : dskPut d r = .ok ⟨d.safe, d.wait ++ (recText r ++ [10])⟩ := by rw [dskPut, if_pos h0, if_pos h2, if_neg (by omega)]
  rw [hout]
  refine ⟨_, runs_add (c := recText r ++ [10]) rfl (by simp only [List.length_cons, List.length_nil]; omega), fun g c1 H2 hsz hN2 hgn hc => fun g1 H3 hN3 hgn3 hg => ?_⟩
  rw [data_mk] at hc
  rw [size_mk] at hg
  have hb2 : Bytes H2 (some ⟨g, 0, none⟩) (recText r ++ [10]).length (recText r ++ [10]) := bytes_of_cells hc (by simp; omega)
  have e13 : Ext H H3 := Ext.trans (Ext.trans e1 hN2.ext) hN3.ext
  refine (cJoin2 hg (hd.wait.ext' e13) (hb2.ext' hN3.ext) (by simp; omega)).mono fun v H4 e4 hv => ?_
  obtain ⟨a, n, c, rfl, hF⟩ := hv
  exact ⟨a, n, c, rfl, fun hN4 => ⟨_, _, _, _, _, _, rfl, hd.safe.ext' (Ext.trans e13 e4), hF.bytes.ext' newOf_ext, hd.sle, hF.le⟩⟩
theorem cSynced {sa wa : Option Addr} {sn sc wn wc : Nat} {d : Dsk} (hd : DskAt H d sa sn sc wa wn wc) (h : dskErr d = 0) : Spec Tryz.prog 16 [dskArg sa sn sc wa wn wc] H fun v H' =>
    ∃ sa sn sc wa wn wc, v = .tuple #[dskArg sa sn sc wa wn wc, i64 (errOf (dskSync d))] ∧ DskAt H' (dskGet (dskSync d)) sa sn sc wa wn wc := by
  refine TryzvcJ Tryz.func16 (by kernel_rfl) (by kernel_rfl) _ rfl (fun base K => vz16 sa wa sn sc wn wc base H K) fun base hb => fun b b' g H2 hN2 hgn hg => ?_
  obtain ⟨z1, z2, z3⟩ := dskErr_zero h
  have hd2 := hd.ext hN2.ext
  refine (cJoin2 hg hd2.safe hd2.wait (by omega)).mono fun v H3 e3 hv => ?_
  obtain ⟨a, n, c, rfl, hF⟩ := hv
  refine ⟨a, n, c, rfl, fun hN3 => ?_⟩
  have eH : Ext H H3 := Ext.trans hN2.ext e3
  have hD : DskAt H3 ⟨d.safe ++ d.wait, []⟩ a n c none 0 0 := ⟨hF.bytes.ext' newOf_ext, Sl.nil, hF.le, by omega⟩
  refine (cRefDiskCheck (hL.ext eH) hD).int1 fun H4 e4 hN4 => ⟨fun h4 => ?_, fun h4 => ?_⟩
  · rw [dskSync, if_pos h, if_neg h4]; exact ⟨none, 0, 0, none, 0, 0, rfl, DskAt.zero⟩
  · have h4 := Decidable.not_not.1 h4
    rw [dskSync, if_pos h, if_pos h4]
    exact ⟨_, _, _, _, _, _, rfl, hD.ext e4⟩
theorem cRecovered {sa wa : Option Addr} {sn sc wn wc : Nat} {d : Dsk} (hd : DskAt H d sa sn sc wa wn wc) (h : dskErr d = 0) : Spec Tryz.prog 17 [dskArg sa sn sc wa wn wc] H fun v H' => ∃ a1 n1 c1 a2 n2 c2 a3 n3 c3, v = .tuple #[dskArg a1 n1 c1 a2 n2 c2, .slice a3 n3 c3] ∧
    DskAt H' (dskBack d) a1 n1 c1 a2 n2 c2 ∧ n3 ≤ c3 ∧ Recs H' a3 n3 (dskRecs d) := by
  refine TryzvcJ Tryz.func17 (by kernel_rfl) (by kernel_rfl) _ rfl (fun base K => vz17 sa wa sn sc wn wc base H K) fun base hb => fun b b' => ?_
  obtain ⟨z1, z2, z3⟩ := dskErr_zero h
  have hs := hd.safe.len
  have hw := hd.wait.len
  have hle := hd.wle
  refine ⟨d.safe, hs, (hd.safe.conv (Ext.refl _)).2, ?_⟩
  refine (cRefLines hL (s := ⟨d.safe.toArray⟩) (most := 200) (by rw [size_mk]; omega) (by omega)).mono fun v H2 e2 hv => ?_
  obtain ⟨a3, n3, c3, G3, rows3, rfl, hS3⟩ := hv
  rw [data_mk] at hS3
  refine ⟨a3, n3, c3, _, _, rfl, fun hN2 => ?_⟩
  obtain ⟨i1, i2, i3, i4, i5⟩ := linesF_ok (most := 200) d.safe.length (s := d.safe) (k := 0) (Nat.le_refl _) (by omega)
  have hR3 : Recs H2 a3 n3 (linesF 200 0 d.safe).1 := hS3.sl RRec.mono (by omega) hN2
  have hx3 := hR3.len
  have hd2 := hd.ext e2
  refine ⟨d.wait, hw, (hd2.wait.conv (Ext.refl _)).2, ?_⟩
  rintro r rfl
  rw [wrap_in (by omega) (by omega)]
  have hm : (200 : Int) - n3 = ((200 - n3 : Nat) : Int) := by omega
  rw [hm]
  refine (cRefLines (hL.ext e2) (s := ⟨d.wait.toArray⟩) (most := 200 - n3) (by rw [size_mk]; omega) (by omega)).mono fun v H3 e3 hv => ?_
  obtain ⟨a4, n4, c4, G4, rows4, rfl, hS4⟩ := hv
  rw [data_mk] at hS4 ⊢
  have hmore : linesF (200 - n3) 0 d.wait = dskMore d := by unfold dskMore; rw [← hx3]
  rw [hmore] at hS4 ⊢
  refine ⟨a4, n4, c4, _, _, rfl, fun hN3 => ?_⟩
  have hR4 : Recs H3 a4 n4 (dskMore d).1 := hS4.sl RRec.mono (by omega) hN3
  have hx4 := hR4.len
  have j : (dskMore d).1.length ≤ 200 ∧ (dskMore d).2.1 ≤ d.wait.length := by
    obtain ⟨_, j2, j3, _⟩ := linesF_ok (most := 200 - (linesF 200 0 d.safe).1.length) d.wait.length (s := d.wait) (k := 0) (Nat.le_refl _) (by omega)
    exact ⟨by unfold dskMore; omega, j3⟩
  have hfl : [(linesF 200 0 d.safe).1, (dskMore d).1].flatten = dskRecs d := by simp [dskRecs]
  have joinR : ∀ {Hg : Heap} {g : Nat}, Ext H3 Hg → Hg g = some (boxKB 35 [.slice a3 n3 c3, .slice a4 n4 c4]) → Spec Tryz.prog 38 [.slice (some ⟨g, 0, none⟩) 2 2] Hg fun v H' => ∃ a n c, v = .slice a n c ∧ n ≤ c ∧ Recs H' a n (dskRecs d) := fun {Hg g} eg hg => by
    have hS : Sl (RSl RRec 7) 1 Hg (some ⟨g, 0, none⟩) 2 [(linesF 200 0 d.safe).1, (dskMore d).1] := sl_box_rows (rs := [[.slice a3 n3 c3], [.slice a4 n4 c4]]) hg (by simp) ⟨⟨a3, n3, c3, rfl, (hR3.ext' e3).ext' eg⟩, ⟨a4, n4, c4, rfl, hR4.ext' eg⟩, trivial⟩ rfl (by decide)
    have := cConcatR (c := 2) hS (by omega) (by simp; omega)
    rw [hfl] at this
    exact this
  have hd3 := hd2.ext e3
  have joinB : ∀ {Hg : Heap} {g : Nat}, Ext H3 Hg → Hg g = some (boxKB 22 [.slice sa sn sc, .slice wa (Int.toNat ((dskMore d).2.1 : Int)) wc]) → Spec Tryz.prog 33 [.slice (some ⟨g, 0, none⟩) 2 2] Hg fun v H' => ∃ a n c, v = .slice a n c ∧ n ≤ c ∧ Bytes H' a n (dskBack d).safe := fun {Hg g} eg hg => by
    rw [Int.toNat_natCast] at hg
    have hsub : Bytes Hg wa (dskMore d).2.1 (d.wait.take (dskMore d).2.1) := by
      have := ((hd3.ext eg).wait).sub (l := 0) (m := (dskMore d).2.1) (a' := wa) (by omega) (fun _ => by cases wa <;> simp [Addr.add])
      rwa [List.drop_zero] at this
    refine (cJoin2 hg (hd3.ext eg).safe hsub (by rw [List.length_take]; omega)).mono fun v H5 e5 hv => ?_
    obtain ⟨a5, n5, c5, rfl, hF5⟩ := hv
    exact ⟨a5, n5, c5, rfl, hF5.le, hF5.bytes.ext' newOf_ext⟩
  have fin : ∀ {Hf : Heap} {a1 : Option Addr} {n1 c1 : Nat} {a2 : Option Addr} {n2 c2 : Nat}, n1 ≤ c1 → Bytes Hf a1 n1 (dskBack d).safe → n2 ≤ c2 → Recs Hf a2 n2 (dskRecs d) → ∃ a1' n1' c1' a2' n2' c2' a3' n3' c3', Value.tuple #[.agg #[.slice a1 n1 c1, .slice none 0 0], .slice a2 n2 c2] = .tuple #[dskArg a1' n1' c1' a2' n2' c2', .slice a3' n3' c3'] ∧
      DskAt Hf (dskBack d) a1' n1' c1' a2' n2' c2' ∧ n3' ≤ c3' ∧ Recs Hf a3' n3' (dskRecs d) := fun h1 h2 h3 h4 => ⟨_, _, _, _, _, _, _, _, _, rfl, ⟨h2, Sl.nil, h1, by omega⟩, h3, h4⟩
  refine ⟨by omega, by omega, fun g H4 hN4 hgn hg => ⟨?_, fun g1 H5 hN5 hgn1 hg1 => ?_⟩, fun g H4 hN4 hgn hg => fun g1 H5 hN5 hgn1 hg1 => ?_⟩
  · refine (joinB hN4.ext hg).mono fun v H5 e5 hv => ?_
    obtain ⟨a5, n5, c5, rfl, l5, hB⟩ := hv
    refine ⟨a5, n5, c5, rfl, fun hN5 => fun g1 H6 hN6 hgn1 hg1 => ?_⟩
    refine (joinR (Ext.trans (Ext.trans hN4.ext e5) hN6.ext) hg1).mono fun v H7 e7 hv => ?_
    obtain ⟨a6, n6, c6, rfl, l6, hR⟩ := hv
    exact ⟨a6, n6, c6, rfl, fun hN7 => fin l5 (hB.ext' (Ext.trans hN6.ext e7)) l6 hR⟩
  · refine (joinB (Ext.trans hN4.ext hN5.ext) (hN5.ext _ _ hg)).mono fun v H6 e6 hv => ?_
    obtain ⟨a5, n5, c5, rfl, l5, hB⟩ := hv
    refine ⟨a5, n5, c5, rfl, fun hN6 => ?_⟩
    refine (joinR (Ext.trans (Ext.trans hN4.ext hN5.ext) e6) (e6 _ _ hg1)).mono fun v H7 e7 hv => ?_
    obtain ⟨a6, n6, c6, rfl, l6, hR⟩ := hv
    exact ⟨a6, n6, c6, rfl, fun hN7 => fin l5 (hB.ext' e7) l6 hR⟩
  · refine (joinB (Ext.trans hN4.ext hN5.ext) hg1).mono fun v H6 e6 hv => ?_
    obtain ⟨a5, n5, c5, rfl, l5, hB⟩ := hv
    refine ⟨a5, n5, c5, rfl, fun hN6 => ?_⟩
    refine (joinR (Ext.trans (Ext.trans hN4.ext hN5.ext) e6) (e6 _ _ (hN5.ext _ _ hg))).mono fun v H7 e7 hv => ?_
    obtain ⟨a6, n6, c6, rfl, l6, hR⟩ := hv
    exact ⟨a6, n6, c6, rfl, fun hN7 => fin l5 (hB.ext' e7) l6 hR⟩
end
theorem cSameDisk {H : Heap} {sa wa ta ua : Option Addr} {sn sc wn wc tn tc un uc : Nat} {d d' : Dsk} (h : DskAt H d sa sn sc wa wn wc) (h' : DskAt H d' ta tn tc ua un uc) : Spec Tryz.prog 14 [dskArg sa sn sc wa wn wc, dskArg ta tn tc ua un uc] H fun v _ => v = .bool (decide (d = d')) := by
  refine TryzvcJ Tryz.func14 (by kernel_rfl) (by kernel_rfl) _ rfl (fun base K => vz14 sa wa ta ua sn sc wn wc tn tc un uc base H K) fun base hb => fun b b' => ?_
  have hd : d = d' ↔ d.safe = d'.safe ∧ d.wait = d'.wait := by cases d; cases d'; simp
  refine ⟨d = d', (cEqB h.safe h'.safe).bool1 fun H1 e1 _ => ⟨fun h1 => (cEqB (h.wait.ext' e1) (h'.wait.ext' e1)).bool1 fun H2 e2 _ => ⟨rfl, Ext.trans e1 e2, ?_⟩, fun h1 => ⟨rfl, e1, ?_⟩⟩, ?_⟩
  · rw [hd]; simp at h1 ⊢; simp [h1]
  · rw [hd]; simp at h1; simp [h1]
  · show Value.bool _ = Value.bool _
    rw [decC]
end Go.Vg
