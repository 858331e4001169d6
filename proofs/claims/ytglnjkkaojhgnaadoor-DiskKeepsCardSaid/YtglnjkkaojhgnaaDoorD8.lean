/- What is proved here: the contracts of slices of bytes, and of the function that reads lines of records. -/
import Derived.Test.YtglnjkkaojhgnaaDoorD5
import Derived.Test.YtglnjkkaojhgnaaDoorW3
set_option linter.unusedSimpArgs false
set_option linter.unusedVariables false
set_option maxRecDepth 100000
namespace Go.Vg
open Go Go.Proofs
/-! ### Bytes -/
def u8Cell (b : UInt8) : List Value := [.int .u8 b.toNat]
theorem u8Cell_len (b : UInt8) : (u8Cell b).length = 1 := rfl
theorem u8s_flat : ∀ l : List UInt8, u8s l = l.flatMap u8Cell
  | [] => rfl
  | x :: r => by
    have := u8s_flat r
    unfold u8s at this ⊢
    rw [List.map_cons, this]; rfl
abbrev Bytes (H : Heap) (a : Option Addr) (n : Nat) (bs : List UInt8) : Prop := Sl (REnc u8Cell) 1 H a n bs
theorem Bytes.ext' {H H' : Heap} {a : Option Addr} {n : Nat} {bs : List UInt8} (h : Bytes H a n bs) (e : Ext H H') : Bytes H' a n bs := Sl.ext REnc.mono h e
theorem Bytes.conv {H H' : Heap} {a : Option Addr} {n : Nat} {bs : List UInt8} (h : Bytes H a n bs) (e : Ext H H') : bs.length = n ∧ (n = 0 ∨ ∃ (b o : Nat), a = some ⟨b, o, none⟩ ∧ cellsAt H' b o 0 (u8s bs)) :=
  ⟨h.len, by rw [u8s_flat]; exact (h.cells u8Cell_len e).2⟩
theorem Sl.u8 {H H' : Heap} {a : Option Addr} {n : Nat} {xs : List UInt8} (h : Bytes H a n xs) (e : Ext H H') {k : Int} (h0 : 0 ≤ k) (h1 : k < n) {F : Int → Prop} (hF : ∀ x, xs[k.toNat]? = some x → F x.toNat) :
    ∃ (b o : Nat), a = some ⟨b, o, none⟩ ∧ 0 ≤ k ∧ k < n ∧ ∃ x : Int, H'.cell b (o + k.toNat * 1) = some (.int .u8 x) ∧ F x := by
  obtain ⟨b, o, r, x, ha, hx, hr, hc⟩ := h.get h0 h1
  obtain rfl := hr
  exact ⟨b, o, ha, h0, h1, _, Heap.cell_next e (hc 0 _ rfl), hF x hx⟩
theorem Fresh.bytes {H H' : Heap} {a : Option Addr} {n c : Nat} {bs : List UInt8} (h : Fresh H H' 5 1 a n c (bs.flatMap u8Cell)) : Bytes (newOf H H') a n bs := h.sl_new u8Cell_len (by omega)
theorem newOf_right {H H1 H2 : Heap} (e : Ext H1 H2) : Ext (newOf H H1) (newOf H H2) := fun x k h => by
  have h1 := newOf_away x k h
  have h2 := newOf_ext x k h
  unfold newOf
  rw [h1]
  exact e x k h2
abbrev dskArg (sa : Option Addr) (sn sc : Nat) (wa : Option Addr) (wn wc : Nat) : Value := .agg #[.slice sa sn sc, .slice wa wn wc]
structure DskAt (H : Heap) (d : Dsk) (sa : Option Addr) (sn sc : Nat) (wa : Option Addr) (wn wc : Nat) : Prop where
  safe : Bytes H sa sn d.safe
  wait : Bytes H wa wn d.wait
  sle : sn ≤ sc
  wle : wn ≤ wc
theorem DskAt.ext {H H' : Heap} {d : Dsk} {sa wa : Option Addr} {sn sc wn wc : Nat} (h : DskAt H d sa sn sc wa wn wc) (e : Ext H H') : DskAt H' d sa sn sc wa wn wc := ⟨h.safe.ext' e, h.wait.ext' e, h.sle, h.wle⟩
theorem DskAt.zero {H : Heap} : DskAt H dsk0 none 0 0 none 0 0 := ⟨Sl.nil, Sl.nil, by omega, by omega⟩
theorem cCloneB {H : Heap} {a : Option Addr} {l c : Nat} {xs : List UInt8} (hx : Bytes H a l xs) (hl : l ≤ 100000) : Spec Tryd.prog 61 [.slice a l c] H fun v H' => ∃ a n c, v = .slice a n c ∧ Fresh H H' 5 1 a n c (xs.flatMap u8Cell) := by
  refine TrydvcJ Tryd.func61 (by kernel_rfl) (by kernel_rfl) _ rfl (fun base K => vd61 a l c base H K) fun base hb => ⟨_, eqNil Tryd.underlying50, fun h => ?_, fun h => ?_⟩
  · obtain rfl : a = none := by cases a <;> simp at h ⊢
    obtain ⟨_, rfl⟩ := hx.addr_nil
    exact ⟨none, 0, 0, rfl, Fresh.zero⟩
  · intro g H1 hN1 _ hg
    obtain ⟨h1, h2, h3⟩ := hx.copied u8Cell_len (fun _ => rfl) hN1.ext
    exact ⟨[], _, Row.zero, h1, h2, h3, by omega, by omega, fun a3 c3 H3 hG hR => ⟨_, _, _, rfl, hR.fresh hb⟩⟩
theorem cEqB {H : Heap} {a a' : Option Addr} {l c l' c' : Nat} {xs ys : List UInt8} (hx : Bytes H a l xs) (hy : Bytes H a' l' ys) : Spec Tryd.prog 65 [.slice a l c, .slice a' l' c'] H fun v _ => v = .bool (decide (xs = ys)) := by
  refine TrydvcJ Tryd.func65 (by kernel_rfl) (by kernel_rfl) _ rfl (fun base K => vd65 a a' l c l' c' base H K) fun base hb => ?_
  have hxl := hx.len
  have hyl := hy.len
  have hle := hx.le
  refine ⟨fun h => ?_, fun h => ?_⟩
  · rw [decide_eq_false]
    rintro rfl
    omega
  have hll : l = l' := by omega
  refine ⟨fun vs _ => ∃ (b : Bool) (k : Nat), vs = [.bool b, i64 k] ∧ k ≤ l ∧ (xs.drop k = ys.drop k ↔ xs = ys), upTo l 1, ⟨false, 0, rfl, by omega, by simp⟩, fun b n H' hN hI => ?_⟩
  obtain ⟨b', k, hvs, hk, hI⟩ := hI
  obtain ⟨rfl, rfl⟩ : b = b' ∧ n = (k : Int) := by simpa using hvs
  refine ⟨fun hlt => hx.u8 hN.ext (by omega) hlt fun p hp => hy.u8 hN.ext (by omega) (by omega) fun q hq => ⟨fun h => ?_, fun h => ?_⟩, fun hge => ?_⟩
  · rw [Int.toNat_natCast] at hp hq
    rw [drop_at hp, drop_at hq] at hI
    rw [decide_eq_false]
    intro e
    obtain ⟨rfl, _⟩ := List.cons.inj (hI.2 e)
    exact h rfl
  · rw [Int.toNat_natCast] at hp hq
    rw [drop_at hp, drop_at hq] at hI
    have hpq : p = q := UInt8.toNat_inj.1 (by have := Decidable.not_not.1 h; omega)
    rintro r rfl
    rw [wrap_in (by omega) (by omega)]
    exact ⟨⟨b, k + 1, rfl, by omega, by rw [← hI]; simp [hpq]⟩, by simp [upTo]; omega⟩
  · rw [decide_eq_true]
    exact hI.1 (by rw [drop_all hxl (by omega), drop_all hyl (by omega)])
theorem cGrowB {H : Heap} {k : Int} (h0 : 0 ≤ k) (h1 : k ≤ 1000000) : Spec Tryd.prog 79 [.slice none 0 0, .int .i64 k] H fun v H' => ∃ a c, v = .slice a 0 c ∧ Fresh H H' 5 1 a 0 c [] := by
  refine TrydvcJ Tryd.func79 (by kernel_rfl) (by kernel_rfl) _ rfl (fun base K => vd79 none 0 0 k base H K) fun base hb => ?_
  refine ⟨fun h => by omega, fun _ => fun r hr => ?_⟩
  obtain rfl : r = 0 := by rw [hr, wrap_in (by omega) (by omega)]; omega
  rintro r rfl
  rw [wrap_in (by omega) (by omega)]
  refine ⟨fun h => ⟨by omega, by omega, [], k.toNat, by omega, by omega, by omega, Row.zero, by omega, by omega, fun g c' H1 hN hg hR => ⟨by omega, by omega, ?_⟩⟩, fun h => ⟨none, 0, rfl, Fresh.zero⟩⟩
  refine ⟨_, _, rfl, ?_⟩
  have := hR.short (m := 0) (by omega)
  rw [Nat.zero_mul, List.take_zero] at this
  exact this.fresh hb
/-- A block of rows. -/
theorem sl_box_rows {α : Type} {R : Rep α} {sz : Nat} {H : Heap} {g : Nat} {ty : TypeId} {rs : List (List Value)} {xs : List α} {n : Nat} (h : H g = some (boxKB ty rs.flatten)) (hw : ∀ r ∈ rs, r.length = sz) (ha : AllR R H rs xs) (hn : rs.length = n) (hle : (n : Int) ≤ 9223372036854775807) : Sl R sz H (some ⟨g, 0, none⟩) n xs :=
  Sl.of_has (Has.of_box h rfl hw hn hle) ha.len fun i r x hr hx => ha.get hr hx
theorem cConcatB {H : Heap} {a : Option Addr} {l c : Nat} {bss : List (List UInt8)} (hx : Sl (RSl (REnc u8Cell) 1) 1 H a l bss) (hl : l ≤ 100) (hn : bss.flatten.length ≤ 200000) : Spec Tryd.prog 62 [.slice a l c] H fun v H' => ∃ a n c, v = .slice a n c ∧ Fresh H H' 5 1 a n c (bss.flatten.flatMap u8Cell) := by
  refine TrydvcJ Tryd.func62 (by kernel_rfl) (by kernel_rfl) _ rfl (fun base K => vd62 a l c base H K) fun base hb => ?_
  have hbl := hx.len
  have hpart : ∀ k, (bss.take k).flatten.length ≤ bss.flatten.length := fun k => by
    have : (bss.take k ++ bss.drop k).flatten.length = bss.flatten.length := by rw [List.take_append_drop]
    rw [List.flatten_append, List.length_append] at this
    omega
  have hnext : ∀ k x, bss[k]? = some x → (bss.take (k + 1)).flatten = (bss.take k).flatten ++ x := fun k x h => by
    rw [take_at h, List.flatten_append]; simp
  refine ⟨fun vs H' => ∃ (k : Nat), vs = [i64 ((bss.take k).flatten.length : Nat), i64 k] ∧ k ≤ l, upTo l 1, ⟨0, rfl, by omega⟩, fun n n1 H1 hN1 hI => ?_⟩
  obtain ⟨k, hvs, hk⟩ := hI
  obtain ⟨rfl, rfl⟩ : n = ((bss.take k).flatten.length : Nat) ∧ n1 = (k : Int) := by simpa using hvs
  refine ⟨fun hlt => hx.slice hN1.ext (by omega) hlt fun x a' n' c' hxk hS => ?_, fun hge => ?_⟩
  · rw [Int.toNat_natCast] at hxk
    have h1 := hS.len
    have h2 := hpart (k + 1)
    rw [hnext k x hxk, List.length_append] at h2
    rintro r rfl
    rw [wrap_in (by omega) (by omega)]
    refine ⟨fun h => by omega, fun _ => ?_⟩
    rintro r rfl
    rw [wrap_in (by omega) (by omega)]
    exact ⟨⟨k + 1, by rw [hnext k x hxk, List.length_append, h1]; rfl, by omega⟩, by simp [upTo]; omega⟩
  · have h2 := hpart k
    refine (cGrowB (k := ((bss.take k).flatten.length : Nat)) (by omega) (by omega)).mono fun v H2 e2 hv => ?_
    obtain ⟨a2, c2, rfl, hF⟩ := hv
    refine ⟨a2, 0, c2, rfl, fun hN2 => ?_⟩
    have hap : ∀ {g : Nat} {k : KB}, H g = some k → c2 ≠ 0 → a2 ≠ some ⟨g, 0, none⟩ := fun {g k} hg hc e => by
      rcases hF.2.2.2 with ⟨_, h⟩ | ⟨g', k', h1, h2, _⟩
      · exact hc h
      · rw [e] at h1; simp at h1; subst h1
        rw [hN1.ext _ _ hg] at h2; cases h2
    refine ⟨fun vs H' => ∃ (k : Nat) (a3 : Option Addr) (c3 : Nat), vs = [.slice a3 (bss.take k).flatten.length c3, i64 k] ∧ k ≤ l ∧ Row base H' 5 1 a3 (bss.take k).flatten.length c3 ((bss.take k).flatten.flatMap u8Cell), upTo l 1,
      ⟨0, a2, c2, rfl, by omega, hF.row hN2⟩, fun a3 n3 c3 n4 H3 hN3 hI => ?_⟩
    obtain ⟨k, a3', c3', hvs, hk, hR⟩ := hI
    obtain ⟨⟨rfl, rfl, rfl⟩, rfl⟩ : (a3 = a3' ∧ n3 = (bss.take k).flatten.length ∧ c3 = c3') ∧ n4 = (k : Int) := by simpa using hvs
    refine ⟨fun hlt => hx.slice hN3.ext (by omega) hlt fun x a' n' c' hxk hS => ?_, fun hge => ?_⟩
    · rw [Int.toNat_natCast] at hxk
      have h1 := hS.len
      have h3 := hpart (k + 1)
      rw [hnext k x hxk, List.length_append] at h3
      obtain ⟨p1, p2, p3⟩ := hS.copied u8Cell_len (fun _ => rfl) hN3.ext
      refine ⟨_, _, hR, p1, p2, p3, by omega, by omega, fun a5 c5 H5 hG5 hR5 => ?_⟩
      rintro r rfl
      rw [wrap_in (by omega) (by omega)]
      refine ⟨⟨k + 1, a5, c5, by rw [hnext k x hxk, List.length_append, h1]; rfl, by omega, ?_⟩, by simp [upTo]; omega⟩
      rw [hnext k x hxk, List.length_append, h1, List.flatMap_append]
      exact hR5
    · obtain rfl : k = l := by omega
      rw [← hbl, List.take_length] at hR ⊢
      exact ⟨_, _, _, rfl, hR.fresh hb⟩
/-! ### Lines -/
section
variable {H : Heap} (hL : Lb H)
include hL
theorem cLines {s : ByteArray} {most : Nat} (hs : s.size ≤ 60000) (hm : most ≤ 200) : Spec Tryd.prog 63 [.string s, .int .i64 most] H fun v H' => ∃ a n c G rows, v = .tuple #[.slice a n c, i64 (linesF most 0 s.data.toList).2.1, i64 (linesF most 0 s.data.toList).2.2] ∧
    NewSl RRec 7 40 H G H' a n c rows (linesF most 0 s.data.toList).1 := by
  refine TrydvcJ Tryd.func63 (by kernel_rfl) (by kernel_rfl) _ rfl (fun base K => vd63 s most base H K) fun base hb => ?_
  have hsd := size_data s
  generalize hS : s.data.toList = S at hsd
  have hse : s = ⟨S.toArray⟩ := by rw [← hS]
  generalize hR : linesF most 0 S = R
  refine ⟨fun vs H' => ∃ (rest : List UInt8) (a : Option Addr) (n c : Nat) (n1 n2 : Int) (a1 : Option Addr) (n3 c1 : Nat) (G : Heap) (rows : List (List Value)) (xs : List Recd), vs = [.string ⟨rest.toArray⟩, .slice a n c, i64 n1, i64 n2, .slice a1 n3 c1] ∧
      OwnSl RRec 7 40 base G H' a1 n3 c1 rows xs ∧ Away H G ∧ rest.length ≤ S.length ∧ n3 ≤ most ∧ R = (xs ++ (linesF most n3 rest).1, (S.length - rest.length) + (linesF most n3 rest).2.1, (linesF most n3 rest).2.2),
    fun vs => match vs with | .string s :: _ => s.size | _ => 0,
    ⟨S, none, 0, 0, 0, 0, none, 0, 0, fun _ => none, [], [], by rw [hse], OwnSl.zero (fun _ _ h => by cases h), fun _ _ h => (by cases h), Nat.le_refl _, by omega, by simp [← hR]⟩, fun s1 a n c n1 n2 a1 n3 c1 H1 hN1 hI => ?_⟩
  obtain ⟨rest, a', n', c', n1', n2', a1', n3', c1', G, rows, xs, hvs, hO, hAw, hrl, hn3, hRR⟩ := hI
  obtain ⟨rfl, ⟨rfl, rfl, rfl⟩, rfl, rfl, rfl, rfl, rfl⟩ : s1 = ⟨rest.toArray⟩ ∧ (a = a' ∧ n = n' ∧ c = c') ∧ n1 = n1' ∧ n2 = n2' ∧ a1 = a1' ∧ n3 = n3' ∧ c1 = c1' := by simpa using hvs
  obtain ⟨hrlen, hxlen⟩ := hO.rlen (by omega)
  refine ⟨_, neS, fun h => ?_, fun h => ?_⟩
  · have hne : rest ≠ [] := by
      have h := of_decide_eq_true h
      rwa [data_mk] at h
    have hc := l_cut (hL.ext hN1.ext) (s := ⟨rest.toArray⟩) (sep := ⟨#[10]⟩) (by rw [size_mk]; omega)
    rw [data_mk, show (⟨#[10]⟩ : ByteArray).data.toList = [10] from rfl] at hc
    rcases cut_cases 10 rest with ⟨hno, hcut⟩ | ⟨w, t, hrest, hw, hcut⟩
    · rw [hcut] at hc
      rw [linesF_torn hno hne] at hRR
      refine hc.cut3 fun H2 e2 hN2 => ⟨fun _ => ?_, fun h => absurd rfl h⟩
      rintro r rfl
      rw [size_mk rest, hsd, wrap_in (by omega) (by omega)]
      subst hRR
      rw [show (S.length : Int) - rest.length = ((S.length - rest.length : Nat) : Int) from by omega]
      refine ⟨a1, n3, c1, G, rows, rfl, ?_⟩
      rw [List.append_nil]; exact (hO.ext e2).new hb hAw
    · rw [hcut] at hc
      have hwl : w.length + t.length + 1 = rest.length := by rw [hrest]; simp; omega
      refine hc.cut3 fun H2 e2 hN2 => ⟨fun h => (by cases h), fun _ => ?_⟩
      have hps := cNoteParse (hL.ext (Ext.trans hN1.ext e2)) (s := ⟨w.toArray⟩)
      rw [if_neg (by rw [size_mk]; omega), data_mk] at hps
      refine hps.mono fun v H3 e3 hv => ?_
      obtain ⟨a7, n7, c7, hv, hF⟩ := hv
      refine ⟨_, _, _, _, _, _, a7, n7, c7, _, hv, fun hN3 => fun b1 => ⟨fun h => ?_, fun h => ?_⟩⟩
      · cases hr : recRead w with
        | ok r => rw [hr] at h; exact absurd rfl h
        | error e =>
          rw [hrest, linesF_err hw hr, ← hrest] at hRR
          rintro r rfl
          rw [size_mk rest, hsd, wrap_in (by omega) (by omega)]
          subst hRR
          rw [show (S.length : Int) - rest.length = ((S.length - rest.length : Nat) : Int) from by omega]
          refine ⟨a1, n3, c1, G, rows, rfl, ?_⟩
          rw [List.append_nil]; exact (hO.ext (Ext.trans e2 e3)).new hb hAw
      · cases hr : recRead w with
        | error e => rw [hr] at h; exact absurd (Decidable.not_not.1 h) (recRead_err hr)
        | ok r =>
          rw [hr] at hF
          have hF : Fresh H2 H3 29 2 a7 n7 c7 (r.rel.lock.flatMap pinCells) := hF
          refine ⟨fun hmost => ?_, fun hmost => ?_⟩
          · have hmost : n3 = most := by omega
            rw [hrest, hmost, linesF_many hw hr, ← hrest] at hRR
            rintro q rfl
            rw [size_mk rest, hsd, wrap_in (by omega) (by omega)]
            subst hRR
            rw [show (S.length : Int) - rest.length = ((S.length - rest.length : Nat) : Int) from by omega]
            refine ⟨a1, n3, c1, G, rows, rfl, ?_⟩
            rw [List.append_nil]; exact (hO.ext (Ext.trans e2 e3)).new hb hAw
          · have hmost : n3 ≠ most := by omega
            rw [hrest, linesF_more hw hr hmost] at hRR
            intro b2
            have hO3 := hO.grow RRec.mono (Ext.trans e2 e3)
            have hAw3 : Away H (G.plus (newOf H1 H3)) := plus_away hAw (newOf_away.sub hN1.ext)
            have hP : Pins (G.plus (newOf H1 H3)) a7 n7 r.rel.lock := Pins.ext' (hF.sl_new pinCells_len (by omega)) (Ext.trans (newOf_mono e2) (new_in_grow hO.sub))
            refine ⟨_, hO3.row, by omega, by omega, fun a8 c8 H8 hG8 hR8 => ⟨⟨t, a, n, c, n1, n2, a8, n3 + 1, c8, _, rows ++ [recVal r a7 n7 c7], xs ++ [r], rfl, ?_, hAw3, by omega, by omega, ?_⟩, ?_⟩⟩
            · refine hO3.grew hG8 ?_ (by intro q hq; simp at hq; subst hq; rfl) (AllR.one ⟨a7, n7, c7, rfl, hP⟩)
              rw [List.flatten_cons, List.flatten_nil, List.append_nil]
              exact hR8
            · rw [hRR]
              simp only [List.append_assoc, List.singleton_append]
              congr 2
              rw [List.length_append, List.length_cons]
              omega
            · show t.length < rest.length
              omega
  · have hnil : rest = [] := by
      have h := fun e => h (decide_eq_true e)
      rw [data_mk] at h
      exact Decidable.not_not.1 h
    subst hnil
    rw [linesF_nil] at hRR
    subst hRR
    refine ⟨a1, n3, c1, G, rows, ?_, ?_⟩
    · simp [hsd]
    · rw [List.append_nil]; exact hO.new hb hAw
end
end Go.Vg
set_option linter.unusedSimpArgs false
set_option linter.unusedVariables false
set_option maxRecDepth 100000
namespace Go.Vg
open Go Go.Proofs
def dskGet : Except Int Dsk → Dsk
  | .ok d => d
  | .error _ => dsk0
/-- A disk that a call made, and what is wrong. -/
def DskOut (H : Heap) (x : Except Int Dsk) (v : Value) (H' : Heap) : Prop := ∃ sa sn sc wa wn wc, v = .tuple #[dskArg sa sn sc wa wn wc, i64 (errOf x)] ∧ DskAt (newOf H H') (dskGet x) sa sn sc wa wn wc
theorem DskOut.bad {H H' : Heap} {e : Int} : DskOut H (.error e) (.tuple #[.agg #[.slice none 0 0, .slice none 0 0], .int .i64 e]) H' := ⟨none, 0, 0, none, 0, 0, rfl, DskAt.zero⟩
theorem newOf_both {H H1 H2 H3 : Heap} (e : Ext H H1) (e' : Ext H2 H3) : Ext (newOf H1 H2) (newOf H H3) := Ext.trans (newOf_mono e) (newOf_right e')
theorem Fresh.le {H H' : Heap} {e : TypeId} {sz : Nat} {a : Option Addr} {n c : Nat} {xs : List Value} (h : Fresh H H' e sz a n c xs) : n ≤ c := h.2.1
theorem Spec.dsk {P : Program} {f : FuncId} {args : List Value} {H : Heap} {x : Except Int Dsk} (h : Spec P f args H (DskOut H x)) {base : Nat} {G : Option Addr → Nat → Nat → Option Addr → Nat → Nat → Int → Heap → Prop}
    (hG : ∀ sa sn sc wa wn wc H', Ext H H' → Vg.Next base H H' → DskAt (newOf H H') (dskGet x) sa sn sc wa wn wc → G sa sn sc wa wn wc (errOf x) H') :
    Spec P f args H fun v H' => ∃ (sa : Option Addr) (sn sc : Nat) (wa : Option Addr) (wn wc : Nat) (e : Int), v = .tuple #[.agg #[.slice sa sn sc, .slice wa wn wc], .int .i64 e] ∧ (Vg.Next base H H' → G sa sn sc wa wn wc e H') :=
  h.mono fun v H' e ⟨sa, sn, sc, wa, wn, wc, hv, hD⟩ => ⟨_, _, _, _, _, _, _, hv, fun hN => hG _ _ _ _ _ _ H' e hN hD⟩
/-- A byte behind bytes of the call's own. -/
theorem putEnd {base : Nat} {H1 H3 : Heap} {a : Option Addr} {m c : Nat} {cs : List UInt8} {g : Nat} (hR : Row base H3 5 1 a m c (cs.flatMap u8Cell)) (hE : Ext H1 H3) (hA : Apart H1 a c) (hm : m ≤ 200000) (hg : H3 g = some (boxKB 5 [Value.int IntKind.u8 10]))
    {K' : Option Addr → Nat → Heap → Prop} (hK : ∀ a'' c'' H', Ext H1 H' → Apart H1 a'' c'' → Row base H' 5 1 a'' (m + 1) c'' ((cs ++ [10]).flatMap u8Cell) → K' a'' c'' H') :
    ∃ (xs cells : List Value), Row base H3 5 1 a m c xs ∧ cells.length = 1 * 1 ∧ allOne cells = true ∧ (1 = 0 ∨ ∃ (b o : Nat), (some ⟨g, 0, none⟩ : Option Addr) = some ⟨b, o, none⟩ ∧ cellsAt H3 b o 0 cells) ∧ (m + 1) * 1 ≤ 140737488355328 ∧ m + 1 ≤ 9223372036854775807 ∧
      ∀ (a'' : Option Addr) (c'' : Nat) (H' : Heap), Grew base H3 H' a c a'' c'' (m + 1) → Row base H' 5 1 a'' (m + 1) c'' (xs ++ cells) → K' a'' c'' H' := by
  refine ⟨_, [.int .u8 10], hR, rfl, rfl, .inr ⟨g, 0, rfl, ?_, trivial⟩, by omega, by omega, fun a'' c'' H' hG hR' => ?_⟩
  · unfold Heap.cell; rw [hg]; rfl
  · obtain ⟨e1, e2⟩ := hA.grew hE hG
    refine hK a'' c'' H' e1 e2 ?_
    rw [List.flatMap_append]
    exact hR'
/-- Text behind bytes of the call's own. -/
theorem putMid {base : Nat} {H1 Hc : Heap} {a : Option Addr} {n c : Nat} {bs text : List UInt8} {s : ByteArray} (hs : s.data.toList = text) (hz : s.size = text.length) (hR : Row base Hc 5 1 a n c (bs.flatMap u8Cell)) (hE : Ext H1 Hc) (hA : Apart H1 a c) (hn : n + text.length ≤ 200000)
    {K' : Option Addr → Nat → Heap → Prop} (hK : ∀ a' c' H', Grew base Hc H' a c a' c' (n + s.size) → Ext H1 H' → Apart H1 a' c' → Row base H' 5 1 a' (n + s.size) c' ((bs ++ text).flatMap u8Cell) → K' a' c' H') :
    ∃ (xs : List Value), Row base Hc 5 1 a n c xs ∧ n + s.size ≤ 140737488355328 ∧ ∀ (a' : Option Addr) (c' : Nat) (H' : Heap), Grew base Hc H' a c a' c' (n + s.size) → Row base H' 5 1 a' (n + s.size) c' (xs ++ u8s s.data.toList) → K' a' c' H' := by
  refine ⟨_, hR, by omega, fun a' c' H' hG hR' => ?_⟩
  obtain ⟨e1, e2⟩ := hA.grew hE hG
  refine hK a' c' H' hG e1 e2 ?_
  rw [List.flatMap_append, ← hs, ← u8s_flat s.data.toList]
  exact hR'
theorem rrec_one {H : Heap} {r : List Value} {m : Recd} (h : RRec H r m) : allOne r = true := by obtain ⟨a, n, c, rfl, _⟩ := h; rfl
theorem apart_fresh {H1 H2 : Heap} {e : TypeId} {sz : Nat} {a : Option Addr} {n c : Nat} {xs : List Value} (h : Fresh H1 H2 e sz a n c xs) : Apart H1 a c := fun hc x k hx ha => by
  rcases h.2.2.2 with ⟨_, h0⟩ | ⟨g, k', h1, h2, _⟩
  · exact hc h0
  · rw [ha] at h1; simp at h1; subst h1
    rw [hx] at h2; cases h2
theorem box_stays {base : Nat} {Hb Hg H' H2 : Heap} {g : Nat} {kb : KB} {a a' : Option Addr} {c c' nn : Nat} {e : TypeId} {sz n : Nat} {xs : List Value} (hR : Row base Hb e sz a n c xs) (hn : Hb g = none) (hg : Hg g = some kb) (hG : Grew base Hg H' a c a' c' nn) : H' g = some kb := by
  refine hG.keep g kb hg ?_
  rcases hR.2.2.2 with ⟨_, h⟩ | ⟨g', k', h1, _, h2, _⟩
  · exact .inl h
  · right
    intro e
    rw [h1] at e
    simp at e
    subst e
    rw [hn] at h2; cases h2
/-- Two slices of bytes in a block, joined. -/
theorem cJoin2 {Hg : Heap} {g : Nat} {sa wa : Option Addr} {sn sc wn wc : Nat} {xs ys : List UInt8} (hg : Hg g = some (boxKB 50 [.slice sa sn sc, .slice wa wn wc])) (hx : Bytes Hg sa sn xs) (hy : Bytes Hg wa wn ys) (hn : xs.length + ys.length ≤ 200000) :
    Spec Tryd.prog 62 [.slice (some ⟨g, 0, none⟩) 2 2] Hg fun v H' => ∃ a n c, v = .slice a n c ∧ Fresh Hg H' 5 1 a n c ((xs ++ ys).flatMap u8Cell) := by
  have hS : Sl (RSl (REnc u8Cell) 1) 1 Hg (some ⟨g, 0, none⟩) 2 [xs, ys] := sl_box_rows (rs := [[.slice sa sn sc], [.slice wa wn wc]]) hg (by simp) ⟨⟨sa, sn, sc, rfl, hx⟩, ⟨wa, wn, wc, rfl, hy⟩, trivial⟩ rfl (by decide)
  have := cConcatB (c := 2) hS (by omega) (by simp; omega)
  simpa using this
section
variable {H : Heap} (hL : Lb H)
include hL
theorem cDiskCheck {sa wa : Option Addr} {sn sc wn wc : Nat} {d : Dsk} (hd : DskAt H d sa sn sc wa wn wc) : Spec Tryd.prog 60 [dskArg sa sn sc wa wn wc] H fun v _ => v = i64 (dskErr d) := by
  refine TrydvcJ Tryd.func60 (by kernel_rfl) (by kernel_rfl) _ rfl (fun base K => vd60 sa wa sn sc wn wc base H K) fun base hb => fun b => ?_
  have hs := hd.safe.len
  have hw := hd.wait.len
  have h1 := hd.safe.le
  have h2 := hd.wait.le
  refine ⟨(60000 : Int) < sn ∨ (60000 : Int) - sn < wn, ⟨fun h => ⟨rfl, subH, .inl h⟩, fun h => ?_⟩, fun h => ?_, fun h => ?_⟩
  · rintro r rfl
    rw [wrap_in (by omega) (by omega)]
    exact ⟨rfl, subH, ⟨fun h' => h'.resolve_left h, fun h' => .inr h'⟩⟩
  · unfold dskErr
    by_cases hc : 60000 < d.safe.length
    · rw [if_pos hc]
    · rw [if_neg hc, if_pos (by omega)]
  · have e : dskErr d = (linesF 200 0 d.safe).2.2 := by
      unfold dskErr
      rw [if_neg (by omega), if_neg (by omega)]
    rw [e]
    refine ⟨d.safe, hs, (hd.safe.conv (Ext.refl _)).2, ?_⟩
    refine (cLines hL (s := ⟨d.safe.toArray⟩) (most := 200) (by rw [size_mk]; omega) (by omega)).mono fun v H1 e1 hv => ?_
    obtain ⟨a, n, c, G, rows, hv, _⟩ := hv
    exact ⟨a, n, c, _, _, hv, fun _ => rfl⟩
theorem cPut {sa wa ra : Option Addr} {sn sc wn wc rl rc : Nat} {d : Dsk} {r : Recd} (hd : DskAt H d sa sn sc wa wn wc) (hr : Pins H ra rl r.rel.lock) : Spec Tryd.prog 32 [dskArg sa sn sc wa wn wc, recArg r ra rl rc] H (DskOut H (dskPut d r)) := by
  refine TrydvcJ Tryd.func32 (by kernel_rfl) (by kernel_rfl) _ rfl (fun base K => vd32 sa wa sn sc wn wc r.kind r.agent r.try_ r.num r.rel.id r.good ra rl rc base H K) fun base hb => fun b b' b'' => ?_
  refine (cDiskCheck hL hd).int1 fun H1 e1 hN1 => ⟨fun h => ?_, fun h => ?_⟩
  · rw [dskPut, if_neg h]; exact DskOut.bad
  have h := Decidable.not_not.1 h
  obtain ⟨z1, z2, z3⟩ := dskErr_zero h
  have hs := hd.safe.len
  have hw := hd.wait.len
  refine (cNotePrint (hL.ext e1) (r := r) (c := rc) (hr.ext' e1)).strE fun H2 e2 hN2 => ⟨fun h2 => ?_, fun h2 => ?_⟩
  · rw [dskPut, if_pos h, if_neg h2]; exact DskOut.bad
  have h2 := Decidable.not_not.1 h2
  rw [if_pos h2]
  have hlt := recText_len h2
  rintro q rfl
  rw [size_mk, wrap_in (by omega) (by omega)]
  rintro q rfl
  rw [wrap_in (by omega) (by omega)]
  rintro q rfl
  rw [wrap_in (by omega) (by omega)]
  refine ⟨fun h3 => ?_, fun h3 => ?_⟩
  · rw [dskPut, if_pos h, if_pos h2, if_pos (by omega)]; exact DskOut.bad
  have hout : dskPut d r = .ok ⟨d.safe, d.wait ++ (recText r ++ [10])⟩ := by rw [dskPut, if_pos h, if_pos h2, if_neg (by omega)]
  rw [hout]
  have e12 := Ext.trans e1 e2
  have fin : ∀ {Ha Hb Hf : Heap} {a1 : Option Addr} {n1 c1 : Nat} {a2 : Option Addr} {n2 c2 : Nat}, Ext H Ha → Fresh Ha Hb 5 1 a1 n1 c1 (d.safe.flatMap u8Cell) → Ext Hb Hf → Row base Hf 5 1 a2 n2 c2 ((d.wait ++ recText r ++ [10]).flatMap u8Cell) →
      DskOut H (.ok ⟨d.safe, d.wait ++ (recText r ++ [10])⟩) (.tuple #[.agg #[.slice a1 n1 c1, .slice a2 n2 c2], .int .i64 0]) Hf := fun {Ha Hb Hf a1 n1 c1 a2 n2 c2} eA hF eF hR => by
    have hR' := hR.fresh hb
    rw [List.append_assoc] at hR'
    exact ⟨_, _, _, _, _, _, rfl, hF.bytes.ext' (newOf_both eA eF), hR'.bytes, hF.le, hR'.le⟩
  have hz : ∀ (l : List UInt8), (⟨l.toArray⟩ : ByteArray).size = l.length := size_mk
  have hd2 := hd.ext e12
  refine ⟨?_, fun g Hg hNg hgn hg => ?_⟩
  · refine (cCloneB hd2.safe (by omega)).mono fun v H3 e3 hv => ?_
    obtain ⟨a1, n1, c1, rfl, hF1⟩ := hv
    refine ⟨a1, n1, c1, rfl, fun hN3 => ⟨?_, fun g Hg hNg hgn hg => ?_⟩⟩
    · refine (cCloneB (hd2.wait.ext' e3) (by omega)).mono fun v H4 e4 hv => ?_
      obtain ⟨a2, n2, c2, rfl, hF2⟩ := hv
      have hn2 : n2 = d.wait.length := by have := hF2.1; rw [flat_len u8Cell_len] at this; omega
      refine ⟨a2, n2, c2, rfl, fun hN4 => ⟨?_, fun g Hg hNg hgn hg => ?_⟩⟩
      · refine putMid (text := recText r) (s := ⟨(recText r).toArray⟩) rfl rfl (hF2.row hN4) e4 (apart_fresh hF2) (by omega) fun a' c' H5 hG5 e5 hA5 hR5 => fun g H6 hN6 hgn hg => ?_
        refine putEnd (hR5.ext hN6.ext) (Ext.trans e5 hN6.ext) hA5 (by rw [hz]; omega) hg fun a'' c'' H7 e7 hA7 hR7 => ?_
        exact fin e12 hF1 e7 hR7
      · refine putMid (text := recText r) (s := ⟨(recText r).toArray⟩) rfl rfl ((hF2.row hN4).ext hNg.ext) (Ext.trans e4 hNg.ext) (apart_fresh hF2) (by omega) fun a' c' H5 hG5 e5 hA5 hR5 => ?_
        refine putEnd hR5 e5 hA5 (by rw [hz]; omega) (box_stays (H2 := H4) (hF2.row hN4) hgn hg hG5) fun a'' c'' H7 e7 hA7 hR7 => ?_
        exact fin e12 hF1 e7 hR7
    · refine (cCloneB ((hd2.wait.ext' e3).ext' hNg.ext) (by omega)).mono fun v H4 e4 hv => ?_
      obtain ⟨a2, n2, c2, rfl, hF2⟩ := hv
      have hn2 : n2 = d.wait.length := by have := hF2.1; rw [flat_len u8Cell_len] at this; omega
      refine ⟨a2, n2, c2, rfl, fun hN4 => ?_⟩
      refine putMid (text := recText r) (s := ⟨(recText r).toArray⟩) rfl rfl (hF2.row hN4) e4 (apart_fresh hF2) (by omega) fun a' c' H5 hG5 e5 hA5 hR5 => ?_
      refine putEnd hR5 e5 hA5 (by rw [hz]; omega) (e5 _ _ hg) fun a'' c'' H7 e7 hA7 hR7 => ?_
      exact fin e12 hF1 (Ext.trans hNg.ext e7) hR7
  · refine (cCloneB (hd2.safe.ext' hNg.ext) (by omega)).mono fun v H3 e3 hv => ?_
    obtain ⟨a1, n1, c1, rfl, hF1⟩ := hv
    refine ⟨a1, n1, c1, rfl, fun hN3 => ?_⟩
    refine (cCloneB ((hd2.wait.ext' hNg.ext).ext' e3) (by omega)).mono fun v H4 e4 hv => ?_
    obtain ⟨a2, n2, c2, rfl, hF2⟩ := hv
    have hn2 : n2 = d.wait.length := by have := hF2.1; rw [flat_len u8Cell_len] at this; omega
    refine ⟨a2, n2, c2, rfl, fun hN4 => ?_⟩
    refine putMid (text := recText r) (s := ⟨(recText r).toArray⟩) rfl rfl (hF2.row hN4) e4 (apart_fresh hF2) (by omega) fun a' c' H5 hG5 e5 hA5 hR5 => ?_
    refine putEnd hR5 e5 hA5 (by rw [hz]; omega) (e5 _ _ (e3 _ _ hg)) fun a'' c'' H7 e7 hA7 hR7 => ?_
    exact fin (Ext.trans e12 hNg.ext) hF1 e7 hR7
theorem cSync {sa wa : Option Addr} {sn sc wn wc : Nat} {d : Dsk} (hd : DskAt H d sa sn sc wa wn wc) : Spec Tryd.prog 33 [dskArg sa sn sc wa wn wc] H (DskOut H (dskSync d)) := by
  refine TrydvcJ Tryd.func33 (by kernel_rfl) (by kernel_rfl) _ rfl (fun base K => vd33 sa wa sn sc wn wc base H K) fun base hb => fun b b' => ?_
  refine (cDiskCheck hL hd).int1 fun H1 e1 hN1 => ⟨fun h => ?_, fun h => ?_⟩
  · rw [dskSync, if_neg h]; exact DskOut.bad
  have h := Decidable.not_not.1 h
  obtain ⟨z1, z2, z3⟩ := dskErr_zero h
  intro g H2 hN2 hgn hg
  have hd2 := hd.ext (Ext.trans e1 hN2.ext)
  refine (cJoin2 hg hd2.safe hd2.wait (by omega)).mono fun v H3 e3 hv => ?_
  obtain ⟨a, n, c, rfl, hF⟩ := hv
  refine ⟨a, n, c, rfl, fun hN3 => fun b3 => ?_⟩
  have eH : Ext H H3 := Ext.trans (Ext.trans e1 hN2.ext) e3
  have hD : DskAt (newOf H H3) ⟨d.safe ++ d.wait, []⟩ a n c none 0 0 := ⟨hF.bytes.ext' (newOf_mono (Ext.trans e1 hN2.ext)), Sl.nil, hF.le, by omega⟩
  refine (cDiskCheck (hL.ext eH) (hD.ext newOf_ext)).int1 fun H4 e4 hN4 => ⟨fun h4 => ?_, fun h4 => ?_⟩
  · rw [dskSync, if_pos h, if_neg h4]; exact DskOut.bad
  · have h4 := Decidable.not_not.1 h4
    rw [dskSync, if_pos h, if_pos h4]
    exact ⟨_, _, _, _, _, _, rfl, hD.ext (newOf_right e4)⟩
theorem cCrash {sa wa : Option Addr} {sn sc wn wc : Nat} {d : Dsk} {n : Int} (hd : DskAt H d sa sn sc wa wn wc) : Spec Tryd.prog 34 [dskArg sa sn sc wa wn wc, .int .i64 n] H (DskOut H (dskCrash d n)) := by
  refine TrydvcJ Tryd.func34 (by kernel_rfl) (by kernel_rfl) _ rfl (fun base K => vd34 sa wa sn sc wn wc n base H K) fun base hb => fun b b' => ?_
  refine (cDiskCheck hL hd).int1 fun H1 e1 hN1 => ⟨fun h => ?_, fun h => ?_⟩
  · rw [dskCrash, if_neg h]; exact DskOut.bad
  have h := Decidable.not_not.1 h
  obtain ⟨z1, z2, z3⟩ := dskErr_zero h
  have hs := hd.safe.len
  have hw := hd.wait.len
  have hle := hd.wle
  refine ⟨n < 0 ∨ (wn : Int) < n, ⟨fun h1 => ⟨rfl, subH, .inl h1⟩, fun h1 => ⟨rfl, subH, ⟨fun h2 => h2.resolve_left h1, .inr⟩⟩⟩, fun h1 => ?_, fun h1 => ⟨by omega, by omega, ?_⟩⟩
  · rw [dskCrash, if_pos h, if_pos (by rw [hw]; exact h1)]; exact DskOut.bad
  · have hd1 := hd.ext e1
    refine (cCloneB hd1.safe (by omega)).mono fun v H2 e2 hv => ?_
    obtain ⟨a1, n1, c1, rfl, hF1⟩ := hv
    refine ⟨a1, n1, c1, rfl, fun hN2 => ?_⟩
    have hsub : Bytes H2 wa n.toNat (d.wait.take n.toNat) := by
      have := (hd1.wait.ext' e2).sub (l := 0) (m := n.toNat) (a' := wa) (by omega) (fun _ => by cases wa <;> simp [Addr.add])
      rwa [List.drop_zero] at this
    refine (cCloneB hsub (by omega)).mono fun v H3 e3 hv => ?_
    obtain ⟨a2, n2, c2, rfl, hF2⟩ := hv
    refine ⟨a2, n2, c2, rfl, fun hN3 => ?_⟩
    rw [dskCrash, if_pos h, if_neg (by rw [hw]; exact h1)]
    exact ⟨_, _, _, _, _, _, rfl, hF1.bytes.ext' (newOf_both e1 e3), hF2.bytes.ext' (newOf_mono (Ext.trans e1 e2)), hF1.le, hF2.le⟩
theorem cRecover {sa wa : Option Addr} {sn sc wn wc : Nat} {d : Dsk} (hd : DskAt H d sa sn sc wa wn wc) : Spec Tryd.prog 36 [dskArg sa sn sc wa wn wc] H fun v H' => ∃ a1 n1 c1 a2 n2 c2 a3 n3 c3 G rows, v = .tuple #[dskArg a1 n1 c1 a2 n2 c2, .slice a3 n3 c3, i64 (dskErr d)] ∧
    DskAt (newOf H H') (if dskErr d = 0 then dskBack d else dsk0) a1 n1 c1 a2 n2 c2 ∧ NewSl RRec 7 40 H G H' a3 n3 c3 rows (if dskErr d = 0 then dskRecs d else []) := by
  refine TrydvcJ Tryd.func36 (by kernel_rfl) (by kernel_rfl) _ rfl (fun base K => vd36 sa wa sn sc wn wc base H K) fun base hb => fun b b' => ?_
  refine (cDiskCheck hL hd).int1 fun H1 e1 hN1 => ⟨fun h => ?_, fun h => ?_⟩
  · rw [if_neg h, if_neg h]
    exact ⟨none, 0, 0, none, 0, 0, none, 0, 0, fun _ => none, [], rfl, DskAt.zero, Fresh.zero, by simp, trivial, fun _ _ h => (by cases h), fun h => absurd rfl h, fun _ _ h => (by cases h)⟩
  have h := Decidable.not_not.1 h
  rw [if_pos h, if_pos h, h]
  obtain ⟨z1, z2, z3⟩ := dskErr_zero h
  have hs := hd.safe.len
  have hw := hd.wait.len
  have hle := hd.wle
  have hd1 := hd.ext e1
  refine ⟨d.safe, hs, (hd1.safe.conv (Ext.refl _)).2, ?_⟩
  refine (cLines (hL.ext e1) (s := ⟨d.safe.toArray⟩) (most := 200) (by rw [size_mk]; omega) (by omega)).mono fun v H2 e2 hv => ?_
  obtain ⟨a3, n3, c3, G3, rows3, rfl, hS3⟩ := hv
  rw [data_mk] at hS3
  refine ⟨a3, n3, c3, _, _, rfl, fun hN2 => ?_⟩
  obtain ⟨i1, i2, i3, i4, i5⟩ := linesF_ok (most := 200) d.safe.length (s := d.safe) (k := 0) (Nat.le_refl _) (by omega)
  have hO3 := hS3.own hN2
  obtain ⟨hr3, hx3⟩ := hO3.rlen (by omega)
  have e12 := Ext.trans e1 e2
  have hd2 := hd.ext e12
  refine ⟨d.wait, hw, (hd2.wait.conv (Ext.refl _)).2, ?_⟩
  rintro r rfl
  rw [wrap_in (by omega) (by omega)]
  have hm : (200 : Int) - n3 = ((200 - n3 : Nat) : Int) := by omega
  rw [hm]
  refine (cLines (hL.ext e12) (s := ⟨d.wait.toArray⟩) (most := 200 - n3) (by rw [size_mk]; omega) (by omega)).mono fun v H3 e3 hv => ?_
  obtain ⟨a4, n4, c4, G4, rows4, rfl, hS4⟩ := hv
  rw [data_mk] at hS4 ⊢
  have hmore : linesF (200 - n3) 0 d.wait = dskMore d := by unfold dskMore; rw [← hx3]
  rw [hmore] at hS4 ⊢
  refine ⟨a4, n4, c4, _, _, rfl, fun hN3 => ?_⟩
  have hO4 := hS4.own hN3
  obtain ⟨hr4, hx4⟩ := hO4.rlen (by omega)
  have j := linesF_ok (most := 200 - (linesF 200 0 d.safe).1.length) d.wait.length (s := d.wait) (k := 0) (Nat.le_refl _) (by omega)
  have j : (dskMore d).1.length ≤ 200 - (linesF 200 0 d.safe).1.length ∧ (dskMore d).2.1 ≤ d.wait.length := by
    obtain ⟨_, j2, j3, _⟩ := j
    exact ⟨by unfold dskMore; omega, j3⟩
  refine ⟨by omega, by omega, fun g H4 hN4 hgn hg => ?_⟩
  have e14 : Ext H H4 := Ext.trans (Ext.trans e12 e3) hN4.ext
  have hd4 := hd.ext e14
  have hsub : Bytes H4 wa (dskMore d).2.1 (d.wait.take (dskMore d).2.1) := by
    have := hd4.wait.sub (l := 0) (m := (dskMore d).2.1) (a' := wa) (by omega) (fun _ => by cases wa <;> simp [Addr.add])
    rwa [List.drop_zero] at this
  rw [Int.toNat_natCast] at hg
  refine (cJoin2 hg hd4.safe hsub (by rw [List.length_take]; omega)).mono fun v H5 e5 hv => ?_
  obtain ⟨a5, n5, c5, rfl, hF5⟩ := hv
  refine ⟨a5, n5, c5, rfl, fun hN5 => ?_⟩
  have hO3' := (hO3.grow RRec.mono e3)
  have e35 : Ext H3 H5 := Ext.trans hN4.ext e5
  have hA4 : AllR RRec (G3.plus (newOf H2 H3)) rows4 (dskMore d).1 := (hS4.all_new RRec.mono).mono RRec.mono (new_in_grow hO3.sub)
  have hAw : Away H (G3.plus (newOf H2 H3)) := plus_away (hS3.away.sub e1) (newOf_away.sub e12)
  have hR4 := (hO4.row.ext e35)
  obtain ⟨bl4, hc4⟩ : rows4.flatten.length = n4 * 7 ∧ (n4 = 0 ∨ ∃ (b o : Nat), a4 = some ⟨b, o, none⟩ ∧ cellsAt H5 b o 0 rows4.flatten) := by
    refine ⟨hR4.1, ?_⟩
    rcases hR4.2.2.2 with ⟨h0, _⟩ | ⟨g', k, h1, h2, h3, h4, h5, h6, h7⟩
    · exact .inl h0
    · exact .inr ⟨g', 0, h1, cellsAt_of _ 0 fun j v hj => by unfold Heap.cell; rw [h3]; simpa using h7 j v hj⟩
  have hO5 := hO3'.ext e35
  refine ⟨_, _, hO5.row, bl4, allOne_rows rrec_one hS4.all, hc4, by omega, by omega, fun a6 c6 H6 hG6 hR6 => ?_⟩
  have hO6 := hO5.grew hG6 hR6 hS4.wid hA4
  refine ⟨a5, n5, c5, none, 0, 0, a6, n3 + n4, c6, _, _, rfl, ⟨hF5.bytes.ext' ?_, Sl.nil, hF5.le, by omega⟩, hO6.new hb hAw⟩
  -- the joined bytes stay: their block is none of the records'
  intro x k hx
  have h1 := newOf_away x k hx
  have h2 := newOf_ext x k hx
  have hxa : c3 = 0 ∨ a3 ≠ some ⟨x, 0, none⟩ := by
    by_cases hc : c3 = 0
    · exact .inl hc
    · right
      intro e
      obtain ⟨g', k', q1, q2⟩ := hO3.block hc
      rw [e] at q1
      simp at q1
      subst q1
      rw [(Ext.trans e3 hN4.ext) _ _ q2] at h1; cases h1
  have hHx : H x = none := by
    cases hq : H x with
    | none => rfl
    | some k' => rw [e14 x k' hq] at h1; cases h1
  unfold newOf
  rw [hHx]
  exact hG6.keep x k h2 hxa
end
theorem cDiskSame {H : Heap} {sa wa ta ua : Option Addr} {sn sc wn wc tn tc un uc : Nat} {d d' : Dsk} (h : DskAt H d sa sn sc wa wn wc) (h' : DskAt H d' ta tn tc ua un uc) : Spec Tryd.prog 39 [dskArg sa sn sc wa wn wc, dskArg ta tn tc ua un uc] H fun v _ => v = .bool (decide (d = d')) := by
  refine TrydvcJ Tryd.func39 (by kernel_rfl) (by kernel_rfl) _ rfl (fun base K => vd39 sa wa ta ua sn sc wn wc tn tc un uc base H K) fun base hb => fun b b' => ?_
  have hd : d = d' ↔ d.safe = d'.safe ∧ d.wait = d'.wait := by cases d; cases d'; simp
  refine ⟨d = d', (cEqB h.safe h'.safe).bool1 fun H1 e1 _ => ⟨fun h1 => (cEqB (h.wait.ext' e1) (h'.wait.ext' e1)).bool1 fun H2 e2 _ => ⟨rfl, Ext.trans e1 e2, ?_⟩, fun h1 => ⟨rfl, e1, ?_⟩⟩, ?_⟩
  · rw [hd]; simp at h1 ⊢; simp [h1]
  · rw [hd]; simp at h1; simp [h1]
  · show Value.bool _ = Value.bool _
    rw [decC]
end Go.Vg
set_option linter.unusedSimpArgs false
set_option linter.unusedVariables false
set_option maxRecDepth 100000
namespace Go.Vg
open Go Go.Proofs
/-- A contract of a call to which boxes are handed, from the verification condition, given as a formula. -/
theorem TrydvcO {f : FuncId} {fn : Func} (hf : Tryd.prog.funcs[f]? = some fn) (hok : okFn fn = true) {own : List Bx} {args : List SV} (hargs : Nat.ble args.length fn.ntmps = true) (hwf : ∀ s ∈ args, s.wf own.length) {H : Heap} (Q : Value → List (List Value) → Heap → Prop)
    {F : Nat → (Value → List (List Value) → Heap → Prop) → Prop} (hv : ∀ base K, funV ⟨Tryd.prog, fn.ntmps, TrydMutsJ, base, H⟩ (bodyOf fn) fn.results.toList args own K = F base K)
    (h : ∀ base, (∀ b k, H b = some k → b < base) → F base Q) : SpecO Tryd.prog f (args.map (SV.val own)) own H Q :=
  specO_of (muts := TrydMutsJ) (Trydsum true) hf (body_some hok) rfl Trydmixed (ops_ok hok) (Nat.le_of_ble_eq_true hargs) hwf fun base hb _ => by
    rw [hv base]
    exact h base hb
theorem cEqRecs {H : Heap} {a a' : Option Addr} {l c l' c' : Nat} {xs ys : List Recd} (hx : Recs H a l xs) (hy : Recs H a' l' ys) : Spec Tryd.prog 37 [.slice a l c, .slice a' l' c', .func (.func 20) #[] #[]] H fun v _ => v = .bool (decide (xs = ys)) := by
  refine TrydvcJ Tryd.func37 (by kernel_rfl) (by kernel_rfl) _ rfl (fun base K => vd37 a a' l c l' c' base H K) fun base hb => ?_
  have hxl := hx.len
  have hyl := hy.len
  have hle := hx.le
  refine ⟨fun h => ?_, fun h => ?_⟩
  · rw [decide_eq_false]
    rintro rfl
    omega
  have hll : l = l' := by omega
  refine ⟨fun vs _ => ∃ (b : Bool) (k : Nat), vs = [.bool b, i64 k] ∧ k ≤ l ∧ (xs.drop k = ys.drop k ↔ xs = ys), upTo l 1, ⟨false, 0, rfl, by omega, by simp⟩, fun b n H' hN hI => ?_⟩
  obtain ⟨b', k, hvs, hk, hI⟩ := hI
  obtain ⟨rfl, rfl⟩ : b = b' ∧ n = (k : Int) := by simpa using hvs
  refine ⟨fun hlt => hx.recd hN.ext (by omega) hlt fun p pa pn pc hp hpp => fun b3 => hy.recd hN.ext (by omega) (by omega) fun q qa qn qc hq hqp => fun b6 => ?_, fun hge => ?_⟩
  · rw [Int.toNat_natCast] at hp hq
    rw [drop_at hp, drop_at hq] at hI
    refine (cNoteSame (r := p) (q := q) (c := pc) (c' := qc) (hpp.ext' hN.ext) (hqp.ext' hN.ext)).bool1 fun H2 e2 hN2 => ⟨fun h => ?_, fun h => ?_⟩
    · rw [decide_eq_false]
      intro e
      obtain ⟨rfl, _⟩ := List.cons.inj (hI.2 e)
      simp at h
    · have hpq : p = q := by simpa using h
      rintro r rfl
      rw [wrap_in (by omega) (by omega)]
      exact ⟨⟨b, k + 1, rfl, by omega, by rw [← hI]; simp [hpq]⟩, by simp [upTo]; omega⟩
  · rw [decide_eq_true]
    exact hI.1 (by rw [drop_all hxl (by omega), drop_all hyl (by omega)])
theorem cGrowR {H : Heap} {k : Int} (h0 : 0 ≤ k) (h1 : k ≤ 1000000) : Spec Tryd.prog 64 [.slice none 0 0, .int .i64 k] H fun v H' => ∃ a c, v = .slice a 0 c ∧ Fresh H H' 40 7 a 0 c [] := by
  refine TrydvcJ Tryd.func64 (by kernel_rfl) (by kernel_rfl) _ rfl (fun base K => vd64 none 0 0 k base H K) fun base hb => ?_
  refine ⟨fun h => by omega, fun _ => fun r hr => ?_⟩
  obtain rfl : r = 0 := by rw [hr, wrap_in (by omega) (by omega)]; omega
  rintro r rfl
  rw [wrap_in (by omega) (by omega)]
  refine ⟨fun h => ⟨by omega, by omega, [], k.toNat, by omega, by omega, by omega, Row.zero, by omega, by omega, fun g c' H1 hN hg hR => ⟨by omega, by omega, ?_⟩⟩, fun h => ⟨none, 0, rfl, Fresh.zero⟩⟩
  refine ⟨_, _, rfl, ?_⟩
  have := hR.short (m := 0) (by omega)
  rw [Nat.zero_mul, List.take_zero] at this
  exact this.fresh hb
theorem cConcatR {H : Heap} {a : Option Addr} {l c : Nat} {bss : List (List Recd)} (hx : Sl (RSl RRec 7) 1 H a l bss) (hl : l ≤ 100) (hn : bss.flatten.length ≤ 200000) : Spec Tryd.prog 38 [.slice a l c] H fun v H' => ∃ a n c, v = .slice a n c ∧ n ≤ c ∧ Recs H' a n bss.flatten := by
  refine TrydvcJ Tryd.func38 (by kernel_rfl) (by kernel_rfl) _ rfl (fun base K => vd38 a l c base H K) fun base hb => ?_
  have hbl := hx.len
  have hpart : ∀ k, (bss.take k).flatten.length ≤ bss.flatten.length := fun k => by
    have : (bss.take k ++ bss.drop k).flatten.length = bss.flatten.length := by rw [List.take_append_drop]
    rw [List.flatten_append, List.length_append] at this
    omega
  have hnext : ∀ k x, bss[k]? = some x → (bss.take (k + 1)).flatten = (bss.take k).flatten ++ x := fun k x h => by
    rw [take_at h, List.flatten_append]; simp
  refine ⟨fun vs H' => ∃ (k : Nat), vs = [i64 ((bss.take k).flatten.length : Nat), i64 k] ∧ k ≤ l, upTo l 1, ⟨0, rfl, by omega⟩, fun n n1 H1 hN1 hI => ?_⟩
  obtain ⟨k, hvs, hk⟩ := hI
  obtain ⟨rfl, rfl⟩ : n = ((bss.take k).flatten.length : Nat) ∧ n1 = (k : Int) := by simpa using hvs
  refine ⟨fun hlt => hx.slice hN1.ext (by omega) hlt fun x a' n' c' hxk hS => ?_, fun hge => ?_⟩
  · rw [Int.toNat_natCast] at hxk
    have h1 := hS.len
    have h2 := hpart (k + 1)
    rw [hnext k x hxk, List.length_append] at h2
    rintro r rfl
    rw [wrap_in (by omega) (by omega)]
    refine ⟨fun h => by omega, fun _ => ?_⟩
    rintro r rfl
    rw [wrap_in (by omega) (by omega)]
    exact ⟨⟨k + 1, by rw [hnext k x hxk, List.length_append, h1]; rfl, by omega⟩, by simp [upTo]; omega⟩
  · have h2 := hpart k
    refine (cGrowR (k := ((bss.take k).flatten.length : Nat)) (by omega) (by omega)).mono fun v H2 e2 hv => ?_
    obtain ⟨a2, c2, rfl, hF⟩ := hv
    refine ⟨a2, 0, c2, rfl, fun hN2 => ?_⟩
    have hO : OwnSl RRec 7 40 base H H2 a2 0 c2 [] ([] : List Recd) := ⟨hF.row hN2, by simp, trivial, Ext.trans hN1.ext e2, fun hc g hg => by
      rcases hF.2.2.2 with ⟨_, h⟩ | ⟨g', k', h1, h2, _⟩
      · exact absurd h hc
      · rw [hg] at h1; simp at h1; subst h1
        cases hq : H g with
        | none => rfl
        | some kb => rw [hN1.ext _ _ hq] at h2; cases h2⟩
    refine ⟨fun vs H' => ∃ (k : Nat) (a3 : Option Addr) (n3 c3 : Nat) (rows : List (List Value)), vs = [.slice a3 n3 c3, i64 k] ∧ k ≤ l ∧ OwnSl RRec 7 40 base H H' a3 n3 c3 rows (bss.take k).flatten, upTo l 1,
      ⟨0, a2, 0, c2, [], rfl, by omega, hO⟩, fun a3 n3 c3 n4 H3 hN3 hI => ?_⟩
    obtain ⟨k, a3', n3', c3', rows, hvs, hk, hO3⟩ := hI
    obtain ⟨⟨rfl, rfl, rfl⟩, rfl⟩ : (a3 = a3' ∧ n3 = n3' ∧ c3 = c3') ∧ n4 = (k : Int) := by simpa using hvs
    obtain ⟨r1, r2⟩ := hO3.rlen (by omega)
    refine ⟨fun hlt => hx.slice hN3.ext (by omega) hlt fun x a' n' c' hxk hS => ?_, fun hge => ?_⟩
    · rw [Int.toNat_natCast] at hxk
      have h1 := hS.len
      have h3 := hpart (k + 1)
      rw [hnext k x hxk, List.length_append] at h3
      obtain ⟨rs, p1, p2, p3, p4⟩ := hS.rows RRec.len
      refine ⟨_, _, hO3.row, p3, allOne_rows rrec_one p2, p4.imp id (fun ⟨b, o, hb', hc⟩ => ⟨b, o, hb', cellsAt_ext hN3.ext hc⟩), by omega, by omega, fun a5 c5 H5 hG5 hR5 => ?_⟩
      rintro r rfl
      rw [wrap_in (by omega) (by omega)]
      refine ⟨⟨k + 1, a5, _, c5, rows ++ rs, rfl, by omega, ?_⟩, by simp [upTo]; omega⟩
      rw [hnext k x hxk]
      exact hO3.grew hG5 hR5 p1 p2
    · obtain rfl : k = l := by omega
      rw [← hbl, List.take_length] at hO3
      exact ⟨_, _, _, rfl, hO3.row.2.1, hO3.sl RRec.mono (by omega)⟩
/-- Records put one by one: those that could be, and the disk. -/
def puts : Dsk → List Recd → List Recd × Dsk
  | d, [] => ([], d)
  | d, r :: q => match dskPut d r with
    | .ok x => (r :: (puts x q).1, (puts x q).2)
    | .error _ => puts d q
theorem puts_ok {d x : Dsk} {r : Recd} {q : List Recd} (h : dskPut d r = .ok x) : puts d (r :: q) = (r :: (puts x q).1, (puts x q).2) := by
  conv => lhs; unfold puts
  rw [h]
theorem puts_bad {d : Dsk} {e : Int} {r : Recd} {q : List Recd} (h : dskPut d r = .error e) : puts d (r :: q) = puts d q := by
  conv => lhs; unfold puts
  rw [h]
theorem puts_spec : ∀ {l : List Recd} {d : Dsk}, (puts d l).2 = ⟨d.safe, d.wait ++ recsText (puts d l).1⟩ ∧ (∀ r ∈ (puts d l).1, recErr r = 0) ∧ (puts d l).1.length ≤ l.length
  | [], d => by simp [puts, recsText]
  | r :: q, d => by
    cases hp : dskPut d r with
    | error e =>
      rw [puts_bad hp]
      obtain ⟨h1, h2, h3⟩ := puts_spec (l := q) (d := d)
      exact ⟨h1, h2, by simp only [List.length_cons]; omega⟩
    | ok x =>
      rw [puts_ok hp]
      obtain ⟨h1, h2, h3⟩ := puts_spec (l := q) (d := x)
      obtain ⟨p1, p2, p3, rfl⟩ := dskPut_ok hp
      refine ⟨?_, fun y hy => ?_, by simp only [List.length_cons]; omega⟩
      · dsimp only
        rw [h1, recsText_cons]
        simp
      · rcases List.mem_cons.1 hy with rfl | hy
        · exact p2
        · exact h2 y hy
section
variable {H : Heap} (hL : Lb H)
include hL
theorem cPutAll {a sa wa : Option Addr} {l c b sn sc wn wc : Nat} {xs : List Recd} {d : Dsk} (hx : Recs H a l xs) (hlc : l ≤ c) (hd : DskAt H d sa sn sc wa wn wc) :
    SpecO Tryd.prog 31 [.slice a l c, .pointer (some ⟨b, 0, none⟩)] [⟨b, false, 52, [.slice sa sn sc, .slice wa wn wc]⟩] H fun v css H' => ∃ a1 n1 c1 a2 n2 c2 a3 n3 c3, v = .slice a1 n1 c1 ∧ css = [[.slice a2 n2 c2, .slice a3 n3 c3]] ∧
      Recs H' a1 n1 (puts d (xs.take 20)).1 ∧ DskAt H' (puts d (xs.take 20)).2 a2 n2 c2 a3 n3 c3 := by
  refine TrydvcO Tryd.func31 (by kernel_rfl) (own := [⟨b, false, 52, [.slice sa sn sc, .slice wa wn wc]⟩]) (args := [.v (.slice a l c), .loc 0 0]) (by kernel_rfl) (by intro s hs; simp at hs; rcases hs with rfl | rfl <;> simp [SV.wf]) _ (fun base K => vd31 a l c b sa wa sn sc wn wc base H K) fun base hb => ?_
  have hl := hx.len
  have hle := hx.le
  have hmin : ∃ m : Nat, (if (20 : Int) < (l : Int) then (20 : Int) else (l : Int)) = (m : Int) ∧ m ≤ l ∧ m ≤ 20 ∧ xs.take 20 = xs.take m := by
    by_cases h : (20 : Int) < l
    · exact ⟨20, by rw [if_pos h]; rfl, by omega, by omega, rfl⟩
    · exact ⟨l, by rw [if_neg h], by omega, by omega, by rw [List.take_of_length_le (by omega), List.take_of_length_le (by omega)]⟩
  obtain ⟨m, hm, hml, hm20, htk⟩ := hmin
  rw [hm, htk, Int.toNat_natCast]
  refine ⟨by omega, by omega, ?_⟩
  refine ⟨fun vs H' => ∃ (k : Nat) (a1 : Option Addr) (n1 c1 : Nat) (a2 : Option Addr) (n2 c2 : Nat) (a3 : Option Addr) (n3 c3 : Nat) (G : Heap) (rows : List (List Value)) (out : List Recd) (y : Dsk), vs = [.slice a1 n1 c1, i64 k, .agg #[.slice a2 n2 c2, .slice a3 n3 c3]] ∧ k ≤ m ∧
      OwnSl RRec 7 40 base G H' a1 n1 c1 rows out ∧ Ext H G ∧ DskAt G y a2 n2 c2 a3 n3 c3 ∧ out.length ≤ k ∧ puts d (xs.take m) = (out ++ (puts y ((xs.take m).drop k)).1, (puts y ((xs.take m).drop k)).2),
    upTo m 1, ⟨0, none, 0, 0, sa, sn, sc, wa, wn, wc, H, [], [], d, rfl, by omega, OwnSl.zero (Ext.refl _), Ext.refl _, hd, by simp, by simp⟩, fun a1 n1 c1 n4 a2 n2 c2 a3 n3 c3 H1 hN1 hI => ?_⟩
  obtain ⟨k, a1', n1', c1', a2', n2', c2', a3', n3', c3', G, rows, out, y, hvs, hk, hO, hHG, hy, hol, hP⟩ := hI
  obtain ⟨⟨rfl, rfl, rfl⟩, rfl, ⟨rfl, rfl, rfl⟩, rfl, rfl, rfl⟩ : (a1 = a1' ∧ n1 = n1' ∧ c1 = c1') ∧ n4 = (k : Int) ∧ (a2 = a2' ∧ n2 = n2' ∧ c2 = c2') ∧ a3 = a3' ∧ n3 = n3' ∧ c3 = c3' := by simpa using hvs
  obtain ⟨r1, r2⟩ := hO.rlen (by omega)
  refine ⟨fun hlt => ?_, fun hge => ?_⟩
  · have hxm : Recs H a m (xs.take m) := by
      have := hx.sub (l := 0) (m := m) (a' := a) (by omega) (fun _ => by cases a <;> simp [Addr.add])
      rwa [List.drop_zero] at this
    refine hxm.recd hN1.ext (by omega) hlt fun r ra rn rc hr hrp => fun b1 => ?_
    rw [Int.toNat_natCast] at hr
    have hdr := drop_at hr
    refine (cPut (hL.ext hN1.ext) (hy.ext hO.sub) (r := r) (rc := rc) (hrp.ext' hN1.ext)).dsk fun a7 n7 c7 a8 n8 c8 H2 e2 hN2 hD => fun b2 => ⟨fun h => ?_, fun h => ?_⟩
    · cases hp : dskPut y r with
      | error e => rw [hp] at h; exact absurd h (by
          intro h0
          have h0 : e = 0 := h0
          subst h0
          unfold dskPut at hp
          split at hp
          · split at hp
            · split at hp
              · cases hp
              · cases hp
            · rename_i h1; injection hp with hp; exact h1 hp
          · rename_i h1; injection hp with hp; exact h1 hp)
      | ok z =>
        rw [hp] at hD
        have hO2 := hO.grow RRec.mono e2
        have hD2 : DskAt (G.plus (newOf H1 H2)) z a7 n7 c7 a8 n8 c8 := hD.ext (new_in_grow hO.sub)
        have hrG : Pins (G.plus (newOf H1 H2)) ra rn r.rel.lock := (hrp.ext' hHG).ext' plus_left
        rw [hdr, puts_ok hp] at hP
        refine ⟨fun g Hg hNg hgn hg => ?_, fun g Hg hNg hgn hg => ⟨?_, ?_⟩⟩
        all_goals
          have hOg := hO2.ext hNg.ext
          refine ⟨_, recVal r ra rn rc, hOg.row, rfl, rfl, .inr ⟨g, 0, rfl, box_cells hg⟩, by omega, by omega, fun a' c' H5 hG5 hR5 => ?_⟩
          rintro q rfl
          rw [wrap_in (by omega) (by omega)]
          refine ⟨⟨k + 1, a', n1 + 1, c', a7, n7, c7, a8, n8, c8, _, rows ++ [recVal r ra rn rc], out ++ [r], z, rfl, by omega, ?_, Ext.trans hHG plus_left, hD2, by simp; omega, by rw [hP]; simp⟩, by simp [upTo]; omega⟩
          refine hOg.grew hG5 ?_ (by intro q hq; simp at hq; subst hq; rfl) (AllR.one ⟨ra, rn, rc, rfl, hrG⟩)
          rw [List.flatten_cons, List.flatten_nil, List.append_nil]
          exact hR5
    · cases hp : dskPut y r with
      | ok z => rw [hp] at h; exact absurd rfl h
      | error e =>
        rw [hdr, puts_bad hp] at hP
        rintro q rfl
        rw [wrap_in (by omega) (by omega)]
        exact ⟨⟨k + 1, a1, n1, c1, a2, n2, c2, a3, n3, c3, G, rows, out, y, rfl, by omega, hO.ext e2, hHG, hy, by omega, hP⟩, by simp [upTo]; omega⟩
  · rw [List.drop_of_length_le (by rw [List.length_take]; omega)] at hP
    have hP' : puts d (xs.take m) = (out, y) := by rw [hP]; simp [puts]
    rw [hP']
    exact ⟨a1, n1, c1, a2, n2, c2, a3, n3, c3, rfl, rfl, hO.sl RRec.mono (by omega), hy.ext hO.sub⟩
end
def filedA : Recd := ⟨8, 0, 0, 0, false, ⟨0, []⟩⟩
def filedB : Recd := ⟨9, 0, 0, 0, false, ⟨0, []⟩⟩
theorem filed_text : recText filedA = [56, 32, 48, 32, 48, 32, 48, 32, 48, 32, 48, 32, 61] ∧ recText filedB = [57, 32, 48, 32, 48, 32, 48, 32, 48, 32, 48, 32, 61] := by
  constructor
  · show (Lib.itoa ((8 : Nat) : Int) ++ [32]) ++ ((Lib.itoa ((0 : Nat) : Int) ++ [32]) ++ ((Lib.itoa ((0 : Nat) : Int) ++ [32]) ++ ((Lib.itoa ((0 : Nat) : Int) ++ [32]) ++ ((Lib.itoa ((0 : Nat) : Int) ++ [32]) ++ ((Lib.itoa ((0 : Nat) : Int) ++ [32]) ++ []))))) ++ 61 :: [] = _
    simp only [itoa_digit (show 0 < 10 by omega), itoa_digit (show 8 < 10 by omega)]
    rfl
  · show (Lib.itoa ((9 : Nat) : Int) ++ [32]) ++ ((Lib.itoa ((0 : Nat) : Int) ++ [32]) ++ ((Lib.itoa ((0 : Nat) : Int) ++ [32]) ++ ((Lib.itoa ((0 : Nat) : Int) ++ [32]) ++ ((Lib.itoa ((0 : Nat) : Int) ++ [32]) ++ ((Lib.itoa ((0 : Nat) : Int) ++ [32]) ++ []))))) ++ 61 :: [] = _
    simp only [itoa_digit (show 0 < 10 by omega), itoa_digit (show 9 < 10 by omega)]
    rfl
theorem filed_errs : recErr filedA = 0 ∧ recErr filedB = 0 := by decide
theorem filed_one : recsText [filedA] = [56, 32, 48, 32, 48, 32, 48, 32, 48, 32, 48, 32, 61, 10] := by
  show recText filedA ++ [10] ++ [] = _
  rw [filed_text.1]; rfl
/-- The closed fact, step by step. -/
theorem filed_plain : dskPut dsk0 filedA = .ok ⟨[], recsText [filedA]⟩ ∧ dskSync ⟨[], recsText [filedA]⟩ = .ok ⟨recsText [filedA], []⟩ ∧ dskPut ⟨recsText [filedA], []⟩ filedB = .ok ⟨recsText [filedA], recsText [filedB]⟩ ∧
    dskCrash ⟨recsText [filedA], recsText [filedB]⟩ 4 = .ok ⟨recsText [filedA], (recsText [filedB]).take 4⟩ ∧ dskErr ⟨recsText [filedA], (recsText [filedB]).take 4⟩ = 0 ∧ dskBack ⟨recsText [filedA], (recsText [filedB]).take 4⟩ = ⟨recsText [filedA], []⟩ ∧ dskRecs ⟨recsText [filedA], (recsText [filedB]).take 4⟩ = [filedA] := by
  obtain ⟨z1, z2⟩ := filed_errs
  have hA : ∀ r ∈ [filedA], recErr r = 0 := fun r hr => by simp at hr; subst hr; exact z1
  have hB : ∀ r ∈ [filedB], recErr r = 0 := fun r hr => by simp at hr; subst hr; exact z2
  have lA := recsText_len hA
  have lB := recsText_len hB
  have tA := recText_len z1
  have tB := recText_len z2
  simp only [List.length_cons, List.length_nil] at lA lB
  have e0 : dskErr dsk0 = 0 := by decide
  have eW : ∀ w : List UInt8, w.length ≤ 1000 → dskErr ⟨[], w⟩ = 0 := fun w hw => dskErr_recs (rs := []) (by simp) (by simp) (by simp [recsText]; omega)
  have eA : ∀ w : List UInt8, w.length ≤ 1000 → dskErr ⟨recsText [filedA], w⟩ = 0 := fun w hw => dskErr_recs hA (by simp) (by omega)
  have tr : ∀ r, recText r ++ [10] = recsText [r] := fun r => by simp [recsText]
  have tk : ((recsText [filedB]).take 4).length ≤ 4 := by rw [List.length_take]; omega
  refine ⟨?_, ?_, ?_, ?_, eA _ (by omega), ?_⟩
  · unfold dskPut
    rw [if_pos e0, if_pos z1, if_neg (by simp [dsk0]; omega), ← tr]; rfl
  · unfold dskSync
    dsimp only
    rw [if_pos (eW _ (by omega)), List.nil_append, if_pos (eA [] (by simp))]
  · unfold dskPut
    rw [if_pos (eA [] (by simp)), if_pos z2, if_neg (by simp; omega), ← tr filedB]; rfl
  · unfold dskCrash
    rw [if_pos (eA _ (by omega)), if_neg (by
      have : (recsText [filedB]).length = 14 := by show (recText filedB ++ [10] ++ []).length = 14; rw [filed_text.2]; rfl
      simp only; omega)]
    rfl
  · obtain ⟨k, hk, k1, k2, k3⟩ := dsk_keeps (ps := [filedA]) (qs := [filedB]) hA hB (by simp) (by omega) 4
    have h2 : (recsText [filedB]).take 4 = [57, 32, 48, 32] := by
      have : recsText [filedB] = recText filedB ++ [10] ++ [] := rfl
      rw [this, filed_text.2]; rfl
    have hno : (10 : UInt8) ∉ (recsText [filedB]).take 4 := by rw [h2]; decide
    have hL := lines_recs (most := 200) hA (by simp)
    have hM : dskMore ⟨recsText [filedA], (recsText [filedB]).take 4⟩ = ([], 0, 9) := by
      unfold dskMore
      dsimp only
      exact linesF_torn hno (by rw [h2]; simp)
    refine ⟨?_, ?_⟩
    · unfold dskBack
      rw [hM]; simp
    · unfold dskRecs
      rw [hM]; dsimp only; rw [hL]; rfl
section
variable {H : Heap} (hL : Lb H)
include hL
theorem cFiled : Spec Tryd.prog 30 [] H fun v _ => v = .bool true := by
  refine TrydvcJ Tryd.func30 (by kernel_rfl) (by kernel_rfl) _ rfl (fun base K => vd30 base H K) fun base hb => ?_
  obtain ⟨f1, f2, f3, f4, f5, f6, f7⟩ := filed_plain
  refine (cPut hL (d := dsk0) (r := filedA) (rc := 0) DskAt.zero nilPins).dsk fun a1 n1 c1 a2 n2 c2 H1 e1 hN1 hD1 => fun b => ?_
  rw [f1] at hD1 ⊢
  refine (cSync (hL.ext e1) (hD1.ext newOf_ext)).dsk fun a3 n3 c3 a4 n4 c4 H2 e2 hN2 hD2 => ?_
  rw [show dskGet (.ok ⟨[], recsText [filedA]⟩) = ⟨[], recsText [filedA]⟩ from rfl, f2] at hD2
  rw [show dskGet (.ok ⟨[], recsText [filedA]⟩) = ⟨[], recsText [filedA]⟩ from rfl, f2]
  have e12 := Ext.trans e1 e2
  refine (cPut (hL.ext e12) (r := filedB) (rc := 0) (hD2.ext newOf_ext) nilPins).dsk fun a5 n5 c5 a6 n6 c6 H3 e3 hN3 hD3 => ?_
  rw [show dskGet (.ok ⟨recsText [filedA], []⟩) = ⟨recsText [filedA], []⟩ from rfl, f3] at hD3
  rw [show dskGet (.ok ⟨recsText [filedA], []⟩) = ⟨recsText [filedA], []⟩ from rfl, f3]
  have e13 := Ext.trans e12 e3
  refine (cCrash (hL.ext e13) (n := 4) (hD3.ext newOf_ext)).dsk fun a7 n7 c7 a8 n8 c8 H4 e4 hN4 hD4 => ?_
  rw [show dskGet (.ok ⟨recsText [filedA], recsText [filedB]⟩) = ⟨recsText [filedA], recsText [filedB]⟩ from rfl, f4] at hD4
  rw [show dskGet (.ok ⟨recsText [filedA], recsText [filedB]⟩) = ⟨recsText [filedA], recsText [filedB]⟩ from rfl, f4]
  have e14 := Ext.trans e13 e4
  refine (cRecover (hL.ext e14) (hD4.ext newOf_ext)).mono fun v H5 e5 hv => ?_
  obtain ⟨a9, n9, c9, b1, m1, d1, b2, m2, d2, G, rows, hv, hD5, hS⟩ := hv
  rw [show dskGet (.ok ⟨recsText [filedA], (recsText [filedB]).take 4⟩) = ⟨recsText [filedA], (recsText [filedB]).take 4⟩ from rfl, f5] at hv hD5 hS
  rw [if_pos rfl, f6] at hD5
  rw [if_pos rfl, f7] at hS
  refine ⟨_, _, _, _, _, _, _, _, _, _, hv, fun hN5 => ?_⟩
  have hsl := hS.sl RRec.mono (by omega) hN5
  have hw := hD5.wait.len
  have hm2 := hsl.len
  obtain rfl : m1 = 0 := by simpa using hw.symm
  obtain rfl : m2 = 1 := by simpa using hm2.symm
  refine ⟨True, ⟨fun _ => ⟨fun _ => ⟨fun _ => ⟨fun _ => ⟨fun _ => ?_, fun h => absurd rfl h⟩, fun h => absurd rfl h⟩, fun h => absurd rfl h⟩, fun h => absurd rfl h⟩, fun h => absurd rfl h⟩, ?_⟩
  · obtain ⟨q1, q2⟩ := (hD5.safe.ext' newOf_ext).conv (Ext.refl _)
    refine ⟨recsText [filedA], q1, q2, _, eqS, fun _ => ⟨fun _ => ⟨fun _ => ?_, fun h => absurd rfl h⟩, fun h => absurd rfl h⟩, fun h => ?_⟩
    · obtain ⟨bb, o, r, x, ha, hx, ⟨a', n', c', rfl, hp⟩, hc⟩ := hsl.get (k := 0) (by omega) (by omega)
      obtain rfl : filedA = x := by simpa using hx
      refine ⟨bb, o, ha, by decide, by decide, 8, ?_, rfl, subH, by simp⟩
      exact hc 0 _ rfl
    · exfalso
      apply h
      rw [data_mk, filed_one]; rfl
  · show Value.bool _ = _
    congr 1
    simp
end
end Go.Vg
set_option linter.unusedSimpArgs false
set_option linter.unusedVariables false
set_option maxRecDepth 100000
namespace Go.Vg
open Go Go.Proofs
section
variable {H : Heap} (hL : Lb H)
include hL
theorem cDiskKeeps {a a' : Option Addr} {l c l' c' : Nat} {xs ys : List Recd} {n : Int} (hx : Recs H a l xs) (hlc : l ≤ c) (hy : Recs H a' l' ys) (hlc' : l' ≤ c') : Spec Tryd.prog 7 [.slice a l c, .slice a' l' c', .int .i64 n] H fun v _ => v = .bool true := by
  refine TrydvcJ Tryd.func7 (by kernel_rfl) (by kernel_rfl) _ rfl (fun base K => vd7 a a' l c l' c' n base H K) fun base hb => ?_
  refine (cFiled hL).bool1 fun H1 e1 hN1 => ⟨fun h => (by cases h), fun _ => fun b => ?_⟩
  -- what can be put of both
  obtain ⟨s1, s2, s3⟩ := puts_spec (l := xs.take 20) (d := dsk0)
  have hput1 := cPutAll (hL.ext e1) (b := b) (hx.ext' e1) hlc (DskAt.zero (H := H1))
  generalize hp : (puts dsk0 (xs.take 20)).1 = p at s1 s2 s3 hput1
  rw [show dsk0.safe = [] from rfl, show dsk0.wait = [] from rfl, List.nil_append] at s1
  rw [s1] at hput1
  have hpl : p.length ≤ 20 := by rw [List.length_take] at s3; omega
  have hpt := recsText_len s2
  refine SpecO.mono hput1 fun v css H2 e2 hv => ?_
  obtain ⟨a1, n1, c1, a3, n3, c3, a4, n4, c4, rfl, rfl, hR1, hD1⟩ := hv
  refine ⟨a1, n1, c1, rfl, a3, n3, c3, a4, n4, c4, rfl, fun hN2 => ?_⟩
  have e12 := Ext.trans e1 e2
  have hsync : dskSync ⟨[], recsText p⟩ = .ok ⟨recsText p, []⟩ := by
    unfold dskSync
    dsimp only
    have e0 : dskErr ⟨[], recsText p⟩ = 0 := by
      have := dskErr_recs (rs := []) (w := recsText p) (by simp) (by simp) (by simp only [show recsText [] = [] from rfl, List.length_nil]; omega)
      exact this
    rw [if_pos e0, List.nil_append, if_pos (dskErr_recs s2 (by omega) (by simp; omega))]
  have hsy := cSync (hL.ext e12) hD1
  rw [hsync] at hsy
  refine hsy.dsk fun a6 n6 c6 a7 n7 c7 H3 e3 hN3 hD2 => ⟨fun h => absurd rfl h, fun _ => ?_⟩
  have e13 := Ext.trans e12 e3
  obtain ⟨t1, t2, t3⟩ := puts_spec (l := ys.take 20) (d := ⟨recsText p, []⟩)
  have hput2 := cPutAll (hL.ext e13) (b := b) (hy.ext' e13) hlc' (d := ⟨recsText p, []⟩) (hD2.ext newOf_ext)
  generalize hq : (puts ⟨recsText p, []⟩ (ys.take 20)).1 = q at t1 t2 t3 hput2
  dsimp only at t1
  rw [List.nil_append] at t1
  rw [t1] at hput2
  have hql : q.length ≤ 20 := by rw [List.length_take] at t3; omega
  have hqt := recsText_len t2
  refine SpecO.mono hput2 fun v css H4 e4 hv => ?_
  obtain ⟨a10, n10, c10, a11, n11, c11, a12, n12, c12, rfl, rfl, hR2, hD3⟩ := hv
  refine ⟨a10, n10, c10, rfl, a11, n11, c11, a12, n12, c12, rfl, fun hN4 => ?_⟩
  have e14 := Ext.trans e13 e4
  have hwl : (recsText q).length = n12 := hD3.wait.len
  rintro r rfl
  rw [wrap_in (by omega) (by omega)]
  have hrg := atP_range n (n := (n12 : Int) + 1) (by omega)
  refine (cAt n ((n12 : Int) + 1) (by omega) (by omega)).int1 fun H5 e5 hN5 => ?_
  generalize atP n ((n12 : Int) + 1) = m at hrg
  have e15 := Ext.trans e14 e5
  obtain ⟨k, hk, k1, k2, k3⟩ := dsk_keeps s2 t2 (by omega) (by omega) m.toNat
  have hcr := cCrash (hL.ext e15) (n := m) (hD3.ext e5)
  have hcrash : dskCrash ⟨recsText p, recsText q⟩ m = .ok ⟨recsText p, (recsText q).take m.toNat⟩ := by
    unfold dskCrash
    rw [if_pos (dskErr_recs s2 (by omega) (by omega)), if_neg (by simp only; omega)]
  rw [hcrash] at hcr
  refine hcr.dsk fun a16 n16 c16 a17 n17 c17 H6 e6 hN6 hD4 => ⟨fun h => absurd rfl h, fun _ => ?_⟩
  have e16 := Ext.trans e15 e6
  have hD4 : DskAt (newOf H5 H6) ⟨recsText p, (recsText q).take m.toNat⟩ a16 n16 c16 a17 n17 c17 := hD4
  refine (cRecover (hL.ext e16) (hD4.ext newOf_ext)).mono fun v H7 e7 hv => ?_
  obtain ⟨a20, n20, c20, a21, n21, c21, a22, n22, c22, G, rows, hv, hD5, hS⟩ := hv
  rw [k1] at hv
  rw [if_pos k1, k3] at hD5
  rw [if_pos k1, k2] at hS
  refine ⟨_, _, _, _, _, _, _, _, _, _, hv, fun hN7 => fun b1 => ?_⟩
  have e17 := Ext.trans e16 e7
  have hsl : Recs H7 a22 n22 (p ++ q.take k) := hS.sl RRec.mono (by omega) hN7
  have hnl := hsl.len
  have hn1 := hR1.len
  have hn10 := hR2.len
  have hw0 := hD5.wait.len
  simp only [List.length_nil] at hw0
  have hall : ∀ r ∈ p ++ q.take k, recErr r = 0 := fun r hr => by
    rcases List.mem_append.1 hr with hr | hr
    · exact s2 r hr
    · exact t2 r (List.mem_of_mem_take hr)
  have hlen : (p ++ q.take k).length ≤ 40 := by rw [List.length_append, List.length_take]; omega
  have hlt := recsText_len hall
  obtain ⟨g1, g2, g3⟩ := dsk_again hall (by omega) (by omega)
  rw [List.length_append, List.length_take] at hnl
  refine ⟨False, ⟨fun h => absurd rfl h, fun _ => ⟨fun h => absurd h (by omega), fun _ => fun r hr => ?_⟩⟩, fun h => h.elim, fun _ => ?_⟩
  · rw [wrap_in (by omega) (by omega)] at hr
    subst hr
    refine ⟨fun h => absurd h (by omega), fun _ => fun g H8 hN8 hgn hg => ?_⟩
    have e18 := Ext.trans e7 hN8.ext
    have hR1' : Recs H8 a1 n1 p := hR1.ext' (Ext.trans (Ext.trans (Ext.trans (Ext.trans e3 e4) e5) e6) e18)
    have hR2' : Recs H8 a10 n10 q := hR2.ext' (Ext.trans (Ext.trans e5 e6) e18)
    have hBox : Sl (RSl RRec 7) 1 H8 (some ⟨g, 0, none⟩) 2 [p, q] := sl_box_rows (rs := [[.slice a1 n1 c1], [.slice a10 n10 c10]]) hg (by simp) ⟨⟨a1, n1, c1, rfl, hR1'⟩, ⟨a10, n10, c10, rfl, hR2'⟩, trivial⟩ rfl (by decide)
    refine (cConcatR (c := 2) hBox (by omega) (by simp; omega)).mono fun v H9 e9 hv => ?_
    obtain ⟨a30, n30, c30, rfl, hle30, hR30⟩ := hv
    have h30 : [p, q].flatten = p ++ q := by simp
    rw [h30] at hR30
    have hl30 := hR30.len
    rw [List.length_append] at hl30
    refine ⟨a30, n30, c30, rfl, fun hN9 => ⟨by omega, by omega, ?_⟩⟩
    have hsub : Recs H9 a30 n22 (p ++ q.take k) := by
      have := hR30.sub (l := 0) (m := n22) (a' := a30) (by omega) (fun _ => by cases a30 <;> simp [Addr.add])
      rw [List.drop_zero, List.take_append, List.take_of_length_le (by omega)] at this
      rw [show n22 - p.length = k from by omega] at this
      exact this
    rw [Int.toNat_natCast]
    refine (cEqRecs (c := c22) (c' := c30) (hsl.ext' (Ext.trans hN8.ext e9)) hsub).bool1 fun H10 e10 hN10 => ⟨rfl, Ext.trans (Ext.trans hN8.ext e9) e10, by simp⟩
  · refine (cRecover (hL.ext e17) (hD5.ext newOf_ext)).mono fun v H8 e8 hv => ?_
    obtain ⟨a40, n40, c40, a41, n41, c41, a42, n42, c42, G2, rows2, hv, hD6, hS2⟩ := hv
    rw [g1] at hv
    rw [if_pos g1, g3] at hD6
    rw [if_pos g1, g2] at hS2
    refine ⟨_, _, _, _, _, _, _, _, _, _, hv, fun hN8 => fun b2 => ⟨True, ⟨fun _ => ?_, fun h => absurd rfl h⟩, ?_⟩⟩
    · refine (cDiskSame (hD6.ext newOf_ext) ((hD5.ext newOf_ext).ext e8)).bool1 fun H9 e9 hN9 => ⟨fun _ => ?_, fun h => by simp at h⟩
      refine (cEqRecs (c := c42) (c' := c22) (Recs.ext' (hS2.sl RRec.mono (by omega) hN8) e9) (hsl.ext' (Ext.trans e8 e9))).bool1 fun H10 e10 hN10 => ⟨fun _ => ⟨rfl, Ext.trans e9 e10, by simp; omega⟩, fun h => by simp at h⟩
    · show Value.bool _ = _
      congr 1
      simp
end
end Go.Vg
