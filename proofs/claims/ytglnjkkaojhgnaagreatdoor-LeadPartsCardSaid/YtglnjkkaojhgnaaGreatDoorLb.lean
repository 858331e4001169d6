/- What is proved here: what the library's functions make, over what is known of memory (out of the library's contracts). -/
import Derived.Test.YtglnjkkaojhgnaaGreatDoorSpv
import Derived.Test.YtglnjkkaojhgnaaGreatDoorLay
import Derived.Test.YtglnjkkaojhgnaaGreatDoorTx
import Derived.Shelf.Strings.Split
import Derived.Shelf.Strings.Cut
import Derived.Shelf.Strings.Prefix
import Derived.Shelf.Small.Wraps
import Derived.Shelf.Strings.OnBuilder
import Derived.Shelf.Strconv.Itoa4
import Derived.Shelf.Strconv.AtoiAll
import Derived.Shelf.Strconv.ParseIntPublic10
import Derived.Lib.ParseIntBTie
import Derived.Lib.LaidTab
import Derived.Lib.AppendIntMem
set_option linter.unusedSimpArgs false
set_option linter.unusedVariables false
set_option maxRecDepth 100000
namespace Go.Vg
open Go Go.Proofs Go.RowKit Go.Shelf
/-- What the library's variables hold. -/
structure Lb (H : Heap) : Prop where
  max : ∃ m : Int, H.cell 0 0 = some (.int .i64 m)
  syn : ∃ (t : TypeId) (p : Value), H.cell 2 0 = some (.iface t p)
  rng : ∃ (t : TypeId) (p : Value), H.cell 3 0 = some (.iface t p)
  tab : ∃ k, H 1 = some k ∧ k.size = Lib.pow10Tab.length ∧ ∀ (j : Nat) (z : Int), Lib.pow10Tab[j]? = some z → k.cells j = some (.int .u64 z)
theorem Lb.ext {H H' : Heap} (h : Lb H) (e : Ext H H') : Lb H' := by
  obtain ⟨⟨m, h1⟩, ⟨t, p, h2⟩, ⟨t', p', h3⟩, ⟨k, h4, h5⟩⟩ := h
  exact ⟨⟨m, Heap.cell_next e h1⟩, ⟨t, p, Heap.cell_next e h2⟩, ⟨t', p', Heap.cell_next e h3⟩, ⟨k, e _ _ h4, h5⟩⟩
theorem tabIs_of {P : Program} {H : Heap} {w : World} (hs : Sees H w) {name : String} {g : Nat} {zs : List Int} (hn : P.globalNamed name = some g) (h : ∃ k, H g = some k ∧ k.size = zs.length ∧ ∀ (j : Nat) (z : Int), zs[j]? = some z → k.cells j = some (.int .u64 z)) : Lib.TabIs P w name .u64 zs := by
  obtain ⟨k, hk, hsz, hc⟩ := h
  obtain ⟨cur, fr, hw, h1, _, h2⟩ := hs g k hk
  unfold Lib.TabIs World.var?
  rw [hn]
  simp only [Option.bind_some, hw, Option.some.injEq]
  apply Array.ext
  · simp [h1, hsz]
  · intro i h3 h4
    have hi : i < zs.length := by simpa using h4
    have := h2 i _ (hc i _ (List.getElem?_eq_getElem hi))
    have h5 : cur[i]? = some cur[i] := Array.getElem?_eq_getElem h3
    rw [h5] at this
    rw [Option.some.inj this]
    simp
section
variable {H : Heap} (hL : Lb H)
include hL
theorem l_itoa {n : Int} (h0 : -9223372036854775808 ≤ n) (h1 : n ≤ 9223372036854775807) : SpecV Tryz.prog 63 [.int .i64 n] H fun v => v = str (Lib.itoa n) := fun w hw =>
  (Any.strconv_Itoa Tryz.laysm171 n h0 h1 w (tabIs_of hw (by kernel_rfl) hL.tab)).mono fun e w' ⟨he, k, os, hw'⟩ => ⟨_, he, rfl, by rw [hw']; exact Lib.below_grow _ w (Nat.le_refl _) k os⟩
theorem l_fmt {n : Int} (h0 : -9223372036854775808 ≤ n) (h1 : n ≤ 9223372036854775807) : SpecV Tryz.prog 134 [.int .i64 n, .int .i64 10] H fun v => v = str (Lib.itoa n) := fun w hw =>
  (Any.strconv_FormatInt_10 Tryz.laysm173 n h0 h1 w (tabIs_of hw (by kernel_rfl) hL.tab)).mono fun e w' ⟨he, k, os, hw'⟩ => ⟨_, he, rfl, by rw [hw']; exact Lib.below_grow _ w (Nat.le_refl _) k os⟩
/-- A number that was read: an error, or it. -/
def NumV (x : Lib.NumEnd Int) (v : Value) : Prop := ∃ (n : Int) (e : Value), v = .tuple #[.int .i64 n, e] ∧ ((x = .ok n ∧ e = .nilIface) ∨ ((∀ m, x ≠ .ok m) ∧ ∃ t p, e = .iface t p))
theorem l_atoi {s : ByteArray} (hs : s.size ≤ 281474976710656) : SpecV Tryz.prog 97 [.string s] H (NumV (Lib.atoiAll s.data.toList)) := fun w hw => by
  cases h : Lib.atoiAll s.data.toList
  · rename_i v
    refine (Any.strconv_Atoi_ok Tryz.laysc172 s (by omega) v h w).mono fun e w' ⟨he, hw'⟩ => ⟨_, he, ⟨_, _, rfl, .inl ⟨rfl, rfl⟩⟩, ?_⟩
    rcases hw' with rfl | ⟨t, rfl⟩
    · exact Below.refl _ _
    · exact Lib.bytesWorld_below _ _ _
  · obtain ⟨t, p, hc⟩ := hL.syn
    exact (Any.strconv_Atoi_syntax Tryz.laysc172 s hs h (.iface t p) w (hw.cell hc) (.inr ⟨t, p, rfl⟩)).mono fun e w' ⟨N, he, _, _, hB⟩ => ⟨_, he, ⟨_, _, rfl, .inr ⟨(by simp), _, _, rfl⟩⟩, hB⟩
  · obtain ⟨t, p, hc⟩ := hL.rng
    exact (Any.strconv_Atoi_range Tryz.laysc172 s hs h (.iface t p) w (hw.cell hc) (.inr ⟨t, p, rfl⟩)).mono fun e w' ⟨N, he, _, _, hB⟩ => ⟨_, he, ⟨_, _, rfl, .inr ⟨(by simp), _, _, rfl⟩⟩, hB⟩
theorem l_pint {s : ByteArray} (hs : s.size ≤ 281474976710656) : SpecV Tryz.prog 133 [.string s, .int .i64 10, .int .i64 64] H (NumV (Lib.atoiAll s.data.toList)) := fun w hw => by
  rw [← Lib.parseIntB_64]
  cases h : Lib.parseIntB 64 s.data.toList
  · rename_i v
    refine (Any.strconv_ParseInt_10_at64_ok Tryz.laysc174 s (by omega) v h w).mono fun e w' ⟨he, hw'⟩ => ⟨_, he, ⟨_, _, rfl, .inl ⟨rfl, rfl⟩⟩, ?_⟩
    rcases hw' with rfl | ⟨t, rfl⟩
    · exact Below.refl _ _
    · exact Lib.bytesWorld_below _ _ _
  · obtain ⟨t, p, hc⟩ := hL.syn
    exact (Any.strconv_ParseInt_10_at64_syntax Tryz.laysc174 s hs h (.iface t p) w (hw.cell hc) (.inr ⟨t, p, rfl⟩)).mono fun e w' ⟨N, he, _, _, hB⟩ => ⟨_, he, ⟨_, _, rfl, .inr ⟨(by simp), _, _, rfl⟩⟩, hB⟩
  · obtain ⟨t, p, hc⟩ := hL.rng
    exact (Any.strconv_ParseInt_10_at64_range Tryz.laysc174 s hs h (.iface t p) w (hw.cell hc) (.inr ⟨t, p, rfl⟩)).mono fun e w' ⟨N, he, _, _, hB⟩ => ⟨_, he, ⟨_, _, rfl, .inr ⟨(by simp), _, _, rfl⟩⟩, hB⟩
theorem l_cut {s sep : ByteArray} (hs : s.size < 4294967281) : SpecV Tryz.prog 67 [.string s, .string sep] H fun v =>
    v = .tuple #[str (Lib.cut s.data.toList sep.data.toList).1, str (Lib.cut s.data.toList sep.data.toList).2.1, .bool (Lib.cut s.data.toList sep.data.toList).2.2] := fun w hw => by
  obtain ⟨m, hm⟩ := hL.max
  exact (Any.strings_Cut Tryz.lays145 s sep m w hs (hw.cell hm)).mono fun e w' ⟨he, n, hw'⟩ => ⟨_, he, rfl, by rw [hw']; exact ⟨rfl, rfl, rfl, Nat.le_refl _, fun _ _ => rfl⟩⟩
theorem l_index {s sep : ByteArray} (hs : s.size < 4294967281) : SpecV Tryz.prog 110 [.string s, .string sep] H fun v => v = .int .i64 (Lib.index s.data.toList sep.data.toList) := fun w hw => by
  obtain ⟨m, hm⟩ := hL.max
  exact (Any.strings_Index { Tryz.lays146 with } s sep m w hs (hw.cell hm)).mono fun e w' ⟨he, hw'⟩ => ⟨_, he, rfl, by rw [hw']; exact Below.refl _ _⟩
omit hL in
theorem l_prefix {s p : ByteArray} : SpecV Tryz.prog 103 [.string s, .string p] H fun v => v = .bool (Lib.hasPrefix s.data.toList p.data.toList) := fun w hw =>
  (Any.strings_HasPrefix Tryz.lays99 s p w).mono fun e w' ⟨he, hw'⟩ => ⟨_, he, rfl, by rw [hw']; exact Below.refl _ _⟩
omit hL in
theorem l_cutPrefix {s p : ByteArray} : SpecV Tryz.prog 98 [.string s, .string p] H fun v => v = .tuple #[str (Lib.trimPrefix s.data.toList p.data.toList), .bool (Lib.hasPrefix s.data.toList p.data.toList)] := fun w hw =>
  (Any.strings_CutPrefix Tryz.lays103 s p w).mono fun e w' ⟨he, hw'⟩ => ⟨_, he, rfl, by rw [hw']; exact Below.refl _ _⟩
/-- A text split at a byte. -/
theorem l_split {s : ByteArray} {c : UInt8} (hs : s.size < 4294967281) : Spec Tryz.prog 96 [.string s, .string ⟨#[c]⟩] H fun v H' =>
    ∃ (g n : Nat), v = .slice (some ⟨g, 0, none⟩) n n ∧ Sl RStr 1 H' (some ⟨g, 0, none⟩) n (cuts c s.data.toList) := fun w hw hb => by
  obtain ⟨m, hm⟩ := hL.max
  have one : 1 ≤ (⟨#[c]⟩ : ByteArray).size := Nat.le_refl 1
  refine (Any.strings_Split Tryz.lays146 (by kernel_rfl) s ⟨#[c]⟩ m w hs (hw.cell hm) one).mono fun e w' ⟨he, hw'⟩ => ?_
  have hn : H w.heap.size = none := by
    cases hk : H w.heap.size with
    | none => rfl
    | some k => exact absurd (hw.lt hk) (by omega)
  have hcnt : Lib.countB s ⟨#[c]⟩ = s.data.toList.count c := by rw [← Lib.count_one]
  have hdata : (Lib.splitB ⟨#[c]⟩ 0 (Lib.countB s ⟨#[c]⟩) s).map (·.data.toList) = cuts c s.data.toList := by
    rw [Lib.splitB_data, hcnt]; exact splitK_cuts c _ _ rfl
  have hlen : (cuts c s.data.toList).length = Lib.countB s ⟨#[c]⟩ + 1 := by
    rw [← hdata, List.length_map]; exact Lib.splitB_all _ one 0 _ s rfl
  have hmap : (Lib.splitB ⟨#[c]⟩ 0 (Lib.countB s ⟨#[c]⟩) s).map Value.string = (cuts c s.data.toList).map str := by
    rw [← hdata, List.map_map]; rfl
  have hle := Lib.countB_le ⟨#[c]⟩ one s.size s (Nat.le_refl _)
  rw [hmap] at hw'
  have hwsz : w'.heap[w.heap.size]? = some (.cells ((cuts c s.data.toList).map str).toArray 9 (0, 0)) := by
    rw [hw']; show (w.heap.push _)[w.heap.size]? = _; simp; rfl
  have hB : BelowX [] w w' := by rw [hw']; exact BelowX.alloc [] w _
  refine ⟨_, [], fun b => if b = w.heap.size then some (boxKB 9 ((cuts c s.data.toList).map str)) else H b, he, rfl, hB, fun b k hk => ?_, ⟨fun _ hx => (by cases hx), fun _ hx => (by cases hx), by simp [setAll]⟩, ⟨fun b k hk => ?_, fun b k hk hn' => ?_⟩, w.heap.size, _, rfl, ?_⟩
  · by_cases e1 : b = w.heap.size
    · subst e1
      simp only [if_pos] at hk
      obtain rfl := Option.some.inj hk
      exact ⟨_, _, hwsz, by simp [boxKB], fun _ => rfl, fun j v hj => by simpa [boxKB] using hj⟩
    · simp only [if_neg e1] at hk
      rw [hB.block b (hw.lt hk) (by simp)]
      exact hw b k hk
  · have e1 : b ≠ w.heap.size := fun e1 => by rw [e1, hn] at hk; cases hk
    simp only [if_neg e1]; exact hk
  · by_cases e1 : b = w.heap.size
    · omega
    · simp only [if_neg e1] at hk; rw [hk] at hn'; cases hn'
  · refine ⟨hlen, by omega, fun _ => ⟨_, 0, rfl, fun i x hx => ⟨[str x], rfl, fun j v hj => ?_⟩⟩⟩
    cases j with
    | zero =>
      simp only [List.getElem?_cons_zero, Option.some.injEq] at hj
      subst hj
      unfold Heap.cell
      simp [boxKB, hx]
    | succ j => simp at hj
omit hL in
/-- Words joined, a text between. -/
theorem l_join {a : Option Addr} {n c : Nat} {ws : List (List UInt8)} {b : UInt8} (h : Sl RStr 1 H a n ws) (hc : n ≤ c) (hn : n ≤ 1000000) (hl : (joinB b ws).length ≤ 140737488355328) :
    SpecV Tryz.prog 94 [.slice a n c, .string ⟨#[b]⟩] H fun v => v = str (joinB b ws) := fun w hw => by
  have hX : Builder.Extra Tryz.prog Tryz.lays156_ren := {
    sizeBuilder := by kernel_rfl
    liesBuilder := by kernel_rfl
    t5 := Tryz.underlying5
    a5 := Tryz.isAgg5
    z5 := Tryz.sizeOf5
    v5 := Tryz.zeroValue5
    infoByte := by kernel_rfl
    cellsByte := by kernel_rfl
    sizeByte := by kernel_rfl
    neB5 := by decide }
  have hjoin : ∀ ws : List (List UInt8), Lib.join ws [b] = joinB b ws := fun ws => by
    cases ws with
    | nil => rfl
    | cons x r =>
      rw [Lib.join_cons]
      unfold Lib.joinTail
      show x ++ (List.map (fun y => [b] ++ y) r).flatten = x ++ r.flatMap fun y => b :: y
      rw [List.flatMap_def]
      rfl
  have hlen := h.len
  match ws, hlen, h with
  | [], hlen, h =>
    obtain rfl : n = 0 := by simpa using hlen.symm
    exact (Any.strings_Join_none Tryz.lays156 hX a c ⟨#[b]⟩ w).mono fun e w' ⟨he, hw'⟩ => ⟨_, he, rfl, by rw [hw']; exact Below.refl _ _⟩
  | [x], hlen, h =>
    obtain rfl : n = 1 := by simpa using hlen.symm
    obtain ⟨bk, o, rfl, hcell⟩ := h.at_ (by omega)
    obtain ⟨r, hr, hv⟩ := hcell 0 x rfl
    obtain rfl := hr
    have := hw.cell (hv 0 _ rfl)
    refine (Any.strings_Join_one Tryz.lays156 hX bk o c ⟨x.toArray⟩ ⟨#[b]⟩ w (by simpa [str] using this)).mono fun e w' ⟨he, hw'⟩ => ⟨_, he, ?_, by rw [hw']; exact Below.refl _ _⟩
    simp [str, joinB]
  | x :: y :: r, hlen, h =>
    obtain ⟨bk, o, rfl, hcell⟩ := h.at_ (by simp at hlen; omega)
    have hbk : bk < w.heap.size := by
      obtain ⟨r, hr, hv⟩ := hcell 0 x rfl
      obtain rfl := hr
      have := hv 0 _ rfl
      unfold Heap.cell at this
      cases hk : H bk with
      | none => rw [hk] at this; cases this
      | some k => exact hw.lt hk
    have hm : ((x :: y :: r).map fun l => (⟨l.toArray⟩ : ByteArray)).map (·.data.toList) = x :: y :: r := by
      rw [List.map_map]; exact List.map_id'' (fun _ => rfl) _
    have := Any.strings_Join_many Tryz.lays156 hX bk o c ((x :: y :: r).map fun l => (⟨l.toArray⟩ : ByteArray)) ⟨#[b]⟩ w (fun j z hz => by
      rw [List.getElem?_map] at hz
      cases hj : (x :: y :: r)[j]? with
      | none => rw [hj] at hz; cases hz
      | some l =>
        rw [hj] at hz
        obtain rfl := Option.some.inj hz
        obtain ⟨q, hq, hv⟩ := hcell j l hj
        obtain rfl := hq
        have := hw.cell (hv 0 _ rfl)
        simpa [str] using this) hbk (by simp) (by rw [List.length_map, hlen]; omega) (by rw [List.length_map, hlen]; exact hc) (by rw [hm]; rw [show (⟨#[b]⟩ : ByteArray).data.toList = [b] from rfl, hjoin]; exact hl)
    rw [hm] at this
    rw [show (⟨#[b]⟩ : ByteArray).data.toList = [b] from rfl, hjoin] at this
    rw [List.length_map] at this
    rw [← hlen]
    exact this.mono fun e w' ⟨he, hB⟩ => ⟨_, he, rfl, hB⟩
end
end Go.Vg
