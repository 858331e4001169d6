/- What is proved here: what slices.Insert (of one pin) and slices.Delete make of a slice of the caller's own. -/
import Derived.Test.YtglnjkkaojhgnaaGreatDoorOwn
import Derived.Test.YtglnjkkaojhgnaaGreatDoorVi
import Derived.Lib.Overlaps
import Derived.Laws.Externs
set_option maxRecDepth 100000
set_option linter.unusedSimpArgs false
set_option linter.unusedVariables false
namespace Go.Vg
open Go Go.Proofs
/-! ### What a row's cells are -/
theorem Row.cellsAt {base : Nat} {H : Heap} {e : TypeId} {sz : Nat} {g n c : Nat} {xs : List Value} (h : Row base H e sz (some ⟨g, 0, none⟩) n c xs) {k : Nat} (hk : k ≤ xs.length) (hn : 0 < n) : cellsAt H g k 0 (xs.drop k) := by
  obtain ⟨b, kb, ha, _, _, hH, _, _, hc⟩ := h.block hn
  obtain rfl : g = b := by simpa using ha
  refine cellsAt_of _ 0 fun j v hj => ?_
  rw [List.getElem?_drop] at hj
  unfold Heap.cell
  rw [hH]
  have := hc _ v hj
  rw [Nat.zero_add]; exact this
theorem box_cellsAt {H : Heap} {g : Nat} {e : TypeId} {cs : List Value} (h : H g = some (boxKB e cs)) : Vg.cellsAt H g 0 0 cs :=
  cellsAt_of _ 0 fun j v hj => by unfold Heap.cell; rw [h]; simpa [boxKB] using hj
theorem allOne_mem {xs : List Value} : allOne xs = true ↔ ∀ v ∈ xs, v.oneCell' = true := by
  induction xs with
  | nil => simp [allOne]
  | cons x r ih => simp [allOne, ih]
theorem allOne_drop {xs : List Value} (h : allOne xs = true) (k : Nat) : allOne (xs.drop k) = true := allOne_mem.2 fun v hv => allOne_mem.1 h v (List.mem_of_mem_drop hv)
/-- Behind a store past what is known of a row. -/
theorem Row.past {base : Nat} {H H' : Heap} {e : TypeId} {sz : Nat} {a : Option Addr} {n c b o : Nat} {k : KB} {xs vs : List Value} (h : Row base H e sz a n c xs) (ha : a = some ⟨b, 0, none⟩) (hc : c ≠ 0) (hk : H b = some k) (ho : xs.length ≤ o) (hu : Upd H b o k vs H') : Row base H' e sz a n c xs := by
  obtain ⟨h1, h2, h3, h4⟩ := h
  rcases h4 with ⟨_, h5⟩ | ⟨g, k', hg, hbg, hH, h6, h7, h8, h9⟩
  · exact absurd h5 hc
  · rw [ha] at hg
    simp only [Option.some.injEq, Addr.mk.injEq, and_true] at hg
    subst hg
    rw [hk] at hH
    obtain rfl := Option.some.inj hH
    refine ⟨h1, h2, h3, .inr ⟨b, _, ha, hbg, hu.here, h6, h7, h8, fun j v hv => ?_⟩⟩
    have hj := (List.getElem?_eq_some_iff.1 hv).1
    simp only [updCells]
    rw [if_neg (by omega)]
    exact h9 j v hv
theorem Grew.refl {base : Nat} {H : Heap} {a : Option Addr} {c nn : Nat} : Grew base H H a c a c nn :=
  ⟨fun _ _ h _ => h, fun x k h h' => by (rw [h] at h'; cases h'), fun hc _ _ => .inr ⟨rfl, hc⟩, fun _ => ⟨rfl, rfl⟩⟩
theorem Grew.upd {base : Nat} {H H' H'' : Heap} {a : Option Addr} {c nn b o : Nat} {k : KB} {vs : List Value} (h : Grew base H H' a c a c nn) (ha : a = some ⟨b, 0, none⟩) (hc : c ≠ 0) (hk : H' b = some k) (hu : Upd H' b o k vs H'') : Grew base H H'' a c a c nn :=
  ⟨fun x kx hx hne => by
    have hb : x ≠ b := fun e => by
      subst e
      rcases hne with hne | hne
      · exact hc hne
      · exact hne ha
    rw [hu.there x hb]; exact h.keep x kx hx hne, fun x kx hx hn => by
    by_cases e : x = b
    · subst e; exact h.fresh x k hk hn
    · rw [hu.there x e] at hx; exact h.fresh x kx hx hn, h.place, h.room⟩
/-! ### slices.Delete -/
def delF (base sz : Nat) (e : TypeId) (bytes : Nat) (z : List Value) (own : List Bx) (H : Heap) (f : SV → List Bx → Heap → Prop) (a : Option Addr) (n c : Nat) (i j : Int) : Prop :=
  0 ≤ i ∧ i ≤ j ∧ j ≤ (↑n : Int) ∧ (↑n : Int) ≤ (↑c : Int) ∧ ∀ (a' : Option Addr), (i < (↑n : Int) → a' = Option.map (fun (ad : Addr) => Addr.add ad (Int.toNat i * sz)) a) → (i = j → f (SV.v (Value.slice a n c)) own H) ∧ (¬i = j → 0 ≤ i ∧
  i ≤ (↑c : Int) ∧ 0 ≤ j ∧ j ≤ (↑n : Int) ∧ n ≤ c ∧ ∀ (a' : Option Addr), (j < (↑c : Int) → a' = Option.map (fun (ad : Addr) => Addr.add ad (Int.toNat j * sz)) a) → ∃ (xs : List Value), ∃ (cells : List Value), Row base H e sz a (Int.toNat
  i) c xs ∧ List.length cells = (n - Int.toNat j) * sz ∧ allOne cells = true ∧ (n - Int.toNat j = 0 ∨ ∃ (b : Nat), ∃ (o : Nat), a' = some (Addr.mk b o none) ∧ cellsAt H b o 0 cells) ∧ (Int.toNat i + (n - Int.toNat j)) * bytes ≤
  140737488355328 ∧ Int.toNat i + (n - Int.toNat j) ≤ 9223372036854775807 ∧ ∀ (a' : Option Addr) (c' : Nat) (H' : Heap), Grew base H H' a c a' c' (Int.toNat i + (n - Int.toNat j)) → Row base H' e sz a' (Int.toNat i + (n - Int.toNat j)) c' (xs ++ cells) → 0 ≤ (↑(Int.toNat
  i + (n - Int.toNat j)) : Int) ∧ (↑(Int.toNat i + (n - Int.toNat j)) : Int) ≤ (↑n : Int) ∧ (↑n : Int) ≤ (↑c' : Int) ∧ ∀ (a'_1 : Option Addr), ((↑(Int.toNat i + (n - Int.toNat j)) : Int) < (↑c' : Int) → a'_1 = Option.map (fun (ad : Addr)
  => Addr.add ad (Int.toNat (↑(Int.toNat i + (n - Int.toNat j)) : Int) * sz)) a') → (Int.toNat (↑n : Int) - Int.toNat (↑(Int.toNat i + (n - Int.toNat j)) : Int) = 0 → f (SV.v (Value.slice a' (Int.toNat i + (n - Int.toNat j)) c')) own H')
  ∧ (Int.toNat (↑n : Int) - Int.toNat (↑(Int.toNat i + (n - Int.toNat j)) : Int) ≠ 0 → ∃ (b : Nat), ∃ (o : Nat), ∃ (k : KB), a'_1 = some (Addr.mk b o none) ∧ H' b = some k ∧ KB.free k = true ∧ base ≤ b ∧ o + (Int.toNat (↑n : Int) -
  Int.toNat (↑(Int.toNat i + (n - Int.toNat j)) : Int)) * sz ≤ KB.size k ∧ ∀ (H'_1 : Heap), Upd H' b o k (List.flatten (List.replicate (Int.toNat (↑n : Int) - Int.toNat (↑(Int.toNat i + (n - Int.toNat j)) : Int)) z)) H'_1 → f (SV.v (Value.slice a' (Int.toNat i + (n - Int.toNat j)) c')) own H'_1))
def delP (base sz : Nat) (e : TypeId) (own : List Bx) (H : Heap) (f : SV → List Bx → Heap → Prop) (a : Option Addr) (n c : Nat) (i j : Int) : Prop :=
  ∃ (xs : List Value) (k m : Nat), i = (k : Int) ∧ j = (m : Int) ∧ k ≤ m ∧ m ≤ n ∧ n ≤ 1000000 ∧ Row base H e sz a n c xs ∧ allOne xs = true ∧
    ∀ H', Grew base H H' a c a c (k + (n - m)) → Row base H' e sz a (k + (n - m)) c (xs.take (k * sz) ++ xs.drop (m * sz)) → f (.v (.slice a (k + (n - m)) c)) own H'
theorem del_sum {base sz : Nat} {e : TypeId} {bytes : Nat} (hb : bytes ≤ 100000) {z : List Value} {own : List Bx} {H : Heap} {f : SV → List Bx → Heap → Prop} {a : Option Addr} {n c : Nat} {i j : Int} (h : delP base sz e own H f a n c i j) : delF base sz e bytes z own H f a n c i j := by
  obtain ⟨xs, k, m, rfl, rfl, hkm, hmn, hn6, hR, h1, h⟩ := h
  have hnc := hR.2.1
  have hxl := hR.1
  have hmx := hR.2.2.1
  simp only [maxLen] at hmx
  unfold delF
  simp only [Int.toNat_natCast]
  refine ⟨by omega, by omega, by omega, by omega, fun a1 ha1 => ⟨fun hkm2 => ?_, fun hne => ⟨by omega, by omega, by omega, by omega, by omega, fun a2 ha2 => ?_⟩⟩⟩
  · obtain rfl : k = m := by omega
    have := h H Grew.refl (by rw [List.take_append_drop, show k + (n - k) = n from by omega]; exact hR)
    rw [show k + (n - k) = n from by omega] at this
    exact this
  have hn0 : 0 < n := by omega
  obtain ⟨b, kb, ha, hbase, hc0, hHb, hfree, hsz, hcl⟩ := hR.block hn0
  subst ha
  have hms : m * sz ≤ n * sz := Nat.mul_le_mul_right _ hmn
  have hby : (k + (n - m)) * bytes ≤ 1000000 * 100000 := Nat.mul_le_mul (by omega) hb
  refine ⟨xs.take (k * sz), xs.drop (m * sz), hR.short (by omega), by rw [List.length_drop, hxl, Nat.sub_mul], allOne_drop h1 _, ?_, by omega, by omega, fun a3 c3 H3 hG hR3 => ?_⟩
  · by_cases hz : n - m = 0
    · exact .inl hz
    · refine .inr ⟨b, m * sz, ?_, hR.cellsAt (by omega) hn0⟩
      rw [ha2 (by omega)]; simp [addr_add]
  · obtain ⟨rfl, rfl⟩ := hG.room (by omega)
    have hlt : k + (n - m) < n := by omega
    refine ⟨by omega, by omega, by omega, fun a4 ha4 => ⟨fun hz => by omega, fun _ => ?_⟩⟩
    have hR3b := hR3.2.2.2
    rcases hR3b with ⟨_, h0⟩ | ⟨g, kg, hg, hgb, hHg, _, hgs, hgf, _⟩
    · exact absurd h0 hc0
    obtain rfl : b = g := by simpa using hg
    refine ⟨b, (k + (n - m)) * sz, kg, ?_, hHg, hgf, hbase, ?_, fun H4 hu => ?_⟩
    · rw [ha4 (by omega)]; simp [addr_add]
    · rw [hgs, ← Nat.add_mul]; exact Nat.mul_le_mul_right _ (by omega)
    · exact h H4 (hG.upd rfl hc0 hHg hu) (hR3.past rfl hc0 hHg (by rw [hR3.1]; exact Nat.le_refl _) hu)
/-! ### slices.Insert -/
def insP (base : Nat) (own : List Bx) (H : Heap) (f : SV → List Bx → Heap → Prop) (a : Option Addr) (n c : Nat) (i : Int) (g : Nat) : Prop :=
  ∃ (xs cells : List Value) (k : Nat), i = (k : Int) ∧ k ≤ n ∧ n ≤ 1000000 ∧ Row base H 80 2 a n c xs ∧ allOne xs = true ∧ cells.length = 2 ∧ allOne cells = true ∧ H g = some (boxKB 80 cells) ∧ (c ≠ 0 → a ≠ some ⟨g, 0, none⟩) ∧
    ∀ a' c' H', Grew base H H' a c a' c' (n + 1) → Row base H' 80 2 a' (n + 1) c' (xs.take (k * 2) ++ cells ++ xs.drop (k * 2)) → f (.v (.slice a' (n + 1) c')) own H'
theorem overlaps_apart {H : Heap} {g b o lb cb : Nat} {k kg : KB} (hg : H g = some kg) (hgf : kg.free = true) (hb : H b = some k) (hks : k.size ≠ 0) (hne : g ≠ b) :
    ExtRuns Tryz.prog H 111 [.slice (some ⟨g, 0, none⟩) 1 1, .slice (some ⟨b, o, none⟩) lb cb] (.bool false) := fun w hw => by
  obtain ⟨cg, frg, hcg, hsg, hfg, _⟩ := hw g _ hg
  obtain rfl := hfg hgf
  obtain ⟨cb', frb, hcb, hsb, _, _⟩ := hw b _ hb
  have h48 : ∀ w, (Go.sizeOf 80).run Tryz.prog w = .ok 2 w := fun w => by have z := Tryz.sizeOf80; exact z w
  rw [run_callFunc_extern Tryz.func111 (by kernel_rfl) (by kernel_rfl) (by kernel_rfl) (e := Extern.SlicesOverlaps.overlaps #[25, 25] #[4]) (by kernel_rfl)]
  rw [Lib.run_overlaps_apart w 25 4 80 Tryz.underlying25 2 h48 ⟨g, 0, none⟩ ⟨b, o, none⟩ 1 1 lb cb hne kg.ty k.ty cg.size cb'.size (by simp [World.shape?, hcg]) (by simp [World.shape?, hcb]) (by omega) (by simp [World.frozen?, hcg]) (by simp [World.frozen?, hcg])]
  rfl
theorem ins_list {xs cells zs : List Value} {k n : Nat} (hk : k ≤ n) (hx : xs.length = n * 2) (hc : cells.length = 2) (hz : zs.length = (n + 1 - k) * 2) :
    setRange (setRange (xs.take (k * 2) ++ zs) (k * 2) cells) ((k + 1) * 2) (xs.drop (k * 2)) = xs.take (k * 2) ++ cells ++ xs.drop (k * 2) := by
  have e1 : (xs.take (k * 2)).length = k * 2 := by rw [List.length_take]; omega
  have h1 : setRange (xs.take (k * 2) ++ zs) (k * 2) cells = xs.take (k * 2) ++ setRange zs 0 cells := by
    have := setRange_app (xs := xs.take (k * 2)) (vs := cells) (ys := zs) (o := 0) (by omega)
    rw [e1, Nat.add_zero] at this
    exact this
  have h2 : setRange zs 0 cells = cells ++ zs.drop 2 := by
    rw [setRange_eq _ _ _ (by omega)]; simp [hc]
  rw [h1, h2, ← List.append_assoc]
  have h3 := setRange_app (xs := xs.take (k * 2) ++ cells) (vs := xs.drop (k * 2)) (ys := zs.drop 2) (o := 0) (by simp; omega)
  rw [show (xs.take (k * 2) ++ cells).length + 0 = (k + 1) * 2 from by simp; omega] at h3
  rw [h3, setRange_whole (by simp; omega)]
theorem ins_sum {base : Nat} {H0 : Heap} {own : List Bx} {H : Heap} {f : SV → List Bx → Heap → Prop} {a : Option Addr} {n c : Nat} {i : Int} {g : Nat} (h : insP base own H f a n c i g) :
    codeI ⟨Tryz.prog, Tryz.f84.ntmps, ⟨TryzList, TryzIn2, true⟩, base, H0⟩ Tryz.f84 [.v (.slice a n c), .v (.int .i64 i), .v (.slice (some ⟨g, 0, none⟩) 1 1)] own H f := by
  rw [vcI122]
  obtain ⟨xs, cells, k, rfl, hk, hn6, hR, hx1, hcl, hc1, hg, hga, h⟩ := h
  have hnc := hR.2.1
  have hxl := hR.1
  have hcm := hR.2.2.1
  simp only [maxLen] at hcm
  have hgc := box_cellsAt hg
  simp only [Int.toNat_natCast]
  refine ⟨by omega, by omega, hnc, fun a1 _ => ⟨fun h => absurd h (by decide), fun _ => ⟨fun hkn => ?_, fun hkn => ?_⟩⟩⟩
  · obtain rfl : k = n := by omega
    refine ⟨xs, cells, hR, by omega, hc1, .inr ⟨g, 0, rfl, hgc⟩, by omega, by omega, fun a2 c2 H2 hG hR2 => h a2 c2 H2 hG ?_⟩
    rw [List.take_of_length_le (by omega), List.drop_eq_nil_of_le (by omega), List.append_nil]
    exact hR2
  rintro r rfl
  rw [wrap_in (by omega) (by omega)]
  have hn0 : 0 < n := by omega
  obtain ⟨b, kb, ha, hbase, hc0, hHb, hfree, hsz, hcell⟩ := hR.block hn0
  subst ha
  have hgb : g ≠ b := fun e => hga hc0 (by rw [e])
  refine ⟨fun hroom => ?_, fun hroom => ?_⟩
  · refine ⟨by omega, by omega, ?_⟩
    rintro r rfl
    rw [wrap_in (by omega) (by omega)]
    rintro r rfl
    rw [wrap_in (by omega) (by omega)]
    refine ⟨xs.take (k * 2), n + 1 - k, by omega, by omega, by omega, hR.short hk, by omega, by omega, fun g1 c1 H1 hN1 hg1 hR1 => ?_⟩
    have e1 : k + (n + 1 - k) = n + 1 := by omega
    rw [e1] at hR1 ⊢
    have hne1 : g1 ≠ g := fun e => by rw [e, hg] at hg1; cases hg1
    have hne2 : g1 ≠ b := fun e => by rw [e, hHb] at hg1; cases hg1
    refine ⟨by omega, by omega, hR1.2.1, fun a2 ha2 => ⟨fun h => by omega, fun _ => ?_⟩⟩
    obtain ⟨b1, k1, hb1, hbs1, hc10, hH1, hf1, hs1, _⟩ := hR1.block (by omega)
    obtain rfl : g1 = b1 := by simpa using hb1
    have hc1n := hR1.2.1
    refine ⟨cells, g, 0, g1, k * 2, k1, by omega, hc1, rfl, cellsAt_ext hN1.ext hgc, by rw [ha2 (by omega)]; simp [addr_add], hH1, hf1, hbs1, by rw [hs1]; omega, fun H2 hu2 => ?_⟩
    rintro r rfl
    try rw [wrap_in (by omega) (by omega)]
    have hR2 := hR1.upd rfl hc10 hH1 (o := k * 2) (vs := cells) (by rw [hR1.1]; omega) hu2
    refine ⟨by omega, by omega, by omega, fun a3 ha3 => ⟨by omega, by omega, hnc, fun a4 ha4 => ⟨fun h => by omega, fun _ => ?_⟩⟩⟩
    have hHb2 : H2 b = some kb := by rw [hu2.there b (fun e => hne2 e.symm)]; exact hN1.ext b kb hHb
    have hRb2 : Row base H2 80 2 (some ⟨b, 0, none⟩) n c xs := ⟨hxl, hnc, hR.2.2.1, .inr ⟨b, kb, rfl, hbase, hHb2, by
      rcases hR.2.2.2 with ⟨h0, _⟩ | ⟨b', kb', hb', _, hH', hty, _⟩
      · omega
      · obtain rfl : b = b' := by simpa using hb'
        rw [hHb] at hH'; cases hH'; exact hty, hsz, hfree, hcell⟩⟩
    obtain ⟨b2, k2, hb2, _, _, hH2, hf2, hs2, _⟩ := hR2.block (by omega)
    obtain rfl : g1 = b2 := by simpa using hb2
    refine ⟨xs.drop (k * 2), b, k * 2, g1, (k + 1) * 2, k2, by rw [List.length_drop]; omega, allOne_drop hx1 _, by rw [ha4 (by omega)]; simp [addr_add], hRb2.cellsAt (by omega) hn0, by rw [ha3 (by omega)]; simp [addr_add]; try omega, hH2, hf2, hbs1, by rw [hs2, List.length_drop]; omega, fun H3 hu3 => ?_⟩
    have hR3 := hR2.upd rfl hc10 hH2 (o := (k + 1) * 2) (vs := xs.drop (k * 2)) (by rw [hR2.1, List.length_drop]; omega) hu3
    rw [ins_list hk hxl hcl (by simp)] at hR3
    refine h _ _ H3 ⟨fun x kx hx _ => ?_, fun x kx hx hn => ?_, fun _ x hx => ?_, fun h => by omega⟩ hR3
    · have hne : x ≠ g1 := fun e => by rw [e, hg1] at hx; cases hx
      rw [hu3.there x hne, hu2.there x hne]; exact hN1.ext x kx hx
    · by_cases e : x = g1
      · subst e; exact hbs1
      · rw [hu3.there x e, hu2.there x e] at hx; exact hN1.fresh x kx hx hn
    · obtain rfl : g1 = x := by simpa using hx
      exact .inl hg1
  · rintro r rfl
    rw [wrap_in (by omega) (by omega)]
    refine ⟨by omega, by omega, ?_⟩
    rintro r rfl
    rw [show Int.toNat ((n : Int) + 1) = n + 1 from by omega, show Int.toNat ((k : Int) + 1) = k + 1 from by omega]
    refine ⟨by omega, by omega, by omega, fun a2 ha2 => ?_⟩
    obtain rfl : a2 = some ⟨b, (k + 1) * 2, none⟩ := by rw [ha2 (by omega)]; simp [addr_add]
    refine ⟨overlaps_apart hg rfl hHb (by omega) hgb, ?_⟩
    rintro r rfl
    rw [show Int.toNat ((k : Int) + 1) = k + 1 from by omega]
    refine ⟨by omega, by omega, by omega, fun a3 ha3 => ⟨by omega, by omega, by omega, fun a4 ha4 => ⟨fun h => by omega, fun _ => ?_⟩⟩⟩
    have hm : min (n + 1 - k) (n + 1 - (k + 1)) = n - k := by omega
    refine ⟨xs.drop (k * 2), b, k * 2, b, (k + 1) * 2, kb, by rw [List.length_drop, hm]; omega, allOne_drop hx1 _, by rw [ha4 (by omega)]; simp [addr_add], hR.cellsAt (by omega) hn0, by rw [ha3 (by omega)]; simp [addr_add], hHb, hfree, hbase, by rw [hsz, List.length_drop]; omega, fun H3 hu3 => ⟨by omega, by omega, by omega, fun a5 ha5 => ⟨fun h => by omega, fun _ => ?_⟩⟩⟩
    have hm1 : min 1 (n + 1 - k) = 1 := by omega
    refine ⟨cells, g, 0, b, k * 2, _, by rw [hm1]; omega, hc1, rfl, box_cellsAt (by rw [hu3.there g hgb]; exact hg), by rw [ha5 (by omega)]; simp [addr_add], hu3.here, hfree, hbase, by show k * 2 + cells.length ≤ kb.size; rw [hsz]; omega, fun H4 hu4 => ?_⟩
    refine h _ _ H4 (Grew.upd (Grew.upd Grew.refl rfl hc0 hHb hu3) rfl hc0 hu3.here hu4) ⟨by simp; omega, by omega, hR.2.2.1, .inr ⟨b, _, rfl, hbase, hu4.here, ?_, hsz, hfree, fun j v hj => ?_⟩⟩
    · rcases hR.2.2.2 with ⟨h0, _⟩ | ⟨b', kb', hb', _, hH', hty, _⟩
      · omega
      · obtain rfl : b = b' := by simpa using hb'
        rw [hHb] at hH'; cases hH'; exact hty
    · simp only [updCells, hcl, List.length_drop, hxl]
      rw [List.append_assoc] at hj
      by_cases c1 : j < k * 2
      · rw [List.getElem?_append_left (by simp; omega), List.getElem?_take, if_pos c1] at hj
        rw [if_neg (by omega), if_neg (by omega)]
        exact hcell j v hj
      · rw [List.getElem?_append_right (by simp; omega), show j - (xs.take (k * 2)).length = j - k * 2 from by simp; omega] at hj
        by_cases c2 : j < (k + 1) * 2
        · rw [List.getElem?_append_left (by omega)] at hj
          rw [if_pos (by omega)]; exact hj
        · rw [List.getElem?_append_right (by omega)] at hj
          have hlt := (List.getElem?_eq_some_iff.1 hj).1
          rw [List.length_drop] at hlt
          rw [if_neg (by omega), if_pos (by omega), show j - (k + 1) * 2 = j - k * 2 - cells.length from by omega]
          exact hj
end Go.Vg
