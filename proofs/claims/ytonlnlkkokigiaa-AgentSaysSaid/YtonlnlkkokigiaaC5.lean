/- What is proved here: the contract of the law WaveOn. -/
import Derived.Test.YtonlnlkkokigiaaC3
import Derived.Test.YtonlnlkkokigiaaRp4
set_option linter.unusedSimpArgs false
set_option maxRecDepth 100000
set_option linter.unusedVariables false
namespace Go.Vg
open Go Go.Proofs
def boolIdx (f : Int → Bool) : Int → List Int → Int
  | _, [] => -1
  | i, x :: r => if f x then i else boolIdx f (i + 1) r
theorem boolIdx_any (f : Int → Bool) : ∀ (l : List Int) (i : Int), 0 ≤ i → (0 ≤ boolIdx f i l ↔ l.any f = true)
  | [], i, _ => by simp [boolIdx]
  | x :: r, i, h => by
    unfold boolIdx
    split
    · rename_i e; simp [h, e]
    · rename_i e; rw [boolIdx_any f r (i + 1) (by omega)]; simp [e]
theorem cNotThrough {H : Heap} {a a' : Option Addr} {l c l' c' : Nat} {w : List Int} {th : List Bool} {p : Nat} (hw : Sl RInt 1 H a l w) (ht : Sl RBool 1 H a' l' th) (hp : H.cell p 0 = some (.slice a' l' c')) (hin : ∀ x ∈ w, 0 ≤ x ∧ x < l') :
    Spec Try.prog 30 [.slice a l c, .func (.func 31) #[] #[.pointer (some ⟨p, 0, none⟩)]] H fun v _ => v = .bool (w.any (notThrough th)) := by
  have h31 : ∀ {H : Heap} {x : Int}, Sl RBool 1 H a' l' th → H.cell p 0 = some (.slice a' l' c') → 0 ≤ x ∧ x < l' → Spec Try.prog 31 [i64 x, .pointer (some ⟨p, 0, none⟩)] H fun v _ => v = .bool (notThrough th x) := by
    intro H x ht hp hx
    refine Tryvc Try.func31 (by kernel_rfl) (by kernel_rfl) _ rfl (fun base K => vc31 x p base H K) fun base hb => ⟨a', l', c', hp, ht.bool (Ext.refl _) hx.1 hx.2 fun y hy => ?_⟩
    cases y <;> simp [notThrough, hy]
  have h106 : Spec Try.prog 106 [.slice a l c, .func (.func 31) #[] #[.pointer (some ⟨p, 0, none⟩)]] H fun v _ => v = i64 (boolIdx (notThrough th) 0 w) := by
    refine Tryvc Try.func106 (by kernel_rfl) (by kernel_rfl) _ rfl (fun base K => vc106 a l c p base H K) fun base hb => ?_
    have hle := hw.le
    refine ⟨fun vs _ => ∃ (d : Int) (i : Nat), vs = [i64 d, i64 i] ∧ i ≤ l ∧ boolIdx (notThrough th) i (w.drop i) = boolIdx (notThrough th) 0 w, upTo l 1, ⟨0, 0, rfl, by omega, rfl⟩, fun d n H' hN hI => ?_⟩
    obtain ⟨d', i, hvs, hi, hI⟩ := hI
    obtain ⟨rfl, rfl⟩ : d = d' ∧ n = (i : Int) := by simpa using hvs
    refine ⟨fun hlt => hw.int hN.ext (by omega) hlt fun x hx => ?_, fun hge => ?_⟩
    · rw [Int.toNat_natCast] at hx
      rw [drop_at hx, boolIdx] at hI
      refine (h31 (ht.ext RBool.mono hN.ext) (Heap.cell_next hN.ext hp) (hin x (List.mem_of_getElem? hx))).bool1 fun H2 _ _ => ⟨fun h => ?_, fun h => ?_⟩
      · rw [if_pos h] at hI; rw [← hI]
      · rw [if_neg (by simp [h])] at hI
        rintro r rfl
        rw [wrap_in (by omega) (by omega)]
        exact ⟨⟨_, i + 1, rfl, by omega, hI⟩, by simp [upTo]; omega⟩
    · rw [← hI, drop_all hw.len (by omega), boolIdx]
  refine Tryvc Try.func30 (by kernel_rfl) (by kernel_rfl) _ rfl (fun base K => vc30 a l c p base H K) fun base hb => ?_
  refine h106.int1 fun H' _ _ => ?_
  have := boolIdx_any (notThrough th) w 0 (by omega)
  cases hany : w.any (notThrough th)
  · rw [decide_eq_false (by rw [this, hany]; simp)]
  · rw [decide_eq_true (this.2 hany)]
theorem cCloneBools {H : Heap} {a : Option Addr} {l c : Nat} {th : List Bool} (ht : Sl RBool 1 H a l th) (hl : l ≤ 100000) : Spec Try.prog 32 [.slice a l c] H fun v H' => ∃ a n c, v = .slice a n c ∧ Fresh H H' 4 1 a n c (th.map Value.bool) := by
  have he : ∀ {H a n} {xs : List Bool}, Sl RBool 1 H a n xs → Sl (REnc fun x : Bool => [Value.bool x]) 1 H a n xs := fun h => h
  have hf : ∀ xs : List Bool, xs.flatMap (fun x : Bool => [Value.bool x]) = xs.map Value.bool := fun xs => by induction xs with | nil => rfl | cons x r ih => simp [ih]
  refine Tryvc Try.func32 (by kernel_rfl) (by kernel_rfl) _ rfl (fun base K => vc32 a l c base H K) fun base hb => ⟨_, eqNil Try.underlying28, fun h => ?_, fun h => ?_⟩
  · obtain rfl : a = none := by cases a <;> simp at h ⊢
    obtain ⟨_, rfl⟩ := ht.addr_nil
    exact ⟨none, 0, 0, rfl, rfl, by omega, by decide, .inl ⟨rfl, rfl⟩⟩
  · intro g H1 hN1 _ hg
    obtain ⟨hc1, hc2⟩ := (he ht).cells (enc := fun x : Bool => [Value.bool x]) (sz := 1) (fun _ => rfl) hN1.ext
    rw [hf] at hc1 hc2
    refine ⟨[], th.map Value.bool, ⟨rfl, by omega, by decide, .inl ⟨rfl, rfl⟩⟩, hc1, ?_, hc2, by omega, by omega, fun a3 c3 H3 hG hR => ⟨_, _, _, rfl, hR.fresh hb⟩⟩
    rw [← hf]; exact allOne_flat (fun _ => rfl) th
def atP (k n : Int) : Int := if k.tmod n < 0 then k.tmod n + n else k.tmod n
theorem atP_range (k : Int) {n : Int} (h : 0 < n) : 0 ≤ atP k n ∧ atP k n < n := by
  unfold atP
  have h1 := Int.tmod_lt_of_pos k h
  have h2 : -n < k.tmod n := by
    have := Int.lt_tmod_of_pos k h
    omega
  split <;> omega
theorem cAt {H : Heap} (k n : Int) (h : 0 < n) (h' : n ≤ 9223372036854775807) : Spec Try.prog 33 [i64 k, i64 n] H fun v _ => v = i64 (atP k n) := by
  have hr := atP_range k h
  refine Tryvc Try.func33 (by kernel_rfl) (by kernel_rfl) _ rfl (fun base K => vc33 k n base H K) fun base hb => ⟨by omega, fun h1 => ?_, fun h1 => ?_⟩
  · rintro r rfl
    unfold atP at hr ⊢
    rw [if_pos h1] at hr ⊢
    rw [wrap_in (by omega) (by omega)]
  · unfold atP; rw [if_neg h1]
theorem waveNow_spec {ws : List (List Int)} {th : List Bool} (h : waveCheck ws th.length = 0) : ∃ n : Nat, waveNow ws th = n ∧ IsNow ws th n := by
  obtain ⟨n, hn, hI⟩ := nowFrom_spec th ws 0
  exact ⟨n, by rw [waveNow, if_pos h, hn]; omega, hI⟩
theorem now_rises {ws : List (List Int)} {th th' : List Bool} {n m : Nat} (h : IsNow ws th n) (h' : IsNow ws th' m) (hs : ∀ a, notThrough th' a = true → notThrough th a = true) : n ≤ m := by
  rcases Nat.lt_or_ge m n with c | c
  · exfalso
    obtain ⟨w, hw, a, ha, hx⟩ := h'.here (by have := h.le; omega)
    have := h.ahead m w hw c a ha
    rw [hs a hx] at this
    cases this
  · exact c
theorem cWaveOn {H : Heap} {a a' : Option Addr} {l c l' c' : Nat} {ws : List (List Int)} {th : List Bool} (hx : Waves H a l ws) (ht : Sl RBool 1 H a' l' th) (agent : Int) :
    Spec Try.prog 5 [.slice a l c, .slice a' l' c', i64 agent] H fun v _ => v = .bool true := by
  refine Tryvc Try.func5 (by kernel_rfl) (by kernel_rfl) _ rfl (fun base K => vc5 a a' l c l' c' agent base H K) fun base hb => ?_
  have hxle := hx.le
  have hxl := hx.len
  have htl := ht.len
  intro bx
  refine (cWaveNow hx ht).int2 fun H1 e1 _ => cWaved.bool1 fun H2 e2 _ => ⟨fun h => by simp at h, fun _ => ⟨fun h => cWaved.bool1 fun H3 _ _ => rfl, fun h => ?_⟩⟩
  have hz := Decidable.not_not.1 h
  obtain ⟨k1, k2, hnd, hin, hne⟩ := waveCheck_zero hz
  obtain ⟨n, hn, hI⟩ := waveNow_spec hz
  rw [hn]
  refine ⟨fun vs Hc => ∃ (b : Bool) (i : Nat), vs = [.bool b, i64 i] ∧ i ≤ l, upTo l 1, ⟨false, 0, rfl, by omega⟩, fun b m H' hN hI2 => ?_⟩
  obtain ⟨b', i, hvs, hi⟩ := hI2
  obtain ⟨rfl, rfl⟩ : b = b' ∧ m = (i : Int) := by simpa using hvs
  refine ⟨fun hlt => hx.slice hN.ext (by omega) hlt fun w a3 n3 c3 hw hs => ⟨rfl, fun Hl hNl hbx => ?_⟩, fun hge => ?_⟩
  · rw [Int.toNat_natCast] at hw
    refine (cNotThrough ((hs.ext RInt.mono hN.ext).ext RInt.mono hNl.ext) ((ht.ext RBool.mono hN.ext).ext RBool.mono hNl.ext) (by unfold Heap.cell; rw [hbx.1]; rfl)
      (fun x hx => by have := (hin x).1 (List.mem_flatten.2 ⟨w, List.mem_of_getElem? hw, hx⟩); omega)).mono fun v H4 e4 hv => ⟨_, hv, fun H5 hN5 _ => ?_⟩
    have next : ∀ (r : Int), r = IntKind.wrap .i64 ((i : Int) + 1) → ([[Value.slice a' l' c']] = [[Value.slice a' l' c']]) ∧ (∃ (b_1 : Bool) (i : Nat), [Value.bool b, Value.int .i64 r] = [.bool b_1, i64 i] ∧ i ≤ l) ∧ upTo l 1 [Value.bool b, Value.int .i64 r] < upTo l 1 [Value.bool b, Value.int .i64 (i : Int)] := by
      rintro r rfl
      rw [wrap_in (by omega) (by omega)]
      exact ⟨rfl, ⟨b, i + 1, rfl, by omega⟩, by simp [upTo]; omega⟩
    have hopen : (i < n → w.any (notThrough th) = false) ∧ (i = n → w.any (notThrough th) = true) := by
      refine ⟨fun h => ?_, fun h => ?_⟩
      · rw [List.any_eq_false]
        intro x hx
        rw [hI.ahead i w hw h x hx]; simp
      · subst h
        obtain ⟨w', hw', x, hx, hy⟩ := hI.here (by omega)
        rw [hw] at hw'
        obtain rfl := Option.some.inj hw'
        exact List.any_eq_true.2 ⟨x, hx, hy⟩
    refine ⟨fun h1 => ⟨fun h2 => ?_, fun h2 => ⟨fun h3 => ⟨fun h4 => ?_, fun h4 => next⟩, fun h3 => next⟩⟩, fun h1 => ⟨fun h3 => ⟨fun h4 => ?_, fun h4 => next⟩, fun h3 => next⟩⟩
    · have := hopen.1 (by omega); rw [this] at h2; cases h2
    · omega
    · have := hopen.2 (by omega); rw [this] at h4; cases h4
  · refine (cCloneBools (ht.ext RBool.mono hN.ext) (by omega)).slF fun a3 n3 c3 H3 e3 hN3 hR => ?_
    have hn3 : n3 = l' := by have := hR.1; simp at this; omega
    subst hn3
    refine (cAt agent n3 (by omega) (by omega)).int1 fun H4 e4 hN4 => ?_
    have hat := atP_range agent (n := (n3 : Int)) (by omega)
    obtain ⟨b4, k4, hb4, hbase, hc4, hH4, hf4, hs4, _⟩ := (hR.ext e4).block (by omega)
    refine ⟨b4, 0, hb4, hat.1, hat.2, _, hH4, hf4, hbase, ?_, fun H5 hu => ?_⟩
    · have := hR.2.1
      rw [hs4]; omega
    have hR5 := (hR.ext e4).upd hb4 hc4 hH4 (o := 0 + (atP agent n3).toNat * 1) (vs := [.bool true]) (by rw [List.length_map, htl]; show 0 + (atP agent n3).toNat * 1 + 1 ≤ n3; omega) hu
    have hset : setRange (th.map Value.bool) (0 + (atP agent n3).toNat * 1) [.bool true] = (th.set (atP agent n3).toNat true).map Value.bool := by
      simp [setRange, List.map_set]
    rw [hset] at hR5
    have hf : ∀ xs : List Bool, xs.flatMap (fun x : Bool => [Value.bool x]) = xs.map Value.bool := fun xs => by induction xs with | nil => rfl | cons x r ih => simp [ih]
    have ht5 : Sl RBool 1 H5 a3 n3 (th.set (atP agent n3).toNat true) := sl_of_rowE (enc := fun x : Bool => [Value.bool x]) (sz := 1) (fun _ => rfl) Nat.one_pos (by rw [hf]; exact hR5)
    have hx5 : Waves H5 a l ws := hx.ext' (hu.ext hb (fun b k h => e4 b k (e3 b k (hN.ext b k h))) hbase)
    have hz5 : waveCheck ws (th.set (atP agent n3).toNat true).length = 0 := by rw [List.length_set]; exact hz
    obtain ⟨m, hm, hI5⟩ := waveNow_spec hz5
    refine (cWaveNow hx5 ht5).int2 fun H6 e6 _ => ?_
    rw [hm, hz5]
    have hle := now_rises hI hI5 (fun x hx => by
      simp only [notThrough, beq_iff_eq, List.getElem?_set] at hx ⊢
      split at hx
      · split at hx <;> simp at hx
      · exact hx)
    have := hI5.le
    refine ⟨fun _ => ⟨fun _ => ?_, fun h => absurd (by omega) h⟩, fun h => absurd rfl h⟩
    rw [decide_eq_true (by omega)]
end Go.Vg
