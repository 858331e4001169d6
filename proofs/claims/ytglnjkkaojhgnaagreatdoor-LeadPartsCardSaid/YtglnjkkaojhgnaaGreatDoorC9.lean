/- What is proved here: the contracts of the functions of steps between locks. -/
import Derived.Test.YtglnjkkaojhgnaaGreatDoorP9
import Derived.Test.YtglnjkkaojhgnaaGreatDoorC3
import Derived.Test.YtglnjkkaojhgnaaGreatDoorV5
import Derived.Test.YtglnjkkaojhgnaaGreatDoorRp4
import Derived.ChangeKeysEq
import Derived.Test.YtglnjkkaojhgnaaGreatDoorOwn
set_option linter.unusedSimpArgs false
set_option maxRecDepth 100000
set_option linter.unusedVariables false
namespace Go.Vg
open Go Go.Proofs
def stepCells (o : Step) : List Value := [i64 o.kind, i64 o.name, i64 o.ver]
theorem stepCells_len (o : Step) : (stepCells o).length = 3 := rfl
abbrev Steps (H : Heap) (a : Option Addr) (n : Nat) (l : List Step) : Prop := Sl (REnc stepCells) 3 H a n l
theorem Steps.ext' {H H' : Heap} {a : Option Addr} {n : Nat} {l : List Step} (h : Steps H a n l) (e : Ext H H') : Steps H' a n l := Sl.ext REnc.mono h e
theorem Sl.step {H H' : Heap} {a : Option Addr} {n : Nat} {xs : List Step} (h : Steps H a n xs) (e : Ext H H') {k : Int} (h0 : 0 ≤ k) (h1 : k < n) {F : Int → Int → Int → Prop} (hF : ∀ p, xs[k.toNat]? = some p → F p.kind p.name p.ver) :
    ∃ (b o : Nat), a = some ⟨b, o, none⟩ ∧ 0 ≤ k ∧ k < n ∧ ∃ (x y z : Int), (H'.cell b (o + k.toNat * 3) = some (.int .i64 x) ∧ H'.cell b (o + k.toNat * 3 + 1) = some (.int .i64 y) ∧ H'.cell b (o + k.toNat * 3 + 2) = some (.int .i64 z) ∧ True) ∧ F x y z := by
  obtain ⟨b, o, r, x, ha, hx, hr, hc⟩ := h.get h0 h1
  obtain rfl : r = stepCells x := hr
  exact ⟨b, o, ha, h0, h1, _, _, _, ⟨Heap.cell_next e (hc 0 _ rfl), Heap.cell_next e (hc 1 _ rfl), Heap.cell_next e (hc 2 _ rfl), trivial⟩, hF x hx⟩
/-! ### diff.Diff -/
def twoErr (a b : List Pin) : Nat → Int
  | 0 => diffErr a b
  | 1 => lockCheck b
  | _ => 0
theorem snoc_step {α : Type} (enc : α → List Value) (out : List α) (x : α) : (out ++ [x]).flatMap enc = out.flatMap enc ++ enc x := by simp
theorem steps_len {base : Nat} {H : Heap} {e : TypeId} {a : Option Addr} {n c : Nat} {xs : List Step} (h : Row base H e 3 a n c (xs.flatMap stepCells)) : xs.length = n := row_len stepCells_len (by omega) h
theorem cDiff {H : Heap} {a a' : Option Addr} {l c l' c' : Nat} {xs ys : List Pin} (hx : Pins H a l xs) (hy : Pins H a' l' ys) :
    Spec Tryz.prog 77 [.slice a l c, .slice a' l' c'] H fun v H' => ∃ a n c, v = .tuple #[.slice a n c, i64 (diffErr xs ys)] ∧ Steps H' a n (if diffErr xs ys = 0 then diffs xs ys else []) := by
  refine TryzvcJ Tryz.func77 (by kernel_rfl) (by kernel_rfl) _ rfl (fun base K => vc54 a a' l c l' c' base H K) fun base hb => ?_
  have hxl := hx.len
  have hyl := hy.len
  refine ⟨fun vs Hc => ∃ (a1 : Option Addr) (n1 c1 : Nat) (d : Int) (k : Nat), vs = [.slice a1 n1 c1, i64 d, i64 k] ∧ k ≤ 2 ∧ (0 < k → lockCheck xs = 0) ∧ (1 < k → lockCheck ys = 0), upTo 2 2, ⟨none, 0, 0, 0, 0, rfl, by omega, by omega, by omega⟩, fun a1 n1 c1 d n H' hN hI => ?_⟩
  obtain ⟨a1', n1', c1', d', k, hvs, hk, hk0, hk1⟩ := hI
  obtain ⟨⟨rfl, rfl, rfl⟩, rfl, rfl⟩ : (a1 = a1' ∧ n1 = n1' ∧ c1 = c1') ∧ d = d' ∧ n = (k : Int) := by simpa using hvs
  refine ⟨fun hlt => ⟨by omega, hlt, ?_⟩, fun hge => ?_⟩
  · by_cases k0 : k = 0
    · subst k0
      refine ⟨a, l, c, rfl, (cLockCheck (hx.ext' hN.ext)).int1 fun H1 e1 hN1 => ⟨fun h => ?_, fun h => ?_⟩⟩
      · have e : diffErr xs ys = lockCheck xs := by rw [diffErr, if_neg h]
        rw [e, if_neg h]
        exact ⟨none, 0, 0, rfl, Sl.nil⟩
      · rintro r rfl
        rw [wrap_small (by omega) (by omega)]
        exact ⟨⟨_, _, _, _, 1, rfl, by omega, fun _ => Decidable.not_not.1 h, by omega⟩, by simp [upTo]⟩
    · obtain rfl : k = 1 := by omega
      refine ⟨a', l', c', rfl, (cLockCheck (hy.ext' hN.ext)).int1 fun H1 e1 hN1 => ⟨fun h => ?_, fun h => ?_⟩⟩
      · have e : diffErr xs ys = lockCheck ys := by rw [diffErr, if_pos (hk0 (by omega))]
        rw [e, if_neg h]
        exact ⟨none, 0, 0, rfl, Sl.nil⟩
      · rintro r rfl
        rw [wrap_small (by omega) (by omega)]
        exact ⟨⟨_, _, _, _, 2, rfl, by omega, fun _ => hk0 (by omega), fun _ => Decidable.not_not.1 h⟩, by simp [upTo]⟩
  obtain rfl : k = 2 := by omega
  have hz : diffErr xs ys = 0 := by rw [diffErr, if_pos (hk0 (by omega))]; exact hk1 (by omega)
  obtain ⟨⟨hLx, hx12⟩, hLy, hy12⟩ := diffErr_zero.1 hz
  rw [hz, if_pos rfl]
  refine ⟨fun vs Hc => ∃ (out : List Step) (a1 : Option Addr) (n1 c1 : Nat) (k : Nat), vs = [.slice a1 n1 c1, i64 k] ∧ Row base Hc 91 3 a1 n1 c1 (out.flatMap stepCells) ∧ k ≤ l ∧ out.length ≤ k ∧ out ++ (xs.drop k).filterMap (dropOf ys) = drops xs ys, upTo l 1,
    ⟨[], none, 0, 0, 0, rfl, Row.nil, by omega, by simp, rfl⟩, fun a3 n3 c3 n H3 hN3 hI => ?_⟩
  obtain ⟨out, a3', n3', c3', k, hvs, hR, hk, hol, hI⟩ := hI
  obtain ⟨⟨rfl, rfl, rfl⟩, rfl⟩ : (a3 = a3' ∧ n3 = n3' ∧ c3 = c3') ∧ n = (k : Int) := by simpa using hvs
  have hon := steps_len hR
  refine ⟨fun hlt => hx.pin hN3.ext (by omega) hlt fun p hp => ?_, fun hge => ?_⟩
  · rw [Int.toNat_natCast] at hp
    rw [drop_at hp] at hI
    intro _
    refine (cFind (hy.ext' hN3.ext) p.name).int1 fun H4 e4 hN4 => ⟨fun h => ?_, fun h => ?_⟩
    · rw [List.filterMap_cons_some (b := ⟨2, p.name, 0⟩) (by rw [dropOf, if_pos h])] at hI
      refine fun _ => ⟨_, hR.ext e4, by omega, by omega, fun a5 c5 H5 hG hR5 => ?_⟩
      rintro r rfl
      rw [wrap_small (by omega) (by omega)]
      exact ⟨⟨out ++ [⟨2, p.name, 0⟩], a5, _, c5, k + 1, rfl, by rw [snoc_step]; exact hR5, by omega, by simp; omega, by simpa using hI⟩, by simp [upTo]; omega⟩
    · rw [List.filterMap_cons_none (by rw [dropOf, if_neg h])] at hI
      rintro r rfl
      rw [wrap_small (by omega) (by omega)]
      exact ⟨⟨out, _, _, _, k + 1, rfl, hR.ext e4, by omega, by omega, hI⟩, by simp [upTo]; omega⟩
  rw [drop_all hxl (by omega), List.filterMap_nil, List.append_nil] at hI
  refine ⟨fun vs Hc => ∃ (out : List Step) (a1 : Option Addr) (n1 c1 : Nat) (k : Nat), vs = [.slice a1 n1 c1, i64 k] ∧ Row base Hc 91 3 a1 n1 c1 (out.flatMap stepCells) ∧ k ≤ l' ∧ out.length ≤ k + l ∧ out ++ (ys.drop k).filterMap (addOf xs) = diffs xs ys, upTo l' 1,
    ⟨out, _, _, _, 0, rfl, hR, by omega, by omega, by rw [hI]; rfl⟩, fun a3 n3 c3 n H3 hN3 hI => ?_⟩
  obtain ⟨out, a3', n3', c3', k, hvs, hR, hk, hol, hI⟩ := hI
  obtain ⟨⟨rfl, rfl, rfl⟩, rfl⟩ : (a3 = a3' ∧ n3 = n3' ∧ c3 = c3') ∧ n = (k : Int) := by simpa using hvs
  have hon := steps_len hR
  refine ⟨fun hlt => hy.pin hN3.ext (by omega) hlt fun p hp => ?_, fun hge => ?_⟩
  · rw [Int.toNat_natCast] at hp
    rw [drop_at hp] at hI
    intro _
    refine (cFind (hx.ext' hN3.ext) p.name).int1 fun H4 e4 hN4 => ⟨fun h => ?_, fun h => ⟨fun h0 => ?_, fun h0 => ?_⟩⟩
    · rw [List.filterMap_cons_none (by rw [addOf, if_pos h])] at hI
      rintro r rfl
      rw [wrap_small (by omega) (by omega)]
      exact ⟨⟨out, _, _, _, k + 1, rfl, hR.ext e4, by omega, by omega, hI⟩, by simp [upTo]; omega⟩
    · rw [List.filterMap_cons_some (b := ⟨1, p.name, p.ver⟩) (by rw [addOf, if_neg h, if_pos h0])] at hI
      refine fun _ => ⟨_, hR.ext e4, by omega, by omega, fun a5 c5 H5 hG hR5 => ?_⟩
      rintro r rfl
      rw [wrap_small (by omega) (by omega)]
      exact ⟨⟨out ++ [⟨1, p.name, p.ver⟩], a5, _, c5, k + 1, rfl, by rw [snoc_step]; exact hR5, by omega, by simp; omega, by simpa using hI⟩, by simp [upTo]; omega⟩
    · rw [List.filterMap_cons_some (b := ⟨3, p.name, p.ver⟩) (by rw [addOf, if_neg h, if_neg h0])] at hI
      refine fun _ => ⟨_, hR.ext e4, by omega, by omega, fun a5 c5 H5 hG hR5 => ?_⟩
      rintro r rfl
      rw [wrap_small (by omega) (by omega)]
      exact ⟨⟨out ++ [⟨3, p.name, p.ver⟩], a5, _, c5, k + 1, rfl, by rw [snoc_step]; exact hR5, by omega, by simp; omega, by simpa using hI⟩, by simp [upTo]; omega⟩
  · rw [drop_all hyl (by omega), List.filterMap_nil, List.append_nil] at hI
    refine ⟨a3, n3, c3, rfl, ?_⟩
    rw [← hI]
    exact sl_of_rowE stepCells_len (by omega) hR
/-! ### diff.Apply -/
theorem cCloneJ {H : Heap} {a : Option Addr} {l c : Nat} {xs : List Pin} (hx : Pins H a l xs) (hl : l ≤ 100000) : Spec Tryz.prog 45 [.slice a l c] H fun v H' => ∃ a n c, v = .slice a n c ∧ Fresh H H' 80 2 a n c (xs.flatMap pinCells) := by
  refine TryzvcJ Tryz.func45 (by kernel_rfl) (by kernel_rfl) _ rfl (fun base K => vc121 a l c base H K) fun base hb => ⟨_, eqNil Tryz.underlying25, fun h => ?_, fun h => ?_⟩
  · obtain rfl : a = none := by cases a <;> simp at h ⊢
    obtain ⟨_, rfl⟩ := hx.addr_nil
    exact ⟨none, 0, 0, rfl, Fresh.zero⟩
  · intro g H1 hN1 _ hg
    obtain ⟨h1, h2, h3⟩ := hx.copied pinCells_len (fun _ => rfl) hN1.ext
    exact ⟨[], _, Row.zero, h1, h2, h3, by omega, by omega, fun a3 c3 H3 hG hR => ⟨_, _, _, rfl, hR.fresh hb⟩⟩
theorem cApplyIdx {H : Heap} {a : Option Addr} {l c : Nat} {xs : List Pin} (hx : Pins H a l xs) {k : Int} {p : Nat} (hp : H.cell p 1 = some (i64 k)) :
    Spec Tryz.prog 82 [.slice a l c, .func (.func 83) #[] #[.pointer (some ⟨p, 0, none⟩)]] H fun v _ => v = i64 (pinIdx k 0 xs) := by
  have h120 : ∀ {H : Heap} {n v : Int}, H.cell p 1 = some (i64 k) → Spec Tryz.prog 83 [.agg #[.int .i64 n, .int .i64 v], .pointer (some ⟨p, 0, none⟩)] H fun r _ => r = .bool (decide (n = k)) := by
    intro H n v hp
    refine TryzvcJ Tryz.func83 (by kernel_rfl) (by kernel_rfl) _ rfl (fun base K => vc120 n v p base H K) fun base hb => ?_
    intro _
    exact ⟨k, hp, rfl⟩
  refine TryzvcJ Tryz.func82 (by kernel_rfl) (by kernel_rfl) _ rfl (fun base K => vc113b a l c p base H K) fun base hb => ?_
  have hle := hx.le
  refine ⟨fun vs _ => ∃ (d : Int) (i : Nat), vs = [i64 d, i64 i] ∧ i ≤ l ∧ pinIdx k i (xs.drop i) = pinIdx k 0 xs, upTo l 1, ⟨0, 0, rfl, by omega, rfl⟩, fun d n H' hN hI => ?_⟩
  obtain ⟨d', i, hvs, hi, hI⟩ := hI
  obtain ⟨rfl, rfl⟩ : d = d' ∧ n = (i : Int) := by simpa using hvs
  refine ⟨fun hlt => hx.pin hN.ext (by omega) hlt fun q hq => ?_, fun hge => ?_⟩
  · rw [Int.toNat_natCast] at hq
    rw [drop_at hq, pinIdx] at hI
    refine (h120 (Heap.cell_next hN.ext hp)).bool1 fun H2 _ _ => ⟨fun h => ?_, fun h => ?_⟩
    · rw [if_pos (by simpa using h)] at hI; rw [← hI]
    · rw [if_neg (by simpa using h)] at hI
      rintro r rfl
      rw [wrap_in (by omega) (by omega)]
      exact ⟨⟨_, i + 1, rfl, by omega, hI⟩, by simp [upTo]; omega⟩
  · rw [← hI, drop_all hx.len (by omega), pinIdx]
/-- Where a package comes to stand. -/
theorem up_at {n v : Int} : ∀ {l : List Pin} {k : Nat}, (∀ p ∈ l.take k, p.name < n) → (∀ p, l[k]? = some p → n ≤ p.name) → find l n = 0 → (∀ p ∈ l, p.ver ≠ 0) → k ≤ l.length → up n v l = l.take k ++ ⟨n, v⟩ :: l.drop k
  | [], k, _, _, _, _, hk => by simp at hk; subst hk; rfl
  | p :: r, 0, _, h2, hf, hv, _ => by
    have h := h2 p rfl
    have hne : p.name ≠ n := fun e => by rw [find, if_pos e] at hf; exact hv p List.mem_cons_self hf
    unfold up
    rw [if_pos h, if_neg hne]; rfl
  | p :: r, k + 1, h1, h2, hf, hv, hk => by
    have h := h1 p (by simp)
    have hne : p.name ≠ n := by omega
    rw [find, if_neg hne] at hf
    unfold up
    rw [if_neg (by omega), up_at (k := k) (fun q hq => h1 q (by simp; exact .inr hq)) (fun q hq => h2 q (by simpa using hq)) hf (fun q hq => hv q (List.mem_cons_of_mem _ hq)) (by simpa using hk)]
    rfl
theorem del_at {n : Int} : ∀ {l : List Pin} {k : Nat} {p : Pin}, Lk l → l[k]? = some p → p.name = n → del n l = l.take k ++ l.drop (k + 1)
  | [], k, p, _, h, _ => by simp at h
  | q :: r, 0, p, hl, h, hn => by
    simp at h; subst h
    unfold del
    rw [List.filter_cons_of_neg (by simp [hn])]
    simp only [List.take_zero, List.nil_append, List.drop_one, List.tail_cons]
    refine List.filter_eq_self.2 fun x hx => ?_
    have := hl.head x hx
    simp; omega
  | q :: r, k + 1, p, hl, h, hn => by
    have hm : p ∈ r := List.mem_of_getElem? (by simpa using h)
    have := hl.head p hm
    have ih := del_at (n := n) (k := k) hl.tail (by simpa using h) hn
    unfold del at ih ⊢
    rw [List.filter_cons_of_pos (by simp; omega), ih]
    rfl
theorem turn_at {n v : Int} : ∀ {l : List Pin} {k : Nat} {p : Pin}, Lk l → l[k]? = some p → p.name = n → up n v l = l.set k ⟨n, v⟩
  | [], k, p, _, h, _ => by simp at h
  | q :: r, 0, p, hl, h, hn => by
    simp at h; subst h
    unfold up
    rw [if_pos (by omega), if_pos hn]; rfl
  | q :: r, k + 1, p, hl, h, hn => by
    have hm : p ∈ r := List.mem_of_getElem? (by simpa using h)
    have := hl.head p hm
    unfold up
    rw [if_neg (by omega), turn_at hl.tail (by simpa using h) hn]; rfl
theorem flat_take {α : Type} {enc : α → List Value} {sz : Nat} (hs : ∀ x, (enc x).length = sz) : ∀ (xs : List α) (k : Nat), (xs.flatMap enc).take (k * sz) = (xs.take k).flatMap enc
  | [], k => by simp
  | x :: r, 0 => by simp
  | x :: r, k + 1 => by
    rw [List.flatMap_cons, Nat.succ_mul, List.take_succ_cons, List.flatMap_cons, ← flat_take hs r k, ← hs x, Nat.add_comm, List.take_length_add_append]
theorem flat_drop {α : Type} {enc : α → List Value} {sz : Nat} (hs : ∀ x, (enc x).length = sz) : ∀ (xs : List α) (k : Nat), (xs.flatMap enc).drop (k * sz) = (xs.drop k).flatMap enc
  | [], k => by simp
  | x :: r, 0 => by simp
  | x :: r, k + 1 => by
    rw [List.flatMap_cons, Nat.succ_mul, List.drop_succ_cons, ← flat_drop hs r k, ← hs x, Nat.add_comm, List.drop_length_add_append]
theorem flat_field {α : Type} {enc : α → List Value} {sz : Nat} (hs : ∀ x, (enc x).length = sz) {p q : α} {k : Nat} {vs : List Value} (hk : k + vs.length ≤ sz) (hq : setRange (enc p) k vs = enc q) : ∀ {xs : List α} {j : Nat}, xs[j]? = some p → setRange (xs.flatMap enc) (j * sz + k) vs = (xs.set j q).flatMap enc
  | [], j, h => by simp at h
  | y :: r, 0, h => by
    simp at h; subst h
    rw [List.flatMap_cons, Nat.zero_mul, Nat.zero_add, setRange_left (by rw [hs]; exact hk), hq]; rfl
  | y :: r, j + 1, h => by
    have h' : r[j]? = some p := by simpa using h
    have hj := (List.getElem?_eq_some_iff.1 h').1
    have hle : (j + 1) * sz ≤ r.length * sz := Nat.mul_le_mul_right _ hj
    rw [Nat.succ_mul] at hle
    have := setRange_app (xs := enc y) (vs := vs) (ys := r.flatMap enc) (o := j * sz + k) (by rw [flat_len hs]; omega)
    rw [hs] at this
    rw [List.flatMap_cons, Nat.succ_mul, show j * sz + sz + k = sz + (j * sz + k) from by omega, this, flat_field hs hk hq h']; rfl
theorem Row.apart {base : Nat} {H : Heap} {e : TypeId} {sz : Nat} {a : Option Addr} {n c g : Nat} {xs : List Value} (h : Row base H e sz a n c xs) (hg : H g = none) : c ≠ 0 → a ≠ some ⟨g, 0, none⟩ := fun hc ha => by
  rcases h.2.2.2 with ⟨_, h0⟩ | ⟨b, k, hb, _, hH, _⟩
  · exact hc h0
  · rw [ha] at hb
    obtain rfl : g = b := by simpa using hb
    rw [hg] at hH; cases hH
theorem cApply {H : Heap} {a : Option Addr} {l c : Nat} {xs : List Pin} (hx : Pins H a l xs) (kd n v : Int) :
    Spec Tryz.prog 46 [.slice a l c, .agg #[.int .i64 kd, .int .i64 n, .int .i64 v]] H fun r H' => ∃ a' n' c', r = .tuple #[.slice a' n' c', i64 (applyErr xs ⟨kd, n, v⟩)] ∧ Pins H' a' n' (if applyErr xs ⟨kd, n, v⟩ = 0 then applied xs ⟨kd, n, v⟩ else []) := by
  refine TryzvcJ Tryz.func46 (by kernel_rfl) (by kernel_rfl) _ rfl (fun base K => vc55 a l c kd n v base H K) fun base hb => ?_
  have hxl := hx.len
  have bad : ∀ {e : Int} {H' : Heap}, applyErr xs ⟨kd, n, v⟩ = e → e ≠ 0 → ∃ a' n' c', Value.tuple #[.slice none 0 0, .int .i64 e] = .tuple #[.slice a' n' c', i64 (applyErr xs ⟨kd, n, v⟩)] ∧ Pins H' a' n' (if applyErr xs ⟨kd, n, v⟩ = 0 then applied xs ⟨kd, n, v⟩ else []) := fun he h0 => by
    rw [he, if_neg h0]; exact ⟨none, 0, 0, rfl, Sl.nil⟩
  intro b
  refine (cLockCheck hx).int1 fun H1 e1 hN1 => ⟨fun h => bad (by rw [applyErr, if_pos h]) h, fun h => ?_⟩
  have h := Decidable.not_not.1 h
  obtain ⟨hL, hl12⟩ := lockCheck_zero.1 h
  refine ⟨kd < 1 ∨ 3 < kd, ⟨fun _ => ⟨rfl, fun _ _ h => h, by omega⟩, fun _ => ⟨rfl, fun _ _ h => h, by omega⟩⟩, fun h2 => bad (by rw [applyErr, if_neg (by omega), if_pos h2]) (by omega), fun h2 => ?_⟩
  refine ⟨n < 1 ∨ 20 < n ∨ (kd ≠ 2 ∧ (v < 1 ∨ 99 < v)) ∨ (kd = 2 ∧ v ≠ 0), ?_, fun h3 => bad (by rw [applyErr, if_neg (by omega), if_neg h2, if_pos (show badStep ⟨kd, n, v⟩ from h3)]) (by omega), fun h3 => ⟨rfl, fun Hl hNl hbx => ?_⟩⟩
  · repeat' (first | exact ⟨rfl, fun _ _ h => h, by omega⟩ | intro _ | refine ⟨?_, ?_⟩)
  have h3' := h3
  have h3 : ¬ badStep ⟨kd, n, v⟩ := h3
  have hx1 := hx.ext' e1
  refine (cApplyIdx (hx1.ext' hNl.ext) (k := n) (p := b) (by unfold Heap.cell; rw [hbx.1]; rfl)).mono fun r H2 e2 hv => ⟨_, hv, fun H3 hN3 _ => ?_⟩
  have hf := pinIdx_spec n xs 0 (by omega)
  have hidx : (0 ≤ pinIdx n 0 xs ↔ find xs n ≠ 0) := by
    rcases hf with ⟨g1, g2, _⟩ | ⟨j, p, g1, g2, g3, g4⟩
    · rw [g1, g2]; omega
    · have := hL.name (List.mem_of_getElem? g2)
      rw [g1, g3]; omega
  refine ⟨kd = 1 ∧ find xs n ≠ 0, ⟨fun _ => ⟨rfl, fun _ _ h => h, by omega⟩, fun _ => ⟨rfl, fun _ _ h => h, by omega⟩⟩, fun h4 => bad (by rw [applyErr, if_neg (by omega), if_neg h2, if_neg h3, if_pos h4]) (by omega), fun h4 => ?_⟩
  refine ⟨kd ≠ 1 ∧ find xs n = 0, ⟨fun _ => ⟨rfl, fun _ _ h => h, by omega⟩, fun _ => ⟨rfl, fun _ _ h => h, by omega⟩⟩, fun h5 => bad (by rw [applyErr, if_neg (by omega), if_neg h2, if_neg h3, if_neg h4, if_pos h5]) (by omega), fun h5 => ?_⟩
  refine (cCloneJ (hx1.ext' hN3.ext) (by omega)).slF fun a4 n4 c4 H4 e4 hN4 hR => ?_
  have hn4 : xs.length = n4 := row_len pinCells_len (by omega) hR
  have good : (kd = 1 → xs.length ≠ 12) → applyErr xs ⟨kd, n, v⟩ = 0 := fun hlen => by
    rw [applyErr, if_neg (by omega), if_neg h2, if_neg h3, if_neg h4, if_neg h5, if_neg (fun h => hlen h.1 h.2)]
  have fin : ∀ {Hf : Heap} {af : Option Addr} {nf cf : Nat} {ls : List Value}, (kd = 1 → xs.length ≠ 12) → Row base Hf 80 2 af nf cf ls → ls = (applied xs ⟨kd, n, v⟩).flatMap pinCells → ∃ a' n' c', Value.tuple #[.slice af nf cf, .int .i64 0] = .tuple #[.slice a' n' c', i64 (applyErr xs ⟨kd, n, v⟩)] ∧ Pins Hf a' n' (if applyErr xs ⟨kd, n, v⟩ = 0 then applied xs ⟨kd, n, v⟩ else []) := fun hlen hRf he => by
    rw [good hlen, if_pos rfl]
    subst he
    exact ⟨_, _, _, rfl, pins_of_row hRf⟩
  refine ⟨fun k1 => ⟨fun h12 => bad (by rw [applyErr, if_neg (by omega), if_neg h2, if_neg h3, if_neg h4, if_neg h5, if_pos ⟨k1, by omega⟩]) (by omega), fun h12 => ?_⟩, fun k1 => ⟨fun k2 => ?_, fun k2 => ⟨fun k3 => ?_, fun k3 => by omega⟩⟩⟩
  · have hf0 : find xs n = 0 := by omega
    refine ⟨fun vs Hc => ∃ i : Nat, vs = [i64 i] ∧ i ≤ n4 ∧ Row base Hc 80 2 a4 n4 c4 (xs.flatMap pinCells) ∧ ∀ p ∈ xs.take i, p.name < n, upTo n4 0, ⟨0, rfl, by omega, hR, by simp⟩, fun m H5 hN5 hI => ?_⟩
    obtain ⟨i, hvs, hi, hR5, hlow⟩ := hI
    obtain rfl : m = (i : Int) := by simpa using hvs
    have ins : (∀ p, xs[i]? = some p → n ≤ p.name) → ∀ (g : Nat) (H6 : Heap), Next base H5 H6 → H5 g = none → H6 g = some (boxKB 80 [.int .i64 n, .int .i64 v]) → insP base [⟨b, false, 91, [.int .i64 kd, .int .i64 n, .int .i64 v]⟩] H6 (fun r _ H' => ∃ a' n' c', Value.tuple #[r.val [], .int .i64 0] = .tuple #[.slice a' n' c', i64 (applyErr xs ⟨kd, n, v⟩)] ∧ Pins H' a' n' (if applyErr xs ⟨kd, n, v⟩ = 0 then applied xs ⟨kd, n, v⟩ else [])) a4 n4 c4 i g := fun hup g H6 hN6 hg0 hg => by
      refine ⟨xs.flatMap pinCells, [i64 n, i64 v], i, rfl, hi, by omega, hR5.ext hN6.ext, one_pins xs, rfl, rfl, hg, (fun hc => hR5.apart hg0 hc), fun a7 c7 H7 hG hR7 => fin (fun _ => by omega) hR7 ?_⟩
      have : applied xs ⟨kd, n, v⟩ = up n v xs := by unfold applied; rw [if_neg (by simp; omega)]
      rw [this, up_at hlow hup hf0 (fun p hp => by have := hL.name hp; omega) (by omega), flat_take pinCells_len, flat_drop pinCells_len]
      simp [pinCells]
    refine ⟨fun hlt => (pins_of_row hR5).pinName (Ext.refl _) (by omega) hlt fun p hp => ⟨fun hlt2 => ?_, fun hge => ins fun q hq => ?_⟩, fun hge => ins fun q hq => ?_⟩
    · rw [Int.toNat_natCast] at hp
      rintro r rfl
      rw [wrap_small (by omega) (by omega)]
      refine ⟨rfl, ⟨i + 1, rfl, by omega, hR5, fun q hq => ?_⟩, by simp [upTo]; omega⟩
      rw [take_at hp] at hq
      rcases List.mem_append.1 hq with hq | hq
      · exact hlow q hq
      · simp at hq; subst hq; exact hlt2
    · rw [Int.toNat_natCast] at hp
      rw [hp] at hq
      obtain rfl := Option.some.inj hq
      omega
    · have := (List.getElem?_eq_some_iff.1 hq).1
      omega
  · rcases hf with ⟨g1, g2, _⟩ | ⟨j, p, g1, g2, g3, g4⟩
    · exact absurd ⟨k1, g2⟩ h5
    have hj := (List.getElem?_eq_some_iff.1 g2).1
    rw [g1]
    rintro r rfl
    rw [wrap_small (by omega) (by omega)]
    refine ⟨xs.flatMap pinCells, j, j + 1, by omega, by omega, by omega, by omega, by omega, hR, one_pins xs, fun H5 hG hR5 => fin (fun h => absurd h k1) hR5 ?_⟩
    have : applied xs ⟨kd, n, v⟩ = del n xs := by unfold applied; rw [if_pos k2]
    rw [this, del_at hL g2 g4, flat_take pinCells_len, flat_drop pinCells_len]
    simp
  · rcases hf with ⟨g1, g2, _⟩ | ⟨j, p, g1, g2, g3, g4⟩
    · exact absurd ⟨k1, g2⟩ h5
    have hj := (List.getElem?_eq_some_iff.1 g2).1
    rw [g1]
    obtain ⟨b5, k5, hb5, hbase, hc5, hH5, hf5, hs5, _⟩ := hR.block (by omega)
    have hnc := hR.2.1
    have ej : Int.toNat (0 + (j : Int)) = j := by omega
    refine ⟨b5, 0, hb5, by omega, by omega, k5, hH5, hf5, hbase, by rw [hs5, ej]; omega, fun H6 hu => ?_⟩
    rw [ej] at hu
    have hR6 := hR.upd hb5 hc5 hH5 (o := 0 + j * 2 + 1) (vs := [.int .i64 v]) (by rw [hR.1]; show 0 + j * 2 + 1 + 1 ≤ n4 * 2; omega) hu
    refine fin (fun h => absurd h k1) hR6 ?_
    have : applied xs ⟨kd, n, v⟩ = up n v xs := by unfold applied; rw [if_neg k2]
    rw [this, turn_at hL g2 g4, Nat.zero_add, flat_field pinCells_len (p := p) (q := ⟨n, v⟩) (k := 1) (vs := [.int .i64 v]) (by simp) (by cases p; simp at g4; subst g4; rfl) g2]
end Go.Vg
set_option linter.unusedSimpArgs false
set_option linter.unusedVariables false
namespace Go.Vg
open Go
structure Rls where
  id : Int
  lock : List Pin
  deriving DecidableEq
structure Mail where
  agent : Int
  try_ : Int
  rep : Bool
  good : Bool
  rel : Rls
  deriving DecidableEq
def relErr (r : Rls) : Int := if r.id < 1 ∨ 6 < r.id then 3 else lockCheck r.lock
def noRel (r : Rls) : Prop := r.id = 0 ∧ r.lock = []
instance (r : Rls) : Decidable (noRel r) := by unfold noRel; infer_instance
def badWho (m : Mail) : Prop := m.agent < 0 ∨ 6 ≤ m.agent ∨ m.try_ < 1 ∨ 200 < m.try_
instance (m : Mail) : Decidable (badWho m) := by unfold badWho; infer_instance
def badForm (m : Mail) : Prop := (m.rep = true ∧ ¬ noRel m.rel) ∨ (m.rep = false ∧ m.good = true)
instance (m : Mail) : Decidable (badForm m) := by unfold badForm; infer_instance
def mailsFrom : List Mail → Int
  | [] => 0
  | m :: q => if badWho m then 3 else if badForm m then 4 else if m.rep = true then mailsFrom q else if relErr m.rel ≠ 0 then relErr m.rel else mailsFrom q
def mailsCheck (l : List Mail) : Int := if 40 < l.length then 2 else mailsFrom l
theorem mailsFrom_zero : ∀ {l : List Mail}, mailsFrom l = 0 → ∀ m ∈ l, m.rel.lock.length ≤ 12
  | [], _, m, h => by cases h
  | x :: q, h, m, hm => by
    unfold mailsFrom at h
    split at h
    · omega
    · split at h
      · omega
      · rename_i h1 h2
        split at h
        · rename_i h3
          rcases List.mem_cons.1 hm with rfl | hm
          · unfold badForm noRel at h2
            have : m.rel.lock = [] := by
              by_cases e : m.rel.lock = []
              · exact e
              · exact absurd (.inl ⟨h3, fun h => e h.2⟩) h2
            simp [this]
          · exact mailsFrom_zero h m hm
        · split at h
          · rename_i h4; exact absurd h h4
          · rename_i h4
            rcases List.mem_cons.1 hm with rfl | hm
            · have h4 : relErr m.rel = 0 := Decidable.not_not.1 h4
              unfold relErr at h4
              split at h4
              · omega
              · exact (lockCheck_zero.1 h4).2
            · exact mailsFrom_zero h m hm
theorem mailsCheck_zero {l : List Mail} (h : mailsCheck l = 0) : l.length ≤ 40 ∧ ∀ m ∈ l, m.rel.lock.length ≤ 12 := by
  unfold mailsCheck at h
  split at h
  · omega
  · exact ⟨by omega, mailsFrom_zero h⟩
def sendErr (l : List Mail) (m : Mail) : Int := if mailsCheck l = 0 then mailsCheck [m] else mailsCheck l
def sent (l : List Mail) (m : Mail) : List Mail := if l.length < 40 then l ++ [m] else l
def takeErr (l : List Mail) (k : Int) : Int := if mailsCheck l = 0 then (if k < 0 ∨ (l.length : Int) ≤ k then 5 else 0) else mailsCheck l
def noMail : Mail := ⟨0, 0, false, false, ⟨0, []⟩⟩
def took (l : List Mail) (k : Int) : Mail := l.getD k.toNat noMail
def left (l : List Mail) (k : Int) (tw : Bool) : List Mail := if tw = true then l else l.take k.toNat ++ l.drop (k.toNat + 1)
/-! ### Cells -/
def mailVal (m : Mail) (a : Option Addr) (n c : Nat) : List Value := [i64 m.agent, i64 m.try_, .bool m.rep, .bool m.good, i64 m.rel.id, .slice a n c]
def RMail : Rep Mail := fun H r m => ∃ a n c, r = mailVal m a n c ∧ Pins H a n m.rel.lock
theorem RMail.mono : RMail.Mono := fun _ _ _ _ e ⟨a, n, c, h, hp⟩ => ⟨a, n, c, h, hp.ext' e⟩
theorem RMail.len {H : Heap} {r : List Value} {m : Mail} (h : RMail H r m) : r.length = 6 := by obtain ⟨a, n, c, rfl, _⟩ := h; rfl
theorem RMail.one {r : List Value} {m : Mail} {H : Heap} (h : RMail H r m) : allOne r = true := by obtain ⟨a, n, c, rfl, _⟩ := h; rfl
abbrev Mails (H : Heap) (a : Option Addr) (n : Nat) (l : List Mail) : Prop := Sl RMail 6 H a n l
theorem Mails.ext' {H H' : Heap} {a : Option Addr} {n : Nat} {l : List Mail} (h : Mails H a n l) (e : Ext H H') : Mails H' a n l := Sl.ext RMail.mono h e
theorem Sl.mail {H H' : Heap} {a : Option Addr} {n : Nat} {xs : List Mail} (h : Mails H a n xs) (e : Ext H H') {k : Int} (h0 : 0 ≤ k) (h1 : k < n) {F : Int → Int → Bool → Bool → Int → Option Addr → Nat → Nat → Prop}
    (hF : ∀ m a n c, xs[k.toNat]? = some m → Pins H a n m.rel.lock → F m.agent m.try_ m.rep m.good m.rel.id a n c) :
    ∃ (b o : Nat), a = some ⟨b, o, none⟩ ∧ 0 ≤ k ∧ k < n ∧ ∃ (x y : Int) (p q : Bool) (z : Int) (a' : Option Addr) (n' c' : Nat), (H'.cell b (o + k.toNat * 6) = some (.int .i64 x) ∧ H'.cell b (o + k.toNat * 6 + 1) = some (.int .i64 y) ∧ H'.cell b (o + k.toNat * 6 + 2) = some (.bool p) ∧
      H'.cell b (o + k.toNat * 6 + 3) = some (.bool q) ∧ H'.cell b (o + k.toNat * 6 + 4) = some (.int .i64 z) ∧ H'.cell b (o + k.toNat * 6 + 5) = some (.slice a' n' c') ∧ True) ∧ F x y p q z a' n' c' := by
  obtain ⟨b, o, r, x, ha, hx, ⟨a', n', c', rfl, hp⟩, hc⟩ := h.get h0 h1
  exact ⟨b, o, ha, h0, h1, _, _, _, _, _, _, _, _, ⟨Heap.cell_next e (hc 0 _ rfl), Heap.cell_next e (hc 1 _ rfl), Heap.cell_next e (hc 2 _ rfl), Heap.cell_next e (hc 3 _ rfl), Heap.cell_next e (hc 4 _ rfl), Heap.cell_next e (hc 5 _ rfl), trivial⟩, hF x a' n' c' hx hp⟩
/-- One piece of mail in a block of its own. -/
theorem mail_box {H : Heap} {g : Nat} {ty : TypeId} {m : Mail} {a : Option Addr} {n c : Nat} (h : H g = some (boxKB ty (mailVal m a n c))) (hp : Pins H a n m.rel.lock) : Mails H (some ⟨g, 0, none⟩) 1 [m] :=
  Sl.of_has (rows := [mailVal m a n c]) (Has.of_box h (by simp) (by simp [mailVal]) rfl (by decide)) rfl fun i r x hr hx => by
    match i, hr, hx with
    | 0, hr, hx => simp at hr hx; subst hr hx; exact ⟨a, n, c, rfl, hp⟩
    | i + 1, hr, hx => simp at hr
theorem newOf_mono {H1 H2 H3 : Heap} (e : Ext H1 H2) : Ext (newOf H2 H3) (newOf H1 H3) := fun x k h => by
  have h1 := newOf_away x k h
  have h2 := newOf_ext x k h
  unfold newOf
  cases h3 : H1 x with
  | none => exact h2
  | some k' => rw [e x k' h3] at h1; cases h1
/-- What a call made afresh holds without what was there. -/
theorem Fresh.sl_new {α : Type} {enc : α → List Value} {sz : Nat} (hs : ∀ x, (enc x).length = sz) (h0 : 0 < sz) {H H' : Heap} {e : TypeId} {a : Option Addr} {n c : Nat} {xs : List α} (h : Fresh H H' e sz a n c (xs.flatMap enc)) : Sl (REnc enc) sz (newOf H H') a n xs :=
  sl_of_rowE (base := 0) (e := e) (c := c) hs h0 ⟨h.1, h.2.1, h.2.2.1, h.2.2.2.imp id fun ⟨g, k, h1, h2, h3, h4⟩ => ⟨g, k, h1, Nat.zero_le _, by unfold newOf; rw [h2]; exact h3, h4⟩⟩
theorem flat_takeR {sz : Nat} : ∀ {rs : List (List Value)} (k : Nat), (∀ r ∈ rs, r.length = sz) → rs.flatten.take (k * sz) = (rs.take k).flatten
  | [], k, _ => by simp
  | x :: r, 0, _ => by simp
  | x :: r, k + 1, h => by
    rw [List.flatten_cons, Nat.succ_mul, List.take_succ_cons, List.flatten_cons, ← flat_takeR k fun y hy => h y (List.mem_cons_of_mem _ hy), ← h x List.mem_cons_self, Nat.add_comm, List.take_length_add_append]
theorem flat_dropR {sz : Nat} : ∀ {rs : List (List Value)} (k : Nat), (∀ r ∈ rs, r.length = sz) → rs.flatten.drop (k * sz) = (rs.drop k).flatten
  | [], k, _ => by simp
  | x :: r, 0, _ => by simp
  | x :: r, k + 1, h => by
    rw [List.flatten_cons, Nat.succ_mul, List.drop_succ_cons, ← flat_dropR k fun y hy => h y (List.mem_cons_of_mem _ hy), ← h x List.mem_cons_self, Nat.add_comm, List.drop_length_add_append]
/-- Other rows in the same block. -/
theorem OwnSl.regrew {α : Type} {R : Rep α} {sz : Nat} {e : TypeId} {base : Nat} {G H H' : Heap} {a a' : Option Addr} {n c n' c' nn : Nat} {rows rows' : List (List Value)} {xs ys : List α} (h : OwnSl R sz e base G H a n c rows xs) (hg : Grew base H H' a c a' c' nn)
    (hr : Row base H' e sz a' n' c' rows'.flatten) (hw : ∀ r ∈ rows', r.length = sz) (ha : AllR R G rows' ys) : OwnSl R sz e base G H' a' n' c' rows' ys :=
  ⟨hr, hw, ha, fun x k hx => hg.keep x k (h.sub x k hx) (by
    by_cases hc : c = 0
    · exact .inl hc
    · exact .inr fun e => by have := h.clear hc x e; rw [hx] at this; cases this), fun hc g hga => by
    rcases hg.place hc g hga with h1 | ⟨h1, h2⟩
    · cases hG : G g with
      | none => rfl
      | some k => rw [h.sub g k hG] at h1; cases h1
    · exact h.clear h2 g (h1 ▸ hga)⟩
end Go.Vg
set_option linter.unusedSimpArgs false
set_option linter.unusedVariables false
namespace Go.Vg
open Go
structure Recd where
  kind : Int
  agent : Int
  try_ : Int
  num : Int
  good : Bool
  rel : Rls
  deriving DecidableEq
structure Agt where
  lock : List Pin
  at_ : Int
  try_ : Int
  going : Bool
  goal : Rls
  good : Bool
  deriving DecidableEq
def recForm (r : Recd) : Prop := (r.agent ≠ 0 ∧ ¬ (r.kind = 6 ∨ r.kind = 7)) ∨ (r.try_ ≠ 0 ∧ ¬ (r.kind = 1 ∨ r.kind = 2 ∨ r.kind = 3 ∨ r.kind = 6 ∨ r.kind = 7)) ∨ (r.num ≠ 0 ∧ ¬ r.kind = 5) ∨ (r.good = true ∧ ¬ (r.kind = 3 ∨ r.kind = 7)) ∨ (¬ noRel r.rel ∧ ¬ (r.kind = 1 ∨ r.kind = 4))
instance (r : Recd) : Decidable (recForm r) := by unfold recForm; infer_instance
def recRange (r : Recd) : Prop := r.agent < 0 ∨ 6 ≤ r.agent ∨ ((r.kind = 1 ∨ r.kind = 2 ∨ r.kind = 3 ∨ r.kind = 6 ∨ r.kind = 7) ∧ (r.try_ < 1 ∨ 200 < r.try_)) ∨ (r.kind = 5 ∧ (r.num < 1 ∨ 6 < r.num))
instance (r : Recd) : Decidable (recRange r) := by unfold recRange; infer_instance
def recErr (r : Recd) : Int := if r.kind < 1 ∨ 9 < r.kind then 4 else if recForm r then 4 else if recRange r then 3 else if r.kind = 1 ∨ r.kind = 4 then relErr r.rel else 0
def agtErr (a : Agt) : Int :=
  if lockCheck a.lock ≠ 0 then lockCheck a.lock else
  if a.at_ < 1 ∨ 6 < a.at_ ∨ a.try_ < 0 ∨ 200 < a.try_ then 3 else
  if a.going = true then (if a.try_ = 0 ∨ a.good = true then 4 else relErr a.goal) else (if noRel a.goal then 0 else 4)
def noAgt : Agt := ⟨[], 0, 0, false, ⟨0, []⟩, false⟩
def agtLeft (a : Agt) : List Step := if a.going = true then diffs a.lock a.goal.lock else []
def nextErr (a : Agt) (r : Recd) : Int :=
  if agtErr a ≠ 0 then agtErr a else if recErr r ≠ 0 then recErr r else
  if r.kind = 1 then (if r.try_ ≤ a.try_ then 7 else 0) else
  if r.kind ≠ 2 ∧ r.kind ≠ 3 then 4 else
  if a.going = false ∨ r.try_ ≠ a.try_ ∨ (r.kind = 2 ∧ agtLeft a = []) ∨ (r.kind = 3 ∧ agtLeft a ≠ []) then 7 else 0
def agtNext (a : Agt) (r : Recd) : Agt :=
  if r.kind = 1 then ⟨a.lock, a.at_, r.try_, true, r.rel, false⟩ else
  if r.kind = 2 then (match agtLeft a with
    | [] => a
    | o :: _ => ⟨applied a.lock o, a.at_, a.try_, a.going, a.goal, a.good⟩) else
  ⟨a.lock, a.goal.id, a.try_, false, ⟨0, []⟩, r.good⟩
def nextV (a : Agt) (r : Recd) : Agt := if nextErr a r = 0 then agtNext a r else noAgt
def newAgt (r : Rls) : Agt := ⟨r.lock, r.id, 0, false, ⟨0, []⟩, true⟩
def replayFrom : Agt → List Recd → Except Int Agt
  | a, [] => .ok a
  | a, r :: q => if nextErr a r = 0 then replayFrom (agtNext a r) q else .error (nextErr a r)
def agtReplay (f : Rls) (l : List Recd) : Except Int Agt := if relErr f ≠ 0 then .error (relErr f) else if 200 < l.length then .error 2 else replayFrom (newAgt f) l
def okA : Except Int Agt → Agt
  | .ok a => a
  | .error _ => noAgt
theorem relErr_zero {r : Rls} (h : relErr r = 0) : (1 ≤ r.id ∧ r.id ≤ 6) ∧ Lk r.lock ∧ r.lock.length ≤ 12 := by
  unfold relErr at h
  split at h
  · omega
  · exact ⟨by omega, lockCheck_zero.1 h⟩
theorem agtErr_zero {a : Agt} (h : agtErr a = 0) : (Lk a.lock ∧ a.lock.length ≤ 12) ∧ 1 ≤ a.at_ ∧ a.at_ ≤ 6 ∧ 0 ≤ a.try_ ∧ a.try_ ≤ 200 ∧ (a.going = true → a.try_ ≠ 0 ∧ a.good = false ∧ relErr a.goal = 0) ∧ (a.going = false → noRel a.goal) := by
  unfold agtErr at h
  split at h
  · omega
  · rename_i h1
    have h1 := lockCheck_zero.1 (Decidable.not_not.1 h1)
    split at h
    · omega
    · split at h
      · rename_i h2 h3
        split at h
        · omega
        · rename_i h4
          refine ⟨h1, by omega, by omega, by omega, by omega, fun _ => ⟨fun e => h4 (.inl e), ?_, h⟩, fun e => by rw [h3] at e; cases e⟩
          cases hg : a.good with
          | false => rfl
          | true => exact absurd (.inr hg) h4
      · rename_i h2 h3
        split at h
        · rename_i h4; exact ⟨h1, by omega, by omega, by omega, by omega, fun e => absurd e h3, fun _ => h4⟩
        · omega
theorem agt_goal {a : Agt} (h : agtErr a = 0) : Lk a.goal.lock ∧ a.goal.lock.length ≤ 12 := by
  obtain ⟨_, _, _, _, _, h1, h2⟩ := agtErr_zero h
  cases hg : a.going with
  | true => exact (relErr_zero (h1 hg).2.2).2
  | false => rw [(h2 hg).2]; exact ⟨Lk.nil, by simp⟩
/-! ### Cells -/
def recVal (r : Recd) (a : Option Addr) (n c : Nat) : List Value := [i64 r.kind, i64 r.agent, i64 r.try_, i64 r.num, .bool r.good, i64 r.rel.id, .slice a n c]
def RRec : Rep Recd := fun H r m => ∃ a n c, r = recVal m a n c ∧ Pins H a n m.rel.lock
theorem RRec.mono : RRec.Mono := fun _ _ _ _ e ⟨a, n, c, h, hp⟩ => ⟨a, n, c, h, hp.ext' e⟩
theorem RRec.len {H : Heap} {r : List Value} {m : Recd} (h : RRec H r m) : r.length = 7 := by obtain ⟨a, n, c, rfl, _⟩ := h; rfl
abbrev Recs (H : Heap) (a : Option Addr) (n : Nat) (l : List Recd) : Prop := Sl RRec 7 H a n l
theorem Recs.ext' {H H' : Heap} {a : Option Addr} {n : Nat} {l : List Recd} (h : Recs H a n l) (e : Ext H H') : Recs H' a n l := Sl.ext RRec.mono h e
theorem Sl.recd {H H' : Heap} {a : Option Addr} {n : Nat} {xs : List Recd} (h : Recs H a n xs) (e : Ext H H') {k : Int} (h0 : 0 ≤ k) (h1 : k < n) {F : Int → Int → Int → Int → Bool → Int → Option Addr → Nat → Nat → Prop}
    (hF : ∀ m a n c, xs[k.toNat]? = some m → Pins H a n m.rel.lock → F m.kind m.agent m.try_ m.num m.good m.rel.id a n c) :
    ∃ (b o : Nat), a = some ⟨b, o, none⟩ ∧ 0 ≤ k ∧ k < n ∧ ∃ (x y u v : Int) (q : Bool) (z : Int) (a' : Option Addr) (n' c' : Nat), (H'.cell b (o + k.toNat * 7) = some (.int .i64 x) ∧ H'.cell b (o + k.toNat * 7 + 1) = some (.int .i64 y) ∧ H'.cell b (o + k.toNat * 7 + 2) = some (.int .i64 u) ∧ H'.cell b (o + k.toNat * 7 + 3) = some (.int .i64 v) ∧
      H'.cell b (o + k.toNat * 7 + 4) = some (.bool q) ∧ H'.cell b (o + k.toNat * 7 + 5) = some (.int .i64 z) ∧ H'.cell b (o + k.toNat * 7 + 6) = some (.slice a' n' c') ∧ True) ∧ F x y u v q z a' n' c' := by
  obtain ⟨b, o, r, x, ha, hx, ⟨a', n', c', rfl, hp⟩, hc⟩ := h.get h0 h1
  exact ⟨b, o, ha, h0, h1, _, _, _, _, _, _, _, _, _, ⟨Heap.cell_next e (hc 0 _ rfl), Heap.cell_next e (hc 1 _ rfl), Heap.cell_next e (hc 2 _ rfl), Heap.cell_next e (hc 3 _ rfl), Heap.cell_next e (hc 4 _ rfl), Heap.cell_next e (hc 5 _ rfl), Heap.cell_next e (hc 6 _ rfl), trivial⟩, hF x a' n' c' hx hp⟩
abbrev recArg (r : Recd) (a : Option Addr) (n c : Nat) : Value := .agg #[.int .i64 r.kind, .int .i64 r.agent, .int .i64 r.try_, .int .i64 r.num, .bool r.good, .int .i64 r.rel.id, .slice a n c]
abbrev agtArg (x : Agt) (a : Option Addr) (n c : Nat) (ga : Option Addr) (gn gc : Nat) : Value := .agg #[.slice a n c, .int .i64 x.at_, .int .i64 x.try_, .bool x.going, .int .i64 x.goal.id, .slice ga gn gc, .bool x.good]
theorem agt_eq {x y : Agt} : x = y ↔ x.lock = y.lock ∧ x.at_ = y.at_ ∧ x.try_ = y.try_ ∧ x.going = y.going ∧ x.goal = y.goal ∧ x.good = y.good := by cases x; cases y; simp
/-- A call that yields an agent and an error. -/
theorem Spec.agt {P : Program} {f : FuncId} {args : List Value} {H : Heap} {x : Agt} {e : Int} (h : Spec P f args H fun v H' => ∃ a n c ga gn gc, v = .tuple #[agtArg x a n c ga gn gc, i64 e] ∧ Pins H' a n x.lock ∧ Pins H' ga gn x.goal.lock) {base : Nat}
    {G : Option Addr → Nat → Nat → Int → Int → Bool → Int → Option Addr → Nat → Nat → Bool → Int → Heap → Prop} (hG : ∀ a n c ga gn gc H', Ext H H' → Next base H H' → Pins H' a n x.lock → Pins H' ga gn x.goal.lock → G a n c x.at_ x.try_ x.going x.goal.id ga gn gc x.good e H') :
    Spec P f args H fun v H' => ∃ (a : Option Addr) (n c : Nat) (n2 n3 : Int) (b : Bool) (n4 : Int) (a2 : Option Addr) (n5 c1 : Nat) (b3 : Bool) (n6 : Int), v = .tuple #[.agg #[.slice a n c, .int .i64 n2, .int .i64 n3, .bool b, .int .i64 n4, .slice a2 n5 c1, .bool b3], .int .i64 n6] ∧ (Next base H H' → G a n c n2 n3 b n4 a2 n5 c1 b3 n6 H') :=
  h.mono fun v H' ex hv => by
    obtain ⟨a, n, c, ga, gn, gc, h1, h2, h3⟩ := hv
    exact ⟨a, n, c, _, _, _, _, ga, gn, gc, _, e, h1, fun hN => hG a n c ga gn gc H' ex hN h2 h3⟩
end Go.Vg
