/- What is proved here: the plain law of the rounds of telling and hearing: it is over at last. -/
import Derived.Test.YtonlnlkkokigiaaP8
set_option linter.unusedSimpArgs false
set_option maxRecDepth 100000
set_option linter.unusedVariables false
namespace Go.Vg
open Go Go.Proofs
def fin (a : Kn) : Kn := if a.st = 1 then ⟨2, a.try_, a.back⟩ else a
def pend (a : Kn) : Prop := a.st ≠ 0 ∧ a.back = false
instance (a : Kn) : Decidable (pend a) := by unfold pend; infer_instance
def idles (l : List Kn) : Nat := l.countP fun a => decide (a.st = 0)
def pends (l : List Kn) : Nat := l.countP fun a => decide (pend a)
def dueL (l : Ldr) : Int := if l.back = true then (pends l.ags : Int) else idles l.ags + l.ags.length
def rounds (l : Ldr) : Int := if l.back = true then (if pends l.ags = 0 then 1 else 2) else idles l.ags + 3
abbrev uGot (k t : Int) : Recd := ⟨7, k, t, 0, true, ⟨0, []⟩⟩
abbrev uSend (k t : Int) : Recd := ⟨6, k, t, 0, false, ⟨0, []⟩⟩
abbrev uBack : Recd := ⟨8, 0, 0, 0, false, ⟨0, []⟩⟩
abbrev uEnd : Recd := ⟨9, 0, 0, 0, false, ⟨0, []⟩⟩
theorem rec67 {k t : Int} (h0 : 0 ≤ k) (h1 : k < 6) (h2 : 1 ≤ t) (h3 : t ≤ 200) : recErr (uGot k t) = 0 ∧ recErr (uSend k t) = 0 := by
  constructor
  all_goals
    unfold recErr recForm recRange noRel
    simp
    omega
theorem rec89 : recErr uBack = 0 ∧ recErr uEnd = 0 := by decide
theorem led_of {c : Conf} {l : Ldr} {r : Recd} (h1 : ldrErr c l = 0) (h2 : recErr r = 0) (h3 : ledKind c l r = 0) : ledErr c l r = 0 := by
  unfold ledErr; rw [if_neg (by omega), if_neg (by omega), h3]
theorem count_set {p : Kn → Bool} {xs : List Kn} {k : Nat} {m x : Kn} (h : xs[k]? = some m) : (xs.set k x).countP p + (if p m then 1 else 0) = xs.countP p + (if p x then 1 else 0) := by
  have hi := (List.getElem?_eq_some_iff.1 h).1
  have e1 : xs = xs.take k ++ m :: xs.drop (k + 1) := by rw [← drop_at h, List.take_append_drop]
  have e2 : xs.set k x = xs.take k ++ x :: xs.drop (k + 1) := by
    conv => lhs; rw [e1]
    rw [List.set_append_right _ _ (by simp; omega)]
    simp [Nat.min_eq_left (Nat.le_of_lt hi)]
  rw [e2]
  conv => rhs; rw [e1]
  simp only [List.countP_append, List.countP_cons]
  omega
theorem fin_st {a : Kn} : ((fin a).st = 0 ↔ a.st = 0) ∧ (fin a).back = a.back ∧ (fin a).st ≠ 1 := by
  unfold fin
  by_cases h : a.st = 1
  · rw [if_pos h]; simp [h]
  · rw [if_neg h]; simp [h]
theorem fin_counts (xs : List Kn) : idles (xs.map fin) = idles xs ∧ pends (xs.map fin) = pends xs := by
  unfold idles pends
  rw [List.countP_map, List.countP_map]
  refine ⟨List.countP_congr fun a _ => ?_, List.countP_congr fun a _ => ?_⟩
  · simp [fin_st.1]
  · simp only [Function.comp, decide_eq_true_eq]; unfold pend; rw [fin_st.2.1, ne_eq, ne_eq, not_congr fin_st.1]
theorem mp_at {f : Kn → Kn} {xs : List Kn} {i : Nat} {m : Kn} (hm : xs[i]? = some m) : ((xs.take i).map f ++ xs.drop i).set i (f m) = (xs.take (i + 1)).map f ++ xs.drop (i + 1) := by
  have hi := (List.getElem?_eq_some_iff.1 hm).1
  rw [drop_at hm, take_at hm, List.set_append_right _ _ (by simp; omega)]
  simp [Nat.min_eq_left (Nat.le_of_lt hi)]
theorem mp_get {f : Kn → Kn} {xs : List Kn} {i : Nat} {m : Kn} (hm : xs[i]? = some m) : ((xs.take i).map f ++ xs.drop i)[i]? = some m := by
  have hi := (List.getElem?_eq_some_iff.1 hm).1
  rw [List.getElem?_append_right (by simp; omega)]
  simp [Nat.min_eq_left (Nat.le_of_lt hi), hm]
theorem mp_same {f : Kn → Kn} {xs : List Kn} {i : Nat} {m : Kn} (hm : xs[i]? = some m) (hf : f m = m) : (xs.take (i + 1)).map f ++ xs.drop (i + 1) = (xs.take i).map f ++ xs.drop i := by
  rw [drop_at hm, take_at hm]; simp [hf]
/-- Who is told says that they are there. -/
def heard (y : Ldr) (j : Nat) : Ldr := { y with ags := (y.ags.take j).map fin ++ y.ags.drop j }
theorem heard_zero (y : Ldr) : heard y 0 = y := by unfold heard; simp
theorem heard_all {y : Ldr} {j : Nat} (h : y.ags.length ≤ j) : heard y j = { y with ags := y.ags.map fin } := by
  unfold heard; rw [List.take_of_length_le h, List.drop_eq_nil_of_le h, List.append_nil]
theorem heard_stay {y : Ldr} {j : Nat} {a : Kn} (h : y.ags[j]? = some a) (h1 : a.st ≠ 1) : heard y (j + 1) = heard y j := by
  unfold heard; rw [mp_same h (by unfold fin; rw [if_neg h1])]
theorem heard_got {c : Conf} {y : Ldr} {j : Nat} {a : Kn} (hE : ldrErr c (heard y j) = 0) (h : y.ags[j]? = some a) (h1 : a.st = 1) :
    ledErr c (heard y j) (uGot j a.try_) = 0 ∧ ledNext (heard y j) (uGot j a.try_) = heard y (j + 1) := by
  have hg : (heard y j).ags[(j : Int).toNat]? = some a := by rw [Int.toNat_natCast]; exact mp_get h
  obtain ⟨g1, g2, g3, g4, g5, g6, g7⟩ := ldrErr_zero.1 hE
  obtain ⟨x1, x2⟩ := knErr_zero.1 g7 a (List.mem_of_getElem? hg)
  have h6 := (ags_six hE).1
  have hj := (List.getElem?_eq_some_iff.1 hg).1
  rw [Int.toNat_natCast] at hj
  unfold ldrRange at g5
  unfold badKn at x1
  unfold oddKn at x2
  refine ⟨led_of hE (rec67 (by omega) (by omega) (by omega) (by omega)).1 ?_, ?_⟩
  · unfold ledKind
    rw [if_neg (by simp), if_neg (by simp), if_pos (.inr rfl), if_neg (by simp only; omega), if_pos rfl]
    simp only
    rw [hg]
    simp [h1]
  · rw [ledNext, if_neg (by simp), if_neg (by simp), if_neg (by simp), if_pos rfl]
    simp only
    rw [hg]
    simp only
    have e : got (uGot j a.try_) a = fin a := by unfold got fin; rw [if_pos rfl, if_pos h1]
    rw [e, Int.toNat_natCast]
    unfold heard
    simp only
    rw [mp_at h]
/-- Whose turn it is is told. -/
theorem send_ok {c : Conf} {z : Ldr} {k : Nat} (hE : ldrErr c z = 0) (hg : z.goal ≠ 0) (hk : k < z.ags.length) (ht : turnOf c z k = true) (hn : z.nx ≤ 200) :
    ledErr c z (uSend k z.nx) = 0 ∧ ledNext z (uSend k z.nx) = { z with ags := z.ags.set k ⟨1, z.nx, z.back⟩, nx := z.nx + 1 } := by
  obtain ⟨g1, g2, g3, g4, g5, g6, g7⟩ := ldrErr_zero.1 hE
  have h6 := (ags_six hE).1
  unfold ldrRange at g5
  refine ⟨led_of hE (rec67 (by omega) (by omega) (by omega) (by omega)).2 ?_, ?_⟩
  · unfold ledKind
    rw [if_neg (by simp), if_neg (by simp), if_pos (.inl rfl), if_neg (by simp only; omega), if_neg (by simp), if_neg]
    rintro (q | q | q)
    · exact hg q
    · exact q rfl
    · rw [ht] at q; cases q
  · rw [ledNext, if_neg (by simp), if_neg (by simp), if_pos rfl]
    simp only [Int.toNat_natCast]
theorem back_ok {c : Conf} {z : Ldr} (hE : ldrErr c z = 0) (hg : z.goal ≠ 0) (hb : z.back = false) : ledErr c z uBack = 0 ∧ ledNext z uBack = { z with back := true } := by
  refine ⟨led_of hE rec89.1 ?_, by rw [ledNext, if_neg (by simp), if_neg (by simp), if_neg (by simp), if_neg (by simp), if_pos rfl]⟩
  unfold ledKind
  rw [if_neg (by simp), if_neg (by simp), if_neg (by simp), if_pos rfl, if_neg]
  rintro (q | q)
  · exact hg q
  · rw [hb] at q; cases q
theorem end_ok {c : Conf} {z : Ldr} (hE : ldrErr c z = 0) (hg : z.goal ≠ 0) (ho : overOf c z = true) : ledErr c z uEnd = 0 ∧ (ledNext z uEnd).goal = 0 ∧ (ledNext z uEnd).now = if z.back = false then z.goal else z.now := by
  refine ⟨led_of hE rec89.2 ?_, ?_⟩
  · unfold ledKind
    rw [if_neg (by simp), if_neg (by simp), if_neg (by simp), if_neg (by simp), if_pos rfl, if_neg]
    rintro (q | q)
    · exact hg q
    · rw [ho] at q; cases q
  · rw [ledNext, if_neg (by simp), if_neg (by simp), if_neg (by simp), if_neg (by simp), if_neg (by simp)]
    exact ⟨rfl, rfl⟩
theorem turn_st {c : Conf} {z : Ldr} {k : Nat} {a : Kn} (h : z.ags[k]? = some a) : (z.back = false → turnOf c z k = true → a.st = 0) ∧ (z.back = true → (turnOf c z k = true ↔ pend a)) := by
  unfold turnOf
  rw [Int.toNat_natCast, h]
  refine ⟨fun hb => ?_, fun hb => ?_⟩
  · simp only [hb, Bool.false_eq_true, if_false, decide_eq_true_eq]; exact fun w => w.2.1
  · simp only [hb, if_true, decide_eq_true_eq]; exact Iff.rfl
/-- What holds when the first k were asked whether it is their turn. -/
structure Asked (c : Conf) (y : Ldr) (k : Nat) (m : Bool) (z : Ldr) : Prop where
  ok : ldrErr c z = 0
  goal : z.goal = y.goal
  now : z.now = y.now
  back : z.back = y.back
  len : z.ags.length = y.ags.length
  nx : z.nx + dueL z ≤ 192
  stay : m = false → z = y ∧ ∀ j : Nat, j < k → turnOf c y j = false
  told : m = true → (∃ a ∈ z.ags, a.st = 1) ∧ (y.back = false → idles z.ags < idles y.ags) ∧ (y.back = true → pends y.ags ≠ 0)
  idle : y.back = false → idles z.ags ≤ idles y.ags
  done : y.back = true → ∀ (j : Nat) (a : Kn), j < k → z.ags[j]? = some a → ¬ pend a
theorem Asked.zero {c : Conf} {y : Ldr} (hE : ldrErr c y = 0) (hn : y.nx + dueL y ≤ 192) : Asked c y 0 false y :=
  ⟨hE, rfl, rfl, rfl, rfl, hn, fun _ => ⟨rfl, fun j hj => absurd hj (Nat.not_lt_zero _)⟩, fun h => (by cases h), fun _ => Nat.le_refl _, fun _ j a hj => absurd hj (Nat.not_lt_zero _)⟩
theorem count_pos {p : Kn → Bool} {xs : List Kn} {k : Nat} {a : Kn} (h : xs[k]? = some a) (hp : p a = true) : 0 < xs.countP p :=
  List.countP_pos_iff.2 ⟨a, List.mem_of_getElem? h, hp⟩
theorem left_pos {c : Conf} {z : Ldr} {k : Nat} {a : Kn} (h : z.ags[k]? = some a) (ht : turnOf c z k = true) : 1 ≤ dueL z := by
  obtain ⟨t1, t2⟩ := turn_st (c := c) h
  unfold dueL
  cases hb : z.back with
  | true =>
    rw [if_pos rfl]
    have : 0 < pends z.ags := count_pos h (decide_eq_true ((t2 hb).1 ht))
    omega
  | false =>
    rw [if_neg (by decide)]
    have : 0 < idles z.ags := count_pos h (decide_eq_true (t1 hb ht))
    omega
theorem Asked.move {c : Conf} {y z : Ldr} {k : Nat} {m : Bool} (h : Asked c y k m z) (hg : y.goal ≠ 0) (hk : k < y.ags.length) (ht : turnOf c z k = true) :
    ledErr c z (uSend k z.nx) = 0 ∧ Asked c y (k + 1) true (ledNext z (uSend k z.nx)) := by
  obtain ⟨a, ha⟩ : ∃ a, z.ags[k]? = some a := ⟨_, List.getElem?_eq_getElem (by rw [h.len]; omega)⟩
  obtain ⟨t1, t2⟩ := turn_st (c := c) ha
  have hlp := left_pos ha ht
  have hnx := h.nx
  obtain ⟨s1, s2⟩ := send_ok h.ok (by rw [h.goal]; exact hg) (by rw [h.len]; omega) ht (by omega)
  refine ⟨s1, ?_⟩
  have hok := led_ok s1
  rw [s2] at hok ⊢
  have ci := count_set (p := fun a => decide (a.st = 0)) (x := ⟨1, z.nx, z.back⟩) ha
  have cp := count_set (p := fun a => decide (pend a)) (x := ⟨1, z.nx, z.back⟩) ha
  have hbk := h.back
  refine ⟨hok, h.goal, h.now, h.back, by simpa using h.len, ?_, fun w => (by cases w), fun _ => ⟨⟨_, List.mem_of_getElem? (List.getElem?_set_self (by rw [h.len]; omega)), rfl⟩, fun hb => ?_, fun hb => ?_⟩, fun hb => ?_, fun hb j b hj hjb => ?_⟩
  · unfold dueL at hnx ⊢
    simp only [List.length_set]
    cases hb : z.back with
    | true =>
      rw [if_pos rfl]; rw [hb, if_pos rfl] at hnx
      have hp := (t2 hb).1 ht
      unfold pends at hnx ⊢
      rw [hb] at cp
      rw [decide_eq_true hp, decide_eq_false (by unfold pend; simp)] at cp
      simp at cp
      omega
    | false =>
      rw [if_neg (by decide)]; rw [hb, if_neg (by decide)] at hnx
      have hp := t1 hb ht
      unfold idles at hnx ⊢
      rw [hb] at ci
      rw [decide_eq_true hp] at ci
      simp at ci
      omega
  · have hp := t1 (by rw [hbk]; exact hb) ht
    rw [decide_eq_true hp] at ci
    simp at ci
    have := h.idle hb
    unfold idles at this ⊢
    simp only
    omega
  · cases m with
    | true => exact (h.told rfl).2.2 hb
    | false =>
      obtain ⟨e, _⟩ := h.stay rfl
      have hp := (t2 (by rw [hbk]; exact hb)).1 ht
      rw [e] at ha
      have : 0 < pends y.ags := count_pos ha (decide_eq_true hp)
      omega
  · have hp := t1 (by rw [hbk]; exact hb) ht
    rw [decide_eq_true hp] at ci
    simp at ci
    have := h.idle hb
    unfold idles at this ⊢
    simp only
    omega
  · by_cases hjk : j = k
    · subst hjk
      simp only at hjb
      rw [List.getElem?_set_self (by rw [h.len]; omega)] at hjb
      obtain rfl := Option.some.inj hjb
      unfold pend; simp only; rw [hbk, hb]; simp
    · simp only at hjb
      rw [List.getElem?_set_ne (by omega)] at hjb
      exact h.done hb j b (by omega) hjb
theorem Asked.skip {c : Conf} {y z : Ldr} {k : Nat} {m : Bool} (h : Asked c y k m z) (ht : turnOf c z k = false) : Asked c y (k + 1) m z := by
  refine { h with stay := fun w => ?_, done := fun hb j a hj ha => ?_ }
  · obtain ⟨e, q⟩ := h.stay w
    refine ⟨e, fun j hj => ?_⟩
    by_cases hjk : j = k
    · subst hjk; rw [e] at ht; exact ht
    · exact q j (by omega)
  · by_cases hjk : j = k
    · subst hjk
      intro hp
      have := ((turn_st (c := c) ha).2 (by rw [h.back]; exact hb)).2 hp
      rw [ht] at this; cases this
    · exact h.done hb j a (by omega) ha
theorem told_not_over {c : Conf} {z : Ldr} (h : ∃ a ∈ z.ags, a.st = 1) : overOf c z = false := by
  obtain ⟨a, ha, h1⟩ := h
  unfold overOf
  cases hb : z.back with
  | false =>
    simp only [if_true, decide_eq_false_iff_not]
    rintro ⟨_, w⟩
    exact w (List.mem_map.2 ⟨a, ha, by simp [h1]⟩)
  | true =>
    simp only [Bool.true_eq_false, if_false, decide_eq_false_iff_not]
    exact fun w => w a ha (.inl h1)
theorem Asked.over {c : Conf} {y z : Ldr} {k : Nat} {m : Bool} (h : Asked c y k m z) (ho : overOf c z = true) : m = false := by
  cases m with
  | false => rfl
  | true => rw [told_not_over (h.told rfl).1] at ho; cases ho
theorem Asked.rest {c : Conf} {y z : Ldr} {m : Bool} (h : Asked c y y.ags.length m z) (hn : ∀ a ∈ y.ags, a.st ≠ 1) (hm : m = false) (hb : z.back = true) : overOf c z = true := by
  obtain ⟨e, q⟩ := h.stay hm
  subst e
  unfold overOf
  rw [hb]
  simp only [Bool.true_eq_false, if_false, decide_eq_true_eq]
  intro a ha
  obtain ⟨j, hj⟩ := List.getElem?_of_mem ha
  have hjl := (List.getElem?_eq_some_iff.1 hj).1
  rintro (w | w)
  · exact hn a ha w
  · exact h.done hb j a hjl hj w
theorem Asked.none {c : Conf} {y z : Ldr} {m : Bool} (h : Asked c y y.ags.length m z) (hn : ∀ a ∈ y.ags, a.st ≠ 1) (hm : m = false) : (z.ags.any fun a => decide (a.st = 1)) = false := by
  obtain ⟨e, q⟩ := h.stay hm
  subst e
  rw [List.any_eq_false]
  intro a ha
  simp [hn a ha]
theorem rounds_pos (z : Ldr) : 1 ≤ rounds z := by
  unfold rounds
  split
  · split <;> omega
  · omega
theorem rounds_two {z : Ldr} (h : z.back = true) : rounds z ≤ 2 := by unfold rounds; rw [if_pos h]; split <;> omega
theorem Asked.fewer {c : Conf} {y z : Ldr} (h : Asked c y y.ags.length true z) : rounds z + 1 ≤ rounds y := by
  obtain ⟨_, t1, t2⟩ := h.told rfl
  unfold rounds
  rw [h.back]
  cases hb : y.back with
  | false => simp only [Bool.false_eq_true, if_false]; have := t1 hb; omega
  | true =>
    have hz : pends z.ags = 0 := by
      unfold pends
      rw [List.countP_eq_zero]
      intro a ha
      obtain ⟨j, hj⟩ := List.getElem?_of_mem ha
      have hjl := (List.getElem?_eq_some_iff.1 hj).1
      simpa using h.done hb j a (by rw [← h.len]; exact hjl) hj
    rw [if_pos rfl, if_pos hz, if_pos rfl, if_neg (t2 hb)]
    decide
theorem back_fewer {z : Ldr} (hb : z.back = false) : rounds { z with back := true } + 1 ≤ rounds z := by
  have h1 := rounds_two (z := { z with back := true }) rfl
  have : rounds z = idles z.ags + 3 := by unfold rounds; rw [hb, if_neg (by decide)]
  omega
theorem pends_le (xs : List Kn) : pends xs ≤ xs.length ∧ idles xs ≤ xs.length := ⟨List.countP_le_length, List.countP_le_length⟩
/-- What holds at the beginning of a round. -/
structure Round (c : Conf) (l : Ldr) (n : Nat) (y : Ldr) : Prop where
  ok : ldrErr c y = 0
  goal : y.goal = l.goal
  now : y.now = l.now
  len : y.ags.length = l.ags.length
  nx : y.nx + dueL y ≤ 192
  few : n + rounds y ≤ 2 * (l.ags.length : Int) + 3
theorem Round.zero {c : Conf} {l : Ldr} (hE : ldrErr c l = 0) (hn : l.nx ≤ 180) : Round c l 0 l := by
  have h6 := (ags_six hE).1
  have hp := pends_le l.ags
  refine ⟨hE, rfl, rfl, rfl, ?_, ?_⟩
  · unfold dueL; split <;> omega
  · unfold rounds
    split
    · split <;> omega
    · omega
theorem Round.heard {c : Conf} {l y : Ldr} {n : Nat} (h : Round c l n y) {j : Nat} (hj : y.ags.length ≤ j) (hE : ldrErr c (heard y j) = 0) : Round c l n (heard y j) ∧ ∀ a ∈ (Vg.heard y j).ags, a.st ≠ 1 := by
  rw [heard_all hj] at hE ⊢
  obtain ⟨f1, f2⟩ := fin_counts y.ags
  refine ⟨⟨hE, h.goal, h.now, by simpa using h.len, ?_, ?_⟩, fun a ha => ?_⟩
  · have := h.nx; unfold dueL at this ⊢; simpa [f1, f2] using this
  · have := h.few; unfold rounds at this ⊢; simpa [f1, f2] using this
  · obtain ⟨b, _, rfl⟩ := List.mem_map.1 ha
    exact fin_st.2.2
theorem Round.moved {c : Conf} {l y z : Ldr} {n : Nat} (h : Round c l n y) (q : Asked c y y.ags.length true z) : Round c l (n + 1) z :=
  ⟨q.ok, by rw [q.goal, h.goal], by rw [q.now, h.now], by rw [q.len, h.len], q.nx, by have := q.fewer; have := h.few; push_cast; omega⟩
theorem Round.turned {c : Conf} {l y z : Ldr} {n : Nat} (h : Round c l n y) (q : Asked c y y.ags.length false z) (hg : l.goal ≠ 0) (hb : z.back = false) : ledErr c z uBack = 0 ∧ Round c l (n + 1) (ledNext z uBack) := by
  obtain ⟨e, _⟩ := q.stay rfl
  subst e
  obtain ⟨b1, b2⟩ := back_ok h.ok (by rw [h.goal]; exact hg) hb
  refine ⟨b1, ?_⟩
  have hok := led_ok b1
  rw [b2] at hok ⊢
  have hp := pends_le z.ags
  refine ⟨hok, h.goal, h.now, h.len, ?_, ?_⟩
  · have := h.nx
    unfold dueL at this ⊢
    rw [hb, if_neg (by decide)] at this
    rw [if_pos rfl]
    simp only
    omega
  · have := back_fewer hb
    have := h.few
    push_cast
    omega
/-- Who is asked goes to where all go. -/
theorem turn_goal {c : Conf} {z : Ldr} {k : Nat} (hE : ldrErr c z = 0) (hg : z.goal ≠ 0) (hk : k < z.ags.length) : turnErr c z k = 0 ∧ turnT c z k = turnOf c z k ∧ (turnRel c z k).id = goalOf z := by
  obtain ⟨g1, g2, g3, g4, g5, g6, g7⟩ := ldrErr_zero.1 hE
  unfold ldrRange at g5
  have h0 : turnErr c z k = 0 := by unfold turnErr; rw [if_neg (by omega), if_neg (by omega), if_neg hg]
  have hr : 1 ≤ goalOf z ∧ goalOf z ≤ z.rels.length := by unfold goalOf; split <;> omega
  obtain ⟨x, hx⟩ : ∃ x, z.rels[(goalOf z - 1).toNat]? = some x := ⟨_, List.getElem?_eq_getElem (by omega)⟩
  have := (relsErr_zero.1 g4 _ x hx).2.2
  refine ⟨h0, by rw [turnT, if_pos h0], ?_⟩
  rw [turnRel, if_pos h0, hx]
  simp only [Option.getD_some]
  omega
end Go.Vg
