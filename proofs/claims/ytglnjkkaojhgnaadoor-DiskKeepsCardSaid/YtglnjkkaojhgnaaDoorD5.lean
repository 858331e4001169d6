/- What is proved here: the contracts of the functions that print records, and of the ones that hold two records against each other. -/
import Derived.Test.YtglnjkkaojhgnaaDoorW3
import Derived.Test.YtglnjkkaojhgnaaDoorD1
import Derived.Test.YtglnjkkaojhgnaaDoorTx3
set_option linter.unusedSimpArgs false
set_option linter.unusedVariables false
set_option maxRecDepth 100000
namespace Go.Vg
open Go Go.Proofs
theorem decC {p : Prop} [Decidable p] : @decide p (Classical.propDecidable p) = decide p := by by_cases h : p <;> simp [h]
theorem subH {H : Heap} : SubH H H := fun _ _ h => h
theorem cNoteSame {H : Heap} {a a' : Option Addr} {l c l' c' : Nat} {r q : Recd} (hr : Pins H a l r.rel.lock) (hq : Pins H a' l' q.rel.lock) : Spec Tryd.prog 20 [recArg r a l c, recArg q a' l' c'] H fun v _ => v = .bool (decide (r = q)) := by
  obtain ⟨kd, ag, tr, n, gd, ⟨id, lock⟩⟩ := r
  obtain ⟨kd', ag', tr', n', gd', ⟨id', lock'⟩⟩ := q
  refine TrydvcJ Tryd.func20 (by kernel_rfl) (by kernel_rfl) _ rfl (fun base K => vd20 kd ag tr n id gd a l c kd' ag' tr' n' id' gd' a' l' c' base H K) fun base hb => ?_
  refine fun b b1 => ⟨(⟨kd, ag, tr, n, gd, ⟨id, lock⟩⟩ : Recd) = ⟨kd', ag', tr', n', gd', ⟨id', lock'⟩⟩, ⟨fun h1 => ⟨fun h2 => ⟨fun h3 => ⟨fun h4 => ⟨_, eqBool, fun h5 => (cAlike hr hq id id').bool1 fun H1 e1 _ => ⟨rfl, e1, ?_⟩, fun h5 => ⟨rfl, subH, ?_⟩⟩, fun h => ⟨rfl, subH, ?_⟩⟩, fun h => ⟨rfl, subH, ?_⟩⟩, fun h => ⟨rfl, subH, ?_⟩⟩, fun h => ⟨rfl, subH, ?_⟩⟩, ?_⟩
  · subst h1 h2 h3 h4
    have : gd = gd' := by simpa using h5
    subst this
    simp
  · intro e; injection e; exact h5 (by simp [*])
  · intro e; injection e; exact h (by assumption)
  · intro e; injection e; exact h (by assumption)
  · intro e; injection e; exact h (by assumption)
  · intro e; injection e; exact h (by assumption)
  · show Value.bool _ = Value.bool _
    rw [decC]
theorem cSameRec {H : Heap} {a a' : Option Addr} {l c l' c' : Nat} {r q : Recd} (hr : Pins H a l r.rel.lock) (hq : Pins H a' l' q.rel.lock) : Spec Tryd.prog 26 [recArg r a l c, recArg q a' l' c'] H fun v _ => v = .bool (decide (r = q)) := by
  obtain ⟨kd, ag, tr, n, gd, ⟨id, lock⟩⟩ := r
  obtain ⟨kd', ag', tr', n', gd', ⟨id', lock'⟩⟩ := q
  refine TrydvcJ Tryd.func26 (by kernel_rfl) (by kernel_rfl) _ rfl (fun base K => vd26 kd ag tr n id gd a l c kd' ag' tr' n' id' gd' a' l' c' base H K) fun base hb => ?_
  refine fun b b1 => ⟨(⟨kd, ag, tr, n, gd, ⟨id, lock⟩⟩ : Recd) = ⟨kd', ag', tr', n', gd', ⟨id', lock'⟩⟩, ⟨fun h1 => ⟨fun h2 => ⟨fun h3 => ⟨fun h4 => ⟨_, eqBool, fun h5 => (cRefAlike hr hq id id').bool1 fun H1 e1 _ => ⟨rfl, e1, ?_⟩, fun h5 => ⟨rfl, subH, ?_⟩⟩, fun h => ⟨rfl, subH, ?_⟩⟩, fun h => ⟨rfl, subH, ?_⟩⟩, fun h => ⟨rfl, subH, ?_⟩⟩, fun h => ⟨rfl, subH, ?_⟩⟩, ?_⟩
  · subst h1 h2 h3 h4
    have : gd = gd' := by simpa using h5
    subst this
    simp
  · intro e; injection e; exact h5 (by simp [*])
  · intro e; injection e; exact h (by assumption)
  · intro e; injection e; exact h (by assumption)
  · intro e; injection e; exact h (by assumption)
  · intro e; injection e; exact h (by assumption)
  · show Value.bool _ = Value.bool _
    rw [decC]
/-! ### Print -/
def numText (l : List Int) : List UInt8 := l.flatMap fun n => Lib.itoa n ++ [32]
theorem numText_snoc {l : List Int} {n : Int} : numText (l ++ [n]) = numText l ++ (Lib.itoa n ++ [32]) := by simp [numText]
theorem numText_len : ∀ {l : List Int}, (∀ n ∈ l, 0 ≤ n ∧ n ≤ 200) → (numText l).length ≤ l.length * 4
  | [], _ => by simp [numText]
  | n :: r, h => by
    have h1 := h n (by simp)
    have h2 := itoa_short3 (n := n) h1.1 (by omega)
    have h3 := numText_len (l := r) fun m hm => h m (by simp [hm])
    have e : numText (n :: r) = (Lib.itoa n ++ [32]) ++ numText r := rfl
    rw [e]
    simp only [List.length_append, List.length_cons, List.length_nil, Nat.succ_mul]
    omega
theorem recText_eq (r : Recd) : recText r = numText (recNums r) ++ 61 :: lockText r.rel.lock := rfl
section
variable {H : Heap} (hL : Lb H)
include hL
theorem cRecText {a : Option Addr} {l c : Nat} {r : Recd} (hp : Pins H a l r.rel.lock) : Spec Tryd.prog 22 [recArg r a l c] H fun v _ => v = .tuple #[str (if recErr r = 0 then recText r else []), i64 (recErr r)] := by
  obtain ⟨kd, ag, tr, n, gd, ⟨id, lock⟩⟩ := r
  have hp : Pins H a l lock := hp
  refine TrydvcJ Tryd.func22 (by kernel_rfl) (by kernel_rfl) _ rfl (fun base K => vd22 kd ag tr n id gd a l c base H K) fun base hb => ?_
  intro _
  refine (cRefRecCheck (r := ⟨kd, ag, tr, n, gd, ⟨id, lock⟩⟩) hp).int1 fun H1 e1 hN1 => ⟨fun h => ?_, fun h => ?_⟩
  · rw [if_neg h]; rfl
  have hz := Decidable.not_not.1 h
  rw [if_pos hz, hz]
  have hnn := recErr_nums hz
  have hlk := recErr_lock hz
  refine fun _ => ⟨_, rfl, goodNo gd, gd, by cases gd <;> rfl, fun g H2 hN2 hg hH2 => ?_⟩
  have hS : Sl RInt 1 H2 (some ⟨g, 0, none⟩) 6 (recNums ⟨kd, ag, tr, n, gd, ⟨id, lock⟩⟩) := sl_of_boxE (enc := fun n => [i64 n]) (sz := 1) (fun _ => rfl) hH2 rfl (by omega)
  generalize hrn : recNums ⟨kd, ag, tr, n, gd, ⟨id, lock⟩⟩ = ns at hS hnn
  have hnl : ns.length = 6 := hS.len
  refine ⟨fun vs H' => ∃ m : Nat, vs = [str (numText (ns.take m)), i64 m] ∧ m ≤ 6 ∧ Ext H2 H', upTo 6 1, ⟨0, rfl, by omega, Ext.refl _⟩, fun s n3 H3 hN3 hI => ?_⟩
  obtain ⟨m, hvs, hm, hE⟩ := hI
  obtain ⟨rfl, rfl⟩ : s = ⟨(numText (ns.take m)).toArray⟩ ∧ n3 = (m : Int) := by simpa [str] using hvs
  have hlen := numText_len (l := ns.take m) fun x hx => hnn x (List.mem_of_mem_take hx)
  have htl : (ns.take m).length ≤ 6 := by rw [List.length_take]; omega
  refine ⟨fun hlt => hS.int hE (by omega) hlt fun x hx => ?_, fun hge => ?_⟩
  · rw [Int.toNat_natCast] at hx
    have hxr := hnn x (List.mem_of_getElem? hx)
    have hxl := itoa_short3 (n := x) hxr.1 (by omega)
    refine (l_itoa (hL.ext hN3.ext) (by omega) (by omega)).str1 fun H4 e4 hN4 => ⟨_, runs_add rfl (by simp only [List.length_cons, List.length_nil]; omega), _, runs_add (c := numText (ns.take (m + 1))) (by rw [take_at hx, numText_snoc]) (by simp only [List.length_append, List.length_cons, List.length_nil]; omega), ?_⟩
    rintro r rfl
    rw [wrap_in (by omega) (by omega)]
    exact ⟨rfl, ⟨m + 1, rfl, by omega, Ext.trans hE e4⟩, by simp [upTo]; omega⟩
  · obtain rfl : m = 6 := by omega
    rw [List.take_of_length_le (by omega)] at hlen ⊢
    have hll : (lockText lock).length ≤ 72 := lockText_len hlk
    refine ⟨_, runs_add rfl (by simp only [List.length_cons, List.length_nil]; omega), (cLockText (hL.ext hN3.ext) (hp.ext' hN3.ext) hlk).str1 fun H4 e4 hN4 => ⟨_, runs_add (c := recText ⟨kd, ag, tr, n, gd, ⟨id, lock⟩⟩) (by rw [recText_eq, hrn]; simp) (by simp only [List.length_append, List.length_cons, List.length_nil]; omega), rfl⟩⟩
theorem cNotePrint {a : Option Addr} {l c : Nat} {r : Recd} (hp : Pins H a l r.rel.lock) : Spec Tryd.prog 18 [recArg r a l c] H fun v _ => v = .tuple #[str (if recErr r = 0 then recText r else []), i64 (recErr r)] := by
  obtain ⟨kd, ag, tr, n, gd, ⟨id, lock⟩⟩ := r
  have hp : Pins H a l lock := hp
  refine TrydvcJ Tryd.func18 (by kernel_rfl) (by kernel_rfl) _ rfl (fun base K => vd18 kd ag tr n id gd a l c base H K) fun base hb => ?_
  intro _
  refine (cRecCheck (r := ⟨kd, ag, tr, n, gd, ⟨id, lock⟩⟩) hp).int1 fun H1 e1 hN1 => ⟨fun h => ?_, fun h => ?_⟩
  · rw [if_neg h]; rfl
  have hz := Decidable.not_not.1 h
  rw [if_pos hz, hz]
  have hnn := recErr_nums hz
  have hlk := recErr_lock hz
  cases gd with
  | true =>
    refine ⟨fun _ => ?_, fun h => (by cases h)⟩
    intro b
    generalize hrn : recNums ⟨kd, ag, tr, n, true, ⟨id, lock⟩⟩ = ns at hnn
    have hnl : ns.length = 6 := by rw [← hrn]; rfl
    have hget : ∀ (m : Nat) (x : Int), ns[m]? = some x → ([.int .i64 kd, .int .i64 ag, .int .i64 tr, .int .i64 n, .int .i64 1, .int .i64 id] : List Value)[m]? = some (.int .i64 x) := fun m x hx => by
      have e : ([.int .i64 kd, .int .i64 ag, .int .i64 tr, .int .i64 n, .int .i64 1, .int .i64 id] : List Value) = ns.map i64 := by rw [← hrn]; rfl
      rw [e, List.getElem?_map, hx]; rfl
    refine ⟨fun vs H' => ∃ (m : Nat) (p : Option Addr) (a3 : Option Addr) (c3 : Nat), vs = [i64 m, .agg #[.pointer p, .slice a3 (numText (ns.take m)).length c3]] ∧ m ≤ 6 ∧ (p = none ∨ p = some ⟨b, 0, none⟩) ∧ Row base H' 5 1 a3 (numText (ns.take m)).length c3 (u8s (numText (ns.take m))), upTo 6 0,
      ⟨0, none, none, 0, rfl, by omega, .inl rfl, Row.nil⟩, fun n2 v a3 n3 c3 H2 hN2 hI => ?_⟩
    obtain ⟨m, p, a3', c3', hvs, hm, hpp, hR⟩ := hI
    obtain ⟨rfl, rfl, rfl, rfl, rfl⟩ : n2 = (m : Int) ∧ v = .pointer p ∧ a3 = a3' ∧ n3 = (numText (ns.take m)).length ∧ c3 = c3' := by simpa using hvs
    have hlen := numText_len (l := ns.take m) fun x hx => hnn x (List.mem_of_mem_take hx)
    have htl : (ns.take m).length ≤ 6 := by rw [List.length_take]; omega
    refine ⟨fun hlt => ⟨by omega, hlt, ?_⟩, fun hge => ?_⟩
    · have hmn : m < ns.length := by omega
      have hx : ns[m]? = some ns[m] := List.getElem?_eq_getElem hmn
      generalize ns[m] = x at hx
      have hxr := hnn x (List.mem_of_getElem? hx)
      have hxl := itoa_short3 (n := x) hxr.1 (by omega)
      refine ⟨x, by rw [Int.toNat_natCast, Nat.mul_one]; exact hget m x hx, (l_itoa (hL.ext hN2.ext) (by omega) (by omega)).str1 fun H3 e3 hN3 => ⟨_, runs_add rfl (by simp only [List.length_cons, List.length_nil]; omega), ?_⟩⟩
      refine (cCopyCheck (v := .slice a3 (numText (ns.take m)).length c3) hpp).mono fun r css H4 e4 hq => ?_
      obtain ⟨rfl, rfl, rfl⟩ := hq
      refine ⟨rfl, _, _, _, _, rfl, fun hN4 => ⟨_, hR.ext e3, by rw [size_mk]; simp only [List.length_append, List.length_cons, List.length_nil]; omega, fun a6 c6 H6 hG6 hR6 => ?_⟩⟩
      rintro r rfl
      rw [wrap_in (by omega) (by omega)]
      have e6 : numText (ns.take (m + 1)) = numText (ns.take m) ++ (Lib.itoa x ++ [32]) := by rw [take_at hx, numText_snoc]
      have e7 : (numText (ns.take (m + 1))).length = (numText (ns.take m)).length + (⟨(Lib.itoa x ++ [32]).toArray⟩ : ByteArray).size := by rw [e6, List.length_append]; rfl
      refine ⟨rfl, ⟨m + 1, some ⟨b, 0, none⟩, a6, c6, by rw [e7]; rfl, by omega, .inr rfl, ?_⟩, by simp [upTo]; omega⟩
      rw [e7, e6]
      have e8 : u8s (numText (ns.take m) ++ (Lib.itoa x ++ [32])) = u8s (numText (ns.take m)) ++ u8s (⟨(Lib.itoa x ++ [32]).toArray⟩ : ByteArray).data.toList := by rw [data_mk]; simp [u8s]
      rw [e8]
      exact hR6
    · obtain rfl : m = 6 := by omega
      rw [List.take_of_length_le (by omega)] at hlen hR ⊢
      have hll : (lockText lock).length ≤ 72 := lockText_len hlk
      refine (cLockPrint (hL.ext hN2.ext) (hp.ext' hN2.ext)).strE fun H3 e3 hN3 => ⟨rfl, ?_, numText ns, hR.ext e3, fun H4 _ _ => ?_⟩
      · have : numText ns ≠ [] := by
          intro e
          cases ns with
          | nil => simp at hnl
          | cons x t => unfold numText at e; simp at e
        exact List.length_pos_iff.2 this
      · rw [if_pos hlk, hlk]
        exact ⟨_, runs_add rfl (by simp only [List.length_cons, List.length_nil]; omega), _, runs_add (c := recText ⟨kd, ag, tr, n, true, ⟨id, lock⟩⟩) (by rw [recText_eq, hrn]; simp) (by simp only [List.length_append, List.length_cons, List.length_nil]; omega), rfl⟩
  | false =>
    refine ⟨fun h => (by cases h), fun _ => ?_⟩
    intro b
    generalize hrn : recNums ⟨kd, ag, tr, n, false, ⟨id, lock⟩⟩ = ns at hnn
    have hnl : ns.length = 6 := by rw [← hrn]; rfl
    have hget : ∀ (m : Nat) (x : Int), ns[m]? = some x → ([.int .i64 kd, .int .i64 ag, .int .i64 tr, .int .i64 n, .int .i64 0, .int .i64 id] : List Value)[m]? = some (.int .i64 x) := fun m x hx => by
      have e : ([.int .i64 kd, .int .i64 ag, .int .i64 tr, .int .i64 n, .int .i64 0, .int .i64 id] : List Value) = ns.map i64 := by rw [← hrn]; rfl
      rw [e, List.getElem?_map, hx]; rfl
    refine ⟨fun vs H' => ∃ (m : Nat) (p : Option Addr) (a3 : Option Addr) (c3 : Nat), vs = [i64 m, .agg #[.pointer p, .slice a3 (numText (ns.take m)).length c3]] ∧ m ≤ 6 ∧ (p = none ∨ p = some ⟨b, 0, none⟩) ∧ Row base H' 5 1 a3 (numText (ns.take m)).length c3 (u8s (numText (ns.take m))), upTo 6 0,
      ⟨0, none, none, 0, rfl, by omega, .inl rfl, Row.nil⟩, fun n2 v a3 n3 c3 H2 hN2 hI => ?_⟩
    obtain ⟨m, p, a3', c3', hvs, hm, hpp, hR⟩ := hI
    obtain ⟨rfl, rfl, rfl, rfl, rfl⟩ : n2 = (m : Int) ∧ v = .pointer p ∧ a3 = a3' ∧ n3 = (numText (ns.take m)).length ∧ c3 = c3' := by simpa using hvs
    have hlen := numText_len (l := ns.take m) fun x hx => hnn x (List.mem_of_mem_take hx)
    have htl : (ns.take m).length ≤ 6 := by rw [List.length_take]; omega
    refine ⟨fun hlt => ⟨by omega, hlt, ?_⟩, fun hge => ?_⟩
    · have hmn : m < ns.length := by omega
      have hx : ns[m]? = some ns[m] := List.getElem?_eq_getElem hmn
      generalize ns[m] = x at hx
      have hxr := hnn x (List.mem_of_getElem? hx)
      have hxl := itoa_short3 (n := x) hxr.1 (by omega)
      refine ⟨x, by rw [Int.toNat_natCast, Nat.mul_one]; exact hget m x hx, (l_itoa (hL.ext hN2.ext) (by omega) (by omega)).str1 fun H3 e3 hN3 => ⟨_, runs_add rfl (by simp only [List.length_cons, List.length_nil]; omega), ?_⟩⟩
      refine (cCopyCheck (v := .slice a3 (numText (ns.take m)).length c3) hpp).mono fun r css H4 e4 hq => ?_
      obtain ⟨rfl, rfl, rfl⟩ := hq
      refine ⟨rfl, _, _, _, _, rfl, fun hN4 => ⟨_, hR.ext e3, by rw [size_mk]; simp only [List.length_append, List.length_cons, List.length_nil]; omega, fun a6 c6 H6 hG6 hR6 => ?_⟩⟩
      rintro r rfl
      rw [wrap_in (by omega) (by omega)]
      have e6 : numText (ns.take (m + 1)) = numText (ns.take m) ++ (Lib.itoa x ++ [32]) := by rw [take_at hx, numText_snoc]
      have e7 : (numText (ns.take (m + 1))).length = (numText (ns.take m)).length + (⟨(Lib.itoa x ++ [32]).toArray⟩ : ByteArray).size := by rw [e6, List.length_append]; rfl
      refine ⟨rfl, ⟨m + 1, some ⟨b, 0, none⟩, a6, c6, by rw [e7]; rfl, by omega, .inr rfl, ?_⟩, by simp [upTo]; omega⟩
      rw [e7, e6]
      have e8 : u8s (numText (ns.take m) ++ (Lib.itoa x ++ [32])) = u8s (numText (ns.take m)) ++ u8s (⟨(Lib.itoa x ++ [32]).toArray⟩ : ByteArray).data.toList := by rw [data_mk]; simp [u8s]
      rw [e8]
      exact hR6
    · obtain rfl : m = 6 := by omega
      rw [List.take_of_length_le (by omega)] at hlen hR ⊢
      have hll : (lockText lock).length ≤ 72 := lockText_len hlk
      refine (cLockPrint (hL.ext hN2.ext) (hp.ext' hN2.ext)).strE fun H3 e3 hN3 => ⟨rfl, ?_, numText ns, hR.ext e3, fun H4 _ _ => ?_⟩
      · have : numText ns ≠ [] := by
          intro e
          cases ns with
          | nil => simp at hnl
          | cons x t => unfold numText at e; simp at e
        exact List.length_pos_iff.2 this
      · rw [if_pos hlk, hlk]
        exact ⟨_, runs_add rfl (by simp only [List.length_cons, List.length_nil]; omega), _, runs_add (c := recText ⟨kd, ag, tr, n, false, ⟨id, lock⟩⟩) (by rw [recText_eq, hrn]; simp) (by simp only [List.length_append, List.length_cons, List.length_nil]; omega), rfl⟩
end
end Go.Vg
set_option linter.unusedSimpArgs false
set_option linter.unusedVariables false
set_option maxRecDepth 100000
namespace Go.Vg
open Go Go.Proofs
/-! ### Plain laws -/
def rec0 : Recd := ⟨0, 0, 0, 0, false, ⟨0, []⟩⟩
def recGet (x : Except Int Recd) : Recd := match x with | .ok r => r | .error _ => rec0
theorem nums_cons {w : List UInt8} {ws : List (List UInt8)} {n : Int} (h : num w = some n) : nums (w :: ws) = (nums ws).map (n :: ·) := by rw [nums, h]
theorem nums_bad {w : List UInt8} {ws : List (List UInt8)} (h : num w = none) : nums (w :: ws) = none := by rw [nums, h]
/-- The end of reading: numbers, the last word. -/
def recFin (ns : Option (List Int)) (w6 : List UInt8) : Except Int Recd :=
  if w6.head? = some 61 then
    (match ns with
     | some [k, a, tr, n, g, id] =>
       if g < 0 ∨ 1 < g then .error 1 else
       (match lockRead (w6.drop 1) with
        | .error e => .error e
        | .ok l => let r : Recd := ⟨k, a, tr, n, decide (g = 1), ⟨id, l⟩⟩
          if recErr r = 0 then .ok r else .error (recErr r))
     | _ => .error 1)
  else .error 1
theorem recRead_len {s : List UInt8} (h : (cuts 32 s).length ≠ 7) : recRead s = .error 1 := by
  unfold recRead
  split
  · rename_i hc
    rw [hc] at h; exact absurd rfl h
  · rfl
theorem recRead_seven {s : List UInt8} {ws : List (List UInt8)} {w6 : List UInt8} (hc : cuts 32 s = ws) (hl : ws.length = 7) (h6 : ws[6]? = some w6) : recRead s = recFin (nums (ws.take 6)) w6 := by
  match ws, hl, h6 with
  | [v0, v1, v2, v3, v4, v5, v6], _, h6 =>
    obtain rfl : v6 = w6 := by simpa using h6
    unfold recRead
    rw [hc]
    rfl
theorem recFin_none {w : List UInt8} : recFin none w = .error 1 := by unfold recFin; split <;> rfl
theorem recFin_head {ns : Option (List Int)} {w : List UInt8} (h : ¬ w.head? = some 61) : recFin ns w = .error 1 := by unfold recFin; rw [if_neg h]
theorem recFin_good {k a tr n g id : Int} {w : List UInt8} (h : w.head? = some 61) (hg : g < 0 ∨ 1 < g) : recFin (some [k, a, tr, n, g, id]) w = .error 1 := by rw [recFin, if_pos h]; dsimp only; rw [if_pos hg]
theorem recFin_lock {k a tr n g id : Int} {w : List UInt8} (h : w.head? = some 61) (hg : ¬ (g < 0 ∨ 1 < g)) : recFin (some [k, a, tr, n, g, id]) w = match lockRead (w.drop 1) with
    | .error e => .error e
    | .ok l => if recErr ⟨k, a, tr, n, decide (g = 1), ⟨id, l⟩⟩ = 0 then .ok ⟨k, a, tr, n, decide (g = 1), ⟨id, l⟩⟩ else .error (recErr ⟨k, a, tr, n, decide (g = 1), ⟨id, l⟩⟩) := by
  rw [recFin, if_pos h]; dsimp only; rw [if_neg hg]
theorem prefix61 (w : List UInt8) : Lib.hasPrefix w [61] = decide (w.head? = some 61) := by
  unfold Lib.hasPrefix
  cases w with
  | nil => rfl
  | cons b r =>
    show ((61 : UInt8) == b && List.isPrefixOf [] r) = _
    by_cases h : b = 61
    · subst h; simp
    · simp [h, Ne.symm h]
theorem trim61 {w : List UInt8} (h : w.head? = some 61) : Lib.trimPrefix w [61] = w.drop 1 := by
  unfold Lib.trimPrefix
  rw [prefix61, h]; rfl
theorem six {ns : List Int} (h : ns.length = 6) : ∃ k a tr n g id, ns = [k, a, tr, n, g, id] := by
  match ns, h with
  | [k, a, tr, n, g, id], _ => exact ⟨k, a, tr, n, g, id, rfl⟩
theorem take_set_next {α : Type} {cs : List α} {m : Nat} {v : α} (h : m < cs.length) : (cs.set m v).take (m + 1) = cs.take m ++ [v] := by
  rw [take_at (x := v) (by simp [h]), List.take_set_of_le (Nat.le_refl m)]
theorem Fresh.mv {H H1 H2 H3 : Heap} {e : TypeId} {sz : Nat} {a : Option Addr} {n c : Nat} {cs : List Value} (h : Fresh H1 H2 e sz a n c cs) (e1 : Ext H H1) (e2 : Ext H2 H3) : Fresh H H3 e sz a n c cs := by
  obtain ⟨h1, h2, h3, h4⟩ := h
  refine ⟨h1, h2, h3, h4.imp id fun ⟨g, k, q1, q2, q3, q4⟩ => ⟨g, k, q1, ?_, e2 _ _ q3, q4⟩⟩
  cases hg : H g with
  | none => rfl
  | some k' => rw [e1 g k' hg] at q2; cases q2
theorem neNilE {xo : Operand} : RunsTo Tryd.prog (binRun .neq 82 xo (.const .nilIface) .nilIface .nilIface) (.bool false) := by
  intro w
  have hu := run_underlying Tryd.underlying82
  have hg : (eqGuard .neq 82 xo (.const .nilIface) .nilIface .nilIface).run Tryd.prog w = .ok () w := by simp [eqGuard]
  have he : (Op.equalIn (9999 + 1) 82 .nilIface .nilIface).run Tryd.prog w = .ok true w := by
    rw [Op.equalIn]
    simp only [Sem.run_bind, hu, Result.andThen_ok]
    rfl
  simp only [binRun, Sem.run_bind, hg, Result.andThen_ok]
  simp [binOp, Op.equal, show Op.maxDepth = 9999 + 1 from rfl, he]
theorem neIfaceE {xo : Operand} {t : TypeId} {p : Value} : RunsTo Tryd.prog (binRun .neq 82 xo (.const .nilIface) (.iface t p) .nilIface) (.bool true) := by
  intro w
  have hu := run_underlying Tryd.underlying82
  have hg : (eqGuard .neq 82 xo (.const .nilIface) (.iface t p) .nilIface).run Tryd.prog w = .ok () w := by simp [eqGuard]
  have he : (Op.equalIn (9999 + 1) 82 (.iface t p) .nilIface).run Tryd.prog w = .ok false w := by
    rw [Op.equalIn]
    simp only [Sem.run_bind, hu, Result.andThen_ok]
    rfl
  simp only [binRun, Sem.run_bind, hg, Result.andThen_ok]
  simp [binOp, Op.equal, show Op.maxDepth = 9999 + 1 from rfl, he]
/-- A record that was read, or none. -/
def RecOut (H : Heap) (x : Except Int Recd) (v : Value) (H' : Heap) : Prop :=
  ∃ a n c, v = .tuple #[recArg (recGet x) a n c, i64 (errOf x)] ∧ Fresh H H' 29 2 a n c ((recGet x).rel.lock.flatMap pinCells)
theorem RecOut.bad {H H' : Heap} {e : Int} : RecOut H (.error e) (.tuple #[.agg #[.int .i64 0, .int .i64 0, .int .i64 0, .int .i64 0, .bool false, .int .i64 0, .slice none 0 0], .int .i64 e]) H' := ⟨none, 0, 0, rfl, Fresh.zero⟩
theorem cBadR {H1 : Heap} {base : Nat} {e : Int} {K : Value → Heap → Prop} (hK : ∀ H', K (.tuple #[.agg #[.int .i64 0, .int .i64 0, .int .i64 0, .int .i64 0, .bool false, .int .i64 0, .slice none 0 0], .int .i64 e]) H') :
    Spec Tryd.prog 58 [.int .i64 e] H1 fun v H' => ∃ (n n1 n2 n3 : Int) (b : Bool) (n4 : Int) (a : Option Addr) (m c : Nat) (n6 : Int), v = .tuple #[.agg #[.int .i64 n, .int .i64 n1, .int .i64 n2, .int .i64 n3, .bool b, .int .i64 n4, .slice a m c], .int .i64 n6] ∧
      (Vg.Next base H1 H' → K (.tuple #[.agg #[.int .i64 n, .int .i64 n1, .int .i64 n2, .int .i64 n3, .bool b, .int .i64 n4, .slice a m c], .int .i64 n6]) H') := by
  refine TrydvcJ Tryd.func58 (by kernel_rfl) (by kernel_rfl) _ rfl (fun base K => vd58 e base H1 K) fun base hb => fun _ => ?_
  exact ⟨0, 0, 0, 0, false, 0, none, 0, 0, e, rfl, fun _ => hK _⟩
section
variable {H : Heap} (hL : Lb H)
include hL
theorem cNoteParse {s : ByteArray} : Spec Tryd.prog 21 [.string s] H (RecOut H (if 60000 < s.size then .error 2 else recRead s.data.toList)) := by
  refine TrydvcJ Tryd.func21 (by kernel_rfl) (by kernel_rfl) _ rfl (fun base K => vd21 s base H K) fun base hb => ?_
  refine fun b => ⟨fun h => ?_, fun h => ?_⟩
  · rw [if_pos (by omega)]; exact RecOut.bad
  rw [if_neg (by omega)]
  have hsz : s.data.toList.length ≤ 60000 := by rw [← size_data]; omega
  generalize hws : cuts 32 s.data.toList = ws
  have hwm : ∀ w ∈ ws, w.length ≤ 60000 := fun w hw => by rw [← hws] at hw; have := mem_cuts_len hw; omega
  refine (l_split hL (s := s) (c := 32) (by omega)).mono fun v H1 e1 hv => ?_
  obtain ⟨g, N, hv, hS⟩ := hv
  rw [hws] at hS
  have hNl := hS.len
  refine ⟨_, _, _, hv, fun hN1 => ⟨fun h7 => ?_, fun h7 => ?_⟩⟩
  · rw [recRead_len (by rw [hws]; omega)]; exact RecOut.bad
  obtain rfl : N = 7 := by omega
  have h6l : ws[6]? = some ws[6] := List.getElem?_eq_getElem (by omega)
  generalize ws[6] = w6 at h6l
  rw [recRead_seven hws hNl h6l]
  generalize hfw : ws.take 6 = fw
  have hfl : fw.length = 6 := by rw [← hfw, List.length_take]; omega
  have hfg : ∀ (m : Nat) w, m < 6 → ws[m]? = some w → fw[m]? = some w := fun m w hm hw => by rw [← hfw, List.getElem?_take, if_pos hm]; exact hw
  refine fun b1 => ⟨rfl, fun vs H' => ∃ (k : Int) (A : Value) (m : Nat) (ns : List Int) (cs : List Value), vs = [i64 k, i64 m, A, .agg cs.toArray] ∧ m ≤ 6 ∧ cs.length = 6 ∧ ns.length = m ∧ cs.take m = ns.map i64 ∧ nums fw = (nums (fw.drop m)).map (ns ++ ·) ∧ Ext H1 H', upTo 6 1,
    ⟨0, _, 0, [], _, rfl, by omega, rfl, rfl, rfl, by simp, Ext.refl _⟩, fun n1 n2 n3 n4 n5 n6 b2 n7 a3 n8 c1 cs hcs H2 hN2 hI => ?_⟩
  obtain ⟨k', A', m, ns, cs', hvs, hm, _, hnl, hct, hI, hE⟩ := hI
  obtain ⟨rfl, rfl, rfl, rfl⟩ : n1 = k' ∧ n2 = (m : Int) ∧ _ = A' ∧ cs = cs' := by simpa using hvs
  refine ⟨fun hlt => hS.str hE (by omega) (by omega) fun w hw => ?_, fun hge => ?_⟩
  · rw [Int.toNat_natCast] at hw
    have hwz := hwm w (List.mem_of_getElem? hw)
    have hmw := hfg m w (by omega) hw
    rw [drop_at hmw] at hI
    refine (l_atoi (hL.ext hN2.ext) (s := ⟨w.toArray⟩) (by rw [size_mk]; omega)).spec.mono fun v H3 e3 hv3 => ?_
    obtain ⟨⟨n9, e9, hv3, h9⟩, _⟩ := hv3
    rw [data_mk] at h9
    rcases h9 with ⟨hok, rfl⟩ | ⟨hno, t, p, rfl⟩
    · have hbd := Lib.atoiAll_bounds hok
      refine ⟨n9, .inl ⟨hv3, fun hN3 => ⟨false, neNilE, fun h => (by cases h), fun _ => hS.str (Ext.trans hE e3) (by omega) (by omega) fun w' hw' => ?_⟩⟩⟩
      rw [Int.toNat_natCast, hw] at hw'
      obtain rfl := Option.some.inj hw'
      refine (l_itoa (hL.ext (Ext.trans hN2.ext e3)) hbd.1 hbd.2).str1 fun H4 e4 hN4 => ⟨_, neS, fun h => ?_, fun h => ?_⟩
      · rw [data_mk, data_mk] at h
        have h : ¬ Lib.itoa n9 = w := by simpa using h
        have hn : num w = none := by rw [num, hok]; simp [h]
        rw [nums_bad hn, Option.map_none] at hI
        rw [hI, recFin_none]; exact RecOut.bad
      · rw [data_mk, data_mk] at h
        have h : Lib.itoa n9 = w := by simpa using h
        have hn : num w = some n9 := by rw [num, hok]; simp [h]
        rw [nums_cons hn] at hI
        refine ⟨by omega, hlt, by rw [hcs, Int.toNat_natCast]; omega, ?_⟩
        rintro r rfl
        rw [wrap_in (by omega) (by omega)]
        rw [show 0 + Int.toNat (m : Int) * 1 = m from by omega]
        refine ⟨by simp [hcs], ⟨n1, _, m + 1, ns ++ [n9], cs.set m (.int .i64 n9), rfl, by omega, by simp [hcs], by simp [hnl], ?_, by rw [hI]; cases nums (fw.drop (m + 1)) <;> simp, Ext.trans hE (Ext.trans e3 e4)⟩, by simp [upTo]; omega⟩
        rw [take_set_next (by omega), hct]; simp
    · refine ⟨n9, .inr ⟨t, p, hv3, fun hN3 => ⟨true, neIfaceE, fun _ => ?_, fun h => absurd rfl h⟩⟩⟩
      have hn : num w = none := by
        unfold num
        split
        · rename_i v hv; exact absurd hv (hno v)
        · rfl
      rw [nums_bad hn, Option.map_none] at hI
      rw [hI, recFin_none]; exact RecOut.bad
  · obtain rfl : m = 6 := by omega
    rw [List.drop_of_length_le (by omega), nums, Option.map_some, List.append_nil] at hI
    obtain ⟨k, ag, tr, n, gg, id, rfl⟩ := six hnl
    rw [List.take_of_length_le (by omega)] at hct
    subst hct
    rw [hI]
    have hw6 := hwm w6 (List.mem_of_getElem? h6l)
    refine hS.str (k := 6) hE (by omega) (by omega) fun w hw => ?_
    obtain rfl : w6 = w := by rw [show Int.toNat 6 = 6 from rfl, h6l] at hw; exact Option.some.inj hw
    refine (l_cutPrefix (s := ⟨w6.toArray⟩) (p := ⟨#[61]⟩)).cut2 fun H3 e3 hN3 => ?_
    rw [data_mk, show (⟨#[61]⟩ : ByteArray).data.toList = [61] from rfl, prefix61]
    refine ⟨¬ w6.head? = some 61 ∨ gg < 0 ∨ 1 < gg, ⟨fun hp => ⟨rfl, subH, .inl (by simpa using hp)⟩, fun hp => ⟨gg, rfl, fun h0 => ⟨rfl, subH, .inr (.inl h0)⟩, fun h0 => ⟨gg, rfl, rfl, subH, ?_⟩⟩⟩, fun hφ => ?_, fun hφ => ?_⟩
    · have hp : w6.head? = some 61 := by simpa using hp
      exact ⟨fun h => (h.resolve_left (fun x => x hp)).resolve_left h0, fun h => .inr (.inr h)⟩
    · have : recFin (some [k, ag, tr, n, gg, id]) w6 = .error 1 := by
        by_cases hp : w6.head? = some 61
        · exact recFin_good hp (hφ.resolve_left (fun x => x hp))
        · exact recFin_head hp
      rw [this]; exact RecOut.bad
    · have hp : w6.head? = some 61 := Decidable.byContradiction fun x => hφ (.inl x)
      have hg : ¬ (gg < 0 ∨ 1 < gg) := fun x => hφ (.inr x)
      rw [recFin_lock hp hg, trim61 hp]
      have hdl : (w6.drop 1).length ≤ 60000 := by rw [List.length_drop]; omega
      refine (cLockParse (hL.ext (Ext.trans hN2.ext e3)) (s := ⟨(w6.drop 1).toArray⟩)).mono fun v H4 e4 hv4 => ?_
      obtain ⟨a4, m4, c4, hv4, hF4⟩ := hv4
      rw [if_neg (by rw [size_mk]; omega), data_mk] at hv4 hF4
      refine ⟨a4, m4, c4, _, hv4, fun hN4 => ⟨fun h => ?_, fun h => ?_⟩⟩
      · cases hr : lockRead (w6.drop 1) with
        | ok l => rw [hr] at h; exact absurd rfl h
        | error e => exact RecOut.bad
      · obtain ⟨lk, hr⟩ := errOf_zero (Decidable.not_not.1 h)
        rw [hr] at hF4 ⊢
        dsimp only
        have hpn := (pins_of_row (hF4.row hN4) : Pins H4 a4 m4 lk)
        refine ⟨k, rfl, ag, rfl, tr, rfl, n, rfl, gg, rfl, id, rfl, fun _ => ?_⟩
        refine (cRecCheck (r := ⟨k, ag, tr, n, decide (gg = 1), ⟨id, lk⟩⟩) hpn).int1 fun H5 e5 hN5 => ⟨fun h5 => ?_, fun h5 => ?_⟩
        · rw [if_neg h5]; exact RecOut.bad
        · rw [if_pos (Decidable.not_not.1 h5)]
          exact ⟨a4, m4, c4, rfl, hF4.mv (Ext.trans hN2.ext e3) e5⟩
theorem cRecRead {s : ByteArray} (hsz : s.data.toList.length ≤ 60000) : Spec Tryd.prog 29 [.string s] H (RecOut H (recRead s.data.toList)) := by
  refine TrydvcJ Tryd.func29 (by kernel_rfl) (by kernel_rfl) _ rfl (fun base K => vd29 s base H K) fun base hb => ?_
  have hss : s.size ≤ 60000 := by rw [size_data]; omega
  intro b
  generalize hws : cuts 32 s.data.toList = ws
  have hwm : ∀ w ∈ ws, w.length ≤ 60000 := fun w hw => by rw [← hws] at hw; have := mem_cuts_len hw; omega
  refine (l_split hL (s := s) (c := 32) (by omega)).mono fun v H1 e1 hv => ?_
  obtain ⟨g, N, hv, hS⟩ := hv
  rw [hws] at hS
  have hNl := hS.len
  refine ⟨_, _, _, hv, fun hN1 => ?_⟩
  by_cases h7 : N = 7
  case neg =>
    rw [recRead_len (by rw [hws]; omega)]
    exact ⟨True, ⟨fun _ => ⟨rfl, subH, trivial⟩, fun h => absurd (by omega) h⟩, fun _ => cBadR fun _ => RecOut.bad, fun h => absurd trivial h⟩
  subst h7
  have h6l : ws[6]? = some ws[6] := List.getElem?_eq_getElem (by omega)
  generalize ws[6] = w6 at h6l
  rw [recRead_seven hws hNl h6l]
  generalize hfw : ws.take 6 = fw
  have hfl : fw.length = 6 := by rw [← hfw, List.length_take]; omega
  have hfg : ∀ (m : Nat) w, m < 6 → ws[m]? = some w → fw[m]? = some w := fun m w hm hw => by rw [← hfw, List.getElem?_take, if_pos hm]; exact hw
  have hw6 := hwm w6 (List.mem_of_getElem? h6l)
  refine ⟨¬ w6.head? = some 61, ⟨fun h => absurd (by omega) h, fun _ => hS.str (k := 6) (Ext.refl _) (by omega) (by omega) fun w hw => ?_⟩, fun hφ => ?_, fun hφ => ?_⟩
  · obtain rfl : w6 = w := by rw [show Int.toNat 6 = 6 from rfl, h6l] at hw; exact Option.some.inj hw
    refine (l_prefix (s := ⟨w6.toArray⟩) (p := ⟨#[61]⟩)).bool1 fun H3 e3 hN3 => ⟨rfl, e3, ?_⟩
    rw [data_mk, show (⟨#[61]⟩ : ByteArray).data.toList = [61] from rfl, prefix61]
    simp
  · rw [recFin_head hφ]; exact cBadR fun _ => RecOut.bad
  have hp : w6.head? = some 61 := Decidable.not_not.1 hφ
  refine ⟨by decide, by omega, fun vs H' => ∃ (k : Int) (A : Value) (m : Nat) (ns : List Int) (a3 : Option Addr) (c3 : Nat), vs = [i64 k, .slice a3 m c3, i64 m, A] ∧ m ≤ 6 ∧ Row base H' 3 1 a3 m c3 (ns.map i64) ∧ ns.length = m ∧ nums fw = (nums (fw.drop m)).map (ns ++ ·) ∧ Ext H1 H' ∧ Apart H1 a3 c3, upTo 6 2,
    ⟨0, _, 0, [], none, 0, rfl, by omega, Row.nil, rfl, by simp, Ext.refl _, Apart.none⟩, fun n1 a3 n2 c3 n3 n4 n5 n6 n7 b2 n8 a4 n9 c4 H2 hN2 hI => ?_⟩
  obtain ⟨k', A', m, ns, a3', c3', hvs, hm, hR, hnl, hI, hE, hA⟩ := hI
  obtain ⟨rfl, ⟨rfl, rfl, rfl⟩, rfl, rfl⟩ : n1 = k' ∧ (a3 = a3' ∧ n2 = m ∧ c3 = c3') ∧ n3 = (m : Int) ∧ _ = A' := by simpa using hvs
  refine ⟨fun hlt => ?_, fun hge => ?_⟩
  · have hmw7 : n2 < ws.length := by omega
    have hw : ws[n2]? = some ws[n2] := List.getElem?_eq_getElem hmw7
    generalize ws[n2] = w at hw
    have hwz := hwm w (List.mem_of_getElem? hw)
    have hmw := hfg n2 w (by omega) hw
    rw [drop_at hmw] at hI
    obtain ⟨bb, o, ha, h0, h1, s', hc, hF⟩ := hS.str (k := (n2 : Int)) hE (by omega) (by omega) (F := fun s => s = ⟨w.toArray⟩) (fun w' hw' => by
      rw [Int.toNat_natCast, hw] at hw'
      obtain rfl := Option.some.inj hw'
      rfl)
    subst hF
    refine ⟨bb, o, ha, h0, hlt, _, hc, (cWhole (hL.ext hN2.ext) (s := ⟨w.toArray⟩) (by rw [size_mk]; omega)).mono fun v H3 e3 hv3 => ?_⟩
    obtain ⟨n10, b10, hv3, ht, hf⟩ := hv3
    rw [data_mk] at ht hf
    refine ⟨n10, b10, hv3, fun hN3 => ⟨fun h => ?_, fun h => ?_⟩⟩
    · rw [nums_bad (hf h), Option.map_none] at hI
      rw [hI, recFin_none]; exact cBadR fun _ => RecOut.bad
    · have hn := ht (by simpa using h)
      rw [nums_cons hn] at hI
      intro _
      refine ⟨_, hR.ext e3, by omega, by omega, fun a6 c6 H6 hG6 hR6 => ?_⟩
      rintro r rfl
      rw [wrap_in (by omega) (by omega)]
      obtain ⟨hE6, hA6⟩ := hA.grew (Ext.trans hE e3) hG6
      exact ⟨⟨n1, _, n2 + 1, ns ++ [n10], a6, c6, rfl, by omega, by rw [List.map_append]; exact hR6, by simp [hnl], by rw [hI]; cases nums (fw.drop (n2 + 1)) <;> simp, hE6, hA6⟩, by simp [upTo]; omega⟩
  · obtain rfl : n2 = 6 := by omega
    rw [List.drop_of_length_le (by omega), nums, Option.map_some, List.append_nil] at hI
    obtain ⟨k, ag, tr, n, gg, id, rfl⟩ := six hnl
    rw [hI]
    have hSi : Sl RInt 1 H2 a3 6 [k, ag, tr, n, gg, id] := ints_of_row hR
    refine hSi.int (Ext.refl _) (k := 4) (by omega) (by omega) fun x hx => ?_
    obtain rfl : gg = x := by simpa using hx
    refine (cIn _ _ _).bool1 fun H3 e3 hN3 => ⟨fun h => ?_, fun h => ?_⟩
    · have hg : gg < 0 ∨ 1 < gg := by
        have : ¬ (0 ≤ gg ∧ gg ≤ 1) := by simpa [inR] using h
        omega
      rw [recFin_good hp hg]; exact cBadR fun _ => RecOut.bad
    have hg : ¬ (gg < 0 ∨ 1 < gg) := by
      have : 0 ≤ gg ∧ gg ≤ 1 := by simpa [inR] using h
      omega
    rw [recFin_lock hp hg]
    have hdl : (w6.drop 1).length ≤ 60000 := by rw [List.length_drop]; omega
    have hl1 : 1 ≤ w6.length := by
      cases w6 with
      | nil => cases hp
      | cons x r => simp
    refine hS.str (k := 6) (Ext.trans hE e3) (by omega) (by omega) fun w hw => ?_
    obtain rfl : w6 = w := by rw [show Int.toNat 6 = 6 from rfl, h6l] at hw; exact Option.some.inj hw
    have hxd : ((⟨w6.toArray⟩ : ByteArray).extract 1 (⟨w6.toArray⟩ : ByteArray).size).data.toList = w6.drop 1 := extract_drop _ 1
    refine ⟨by decide, by rw [size_mk]; omega, ?_⟩
    refine (cLockRead (hL.ext (Ext.trans hN2.ext e3)) (s := (⟨w6.toArray⟩ : ByteArray).extract 1 (⟨w6.toArray⟩ : ByteArray).size) (by rw [hxd]; exact hdl)).mono fun v H4 e4 hv4 => ?_
    obtain ⟨a5, m5, c5, hv4, hF4⟩ := hv4
    rw [hxd] at hv4 hF4
    refine ⟨a5, m5, c5, _, hv4, fun hN4 => ⟨fun h => ?_, fun h => ?_⟩⟩
    · cases hr : lockRead (w6.drop 1) with
      | ok l => rw [hr] at h; exact absurd rfl h
      | error e => exact cBadR fun _ => RecOut.bad
    · obtain ⟨lk, hr⟩ := errOf_zero (Decidable.not_not.1 h)
      rw [hr] at hF4 ⊢
      dsimp only
      have hpn := (pins_of_row (hF4.row hN4) : Pins H4 a5 m5 lk)
      have e24 : Ext H2 H4 := Ext.trans e3 e4
      refine hSi.int e24 (k := 0) (by omega) (by omega) fun x0 h0 => ?_
      refine hSi.int e24 (k := 1) (by omega) (by omega) fun x1 h1 => ?_
      refine hSi.int e24 (k := 2) (by omega) (by omega) fun x2 h2 => ?_
      refine hSi.int e24 (k := 3) (by omega) (by omega) fun x3 h3 => ?_
      refine hSi.int e24 (k := 4) (by omega) (by omega) fun x4 h4 => ?_
      refine hSi.int e24 (k := 5) (by omega) (by omega) fun x5 h5 => ?_
      obtain rfl : k = x0 := by simpa using h0
      obtain rfl : ag = x1 := by simpa using h1
      obtain rfl : tr = x2 := by simpa using h2
      obtain rfl : n = x3 := by simpa using h3
      obtain rfl : gg = x4 := by simpa using h4
      obtain rfl : id = x5 := by simpa using h5
      intro _
      refine (cRefRecCheck (r := ⟨k, ag, tr, n, decide (gg = 1), ⟨id, lk⟩⟩) hpn).int1 fun H5 e5 hN5 => ⟨fun h5 => ?_, fun h5 => ?_⟩
      · rw [if_neg h5]; exact cBadR fun _ => RecOut.bad
      · rw [if_pos (Decidable.not_not.1 h5)]
        exact ⟨a5, m5, c5, rfl, hF4.mv (Ext.trans hN2.ext e3) e5⟩
end
end Go.Vg
set_option linter.unusedSimpArgs false
set_option linter.unusedVariables false
set_option maxRecDepth 100000
namespace Go.Vg
open Go Go.Proofs
theorem Spec.recO {P : Program} {f : FuncId} {args : List Value} {H : Heap} {x : Except Int Recd} (h : Spec P f args H (RecOut H x)) {base : Nat} {G : Int → Int → Int → Int → Bool → Int → Option Addr → Nat → Nat → Int → Heap → Prop}
    (hG : ∀ a n c H', Ext H H' → Vg.Next base H H' → Pins H' a n (recGet x).rel.lock → G (recGet x).kind (recGet x).agent (recGet x).try_ (recGet x).num (recGet x).good (recGet x).rel.id a n c (errOf x) H') :
    Spec P f args H fun v H' => ∃ (n1 n2 n3 n4 : Int) (b : Bool) (n5 : Int) (a : Option Addr) (n6 c : Nat) (n7 : Int), v = .tuple #[.agg #[.int .i64 n1, .int .i64 n2, .int .i64 n3, .int .i64 n4, .bool b, .int .i64 n5, .slice a n6 c], .int .i64 n7] ∧ (Vg.Next base H H' → G n1 n2 n3 n4 b n5 a n6 c n7 H') :=
  h.mono fun v H' e ⟨a, n, c, hv, hF⟩ => ⟨_, _, _, _, _, _, a, n, c, _, hv, fun hN => hG a n c H' e hN (pins_of_row (hF.row hN))⟩
theorem nilPins {H : Heap} : Pins H none 0 rec0.rel.lock := Sl.nil
def linedR : Recd := ⟨1, 0, 7, 0, false, ⟨2, [⟨3, 4⟩]⟩⟩
theorem lined_text : recText linedR = [49, 32, 48, 32, 55, 32, 48, 32, 48, 32, 50, 32, 61, 51, 64, 52] := by
  show (Lib.itoa ((1 : Nat) : Int) ++ [32]) ++ ((Lib.itoa ((0 : Nat) : Int) ++ [32]) ++ ((Lib.itoa ((7 : Nat) : Int) ++ [32]) ++ ((Lib.itoa ((0 : Nat) : Int) ++ [32]) ++ ((Lib.itoa ((0 : Nat) : Int) ++ [32]) ++ ((Lib.itoa ((2 : Nat) : Int) ++ [32]) ++ []))))) ++ 61 :: (Lib.itoa ((3 : Nat) : Int) ++ 64 :: Lib.itoa ((4 : Nat) : Int) ++ []) = _
  simp only [itoa_digit (show 0 < 10 by omega), itoa_digit (show 1 < 10 by omega), itoa_digit (show 7 < 10 by omega), itoa_digit (show 2 < 10 by omega), itoa_digit (show 3 < 10 by omega), itoa_digit (show 4 < 10 by omega)]
  rfl
theorem lined_err : recErr linedR = 0 := by decide
theorem recErrOf_zero {x : Except Int Recd} (hx : ∀ e, x = .error e → e ≠ 0) (h : errOf x = 0) : ∃ r, x = .ok r := by
  cases x with
  | ok l => exact ⟨l, rfl⟩
  | error e => exact absurd h (hx e rfl)
theorem readR_err {s : ByteArray} {e : Int} (h : (if 60000 < s.size then .error 2 else recRead s.data.toList) = Except.error e) : e ≠ 0 := by
  split at h
  · injection h with h; omega
  · exact recRead_err h
section
variable {H : Heap} (hL : Lb H)
include hL
theorem cLined : Spec Tryd.prog 19 [] H fun v _ => v = .bool true := by
  refine TrydvcJ Tryd.func19 (by kernel_rfl) (by kernel_rfl) _ rfl (fun base K => vd19 base H K) fun base hb => ?_
  intro g H1 hN1 hg0 hg b
  have hp1 : Pins H1 (some ⟨g, 0, none⟩) 1 linedR.rel.lock := sl_of_boxE pinCells_len (xs := [⟨3, 4⟩]) hg rfl (by decide)
  refine (cNotePrint (hL.ext hN1.ext) (r := linedR) (c := 1) hp1).strE fun H2 e2 hN2 => ?_
  rw [if_pos lined_err, lined_err, lined_text]
  have hps := cNoteParse (hL.ext (Ext.trans hN1.ext e2)) (s := ⟨[49, 32, 48, 32, 55, 32, 48, 32, 48, 32, 50, 32, 61, 51, 64, 52].toArray⟩)
  rw [if_neg (by decide), data_mk, ← lined_text, recRead_text lined_err] at hps
  rw [← lined_text]
  refine hps.recO fun a n c H3 e3 hN3 hp3 => ?_
  have hp3 : Pins H3 a n linedR.rel.lock := hp3
  have hq1 := hp1.ext' (Ext.trans e2 e3)
  intro b2
  refine ⟨True, ⟨fun _ => ⟨fun _ => ⟨_, eqS, fun _ => (cNoteSame (r := linedR) (q := linedR) (c := 1) hq1 hp3).bool1 fun H4 e4 hN4 => ⟨fun _ => (cNoteRelease (hq1.ext' e4) 2).int1 fun H5 e5 hN5 => ⟨fun _ => (cAlike (hq1.ext' (Ext.trans e4 e5)) (hp3.ext' (Ext.trans e4 e5)) 2 2).bool1 fun H6 e6 hN6 => ⟨rfl, Ext.trans e4 (Ext.trans e5 e6), by simp⟩, fun h => absurd (by decide) h⟩, fun h => by simp at h⟩, fun h => absurd (by rw [data_mk, lined_text]; rfl) h⟩, fun h => absurd rfl h⟩, fun h => absurd rfl h⟩, ?_⟩
  show Value.bool _ = _
  congr 1
  simp
theorem cNoteBack {a a' : Option Addr} {l c l' c' : Nat} {r q : Recd} {s : ByteArray} (hr : Pins H a l r.rel.lock) (hq : Pins H a' l' q.rel.lock) : Spec Tryd.prog 5 [recArg r a l c, recArg q a' l' c', .string s] H fun v _ => v = .bool true := by
  refine TrydvcJ Tryd.func5 (by kernel_rfl) (by kernel_rfl) _ rfl (fun base K => vd5 r.kind r.agent r.try_ r.num r.rel.id r.good a l c q.kind q.agent q.try_ q.num q.rel.id q.good a' l' c' s base H K) fun base hb => ?_
  intro b b1
  refine (cNotePrint hL (r := r) (c := c) hr).strE fun H1 e1 hN1 => (cNotePrint (hL.ext e1) (r := q) (c := c') (hq.ext' e1)).strE fun H2 e2 hN2 => ?_
  have e12 := Ext.trans e1 e2
  refine ⟨False, (cLined (hL.ext e12)).bool1 fun H3 e3 hN3 => ⟨fun h => (by cases h), fun _ => ⟨fun hz1 => ⟨fun hz2 => ⟨_, eqS, (cNoteSame (r := r) (q := q) (c := c) (c' := c') (hr.ext' (Ext.trans e12 e3)) (hq.ext' (Ext.trans e12 e3))).bool1 fun H4 e4 hN4 => ⟨_, neBool, rfl, Ext.trans e3 e4, ?_⟩⟩, fun hz2 => ⟨rfl, e3, id⟩⟩, fun hz1 => ⟨rfl, e3, id⟩⟩⟩, fun h => h.elim, fun _ => ⟨fun hz1 => ?_, fun hz1 => ?_⟩⟩
  · rw [if_pos hz1, if_pos hz2, data_mk, data_mk]
    have : (recText r = recText q) ↔ r = q := ⟨recText_inj hz1 hz2, fun h => by rw [h]⟩
    by_cases h : r = q
    · subst h; simp
    · have h' : ¬ recText r = recText q := fun e => h (this.1 e)
      simp [h, h']
  · rw [if_pos hz1]
    have hps := cNoteParse (hL.ext e12) (s := ⟨(recText r).toArray⟩)
    have hln := recText_len hz1
    rw [if_neg (by rw [size_mk]; omega), data_mk, recRead_text hz1] at hps
    refine hps.recO fun a3 n3 c3 H3 e3 hN3 hp3 => ?_
    have hp3 : Pins H3 a3 n3 r.rel.lock := hp3
    have e123 := Ext.trans e12 e3
    intro b3
    refine ⟨False, ⟨fun h => absurd rfl h, fun _ => (cNoteSame (r := r) (q := r) (c := c3) (c' := c) hp3 (hr.ext' e123)).bool1 fun H4 e4 hN4 => ⟨rfl, e4, by simp⟩⟩, fun h => h.elim, fun _ => ?_⟩
    refine (cNoteParse (hL.ext e123) (s := s)).recO fun a n c H4 e4 hN4 hp4 => fun b5 => ⟨fun _ => rfl, fun h => ?_⟩
    obtain ⟨z, hz⟩ := recErrOf_zero (fun e he => readR_err he) (Decidable.not_not.1 h)
    rw [hz] at hp4 ⊢
    have hp4 : Pins H4 a n z.rel.lock := hp4
    have hsz : ¬ 60000 < s.size := fun hc => by rw [if_pos hc] at hz; cases hz
    rw [if_neg hsz] at hz
    obtain ⟨ht, hk⟩ := recRead_ok hz
    refine (cNotePrint (hL.ext (Ext.trans e123 e4)) (r := z) (c := c) hp4).strE fun H5 e5 hN5 => ?_
    rw [if_pos hk, hk, ht]
    refine ⟨True, ⟨fun _ => ⟨_, eqS, rfl, subH, by rw [data_mk]; simp⟩, fun h => absurd rfl h⟩, ?_⟩
    show Value.bool _ = _
    congr 1
    simp
  · refine (cNoteParse (hL.ext e12) (s := s)).recO fun a n c H4 e4 hN4 hp4 => fun b5 => ⟨fun _ => rfl, fun h => ?_⟩
    obtain ⟨z, hz⟩ := recErrOf_zero (fun e he => readR_err he) (Decidable.not_not.1 h)
    rw [hz] at hp4 ⊢
    have hp4 : Pins H4 a n z.rel.lock := hp4
    have hsz : ¬ 60000 < s.size := fun hc => by rw [if_pos hc] at hz; cases hz
    rw [if_neg hsz] at hz
    obtain ⟨ht, hk⟩ := recRead_ok hz
    refine (cNotePrint (hL.ext (Ext.trans e12 e4)) (r := z) (c := c) hp4).strE fun H5 e5 hN5 => ?_
    rw [if_pos hk, hk, ht]
    refine ⟨True, ⟨fun _ => ⟨_, eqS, rfl, subH, by rw [data_mk]; simp⟩, fun h => absurd rfl h⟩, ?_⟩
    show Value.bool _ = _
    congr 1
    simp
theorem cNoteSays {a a' : Option Addr} {l c l' c' : Nat} {r q : Recd} {s : ByteArray} (hr : Pins H a l r.rel.lock) (hq : Pins H a' l' q.rel.lock) : Spec Tryd.prog 6 [recArg r a l c, recArg q a' l' c', .string s] H fun v _ => v = .bool true := by
  refine TrydvcJ Tryd.func6 (by kernel_rfl) (by kernel_rfl) _ rfl (fun base K => vd6 r.kind r.agent r.try_ r.num r.rel.id r.good a l c q.kind q.agent q.try_ q.num q.rel.id q.good a' l' c' s base H K) fun base hb => ?_
  intro b b1
  refine (cNotePrint hL (r := r) (c := c) hr).strE fun H1 e1 hN1 => ?_
  have hps := cNoteParse (hL.ext e1) (s := s)
  generalize hx : (if 60000 < s.size then (.error 2 : Except Int Recd) else recRead s.data.toList) = x at hps
  refine hps.recO fun a2 n2 c2 H2 e2 hN2 hp2 => fun b3 => ?_
  have e02 := Ext.trans e1 e2
  refine (cRecText (hL.ext e02) (r := r) (c := c) (hr.ext' e02)).strE fun H3 e3 hN3 => ?_
  have e03 := Ext.trans e02 e3
  refine (cLined (hL.ext e03)).bool1 fun H4 e4 hN4 => ⟨fun h => (by cases h), fun _ => ?_⟩
  have e04 := Ext.trans e03 e4
  refine (cNoteRelease (hr.ext' e04) r.rel.id).int1 fun H5 e5 hN5 => ?_
  have e05 := Ext.trans e04 e5
  refine (cRefRelease (hr.ext' e05) r.rel.id).int1 fun H6 e6 hN6 => ⟨fun h => absurd rfl h, fun _ => ?_⟩
  have e06 := Ext.trans e05 e6
  refine (cRecCheck (r := r) (c := c) (hr.ext' e06)).int1 fun H7 e7 hN7 => ⟨fun h => absurd rfl h, fun _ => ⟨fun h => absurd rfl h, fun _ => ⟨_, neS, fun h => by simp at h, fun _ => ?_⟩⟩⟩
  have e07 := Ext.trans e06 e7
  refine (cNoteSame (r := r) (q := q) (c := c) (c' := c') (hr.ext' e07) (hq.ext' e07)).bool1 fun H8 e8 hN8 => ?_
  have e08 := Ext.trans e07 e8
  refine (cSameRec (r := r) (q := q) (c := c) (c' := c') (hr.ext' e08) (hq.ext' e08)).bool1 fun H9 e9 hN9 => ⟨_, neBool, fun h => by simp at h, fun _ => ?_⟩
  have e09 := Ext.trans e08 e9
  refine (cAlike (hr.ext' e09) (hq.ext' e09) r.rel.id q.rel.id).bool1 fun H10 e10 hN10 => ?_
  have e010 := Ext.trans e09 e10
  refine (cRefAlike (hr.ext' e010) (hq.ext' e010) r.rel.id q.rel.id).bool1 fun H11 e11 hN11 => ⟨_, neBool, fun h => by simp at h, fun _ => ?_⟩
  have e011 := Ext.trans e010 e11
  have hp11 := hp2.ext' (Ext.trans e3 (Ext.trans e4 (Ext.trans e5 (Ext.trans e6 (Ext.trans e7 (Ext.trans e8 (Ext.trans e9 (Ext.trans e10 e11))))))))
  refine ⟨fun big => ?_, fun small => ?_⟩
  · obtain rfl : x = .error 2 := by rw [← hx, if_pos (by omega)]
    refine ⟨True, ⟨fun _ => (cSameRec (r := recGet (.error 2)) (q := rec0) (c := c2) (c' := 0) hp11 nilPins).bool1 fun H12 e12 _ => ⟨rfl, e12, by simp [recGet]⟩, fun h => absurd rfl h⟩, ?_⟩
    show Value.bool _ = _
    congr 1
    simp
  · obtain rfl : x = recRead s.data.toList := by rw [← hx, if_neg (by omega)]
    refine (cRecRead (hL.ext e011) (s := s) (by rw [← size_data]; omega)).recO fun a12 n12 c12 H12 e12 hN12 hp12 => fun b12 => ⟨True, ⟨fun _ => ?_, fun h => absurd rfl h⟩, ?_⟩
    · refine (cSameRec (r := recGet (recRead s.data.toList)) (q := recGet (recRead s.data.toList)) (c := c2) (c' := c12) (hp11.ext' e12) hp12).bool1 fun H13 e13 _ => ⟨rfl, e13, by simp⟩
    · show Value.bool _ = _
      congr 1
      simp
end
end Go.Vg
