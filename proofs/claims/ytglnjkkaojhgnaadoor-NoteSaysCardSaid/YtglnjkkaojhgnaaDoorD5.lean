/- What is proved here: the contracts of the functions that print records, and of the ones that hold two records against each other. -/
import Derived.Test.YtglnjkkaojhgnaaDoorW3
import Derived.Test.YtglnjkkaojhgnaaDoorD3
import Derived.Test.YtglnjkkaojhgnaaDoorTx3
set_option linter.unusedSimpArgs false
set_option linter.unusedVariables false
set_option maxRecDepth 100000
namespace Go.Vg
open Go Go.Proofs
theorem decC {p : Prop} [Decidable p] : @decide p (Classical.propDecidable p) = decide p := by by_cases h : p <;> simp [h]
theorem subH {H : Heap} : SubH H H := fun _ _ h => h
theorem cNoteSame {H : Heap} {a a' : Option Addr} {l c l' c' : Nat} {r q : Recd} (hr : Pins H a l r.rel.lock) (hq : Pins H a' l' q.rel.lock) : Spec Tryd.prog 20 [recArg r a l c, recArg q a' l' c'] H fun v _ => v = .bool (decide (r = q)) := by
  obtain ⟨kd, ag, tr, n, gd, ⟨id, lock⟩⟩ := r
  obtain ⟨kd', ag', tr', n', gd', ⟨id', lock'⟩⟩ := q
  refine TrydvcJ Tryd.func20 (by kernel_rfl) (by kernel_rfl) _ rfl (fun base K => vd20 kd ag tr n id gd a l c kd' ag' tr' n' id' gd' a' l' c' base H K) fun base hb => ?_
  refine fun b b1 => ⟨(⟨kd, ag, tr, n, gd, ⟨id, lock⟩⟩ : Recd) = ⟨kd', ag', tr', n', gd', ⟨id', lock'⟩⟩, ⟨fun h1 => ⟨fun h2 => ⟨fun h3 => ⟨fun h4 => ⟨_, eqBool, fun h5 => (cAlike hr hq id id').bool1 fun H1 e1 _ => ⟨rfl, e1, ?_⟩, fun h5 => ⟨rfl, subH, ?_⟩⟩, fun h => ⟨rfl, subH, ?_⟩⟩, fun h => ⟨rfl, subH, ?_⟩⟩, fun h => ⟨rfl, subH, ?_⟩⟩, fun h => ⟨rfl, subH, ?_⟩⟩, ?_⟩
  · subst h1 h2 h3 h4
    have : gd = gd' := by simpa using h5
    subst this
    simp
  · intro e; injection e; exact h5 (by simp [*])
  · intro e; injection e; exact h (by assumption)
  · intro e; injection e; exact h (by assumption)
  · intro e; injection e; exact h (by assumption)
  · intro e; injection e; exact h (by assumption)
  · show Value.bool _ = Value.bool _
    rw [decC]
theorem cSameRec {H : Heap} {a a' : Option Addr} {l c l' c' : Nat} {r q : Recd} (hr : Pins H a l r.rel.lock) (hq : Pins H a' l' q.rel.lock) : Spec Tryd.prog 26 [recArg r a l c, recArg q a' l' c'] H fun v _ => v = .bool (decide (r = q)) := by
  obtain ⟨kd, ag, tr, n, gd, ⟨id, lock⟩⟩ := r
  obtain ⟨kd', ag', tr', n', gd', ⟨id', lock'⟩⟩ := q
  refine TrydvcJ Tryd.func26 (by kernel_rfl) (by kernel_rfl) _ rfl (fun base K => vd26 kd ag tr n id gd a l c kd' ag' tr' n' id' gd' a' l' c' base H K) fun base hb => ?_
  refine fun b b1 => ⟨(⟨kd, ag, tr, n, gd, ⟨id, lock⟩⟩ : Recd) = ⟨kd', ag', tr', n', gd', ⟨id', lock'⟩⟩, ⟨fun h1 => ⟨fun h2 => ⟨fun h3 => ⟨fun h4 => ⟨_, eqBool, fun h5 => (cRefAlike hr hq id id').bool1 fun H1 e1 _ => ⟨rfl, e1, ?_⟩, fun h5 => ⟨rfl, subH, ?_⟩⟩, fun h => ⟨rfl, subH, ?_⟩⟩, fun h => ⟨rfl, subH, ?_⟩⟩, fun h => ⟨rfl, subH, ?_⟩⟩, fun h => ⟨rfl, subH, ?_⟩⟩, ?_⟩
  · subst h1 h2 h3 h4
    have : gd = gd' := by simpa using h5
    subst this
    simp
  · intro e; injection e; exact h5 (by simp [*])
  · intro e; injection e; exact h (by assumption)
  · intro e; injection e; exact h (by assumption)
  · intro e; injection e; exact h (by assumption)
  · intro e; injection e; exact h (by assumption)
  · show Value.bool _ = Value.bool _
    rw [decC]
/-! ### Print -/
def numText (l : List Int) : List UInt8 := l.flatMap fun n => Lib.itoa n ++ [32]
theorem numText_snoc {l : List Int} {n : Int} : numText (l ++ [n]) = numText l ++ (Lib.itoa n ++ [32]) := by simp [numText]
theorem numText_len : ∀ {l : List Int}, (∀ n ∈ l, 0 ≤ n ∧ n ≤ 200) → (numText l).length ≤ l.length * 4
  | [], _ => by simp [numText]
  | n :: r, h => by
    have h1 := h n (by simp)
    have h2 := itoa_short3 (n := n) h1.1 (by omega)
    have h3 := numText_len (l := r) fun m hm => h m (by simp [hm])
    have e : numText (n :: r) = (Lib.itoa n ++ [32]) ++ numText r := rfl
    rw [e]
    simp only [List.length_append, List.length_cons, List.length_nil, Nat.succ_mul]
    omega
theorem recText_eq (r : Recd) : recText r = numText (recNums r) ++ 61 :: lockText r.rel.lock := rfl
section
variable {H : Heap} (hL : Lb H)
include hL
theorem cRecText {a : Option Addr} {l c : Nat} {r : Recd} (hp : Pins H a l r.rel.lock) : Spec Tryd.prog 22 [recArg r a l c] H fun v _ => v = .tuple #[str (if recErr r = 0 then recText r else []), i64 (recErr r)] := by
  obtain ⟨kd, ag, tr, n, gd, ⟨id, lock⟩⟩ := r
  have hp : Pins H a l lock := hp
  refine TrydvcJ Tryd.func22 (by kernel_rfl) (by kernel_rfl) _ rfl (fun base K => vd22 kd ag tr n id gd a l c base H K) fun base hb => ?_
  intro _
  refine (cRefRecCheck (r := ⟨kd, ag, tr, n, gd, ⟨id, lock⟩⟩) hp).int1 fun H1 e1 hN1 => ⟨fun h => ?_, fun h => ?_⟩
  · rw [if_neg h]; rfl
  have hz := Decidable.not_not.1 h
  rw [if_pos hz, hz]
  have hnn := recErr_nums hz
  have hlk := recErr_lock hz
  refine fun _ => ⟨_, rfl, goodNo gd, gd, by cases gd <;> rfl, fun g H2 hN2 hg hH2 => ?_⟩
  have hS : Sl RInt 1 H2 (some ⟨g, 0, none⟩) 6 (recNums ⟨kd, ag, tr, n, gd, ⟨id, lock⟩⟩) := sl_of_boxE (enc := fun n => [i64 n]) (sz := 1) (fun _ => rfl) hH2 rfl (by omega)
  generalize hrn : recNums ⟨kd, ag, tr, n, gd, ⟨id, lock⟩⟩ = ns at hS hnn
  have hnl : ns.length = 6 := hS.len
  refine ⟨fun vs H' => ∃ m : Nat, vs = [str (numText (ns.take m)), i64 m] ∧ m ≤ 6 ∧ Ext H2 H', upTo 6 1, ⟨0, rfl, by omega, Ext.refl _⟩, fun s n3 H3 hN3 hI => ?_⟩
  obtain ⟨m, hvs, hm, hE⟩ := hI
  obtain ⟨rfl, rfl⟩ : s = ⟨(numText (ns.take m)).toArray⟩ ∧ n3 = (m : Int) := by simpa [str] using hvs
  have hlen := numText_len (l := ns.take m) fun x hx => hnn x (List.mem_of_mem_take hx)
  have htl : (ns.take m).length ≤ 6 := by rw [List.length_take]; omega
  refine ⟨fun hlt => hS.int hE (by omega) hlt fun x hx => ?_, fun hge => ?_⟩
  · rw [Int.toNat_natCast] at hx
    have hxr := hnn x (List.mem_of_getElem? hx)
    have hxl := itoa_short3 (n := x) hxr.1 (by omega)
    refine (l_itoa (hL.ext hN3.ext) (by omega) (by omega)).str1 fun H4 e4 hN4 => ⟨_, runs_add rfl (by simp only [List.length_cons, List.length_nil]; omega), _, runs_add (c := numText (ns.take (m + 1))) (by rw [take_at hx, numText_snoc]) (by simp only [List.length_append, List.length_cons, List.length_nil]; omega), ?_⟩
    rintro r rfl
    rw [wrap_in (by omega) (by omega)]
    exact ⟨rfl, ⟨m + 1, rfl, by omega, Ext.trans hE e4⟩, by simp [upTo]; omega⟩
  · obtain rfl : m = 6 := by omega
    rw [List.take_of_length_le (by omega)] at hlen ⊢
    have hll : (lockText lock).length ≤ 72 := lockText_len hlk
    refine ⟨_, runs_add rfl (by simp only [List.length_cons, List.length_nil]; omega), (cLockText (hL.ext hN3.ext) (hp.ext' hN3.ext) hlk).str1 fun H4 e4 hN4 => ⟨_, runs_add (c := recText ⟨kd, ag, tr, n, gd, ⟨id, lock⟩⟩) (by rw [recText_eq, hrn]; simp) (by simp only [List.length_append, List.length_cons, List.length_nil]; omega), rfl⟩⟩
theorem cNotePrint {a : Option Addr} {l c : Nat} {r : Recd} (hp : Pins H a l r.rel.lock) : Spec Tryd.prog 18 [recArg r a l c] H fun v _ => v = .tuple #[str (if recErr r = 0 then recText r else []), i64 (recErr r)] := by
  obtain ⟨kd, ag, tr, n, gd, ⟨id, lock⟩⟩ := r
  have hp : Pins H a l lock := hp
  refine TrydvcJ Tryd.func18 (by kernel_rfl) (by kernel_rfl) _ rfl (fun base K => vd18 kd ag tr n id gd a l c base H K) fun base hb => ?_
  intro _
  refine (cRecCheck (r := ⟨kd, ag, tr, n, gd, ⟨id, lock⟩⟩) hp).int1 fun H1 e1 hN1 => ⟨fun h => ?_, fun h => ?_⟩
  · rw [if_neg h]; rfl
  have hz := Decidable.not_not.1 h
  rw [if_pos hz, hz]
  have hnn := recErr_nums hz
  have hlk := recErr_lock hz
  cases gd with
  | true =>
    refine ⟨fun _ => ?_, fun h => (by cases h)⟩
    intro b
    generalize hrn : recNums ⟨kd, ag, tr, n, true, ⟨id, lock⟩⟩ = ns at hnn
    have hnl : ns.length = 6 := by rw [← hrn]; rfl
    have hget : ∀ (m : Nat) (x : Int), ns[m]? = some x → ([.int .i64 kd, .int .i64 ag, .int .i64 tr, .int .i64 n, .int .i64 1, .int .i64 id] : List Value)[m]? = some (.int .i64 x) := fun m x hx => by
      have e : ([.int .i64 kd, .int .i64 ag, .int .i64 tr, .int .i64 n, .int .i64 1, .int .i64 id] : List Value) = ns.map i64 := by rw [← hrn]; rfl
      rw [e, List.getElem?_map, hx]; rfl
    refine ⟨fun vs H' => ∃ (m : Nat) (p : Option Addr) (a3 : Option Addr) (c3 : Nat), vs = [i64 m, .agg #[.pointer p, .slice a3 (numText (ns.take m)).length c3]] ∧ m ≤ 6 ∧ (p = none ∨ p = some ⟨b, 0, none⟩) ∧ Row base H' 5 1 a3 (numText (ns.take m)).length c3 (u8s (numText (ns.take m))), upTo 6 0,
      ⟨0, none, none, 0, rfl, by omega, .inl rfl, Row.nil⟩, fun n2 v a3 n3 c3 H2 hN2 hI => ?_⟩
    obtain ⟨m, p, a3', c3', hvs, hm, hpp, hR⟩ := hI
    obtain ⟨rfl, rfl, rfl, rfl, rfl⟩ : n2 = (m : Int) ∧ v = .pointer p ∧ a3 = a3' ∧ n3 = (numText (ns.take m)).length ∧ c3 = c3' := by simpa using hvs
    have hlen := numText_len (l := ns.take m) fun x hx => hnn x (List.mem_of_mem_take hx)
    have htl : (ns.take m).length ≤ 6 := by rw [List.length_take]; omega
    refine ⟨fun hlt => ⟨by omega, hlt, ?_⟩, fun hge => ?_⟩
    · have hmn : m < ns.length := by omega
      have hx : ns[m]? = some ns[m] := List.getElem?_eq_getElem hmn
      generalize ns[m] = x at hx
      have hxr := hnn x (List.mem_of_getElem? hx)
      have hxl := itoa_short3 (n := x) hxr.1 (by omega)
      refine ⟨x, by rw [Int.toNat_natCast, Nat.mul_one]; exact hget m x hx, (l_itoa (hL.ext hN2.ext) (by omega) (by omega)).str1 fun H3 e3 hN3 => ⟨_, runs_add rfl (by simp only [List.length_cons, List.length_nil]; omega), ?_⟩⟩
      refine (cCopyCheck (v := .slice a3 (numText (ns.take m)).length c3) hpp).mono fun r css H4 e4 hq => ?_
      obtain ⟨rfl, rfl, rfl⟩ := hq
      refine ⟨rfl, _, _, _, _, rfl, fun hN4 => ⟨_, hR.ext e3, by rw [size_mk]; simp only [List.length_append, List.length_cons, List.length_nil]; omega, fun a6 c6 H6 hG6 hR6 => ?_⟩⟩
      rintro r rfl
      rw [wrap_in (by omega) (by omega)]
      have e6 : numText (ns.take (m + 1)) = numText (ns.take m) ++ (Lib.itoa x ++ [32]) := by rw [take_at hx, numText_snoc]
      have e7 : (numText (ns.take (m + 1))).length = (numText (ns.take m)).length + (⟨(Lib.itoa x ++ [32]).toArray⟩ : ByteArray).size := by rw [e6, List.length_append]; rfl
      refine ⟨rfl, ⟨m + 1, some ⟨b, 0, none⟩, a6, c6, by rw [e7]; rfl, by omega, .inr rfl, ?_⟩, by simp [upTo]; omega⟩
      rw [e7, e6]
      have e8 : u8s (numText (ns.take m) ++ (Lib.itoa x ++ [32])) = u8s (numText (ns.take m)) ++ u8s (⟨(Lib.itoa x ++ [32]).toArray⟩ : ByteArray).data.toList := by rw [data_mk]; simp [u8s]
      rw [e8]
      exact hR6
    · obtain rfl : m = 6 := by omega
      rw [List.take_of_length_le (by omega)] at hlen hR ⊢
      have hll : (lockText lock).length ≤ 72 := lockText_len hlk
      refine (cLockPrint (hL.ext hN2.ext) (hp.ext' hN2.ext)).strE fun H3 e3 hN3 => ⟨rfl, ?_, numText ns, hR.ext e3, fun H4 _ _ => ?_⟩
      · have : numText ns ≠ [] := by
          intro e
          cases ns with
          | nil => simp at hnl
          | cons x t => unfold numText at e; simp at e
        exact List.length_pos_iff.2 this
      · rw [if_pos hlk, hlk]
        exact ⟨_, runs_add rfl (by simp only [List.length_cons, List.length_nil]; omega), _, runs_add (c := recText ⟨kd, ag, tr, n, true, ⟨id, lock⟩⟩) (by rw [recText_eq, hrn]; simp) (by simp only [List.length_append, List.length_cons, List.length_nil]; omega), rfl⟩
  | false =>
    refine ⟨fun h => (by cases h), fun _ => ?_⟩
    intro b
    generalize hrn : recNums ⟨kd, ag, tr, n, false, ⟨id, lock⟩⟩ = ns at hnn
    have hnl : ns.length = 6 := by rw [← hrn]; rfl
    have hget : ∀ (m : Nat) (x : Int), ns[m]? = some x → ([.int .i64 kd, .int .i64 ag, .int .i64 tr, .int .i64 n, .int .i64 0, .int .i64 id] : List Value)[m]? = some (.int .i64 x) := fun m x hx => by
      have e : ([.int .i64 kd, .int .i64 ag, .int .i64 tr, .int .i64 n, .int .i64 0, .int .i64 id] : List Value) = ns.map i64 := by rw [← hrn]; rfl
      rw [e, List.getElem?_map, hx]; rfl
    refine ⟨fun vs H' => ∃ (m : Nat) (p : Option Addr) (a3 : Option Addr) (c3 : Nat), vs = [i64 m, .agg #[.pointer p, .slice a3 (numText (ns.take m)).length c3]] ∧ m ≤ 6 ∧ (p = none ∨ p = some ⟨b, 0, none⟩) ∧ Row base H' 5 1 a3 (numText (ns.take m)).length c3 (u8s (numText (ns.take m))), upTo 6 0,
      ⟨0, none, none, 0, rfl, by omega, .inl rfl, Row.nil⟩, fun n2 v a3 n3 c3 H2 hN2 hI => ?_⟩
    obtain ⟨m, p, a3', c3', hvs, hm, hpp, hR⟩ := hI
    obtain ⟨rfl, rfl, rfl, rfl, rfl⟩ : n2 = (m : Int) ∧ v = .pointer p ∧ a3 = a3' ∧ n3 = (numText (ns.take m)).length ∧ c3 = c3' := by simpa using hvs
    have hlen := numText_len (l := ns.take m) fun x hx => hnn x (List.mem_of_mem_take hx)
    have htl : (ns.take m).length ≤ 6 := by rw [List.length_take]; omega
    refine ⟨fun hlt => ⟨by omega, hlt, ?_⟩, fun hge => ?_⟩
    · have hmn : m < ns.length := by omega
      have hx : ns[m]? = some ns[m] := List.getElem?_eq_getElem hmn
      generalize ns[m] = x at hx
      have hxr := hnn x (List.mem_of_getElem? hx)
      have hxl := itoa_short3 (n := x) hxr.1 (by omega)
      refine ⟨x, by rw [Int.toNat_natCast, Nat.mul_one]; exact hget m x hx, (l_itoa (hL.ext hN2.ext) (by omega) (by omega)).str1 fun H3 e3 hN3 => ⟨_, runs_add rfl (by simp only [List.length_cons, List.length_nil]; omega), ?_⟩⟩
      refine (cCopyCheck (v := .slice a3 (numText (ns.take m)).length c3) hpp).mono fun r css H4 e4 hq => ?_
      obtain ⟨rfl, rfl, rfl⟩ := hq
      refine ⟨rfl, _, _, _, _, rfl, fun hN4 => ⟨_, hR.ext e3, by rw [size_mk]; simp only [List.length_append, List.length_cons, List.length_nil]; omega, fun a6 c6 H6 hG6 hR6 => ?_⟩⟩
      rintro r rfl
      rw [wrap_in (by omega) (by omega)]
      have e6 : numText (ns.take (m + 1)) = numText (ns.take m) ++ (Lib.itoa x ++ [32]) := by rw [take_at hx, numText_snoc]
      have e7 : (numText (ns.take (m + 1))).length = (numText (ns.take m)).length + (⟨(Lib.itoa x ++ [32]).toArray⟩ : ByteArray).size := by rw [e6, List.length_append]; rfl
      refine ⟨rfl, ⟨m + 1, some ⟨b, 0, none⟩, a6, c6, by rw [e7]; rfl, by omega, .inr rfl, ?_⟩, by simp [upTo]; omega⟩
      rw [e7, e6]
      have e8 : u8s (numText (ns.take m) ++ (Lib.itoa x ++ [32])) = u8s (numText (ns.take m)) ++ u8s (⟨(Lib.itoa x ++ [32]).toArray⟩ : ByteArray).data.toList := by rw [data_mk]; simp [u8s]
      rw [e8]
      exact hR6
    · obtain rfl : m = 6 := by omega
      rw [List.take_of_length_le (by omega)] at hlen hR ⊢
      have hll : (lockText lock).length ≤ 72 := lockText_len hlk
      refine (cLockPrint (hL.ext hN2.ext) (hp.ext' hN2.ext)).strE fun H3 e3 hN3 => ⟨rfl, ?_, numText ns, hR.ext e3, fun H4 _ _ => ?_⟩
      · have : numText ns ≠ [] := by
          intro e
          cases ns with
          | nil => simp at hnl
          | cons x t => unfold numText at e; simp at e
        exact List.length_pos_iff.2 this
      · rw [if_pos hlk, hlk]
        exact ⟨_, runs_add rfl (by simp only [List.length_cons, List.length_nil]; omega), _, runs_add (c := recText ⟨kd, ag, tr, n, false, ⟨id, lock⟩⟩) (by rw [recText_eq, hrn]; simp) (by simp only [List.length_append, List.length_cons, List.length_nil]; omega), rfl⟩
end
end Go.Vg
