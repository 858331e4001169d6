/- What is proved here: the contracts of strings.Contains of one byte, and of note.Check, CheckRec. -/
import Derived.Test.YtglnjkkaojhgnaaGreatDoorC9
import Derived.Test.YtglnjkkaojhgnaaGreatDoorC10
import Derived.Test.YtglnjkkaojhgnaaGreatDoorV5
import Derived.Lib.Bytealg
import Derived.Laws.Externs
import Derived.Laws.Strings
set_option linter.unusedSimpArgs false
set_option maxRecDepth 100000
set_option linter.unusedVariables false
namespace Go.Vg
open Go Go.Proofs
theorem cIndexByte {H : Heap} (s : ByteArray) (c : Int) : Spec Tryz.prog 148 [.string s, .int .u8 c] H fun v _ => v = i64 (Lib.indexByte s.data.toList c.toNat.toUInt8) := by
  refine TryzvcJ Tryz.func148 (by kernel_rfl) (by kernel_rfl) _ rfl (fun base K => vc158 s c base H K) fun base hb => ⟨_, fun w _ => ?_, rfl⟩
  show (callFunc 168 #[.string s, .int .u8 c]).run Tryz.prog w = _
  rw [run_callFunc_extern Tryz.func168 (by kernel_rfl) (by kernel_rfl) (by kernel_rfl) (e := Extern.BytealgIndexByte.indexByte) (by kernel_rfl), Lib.run_indexByteString]
  rfl
theorem eqStr {xo yo : Operand} {s t : ByteArray} : RunsTo Tryz.prog (binRun .eql 9 xo yo (.string s) (.string t)) (.bool (s.toList == t.toList)) := by
  intro w
  have hg : (eqGuard .eql 9 xo yo (.string s) (.string t)).run Tryz.prog w = .ok () w := by simp [eqGuard]
  simp only [binRun, Sem.run_bind, hg, Result.andThen_ok]
  have := run_equalIn_string (P := Tryz.prog) w 9999 9 s t Tryz.underlying9
  simp [binOp, Op.equal, this, Op.stringOp]
theorem cStrIndex {H : Heap} (s : ByteArray) (c : UInt8) : Spec Tryz.prog 125 [.string s, .string ⟨#[c]⟩] H fun v _ => v = i64 (Lib.indexByte s.data.toList c) := by
  refine TryzvcJ Tryz.func125 (by kernel_rfl) (by kernel_rfl) _ rfl (fun base K => vc157 s c base H K) fun base hb => ?_
  have h1 : ((ByteArray.mk #[c]).size : Int) = 1 := rfl
  refine ⟨((ByteArray.mk #[c]).toList == s.toList) = true, ⟨fun h => absurd h (by rw [h1]; decide), fun _ => ⟨_, eqStr, fun _ _ h => h, Iff.rfl⟩⟩, fun h => ?_, fun h => ⟨fun _ => ⟨(c.toNat : Int), fun w => ?_, (cIndexByte s (c.toNat : Int)).int1 fun H1 _ _ => ?_⟩, fun h' => absurd h1 h'⟩⟩
  · rw [ByteArray.toList_eq, ByteArray.toList_eq, beq_iff_eq] at h
    rw [← h]
    simp [Lib.indexByte]
  · rw [run_index_string w 9 (ByteArray.mk #[c]) .i64 0 Tryz.underlying9, dif_pos ⟨by omega, by rw [h1]; omega⟩]
    rfl
  · congr 2
    simp
theorem cContains1 {H : Heap} (s : ByteArray) (c : UInt8) : Spec Tryz.prog 79 [.string s, .string ⟨#[c]⟩] H fun v _ => v = .bool (decide (0 ≤ Lib.indexByte s.data.toList c)) := by
  have h154 : Spec Tryz.prog 110 [.string s, .string ⟨#[c]⟩] H fun v _ => v = i64 (Lib.indexByte s.data.toList c) := by
    refine TryzvcJ Tryz.func110 (by kernel_rfl) (by kernel_rfl) _ rfl (fun base K => vc154 s ⟨#[c]⟩ base H K) fun base hb => ?_
    exact (cStrIndex s c).int1 fun H1 _ _ => rfl
  refine TryzvcJ Tryz.func79 (by kernel_rfl) (by kernel_rfl) _ rfl (fun base K => vc144 s ⟨#[c]⟩ base H K) fun base hb => ?_
  exact h154.int1 fun H1 _ _ => rfl
/-! ### uses -/
def usesB (k : Int) : ByteArray := if k = 1 then ⟨#[116, 114]⟩ else if k = 2 then ⟨#[116]⟩ else if k = 3 then ⟨#[116, 103]⟩ else if k = 4 then ⟨#[114]⟩ else if k = 5 then ⟨#[110]⟩ else if k = 6 then ⟨#[97, 116]⟩ else if k = 7 then ⟨#[97, 116, 103]⟩ else ⟨#[]⟩
theorem nine {k : Int} (h1 : 1 ≤ k) (h9 : k ≤ 9) : k = 1 ∨ k = 2 ∨ k = 3 ∨ k = 4 ∨ k = 5 ∨ k = 6 ∨ k = 7 ∨ k = 8 ∨ k = 9 := by omega
theorem cUses {H : Heap} {k : Int} (h1 : 1 ≤ k) (h9 : k ≤ 9) : Spec Tryz.prog 80 [.int .i64 k] H fun v _ => v = .string (usesB k) := by
  refine TryzvcJ Tryz.func80 (by kernel_rfl) (by kernel_rfl) _ rfl (fun base K => vc145 k base H K) fun base hb => ⟨by omega, by omega, usesB k, ?_, rfl⟩
  rcases nine h1 h9 with rfl | rfl | rfl | rfl | rfl | rfl | rfl | rfl | rfl <;> rfl
theorem cHas143 {H : Heap} {k : Int} (h1 : 1 ≤ k) (h9 : k ≤ 9) (c : UInt8) {p : Nat} (hp : H.cell p 0 = some (i64 k)) : Spec Tryz.prog 78 [.string ⟨#[c]⟩, .pointer (some ⟨p, 0, none⟩)] H fun v _ => v = .bool (decide (0 ≤ Lib.indexByte (usesB k).data.toList c)) := by
  refine TryzvcJ Tryz.func78 (by kernel_rfl) (by kernel_rfl) _ rfl (fun base K => vc143 ⟨#[c]⟩ p base H K) fun base hb => ⟨k, hp, ?_⟩
  refine (cUses h1 h9).mono fun v H1 e1 hv => ⟨_, hv, fun hN1 => ?_⟩
  exact (cContains1 (usesB k) c).bool1 fun H2 _ _ => rfl
theorem cHas {G : Bool → Heap → Prop} {k : Int} (h1 : 1 ≤ k) (h9 : k ≤ 9) {rest : List Value} {xs : List Bx} {b base : Nat} {Hb H : Heap} (e0 : Ext Hb H) {c : UInt8} {P : Prop} [Decidable P] (hP : 0 ≤ Lib.indexByte (usesB k).data.toList c ↔ P) (hG : ∀ H', Ext Hb H' → G (decide P) H') :
    true = true ∧ ∀ Hl, Vg.Next 0 H Hl → Hl b = some (boxKB 29 (.int .i64 k :: rest)) ∧ True → Spec Tryz.prog 78 [.string ⟨#[c]⟩, .pointer (some ⟨b, 0, none⟩)] Hl fun v H'' => ∃ b1 : Bool, v = .bool b1 ∧ ∀ H', Vg.Next base H H' → (∀ (b2 : Nat) (k : KB), H'' b2 = some k → (∀ x : Bx, x ∈ xs → b2 ≠ Bx.b x) → H' b2 = some k) → G b1 H' :=
  ⟨rfl, fun Hl hN hb => (cHas143 h1 h9 c (p := b) (by unfold Heap.cell; rw [hb.1]; rfl)).mono fun v H2 _ hv => ⟨decide P, by rw [hv]; congr 1; exact decide_eq_decide.2 hP, fun H' hN' _ => hG H' (e0.trans hN'.ext)⟩⟩
section
variable {k : Int} (h1 : 1 ≤ k) (h9 : k ≤ 9)
include h1 h9
theorem hasA : 0 ≤ Lib.indexByte (usesB k).data.toList 97 ↔ (k = 6 ∨ k = 7) := by rcases nine h1 h9 with rfl | rfl | rfl | rfl | rfl | rfl | rfl | rfl | rfl <;> decide
theorem hasT : 0 ≤ Lib.indexByte (usesB k).data.toList 116 ↔ (k = 1 ∨ k = 2 ∨ k = 3 ∨ k = 6 ∨ k = 7) := by rcases nine h1 h9 with rfl | rfl | rfl | rfl | rfl | rfl | rfl | rfl | rfl <;> decide
theorem hasN : 0 ≤ Lib.indexByte (usesB k).data.toList 110 ↔ k = 5 := by rcases nine h1 h9 with rfl | rfl | rfl | rfl | rfl | rfl | rfl | rfl | rfl <;> decide
theorem hasG : 0 ≤ Lib.indexByte (usesB k).data.toList 103 ↔ (k = 3 ∨ k = 7) := by rcases nine h1 h9 with rfl | rfl | rfl | rfl | rfl | rfl | rfl | rfl | rfl <;> decide
theorem hasR : 0 ≤ Lib.indexByte (usesB k).data.toList 114 ↔ (k = 1 ∨ k = 4) := by rcases nine h1 h9 with rfl | rfl | rfl | rfl | rfl | rfl | rfl | rfl | rfl <;> decide
end
theorem cRecCheck {H : Heap} {a : Option Addr} {l c : Nat} {r : Recd} (hp : Pins H a l r.rel.lock) : Spec Tryz.prog 43 [recArg r a l c] H fun v _ => v = i64 (recErr r) := by
  obtain ⟨kd, ag, tr, n, gd, ⟨id, lock⟩⟩ := r
  have hp : Pins H a l lock := hp
  refine TryzvcJ Tryz.func43 (by kernel_rfl) (by kernel_rfl) _ rfl (fun base K => vc124 kd ag tr n id gd a l c base H K) fun base hb => ?_
  have hpl := hp.len
  have hnr : noRel ⟨id, lock⟩ ↔ id = 0 ∧ l = 0 := by unfold noRel; rw [len_zero hpl]
  intro b
  refine ⟨kd < 1 ∨ 9 < kd, ⟨fun _ => ⟨rfl, fun _ _ h => h, by omega⟩, fun _ => ⟨rfl, fun _ _ h => h, by omega⟩⟩, fun h => by rw [recErr, if_pos h], fun h => ?_⟩
  have h1 : 1 ≤ kd := by omega
  have h9 : kd ≤ 9 := by omega
  have hA := hasA h1 h9
  have hT := hasT h1 h9
  have hN := hasN h1 h9
  have hG := hasG h1 h9
  have hR := hasR h1 h9
  refine ⟨recForm ⟨kd, ag, tr, n, gd, ⟨id, lock⟩⟩, ?_, fun h2 => by rw [recErr, if_neg h, if_pos h2], fun h2 => ?_⟩
  · have hF : recForm ⟨kd, ag, tr, n, gd, ⟨id, lock⟩⟩ ↔ (ag ≠ 0 ∧ ¬ (kd = 6 ∨ kd = 7)) ∨ (tr ≠ 0 ∧ ¬ (kd = 1 ∨ kd = 2 ∨ kd = 3 ∨ kd = 6 ∨ kd = 7)) ∨ (n ≠ 0 ∧ ¬ kd = 5) ∨ (gd = true ∧ ¬ (kd = 3 ∨ kd = 7)) ∨ (¬ (id = 0 ∧ l = 0) ∧ ¬ (kd = 1 ∨ kd = 4)) := by unfold recForm; rw [hnr]
    generalize recForm ⟨kd, ag, tr, n, gd, ⟨id, lock⟩⟩ = φ at hF
    clear hnr hpl hp h
    repeat' (first
      | refine cHas h1 h9 (Hb := H) (by first | assumption | exact fun _ _ h => h) hA fun _ _ => ?_
      | refine cHas h1 h9 (Hb := H) (by first | assumption | exact fun _ _ h => h) hT fun _ _ => ?_
      | refine cHas h1 h9 (Hb := H) (by first | assumption | exact fun _ _ h => h) hN fun _ _ => ?_
      | refine cHas h1 h9 (Hb := H) (by first | assumption | exact fun _ _ h => h) hG fun _ _ => ?_
      | refine cHas h1 h9 (Hb := H) (by first | assumption | exact fun _ _ h => h) hR fun _ _ => ?_
      | exact ⟨rfl, by first | assumption | exact fun _ _ h => h, by clear hA hT hN hG hR; grind⟩
      | intro _
      | refine ⟨?_, ?_⟩)
  refine ⟨recRange ⟨kd, ag, tr, n, gd, ⟨id, lock⟩⟩, ?_, fun h3 => by rw [recErr, if_neg h, if_neg h2, if_pos h3], fun h3 => ?_⟩
  · have hF : recRange ⟨kd, ag, tr, n, gd, ⟨id, lock⟩⟩ ↔ ag < 0 ∨ 6 ≤ ag ∨ ((kd = 1 ∨ kd = 2 ∨ kd = 3 ∨ kd = 6 ∨ kd = 7) ∧ (tr < 1 ∨ 200 < tr)) ∨ (kd = 5 ∧ (n < 1 ∨ 6 < n)) := Iff.rfl
    generalize recRange ⟨kd, ag, tr, n, gd, ⟨id, lock⟩⟩ = φ at hF
    clear hnr hpl hp h h2
    repeat' (first
      | refine cHas h1 h9 (Hb := H) (by first | assumption | exact fun _ _ h => h) hT fun _ _ => ?_
      | refine cHas h1 h9 (Hb := H) (by first | assumption | exact fun _ _ h => h) hN fun _ _ => ?_
      | exact ⟨rfl, by first | assumption | exact fun _ _ h => h, by clear hA hT hN hG hR; grind⟩
      | intro _
      | refine ⟨?_, ?_⟩)
  refine cHas h1 h9 (Hb := H) (fun _ _ h => h) hR fun H2 e2 => ⟨fun hb => ?_, fun hb => ?_⟩
  · refine (cNoteRelease (hp.ext' e2) id).int1 fun H3 _ _ => ?_
    rw [recErr, if_neg h, if_neg h2, if_neg h3, if_pos (by simpa using hb)]
  · rw [recErr, if_neg h, if_neg h2, if_neg h3, if_neg (by simpa using hb)]
/-! ### The document's CheckRec -/
def usesU (k : Int) : ByteArray := if k = 1 then ⟨#[84, 82]⟩ else if k = 2 then ⟨#[84]⟩ else if k = 3 then ⟨#[84, 71]⟩ else if k = 4 then ⟨#[82]⟩ else if k = 5 then ⟨#[78]⟩ else if k = 6 then ⟨#[65, 84]⟩ else if k = 7 then ⟨#[65, 84, 71]⟩ else ⟨#[]⟩
theorem cHas146 {H : Heap} (s : ByteArray) (c : UInt8) {p : Nat} (hp : H.cell p 0 = some (.string s)) : Spec Tryz.prog 107 [.string ⟨#[c]⟩, .pointer (some ⟨p, 0, none⟩)] H fun v _ => v = .bool (decide (0 ≤ Lib.indexByte s.data.toList c)) := by
  refine TryzvcJ Tryz.func107 (by kernel_rfl) (by kernel_rfl) _ rfl (fun base K => vc146 ⟨#[c]⟩ p base H K) fun base hb => ⟨s, hp, ?_⟩
  exact (cContains1 s c).bool1 fun H2 _ _ => rfl
theorem cHasU {G : Bool → Heap → Prop} {s : ByteArray} {xs : List Bx} {b base : Nat} {Hb H : Heap} (e0 : Ext Hb H) {c : UInt8} {P : Prop} [Decidable P] (hP : 0 ≤ Lib.indexByte s.data.toList c ↔ P) (hG : ∀ H', Ext Hb H' → G (decide P) H') :
    true = true ∧ ∀ Hl, Vg.Next 0 H Hl → Hl b = some (boxKB 9 [.string s]) ∧ True → Spec Tryz.prog 107 [.string ⟨#[c]⟩, .pointer (some ⟨b, 0, none⟩)] Hl fun v H'' => ∃ b1 : Bool, v = .bool b1 ∧ ∀ H', Vg.Next base H H' → (∀ (b2 : Nat) (k : KB), H'' b2 = some k → (∀ x : Bx, x ∈ xs → b2 ≠ Bx.b x) → H' b2 = some k) → G b1 H' :=
  ⟨rfl, fun Hl hN hb => (cHas146 s c (p := b) (by unfold Heap.cell; rw [hb.1]; rfl)).mono fun v H2 _ hv => ⟨decide P, by rw [hv]; congr 1; exact decide_eq_decide.2 hP, fun H' hN' _ => hG H' (e0.trans hN'.ext)⟩⟩
section
variable {k : Int} (h1 : 1 ≤ k) (h9 : k ≤ 9)
include h1 h9
theorem hasUA : 0 ≤ Lib.indexByte (usesU k).data.toList 65 ↔ (k = 6 ∨ k = 7) := by rcases nine h1 h9 with rfl | rfl | rfl | rfl | rfl | rfl | rfl | rfl | rfl <;> decide
theorem hasUT : 0 ≤ Lib.indexByte (usesU k).data.toList 84 ↔ (k = 1 ∨ k = 2 ∨ k = 3 ∨ k = 6 ∨ k = 7) := by rcases nine h1 h9 with rfl | rfl | rfl | rfl | rfl | rfl | rfl | rfl | rfl <;> decide
theorem hasUN : 0 ≤ Lib.indexByte (usesU k).data.toList 78 ↔ k = 5 := by rcases nine h1 h9 with rfl | rfl | rfl | rfl | rfl | rfl | rfl | rfl | rfl <;> decide
theorem hasUG : 0 ≤ Lib.indexByte (usesU k).data.toList 71 ↔ (k = 3 ∨ k = 7) := by rcases nine h1 h9 with rfl | rfl | rfl | rfl | rfl | rfl | rfl | rfl | rfl <;> decide
theorem hasUR : 0 ≤ Lib.indexByte (usesU k).data.toList 82 ↔ (k = 1 ∨ k = 4) := by rcases nine h1 h9 with rfl | rfl | rfl | rfl | rfl | rfl | rfl | rfl | rfl <;> decide
end
theorem usesU_get (k : Int) : mapGet (.string ⟨#[]⟩) (.int .i64 k) [i64 1, .string ⟨#[84, 82]⟩, i64 2, .string ⟨#[84]⟩, i64 3, .string ⟨#[84, 71]⟩, i64 4, .string ⟨#[82]⟩, i64 5, .string ⟨#[78]⟩, i64 6, .string ⟨#[65, 84]⟩, i64 7, .string ⟨#[65, 84, 71]⟩, i64 8, .string ⟨#[]⟩, i64 9, .string ⟨#[]⟩] = some (.string (usesU k), decide (1 ≤ k ∧ k ≤ 9)) := by
  by_cases h : 1 ≤ k ∧ k ≤ 9
  · rcases nine h.1 h.2 with rfl | rfl | rfl | rfl | rfl | rfl | rfl | rfl | rfl <;> rfl
  · rw [decide_eq_false h]
    have hU : usesU k = ⟨#[]⟩ := by
      unfold usesU
      rw [if_neg (by omega), if_neg (by omega), if_neg (by omega), if_neg (by omega), if_neg (by omega), if_neg (by omega), if_neg (by omega)]
    rw [hU]
    simp only [mapGet, keySame, if_true]
    rw [decide_eq_false (show ¬ k = (1 : Int) by omega), decide_eq_false (show ¬ k = (2 : Int) by omega), decide_eq_false (show ¬ k = (3 : Int) by omega), decide_eq_false (show ¬ k = (4 : Int) by omega), decide_eq_false (show ¬ k = (5 : Int) by omega),
      decide_eq_false (show ¬ k = (6 : Int) by omega), decide_eq_false (show ¬ k = (7 : Int) by omega), decide_eq_false (show ¬ k = (8 : Int) by omega), decide_eq_false (show ¬ k = (9 : Int) by omega)]
theorem cRefRecCheck {H : Heap} {a : Option Addr} {l c : Nat} {r : Recd} (hp : Pins H a l r.rel.lock) : Spec Tryz.prog 72 [recArg r a l c] H fun v _ => v = i64 (recErr r) := by
  obtain ⟨kd, ag, tr, n, gd, ⟨id, lock⟩⟩ := r
  have hp : Pins H a l lock := hp
  refine TryzvcJ Tryz.func72 (by kernel_rfl) (by kernel_rfl) _ rfl (fun base K => vc127 kd ag tr n id gd a l c base H K) fun base hb => ?_
  have hpl := hp.len
  have hnr : noRel ⟨id, lock⟩ ↔ id = 0 ∧ l = 0 := by unfold noRel; rw [len_zero hpl]
  intro b b1
  refine ⟨_, rfl, _, rfl, _, rfl, _, rfl, _, rfl, _, rfl, _, rfl, _, rfl, _, rfl, usesU kd, _, usesU_get kd, fun b3 => ⟨fun hk => ⟨fun _ => ?_, fun h => absurd hk h⟩, fun hk => ?_⟩⟩
  · have : ¬ (1 ≤ kd ∧ kd ≤ 9) := by simpa using hk
    rw [recErr, if_pos (show kd < 1 ∨ 9 < kd by omega)]
  have h19 : 1 ≤ kd ∧ kd ≤ 9 := by simpa using hk
  obtain ⟨h1, h9⟩ := h19
  have h : ¬ (kd < 1 ∨ 9 < kd) := by omega
  have hA := hasUA h1 h9
  have hT := hasUT h1 h9
  have hN := hasUN h1 h9
  have hG := hasUG h1 h9
  have hR := hasUR h1 h9
  have bad : recForm ⟨kd, ag, tr, n, gd, ⟨id, lock⟩⟩ → i64 4 = i64 (recErr ⟨kd, ag, tr, n, gd, ⟨id, lock⟩⟩) := fun h2 => by rw [recErr, if_neg h, if_pos h2]
  refine ⟨ag ≠ 0 ∧ ¬ (kd = 6 ∨ kd = 7), ⟨fun g => cHasU (Hb := H) (fun _ _ h => h) hA fun _ e => ⟨rfl, e, by grind⟩, fun g => ⟨rfl, fun _ _ h => h, by grind⟩⟩, fun g => ⟨fun _ => bad (.inl g), fun g' => absurd g g'⟩, fun g1 => ?_⟩
  refine ⟨tr ≠ 0 ∧ ¬ (kd = 1 ∨ kd = 2 ∨ kd = 3 ∨ kd = 6 ∨ kd = 7), ⟨fun g => cHasU (Hb := H) (fun _ _ h => h) hT fun _ e => ⟨rfl, e, by grind⟩, fun g => ⟨rfl, fun _ _ h => h, by grind⟩⟩, fun g => ⟨fun _ => bad (.inr (.inl g)), fun g' => absurd g g'⟩, fun g2 => ?_⟩
  refine ⟨n ≠ 0 ∧ ¬ kd = 5, ⟨fun g => cHasU (Hb := H) (fun _ _ h => h) hN fun _ e => ⟨rfl, e, by grind⟩, fun g => ⟨rfl, fun _ _ h => h, by grind⟩⟩, fun g => ⟨fun _ => bad (.inr (.inr (.inl g))), fun g' => absurd g g'⟩, fun g3 => ?_⟩
  refine ⟨gd = true ∧ ¬ (kd = 3 ∨ kd = 7), ⟨fun g => cHasU (Hb := H) (fun _ _ h => h) hG fun _ e => ⟨rfl, e, by grind⟩, fun g => ⟨rfl, fun _ _ h => h, by grind⟩⟩, fun g => ⟨fun _ => bad (.inr (.inr (.inr (.inl g)))), fun g' => absurd g g'⟩, fun g4 => ?_⟩
  refine ⟨¬ (id = 0 ∧ l = 0) ∧ ¬ (kd = 1 ∨ kd = 4), ⟨fun g => cHasU (Hb := H) (fun _ _ h => h) hR fun _ e => ⟨rfl, e, by grind⟩, fun g => ⟨fun g' => cHasU (Hb := H) (fun _ _ h => h) hR fun _ e => ⟨rfl, e, by grind⟩, fun g' => ⟨rfl, fun _ _ h => h, by grind⟩⟩⟩, fun g => bad (.inr (.inr (.inr (.inr ⟨by rw [hnr]; exact g.1, g.2⟩)))), fun g5 => ?_⟩
  have h2 : ¬ recForm ⟨kd, ag, tr, n, gd, ⟨id, lock⟩⟩ := by
    unfold recForm
    rw [hnr]
    rintro (q | q | q | q | q)
    · exact g1 q
    · exact g2 q
    · exact g3 q
    · exact g4 q
    · exact g5 q
  have bad3 : recRange ⟨kd, ag, tr, n, gd, ⟨id, lock⟩⟩ → i64 3 = i64 (recErr ⟨kd, ag, tr, n, gd, ⟨id, lock⟩⟩) := fun h3 => by rw [recErr, if_neg h, if_neg h2, if_pos h3]
  refine (cIn ag 0 5).bool1 fun H1 e1 _ => ⟨fun g6 => ⟨fun _ => bad3 ?_, fun g' => absurd g6 g'⟩, fun g6 => ?_⟩
  · have g6 : ¬ (0 ≤ ag ∧ ag ≤ 5) := by simpa [inR] using g6
    by_cases q : ag < 0
    · exact .inl q
    · exact .inr (.inl (show 6 ≤ ag by omega))
  have g6 : 0 ≤ ag ∧ ag ≤ 5 := by simpa [inR] using g6
  refine ⟨(kd = 1 ∨ kd = 2 ∨ kd = 3 ∨ kd = 6 ∨ kd = 7) ∧ (tr < 1 ∨ 200 < tr), cHasU (Hb := H1) (fun _ _ h => h) hT fun H2 e2 => ⟨fun g => (cIn tr 1 200).bool1 fun H3 e3 _ => ⟨rfl, e2.trans e3, by simp only [inR, decide_eq_false_iff_not]; grind⟩, fun g => ⟨rfl, e2, by grind⟩⟩, fun g => ⟨fun _ => bad3 (.inr (.inr (.inl g))), fun g' => absurd g g'⟩, fun g7 => ?_⟩
  refine ⟨kd = 5 ∧ (n < 1 ∨ 6 < n), cHasU (Hb := H1) (fun _ _ h => h) hN fun H2 e2 => ⟨fun g => (cIn n 1 6).bool1 fun H3 e3 _ => ⟨rfl, e2.trans e3, by simp only [inR, decide_eq_false_iff_not]; grind⟩, fun g => ⟨rfl, e2, by grind⟩⟩, fun g => bad3 (.inr (.inr (.inr g))), fun g8 => ?_⟩
  have h3 : ¬ recRange ⟨kd, ag, tr, n, gd, ⟨id, lock⟩⟩ := by
    rintro (q | q | q | q)
    · exact absurd q (by show ¬ ag < 0; omega)
    · exact absurd q (by show ¬ 6 ≤ ag; omega)
    · exact g7 q
    · exact g8 q
  refine cHasU (Hb := H1) (fun _ _ h => h) hR fun H2 e2 => ⟨fun hb => ?_, fun hb => ?_⟩
  · refine (cRefRelease ((hp.ext' e1).ext' e2) id).int1 fun H3 _ _ => ?_
    rw [recErr, if_neg h, if_neg h2, if_neg h3, if_pos (by simpa using hb)]
  · rw [recErr, if_neg h, if_neg h2, if_neg h3, if_neg (by simpa using hb)]
end Go.Vg
