/- What is proved here: the contracts of strings.Contains of one byte, and of note.Check, CheckRec. -/
import Derived.Test.YtonlnlkkokigiaaP6
import Derived.Test.YtonlnlkkokigiaaC10
import Derived.Test.YtonlnlkkokigiaaV6
import Derived.Lib.Bytealg
import Derived.Laws.Externs
import Derived.Laws.Strings
import Derived.Test.YtonlnlkkokigiaaC9b
import Derived.Test.YtonlnlkkokigiaaC10d
set_option linter.unusedSimpArgs false
set_option maxRecDepth 100000
set_option linter.unusedVariables false
namespace Go.Vg
open Go Go.Proofs
theorem cIndexByte {H : Heap} (s : ByteArray) (c : Int) : Spec Try.prog 158 [.string s, .int .u8 c] H fun v _ => v = i64 (Lib.indexByte s.data.toList c.toNat.toUInt8) := by
  refine TryvcJ Try.func158 (by kernel_rfl) (by kernel_rfl) _ rfl (fun base K => vc158 s c base H K) fun base hb => ⟨_, fun w _ => ?_, rfl⟩
  show (callFunc 162 #[.string s, .int .u8 c]).run Try.prog w = _
  rw [run_callFunc_extern Try.func162 (by kernel_rfl) (by kernel_rfl) (by kernel_rfl) (e := Extern.BytealgIndexByte.indexByte) (by kernel_rfl), Lib.run_indexByteString]
  rfl
theorem eqStr {xo yo : Operand} {s t : ByteArray} : RunsTo Try.prog (binRun .eql 9 xo yo (.string s) (.string t)) (.bool (s.toList == t.toList)) := by
  intro w
  have hg : (eqGuard .eql 9 xo yo (.string s) (.string t)).run Try.prog w = .ok () w := by simp [eqGuard]
  simp only [binRun, Sem.run_bind, hg, Result.andThen_ok]
  have := run_equalIn_string (P := Try.prog) w 9999 9 s t Try.underlying9
  simp [binOp, Op.equal, this, Op.stringOp]
theorem cStrIndex {H : Heap} (s : ByteArray) (c : UInt8) : Spec Try.prog 157 [.string s, .string ⟨#[c]⟩] H fun v _ => v = i64 (Lib.indexByte s.data.toList c) := by
  refine TryvcJ Try.func157 (by kernel_rfl) (by kernel_rfl) _ rfl (fun base K => vc157 s c base H K) fun base hb => ?_
  have h1 : ((ByteArray.mk #[c]).size : Int) = 1 := rfl
  refine ⟨((ByteArray.mk #[c]).toList == s.toList) = true, ⟨fun h => absurd h (by rw [h1]; decide), fun _ => ⟨_, eqStr, fun _ _ h => h, Iff.rfl⟩⟩, fun h => ?_, fun h => ⟨fun _ => ⟨(c.toNat : Int), fun w => ?_, (cIndexByte s (c.toNat : Int)).int1 fun H1 _ _ => ?_⟩, fun h' => absurd h1 h'⟩⟩
  · rw [ByteArray.toList_eq, ByteArray.toList_eq, beq_iff_eq] at h
    rw [← h]
    simp [Lib.indexByte]
  · rw [run_index_string w 9 (ByteArray.mk #[c]) .i64 0 Try.underlying9, dif_pos ⟨by omega, by rw [h1]; omega⟩]
    rfl
  · congr 2
    simp
theorem cContains1 {H : Heap} (s : ByteArray) (c : UInt8) : Spec Try.prog 144 [.string s, .string ⟨#[c]⟩] H fun v _ => v = .bool (decide (0 ≤ Lib.indexByte s.data.toList c)) := by
  have h154 : Spec Try.prog 154 [.string s, .string ⟨#[c]⟩] H fun v _ => v = i64 (Lib.indexByte s.data.toList c) := by
    refine TryvcJ Try.func154 (by kernel_rfl) (by kernel_rfl) _ rfl (fun base K => vc154 s ⟨#[c]⟩ base H K) fun base hb => ?_
    exact (cStrIndex s c).int1 fun H1 _ _ => rfl
  refine TryvcJ Try.func144 (by kernel_rfl) (by kernel_rfl) _ rfl (fun base K => vc144 s ⟨#[c]⟩ base H K) fun base hb => ?_
  exact h154.int1 fun H1 _ _ => rfl
/-! ### uses -/
def usesB (k : Int) : ByteArray := if k = 1 then ⟨#[116, 114]⟩ else if k = 2 then ⟨#[116]⟩ else if k = 3 then ⟨#[116, 103]⟩ else if k = 4 then ⟨#[114]⟩ else if k = 5 then ⟨#[110]⟩ else if k = 6 then ⟨#[97, 116]⟩ else if k = 7 then ⟨#[97, 116, 103]⟩ else ⟨#[]⟩
theorem nine {k : Int} (h1 : 1 ≤ k) (h9 : k ≤ 9) : k = 1 ∨ k = 2 ∨ k = 3 ∨ k = 4 ∨ k = 5 ∨ k = 6 ∨ k = 7 ∨ k = 8 ∨ k = 9 := by omega
theorem cUses {H : Heap} {k : Int} (h1 : 1 ≤ k) (h9 : k ≤ 9) : Spec Try.prog 145 [.int .i64 k] H fun v _ => v = .string (usesB k) := by
  refine TryvcJ Try.func145 (by kernel_rfl) (by kernel_rfl) _ rfl (fun base K => vc145 k base H K) fun base hb => ⟨by omega, by omega, usesB k, ?_, rfl⟩
  rcases nine h1 h9 with rfl | rfl | rfl | rfl | rfl | rfl | rfl | rfl | rfl <;> rfl
theorem cHas143 {H : Heap} {k : Int} (h1 : 1 ≤ k) (h9 : k ≤ 9) (c : UInt8) {p : Nat} (hp : H.cell p 0 = some (i64 k)) : Spec Try.prog 143 [.string ⟨#[c]⟩, .pointer (some ⟨p, 0, none⟩)] H fun v _ => v = .bool (decide (0 ≤ Lib.indexByte (usesB k).data.toList c)) := by
  refine TryvcJ Try.func143 (by kernel_rfl) (by kernel_rfl) _ rfl (fun base K => vc143 ⟨#[c]⟩ p base H K) fun base hb => ⟨k, hp, ?_⟩
  refine (cUses h1 h9).mono fun v H1 e1 hv => ⟨_, hv, fun hN1 => ?_⟩
  exact (cContains1 (usesB k) c).bool1 fun H2 _ _ => rfl
theorem cHas {G : Bool → Heap → Prop} {k : Int} (h1 : 1 ≤ k) (h9 : k ≤ 9) {rest : List Value} {xs : List Bx} {b base : Nat} {Hb H : Heap} (e0 : Ext Hb H) {c : UInt8} {P : Prop} [Decidable P] (hP : 0 ≤ Lib.indexByte (usesB k).data.toList c ↔ P) (hG : ∀ H', Ext Hb H' → G (decide P) H') :
    true = true ∧ ∀ Hl, Vg.Next 0 H Hl → Hl b = some (boxKB 95 (.int .i64 k :: rest)) ∧ True → Spec Try.prog 143 [.string ⟨#[c]⟩, .pointer (some ⟨b, 0, none⟩)] Hl fun v H'' => ∃ b1 : Bool, v = .bool b1 ∧ ∀ H', Vg.Next base H H' → (∀ (b2 : Nat) (k : KB), H'' b2 = some k → (∀ x : Bx, x ∈ xs → b2 ≠ Bx.b x) → H' b2 = some k) → G b1 H' :=
  ⟨rfl, fun Hl hN hb => (cHas143 h1 h9 c (p := b) (by unfold Heap.cell; rw [hb.1]; rfl)).mono fun v H2 _ hv => ⟨decide P, by rw [hv]; congr 1; exact decide_eq_decide.2 hP, fun H' hN' _ => hG H' (e0.trans hN'.ext)⟩⟩
section
variable {k : Int} (h1 : 1 ≤ k) (h9 : k ≤ 9)
include h1 h9
theorem hasA : 0 ≤ Lib.indexByte (usesB k).data.toList 97 ↔ (k = 6 ∨ k = 7) := by rcases nine h1 h9 with rfl | rfl | rfl | rfl | rfl | rfl | rfl | rfl | rfl <;> decide
theorem hasT : 0 ≤ Lib.indexByte (usesB k).data.toList 116 ↔ (k = 1 ∨ k = 2 ∨ k = 3 ∨ k = 6 ∨ k = 7) := by rcases nine h1 h9 with rfl | rfl | rfl | rfl | rfl | rfl | rfl | rfl | rfl <;> decide
theorem hasN : 0 ≤ Lib.indexByte (usesB k).data.toList 110 ↔ k = 5 := by rcases nine h1 h9 with rfl | rfl | rfl | rfl | rfl | rfl | rfl | rfl | rfl <;> decide
theorem hasG : 0 ≤ Lib.indexByte (usesB k).data.toList 103 ↔ (k = 3 ∨ k = 7) := by rcases nine h1 h9 with rfl | rfl | rfl | rfl | rfl | rfl | rfl | rfl | rfl <;> decide
theorem hasR : 0 ≤ Lib.indexByte (usesB k).data.toList 114 ↔ (k = 1 ∨ k = 4) := by rcases nine h1 h9 with rfl | rfl | rfl | rfl | rfl | rfl | rfl | rfl | rfl <;> decide
end
theorem cRecCheck {H : Heap} {a : Option Addr} {l c : Nat} {r : Recd} (hp : Pins H a l r.rel.lock) : Spec Try.prog 124 [recArg r a l c] H fun v _ => v = i64 (recErr r) := by
  obtain ⟨kd, ag, tr, n, gd, ⟨id, lock⟩⟩ := r
  have hp : Pins H a l lock := hp
  refine TryvcJ Try.func124 (by kernel_rfl) (by kernel_rfl) _ rfl (fun base K => vc124 kd ag tr n id gd a l c base H K) fun base hb => ?_
  have hpl := hp.len
  have hnr : noRel ⟨id, lock⟩ ↔ id = 0 ∧ l = 0 := by unfold noRel; rw [len_zero hpl]
  intro b
  refine ⟨kd < 1 ∨ 9 < kd, ⟨fun _ => ⟨rfl, fun _ _ h => h, by omega⟩, fun _ => ⟨rfl, fun _ _ h => h, by omega⟩⟩, fun h => by rw [recErr, if_pos h], fun h => ?_⟩
  have h1 : 1 ≤ kd := by omega
  have h9 : kd ≤ 9 := by omega
  have hA := hasA h1 h9
  have hT := hasT h1 h9
  have hN := hasN h1 h9
  have hG := hasG h1 h9
  have hR := hasR h1 h9
  refine ⟨recForm ⟨kd, ag, tr, n, gd, ⟨id, lock⟩⟩, ?_, fun h2 => by rw [recErr, if_neg h, if_pos h2], fun h2 => ?_⟩
  · have hF : recForm ⟨kd, ag, tr, n, gd, ⟨id, lock⟩⟩ ↔ (ag ≠ 0 ∧ ¬ (kd = 6 ∨ kd = 7)) ∨ (tr ≠ 0 ∧ ¬ (kd = 1 ∨ kd = 2 ∨ kd = 3 ∨ kd = 6 ∨ kd = 7)) ∨ (n ≠ 0 ∧ ¬ kd = 5) ∨ (gd = true ∧ ¬ (kd = 3 ∨ kd = 7)) ∨ (¬ (id = 0 ∧ l = 0) ∧ ¬ (kd = 1 ∨ kd = 4)) := by unfold recForm; rw [hnr]
    generalize recForm ⟨kd, ag, tr, n, gd, ⟨id, lock⟩⟩ = φ at hF
    clear hnr hpl hp h
    repeat' (first
      | refine cHas h1 h9 (Hb := H) (by first | assumption | exact fun _ _ h => h) hA fun _ _ => ?_
      | refine cHas h1 h9 (Hb := H) (by first | assumption | exact fun _ _ h => h) hT fun _ _ => ?_
      | refine cHas h1 h9 (Hb := H) (by first | assumption | exact fun _ _ h => h) hN fun _ _ => ?_
      | refine cHas h1 h9 (Hb := H) (by first | assumption | exact fun _ _ h => h) hG fun _ _ => ?_
      | refine cHas h1 h9 (Hb := H) (by first | assumption | exact fun _ _ h => h) hR fun _ _ => ?_
      | exact ⟨rfl, by first | assumption | exact fun _ _ h => h, by clear hA hT hN hG hR; grind⟩
      | intro _
      | refine ⟨?_, ?_⟩)
  refine ⟨recRange ⟨kd, ag, tr, n, gd, ⟨id, lock⟩⟩, ?_, fun h3 => by rw [recErr, if_neg h, if_neg h2, if_pos h3], fun h3 => ?_⟩
  · have hF : recRange ⟨kd, ag, tr, n, gd, ⟨id, lock⟩⟩ ↔ ag < 0 ∨ 6 ≤ ag ∨ ((kd = 1 ∨ kd = 2 ∨ kd = 3 ∨ kd = 6 ∨ kd = 7) ∧ (tr < 1 ∨ 200 < tr)) ∨ (kd = 5 ∧ (n < 1 ∨ 6 < n)) := Iff.rfl
    generalize recRange ⟨kd, ag, tr, n, gd, ⟨id, lock⟩⟩ = φ at hF
    clear hnr hpl hp h h2
    repeat' (first
      | refine cHas h1 h9 (Hb := H) (by first | assumption | exact fun _ _ h => h) hT fun _ _ => ?_
      | refine cHas h1 h9 (Hb := H) (by first | assumption | exact fun _ _ h => h) hN fun _ _ => ?_
      | exact ⟨rfl, by first | assumption | exact fun _ _ h => h, by clear hA hT hN hG hR; grind⟩
      | intro _
      | refine ⟨?_, ?_⟩)
  refine cHas h1 h9 (Hb := H) (fun _ _ h => h) hR fun H2 e2 => ⟨fun hb => ?_, fun hb => ?_⟩
  · refine (cNoteRelease (hp.ext' e2) id).int1 fun H3 _ _ => ?_
    rw [recErr, if_neg h, if_neg h2, if_neg h3, if_pos (by simpa using hb)]
  · rw [recErr, if_neg h, if_neg h2, if_neg h3, if_neg (by simpa using hb)]
/-! ### The document's CheckRec -/
def usesU (k : Int) : ByteArray := if k = 1 then ⟨#[84, 82]⟩ else if k = 2 then ⟨#[84]⟩ else if k = 3 then ⟨#[84, 71]⟩ else if k = 4 then ⟨#[82]⟩ else if k = 5 then ⟨#[78]⟩ else if k = 6 then ⟨#[65, 84]⟩ else if k = 7 then ⟨#[65, 84, 71]⟩ else ⟨#[]⟩
theorem cHas146 {H : Heap} (s : ByteArray) (c : UInt8) {p : Nat} (hp : H.cell p 0 = some (.string s)) : Spec Try.prog 146 [.string ⟨#[c]⟩, .pointer (some ⟨p, 0, none⟩)] H fun v _ => v = .bool (decide (0 ≤ Lib.indexByte s.data.toList c)) := by
  refine TryvcJ Try.func146 (by kernel_rfl) (by kernel_rfl) _ rfl (fun base K => vc146 ⟨#[c]⟩ p base H K) fun base hb => ⟨s, hp, ?_⟩
  exact (cContains1 s c).bool1 fun H2 _ _ => rfl
theorem cHasU {G : Bool → Heap → Prop} {s : ByteArray} {xs : List Bx} {b base : Nat} {Hb H : Heap} (e0 : Ext Hb H) {c : UInt8} {P : Prop} [Decidable P] (hP : 0 ≤ Lib.indexByte s.data.toList c ↔ P) (hG : ∀ H', Ext Hb H' → G (decide P) H') :
    true = true ∧ ∀ Hl, Vg.Next 0 H Hl → Hl b = some (boxKB 9 [.string s]) ∧ True → Spec Try.prog 146 [.string ⟨#[c]⟩, .pointer (some ⟨b, 0, none⟩)] Hl fun v H'' => ∃ b1 : Bool, v = .bool b1 ∧ ∀ H', Vg.Next base H H' → (∀ (b2 : Nat) (k : KB), H'' b2 = some k → (∀ x : Bx, x ∈ xs → b2 ≠ Bx.b x) → H' b2 = some k) → G b1 H' :=
  ⟨rfl, fun Hl hN hb => (cHas146 s c (p := b) (by unfold Heap.cell; rw [hb.1]; rfl)).mono fun v H2 _ hv => ⟨decide P, by rw [hv]; congr 1; exact decide_eq_decide.2 hP, fun H' hN' _ => hG H' (e0.trans hN'.ext)⟩⟩
section
variable {k : Int} (h1 : 1 ≤ k) (h9 : k ≤ 9)
include h1 h9
theorem hasUA : 0 ≤ Lib.indexByte (usesU k).data.toList 65 ↔ (k = 6 ∨ k = 7) := by rcases nine h1 h9 with rfl | rfl | rfl | rfl | rfl | rfl | rfl | rfl | rfl <;> decide
theorem hasUT : 0 ≤ Lib.indexByte (usesU k).data.toList 84 ↔ (k = 1 ∨ k = 2 ∨ k = 3 ∨ k = 6 ∨ k = 7) := by rcases nine h1 h9 with rfl | rfl | rfl | rfl | rfl | rfl | rfl | rfl | rfl <;> decide
theorem hasUN : 0 ≤ Lib.indexByte (usesU k).data.toList 78 ↔ k = 5 := by rcases nine h1 h9 with rfl | rfl | rfl | rfl | rfl | rfl | rfl | rfl | rfl <;> decide
theorem hasUG : 0 ≤ Lib.indexByte (usesU k).data.toList 71 ↔ (k = 3 ∨ k = 7) := by rcases nine h1 h9 with rfl | rfl | rfl | rfl | rfl | rfl | rfl | rfl | rfl <;> decide
theorem hasUR : 0 ≤ Lib.indexByte (usesU k).data.toList 82 ↔ (k = 1 ∨ k = 4) := by rcases nine h1 h9 with rfl | rfl | rfl | rfl | rfl | rfl | rfl | rfl | rfl <;> decide
end
theorem usesU_get (k : Int) : mapGet (.string ⟨#[]⟩) (.int .i64 k) [i64 1, .string ⟨#[84, 82]⟩, i64 2, .string ⟨#[84]⟩, i64 3, .string ⟨#[84, 71]⟩, i64 4, .string ⟨#[82]⟩, i64 5, .string ⟨#[78]⟩, i64 6, .string ⟨#[65, 84]⟩, i64 7, .string ⟨#[65, 84, 71]⟩, i64 8, .string ⟨#[]⟩, i64 9, .string ⟨#[]⟩] = some (.string (usesU k), decide (1 ≤ k ∧ k ≤ 9)) := by
  by_cases h : 1 ≤ k ∧ k ≤ 9
  · rcases nine h.1 h.2 with rfl | rfl | rfl | rfl | rfl | rfl | rfl | rfl | rfl <;> rfl
  · rw [decide_eq_false h]
    have hU : usesU k = ⟨#[]⟩ := by
      unfold usesU
      rw [if_neg (by omega), if_neg (by omega), if_neg (by omega), if_neg (by omega), if_neg (by omega), if_neg (by omega), if_neg (by omega)]
    rw [hU]
    simp only [mapGet, keySame, if_true]
    rw [decide_eq_false (show ¬ k = (1 : Int) by omega), decide_eq_false (show ¬ k = (2 : Int) by omega), decide_eq_false (show ¬ k = (3 : Int) by omega), decide_eq_false (show ¬ k = (4 : Int) by omega), decide_eq_false (show ¬ k = (5 : Int) by omega),
      decide_eq_false (show ¬ k = (6 : Int) by omega), decide_eq_false (show ¬ k = (7 : Int) by omega), decide_eq_false (show ¬ k = (8 : Int) by omega), decide_eq_false (show ¬ k = (9 : Int) by omega)]
theorem cRefRecCheck {H : Heap} {a : Option Addr} {l c : Nat} {r : Recd} (hp : Pins H a l r.rel.lock) : Spec Try.prog 127 [recArg r a l c] H fun v _ => v = i64 (recErr r) := by
  obtain ⟨kd, ag, tr, n, gd, ⟨id, lock⟩⟩ := r
  have hp : Pins H a l lock := hp
  refine TryvcJ Try.func127 (by kernel_rfl) (by kernel_rfl) _ rfl (fun base K => vc127 kd ag tr n id gd a l c base H K) fun base hb => ?_
  have hpl := hp.len
  have hnr : noRel ⟨id, lock⟩ ↔ id = 0 ∧ l = 0 := by unfold noRel; rw [len_zero hpl]
  intro b b1
  refine ⟨_, rfl, _, rfl, _, rfl, _, rfl, _, rfl, _, rfl, _, rfl, _, rfl, _, rfl, usesU kd, _, usesU_get kd, fun b3 => ⟨fun hk => ⟨fun _ => ?_, fun h => absurd hk h⟩, fun hk => ?_⟩⟩
  · have : ¬ (1 ≤ kd ∧ kd ≤ 9) := by simpa using hk
    rw [recErr, if_pos (show kd < 1 ∨ 9 < kd by omega)]
  have h19 : 1 ≤ kd ∧ kd ≤ 9 := by simpa using hk
  obtain ⟨h1, h9⟩ := h19
  have h : ¬ (kd < 1 ∨ 9 < kd) := by omega
  have hA := hasUA h1 h9
  have hT := hasUT h1 h9
  have hN := hasUN h1 h9
  have hG := hasUG h1 h9
  have hR := hasUR h1 h9
  have bad : recForm ⟨kd, ag, tr, n, gd, ⟨id, lock⟩⟩ → i64 4 = i64 (recErr ⟨kd, ag, tr, n, gd, ⟨id, lock⟩⟩) := fun h2 => by rw [recErr, if_neg h, if_pos h2]
  refine ⟨ag ≠ 0 ∧ ¬ (kd = 6 ∨ kd = 7), ⟨fun g => cHasU (Hb := H) (fun _ _ h => h) hA fun _ e => ⟨rfl, e, by grind⟩, fun g => ⟨rfl, fun _ _ h => h, by grind⟩⟩, fun g => ⟨fun _ => bad (.inl g), fun g' => absurd g g'⟩, fun g1 => ?_⟩
  refine ⟨tr ≠ 0 ∧ ¬ (kd = 1 ∨ kd = 2 ∨ kd = 3 ∨ kd = 6 ∨ kd = 7), ⟨fun g => cHasU (Hb := H) (fun _ _ h => h) hT fun _ e => ⟨rfl, e, by grind⟩, fun g => ⟨rfl, fun _ _ h => h, by grind⟩⟩, fun g => ⟨fun _ => bad (.inr (.inl g)), fun g' => absurd g g'⟩, fun g2 => ?_⟩
  refine ⟨n ≠ 0 ∧ ¬ kd = 5, ⟨fun g => cHasU (Hb := H) (fun _ _ h => h) hN fun _ e => ⟨rfl, e, by grind⟩, fun g => ⟨rfl, fun _ _ h => h, by grind⟩⟩, fun g => ⟨fun _ => bad (.inr (.inr (.inl g))), fun g' => absurd g g'⟩, fun g3 => ?_⟩
  refine ⟨gd = true ∧ ¬ (kd = 3 ∨ kd = 7), ⟨fun g => cHasU (Hb := H) (fun _ _ h => h) hG fun _ e => ⟨rfl, e, by grind⟩, fun g => ⟨rfl, fun _ _ h => h, by grind⟩⟩, fun g => ⟨fun _ => bad (.inr (.inr (.inr (.inl g)))), fun g' => absurd g g'⟩, fun g4 => ?_⟩
  refine ⟨¬ (id = 0 ∧ l = 0) ∧ ¬ (kd = 1 ∨ kd = 4), ⟨fun g => cHasU (Hb := H) (fun _ _ h => h) hR fun _ e => ⟨rfl, e, by grind⟩, fun g => ⟨fun g' => cHasU (Hb := H) (fun _ _ h => h) hR fun _ e => ⟨rfl, e, by grind⟩, fun g' => ⟨rfl, fun _ _ h => h, by grind⟩⟩⟩, fun g => bad (.inr (.inr (.inr (.inr ⟨by rw [hnr]; exact g.1, g.2⟩)))), fun g5 => ?_⟩
  have h2 : ¬ recForm ⟨kd, ag, tr, n, gd, ⟨id, lock⟩⟩ := by
    unfold recForm
    rw [hnr]
    rintro (q | q | q | q | q)
    · exact g1 q
    · exact g2 q
    · exact g3 q
    · exact g4 q
    · exact g5 q
  have bad3 : recRange ⟨kd, ag, tr, n, gd, ⟨id, lock⟩⟩ → i64 3 = i64 (recErr ⟨kd, ag, tr, n, gd, ⟨id, lock⟩⟩) := fun h3 => by rw [recErr, if_neg h, if_neg h2, if_pos h3]
  refine (cIn ag 0 5).bool1 fun H1 e1 _ => ⟨fun g6 => ⟨fun _ => bad3 ?_, fun g' => absurd g6 g'⟩, fun g6 => ?_⟩
  · have g6 : ¬ (0 ≤ ag ∧ ag ≤ 5) := by simpa [inR] using g6
    by_cases q : ag < 0
    · exact .inl q
    · exact .inr (.inl (show 6 ≤ ag by omega))
  have g6 : 0 ≤ ag ∧ ag ≤ 5 := by simpa [inR] using g6
  refine ⟨(kd = 1 ∨ kd = 2 ∨ kd = 3 ∨ kd = 6 ∨ kd = 7) ∧ (tr < 1 ∨ 200 < tr), cHasU (Hb := H1) (fun _ _ h => h) hT fun H2 e2 => ⟨fun g => (cIn tr 1 200).bool1 fun H3 e3 _ => ⟨rfl, e2.trans e3, by simp only [inR, decide_eq_false_iff_not]; grind⟩, fun g => ⟨rfl, e2, by grind⟩⟩, fun g => ⟨fun _ => bad3 (.inr (.inr (.inl g))), fun g' => absurd g g'⟩, fun g7 => ?_⟩
  refine ⟨kd = 5 ∧ (n < 1 ∨ 6 < n), cHasU (Hb := H1) (fun _ _ h => h) hN fun H2 e2 => ⟨fun g => (cIn n 1 6).bool1 fun H3 e3 _ => ⟨rfl, e2.trans e3, by simp only [inR, decide_eq_false_iff_not]; grind⟩, fun g => ⟨rfl, e2, by grind⟩⟩, fun g => bad3 (.inr (.inr (.inr g))), fun g8 => ?_⟩
  have h3 : ¬ recRange ⟨kd, ag, tr, n, gd, ⟨id, lock⟩⟩ := by
    rintro (q | q | q | q)
    · exact absurd q (by show ¬ ag < 0; omega)
    · exact absurd q (by show ¬ 6 ≤ ag; omega)
    · exact g7 q
    · exact g8 q
  refine cHasU (Hb := H1) (fun _ _ h => h) hR fun H2 e2 => ⟨fun hb => ?_, fun hb => ?_⟩
  · refine (cRefRelease ((hp.ext' e1).ext' e2) id).int1 fun H3 _ _ => ?_
    rw [recErr, if_neg h, if_neg h2, if_neg h3, if_pos (by simpa using hb)]
  · rw [recErr, if_neg h, if_neg h2, if_neg h3, if_neg (by simpa using hb)]
end Go.Vg
set_option linter.unusedSimpArgs false
set_option maxRecDepth 100000
set_option linter.unusedVariables false
namespace Go.Vg
open Go Go.Proofs
section
variable {H : Heap} {a ga : Option Addr} {l c gl gc : Nat} {x : Agt}
theorem cAgtCheck (hp : Pins H a l x.lock) (hg : Pins H ga gl x.goal.lock) : Spec Try.prog 67 [agtArg x a l c ga gl gc] H fun v _ => v = i64 (agtErr x) := by
  refine TryvcJ Try.func67 (by kernel_rfl) (by kernel_rfl) _ rfl (fun base K => vc67 a ga l c gl gc x.at_ x.try_ x.goal.id x.going x.good base H K) fun base hb => ?_
  have hgl := hg.len
  have hnr : noRel x.goal ↔ x.goal.id = 0 ∧ gl = 0 := by unfold noRel; rw [len_zero hgl]
  intro b
  refine (cLockCheck hp).int1 fun H1 e1 _ => ⟨fun h => by rw [agtErr, if_pos h], fun h => ?_⟩
  refine ⟨x.at_ < 1 ∨ 6 < x.at_ ∨ x.try_ < 0 ∨ 200 < x.try_, ?_, fun h2 => by rw [agtErr, if_neg h, if_pos h2], fun h2 => ⟨fun hgo => ?_, fun hgo => ?_⟩⟩
  · repeat' (first | exact ⟨rfl, fun _ _ h => h, by omega⟩ | intro _ | refine ⟨?_, ?_⟩)
  · refine ⟨x.try_ = 0 ∨ x.good = true, ⟨fun _ => ⟨rfl, fun _ _ h => h, by grind⟩, fun _ => ⟨rfl, fun _ _ h => h, by grind⟩⟩, fun h3 => by rw [agtErr, if_neg h, if_neg h2, if_pos hgo, if_pos h3], fun h3 => (cNoteRelease (hg.ext' e1) x.goal.id).int1 fun H2 _ _ => ?_⟩
    rw [agtErr, if_neg h, if_neg h2, if_pos hgo, if_neg h3]
  · refine ⟨¬ (x.goal.id = 0 ∧ gl = 0), ⟨fun _ => ⟨rfl, fun _ _ h => h, by grind⟩, fun _ => ⟨rfl, fun _ _ h => h, by grind⟩⟩, fun h3 => ?_, fun h3 => ?_⟩
    · rw [agtErr, if_neg h, if_neg h2, if_neg (by simp [hgo]), if_neg (by rw [hnr]; exact h3)]
    · rw [agtErr, if_neg h, if_neg h2, if_neg (by simp [hgo]), if_pos (by rw [hnr]; exact Decidable.not_not.1 h3)]
theorem cRefAgtCheck (hp : Pins H a l x.lock) (hg : Pins H ga gl x.goal.lock) : Spec Try.prog 73 [agtArg x a l c ga gl gc] H fun v _ => v = i64 (agtErr x) := by
  refine TryvcJ Try.func73 (by kernel_rfl) (by kernel_rfl) _ rfl (fun base K => vc73 a ga l c gl gc x.at_ x.try_ x.goal.id x.going x.good base H K) fun base hb => ?_
  have hgl := hg.len
  have hnr : noRel x.goal ↔ x.goal.id = 0 ∧ gl = 0 := by unfold noRel; rw [len_zero hgl]
  intro b
  refine (cRefLockCheck hp).int1 fun H1 e1 _ => ⟨fun h => by rw [agtErr, if_pos h], fun h => ?_⟩
  refine ⟨x.at_ < 1 ∨ 6 < x.at_ ∨ x.try_ < 0 ∨ 200 < x.try_, ?_, fun h2 => by rw [agtErr, if_neg h, if_pos h2], fun h2 => ⟨fun hgo => ?_, fun hgo => ?_⟩⟩
  · refine (cIn x.at_ 1 6).bool1 fun H2 e2 _ => ⟨fun g => ⟨rfl, e2, ?_⟩, fun g => (cIn x.try_ 0 200).bool1 fun H3 e3 _ => ⟨rfl, Ext.trans e2 e3, ?_⟩⟩
    · have : ¬ (1 ≤ x.at_ ∧ x.at_ ≤ 6) := by simpa [inR] using g
      omega
    · have : 1 ≤ x.at_ ∧ x.at_ ≤ 6 := by simpa [inR] using g
      simp only [inR, decide_eq_false_iff_not]; omega
  · refine ⟨¬ (x.goal.id = 0 ∧ gl = 0), ⟨fun _ => ⟨rfl, fun _ _ h => h, by grind⟩, fun _ => ⟨rfl, fun _ _ h => h, by grind⟩⟩, fun h3 => ?_, fun h3 => ?_⟩
    · rw [agtErr, if_neg h, if_neg h2, if_neg (by simp [hgo]), if_neg (by rw [hnr]; exact h3)]
    · rw [agtErr, if_neg h, if_neg h2, if_neg (by simp [hgo]), if_pos (by rw [hnr]; exact Decidable.not_not.1 h3)]
  · have hgo : x.going = true := by simpa using hgo
    have ht : 0 ≤ x.try_ := by omega
    refine ⟨x.try_ = 0 ∨ x.good = true, ⟨fun _ => ⟨rfl, fun _ _ h => h, by grind⟩, fun _ => ⟨rfl, fun _ _ h => h, by grind⟩⟩, fun h3 => by rw [agtErr, if_neg h, if_neg h2, if_pos hgo, if_pos h3], fun h3 => (cRefRelease (hg.ext' e1) x.goal.id).int1 fun H2 _ _ => ?_⟩
    rw [agtErr, if_neg h, if_neg h2, if_pos hgo, if_neg h3]
theorem cLeft (hp : Pins H a l x.lock) (hg : Pins H ga gl x.goal.lock) : Spec Try.prog 70 [agtArg x a l c ga gl gc] H fun v H' => ∃ a n c, v = .tuple #[.slice a n c, i64 (agtErr x)] ∧ Steps H' a n (if agtErr x = 0 then agtLeft x else []) := by
  refine TryvcJ Try.func70 (by kernel_rfl) (by kernel_rfl) _ rfl (fun base K => vc70 a ga l c gl gc x.at_ x.try_ x.goal.id x.going x.good base H K) fun base hb => ?_
  intro b
  refine (cAgtCheck hp hg).int1 fun H1 e1 _ => ⟨fun h => ?_, fun h => ?_⟩
  · rw [if_neg h]; exact ⟨none, 0, 0, rfl, Sl.nil⟩
  have h := Decidable.not_not.1 h
  rw [h, if_pos rfl]
  refine ⟨fun hgo => ⟨none, 0, 0, rfl, ?_⟩, fun hgo => ?_⟩
  · rw [agtLeft, if_neg (by simp [hgo])]; exact Sl.nil
  · have hz : diffErr x.lock x.goal.lock = 0 := diffErr_zero.2 ⟨(agtErr_zero h).1, agt_goal h⟩
    refine (cDiff (hp.ext' e1) (hg.ext' e1)).sl2 fun a2 n2 c2 H2 e2 _ hD => ?_
    rw [if_pos hz] at hD
    rw [hz]
    refine ⟨_, _, _, rfl, ?_⟩
    rw [agtLeft, if_pos (by simpa using hgo)]; exact hD
theorem pins_small (h : agtErr x = 0) : x.lock.length ≤ 12 ∧ x.goal.lock.length ≤ 12 := ⟨(agtErr_zero h).1.2, (agt_goal h).2⟩
theorem Fresh.pins {H H' : Heap} {a : Option Addr} {n c : Nat} {xs : List Pin} (h : Fresh H H' 48 2 a n c (xs.flatMap pinCells)) : Pins H' a n xs := Sl.ext REnc.mono (h.sl_new pinCells_len (by omega)) newOf_ext
/-- A call that yields an agent. -/
theorem Spec.agt1 {P : Program} {f : FuncId} {args : List Value} {H : Heap} {x : Agt} (h : Spec P f args H fun v H' => ∃ a n c ga gn gc, v = agtArg x a n c ga gn gc ∧ Pins H' a n x.lock ∧ Pins H' ga gn x.goal.lock) {base : Nat}
    {G : Option Addr → Nat → Nat → Int → Int → Bool → Int → Option Addr → Nat → Nat → Bool → Heap → Prop} (hG : ∀ a n c ga gn gc H', Ext H H' → Next base H H' → Pins H' a n x.lock → Pins H' ga gn x.goal.lock → G a n c x.at_ x.try_ x.going x.goal.id ga gn gc x.good H') :
    Spec P f args H fun v H' => ∃ (a : Option Addr) (n c : Nat) (n2 n3 : Int) (b : Bool) (n4 : Int) (a2 : Option Addr) (n5 c1 : Nat) (b3 : Bool), v = .agg #[.slice a n c, .int .i64 n2, .int .i64 n3, .bool b, .int .i64 n4, .slice a2 n5 c1, .bool b3] ∧ (Next base H H' → G a n c n2 n3 b n4 a2 n5 c1 b3 H') :=
  h.mono fun v H' ex hv => by
    obtain ⟨a, n, c, ga, gn, gc, h1, h2, h3⟩ := hv
    exact ⟨a, n, c, _, _, _, _, ga, gn, gc, _, h1, fun hN => hG a n c ga gn gc H' ex hN h2 h3⟩
theorem cAgtCopy (hp : Pins H a l x.lock) (hg : Pins H ga gl x.goal.lock) (h : agtErr x = 0) : Spec Try.prog 125 [agtArg x a l c ga gl gc] H fun v H' => ∃ a n c ga gn gc, v = agtArg x a n c ga gn gc ∧ Pins H' a n x.lock ∧ Pins H' ga gn x.goal.lock := by
  refine TryvcJ Try.func125 (by kernel_rfl) (by kernel_rfl) _ rfl (fun base K => vc125 a ga l c gl gc x.at_ x.try_ x.goal.id x.going x.good base H K) fun base hb => ?_
  have hs := pins_small h
  have h1 := hp.len
  have h2 := hg.len
  intro b b1
  refine (cCloneJ hp (by omega)).mono fun v H1 e1 hv => ?_
  obtain ⟨a2, n2, c2, rfl, hF⟩ := hv
  refine ⟨a2, n2, c2, rfl, fun _ => (cCloneJ (hg.ext' e1) (by omega)).mono fun v H2 e2 hv => ?_⟩
  obtain ⟨a3, n3, c3, rfl, hF3⟩ := hv
  exact ⟨a3, n3, c3, rfl, fun _ => ⟨_, _, _, _, _, _, rfl, hF.pins.ext' e2, hF3.pins⟩⟩
end
theorem cNew {H : Heap} {a : Option Addr} {l c : Nat} {r : Rls} (hp : Pins H a l r.lock) : Spec Try.prog 71 [.agg #[.int .i64 r.id, .slice a l c]] H fun v H' => ∃ a n c ga gn gc, v = .tuple #[agtArg (if relErr r = 0 then newAgt r else noAgt) a n c ga gn gc, i64 (relErr r)] ∧ Pins H' a n (if relErr r = 0 then newAgt r else noAgt).lock ∧ Pins H' ga gn (if relErr r = 0 then newAgt r else noAgt).goal.lock := by
  refine TryvcJ Try.func71 (by kernel_rfl) (by kernel_rfl) _ rfl (fun base K => vc71 r.id a l c base H K) fun base hb => ?_
  intro b b1
  refine (cNoteRelease hp r.id).int1 fun H1 e1 _ => ⟨fun h => ?_, fun h => ?_⟩
  · rw [if_neg h]; exact ⟨none, 0, 0, none, 0, 0, rfl, Sl.nil, Sl.nil⟩
  have h := Decidable.not_not.1 h
  have h : relErr r = 0 := h
  rw [if_pos h, h]
  have h12 := (relErr_zero h).2.2
  have hl := hp.len
  refine (cCloneJ (hp.ext' e1) (by omega)).mono fun v H2 e2 hv => ?_
  obtain ⟨a2, n2, c2, rfl, hF⟩ := hv
  exact ⟨a2, n2, c2, rfl, fun _ => ⟨_, _, _, none, 0, 0, rfl, hF.pins, Sl.nil⟩⟩
section
variable {H : Heap} {a ga a' ga' : Option Addr} {l c gl gc l' c' gl' gc' : Nat} {x y : Agt}
theorem cAgtSame (hp : Pins H a l x.lock) (hg : Pins H ga gl x.goal.lock) (hp' : Pins H a' l' y.lock) (hg' : Pins H ga' gl' y.goal.lock) : Spec Try.prog 75 [agtArg x a l c ga gl gc, agtArg y a' l' c' ga' gl' gc'] H fun v _ => v = .bool (decide (x = y)) := by
  refine TryvcJ Try.func75 (by kernel_rfl) (by kernel_rfl) _ rfl (fun base K => vc75 a ga a' ga' l c gl gc l' c' gl' gc' x.at_ x.try_ x.goal.id y.at_ y.try_ y.goal.id x.going x.good y.going y.good base H K) fun base hb => ?_
  have hgo : x.goal = y.goal ↔ (⟨x.goal.id, x.goal.lock⟩ : Rls) = ⟨y.goal.id, y.goal.lock⟩ := Iff.rfl
  intro b b1
  refine ⟨x = y, (cEqPins hp hp').bool1 fun H1 e1 _ => ⟨fun q1 => ⟨fun q2 => ⟨fun q3 => ⟨_, eqBool, fun q4 => ⟨_, eqBool, fun q5 => (cAlike (hg.ext' e1) (hg'.ext' e1) _ _).bool1 fun H2 e2 _ => ⟨rfl, e1.trans e2, ?_⟩, fun q5 => ⟨rfl, e1, fun h => q5 (by simp [h])⟩⟩, fun q4 => ⟨rfl, e1, fun h => q4 (by simp [h])⟩⟩, fun q3 => ⟨rfl, e1, fun h => q3 (by rw [h])⟩⟩, fun q2 => ⟨rfl, e1, fun h => q2 (by rw [h])⟩⟩, fun q1 => ⟨rfl, e1, fun h => by simp [h] at q1⟩⟩, ?_⟩
  · rw [agt_eq, decide_eq_true_eq, ← hgo]
    simp only [beq_iff_eq] at q4 q5
    have q1 : x.lock = y.lock := by simpa using q1
    simp [q1, q2, q3, q4, q5]
  · congr 1
    exact decide_eq_decide.2 Iff.rfl
theorem cRefAgtSame (hp : Pins H a l x.lock) (hg : Pins H ga gl x.goal.lock) (hp' : Pins H a' l' y.lock) (hg' : Pins H ga' gl' y.goal.lock) : Spec Try.prog 66 [agtArg x a l c ga gl gc, agtArg y a' l' c' ga' gl' gc'] H fun v _ => v = .bool (decide (x = y)) := by
  refine TryvcJ Try.func66 (by kernel_rfl) (by kernel_rfl) _ rfl (fun base K => vc66 a ga a' ga' l c gl gc l' c' gl' gc' x.at_ x.try_ x.goal.id y.at_ y.try_ y.goal.id x.going x.good y.going y.good base H K) fun base hb => ?_
  have hgo : x.goal = y.goal ↔ (⟨x.goal.id, x.goal.lock⟩ : Rls) = ⟨y.goal.id, y.goal.lock⟩ := Iff.rfl
  intro b b1
  refine ⟨x = y, (cEqPins hp hp').bool1 fun H1 e1 _ => ⟨fun q1 => ⟨fun q2 => ⟨fun q3 => ⟨_, eqBool, fun q4 => (cRefAlike (hg.ext' e1) (hg'.ext' e1) _ _).bool1 fun H2 e2 _ => ⟨fun q5 => ⟨_, eqBool, rfl, e1.trans e2, ?_⟩, fun q5 => ⟨rfl, e1.trans e2, fun h => by simp [h] at q5⟩⟩, fun q4 => ⟨rfl, e1, fun h => q4 (by simp [h])⟩⟩, fun q3 => ⟨rfl, e1, fun h => q3 (by rw [h])⟩⟩, fun q2 => ⟨rfl, e1, fun h => q2 (by rw [h])⟩⟩, fun q1 => ⟨rfl, e1, fun h => by simp [h] at q1⟩⟩, ?_⟩
  · rw [decide_eq_true_eq, ← hgo] at q5
    rw [agt_eq]
    simp only [beq_iff_eq] at q4 ⊢
    have q1 : x.lock = y.lock := by simpa using q1
    simp [q1, q2, q3, q4, q5]
  · congr 1
    exact decide_eq_decide.2 Iff.rfl
end
end Go.Vg
set_option linter.unusedSimpArgs false
set_option maxRecDepth 100000
set_option linter.unusedVariables false
namespace Go.Vg
open Go Go.Proofs
section
variable {H : Heap} {a ga ra : Option Addr} {l c gl gc rl rc : Nat} {x : Agt} {r : Recd}
theorem left_cases (x : Agt) : agtLeft x = [] ∨ ∃ o q, agtLeft x = o :: q := by
  cases agtLeft x with
  | nil => exact .inl rfl
  | cons o q => exact .inr ⟨o, q, rfl⟩
theorem left_fits (h : agtErr x = 0) {o : Step} {q : List Step} (hl : agtLeft x = o :: q) : applyErr x.lock o = 0 := by
  unfold agtLeft at hl
  split at hl
  · have h1 := (agtErr_zero h).1
    have h2 := agt_goal h
    exact (diffs_fits h1.1 h2.1 h1.2 h2.2 hl).1
  · cases hl
theorem cNext (hp : Pins H a l x.lock) (hg : Pins H ga gl x.goal.lock) (hr : Pins H ra rl r.rel.lock) :
    Spec Try.prog 69 [agtArg x a l c ga gl gc, recArg r ra rl rc] H fun v H' => ∃ a n c ga gn gc, v = .tuple #[agtArg (nextV x r) a n c ga gn gc, i64 (nextErr x r)] ∧ Pins H' a n (nextV x r).lock ∧ Pins H' ga gn (nextV x r).goal.lock := by
  refine TryvcJ Try.func69 (by kernel_rfl) (by kernel_rfl) _ rfl (fun base K => vc69 a ga ra l c gl gc rl rc x.at_ x.try_ x.goal.id r.kind r.agent r.try_ r.num r.rel.id x.going x.good r.good base H K) fun base hb => ?_
  have bad : ∀ {e : Int} {H' : Heap}, nextErr x r = e → e ≠ 0 → ∃ a n c ga gn gc, Value.tuple #[.agg #[.slice none 0 0, .int .i64 0, .int .i64 0, .bool false, .int .i64 0, .slice none 0 0, .bool false], .int .i64 e] = .tuple #[agtArg (nextV x r) a n c ga gn gc, i64 (nextErr x r)] ∧ Pins H' a n (nextV x r).lock ∧ Pins H' ga gn (nextV x r).goal.lock := fun he h0 => by
    have : nextV x r = noAgt := by rw [nextV, if_neg (by omega)]
    rw [this, he]; exact ⟨none, 0, 0, none, 0, 0, rfl, Sl.nil, Sl.nil⟩
  intro b b1 b2
  refine (cLeft hp hg).sl2 fun a1 n1 c1 H1 e1 _ hD => ⟨fun h => bad (by rw [nextErr, if_pos h]) h, fun h => (cRecCheck (hr.ext' e1)).int1 fun H2 e2 _ => ⟨fun h2 => bad (by rw [nextErr, if_neg h, if_pos h2]) h2, fun h2 => ?_⟩⟩
  have h0 : agtErr x = 0 := Decidable.not_not.1 h
  rw [if_pos h0] at hD
  have hDl := hD.len
  have hnil : agtLeft x = [] ↔ n1 = 0 := by rw [← hDl]; exact List.length_eq_zero_iff.symm
  have good : ∀ {X : Agt} {H' : Heap} {a n c ga gn gc}, nextErr x r = 0 → agtNext x r = X → Pins H' a n X.lock → Pins H' ga gn X.goal.lock → ∃ a' n' c' ga' gn' gc', Value.tuple #[agtArg X a n c ga gn gc, .int .i64 0] = .tuple #[agtArg (nextV x r) a' n' c' ga' gn' gc', i64 (nextErr x r)] ∧ Pins H' a' n' (nextV x r).lock ∧ Pins H' ga' gn' (nextV x r).goal.lock := fun he hX p1 p2 => by
    have : nextV x r = agtNext x r := by rw [nextV, if_pos he]
    rw [this, he, hX]; exact ⟨_, _, _, _, _, _, rfl, p1, p2⟩
  refine (cAgtCopy ((hp.ext' e1).ext' e2) ((hg.ext' e1).ext' e2) h0).agt1 fun a3 n3 c3 ga3 gn3 gc3 H3 e3 _ p3 g3 => ⟨fun k1 => ⟨fun ht => ?_, fun ht => ?_⟩, fun k1 => ?_⟩
  · exact bad (by rw [nextErr, if_neg h, if_neg h2, if_pos k1, if_pos ht]) (by omega)
  · have hr12 : r.rel.lock.length ≤ 12 := by
      have : recErr r = 0 := Decidable.not_not.1 h2
      unfold recErr at this
      split at this
      · omega
      · split at this
        · omega
        · split at this
          · omega
          · rw [if_pos (.inl k1)] at this
            exact (relErr_zero this).2.2
    have hrl := hr.len
    refine (cCloneJ (((hr.ext' e1).ext' e2).ext' e3) (by omega)).mono fun v H4 e4 hv => ?_
    obtain ⟨a5, n5, c5, rfl, hF⟩ := hv
    exact ⟨a5, n5, c5, rfl, fun _ => good (X := ⟨x.lock, x.at_, r.try_, true, r.rel, false⟩) (by rw [nextErr, if_neg h, if_neg h2, if_pos k1, if_neg ht]) (by rw [agtNext, if_pos k1]) (p3.ext' e4) hF.pins⟩
  have late : (x.going = false ∨ r.try_ ≠ x.try_ ∨ (r.kind = 2 ∧ agtLeft x = []) ∨ (r.kind = 3 ∧ agtLeft x ≠ [])) → (r.kind = 2 ∨ r.kind = 3) → nextErr x r = 7 := fun hl hk => by
    rw [nextErr, if_neg h, if_neg h2, if_neg k1, if_neg (by omega), if_pos hl]
  have fine : ¬ (x.going = false ∨ r.try_ ≠ x.try_ ∨ (r.kind = 2 ∧ agtLeft x = []) ∨ (r.kind = 3 ∧ agtLeft x ≠ [])) → (r.kind = 2 ∨ r.kind = 3) → nextErr x r = 0 := fun hl hk => by
    rw [nextErr, if_neg h, if_neg h2, if_neg k1, if_neg (by omega), if_neg hl]
  have step : r.kind = 2 → nextErr x r = 0 → agtLeft x ≠ [] → ∃ (b : Nat) (o : Nat), a1 = some ⟨b, o, none⟩ ∧ Int.ofNat 0 ≤ 0 ∧ 0 < (n1 : Int) ∧ ∃ (n n9 n10 : Int), (H3.cell b (o + 0 * 3) = some (.int .i64 n) ∧ H3.cell b (o + 0 * 3 + 1) = some (.int .i64 n9) ∧ H3.cell b (o + 0 * 3 + 2) = some (.int .i64 n10) ∧ True) ∧
      Spec Try.prog 55 [.slice a3 n3 c3, .agg #[.int .i64 n, .int .i64 n9, .int .i64 n10]] H3 fun v H' => ∃ (a : Option Addr) (n c : Nat) (n11 : Int), v = .tuple #[.slice a n c, .int .i64 n11] ∧ (Vg.Next base H3 H' → ∃ a' n' c' ga' gn' gc', Value.tuple #[.agg #[.slice a n c, .int .i64 x.at_, .int .i64 x.try_, .bool x.going, .int .i64 x.goal.id, .slice ga3 gn3 gc3, .bool x.good], .int .i64 n11] = .tuple #[agtArg (nextV x r) a' n' c' ga' gn' gc', i64 (nextErr x r)] ∧ Pins H' a' n' (nextV x r).lock ∧ Pins H' ga' gn' (nextV x r).goal.lock) := fun hk he hne => by
    obtain ⟨o, q, hl⟩ := (left_cases x).resolve_left hne
    rw [hl] at hD
    have hpos : 0 < n1 := by
      rcases Nat.eq_zero_or_pos n1 with hz | hz
      · exact absurd (hnil.2 hz) hne
      · exact hz
    refine hD.step (k := 0) (Ext.trans e2 e3) (by omega) (by omega) fun o' ho' => ?_
    obtain rfl : o = o' := by simpa using ho'
    have f1 := left_fits h0 hl
    refine (cApply p3 o.kind o.name o.ver).sl2 fun a5 n5 c5 H5 e5 _ hA => ?_
    have f1' : applyErr x.lock ⟨o.kind, o.name, o.ver⟩ = 0 := f1
    rw [if_pos f1'] at hA
    rw [f1']
    exact good (X := ⟨applied x.lock o, x.at_, x.try_, x.going, x.goal, x.good⟩) he (by rw [agtNext, if_neg k1, if_pos hk, hl]) hA (g3.ext' e5)
  have done : r.kind = 3 → nextErr x r = 0 → ∃ a' n' c' ga' gn' gc', Value.tuple #[.agg #[.slice a3 n3 c3, .int .i64 x.goal.id, .int .i64 x.try_, .bool false, .int .i64 0, .slice none 0 0, .bool r.good], .int .i64 0] = .tuple #[agtArg (nextV x r) a' n' c' ga' gn' gc', i64 (nextErr x r)] ∧ Pins H3 a' n' (nextV x r).lock ∧ Pins H3 ga' gn' (nextV x r).goal.lock := fun hk he =>
    good (X := ⟨x.lock, x.goal.id, x.try_, false, ⟨0, []⟩, r.good⟩) he (by rw [agtNext, if_neg k1, if_neg (by omega)]) p3 Sl.nil
  have leaf : ∀ {b5 : Bool}, x.going ≠ false → r.try_ = x.try_ → (r.kind = 2 ∨ r.kind = 3) → b5 = (decide (0 < (n1 : Int)) != decide (r.kind = 2)) → ((x.going = false ∨ r.try_ ≠ x.try_ ∨ (r.kind = 2 ∧ agtLeft x = []) ∨ (r.kind = 3 ∧ agtLeft x ≠ [])) ↔ b5 = true) := fun q1 q2 q3 q4 => by
    subst q4
    simp only [ne_eq, hnil]
    have q5 : ∀ p q : Bool, ((p != q) = true) ↔ ¬ (p = true ↔ q = true) := by decide
    rw [q5]
    simp only [decide_eq_true_eq]
    constructor
    · rintro (q | q | q | q)
      · exact absurd q q1
      · exact absurd q2 q
      · omega
      · omega
    · intro q
      by_cases hk : r.kind = 2
      · exact .inr (.inr (.inl ⟨hk, by omega⟩))
      · exact .inr (.inr (.inr ⟨by omega, by omega⟩))
  refine ⟨fun k2 => ⟨fun _ => ⟨_, ⟨fun q => ⟨rfl, fun _ _ h => h, .inl q⟩, fun q => ⟨fun q2 => ⟨rfl, fun _ _ h => h, .inr (.inl q2)⟩, fun q2 => ⟨_, neqBool, rfl, fun _ _ h => h, leaf q (Decidable.not_not.1 q2) (.inl k2) rfl⟩⟩⟩, fun hl => bad (late hl (.inl k2)) (by omega), fun hl => ⟨fun _ => step k2 (fine hl (.inl k2)) (fun hn => hl (.inr (.inr (.inl ⟨k2, hn⟩)))), fun h' => absurd k2 h'⟩⟩, fun h' => absurd k2 h'⟩, fun k2 => ⟨fun k3 => ?_, fun k3 => ?_⟩⟩
  · refine ⟨_, ⟨fun q => ⟨rfl, fun _ _ h => h, .inl q⟩, fun q => ⟨fun q2 => ⟨rfl, fun _ _ h => h, .inr (.inl q2)⟩, fun q2 => ⟨_, neqBool, rfl, fun _ _ h => h, leaf q (Decidable.not_not.1 q2) (.inr k3) rfl⟩⟩⟩, fun hl => bad (late hl (.inr k3)) (by omega), fun hl => ⟨fun h' => absurd h' k2, fun _ => ?_⟩⟩
    have hd := done k3 (fine hl (.inr k3))
    exact ⟨hd, hd, hd, hd⟩
  · exact bad (by rw [nextErr, if_neg h, if_neg h2, if_neg k1, if_pos ⟨k2, k3⟩]) (by omega)
/-! ### The document's -/
theorem cBadA {H : Heap} (e : Int) : Spec Try.prog 126 [.int .i64 e] H fun v H' => ∃ a n c ga gn gc, v = .tuple #[agtArg noAgt a n c ga gn gc, i64 e] ∧ Pins H' a n noAgt.lock ∧ Pins H' ga gn noAgt.goal.lock := by
  refine TryvcJ Try.func126 (by kernel_rfl) (by kernel_rfl) _ rfl (fun base K => vc126 e base H K) fun base hb => ?_
  intro b
  exact ⟨none, 0, 0, none, 0, 0, rfl, Sl.nil, Sl.nil⟩
theorem cRefNext (hp : Pins H a l x.lock) (hg : Pins H ga gl x.goal.lock) (hr : Pins H ra rl r.rel.lock) :
    Spec Try.prog 72 [agtArg x a l c ga gl gc, recArg r ra rl rc] H fun v H' => ∃ a n c ga gn gc, v = .tuple #[agtArg (nextV x r) a n c ga gn gc, i64 (nextErr x r)] ∧ Pins H' a n (nextV x r).lock ∧ Pins H' ga gn (nextV x r).goal.lock := by
  refine TryvcJ Try.func72 (by kernel_rfl) (by kernel_rfl) _ rfl (fun base K => vc72 a ga ra l c gl gc rl rc x.at_ x.try_ x.goal.id r.kind r.agent r.try_ r.num r.rel.id x.going x.good r.good base H K) fun base hb => ?_
  have bad : ∀ {e : Int} {H' : Heap}, nextErr x r = e → e ≠ 0 → Spec Try.prog 126 [.int .i64 e] H' fun v H'' => ∃ (a : Option Addr) (n c : Nat) (n2 n3 : Int) (b : Bool) (n4 : Int) (a2 : Option Addr) (n5 c1 : Nat) (b3 : Bool) (n6 : Int), v = .tuple #[.agg #[.slice a n c, .int .i64 n2, .int .i64 n3, .bool b, .int .i64 n4, .slice a2 n5 c1, .bool b3], .int .i64 n6] ∧ (Vg.Next base H' H'' →
      ∃ a' n' c' ga' gn' gc', Value.tuple #[.agg #[.slice a n c, .int .i64 n2, .int .i64 n3, .bool b, .int .i64 n4, .slice a2 n5 c1, .bool b3], .int .i64 n6] = .tuple #[agtArg (nextV x r) a' n' c' ga' gn' gc', i64 (nextErr x r)] ∧ Pins H'' a' n' (nextV x r).lock ∧ Pins H'' ga' gn' (nextV x r).goal.lock) := fun {e H'} he h0 => by
    have : nextV x r = noAgt := by rw [nextV, if_neg (by omega)]
    rw [this, he]
    exact (cBadA e).agt fun a n c ga gn gc H'' _ _ p1 p2 => ⟨_, _, _, _, _, _, rfl, p1, p2⟩
  intro b b1 b2
  refine (cRefAgtCheck hp hg).int1 fun H1 e1 _ => ⟨fun h => bad (by rw [nextErr, if_pos h]) h, fun h => (cRefRecCheck (hr.ext' e1)).int1 fun H2 e2 _ => ⟨fun h2 => bad (by rw [nextErr, if_neg h, if_pos h2]) h2, fun h2 => ?_⟩⟩
  have h0 : agtErr x = 0 := Decidable.not_not.1 h
  have p2 := (hp.ext' e1).ext' e2
  have g2 := (hg.ext' e1).ext' e2
  have r2 := (hr.ext' e1).ext' e2
  have good : ∀ {X : Agt} {H' : Heap} {a n c ga gn gc}, nextErr x r = 0 → agtNext x r = X → Pins H' a n X.lock → Pins H' ga gn X.goal.lock → ∃ a' n' c' ga' gn' gc', Value.tuple #[agtArg X a n c ga gn gc, .int .i64 0] = .tuple #[agtArg (nextV x r) a' n' c' ga' gn' gc', i64 (nextErr x r)] ∧ Pins H' a' n' (nextV x r).lock ∧ Pins H' ga' gn' (nextV x r).goal.lock := fun he hX p1 p2 => by
    have : nextV x r = agtNext x r := by rw [nextV, if_pos he]
    rw [this, he, hX]; exact ⟨_, _, _, _, _, _, rfl, p1, p2⟩
  have hkr : 1 ≤ r.kind := by
    have : recErr r = 0 := Decidable.not_not.1 h2
    unfold recErr at this
    split at this
    · omega
    · omega
  refine ⟨fun k1 => ⟨fun ht => bad (by rw [nextErr, if_neg h, if_neg h2, if_pos k1, if_pos ht]) (by omega), fun ht => ?_⟩, fun k1 => ⟨fun k3 => bad (by rw [nextErr, if_neg h, if_neg h2, if_neg k1, if_pos (by omega)]) (by omega), fun k3 => ?_⟩⟩
  · exact good (X := ⟨x.lock, x.at_, r.try_, true, r.rel, false⟩) (by rw [nextErr, if_neg h, if_neg h2, if_pos k1, if_neg ht]) (by rw [agtNext, if_pos k1]) p2 r2
  have hk : r.kind = 2 ∨ r.kind = 3 := by omega
  have late : (x.going = false ∨ r.try_ ≠ x.try_ ∨ (r.kind = 2 ∧ agtLeft x = []) ∨ (r.kind = 3 ∧ agtLeft x ≠ [])) → nextErr x r = 7 := fun hl => by
    rw [nextErr, if_neg h, if_neg h2, if_neg k1, if_neg (by omega), if_pos hl]
  have fine : ¬ (x.going = false ∨ r.try_ ≠ x.try_ ∨ (r.kind = 2 ∧ agtLeft x = []) ∨ (r.kind = 3 ∧ agtLeft x ≠ [])) → nextErr x r = 0 := fun hl => by
    rw [nextErr, if_neg h, if_neg h2, if_neg k1, if_neg (by omega), if_neg hl]
  refine ⟨x.going = false ∨ x.try_ ≠ r.try_, ⟨fun q => ⟨rfl, fun _ _ h => h, .inl q⟩, fun q => ⟨rfl, fun _ _ h => h, ⟨fun h => h.resolve_left q, .inr⟩⟩⟩, fun q => bad (late (by rcases q with q | q; exact .inl q; exact .inr (.inl (fun e => q e.symm)))) (by omega), fun q => ?_⟩
  have hgo : x.going = true := by
    cases hx : x.going with
    | true => rfl
    | false => exact absurd (.inl hx) q
  have hty : r.try_ = x.try_ := by
    by_cases e : x.try_ = r.try_
    · exact e.symm
    · exact absurd (.inr e) q
  have hz : diffErr x.lock x.goal.lock = 0 := diffErr_zero.2 ⟨(agtErr_zero h0).1, agt_goal h0⟩
  have hleft : agtLeft x = diffs x.lock x.goal.lock := by rw [agtLeft, if_pos hgo]
  refine (cSteps p2 g2).sl2 fun a4 n4 c4 H4 e4 _ hD => ?_
  obtain ⟨_, hD⟩ := hD
  rw [if_pos hz, ← hleft] at hD
  have hDl := hD.len
  have hnil : agtLeft x = [] ↔ n4 = 0 := by rw [← hDl]; exact List.length_eq_zero_iff.symm
  refine ⟨r.kind = 2 ∧ 0 < n4, ⟨fun q => ⟨rfl, fun _ _ h => h, by omega⟩, fun q => ⟨rfl, fun _ _ h => h, by omega⟩⟩, fun q => ?_, fun q => ?_⟩
  · obtain ⟨o, s, hl⟩ := (left_cases x).resolve_left (by rw [hnil]; omega)
    have he : nextErr x r = 0 := fine (by rintro (w | w | w | w); · rw [hgo] at w; cases w
                                          · exact w hty
                                          · rw [hnil] at w; omega
                                          · omega)
    rw [hl] at hD
    refine hD.step (k := 0) (Ext.refl _) (by omega) (by omega) fun o' ho' => ?_
    obtain rfl : o = o' := by simpa using ho'
    have f1' : applyErr x.lock ⟨o.kind, o.name, o.ver⟩ = 0 := left_fits h0 hl
    refine (cStepped (p2.ext' e4) o.kind o.name o.ver).sl2 fun a5 n5 c5 H5 e5 _ hA => ?_
    rw [if_pos f1'] at hA
    exact good (X := ⟨applied x.lock o, x.at_, x.try_, x.going, x.goal, x.good⟩) he (by rw [agtNext, if_neg k1, if_pos q.1, hl]) hA ((g2.ext' e4).ext' e5)
  · refine ⟨r.kind = 3 ∧ n4 = 0, ⟨fun q => ⟨rfl, fun _ _ h => h, by omega⟩, fun q => ⟨rfl, fun _ _ h => h, by omega⟩⟩, fun q2 => ?_, fun q2 => bad (late ?_) (by omega)⟩
    · have he : nextErr x r = 0 := fine (by rintro (w | w | w | w); · rw [hgo] at w; cases w
                                            · exact w hty
                                            · omega
                                            · have := w.2; rw [ne_eq, hnil] at this; omega)
      exact good (X := ⟨x.lock, x.goal.id, x.try_, false, ⟨0, []⟩, r.good⟩) he (by rw [agtNext, if_neg k1, if_neg (by omega)]) (p2.ext' e4) Sl.nil
    · by_cases k2 : r.kind = 2
      · exact .inr (.inr (.inl ⟨k2, by rw [hnil]; omega⟩))
      · exact .inr (.inr (.inr ⟨by omega, by rw [ne_eq, hnil]; omega⟩))
end
end Go.Vg
set_option linter.unusedSimpArgs false
set_option maxRecDepth 100000
set_option linter.unusedVariables false
namespace Go.Vg
open Go Go.Proofs
theorem cReplay {H : Heap} {a a' : Option Addr} {l c l' c' : Nat} {f : Rls} {rs : List Recd} (hp : Pins H a l f.lock) (hr : Recs H a' l' rs) :
    Spec Try.prog 63 [.agg #[.int .i64 f.id, .slice a l c], .slice a' l' c'] H fun v H' => ∃ a n c ga gn gc, v = .tuple #[agtArg (okA (agtReplay f rs)) a n c ga gn gc, i64 (errOf (agtReplay f rs))] ∧ Pins H' a n (okA (agtReplay f rs)).lock ∧ Pins H' ga gn (okA (agtReplay f rs)).goal.lock := by
  refine TryvcJ Try.func63 (by kernel_rfl) (by kernel_rfl) _ rfl (fun base K => vc63 f.id a a' l c l' c' base H K) fun base hb => ?_
  have hrl := hr.len
  have bad : ∀ {e : Int} {H' : Heap}, agtReplay f rs = .error e → ∃ a n c ga gn gc, Value.tuple #[.agg #[.slice none 0 0, .int .i64 0, .int .i64 0, .bool false, .int .i64 0, .slice none 0 0, .bool false], .int .i64 e] = .tuple #[agtArg (okA (agtReplay f rs)) a n c ga gn gc, i64 (errOf (agtReplay f rs))] ∧ Pins H' a n (okA (agtReplay f rs)).lock ∧ Pins H' ga gn (okA (agtReplay f rs)).goal.lock := fun he => by
    rw [he]; exact ⟨none, 0, 0, none, 0, 0, rfl, Sl.nil, Sl.nil⟩
  intro b b'
  refine (cNew hp).agt fun a1 n1 c1 ga1 gn1 gc1 H1 e1 _ p1 g1 => fun b2 => ⟨fun h => bad (by rw [agtReplay, if_pos h]), fun h => ⟨fun h200 => bad (by rw [agtReplay, if_neg h, if_pos (by omega)]), fun h200 => ?_⟩⟩
  rw [if_pos (Decidable.not_not.1 h)] at p1 g1 ⊢
  have hW : agtReplay f rs = replayFrom (newAgt f) rs := by rw [agtReplay, if_neg h, if_neg (by omega)]
  rw [hW] at bad ⊢
  refine ⟨fun vs Hc => ∃ (y : Agt) (a : Option Addr) (n c : Nat) (ga : Option Addr) (gn gc : Nat) (d e : Int) (w : Value) (k : Nat), vs = [i64 d, i64 e, i64 k, w, agtArg y a n c ga gn gc] ∧ Pins Hc a n y.lock ∧ Pins Hc ga gn y.goal.lock ∧ k ≤ l' ∧ replayFrom y (rs.drop k) = replayFrom (newAgt f) rs, upTo l' 2,
    ⟨newAgt f, a1, n1, c1, ga1, gn1, gc1, 0, _, _, 0, rfl, p1, g1, by omega, rfl⟩, fun d e m a6 n8 c3 n9 n10 b0 n11 a7 n12 c4 b3 a8 n13 c5 n14 n15 b4 n16 a9 n17 c6 b5 H' hN hI => ?_⟩
  obtain ⟨y, ya, yn, yc, yga, ygn, ygc, d', e', w, k, hvs, hP, hG, hk, hI⟩ := hI
  obtain ⟨rfl, rfl, rfl, rfl, ⟨rfl, rfl, rfl⟩, rfl, rfl, rfl, rfl, ⟨rfl, rfl, rfl⟩, rfl⟩ : d = d' ∧ e = e' ∧ m = (k : Int) ∧ Value.agg #[.slice a6 n8 c3, .int .i64 n9, .int .i64 n10, .bool b0, .int .i64 n11, .slice a7 n12 c4, .bool b3] = w ∧ (a8 = ya ∧ n13 = yn ∧ c5 = yc) ∧ n14 = y.at_ ∧ n15 = y.try_ ∧ b4 = y.going ∧ n16 = y.goal.id ∧ (a9 = yga ∧ n17 = ygn ∧ c6 = ygc) ∧ b5 = y.good := by simpa using hvs
  refine ⟨fun hlt => hr.recd hN.ext (by omega) hlt fun r ra rn rc hm hq => fun b8 => ?_, fun hge => ?_⟩
  · rw [Int.toNat_natCast] at hm
    rw [drop_at hm, replayFrom] at hI
    refine (cNext hP hG (hq.ext' hN.ext)).agt fun a2 n2 c2 ga2 gn2 gc2 H2 e2 _ p2 g2 => ⟨fun h => ?_, fun h => ?_⟩
    · rw [if_neg h] at hI
      exact bad hI.symm
    · have h0 : nextErr y r = 0 := Decidable.not_not.1 h
      rw [if_pos h0] at hI
      have hV : nextV y r = agtNext y r := by rw [nextV, if_pos h0]
      rw [hV] at p2 g2 ⊢
      rintro q rfl
      rw [wrap_in (by omega) (by omega)]
      exact ⟨rfl, ⟨agtNext y r, a2, n2, c2, ga2, gn2, gc2, _, _, _, k + 1, rfl, p2, g2, by omega, hI⟩, by simp [upTo]; omega⟩
  · rw [drop_all hrl (by omega), replayFrom] at hI
    rw [← hI]
    exact ⟨_, _, _, _, _, _, rfl, hP, hG⟩
theorem cRefReplay {H : Heap} {a a' : Option Addr} {l c l' c' : Nat} {f : Rls} {rs : List Recd} (hp : Pins H a l f.lock) (hr : Recs H a' l' rs) :
    Spec Try.prog 64 [.agg #[.int .i64 f.id, .slice a l c], .slice a' l' c'] H fun v H' => ∃ a n c ga gn gc, v = .tuple #[agtArg (okA (agtReplay f rs)) a n c ga gn gc, i64 (errOf (agtReplay f rs))] ∧ Pins H' a n (okA (agtReplay f rs)).lock ∧ Pins H' ga gn (okA (agtReplay f rs)).goal.lock := by
  refine TryvcJ Try.func64 (by kernel_rfl) (by kernel_rfl) _ rfl (fun base K => vc64 f.id a a' l c l' c' base H K) fun base hb => ?_
  have hrl := hr.len
  have bad : ∀ {e : Int} {H' : Heap}, agtReplay f rs = .error e → ∃ a n c ga gn gc, Value.tuple #[.agg #[.slice none 0 0, .int .i64 0, .int .i64 0, .bool false, .int .i64 0, .slice none 0 0, .bool false], .int .i64 e] = .tuple #[agtArg (okA (agtReplay f rs)) a n c ga gn gc, i64 (errOf (agtReplay f rs))] ∧ Pins H' a n (okA (agtReplay f rs)).lock ∧ Pins H' ga gn (okA (agtReplay f rs)).goal.lock := fun he => by
    rw [he]; exact ⟨none, 0, 0, none, 0, 0, rfl, Sl.nil, Sl.nil⟩
  intro b b'
  refine (cRefRelease hp f.id).int1 fun H1 e1 _ => ⟨fun h => bad (by rw [agtReplay, if_pos h]), fun h => ⟨fun h200 => bad (by rw [agtReplay, if_neg h, if_pos (by omega)]), fun h200 => fun b3 => ?_⟩⟩
  have hW : agtReplay f rs = replayFrom (newAgt f) rs := by rw [agtReplay, if_neg h, if_neg (by omega)]
  rw [hW] at bad ⊢
  refine ⟨fun vs Hc => ∃ (y : Agt) (a : Option Addr) (n c : Nat) (ga : Option Addr) (gn gc : Nat) (d : Int) (w : Value) (k : Nat), vs = [i64 d, i64 k, w, agtArg y a n c ga gn gc] ∧ Pins Hc a n y.lock ∧ Pins Hc ga gn y.goal.lock ∧ k ≤ l' ∧ replayFrom y (rs.drop k) = replayFrom (newAgt f) rs, upTo l' 1,
    ⟨newAgt f, a, l, c, none, 0, 0, 0, _, 0, rfl, hp.ext' e1, Sl.nil, by omega, rfl⟩, fun d m a6 n8 c3 n9 n10 b0 n11 a7 n12 c4 b3 a8 n13 c5 n14 n15 b4 n16 a9 n17 c6 b5 H' hN hI => ?_⟩
  obtain ⟨y, ya, yn, yc, yga, ygn, ygc, d', w, k, hvs, hP, hG, hk, hI⟩ := hI
  obtain ⟨rfl, rfl, rfl, ⟨rfl, rfl, rfl⟩, rfl, rfl, rfl, rfl, ⟨rfl, rfl, rfl⟩, rfl⟩ : d = d' ∧ m = (k : Int) ∧ Value.agg #[.slice a6 n8 c3, .int .i64 n9, .int .i64 n10, .bool b0, .int .i64 n11, .slice a7 n12 c4, .bool b3] = w ∧ (a8 = ya ∧ n13 = yn ∧ c5 = yc) ∧ n14 = y.at_ ∧ n15 = y.try_ ∧ b4 = y.going ∧ n16 = y.goal.id ∧ (a9 = yga ∧ n17 = ygn ∧ c6 = ygc) ∧ b5 = y.good := by simpa using hvs
  refine ⟨fun hlt => hr.recd hN.ext (by omega) hlt fun r ra rn rc hm hq => fun b8 => ?_, fun hge => ?_⟩
  · rw [Int.toNat_natCast] at hm
    rw [drop_at hm, replayFrom] at hI
    refine (cRefNext hP hG (hq.ext' hN.ext)).agt fun a2 n2 c2 ga2 gn2 gc2 H2 e2 _ p2 g2 => fun b9 => ⟨fun h => ?_, fun h => ?_⟩
    · rw [if_neg h] at hI
      exact bad hI.symm
    · have h0 : nextErr y r = 0 := Decidable.not_not.1 h
      rw [if_pos h0] at hI
      have hV : nextV y r = agtNext y r := by rw [nextV, if_pos h0]
      rw [hV] at p2 g2 ⊢
      rintro q rfl
      rw [wrap_in (by omega) (by omega)]
      exact ⟨rfl, ⟨agtNext y r, a2, n2, c2, ga2, gn2, gc2, _, _, k + 1, rfl, p2, g2, by omega, hI⟩, by simp [upTo]; omega⟩
  · rw [drop_all hrl (by omega), replayFrom] at hI
    rw [← hI]
    exact ⟨_, _, _, _, _, _, rfl, hP, hG⟩
/-! ### A closed fact -/
theorem sl_of_boxR {α : Type} {R : Rep α} {sz : Nat} {H : Heap} {g : Nat} {ty : TypeId} {rs : List (List Value)} {xs : List α} {n : Nat} (h : H g = some (boxKB ty rs.flatten)) (hw : ∀ r ∈ rs, r.length = sz) (ha : AllR R H rs xs) (hn : rs.length = n) (hle : (n : Int) ≤ 9223372036854775807) : Sl R sz H (some ⟨g, 0, none⟩) n xs :=
  Sl.of_has (rows := rs) (Has.of_box h rfl hw hn hle) ha.len fun i r x hr hx => ha.get hr hx
def f1 : Rls := ⟨1, [⟨1, 1⟩]⟩
def f2 : Rls := ⟨2, [⟨2, 1⟩]⟩
def rB : Recd := ⟨1, 0, 3, 0, false, f2⟩
def rS : Recd := ⟨2, 0, 3, 0, false, ⟨0, []⟩⟩
def rD : Recd := ⟨3, 0, 3, 0, true, ⟨0, []⟩⟩
def g5 : Agt := ⟨[], 1, 3, true, f2, false⟩
def g7 : Agt := ⟨[⟨2, 1⟩], 2, 3, false, ⟨0, []⟩, true⟩
theorem gone5 : agtReplay f1 [rB, rS] = .ok g5 := by rfl
theorem gone7 : agtReplay f1 [rB, rS, rS, rD] = .ok g7 := by rfl
theorem cGone {H : Heap} : Spec Try.prog 65 [] H fun v _ => v = .bool true := by
  refine TryvcJ Try.func65 (by kernel_rfl) (by kernel_rfl) _ rfl (fun base K => vc65 base H K) fun base hb => ?_
  intro g H1 hN1 _ hg b g1 H2 hN2 _ hg1 b1 b2
  have q1 : Pins H2 (some ⟨g, 0, none⟩) 1 f1.lock := sl_of_boxE pinCells_len (xs := [⟨1, 1⟩]) (hN2.ext _ _ hg) rfl (by decide)
  have q2 : Pins H2 (some ⟨g1, 0, none⟩) 1 f2.lock := sl_of_boxE pinCells_len (xs := [⟨2, 1⟩]) hg1 rfl (by decide)
  refine (cNew (r := f1) q1).agt fun a3 n3 c3 ga3 gn3 gc3 H3 e3 _ p3 g3 => fun b5 => ?_
  rw [if_pos (show relErr f1 = 0 by decide)] at p3 g3 ⊢
  intro k4 H4 hN4 _ hk4
  have r4 : Recs H4 (some ⟨k4, 0, none⟩) 2 [rB, rS] := sl_of_boxR (rs := [recVal rB (some ⟨g1, 0, none⟩) 1 1, recVal rS none 0 0]) hk4 (by simp [recVal]) ⟨⟨_, _, _, rfl, (q2.ext' e3).ext' hN4.ext⟩, ⟨none, 0, 0, rfl, Sl.nil⟩, trivial⟩ rfl (by decide)
  refine (cReplay (f := f1) ((q1.ext' e3).ext' hN4.ext) r4).agt fun a5 n5 c5 ga5 gn5 gc5 H5 e5 _ p5 g5' => fun b8 => ?_
  rw [gone5] at p5 g5' ⊢
  refine (cLeft (x := g5) p5 g5').sl2 fun a6 n6 c6 H6 e6 _ hD => ?_
  rw [show agtErr g5 = 0 from by decide] at hD ⊢
  rw [if_pos rfl] at hD
  intro k7 H7 hN7 _ hk7
  have q27 : Pins H7 (some ⟨g1, 0, none⟩) 1 f2.lock := ((((q2.ext' e3).ext' hN4.ext).ext' e5).ext' e6).ext' hN7.ext
  have r7 : Recs H7 (some ⟨k7, 0, none⟩) 4 [rB, rS, rS, rD] := sl_of_boxR (rs := [recVal rB (some ⟨g1, 0, none⟩) 1 1, recVal rS none 0 0, recVal rS none 0 0, recVal rD none 0 0]) hk7 (by simp [recVal]) ⟨⟨_, _, _, rfl, q27⟩, ⟨none, 0, 0, rfl, Sl.nil⟩, ⟨none, 0, 0, rfl, Sl.nil⟩, ⟨none, 0, 0, rfl, Sl.nil⟩, trivial⟩ rfl (by decide)
  refine (cReplay (f := f1) (((((q1.ext' e3).ext' hN4.ext).ext' e5).ext' e6).ext' hN7.ext) r7).agt fun a8 n8 c8 ga8 gn8 gc8 H8 e8 _ p8 g8 => fun b11 => ?_
  rw [gone7] at p8 g8 ⊢
  have h5 : (n5 : Int) = 0 := by have := p5.len; simp [okA, g5] at this; omega
  have h6 : (n6 : Int) = 1 := by
    have := hD.len
    rw [show agtLeft g5 = [⟨1, 2, 1⟩] from by decide] at this
    simp at this; omega
  refine ⟨True, ⟨fun _ => ⟨fun _ => ⟨fun _ => ⟨fun _ => ⟨fun _ => ⟨fun _ => ⟨fun _ => ⟨fun _ => ⟨fun _ => ⟨fun _ => ⟨fun _ => ?_, fun h => by cases h⟩, fun h => absurd rfl h⟩, fun h => absurd rfl h⟩, fun h => absurd h6 h⟩, fun h => absurd h5 h⟩, fun h => by cases h⟩, fun h => absurd rfl h⟩, fun h => absurd rfl h⟩, fun h => absurd rfl h⟩, fun h => absurd rfl h⟩, fun h => absurd (by decide) h⟩, by simp⟩
  exact (cEqPins p8 (q27.ext' e8)).bool1 fun H9 e9 _ => ⟨rfl, e9, by simp [okA, g7, f2]⟩
theorem cAgentReplays {H : Heap} {a a' : Option Addr} {l c l' c' : Nat} {f : Rls} {rs : List Recd} (hp : Pins H a l f.lock) (hr : Recs H a' l' rs) :
    Spec Try.prog 14 [.agg #[.int .i64 f.id, .slice a l c], .slice a' l' c'] H fun v _ => v = .bool true := by
  refine TryvcJ Try.func14 (by kernel_rfl) (by kernel_rfl) _ rfl (fun base K => vc14 f.id a a' l c l' c' base H K) fun base hb => ?_
  intro b
  refine (cReplay hp hr).agt fun a1 n1 c1 ga1 gn1 gc1 H1 e1 _ p1 g1 => fun b3 => ?_
  refine (cRefReplay (hp.ext' e1) (hr.ext' e1)).agt fun a2 n2 c2 ga2 gn2 gc2 H2 e2 _ p2 g2 => fun b6 => ⟨True, ?_, by simp⟩
  exact cGone.bool1 fun H3 e3 _ => ⟨fun _ => ⟨fun _ => (cRefAgtSame ((p1.ext' e2).ext' e3) ((g1.ext' e2).ext' e3) (p2.ext' e3) (g2.ext' e3)).bool1 fun H4 e4 _ => ⟨rfl, Ext.trans e3 e4, by simp⟩, fun h => absurd rfl h⟩, fun h => by simp at h⟩
end Go.Vg
