/- What is proved here: the contracts of the functions of releases and mail. -/
import Derived.Test.YtonlnlkkokigiaaP10
import Derived.Test.YtonlnlkkokigiaaC9
import Derived.Test.YtonlnlkkokigiaaV4
set_option linter.unusedSimpArgs false
set_option maxRecDepth 100000
set_option linter.unusedVariables false
namespace Go.Vg
open Go Go.Proofs
/-! ### Releases -/
theorem cNoteRelease {H : Heap} {a : Option Addr} {l c : Nat} {xs : List Pin} (hx : Pins H a l xs) (id : Int) : Spec Try.prog 68 [.agg #[.int .i64 id, .slice a l c]] H fun v _ => v = i64 (relErr ⟨id, xs⟩) := by
  refine TryvcJ Try.func68 (by kernel_rfl) (by kernel_rfl) _ rfl (fun base K => vc68 id a l c base H K) fun base hb => ?_
  intro b
  refine ⟨id < 1 ∨ 6 < id, ⟨fun _ => ⟨rfl, fun _ _ h => h, by omega⟩, fun _ => ⟨rfl, fun _ _ h => h, by omega⟩⟩, fun h => by rw [relErr, if_pos h], fun h => ?_⟩
  refine (cLockCheck hx).int1 fun H1 e1 _ => ?_
  rw [relErr, if_neg h]
theorem cRefRelease {H : Heap} {a : Option Addr} {l c : Nat} {xs : List Pin} (hx : Pins H a l xs) (id : Int) : Spec Try.prog 74 [.agg #[.int .i64 id, .slice a l c]] H fun v _ => v = i64 (relErr ⟨id, xs⟩) := by
  refine TryvcJ Try.func74 (by kernel_rfl) (by kernel_rfl) _ rfl (fun base K => vc74 id a l c base H K) fun base hb => ?_
  intro b
  refine (cIn id 1 6).bool1 fun H1 e1 _ => ⟨fun h => ?_, fun h => (cRefLockCheck (hx.ext' e1)).int1 fun H2 e2 _ => ?_⟩
  · have h : ¬ (1 ≤ id ∧ id ≤ 6) := by simpa [inR] using h
    rw [relErr, if_pos (show id < 1 ∨ 6 < id by omega)]
  · have h : 1 ≤ id ∧ id ≤ 6 := by simpa [inR] using h
    rw [relErr, if_neg (show ¬ (id < 1 ∨ 6 < id) by omega)]
theorem rel_eq {id id' : Int} {xs ys : List Pin} : ((⟨id, xs⟩ : Rls) = ⟨id', ys⟩) ↔ id = id' ∧ xs = ys := by simp
theorem cAlike {H : Heap} {a a' : Option Addr} {l c l' c' : Nat} {xs ys : List Pin} (hx : Pins H a l xs) (hy : Pins H a' l' ys) (id id' : Int) :
    Spec Try.prog 86 [.agg #[.int .i64 id, .slice a l c], .agg #[.int .i64 id', .slice a' l' c']] H fun v _ => v = .bool (decide ((⟨id, xs⟩ : Rls) = ⟨id', ys⟩)) := by
  refine TryvcJ Try.func86 (by kernel_rfl) (by kernel_rfl) _ rfl (fun base K => vc86 id id' a a' l c l' c' base H K) fun base hb => ?_
  have hxl := hx.len
  have hyl := hy.len
  have hle := hx.le
  intro b b1
  refine ⟨id ≠ id' ∨ l ≠ l', ⟨fun _ => ⟨rfl, fun _ _ h => h, by omega⟩, fun _ => ⟨rfl, fun _ _ h => h, by omega⟩⟩, fun h => ?_, fun h => ?_⟩
  · rw [decide_eq_false]
    rw [rel_eq]
    rintro ⟨rfl, rfl⟩
    omega
  have hid : id = id' := by omega
  have hll : l = l' := by omega
  have hW : decide ((⟨id, xs⟩ : Rls) = ⟨id', ys⟩) = decide (xs = ys) := by rw [decide_eq_decide, rel_eq]; simp [hid]
  rw [hW]
  refine ⟨fun vs _ => ∃ (b : Bool) (k : Nat), vs = [.bool b, i64 k] ∧ k ≤ l ∧ (xs.drop k = ys.drop k ↔ xs = ys), upTo l 1, ⟨false, 0, rfl, by omega, by simp⟩, fun b n H' hN hI => ?_⟩
  obtain ⟨b', k, hvs, hk, hI⟩ := hI
  obtain ⟨rfl, rfl⟩ : b = b' ∧ n = (k : Int) := by simpa using hvs
  refine ⟨fun hlt => hx.pin hN.ext (by omega) hlt fun p hp => fun b3 => hy.pin hN.ext (by omega) (by omega) fun q hq => ⟨_, neq48 _ _ _ _, fun h => ?_, fun h => ?_⟩, fun hge => ?_⟩
  · rw [Int.toNat_natCast] at hp hq
    rw [drop_at hp, drop_at hq] at hI
    rw [decide_eq_false]
    intro e
    obtain ⟨rfl, _⟩ := List.cons.inj (hI.2 e)
    simp at h
  · rw [Int.toNat_natCast] at hp hq
    rw [drop_at hp, drop_at hq] at hI
    have hpq : p = q := by cases p; cases q; simp at h; simp [h]
    rintro r rfl
    rw [wrap_in (by omega) (by omega)]
    exact ⟨rfl, ⟨b, k + 1, rfl, by omega, by rw [← hI]; simp [hpq]⟩, by simp [upTo]; omega⟩
  · rw [decide_eq_true]
    exact hI.1 (by rw [drop_all hxl (by omega), drop_all hyl (by omega)])
theorem cRefAlike {H : Heap} {a a' : Option Addr} {l c l' c' : Nat} {xs ys : List Pin} (hx : Pins H a l xs) (hy : Pins H a' l' ys) (id id' : Int) :
    Spec Try.prog 99 [.agg #[.int .i64 id, .slice a l c], .agg #[.int .i64 id', .slice a' l' c']] H fun v _ => v = .bool (decide ((⟨id, xs⟩ : Rls) = ⟨id', ys⟩)) := by
  refine TryvcJ Try.func99 (by kernel_rfl) (by kernel_rfl) _ rfl (fun base K => vc99 id id' a a' l c l' c' base H K) fun base hb => ?_
  intro b b1
  refine ⟨id = id' ∧ xs = ys, ⟨fun h => (cEqPins hx hy).bool1 fun H1 e1 _ => ⟨rfl, e1, by simp [h]⟩, fun h => ⟨rfl, fun _ _ h => h, fun h' => h h'.1⟩⟩, ?_⟩
  congr 1
  rw [decide_eq_decide, rel_eq]
/-! ### way.Check -/
theorem len_zero {xs : List Pin} {n : Nat} (h : xs.length = n) : (xs = [] ↔ n = 0) := by rw [← h]; exact List.length_eq_zero_iff.symm
theorem cWayCheck {H : Heap} {a : Option Addr} {l c : Nat} {ms : List Mail} (hx : Mails H a l ms) : Spec Try.prog 50 [.slice a l c] H fun v _ => v = i64 (mailsCheck ms) := by
  refine TryvcJ Try.func50 (by kernel_rfl) (by kernel_rfl) _ rfl (fun base K => vc50 a l c base H K) fun base hb => ?_
  have hl := hx.len
  refine ⟨fun h => by rw [mailsCheck, if_pos (by omega)], fun h => ?_⟩
  have hW : mailsCheck ms = mailsFrom ms := by rw [mailsCheck, if_neg (by omega)]
  rw [hW]
  refine ⟨fun vs _ => ∃ (d : Int) (i : Nat), vs = [i64 d, i64 i] ∧ i ≤ l ∧ mailsFrom (ms.drop i) = mailsFrom ms, upTo l 1, ⟨0, 0, rfl, by omega, rfl⟩, fun d n H' hN hI => ?_⟩
  obtain ⟨d', i, hvs, hi, hI⟩ := hI
  obtain ⟨rfl, rfl⟩ : d = d' ∧ n = (i : Int) := by simpa using hvs
  refine ⟨fun hlt => hx.mail hN.ext (by omega) hlt fun m a' n' c' hm hp => ?_, fun hge => ?_⟩
  · rw [Int.toNat_natCast] at hm
    rw [drop_at hm, mailsFrom] at hI
    have hpl := hp.len
    have next : mailsFrom (ms.drop (i + 1)) = mailsFrom ms → ∀ (Hn : Heap) (r : Int), r = IntKind.wrap .i64 ((i : Int) + 1) → (∃ (d_1 : Int) (i_1 : Nat), [Value.int .i64 d, Value.int .i64 r] = [i64 d_1, i64 i_1] ∧ i_1 ≤ l ∧ mailsFrom (ms.drop i_1) = mailsFrom ms) ∧ upTo l 1 [Value.int .i64 d, Value.int .i64 r] < upTo l 1 [Value.int .i64 d, Value.int .i64 (i : Int)] := by
      rintro hn Hn r rfl
      rw [wrap_small (by omega) (by omega)]
      exact ⟨⟨_, i + 1, rfl, by omega, hn⟩, by simp [upTo]; omega⟩
    intro b
    refine ⟨m.agent < 0 ∨ 6 ≤ m.agent ∨ m.try_ < 1 ∨ 200 < m.try_, ?_, fun h1 => ?_, fun h1 => ?_⟩
    · repeat' (first | exact ⟨rfl, fun _ _ h => h, by omega⟩ | intro _ | refine ⟨?_, ?_⟩)
    · rw [if_pos (show badWho m from h1)] at hI; rw [← hI]
    rw [if_neg (show ¬ badWho m from h1)] at hI
    refine ⟨badForm m, ?_, fun h2 => ?_, fun h2 => ?_⟩
    · have hz := len_zero hpl
      refine ⟨fun hr => ⟨fun g => ⟨rfl, fun _ _ h => h, .inl ⟨hr, fun h => g h.1⟩⟩, fun g => ⟨fun g2 => ⟨rfl, fun _ _ h => h, .inl ⟨hr, fun h => by have := hz.1 h.2; omega⟩⟩, fun g2 => ⟨fun g3 => (by rw [hr] at g3; cases g3), fun _ => ⟨rfl, fun _ _ h => h, ?_⟩⟩⟩⟩,
        fun hr => ⟨fun _ => ⟨rfl, fun _ _ h => h, ?_⟩, fun g => absurd hr g⟩⟩
      · rintro (⟨_, h⟩ | ⟨h, _⟩)
        · exact h ⟨Decidable.not_not.1 g, hz.2 (by omega)⟩
        · rw [hr] at h; cases h
      · constructor
        · rintro (⟨h, _⟩ | ⟨_, h⟩)
          · rw [hr] at h; cases h
          · exact h
        · exact fun h => .inr ⟨hr, h⟩
    · rw [if_pos h2] at hI; rw [← hI]
    rw [if_neg h2] at hI
    refine ⟨fun h3 => ?_, fun h3 => (cNoteRelease (hp.ext' hN.ext) _).int1 fun H2 e2 _ => ⟨fun h4 => ?_, fun h4 => ?_⟩⟩
    · rw [if_pos h3] at hI
      exact next hI H'
    · rw [if_neg (by simp [h3]), if_pos h4] at hI; rw [← hI]
    · rw [if_neg (by simp [h3]), if_neg h4] at hI
      exact next hI H2
  · rw [← hI, drop_all hx.len (by omega), mailsFrom]
theorem cRefMail {H : Heap} {a : Option Addr} {l c : Nat} {ms : List Mail} (hx : Mails H a l ms) : Spec Try.prog 49 [.slice a l c] H fun v _ => v = i64 (mailsCheck ms) := by
  refine TryvcJ Try.func49 (by kernel_rfl) (by kernel_rfl) _ rfl (fun base K => vc49 a l c base H K) fun base hb => ?_
  have hl := hx.len
  refine ⟨fun h => by rw [mailsCheck, if_pos (by omega)], fun h => ?_⟩
  have hW : mailsCheck ms = mailsFrom ms := by rw [mailsCheck, if_neg (by omega)]
  rw [hW]
  refine ⟨fun vs _ => ∃ (d : Int) (i : Nat), vs = [i64 d, i64 i] ∧ i ≤ l ∧ mailsFrom (ms.drop i) = mailsFrom ms, upTo l 1, ⟨0, 0, rfl, by omega, rfl⟩, fun d n H' hN hI => ?_⟩
  obtain ⟨d', i, hvs, hi, hI⟩ := hI
  obtain ⟨rfl, rfl⟩ : d = d' ∧ n = (i : Int) := by simpa using hvs
  refine ⟨fun hlt => hx.mail hN.ext (by omega) hlt fun m a' n' c' hm hp => ?_, fun hge => ?_⟩
  · rw [Int.toNat_natCast] at hm
    rw [drop_at hm, mailsFrom] at hI
    have hpl := hp.len
    have hz := len_zero hpl
    have next : mailsFrom (ms.drop (i + 1)) = mailsFrom ms → ∀ (Hn : Heap) (r : Int), r = IntKind.wrap .i64 ((i : Int) + 1) → (∃ (d_1 : Int) (i_1 : Nat), [Value.int .i64 d, Value.int .i64 r] = [i64 d_1, i64 i_1] ∧ i_1 ≤ l ∧ mailsFrom (ms.drop i_1) = mailsFrom ms) ∧ upTo l 1 [Value.int .i64 d, Value.int .i64 r] < upTo l 1 [Value.int .i64 d, Value.int .i64 (i : Int)] := by
      rintro hn Hn r rfl
      rw [wrap_small (by omega) (by omega)]
      exact ⟨⟨_, i + 1, rfl, by omega, hn⟩, by simp [upTo]; omega⟩
    intro b
    refine ⟨m.agent < 0 ∨ 6 ≤ m.agent ∨ m.try_ < 1 ∨ 200 < m.try_, ?_, fun h1 => ?_, fun h1 => ?_⟩
    · refine (cIn _ _ _).bool1 fun H2 e2 _ => ⟨fun g => ⟨rfl, e2, ?_⟩, fun g => (cIn _ _ _).bool1 fun H3 e3 _ => ⟨rfl, Ext.trans e2 e3, ?_⟩⟩
      · have : ¬ (0 ≤ m.agent ∧ m.agent ≤ 5) := by simpa [inR] using g
        omega
      · have : 0 ≤ m.agent ∧ m.agent ≤ 5 := by simpa [inR] using g
        simp only [inR, decide_eq_false_iff_not]; omega
    · rw [if_pos (show badWho m from h1)] at hI; rw [← hI]
    rw [if_neg (show ¬ badWho m from h1)] at hI
    refine ⟨noRel m.rel, ⟨fun g => ⟨rfl, fun _ _ h => h, ?_⟩, fun g => ⟨rfl, fun _ _ h => h, fun h => g h.1⟩⟩, badForm m, ?_, fun h2 => ?_, fun h2 => ?_⟩
    · constructor
      · intro h; have := hz.1 h.2; omega
      · intro h; exact ⟨g, hz.2 (by omega)⟩
    · refine ⟨fun hr => ⟨fun g => ⟨rfl, fun _ _ h => h, .inl ⟨hr, g⟩⟩, fun g => ⟨fun g2 => ⟨rfl, fun _ _ h => h, ?_⟩, fun g2 => ⟨rfl, fun _ _ h => h, ?_⟩⟩⟩, fun hr => ⟨fun g => ⟨rfl, fun _ _ h => h, ?_⟩, fun g => ⟨rfl, fun _ _ h => h, ?_⟩⟩⟩
      · unfold badForm; simp [hr, Decidable.not_not.1 g]
      · unfold badForm; simp [hr, Decidable.not_not.1 g]
      · unfold badForm; simp [hr, g]
      · unfold badForm; simp [hr, g]
    · rw [if_pos h2] at hI; rw [← hI]
    rw [if_neg h2] at hI
    refine ⟨fun h3 => (cRefRelease (hp.ext' hN.ext) _).int1 fun H2 e2 _ => ⟨fun h4 => ?_, fun h4 => ?_⟩, fun h3 => ?_⟩
    · rw [if_neg (by simp [h3]), if_pos h4] at hI; rw [← hI]
    · rw [if_neg (by simp [h3]), if_neg h4] at hI
      exact next hI H2
    · rw [if_pos (by simpa using h3)] at hI
      exact next hI H'
  · rw [← hI, drop_all hx.len (by omega), mailsFrom]
end Go.Vg
