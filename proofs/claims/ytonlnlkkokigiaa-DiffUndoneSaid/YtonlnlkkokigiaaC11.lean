/- What is proved here: the contracts of the laws DiffSays, DiffComes, DiffUndone. -/
import Derived.Test.YtonlnlkkokigiaaC9b
set_option linter.unusedSimpArgs false
set_option maxRecDepth 100000
set_option linter.unusedVariables false
namespace Go.Vg
open Go Go.Proofs
theorem cParted {H : Heap} : Spec Try.prog 60 [] H fun v _ => v = .bool true := by
  refine TryvcJ Try.func60 (by kernel_rfl) (by kernel_rfl) _ rfl (fun base K => vc60 base H K) fun base hb => ?_
  intro g1 H1 hN1 _ hg1 g2 H2 hN2 _ hg2
  let A : List Pin := [⟨1, 1⟩, ⟨2, 1⟩]
  let B : List Pin := [⟨2, 3⟩, ⟨4, 1⟩]
  have b1 : Pins H2 (some ⟨g1, 0, none⟩) 2 A := sl_of_boxE pinCells_len (xs := A) (hN2.ext _ _ hg1) rfl (by decide)
  have b2 : Pins H2 (some ⟨g2, 0, none⟩) 2 B := sl_of_boxE pinCells_len (xs := B) hg2 rfl (by decide)
  refine (cDiff b1 b2).sl2 fun a3 n3 c3 H3 e3 hN3 hD => (cApply (b1.ext' e3) 2 1 0).sl2 fun a4 n4 c4 H4 e4 _ hA => ?_
  rw [show diffErr A B = 0 from by decide] at hD ⊢
  rw [show applyErr A ⟨2, 1, 0⟩ = 0 from by decide] at hA ⊢
  rw [if_pos rfl] at hD hA
  have h41 : (n4 : Int) = 1 := by
    have h1 := hA.len
    have h2 : (applied A ⟨2, 1, 0⟩).length = 1 := by decide
    omega
  intro g5 H5 hN5 _ hg5
  have b5 : Pins H5 (some ⟨g5, 0, none⟩) 1 [⟨2, 3⟩] := sl_of_boxE pinCells_len (xs := [⟨2, 3⟩]) hg5 rfl (by decide)
  refine (cBetween (((b1.ext' e3).ext' e4).ext' hN5.ext) (((b2.ext' e3).ext' e4).ext' hN5.ext) b5).int2 fun H6 e6 _ => ⟨True, ⟨fun _ => ⟨fun _ => ⟨fun _ => ⟨fun _ => ⟨fun _ => ?_, fun h => absurd (by decide) h⟩, fun h => absurd h41 h⟩, fun h => absurd (by decide) h⟩, fun h => absurd rfl h⟩, fun h => absurd rfl h⟩, by simp⟩
  intro g7 H7 hN7 _ hg7
  have b7 : Steps H7 (some ⟨g7, 0, none⟩) 3 [⟨2, 1, 0⟩, ⟨3, 2, 3⟩, ⟨1, 4, 1⟩] := sl_of_boxE stepCells_len (xs := [⟨2, 1, 0⟩, ⟨3, 2, 3⟩, ⟨1, 4, 1⟩]) hg7 rfl (by decide)
  refine (cEqSteps ((((hD.ext' e4).ext' hN5.ext).ext' e6).ext' hN7.ext) b7).bool1 fun H8 e8 _ => ⟨Ext.trans hN7.ext e8, ?_⟩
  have : diffs A B = [⟨2, 1, 0⟩, ⟨3, 2, 3⟩, ⟨1, 4, 1⟩] := by decide
  simp [this]
theorem cDiffSays {H : Heap} {a a' a'' : Option Addr} {l c l' c' l'' c'' : Nat} {xs ys zs : List Pin} (hx : Pins H a l xs) (hy : Pins H a' l' ys) (kd n v : Int) (hz : Pins H a'' l'' zs) :
    Spec Try.prog 11 [.slice a l c, .slice a' l' c', .agg #[.int .i64 kd, .int .i64 n, .int .i64 v], .slice a'' l'' c''] H fun v _ => v = .bool true := by
  refine TryvcJ Try.func11 (by kernel_rfl) (by kernel_rfl) _ rfl (fun base K => vc11 a a' a'' l c l' c' l'' c'' kd n v base H K) fun base hb => ?_
  intro b
  refine (cDiff hx hy).sl2 fun a1 n1 c1 H1 e1 _ hD1 => ?_
  have x1 := hx.ext' e1
  have y1 := hy.ext' e1
  have z1 := hz.ext' e1
  refine (cApply x1 kd n v).sl2 fun a2 n2 c2 H2 e2 _ hA2 => (cBetween (x1.ext' e2) (y1.ext' e2) (z1.ext' e2)).int2 fun H3 e3 _ => ?_
  have x3 := (x1.ext' e2).ext' e3
  have y3 := (y1.ext' e2).ext' e3
  have z3 := (z1.ext' e2).ext' e3
  refine (cSteps x3 y3).sl2 fun a4 n4 c4 H4 e4 _ hS4 => (cStepped (x3.ext' e4) kd n v).sl2 fun a5 n5 c5 H5 e5 _ hA5 => ?_
  refine (cOnTheWay ((x3.ext' e4).ext' e5) ((y3.ext' e4).ext' e5) ((z3.ext' e4).ext' e5)).int2 fun H6 e6 _ => ⟨True, ?_, by simp⟩
  refine cParted.bool1 fun H7 e7 _ => ⟨fun _ => ⟨fun _ => ?_, fun h => absurd rfl h⟩, fun h => by simp at h⟩
  refine (cEqSteps ((((((hD1.ext' e2).ext' e3).ext' e4).ext' e5).ext' e6).ext' e7) (((hS4.2.ext' e5).ext' e6).ext' e7)).bool1 fun H8 e8 _ => ⟨fun _ => ⟨fun _ => ?_, fun h => absurd rfl h⟩, fun h => by simp at h⟩
  refine (cEqPins ((((((hA2.ext' e3).ext' e4).ext' e5).ext' e6).ext' e7).ext' e8) (((hA5.ext' e6).ext' e7).ext' e8)).bool1 fun H9 e9 _ => ⟨fun _ => ⟨fun _ => ⟨rfl, Ext.trans (Ext.trans e7 e8) e9, by simp⟩, fun h => absurd rfl h⟩, fun h => by simp at h⟩
theorem cDiffComes {H : Heap} {a a' : Option Addr} {l c l' c' : Nat} {xs ys : List Pin} (hx : Pins H a l xs) (hy : Pins H a' l' ys) :
    Spec Try.prog 12 [.slice a l c, .slice a' l' c'] H fun v _ => v = .bool true := by
  refine TryvcJ Try.func12 (by kernel_rfl) (by kernel_rfl) _ rfl (fun base K => vc12 a a' l c l' c' base H K) fun base hb => ?_
  refine (cDiff hx hy).sl2 fun a1 n1 c1 H1 e1 hN1 hD => ⟨¬ diffErr xs ys = 0, cParted.bool1 fun H2 e2 _ => ⟨fun h => by simp at h, fun _ => ⟨e2, Iff.rfl⟩⟩, fun h => cParted.bool1 fun H3 _ _ => rfl, fun h b => ?_⟩
  have h := Decidable.not_not.1 h
  rw [if_pos h] at hD
  obtain ⟨⟨hLx, hx12⟩, hLy, hy12⟩ := diffErr_zero.1 h
  have hdl := hD.len
  have hdle := hD.le
  obtain ⟨hend, hall⟩ := after_all hLy hy12 _ hLx hx12 rfl
  have hnd := diffs_names hLx hLy
  refine ⟨fun vs Hc => ∃ (fl : Bool) (a2 : Option Addr) (n2 c2 k : Nat), vs = [.bool fl, .slice a2 n2 c2, i64 k, .agg (seenCells (((diffs xs ys).take k).map Step.name)).toArray] ∧ Pins Hc a2 n2 (after xs ((diffs xs ys).take k)) ∧ Steps Hc a1 n1 (diffs xs ys) ∧ k ≤ n1, upTo n1 2,
    ⟨false, a, l, c, 0, by simp [seenCells], by simpa [after] using hx.ext' e1, hD, by omega⟩, fun fl a2 n2 c2 m cs H' hN hI => ?_⟩
  obtain ⟨fl', a2', n2', c2', k, hvs, hP, hS, hk⟩ := hI
  obtain ⟨rfl, ⟨rfl, rfl, rfl⟩, rfl, rfl⟩ : fl = fl' ∧ (a2 = a2' ∧ n2 = n2' ∧ c2 = c2') ∧ m = (k : Int) ∧ cs = seenCells (((diffs xs ys).take k).map Step.name) := by simpa using hvs
  obtain ⟨hLn, hn12, hdn⟩ := hall k (by omega)
  refine ⟨fun hlt => hS.step (Ext.refl _) (by omega) hlt fun o ho => fun b3 => ?_, fun hge => ?_⟩
  · rw [Int.toNat_natCast] at ho
    have hdn' := hdn
    rw [drop_at ho] at hdn'
    have hkb := between_at hLy hy12 hLx hx12 (i := k) (by omega)
    have hbe : btwErr xs ys (after xs ((diffs xs ys).take k)) = 0 := btwErr_zero.2 ⟨h, hLn, hn12⟩
    have hbt : btw xs ys (after xs ((diffs xs ys).take k)) = k := by rw [btw, if_pos hbe, hkb]
    have hnew : o.name ∉ ((diffs xs ys).take k).map Step.name := fun hm => by
      have e1 : (diffs xs ys).map Step.name = ((diffs xs ys).take k).map Step.name ++ (o.name :: ((diffs xs ys).drop (k + 1)).map Step.name) := by
        conv => lhs; rw [← List.take_append_drop k (diffs xs ys), drop_at ho]
        simp
      rw [e1, List.nodup_append] at hnd
      exact hnd.2.2 _ hm _ List.mem_cons_self rfl
    refine (cBetween (hx.ext' hN.ext) (hy.ext' hN.ext) hP).int2 fun H3 e3 _ => ⟨False, ⟨fun h => absurd hbe h, fun _ => ⟨fun h => absurd hbt h, fun _ => ⟨_, _, mapGet_seen _ _, rfl, fun _ _ h => h, ⟨False.elim, fun h => hnew (of_decide_eq_true h)⟩⟩⟩⟩, fun h => h.elim, fun _ => ⟨_, mapSet_seen _ _ hnew, ?_⟩⟩
    have hdz : diffErr (after xs ((diffs xs ys).take k)) ys = 0 := diffErr_zero.2 ⟨⟨hLn, hn12⟩, hLy, hy12⟩
    refine (cDiff (hP.ext' e3) ((hy.ext' hN.ext).ext' e3)).sl2 fun a4 n4 c4 H4 e4 _ hD4 => ?_
    rw [if_pos hdz, hdn] at hD4
    have hn4 := hD4.len
    rw [List.length_drop] at hn4
    refine ⟨False, ⟨fun h => absurd hdz h, fun _ r hr => ⟨rfl, fun _ _ h => h, ?_⟩⟩, fun h => h.elim, fun _ => ?_⟩
    · rw [hr, wrap_in (by omega) (by omega)]
      simp; omega
    obtain ⟨f1, f2⟩ := diffs_fits hLn hLy hn12 hy12 hdn'
    refine (cApply ((hP.ext' e3).ext' e4) o.kind o.name o.ver).sl2 fun a5 n5 c5 H5 e5 _ hP5 => ?_
    rw [if_pos f1] at hP5
    have hL5 : lockCheck (applied (after xs ((diffs xs ys).take k)) o) = 0 := lockCheck_zero.2 ⟨((diffs_mem hLn hLy (hdn' ▸ List.mem_cons_self : o ∈ diffs (after xs ((diffs xs ys).take k)) ys)).applied hLn hLy).1, f2⟩
    refine ⟨False, ⟨fun h => absurd f1 h, fun _ => (cLockCheck hP5).int1 fun H6 e6 _ => ⟨rfl, e6, by simp [hL5]⟩⟩, fun h => h.elim, fun _ => ?_⟩
    rintro r rfl
    rw [wrap_in (by omega) (by omega)]
    have hnext : after xs ((diffs xs ys).take (k + 1)) = applied (after xs ((diffs xs ys).take k)) o := by rw [take_at ho, after, List.foldl_append]; rfl
    exact ⟨⟨fl, a5, n5, c5, k + 1, by rw [take_at ho]; simp, by rw [hnext]; exact hP5, ((hS.ext' e3).ext' e4).ext' e5, by omega⟩, by simp [upTo]; omega⟩
  · obtain rfl : k = n1 := by omega
    rw [List.take_of_length_le (by omega), hend] at hP
    have hy' := hy.ext' hN.ext
    have hdz : diffErr ys ys = 0 := diffErr_zero.2 ⟨⟨hLy, hy12⟩, hLy, hy12⟩
    refine (cDiff hy' hy').sl2 fun a4 n4 c4 H4 e4 _ hD4 => ?_
    rw [if_pos hdz, diffs_self ys hLy] at hD4
    have hn4 := hD4.len
    refine ⟨True, ⟨fun _ => ⟨fun _ => ?_, fun h => absurd (by simp at hn4; omega) h⟩, fun h => absurd hdz h⟩, by simp⟩
    exact (cEqPins (hP.ext' e4) (hy'.ext' e4)).bool1 fun H5 e5 _ => ⟨rfl, e5, by simp⟩
theorem cDiffUndone {H : Heap} {a a' : Option Addr} {l c l' c' : Nat} {xs ys : List Pin} (hx : Pins H a l xs) (kd n v : Int) (hy : Pins H a' l' ys) :
    Spec Try.prog 13 [.slice a l c, .agg #[.int .i64 kd, .int .i64 n, .int .i64 v], .slice a' l' c'] H fun v _ => v = .bool true := by
  refine TryvcJ Try.func13 (by kernel_rfl) (by kernel_rfl) _ rfl (fun base K => vc13 a a' l c l' c' kd n v base H K) fun base hb => ?_
  intro b
  refine (cApply hx kd n v).sl2 fun a1 n1 c1 H1 e1 _ hP => ⟨¬ applyErr xs ⟨kd, n, v⟩ = 0, cParted.bool1 fun H2 e2 _ => ⟨fun h => by simp at h, fun _ => ⟨rfl, e2, Iff.rfl⟩⟩, fun h => cParted.bool1 fun H3 _ _ => rfl, fun h => ?_⟩
  have h := Decidable.not_not.1 h
  rw [if_pos h] at hP
  generalize hm : applied xs ⟨kd, n, v⟩ = m at hP
  obtain ⟨hLm, hm12, _⟩ := applied_ok h
  obtain ⟨hLx, hx12⟩ := (applyErr_zero h).1
  have hund := undone h
  rw [hm] at hLm hm12 hund
  have hdz : diffErr m xs = 0 := diffErr_zero.2 ⟨⟨hLm, hm12⟩, hLx, hx12⟩
  have x1 := hx.ext' e1
  refine (cDiff hP x1).sl2 fun a4 n4 c4 H4 e4 _ hD => ?_
  rw [if_pos hdz] at hD
  have hdl := hD.len
  have x4 := x1.ext' e4
  have y4 := (hy.ext' e1).ext' e4
  have P4 := hP.ext' e4
  have fin : ∀ {H6 : Heap}, Pins H6 a l xs → Pins H6 a' l' ys → Pins H6 a1 n1 m → btwErr xs ys m = 0 → btw xs ys m = -1 → m ≠ xs ∧ m ≠ ys := fun _ _ _ hbe hbt => by
    rw [btw, if_pos hbe] at hbt
    obtain ⟨⟨_, hLy, hy12⟩, _⟩ := (btwErr_zero.1 hbe).imp diffErr_zero.1 id
    exact between_ends hLy hy12 hLx hx12 hbt
  refine ⟨False, ⟨fun h => absurd hdz h, fun _ => ⟨fun h => absurd h (by omega), fun _ => ⟨fun h0 => (cEqPins x4 P4).bool1 fun H5 e5 _ => ⟨rfl, e5, ?_⟩, fun _ => ⟨rfl, fun _ _ h => h, fun h => h.elim⟩⟩⟩⟩, fun h => h.elim, fun _ => ⟨fun h1 => ?_, fun h1 => ?_⟩⟩
  · have : m = xs := diffs_nil hLm hLx (List.eq_nil_of_length_eq_zero (by omega))
    simp [this]
  · obtain ⟨o, ho⟩ : ∃ o, diffs m xs = [o] := List.length_eq_one_iff.1 (by omega)
    rw [ho] at hD
    refine hD.step (k := 0) (Ext.refl _) (by omega) (by omega) fun o' ho' => ?_
    obtain rfl : o = o' := by simpa using ho'
    obtain ⟨f1, f2⟩ := diffs_fits hLm hLx hm12 hx12 ho
    have hback : applied m o = xs := by have := (after_all hLx hx12 _ hLm hm12 rfl).1; rw [ho] at this; exact this
    refine (cApply P4 o.kind o.name o.ver).sl2 fun a5 n5 c5 H5 e5 _ hP5 => ?_
    rw [if_pos f1, hback] at hP5
    refine ⟨False, ⟨fun h => absurd f1 h, fun _ => (cEqPins hP5 (x4.ext' e5)).bool1 fun H6 e6 _ => ⟨rfl, e6, by simp⟩⟩, fun h => h.elim, fun _ => ?_⟩
    refine (cBetween (x4.ext' e5) (y4.ext' e5) (P4.ext' e5)).int2 fun H6 e6 _ => ⟨True, ⟨fun _ => ⟨rfl, fun _ _ h => h, trivial⟩, fun hbe => ⟨fun _ => ⟨rfl, fun _ _ h => h, trivial⟩, fun hbt => ?_⟩⟩, by simp⟩
    have x6 := (x4.ext' e5).ext' e6
    have y6 := (y4.ext' e5).ext' e6
    have P6 := (P4.ext' e5).ext' e6
    obtain ⟨g1, g2⟩ := fin x6 y6 P6 (Decidable.not_not.1 hbe) (Decidable.not_not.1 hbt)
    exact (cEqPins P6 x6).bool1 fun H7 e7 _ => ⟨fun _ => (cEqPins (P6.ext' e7) (y6.ext' e7)).bool1 fun H8 e8 _ => ⟨rfl, Ext.trans e7 e8, by simp [g2]⟩, fun h => absurd (by simp [g1]) h⟩
  · refine (cBetween x4 y4 P4).int2 fun H6 e6 _ => ⟨True, ⟨fun _ => ⟨rfl, fun _ _ h => h, trivial⟩, fun hbe => ⟨fun _ => ⟨rfl, fun _ _ h => h, trivial⟩, fun hbt => ?_⟩⟩, by simp⟩
    have x6 := x4.ext' e6
    have y6 := y4.ext' e6
    have P6 := P4.ext' e6
    obtain ⟨g1, g2⟩ := fin x6 y6 P6 (Decidable.not_not.1 hbe) (Decidable.not_not.1 hbt)
    exact (cEqPins P6 x6).bool1 fun H7 e7 _ => ⟨fun _ => (cEqPins (P6.ext' e7) (y6.ext' e7)).bool1 fun H8 e8 _ => ⟨rfl, Ext.trans e7 e8, by simp [g2]⟩, fun h => absurd (by simp [g1]) h⟩
end Go.Vg
