/- What is proved here: the contracts of the laws of records as texts (NoteBack, NoteSays). -/
import Derived.Test.YtglnjkkaojhgnaaDoorW4
import Derived.Test.YtglnjkkaojhgnaaDoorD5
import Derived.Test.YtglnjkkaojhgnaaDoorD6
set_option linter.unusedSimpArgs false
set_option linter.unusedVariables false
set_option maxRecDepth 100000
namespace Go.Vg
open Go Go.Proofs
theorem Spec.recO {P : Program} {f : FuncId} {args : List Value} {H : Heap} {x : Except Int Recd} (h : Spec P f args H (RecOut H x)) {base : Nat} {G : Int → Int → Int → Int → Bool → Int → Option Addr → Nat → Nat → Int → Heap → Prop}
    (hG : ∀ a n c H', Ext H H' → Vg.Next base H H' → Pins H' a n (recGet x).rel.lock → G (recGet x).kind (recGet x).agent (recGet x).try_ (recGet x).num (recGet x).good (recGet x).rel.id a n c (errOf x) H') :
    Spec P f args H fun v H' => ∃ (n1 n2 n3 n4 : Int) (b : Bool) (n5 : Int) (a : Option Addr) (n6 c : Nat) (n7 : Int), v = .tuple #[.agg #[.int .i64 n1, .int .i64 n2, .int .i64 n3, .int .i64 n4, .bool b, .int .i64 n5, .slice a n6 c], .int .i64 n7] ∧ (Vg.Next base H H' → G n1 n2 n3 n4 b n5 a n6 c n7 H') :=
  h.mono fun v H' e ⟨a, n, c, hv, hF⟩ => ⟨_, _, _, _, _, _, a, n, c, _, hv, fun hN => hG a n c H' e hN (pins_of_row (hF.row hN))⟩
theorem nilPins {H : Heap} : Pins H none 0 rec0.rel.lock := Sl.nil
def linedR : Recd := ⟨1, 0, 7, 0, false, ⟨2, [⟨3, 4⟩]⟩⟩
theorem lined_text : recText linedR = [49, 32, 48, 32, 55, 32, 48, 32, 48, 32, 50, 32, 61, 51, 64, 52] := by
  show (Lib.itoa ((1 : Nat) : Int) ++ [32]) ++ ((Lib.itoa ((0 : Nat) : Int) ++ [32]) ++ ((Lib.itoa ((7 : Nat) : Int) ++ [32]) ++ ((Lib.itoa ((0 : Nat) : Int) ++ [32]) ++ ((Lib.itoa ((0 : Nat) : Int) ++ [32]) ++ ((Lib.itoa ((2 : Nat) : Int) ++ [32]) ++ []))))) ++ 61 :: (Lib.itoa ((3 : Nat) : Int) ++ 64 :: Lib.itoa ((4 : Nat) : Int) ++ []) = _
  simp only [itoa_digit (show 0 < 10 by omega), itoa_digit (show 1 < 10 by omega), itoa_digit (show 7 < 10 by omega), itoa_digit (show 2 < 10 by omega), itoa_digit (show 3 < 10 by omega), itoa_digit (show 4 < 10 by omega)]
  rfl
theorem lined_err : recErr linedR = 0 := by decide
theorem recErrOf_zero {x : Except Int Recd} (hx : ∀ e, x = .error e → e ≠ 0) (h : errOf x = 0) : ∃ r, x = .ok r := by
  cases x with
  | ok l => exact ⟨l, rfl⟩
  | error e => exact absurd h (hx e rfl)
theorem readR_err {s : ByteArray} {e : Int} (h : (if 60000 < s.size then .error 2 else recRead s.data.toList) = Except.error e) : e ≠ 0 := by
  split at h
  · injection h with h; omega
  · exact recRead_err h
section
variable {H : Heap} (hL : Lb H)
include hL
theorem cLined : Spec Tryd.prog 19 [] H fun v _ => v = .bool true := by
  refine TrydvcJ Tryd.func19 (by kernel_rfl) (by kernel_rfl) _ rfl (fun base K => vd19 base H K) fun base hb => ?_
  intro g H1 hN1 hg0 hg b
  have hp1 : Pins H1 (some ⟨g, 0, none⟩) 1 linedR.rel.lock := sl_of_boxE pinCells_len (xs := [⟨3, 4⟩]) hg rfl (by decide)
  refine (cNotePrint (hL.ext hN1.ext) (r := linedR) (c := 1) hp1).strE fun H2 e2 hN2 => ?_
  rw [if_pos lined_err, lined_err, lined_text]
  have hps := cNoteParse (hL.ext (Ext.trans hN1.ext e2)) (s := ⟨[49, 32, 48, 32, 55, 32, 48, 32, 48, 32, 50, 32, 61, 51, 64, 52].toArray⟩)
  rw [if_neg (by decide), data_mk, ← lined_text, recRead_text lined_err] at hps
  rw [← lined_text]
  refine hps.recO fun a n c H3 e3 hN3 hp3 => ?_
  have hp3 : Pins H3 a n linedR.rel.lock := hp3
  have hq1 := hp1.ext' (Ext.trans e2 e3)
  intro b2
  refine ⟨True, ⟨fun _ => ⟨fun _ => ⟨_, eqS, fun _ => (cNoteSame (r := linedR) (q := linedR) (c := 1) hq1 hp3).bool1 fun H4 e4 hN4 => ⟨fun _ => (cNoteRelease (hq1.ext' e4) 2).int1 fun H5 e5 hN5 => ⟨fun _ => (cAlike (hq1.ext' (Ext.trans e4 e5)) (hp3.ext' (Ext.trans e4 e5)) 2 2).bool1 fun H6 e6 hN6 => ⟨rfl, Ext.trans e4 (Ext.trans e5 e6), by simp⟩, fun h => absurd (by decide) h⟩, fun h => by simp at h⟩, fun h => absurd (by rw [data_mk, lined_text]; rfl) h⟩, fun h => absurd rfl h⟩, fun h => absurd rfl h⟩, ?_⟩
  show Value.bool _ = _
  congr 1
  simp
theorem cNoteBack {a a' : Option Addr} {l c l' c' : Nat} {r q : Recd} {s : ByteArray} (hr : Pins H a l r.rel.lock) (hq : Pins H a' l' q.rel.lock) : Spec Tryd.prog 5 [recArg r a l c, recArg q a' l' c', .string s] H fun v _ => v = .bool true := by
  refine TrydvcJ Tryd.func5 (by kernel_rfl) (by kernel_rfl) _ rfl (fun base K => vd5 r.kind r.agent r.try_ r.num r.rel.id r.good a l c q.kind q.agent q.try_ q.num q.rel.id q.good a' l' c' s base H K) fun base hb => ?_
  intro b b1
  refine (cNotePrint hL (r := r) (c := c) hr).strE fun H1 e1 hN1 => (cNotePrint (hL.ext e1) (r := q) (c := c') (hq.ext' e1)).strE fun H2 e2 hN2 => ?_
  have e12 := Ext.trans e1 e2
  refine ⟨False, (cLined (hL.ext e12)).bool1 fun H3 e3 hN3 => ⟨fun h => (by cases h), fun _ => ⟨fun hz1 => ⟨fun hz2 => ⟨_, eqS, (cNoteSame (r := r) (q := q) (c := c) (c' := c') (hr.ext' (Ext.trans e12 e3)) (hq.ext' (Ext.trans e12 e3))).bool1 fun H4 e4 hN4 => ⟨_, neBool, rfl, Ext.trans e3 e4, ?_⟩⟩, fun hz2 => ⟨rfl, e3, id⟩⟩, fun hz1 => ⟨rfl, e3, id⟩⟩⟩, fun h => h.elim, fun _ => ⟨fun hz1 => ?_, fun hz1 => ?_⟩⟩
  · rw [if_pos hz1, if_pos hz2, data_mk, data_mk]
    have : (recText r = recText q) ↔ r = q := ⟨recText_inj hz1 hz2, fun h => by rw [h]⟩
    by_cases h : r = q
    · subst h; simp
    · have h' : ¬ recText r = recText q := fun e => h (this.1 e)
      simp [h, h']
  · rw [if_pos hz1]
    have hps := cNoteParse (hL.ext e12) (s := ⟨(recText r).toArray⟩)
    have hln := recText_len hz1
    rw [if_neg (by rw [size_mk]; omega), data_mk, recRead_text hz1] at hps
    refine hps.recO fun a3 n3 c3 H3 e3 hN3 hp3 => ?_
    have hp3 : Pins H3 a3 n3 r.rel.lock := hp3
    have e123 := Ext.trans e12 e3
    intro b3
    refine ⟨False, ⟨fun h => absurd rfl h, fun _ => (cNoteSame (r := r) (q := r) (c := c3) (c' := c) hp3 (hr.ext' e123)).bool1 fun H4 e4 hN4 => ⟨rfl, e4, by simp⟩⟩, fun h => h.elim, fun _ => ?_⟩
    refine (cNoteParse (hL.ext e123) (s := s)).recO fun a n c H4 e4 hN4 hp4 => fun b5 => ⟨fun _ => rfl, fun h => ?_⟩
    obtain ⟨z, hz⟩ := recErrOf_zero (fun e he => readR_err he) (Decidable.not_not.1 h)
    rw [hz] at hp4 ⊢
    have hp4 : Pins H4 a n z.rel.lock := hp4
    have hsz : ¬ 60000 < s.size := fun hc => by rw [if_pos hc] at hz; cases hz
    rw [if_neg hsz] at hz
    obtain ⟨ht, hk⟩ := recRead_ok hz
    refine (cNotePrint (hL.ext (Ext.trans e123 e4)) (r := z) (c := c) hp4).strE fun H5 e5 hN5 => ?_
    rw [if_pos hk, hk, ht]
    refine ⟨True, ⟨fun _ => ⟨_, eqS, rfl, subH, by rw [data_mk]; simp⟩, fun h => absurd rfl h⟩, ?_⟩
    show Value.bool _ = _
    congr 1
    simp
  · refine (cNoteParse (hL.ext e12) (s := s)).recO fun a n c H4 e4 hN4 hp4 => fun b5 => ⟨fun _ => rfl, fun h => ?_⟩
    obtain ⟨z, hz⟩ := recErrOf_zero (fun e he => readR_err he) (Decidable.not_not.1 h)
    rw [hz] at hp4 ⊢
    have hp4 : Pins H4 a n z.rel.lock := hp4
    have hsz : ¬ 60000 < s.size := fun hc => by rw [if_pos hc] at hz; cases hz
    rw [if_neg hsz] at hz
    obtain ⟨ht, hk⟩ := recRead_ok hz
    refine (cNotePrint (hL.ext (Ext.trans e12 e4)) (r := z) (c := c) hp4).strE fun H5 e5 hN5 => ?_
    rw [if_pos hk, hk, ht]
    refine ⟨True, ⟨fun _ => ⟨_, eqS, rfl, subH, by rw [data_mk]; simp⟩, fun h => absurd rfl h⟩, ?_⟩
    show Value.bool _ = _
    congr 1
    simp
theorem cNoteSays {a a' : Option Addr} {l c l' c' : Nat} {r q : Recd} {s : ByteArray} (hr : Pins H a l r.rel.lock) (hq : Pins H a' l' q.rel.lock) : Spec Tryd.prog 6 [recArg r a l c, recArg q a' l' c', .string s] H fun v _ => v = .bool true := by
  refine TrydvcJ Tryd.func6 (by kernel_rfl) (by kernel_rfl) _ rfl (fun base K => vd6 r.kind r.agent r.try_ r.num r.rel.id r.good a l c q.kind q.agent q.try_ q.num q.rel.id q.good a' l' c' s base H K) fun base hb => ?_
  intro b b1
  refine (cNotePrint hL (r := r) (c := c) hr).strE fun H1 e1 hN1 => ?_
  have hps := cNoteParse (hL.ext e1) (s := s)
  generalize hx : (if 60000 < s.size then (.error 2 : Except Int Recd) else recRead s.data.toList) = x at hps
  refine hps.recO fun a2 n2 c2 H2 e2 hN2 hp2 => fun b3 => ?_
  have e02 := Ext.trans e1 e2
  refine (cRecText (hL.ext e02) (r := r) (c := c) (hr.ext' e02)).strE fun H3 e3 hN3 => ?_
  have e03 := Ext.trans e02 e3
  refine (cLined (hL.ext e03)).bool1 fun H4 e4 hN4 => ⟨fun h => (by cases h), fun _ => ?_⟩
  have e04 := Ext.trans e03 e4
  refine (cNoteRelease (hr.ext' e04) r.rel.id).int1 fun H5 e5 hN5 => ?_
  have e05 := Ext.trans e04 e5
  refine (cRefRelease (hr.ext' e05) r.rel.id).int1 fun H6 e6 hN6 => ⟨fun h => absurd rfl h, fun _ => ?_⟩
  have e06 := Ext.trans e05 e6
  refine (cRecCheck (r := r) (c := c) (hr.ext' e06)).int1 fun H7 e7 hN7 => ⟨fun h => absurd rfl h, fun _ => ⟨fun h => absurd rfl h, fun _ => ⟨_, neS, fun h => by simp at h, fun _ => ?_⟩⟩⟩
  have e07 := Ext.trans e06 e7
  refine (cNoteSame (r := r) (q := q) (c := c) (c' := c') (hr.ext' e07) (hq.ext' e07)).bool1 fun H8 e8 hN8 => ?_
  have e08 := Ext.trans e07 e8
  refine (cSameRec (r := r) (q := q) (c := c) (c' := c') (hr.ext' e08) (hq.ext' e08)).bool1 fun H9 e9 hN9 => ⟨_, neBool, fun h => by simp at h, fun _ => ?_⟩
  have e09 := Ext.trans e08 e9
  refine (cAlike (hr.ext' e09) (hq.ext' e09) r.rel.id q.rel.id).bool1 fun H10 e10 hN10 => ?_
  have e010 := Ext.trans e09 e10
  refine (cRefAlike (hr.ext' e010) (hq.ext' e010) r.rel.id q.rel.id).bool1 fun H11 e11 hN11 => ⟨_, neBool, fun h => by simp at h, fun _ => ?_⟩
  have e011 := Ext.trans e010 e11
  have hp11 := hp2.ext' (Ext.trans e3 (Ext.trans e4 (Ext.trans e5 (Ext.trans e6 (Ext.trans e7 (Ext.trans e8 (Ext.trans e9 (Ext.trans e10 e11))))))))
  refine ⟨fun big => ?_, fun small => ?_⟩
  · obtain rfl : x = .error 2 := by rw [← hx, if_pos (by omega)]
    refine ⟨True, ⟨fun _ => (cSameRec (r := recGet (.error 2)) (q := rec0) (c := c2) (c' := 0) hp11 nilPins).bool1 fun H12 e12 _ => ⟨rfl, e12, by simp [recGet]⟩, fun h => absurd rfl h⟩, ?_⟩
    show Value.bool _ = _
    congr 1
    simp
  · obtain rfl : x = recRead s.data.toList := by rw [← hx, if_neg (by omega)]
    refine (cRecRead (hL.ext e011) (s := s) (by rw [← size_data]; omega)).recO fun a12 n12 c12 H12 e12 hN12 hp12 => fun b12 => ⟨True, ⟨fun _ => ?_, fun h => absurd rfl h⟩, ?_⟩
    · refine (cSameRec (r := recGet (recRead s.data.toList)) (q := recGet (recRead s.data.toList)) (c := c2) (c' := c12) (hp11.ext' e12) hp12).bool1 fun H13 e13 _ => ⟨rfl, e13, by simp⟩
    · show Value.bool _ = _
      congr 1
      simp
end
end Go.Vg
