/- What is proved here: the contracts of the functions that read records. -/
import Derived.Test.YtglnjkkaojhgnaaDoorD5
set_option linter.unusedSimpArgs false
set_option linter.unusedVariables false
set_option maxRecDepth 100000
namespace Go.Vg
open Go Go.Proofs
/-! ### Plain laws -/
def rec0 : Recd := ⟨0, 0, 0, 0, false, ⟨0, []⟩⟩
def recGet (x : Except Int Recd) : Recd := match x with | .ok r => r | .error _ => rec0
theorem nums_cons {w : List UInt8} {ws : List (List UInt8)} {n : Int} (h : num w = some n) : nums (w :: ws) = (nums ws).map (n :: ·) := by rw [nums, h]
theorem nums_bad {w : List UInt8} {ws : List (List UInt8)} (h : num w = none) : nums (w :: ws) = none := by rw [nums, h]
/-- The end of reading: numbers, the last word. -/
def recFin (ns : Option (List Int)) (w6 : List UInt8) : Except Int Recd :=
  if w6.head? = some 61 then
    (match ns with
     | some [k, a, tr, n, g, id] =>
       if g < 0 ∨ 1 < g then .error 1 else
       (match lockRead (w6.drop 1) with
        | .error e => .error e
        | .ok l => let r : Recd := ⟨k, a, tr, n, decide (g = 1), ⟨id, l⟩⟩
          if recErr r = 0 then .ok r else .error (recErr r))
     | _ => .error 1)
  else .error 1
theorem recRead_len {s : List UInt8} (h : (cuts 32 s).length ≠ 7) : recRead s = .error 1 := by
  unfold recRead
  split
  · rename_i hc
    rw [hc] at h; exact absurd rfl h
  · rfl
theorem recRead_seven {s : List UInt8} {ws : List (List UInt8)} {w6 : List UInt8} (hc : cuts 32 s = ws) (hl : ws.length = 7) (h6 : ws[6]? = some w6) : recRead s = recFin (nums (ws.take 6)) w6 := by
  match ws, hl, h6 with
  | [v0, v1, v2, v3, v4, v5, v6], _, h6 =>
    obtain rfl : v6 = w6 := by simpa using h6
    unfold recRead
    rw [hc]
    rfl
theorem recFin_none {w : List UInt8} : recFin none w = .error 1 := by unfold recFin; split <;> rfl
theorem recFin_head {ns : Option (List Int)} {w : List UInt8} (h : ¬ w.head? = some 61) : recFin ns w = .error 1 := by unfold recFin; rw [if_neg h]
theorem recFin_good {k a tr n g id : Int} {w : List UInt8} (h : w.head? = some 61) (hg : g < 0 ∨ 1 < g) : recFin (some [k, a, tr, n, g, id]) w = .error 1 := by rw [recFin, if_pos h]; dsimp only; rw [if_pos hg]
theorem recFin_lock {k a tr n g id : Int} {w : List UInt8} (h : w.head? = some 61) (hg : ¬ (g < 0 ∨ 1 < g)) : recFin (some [k, a, tr, n, g, id]) w = match lockRead (w.drop 1) with
    | .error e => .error e
    | .ok l => if recErr ⟨k, a, tr, n, decide (g = 1), ⟨id, l⟩⟩ = 0 then .ok ⟨k, a, tr, n, decide (g = 1), ⟨id, l⟩⟩ else .error (recErr ⟨k, a, tr, n, decide (g = 1), ⟨id, l⟩⟩) := by
  rw [recFin, if_pos h]; dsimp only; rw [if_neg hg]
theorem prefix61 (w : List UInt8) : Lib.hasPrefix w [61] = decide (w.head? = some 61) := by
  unfold Lib.hasPrefix
  cases w with
  | nil => rfl
  | cons b r =>
    show ((61 : UInt8) == b && List.isPrefixOf [] r) = _
    by_cases h : b = 61
    · subst h; simp
    · simp [h, Ne.symm h]
theorem trim61 {w : List UInt8} (h : w.head? = some 61) : Lib.trimPrefix w [61] = w.drop 1 := by
  unfold Lib.trimPrefix
  rw [prefix61, h]; rfl
theorem six {ns : List Int} (h : ns.length = 6) : ∃ k a tr n g id, ns = [k, a, tr, n, g, id] := by
  match ns, h with
  | [k, a, tr, n, g, id], _ => exact ⟨k, a, tr, n, g, id, rfl⟩
theorem take_set_next {α : Type} {cs : List α} {m : Nat} {v : α} (h : m < cs.length) : (cs.set m v).take (m + 1) = cs.take m ++ [v] := by
  rw [take_at (x := v) (by simp [h]), List.take_set_of_le (Nat.le_refl m)]
theorem Fresh.mv {H H1 H2 H3 : Heap} {e : TypeId} {sz : Nat} {a : Option Addr} {n c : Nat} {cs : List Value} (h : Fresh H1 H2 e sz a n c cs) (e1 : Ext H H1) (e2 : Ext H2 H3) : Fresh H H3 e sz a n c cs := by
  obtain ⟨h1, h2, h3, h4⟩ := h
  refine ⟨h1, h2, h3, h4.imp id fun ⟨g, k, q1, q2, q3, q4⟩ => ⟨g, k, q1, ?_, e2 _ _ q3, q4⟩⟩
  cases hg : H g with
  | none => rfl
  | some k' => rw [e1 g k' hg] at q2; cases q2
theorem neNilE {xo : Operand} : RunsTo Tryd.prog (binRun .neq 82 xo (.const .nilIface) .nilIface .nilIface) (.bool false) := by
  intro w
  have hu := run_underlying Tryd.underlying82
  have hg : (eqGuard .neq 82 xo (.const .nilIface) .nilIface .nilIface).run Tryd.prog w = .ok () w := by simp [eqGuard]
  have he : (Op.equalIn (9999 + 1) 82 .nilIface .nilIface).run Tryd.prog w = .ok true w := by
    rw [Op.equalIn]
    simp only [Sem.run_bind, hu, Result.andThen_ok]
    rfl
  simp only [binRun, Sem.run_bind, hg, Result.andThen_ok]
  simp [binOp, Op.equal, show Op.maxDepth = 9999 + 1 from rfl, he]
theorem neIfaceE {xo : Operand} {t : TypeId} {p : Value} : RunsTo Tryd.prog (binRun .neq 82 xo (.const .nilIface) (.iface t p) .nilIface) (.bool true) := by
  intro w
  have hu := run_underlying Tryd.underlying82
  have hg : (eqGuard .neq 82 xo (.const .nilIface) (.iface t p) .nilIface).run Tryd.prog w = .ok () w := by simp [eqGuard]
  have he : (Op.equalIn (9999 + 1) 82 (.iface t p) .nilIface).run Tryd.prog w = .ok false w := by
    rw [Op.equalIn]
    simp only [Sem.run_bind, hu, Result.andThen_ok]
    rfl
  simp only [binRun, Sem.run_bind, hg, Result.andThen_ok]
  simp [binOp, Op.equal, show Op.maxDepth = 9999 + 1 from rfl, he]
/-- A record that was read, or none. -/
def RecOut (H : Heap) (x : Except Int Recd) (v : Value) (H' : Heap) : Prop :=
  ∃ a n c, v = .tuple #[recArg (recGet x) a n c, i64 (errOf x)] ∧ Fresh H H' 29 2 a n c ((recGet x).rel.lock.flatMap pinCells)
theorem RecOut.bad {H H' : Heap} {e : Int} : RecOut H (.error e) (.tuple #[.agg #[.int .i64 0, .int .i64 0, .int .i64 0, .int .i64 0, .bool false, .int .i64 0, .slice none 0 0], .int .i64 e]) H' := ⟨none, 0, 0, rfl, Fresh.zero⟩
theorem cBadR {H1 : Heap} {base : Nat} {e : Int} {K : Value → Heap → Prop} (hK : ∀ H', K (.tuple #[.agg #[.int .i64 0, .int .i64 0, .int .i64 0, .int .i64 0, .bool false, .int .i64 0, .slice none 0 0], .int .i64 e]) H') :
    Spec Tryd.prog 58 [.int .i64 e] H1 fun v H' => ∃ (n n1 n2 n3 : Int) (b : Bool) (n4 : Int) (a : Option Addr) (m c : Nat) (n6 : Int), v = .tuple #[.agg #[.int .i64 n, .int .i64 n1, .int .i64 n2, .int .i64 n3, .bool b, .int .i64 n4, .slice a m c], .int .i64 n6] ∧
      (Vg.Next base H1 H' → K (.tuple #[.agg #[.int .i64 n, .int .i64 n1, .int .i64 n2, .int .i64 n3, .bool b, .int .i64 n4, .slice a m c], .int .i64 n6]) H') := by
  refine TrydvcJ Tryd.func58 (by kernel_rfl) (by kernel_rfl) _ rfl (fun base K => vd58 e base H1 K) fun base hb => fun _ => ?_
  exact ⟨0, 0, 0, 0, false, 0, none, 0, 0, e, rfl, fun _ => hK _⟩
section
variable {H : Heap} (hL : Lb H)
include hL
theorem cNoteParse {s : ByteArray} : Spec Tryd.prog 21 [.string s] H (RecOut H (if 60000 < s.size then .error 2 else recRead s.data.toList)) := by
  refine TrydvcJ Tryd.func21 (by kernel_rfl) (by kernel_rfl) _ rfl (fun base K => vd21 s base H K) fun base hb => ?_
  refine fun b => ⟨fun h => ?_, fun h => ?_⟩
  · rw [if_pos (by omega)]; exact RecOut.bad
  rw [if_neg (by omega)]
  have hsz : s.data.toList.length ≤ 60000 := by rw [← size_data]; omega
  generalize hws : cuts 32 s.data.toList = ws
  have hwm : ∀ w ∈ ws, w.length ≤ 60000 := fun w hw => by rw [← hws] at hw; have := mem_cuts_len hw; omega
  refine (l_split hL (s := s) (c := 32) (by omega)).mono fun v H1 e1 hv => ?_
  obtain ⟨g, N, hv, hS⟩ := hv
  rw [hws] at hS
  have hNl := hS.len
  refine ⟨_, _, _, hv, fun hN1 => ⟨fun h7 => ?_, fun h7 => ?_⟩⟩
  · rw [recRead_len (by rw [hws]; omega)]; exact RecOut.bad
  obtain rfl : N = 7 := by omega
  have h6l : ws[6]? = some ws[6] := List.getElem?_eq_getElem (by omega)
  generalize ws[6] = w6 at h6l
  rw [recRead_seven hws hNl h6l]
  generalize hfw : ws.take 6 = fw
  have hfl : fw.length = 6 := by rw [← hfw, List.length_take]; omega
  have hfg : ∀ (m : Nat) w, m < 6 → ws[m]? = some w → fw[m]? = some w := fun m w hm hw => by rw [← hfw, List.getElem?_take, if_pos hm]; exact hw
  refine fun b1 => ⟨rfl, fun vs H' => ∃ (k : Int) (A : Value) (m : Nat) (ns : List Int) (cs : List Value), vs = [i64 k, i64 m, A, .agg cs.toArray] ∧ m ≤ 6 ∧ cs.length = 6 ∧ ns.length = m ∧ cs.take m = ns.map i64 ∧ nums fw = (nums (fw.drop m)).map (ns ++ ·) ∧ Ext H1 H', upTo 6 1,
    ⟨0, _, 0, [], _, rfl, by omega, rfl, rfl, rfl, by simp, Ext.refl _⟩, fun n1 n2 n3 n4 n5 n6 b2 n7 a3 n8 c1 cs hcs H2 hN2 hI => ?_⟩
  obtain ⟨k', A', m, ns, cs', hvs, hm, _, hnl, hct, hI, hE⟩ := hI
  obtain ⟨rfl, rfl, rfl, rfl⟩ : n1 = k' ∧ n2 = (m : Int) ∧ _ = A' ∧ cs = cs' := by simpa using hvs
  refine ⟨fun hlt => hS.str hE (by omega) (by omega) fun w hw => ?_, fun hge => ?_⟩
  · rw [Int.toNat_natCast] at hw
    have hwz := hwm w (List.mem_of_getElem? hw)
    have hmw := hfg m w (by omega) hw
    rw [drop_at hmw] at hI
    refine (l_atoi (hL.ext hN2.ext) (s := ⟨w.toArray⟩) (by rw [size_mk]; omega)).spec.mono fun v H3 e3 hv3 => ?_
    obtain ⟨⟨n9, e9, hv3, h9⟩, _⟩ := hv3
    rw [data_mk] at h9
    rcases h9 with ⟨hok, rfl⟩ | ⟨hno, t, p, rfl⟩
    · have hbd := Lib.atoiAll_bounds hok
      refine ⟨n9, .inl ⟨hv3, fun hN3 => ⟨false, neNilE, fun h => (by cases h), fun _ => hS.str (Ext.trans hE e3) (by omega) (by omega) fun w' hw' => ?_⟩⟩⟩
      rw [Int.toNat_natCast, hw] at hw'
      obtain rfl := Option.some.inj hw'
      refine (l_itoa (hL.ext (Ext.trans hN2.ext e3)) hbd.1 hbd.2).str1 fun H4 e4 hN4 => ⟨_, neS, fun h => ?_, fun h => ?_⟩
      · rw [data_mk, data_mk] at h
        have h : ¬ Lib.itoa n9 = w := by simpa using h
        have hn : num w = none := by rw [num, hok]; simp [h]
        rw [nums_bad hn, Option.map_none] at hI
        rw [hI, recFin_none]; exact RecOut.bad
      · rw [data_mk, data_mk] at h
        have h : Lib.itoa n9 = w := by simpa using h
        have hn : num w = some n9 := by rw [num, hok]; simp [h]
        rw [nums_cons hn] at hI
        refine ⟨by omega, hlt, by rw [hcs, Int.toNat_natCast]; omega, ?_⟩
        rintro r rfl
        rw [wrap_in (by omega) (by omega)]
        rw [show 0 + Int.toNat (m : Int) * 1 = m from by omega]
        refine ⟨by simp [hcs], ⟨n1, _, m + 1, ns ++ [n9], cs.set m (.int .i64 n9), rfl, by omega, by simp [hcs], by simp [hnl], ?_, by rw [hI]; cases nums (fw.drop (m + 1)) <;> simp, Ext.trans hE (Ext.trans e3 e4)⟩, by simp [upTo]; omega⟩
        rw [take_set_next (by omega), hct]; simp
    · refine ⟨n9, .inr ⟨t, p, hv3, fun hN3 => ⟨true, neIfaceE, fun _ => ?_, fun h => absurd rfl h⟩⟩⟩
      have hn : num w = none := by
        unfold num
        split
        · rename_i v hv; exact absurd hv (hno v)
        · rfl
      rw [nums_bad hn, Option.map_none] at hI
      rw [hI, recFin_none]; exact RecOut.bad
  · obtain rfl : m = 6 := by omega
    rw [List.drop_of_length_le (by omega), nums, Option.map_some, List.append_nil] at hI
    obtain ⟨k, ag, tr, n, gg, id, rfl⟩ := six hnl
    rw [List.take_of_length_le (by omega)] at hct
    subst hct
    rw [hI]
    have hw6 := hwm w6 (List.mem_of_getElem? h6l)
    refine hS.str (k := 6) hE (by omega) (by omega) fun w hw => ?_
    obtain rfl : w6 = w := by rw [show Int.toNat 6 = 6 from rfl, h6l] at hw; exact Option.some.inj hw
    refine (l_cutPrefix (s := ⟨w6.toArray⟩) (p := ⟨#[61]⟩)).cut2 fun H3 e3 hN3 => ?_
    rw [data_mk, show (⟨#[61]⟩ : ByteArray).data.toList = [61] from rfl, prefix61]
    refine ⟨¬ w6.head? = some 61 ∨ gg < 0 ∨ 1 < gg, ⟨fun hp => ⟨rfl, subH, .inl (by simpa using hp)⟩, fun hp => ⟨gg, rfl, fun h0 => ⟨rfl, subH, .inr (.inl h0)⟩, fun h0 => ⟨gg, rfl, rfl, subH, ?_⟩⟩⟩, fun hφ => ?_, fun hφ => ?_⟩
    · have hp : w6.head? = some 61 := by simpa using hp
      exact ⟨fun h => (h.resolve_left (fun x => x hp)).resolve_left h0, fun h => .inr (.inr h)⟩
    · have : recFin (some [k, ag, tr, n, gg, id]) w6 = .error 1 := by
        by_cases hp : w6.head? = some 61
        · exact recFin_good hp (hφ.resolve_left (fun x => x hp))
        · exact recFin_head hp
      rw [this]; exact RecOut.bad
    · have hp : w6.head? = some 61 := Decidable.byContradiction fun x => hφ (.inl x)
      have hg : ¬ (gg < 0 ∨ 1 < gg) := fun x => hφ (.inr x)
      rw [recFin_lock hp hg, trim61 hp]
      have hdl : (w6.drop 1).length ≤ 60000 := by rw [List.length_drop]; omega
      refine (cLockParse (hL.ext (Ext.trans hN2.ext e3)) (s := ⟨(w6.drop 1).toArray⟩)).mono fun v H4 e4 hv4 => ?_
      obtain ⟨a4, m4, c4, hv4, hF4⟩ := hv4
      rw [if_neg (by rw [size_mk]; omega), data_mk] at hv4 hF4
      refine ⟨a4, m4, c4, _, hv4, fun hN4 => ⟨fun h => ?_, fun h => ?_⟩⟩
      · cases hr : lockRead (w6.drop 1) with
        | ok l => rw [hr] at h; exact absurd rfl h
        | error e => exact RecOut.bad
      · obtain ⟨lk, hr⟩ := errOf_zero (Decidable.not_not.1 h)
        rw [hr] at hF4 ⊢
        dsimp only
        have hpn := (pins_of_row (hF4.row hN4) : Pins H4 a4 m4 lk)
        refine ⟨k, rfl, ag, rfl, tr, rfl, n, rfl, gg, rfl, id, rfl, fun _ => ?_⟩
        refine (cRecCheck (r := ⟨k, ag, tr, n, decide (gg = 1), ⟨id, lk⟩⟩) hpn).int1 fun H5 e5 hN5 => ⟨fun h5 => ?_, fun h5 => ?_⟩
        · rw [if_neg h5]; exact RecOut.bad
        · rw [if_pos (Decidable.not_not.1 h5)]
          exact ⟨a4, m4, c4, rfl, hF4.mv (Ext.trans hN2.ext e3) e5⟩
theorem cRecRead {s : ByteArray} (hsz : s.data.toList.length ≤ 60000) : Spec Tryd.prog 29 [.string s] H (RecOut H (recRead s.data.toList)) := by
  refine TrydvcJ Tryd.func29 (by kernel_rfl) (by kernel_rfl) _ rfl (fun base K => vd29 s base H K) fun base hb => ?_
  have hss : s.size ≤ 60000 := by rw [size_data]; omega
  intro b
  generalize hws : cuts 32 s.data.toList = ws
  have hwm : ∀ w ∈ ws, w.length ≤ 60000 := fun w hw => by rw [← hws] at hw; have := mem_cuts_len hw; omega
  refine (l_split hL (s := s) (c := 32) (by omega)).mono fun v H1 e1 hv => ?_
  obtain ⟨g, N, hv, hS⟩ := hv
  rw [hws] at hS
  have hNl := hS.len
  refine ⟨_, _, _, hv, fun hN1 => ?_⟩
  by_cases h7 : N = 7
  case neg =>
    rw [recRead_len (by rw [hws]; omega)]
    exact ⟨True, ⟨fun _ => ⟨rfl, subH, trivial⟩, fun h => absurd (by omega) h⟩, fun _ => cBadR fun _ => RecOut.bad, fun h => absurd trivial h⟩
  subst h7
  have h6l : ws[6]? = some ws[6] := List.getElem?_eq_getElem (by omega)
  generalize ws[6] = w6 at h6l
  rw [recRead_seven hws hNl h6l]
  generalize hfw : ws.take 6 = fw
  have hfl : fw.length = 6 := by rw [← hfw, List.length_take]; omega
  have hfg : ∀ (m : Nat) w, m < 6 → ws[m]? = some w → fw[m]? = some w := fun m w hm hw => by rw [← hfw, List.getElem?_take, if_pos hm]; exact hw
  have hw6 := hwm w6 (List.mem_of_getElem? h6l)
  refine ⟨¬ w6.head? = some 61, ⟨fun h => absurd (by omega) h, fun _ => hS.str (k := 6) (Ext.refl _) (by omega) (by omega) fun w hw => ?_⟩, fun hφ => ?_, fun hφ => ?_⟩
  · obtain rfl : w6 = w := by rw [show Int.toNat 6 = 6 from rfl, h6l] at hw; exact Option.some.inj hw
    refine (l_prefix (s := ⟨w6.toArray⟩) (p := ⟨#[61]⟩)).bool1 fun H3 e3 hN3 => ⟨rfl, e3, ?_⟩
    rw [data_mk, show (⟨#[61]⟩ : ByteArray).data.toList = [61] from rfl, prefix61]
    simp
  · rw [recFin_head hφ]; exact cBadR fun _ => RecOut.bad
  have hp : w6.head? = some 61 := Decidable.not_not.1 hφ
  refine ⟨by decide, by omega, fun vs H' => ∃ (k : Int) (A : Value) (m : Nat) (ns : List Int) (a3 : Option Addr) (c3 : Nat), vs = [i64 k, .slice a3 m c3, i64 m, A] ∧ m ≤ 6 ∧ Row base H' 3 1 a3 m c3 (ns.map i64) ∧ ns.length = m ∧ nums fw = (nums (fw.drop m)).map (ns ++ ·) ∧ Ext H1 H' ∧ Apart H1 a3 c3, upTo 6 2,
    ⟨0, _, 0, [], none, 0, rfl, by omega, Row.nil, rfl, by simp, Ext.refl _, Apart.none⟩, fun n1 a3 n2 c3 n3 n4 n5 n6 n7 b2 n8 a4 n9 c4 H2 hN2 hI => ?_⟩
  obtain ⟨k', A', m, ns, a3', c3', hvs, hm, hR, hnl, hI, hE, hA⟩ := hI
  obtain ⟨rfl, ⟨rfl, rfl, rfl⟩, rfl, rfl⟩ : n1 = k' ∧ (a3 = a3' ∧ n2 = m ∧ c3 = c3') ∧ n3 = (m : Int) ∧ _ = A' := by simpa using hvs
  refine ⟨fun hlt => ?_, fun hge => ?_⟩
  · have hmw7 : n2 < ws.length := by omega
    have hw : ws[n2]? = some ws[n2] := List.getElem?_eq_getElem hmw7
    generalize ws[n2] = w at hw
    have hwz := hwm w (List.mem_of_getElem? hw)
    have hmw := hfg n2 w (by omega) hw
    rw [drop_at hmw] at hI
    obtain ⟨bb, o, ha, h0, h1, s', hc, hF⟩ := hS.str (k := (n2 : Int)) hE (by omega) (by omega) (F := fun s => s = ⟨w.toArray⟩) (fun w' hw' => by
      rw [Int.toNat_natCast, hw] at hw'
      obtain rfl := Option.some.inj hw'
      rfl)
    subst hF
    refine ⟨bb, o, ha, h0, hlt, _, hc, (cWhole (hL.ext hN2.ext) (s := ⟨w.toArray⟩) (by rw [size_mk]; omega)).mono fun v H3 e3 hv3 => ?_⟩
    obtain ⟨n10, b10, hv3, ht, hf⟩ := hv3
    rw [data_mk] at ht hf
    refine ⟨n10, b10, hv3, fun hN3 => ⟨fun h => ?_, fun h => ?_⟩⟩
    · rw [nums_bad (hf h), Option.map_none] at hI
      rw [hI, recFin_none]; exact cBadR fun _ => RecOut.bad
    · have hn := ht (by simpa using h)
      rw [nums_cons hn] at hI
      intro _
      refine ⟨_, hR.ext e3, by omega, by omega, fun a6 c6 H6 hG6 hR6 => ?_⟩
      rintro r rfl
      rw [wrap_in (by omega) (by omega)]
      obtain ⟨hE6, hA6⟩ := hA.grew (Ext.trans hE e3) hG6
      exact ⟨⟨n1, _, n2 + 1, ns ++ [n10], a6, c6, rfl, by omega, by rw [List.map_append]; exact hR6, by simp [hnl], by rw [hI]; cases nums (fw.drop (n2 + 1)) <;> simp, hE6, hA6⟩, by simp [upTo]; omega⟩
  · obtain rfl : n2 = 6 := by omega
    rw [List.drop_of_length_le (by omega), nums, Option.map_some, List.append_nil] at hI
    obtain ⟨k, ag, tr, n, gg, id, rfl⟩ := six hnl
    rw [hI]
    have hSi : Sl RInt 1 H2 a3 6 [k, ag, tr, n, gg, id] := ints_of_row hR
    refine hSi.int (Ext.refl _) (k := 4) (by omega) (by omega) fun x hx => ?_
    obtain rfl : gg = x := by simpa using hx
    refine (cIn _ _ _).bool1 fun H3 e3 hN3 => ⟨fun h => ?_, fun h => ?_⟩
    · have hg : gg < 0 ∨ 1 < gg := by
        have : ¬ (0 ≤ gg ∧ gg ≤ 1) := by simpa [inR] using h
        omega
      rw [recFin_good hp hg]; exact cBadR fun _ => RecOut.bad
    have hg : ¬ (gg < 0 ∨ 1 < gg) := by
      have : 0 ≤ gg ∧ gg ≤ 1 := by simpa [inR] using h
      omega
    rw [recFin_lock hp hg]
    have hdl : (w6.drop 1).length ≤ 60000 := by rw [List.length_drop]; omega
    have hl1 : 1 ≤ w6.length := by
      cases w6 with
      | nil => cases hp
      | cons x r => simp
    refine hS.str (k := 6) (Ext.trans hE e3) (by omega) (by omega) fun w hw => ?_
    obtain rfl : w6 = w := by rw [show Int.toNat 6 = 6 from rfl, h6l] at hw; exact Option.some.inj hw
    have hxd : ((⟨w6.toArray⟩ : ByteArray).extract 1 (⟨w6.toArray⟩ : ByteArray).size).data.toList = w6.drop 1 := extract_drop _ 1
    refine ⟨by decide, by rw [size_mk]; omega, ?_⟩
    refine (cLockRead (hL.ext (Ext.trans hN2.ext e3)) (s := (⟨w6.toArray⟩ : ByteArray).extract 1 (⟨w6.toArray⟩ : ByteArray).size) (by rw [hxd]; exact hdl)).mono fun v H4 e4 hv4 => ?_
    obtain ⟨a5, m5, c5, hv4, hF4⟩ := hv4
    rw [hxd] at hv4 hF4
    refine ⟨a5, m5, c5, _, hv4, fun hN4 => ⟨fun h => ?_, fun h => ?_⟩⟩
    · cases hr : lockRead (w6.drop 1) with
      | ok l => rw [hr] at h; exact absurd rfl h
      | error e => exact cBadR fun _ => RecOut.bad
    · obtain ⟨lk, hr⟩ := errOf_zero (Decidable.not_not.1 h)
      rw [hr] at hF4 ⊢
      dsimp only
      have hpn := (pins_of_row (hF4.row hN4) : Pins H4 a5 m5 lk)
      have e24 : Ext H2 H4 := Ext.trans e3 e4
      refine hSi.int e24 (k := 0) (by omega) (by omega) fun x0 h0 => ?_
      refine hSi.int e24 (k := 1) (by omega) (by omega) fun x1 h1 => ?_
      refine hSi.int e24 (k := 2) (by omega) (by omega) fun x2 h2 => ?_
      refine hSi.int e24 (k := 3) (by omega) (by omega) fun x3 h3 => ?_
      refine hSi.int e24 (k := 4) (by omega) (by omega) fun x4 h4 => ?_
      refine hSi.int e24 (k := 5) (by omega) (by omega) fun x5 h5 => ?_
      obtain rfl : k = x0 := by simpa using h0
      obtain rfl : ag = x1 := by simpa using h1
      obtain rfl : tr = x2 := by simpa using h2
      obtain rfl : n = x3 := by simpa using h3
      obtain rfl : gg = x4 := by simpa using h4
      obtain rfl : id = x5 := by simpa using h5
      intro _
      refine (cRefRecCheck (r := ⟨k, ag, tr, n, decide (gg = 1), ⟨id, lk⟩⟩) hpn).int1 fun H5 e5 hN5 => ⟨fun h5 => ?_, fun h5 => ?_⟩
      · rw [if_neg h5]; exact cBadR fun _ => RecOut.bad
      · rw [if_pos (Decidable.not_not.1 h5)]
        exact ⟨a5, m5, c5, rfl, hF4.mv (Ext.trans hN2.ext e3) e5⟩
end
end Go.Vg
