/- What is proved here: the contracts of the functions of ways between locks, and of the document's answers. -/
import Derived.Test.YtonlnlkkokigiaaC9
set_option linter.unusedSimpArgs false
set_option maxRecDepth 100000
set_option linter.unusedVariables false
namespace Go.Vg
open Go Go.Proofs
/-! ### diff.Between -/
theorem cBetween {H : Heap} {a a' a'' : Option Addr} {l c l' c' l'' c'' : Nat} {xs ys zs : List Pin} (hx : Pins H a l xs) (hy : Pins H a' l' ys) (hz : Pins H a'' l'' zs) :
    Spec Try.prog 56 [.slice a l c, .slice a' l' c', .slice a'' l'' c''] H fun v _ => v = .tuple #[i64 (btw xs ys zs), i64 (btwErr xs ys zs)] := by
  refine TryvcJ Try.func56 (by kernel_rfl) (by kernel_rfl) _ rfl (fun base K => vc56 a a' a'' l c l' c' l'' c'' base H K) fun base hb => ?_
  refine (cDiff hx hy).sl2 fun a1 n1 c1 H1 e1 hN1 hD => ⟨fun h => ?_, fun h => (cLockCheck (hz.ext' e1)).int1 fun H2 e2 hN2 => ⟨fun h2 => ?_, fun h2 => ?_⟩⟩
  · have e : btwErr xs ys zs = diffErr xs ys := by rw [btwErr, if_neg h]
    rw [btw, e, if_neg h]
  · have e : btwErr xs ys zs = lockCheck zs := by rw [btwErr, if_pos (Decidable.not_not.1 h)]
    rw [btw, e, if_neg h2]
  have h := Decidable.not_not.1 h
  have h2 := Decidable.not_not.1 h2
  rw [if_pos h] at hD
  have hE : btwErr xs ys zs = 0 := btwErr_zero.2 ⟨h, lockCheck_zero.1 h2⟩
  have hW : btw xs ys zs = between (diffs xs ys) zs 0 xs := by rw [btw, if_pos hE]
  rw [hW, hE]
  obtain ⟨⟨hLx, hx12⟩, hLy, hy12⟩ := diffErr_zero.1 h
  have hdl := hD.len
  have hdle := hD.le
  have hall := (after_all hLy hy12 _ hLx hx12 rfl).2
  refine ⟨fun vs Hc => ∃ (now : List Pin) (a2 : Option Addr) (n2 c2 : Nat) (d1 d2 d3 : Int) (k : Nat), vs = [i64 d1, i64 d2, i64 d3, .slice a2 n2 c2, i64 k] ∧ Pins Hc a2 n2 now ∧ Steps Hc a1 n1 (diffs xs ys) ∧ k ≤ n1 ∧ now = after xs ((diffs xs ys).take k) ∧ between ((diffs xs ys).drop k) zs k now = between (diffs xs ys) zs 0 xs,
    upTo n1 4, ⟨xs, a, l, c, 0, 0, _, 0, rfl, (hx.ext' e1).ext' e2, hD.ext' e2, by omega, by simp [after], rfl⟩, fun d1 d2 d3 a2 n2 c2 m H' hN hI => ?_⟩
  obtain ⟨now, a2', n2', c2', d1', d2', d3', k, hvs, hP, hS, hk, hnow, hI⟩ := hI
  obtain ⟨rfl, rfl, rfl, ⟨rfl, rfl, rfl⟩, rfl⟩ : d1 = d1' ∧ d2 = d2' ∧ d3 = d3' ∧ (a2 = a2' ∧ n2 = n2' ∧ c2 = c2') ∧ m = (k : Int) := by simpa using hvs
  obtain ⟨hLn, hn12, hdn⟩ := hall k (by omega)
  rw [← hnow] at hLn hn12 hdn
  refine (cEqPins hP (hz.ext' hN.ext)).bool1 fun H3 e3 hN3 => ⟨fun h3 => ?_, fun h3 => ⟨fun hkn => ?_, fun hkn => ?_⟩⟩
  · have h3 : now = zs := by simpa using h3
    rw [← hI]
    cases hd : (diffs xs ys).drop k with
    | nil => rw [between_nil, if_pos h3]
    | cons o r => rw [between_cons, if_pos h3]
  · have h3 : now ≠ zs := by simpa using h3
    rw [← hI, drop_all hdl (by omega), between_nil, if_neg h3]
  · have h3 : now ≠ zs := by simpa using h3
    refine hS.step e3 (by omega) (by omega) fun o ho => ?_
    rw [Int.toNat_natCast] at ho
    rw [drop_at ho] at hI hdn
    rw [between_cons, if_neg h3] at hI
    obtain ⟨f1, f2⟩ := diffs_fits hLn hLy hn12 hy12 hdn
    refine (cApply (hP.ext' e3) o.kind o.name o.ver).sl2 fun a4 n4 c4 H4 e4 hN4 hP4 => ⟨fun hne => absurd f1 hne, fun _ => ?_⟩
    rw [if_pos f1] at hP4
    rintro r rfl
    rw [wrap_in (by omega) (by omega)]
    exact ⟨⟨applied now o, a4, n4, c4, _, _, _, k + 1, rfl, hP4, (hS.ext' e3).ext' e4, by omega, by rw [take_at ho, after, List.foldl_append, hnow]; rfl, hI⟩, by simp [upTo]; omega⟩
/-! ### The document's Steps -/
theorem Row.keep {base : Nat} {H H' : Heap} {f : TypeId} {sy : Nat} {a a' b : Option Addr} {c c' nn m d : Nat} {ys : List Value} (h : Row base H f sy b m d ys) (hG : Grew base H H' a c a' c' nn) (hs : c ≠ 0 → d ≠ 0 → a ≠ b) : Row base H' f sy b m d ys ∧ (c' ≠ 0 → d ≠ 0 → a' ≠ b) := by
  obtain ⟨h1, h2, h3, h4⟩ := h
  rcases h4 with ⟨h5, h6⟩ | ⟨g, k, hb, hbase, hH, hr⟩
  · exact ⟨⟨h1, h2, h3, .inl ⟨h5, h6⟩⟩, fun _ hd => absurd h6 hd⟩
  · by_cases hd : d = 0
    · exact ⟨⟨h1, h2, h3, .inl ⟨by omega, hd⟩⟩, fun _ h => absurd hd h⟩
    · refine ⟨⟨h1, h2, h3, .inr ⟨g, k, hb, hbase, hG.keep g k hH ?_, hr⟩⟩, fun hc' _ e => ?_⟩
      · by_cases hc : c = 0
        · exact .inl hc
        · exact .inr fun e => hs hc hd (by rw [e, hb])
      · rcases hG.place hc' g (by rw [e, hb]) with h | ⟨h, hc⟩
        · rw [hH] at h; cases h
        · exact hs hc hd (by rw [← h, e])
theorem tab_get (xs : List Pin) {k : Int} (h0 : 0 ≤ k) (h1 : k < 21) : (tabCells xs)[0 + k.toNat * 1]? = some (.int .i64 (find xs k)) := by
  rw [Nat.zero_add, Nat.mul_one, tabCells_at xs (by omega), show (k.toNat : Int) = k from by omega]
theorem cSteps {H : Heap} {a a' : Option Addr} {l c l' c' : Nat} {xs ys : List Pin} (hx : Pins H a l xs) (hy : Pins H a' l' ys) :
    Spec Try.prog 57 [.slice a l c, .slice a' l' c'] H fun v H' => ∃ a n c, v = .tuple #[.slice a n c, i64 (diffErr xs ys)] ∧ n ≤ c ∧ Steps H' a n (if diffErr xs ys = 0 then diffs xs ys else []) := by
  refine TryvcJ Try.func57 (by kernel_rfl) (by kernel_rfl) _ rfl (fun base K => vc57 a a' l c l' c' base H K) fun base hb => ?_
  refine (cRefLockCheck hx).int1 fun H1 e1 hN1 => ⟨fun h => ?_, fun h => (cRefLockCheck (hy.ext' e1)).int1 fun H2 e2 hN2 => ⟨fun h2 => ?_, fun h2 => ?_⟩⟩
  · have e : diffErr xs ys = lockCheck xs := by rw [diffErr, if_neg h]
    rw [e, if_neg h]; exact ⟨none, 0, 0, rfl, by omega, Sl.nil⟩
  · have e : diffErr xs ys = lockCheck ys := by rw [diffErr, if_pos (Decidable.not_not.1 h)]
    rw [e, if_neg h2]; exact ⟨none, 0, 0, rfl, by omega, Sl.nil⟩
  have h := Decidable.not_not.1 h
  have h2 := Decidable.not_not.1 h2
  have hz : diffErr xs ys = 0 := by rw [diffErr, if_pos h]; exact h2
  obtain ⟨⟨hLx, hx12⟩, hLy, hy12⟩ := diffErr_zero.1 hz
  rw [hz, if_pos rfl]
  refine (cTable ((hx.ext' e1).ext' e2) hLx).mono fun v H3 e3 hv => ⟨_, tabCells_len xs, hv, fun hN3 => (cTable (((hy.ext' e1).ext' e2).ext' e3) hLy).mono fun v H4 e4 hv => ⟨_, tabCells_len ys, hv, fun hN4 b b' => ⟨tabCells_len xs, tabCells_one xs, rfl, tabCells_len ys, tabCells_one ys, rfl, ?_⟩⟩⟩
  refine ⟨fun vs Hc => ∃ (dr rs : List Step) (a1 : Option Addr) (n1 c1 : Nat) (a2 : Option Addr) (n2 c2 k : Nat), vs = [.slice a1 n1 c1, .slice a2 n2 c2, i64 k] ∧ Row base Hc 73 3 a1 n1 c1 (dr.flatMap stepCells) ∧ Row base Hc 73 3 a2 n2 c2 (rs.flatMap stepCells) ∧ (c1 ≠ 0 → c2 ≠ 0 → a1 ≠ a2) ∧ k ≤ 21 ∧ dr.length ≤ k ∧ rs.length ≤ k ∧
      dr ++ (countUp (21 - k) k).filterMap (rDrop xs ys) = drops xs ys ∧ rs ++ (countUp (21 - k) k).filterMap (rRest xs ys) = adds xs ys,
    upTo 21 2, ⟨[], [], none, 0, 0, none, 0, 0, 0, rfl, Row.nil, Row.nil, fun h => absurd rfl h, by omega, by simp, by simp, rDrop_all hLx, rRest_all hLy⟩, fun a1 n1 c1 a2 n2 c2 m H' hN hI => ?_⟩
  obtain ⟨dr, rs, a1', n1', c1', a2', n2', c2', k, hvs, hR1, hR2, hap, hk, hdl, hrl, hI1, hI2⟩ := hI
  obtain ⟨⟨rfl, rfl, rfl⟩, ⟨rfl, rfl, rfl⟩, rfl⟩ : (a1 = a1' ∧ n1 = n1' ∧ c1 = c1') ∧ (a2 = a2' ∧ n2 = n2' ∧ c2 = c2') ∧ m = (k : Int) := by simpa using hvs
  have hn1 := steps_len hR1
  have hn2 := steps_len hR2
  refine ⟨fun hlt => ?_, fun hge => ?_⟩
  · obtain ⟨q, hq⟩ : ∃ q, 21 - k = q + 1 := ⟨20 - k, by omega⟩
    have hq' : 21 - (k + 1) = q := by omega
    rw [hq] at hI1 hI2
    simp only [countUp] at hI1 hI2
    have gx := tab_get xs (k := (k : Int)) (by omega) hlt
    have gy := tab_get ys (k := (k : Int)) (by omega) hlt
    refine ⟨by omega, hlt, _, gx, by omega, hlt, _, gy, fun he => ?_, fun he => ⟨by omega, hlt, _, gy, fun h0 => ?_, fun h0 => ⟨by omega, hlt, _, gx, fun h0' => ⟨by omega, hlt, _, gy, ?_⟩, fun h0' => ⟨by omega, hlt, _, gy, ?_⟩⟩⟩⟩
    · rw [List.filterMap_cons_none (by rw [rDrop, if_pos he])] at hI1
      rw [List.filterMap_cons_none (by rw [rRest, if_pos he])] at hI2
      rintro r rfl
      rw [wrap_small (by omega) (by omega)]
      exact ⟨rfl, ⟨dr, rs, _, _, _, _, _, _, k + 1, rfl, hR1, hR2, hap, by omega, by omega, by omega, by rw [hq']; exact hI1, by rw [hq']; exact hI2⟩, by simp [upTo]; omega⟩
    · rw [List.filterMap_cons_some (b := ⟨2, k, 0⟩) (by rw [rDrop, if_neg he, if_pos h0])] at hI1
      rw [List.filterMap_cons_none (by rw [rRest, if_neg he, if_pos h0])] at hI2
      refine fun _ => ⟨_, hR1, by omega, by omega, fun a5 c5 H5 hG hR5 => ?_⟩
      obtain ⟨hR2', hap'⟩ := hR2.keep hG hap
      rintro r rfl
      rw [wrap_small (by omega) (by omega)]
      exact ⟨rfl, ⟨dr ++ [⟨2, k, 0⟩], rs, a5, _, c5, _, _, _, k + 1, rfl, by rw [snoc_step]; exact hR5, hR2', hap', by omega, by simp; omega, by omega, by rw [hq']; simpa using hI1, by rw [hq']; exact hI2⟩, by simp [upTo]; omega⟩
    · rw [List.filterMap_cons_none (by rw [rDrop, if_neg he, if_neg h0])] at hI1
      rw [List.filterMap_cons_some (b := ⟨1, k, find ys k⟩) (by rw [rRest, if_neg he, if_neg h0, if_pos h0'])] at hI2
      refine fun _ => ⟨_, hR2, by omega, by omega, fun a5 c5 H5 hG hR5 => ?_⟩
      obtain ⟨hR1', hap'⟩ := hR1.keep hG (fun h h' e => hap h' h e.symm)
      rintro r rfl
      rw [wrap_small (by omega) (by omega)]
      exact ⟨rfl, ⟨dr, rs ++ [⟨1, k, find ys k⟩], _, _, _, a5, _, c5, k + 1, rfl, hR1', by rw [snoc_step]; exact hR5, fun h h' e => hap' h' h e.symm, by omega, by omega, by simp; omega, by rw [hq']; exact hI1, by rw [hq']; simpa using hI2⟩, by simp [upTo]; omega⟩
    · rw [List.filterMap_cons_none (by rw [rDrop, if_neg he, if_neg h0])] at hI1
      rw [List.filterMap_cons_some (b := ⟨3, k, find ys k⟩) (by rw [rRest, if_neg he, if_neg h0, if_neg h0'])] at hI2
      refine fun _ => ⟨_, hR2, by omega, by omega, fun a5 c5 H5 hG hR5 => ?_⟩
      obtain ⟨hR1', hap'⟩ := hR1.keep hG (fun h h' e => hap h' h e.symm)
      rintro r rfl
      rw [wrap_small (by omega) (by omega)]
      exact ⟨rfl, ⟨dr, rs ++ [⟨3, k, find ys k⟩], _, _, _, a5, _, c5, k + 1, rfl, hR1', by rw [snoc_step]; exact hR5, fun h h' e => hap' h' h e.symm, by omega, by omega, by simp; omega, by rw [hq']; exact hI1, by rw [hq']; simpa using hI2⟩, by simp [upTo]; omega⟩
  · obtain rfl : k = 21 := by omega
    simp only [Nat.sub_self, countUp, List.filterMap_nil, List.append_nil] at hI1 hI2
    have hS2 : Steps H' a2 n2 rs := sl_of_rowE stepCells_len (by omega) hR2
    obtain ⟨g1, g2⟩ := hS2.cells stepCells_len (Ext.refl _)
    refine ⟨_, _, hR1, g1, allOne_flat (fun _ => rfl) rs, g2, by omega, by omega, fun a5 c5 H5 hG hR5 => ⟨_, _, _, rfl, hR5.2.1, ?_⟩⟩
    rw [← List.flatMap_append, hI1, hI2] at hR5
    exact sl_of_rowE stepCells_len (by omega) hR5
/-! ### The document's Stepped -/
theorem cStepped {H : Heap} {a : Option Addr} {l c : Nat} {xs : List Pin} (hx : Pins H a l xs) (kd n v : Int) :
    Spec Try.prog 58 [.slice a l c, .agg #[.int .i64 kd, .int .i64 n, .int .i64 v]] H fun r H' => ∃ a' n' c', r = .tuple #[.slice a' n' c', i64 (applyErr xs ⟨kd, n, v⟩)] ∧ Pins H' a' n' (if applyErr xs ⟨kd, n, v⟩ = 0 then applied xs ⟨kd, n, v⟩ else []) := by
  refine TryvcJ Try.func58 (by kernel_rfl) (by kernel_rfl) _ rfl (fun base K => vc58 a l c kd n v base H K) fun base hb => ?_
  have hxl := hx.len
  have bad : ∀ {e : Int} {H' : Heap}, applyErr xs ⟨kd, n, v⟩ = e → e ≠ 0 → ∃ a' n' c', Value.tuple #[.slice none 0 0, .int .i64 e] = .tuple #[.slice a' n' c', i64 (applyErr xs ⟨kd, n, v⟩)] ∧ Pins H' a' n' (if applyErr xs ⟨kd, n, v⟩ = 0 then applied xs ⟨kd, n, v⟩ else []) := fun he h0 => by
    rw [he, if_neg h0]; exact ⟨none, 0, 0, rfl, Sl.nil⟩
  intro b
  refine (cRefLockCheck hx).int1 fun H1 e1 hN1 => ⟨fun h => bad (by rw [applyErr, if_pos h]) h, fun h => ?_⟩
  have h := Decidable.not_not.1 h
  obtain ⟨hL, hl12⟩ := lockCheck_zero.1 h
  refine (cIn kd 1 3).bool1 fun H2 e2 hN2 => ⟨fun h2 => ?_, fun h2 => ?_⟩
  · have h2 : kd < 1 ∨ 3 < kd := by have : ¬ (1 ≤ kd ∧ kd ≤ 3) := by simpa [inR] using h2
                                    omega
    exact bad (by rw [applyErr, if_neg (by omega), if_pos h2]) (by omega)
  have h2 : ¬ (kd < 1 ∨ 3 < kd) := by have : 1 ≤ kd ∧ kd ≤ 3 := by simpa [inR] using h2
                                      omega
  refine ⟨n < 1 ∨ 20 < n ∨ (kd ≠ 2 ∧ (v < 1 ∨ 99 < v)) ∨ (kd = 2 ∧ v ≠ 0), ?_, fun h3 => bad (by rw [applyErr, if_neg (by omega), if_neg h2, if_pos (show badStep ⟨kd, n, v⟩ from h3)]) (by omega), fun h3 => ?_⟩
  · refine (cIn n 1 20).bool1 fun H3 e3 hN3 => ⟨fun g => ⟨rfl, e3, ?_⟩, fun g => ?_⟩
    · have : ¬ (1 ≤ n ∧ n ≤ 20) := by simpa [inR] using g
      omega
    have g : 1 ≤ n ∧ n ≤ 20 := by simpa [inR] using g
    refine ⟨fun k2 => ⟨fun hv => ⟨rfl, e3, by omega⟩, fun hv => ⟨fun hk => absurd k2 hk, fun _ => ⟨rfl, e3, by omega⟩⟩⟩, fun k2 => ⟨fun _ => (cIn v 1 99).bool1 fun H4 e4 _ => ⟨rfl, e3.trans e4, ?_⟩, fun hk => absurd k2 hk⟩⟩
    simp only [inR, decide_eq_false_iff_not]; omega
  have h3' := h3
  have h3 : ¬ badStep ⟨kd, n, v⟩ := h3
  refine (cTable ((hx.ext' e1).ext' e2) hL).mono fun r H3 e3 hv => ⟨_, tabCells_len xs, hv, fun hN3 b2 => ⟨tabCells_len xs, tabCells_one xs, rfl, by omega, by omega, _, tab_get xs (by omega) (by omega), ?_⟩⟩
  have hfr := hL.find_range n
  refine ⟨kd = 1 ∧ find xs n ≠ 0, ⟨fun _ => ⟨rfl, fun _ _ h => h, by omega⟩, fun _ => ⟨rfl, fun _ _ h => h, by omega⟩⟩, fun h4 => bad (by rw [applyErr, if_neg (by omega), if_neg h2, if_neg h3, if_pos h4]) (by omega), fun h4 => ?_⟩
  refine ⟨kd ≠ 1 ∧ find xs n = 0, ⟨fun _ => ⟨rfl, fun _ _ h => h, by omega⟩, fun _ => ⟨rfl, fun _ _ h => h, by omega⟩⟩, fun h5 => bad (by rw [applyErr, if_neg (by omega), if_neg h2, if_neg h3, if_neg h4, if_pos h5]) (by omega), fun h5 => ?_⟩
  refine ⟨find xs n = 0 ∧ l = 12, ⟨fun _ => ⟨rfl, fun _ _ h => h, by omega⟩, fun _ => ⟨rfl, fun _ _ h => h, by omega⟩⟩, fun h6 => bad (by rw [applyErr, if_neg (by omega), if_neg h2, if_neg h3, if_neg h4, if_neg h5, if_pos ⟨by show kd = 1; omega, by omega⟩]) (by omega), fun h6 => ?_⟩
  have hE : applyErr xs ⟨kd, n, v⟩ = 0 := by rw [applyErr, if_neg (by omega), if_neg h2, if_neg h3, if_neg h4, if_neg h5, if_neg (fun h => h6 ⟨by have h1 : kd = 1 := h.1; omega, by have := h.2; omega⟩)]
  obtain ⟨hLa, _⟩ := applied_ok hE
  have hset : (tabCells xs).set (0 + n.toNat * 1) (.int .i64 v) = ((tabI xs).set n.toNat v).map i64 := by rw [Nat.zero_add, Nat.mul_one, tabCells, List.map_set]
  have htab := tab_applied hL (o := ⟨kd, n, v⟩) ⟨by show 1 ≤ n; omega, by show n ≤ 20; omega⟩ (fun h => Decidable.byContradiction fun hv => h3 (Or.inr (Or.inr (Or.inr ⟨h, hv⟩))))
  refine ⟨by omega, by omega, by rw [tabCells_len]; omega, by rw [List.length_set]; exact tabCells_len xs, ?_⟩
  rw [hset]
  refine (cLockOf (t := (tabI xs).set n.toNat v) (by simp [tabI])).sl1 fun a6 n6 c6 H6 e6 _ hP => ?_
  have htab : (tabI xs).set n.toNat v = tabI (applied xs ⟨kd, n, v⟩) := htab
  rw [htab, lockOf_tab hLa] at hP
  rw [hE, if_pos rfl]
  exact ⟨_, _, _, rfl, hP⟩
/-! ### The document's OnTheWay -/
theorem run_items {s t : List Int} (hs : s.length = 21) (ht : t.length = 21) (w : World) : ∀ is : List Nat, (∀ i ∈ is, i < 21) → (Op.eqItems 9999 3 1 (s.map i64).toArray (t.map i64).toArray is).run Try.prog w = .ok (decide (∀ i ∈ is, s[i]? = t[i]?)) w
  | [], _ => by simp [Op.eqItems]
  | i :: is, hi => by
    have h0 := hi i List.mem_cons_self
    have ih := run_items hs ht w is fun j hj => hi j (List.mem_cons_of_mem _ hj)
    have u3 := run_underlying (P := Try.prog) Try.underlying3
    have px : ∀ q : List Int, q.length = 21 → (part 3 (q.map i64).toArray (i * 1)).run Try.prog w = .ok (i64 (q.getD i 0)) w := fun q hq => by
      simp [part, isAgg, u3, List.getD, List.getElem?_eq_getElem (show i < q.length by omega)]
    have pe : (Op.equalIn 9999 3 (i64 (s.getD i 0)) (i64 (t.getD i 0))).run Try.prog w = .ok (s.getD i 0 == t.getD i 0) w := by
      rw [show (9999 : Nat) = 9998 + 1 from rfl, run_equalIn_int w 9998 3 .i64 .i64 _ _ Try.underlying3]
    have e : s[i]? = t[i]? ↔ s.getD i 0 = t.getD i 0 := by
      rw [List.getD_eq_getElem?_getD, List.getD_eq_getElem?_getD, List.getElem?_eq_getElem (show i < s.length by omega), List.getElem?_eq_getElem (show i < t.length by omega)]
      simp
    simp only [Op.eqItems, Sem.run_bind, px s hs, px t ht, pe, Result.andThen_ok]
    by_cases he : s.getD i 0 = t.getD i 0
    · simp only [he, beq_self_eq_true, Bool.not_true, Bool.false_eq_true, if_false]
      rw [ih]
      congr 1
      rw [decide_eq_decide]
      exact ⟨fun h j hj => by rcases List.mem_cons.1 hj with rfl | hj; exact e.2 he; exact h j hj, fun h j hj => h j (List.mem_cons_of_mem _ hj)⟩
    · have hb : (s.getD i 0 == t.getD i 0) = false := by simpa using he
      simp only [hb, Bool.not_false, if_true, Sem.run_pure]
      congr 1
      symm
      rw [decide_eq_false_iff_not]
      intro hall
      exact he (e.1 (hall i List.mem_cons_self))
theorem eqTab {xo yo : Operand} {s t : List Int} (hs : s.length = 21) (ht : t.length = 21) : RunsTo Try.prog (binRun .eql 138 xo yo (.agg (s.map i64).toArray) (.agg (t.map i64).toArray)) (.bool (decide (s = t))) := by
  intro w
  have hm : Try.prog.eqGuardType Try.prog.depth 138 = false := by kernel_rfl
  have c3 : Try.prog.cellsOf 3 = 1 := by kernel_rfl
  obtain ⟨i, hi⟩ : ∃ i, Try.prog.info? 3 = some i := by
    cases h : Try.prog.info? 3 with
    | none => rw [Program.cellsOf, h] at c3; simp at c3
    | some i => exact ⟨i, rfl⟩
  have he : (Op.equalIn 10000 138 (.agg (s.map i64).toArray) (.agg (t.map i64).toArray)).run Try.prog w = .ok (decide (s = t)) w := by
    rw [show (10000 : Nat) = 9999 + 1 from rfl, run_equalIn_array w 9999 _ _ Try.underlying138 hi, c3, run_items hs ht w (List.range 21) (by simp)]
    congr 1
    rw [decide_eq_decide]
    constructor
    · intro h
      apply List.ext_getElem?
      intro j
      by_cases hj : j < 21
      · exact h j (by simpa using hj)
      · rw [List.getElem?_eq_none (by omega), List.getElem?_eq_none (by omega)]
    · rintro rfl; simp
  simp only [binRun, Sem.run_bind, run_eqGuard_agg w _ 138 _ _ _ _ hm, Result.andThen_ok, run_eql_struct, he]
theorem eqTabs {xo yo : Operand} {x y : List Pin} (hx : Lk x) (hy : Lk y) : RunsTo Try.prog (binRun .eql 138 xo yo (.agg (tabCells x).toArray) (.agg (tabCells y).toArray)) (.bool (decide (x = y))) := by
  have := eqTab (xo := xo) (yo := yo) (s := tabI x) (t := tabI y) (by simp [tabI]) (by simp [tabI])
  rw [show decide (x = y) = decide (tabI x = tabI y) from by rw [decide_eq_decide]; exact ⟨fun h => by rw [h], tabI_inj hx hy⟩]
  exact this
theorem cOnTheWay {H : Heap} {a a' a'' : Option Addr} {l c l' c' l'' c'' : Nat} {xs ys zs : List Pin} (hx : Pins H a l xs) (hy : Pins H a' l' ys) (hz : Pins H a'' l'' zs) :
    Spec Try.prog 59 [.slice a l c, .slice a' l' c', .slice a'' l'' c''] H fun v _ => v = .tuple #[i64 (btw xs ys zs), i64 (btwErr xs ys zs)] := by
  refine TryvcJ Try.func59 (by kernel_rfl) (by kernel_rfl) _ rfl (fun base K => vc59 a a' a'' l c l' c' l'' c'' base H K) fun base hb => ?_
  refine (cSteps hx hy).sl2 fun a1 n1 c1 H1 e1 hN1 hD => ⟨fun h => (cRefLockCheck (hz.ext' e1)).int1 fun H2 e2 hN2 => ⟨fun h2 => ?_, fun h2 => ?_⟩, fun h => ⟨fun _ => ?_, fun h' => absurd h h'⟩⟩
  · have e : btwErr xs ys zs = lockCheck zs := by rw [btwErr, if_pos h]
    rw [btw, e, if_neg h2]
  · have h2 := Decidable.not_not.1 h2
    obtain ⟨hnc, hD⟩ := hD
    rw [if_pos h] at hD
    have hE : btwErr xs ys zs = 0 := btwErr_zero.2 ⟨h, lockCheck_zero.1 h2⟩
    have hW : btw xs ys zs = between (diffs xs ys) zs 0 xs := by rw [btw, if_pos hE]
    rw [hW, hE]
    obtain ⟨⟨hLx, hx12⟩, hLy, hy12⟩ := diffErr_zero.1 h
    have hLz := (lockCheck_zero.1 h2).1
    have h24 : (diffs xs ys).length ≤ 24 := by
      unfold diffs drops adds
      rw [List.length_append]
      have g1 := List.length_filterMap_le (dropOf ys) xs
      have g2 := List.length_filterMap_le (addOf xs) ys
      omega
    have hdl := hD.len
    have hdle := hD.le
    have hall := (after_all hLy hy12 _ hLx hx12 rfl).2
    have hsp := between_spec zs (diffs xs ys) 0 xs (by omega)
    refine ⟨fun vs Hc => ∃ (d1 d2 : Int) (k : Nat), vs = [i64 d1, i64 d2, i64 k] ∧ Steps Hc a1 n1 (diffs xs ys) ∧ k ≤ n1 + 1 ∧ ∀ i, i < k → after xs ((diffs xs ys).take i) ≠ zs, upTo (n1 + 1) 2, ⟨0, 0, 0, rfl, hD.ext' e2, by omega, by omega⟩, fun d1 d2 m H' hN hI => ?_⟩
    obtain ⟨d1', d2', k, hvs, hS, hk, hI⟩ := hI
    obtain ⟨rfl, rfl, rfl⟩ : d1 = d1' ∧ d2 = d2' ∧ m = (k : Int) := by simpa using hvs
    refine ⟨fun hlt => ?_, fun hge => ?_⟩
    · refine (cTable (hx.ext' hN.ext) hLx).mono fun v H3 e3 hv => ⟨_, tabCells_len xs, hv, fun hN3 b => ⟨tabCells_len xs, tabCells_one xs, rfl, by omega, by omega, tabCells_len xs, ?_⟩⟩
      rw [Int.toNat_natCast]
      refine ⟨fun vs Hc => ∃ (j : Nat), vs = [i64 j, .agg (tabCells (after xs ((diffs xs ys).take j))).toArray] ∧ j ≤ k ∧ Steps Hc a1 n1 (diffs xs ys), upTo k 0, ⟨0, rfl, by omega, hS.ext' e3⟩, fun q cs hcs H4 hN4 hJ => ?_⟩
      obtain ⟨j, hvs, hj, hS4⟩ := hJ
      obtain ⟨rfl, rfl⟩ : q = (j : Int) ∧ cs = tabCells (after xs ((diffs xs ys).take j)) := by simpa using hvs
      obtain ⟨hLj, hj12, hdj⟩ := hall j (by omega)
      have hS4' : Steps H4 a1 k ((diffs xs ys).take k) := by
        have := hS4.sub (l := 0) (m := k) (a' := a1) (by omega) (fun _ => by cases a1 <;> simp [Addr.add])
        simpa using this
      refine ⟨fun hlt2 => hS4'.step (k := (j : Int)) (Ext.refl _) (by omega) (by omega) fun o ho => ?_, fun hge2 => ⟨tabCells_len _, ?_⟩⟩
      · rw [Int.toNat_natCast, List.getElem?_take, if_pos (by omega)] at ho
        rw [drop_at ho] at hdj
        have hok := diffs_mem hLj hLy (hdj ▸ List.mem_cons_self : o ∈ diffs (after xs ((diffs xs ys).take j)) ys)
        have hn := hok.name
        have hset : (tabCells (after xs ((diffs xs ys).take j))).set (0 + o.name.toNat * 1) (.int .i64 o.ver) = tabCells (after xs ((diffs xs ys).take (j + 1))) := by
          rw [Nat.zero_add, Nat.mul_one, tabCells, tabCells, take_at ho, after, after, List.foldl_append]
          show (List.map i64 (tabI (after xs ((diffs xs ys).take j)))).set o.name.toNat (i64 o.ver) = List.map i64 (tabI (applied (after xs ((diffs xs ys).take j)) o))
          rw [← tab_applied hLj hn (hok.good hLy).2.2.2.1, List.map_set]
        intro _
        refine ⟨by omega, by omega, by rw [tabCells_len]; omega, ?_⟩
        rintro r rfl
        rw [wrap_in (by omega) (by omega), hset]
        exact ⟨tabCells_len _, ⟨j + 1, rfl, by omega, hS4⟩, by simp [upTo]; omega⟩
      · obtain rfl : j = k := by omega
        refine (cTable (hz.ext' hN4.ext) hLz).mono fun v H5 e5 hv => ⟨_, tabCells_len zs, hv, fun hN5 => ⟨_, eqTabs hLj hLz, fun he => ?_, fun he => ?_⟩⟩
        · have he : after xs ((diffs xs ys).take j) = zs := by simpa using he
          rcases hsp with ⟨_, g2⟩ | ⟨i, g1, g2, g3, g4⟩
          · exact absurd he (g2 j (by omega))
          · have : i = j := by
              rcases Nat.lt_trichotomy i j with c | c | c
              · exact absurd g3 (hI i c)
              · exact c
              · exact absurd he (g4 j c)
            subst this
            rw [g2]
            simp
        · have he : after xs ((diffs xs ys).take j) ≠ zs := by simpa using he
          rintro r rfl
          rw [wrap_in (by omega) (by omega)]
          refine ⟨⟨_, _, j + 1, rfl, hS4.ext' e5, by omega, fun i hi => ?_⟩, by simp [upTo]; omega⟩
          by_cases c : i < j
          · exact hI i c
          · obtain rfl : i = j := by omega
            exact he
    · rcases hsp with ⟨g1, _⟩ | ⟨i, g1, g2, g3, _⟩
      · rw [g1]
      · exact absurd g3 (hI i (by omega))
  · have e : btwErr xs ys zs = diffErr xs ys := by rw [btwErr, if_neg h]
    rw [btw, e, if_neg h]
/-! ### slices.Equal of steps -/
theorem neq73 {xo yo : Operand} (p q : Step) : RunsTo Try.prog (binRun .neq 73 xo yo (.agg #[.int .i64 p.kind, .int .i64 p.name, .int .i64 p.ver]) (.agg #[.int .i64 q.kind, .int .i64 q.name, .int .i64 q.ver])) (.bool (!(p.kind == q.kind && p.name == q.name && p.ver == q.ver))) := by
  intro w
  have u3 := Try.underlying3
  have a3 := Try.isAgg3
  have z3 := Try.sizeOf3
  have hS : Try.prog.underlying 73 = some (.struct (Try.prog.fieldsOf 73)) := by kernel_rfl
  have hp : Try.prog.stoodInHeld 73 = false := by kernel_rfl
  have hm : Try.prog.eqGuardType Try.prog.depth 73 = false := by kernel_rfl
  have he : (Op.equalIn 10000 73 (.agg #[.int .i64 p.kind, .int .i64 p.name, .int .i64 p.ver]) (.agg #[.int .i64 q.kind, .int .i64 q.name, .int .i64 q.ver])).run Try.prog w = .ok (p.kind == q.kind && p.name == q.name && p.ver == q.ver) w := by
    rw [show (10000 : Nat) = 9999 + 1 from rfl, run_equalIn_agg w 9999 73 _ _ hS hp]
    simp only [Program.fieldsOf, Try.underlying73]
    go_simp
    by_cases h1 : p.kind = q.kind <;> by_cases h2 : p.name = q.name <;> by_cases h3 : p.ver = q.ver <;> simp [h1, h2, h3]
  simp only [binRun, Sem.run_bind, run_eqGuard_agg w _ 73 _ _ _ _ hm, Result.andThen_ok, run_neq_struct, he]
theorem cEqSteps {H : Heap} {a a' : Option Addr} {l c l' c' : Nat} {xs ys : List Step} (hx : Steps H a l xs) (hy : Steps H a' l' ys) :
    Spec Try.prog 61 [.slice a l c, .slice a' l' c'] H fun v _ => v = .bool (decide (xs = ys)) := by
  refine TryvcJ Try.func61 (by kernel_rfl) (by kernel_rfl) _ rfl (fun base K => vc61 a a' l c l' c' base H K) fun base hb => ?_
  have hxl := hx.len
  have hyl := hy.len
  have hle := hx.le
  refine ⟨fun hne => ?_, fun he => ?_⟩
  · rw [decide_eq_false]; rintro rfl; omega
  · refine ⟨fun vs _ => ∃ (b : Bool) (k : Nat), vs = [.bool b, i64 k] ∧ k ≤ l ∧ (xs.drop k = ys.drop k ↔ xs = ys), upTo l 1, ⟨false, 0, rfl, by omega, by simp⟩, fun b n H' hN hI => ?_⟩
    obtain ⟨b', k, hvs, hk, hI⟩ := hI
    obtain ⟨rfl, rfl⟩ : b = b' ∧ n = (k : Int) := by simpa using hvs
    refine ⟨fun hlt => hx.step hN.ext (by omega) hlt fun p hp => hy.step hN.ext (by omega) (by omega) fun q hq => ⟨_, neq73 p q, fun h => ?_, fun h => ?_⟩, fun hge => ?_⟩
    · rw [Int.toNat_natCast] at hp hq
      rw [drop_at hp, drop_at hq] at hI
      rw [decide_eq_false]
      intro e
      obtain ⟨rfl, _⟩ := List.cons.inj (hI.2 e)
      simp at h
    · rw [Int.toNat_natCast] at hp hq
      rw [drop_at hp, drop_at hq] at hI
      have hpq : p = q := by
        cases p; cases q; simp at h; simp [h]
      rintro r rfl
      rw [wrap_in (by omega) (by omega)]
      exact ⟨⟨b, k + 1, rfl, by omega, by rw [← hI]; simp [hpq]⟩, by simp [upTo]; omega⟩
    · rw [decide_eq_true]
      exact hI.1 (by rw [drop_all hxl (by omega), drop_all hyl (by omega)])
end Go.Vg
