/- What is proved here: a part of the proof of laws of this seat: what a contract is, how it comes of a condition, contracts of the functions that are reached, the plain laws. -/
import Derived.Test.YtgaegoefbekndaaGreatDoorUP12
import Derived.Test.YtgaegoefbekndaaGreatDoorCards
import Derived.Test.YtgaegoefbekndaaGreatDoorTie
import Derived.Deep.DeepHandedRow
import Derived.JoinedCond
import Derived.Lay
import Derived.MakeChecks
import Derived.SevenTiedAt
import Derived.Stop.LaidErr
set_option linter.unusedSimpArgs false
set_option linter.unusedVariables false
set_option maxRecDepth 100000
namespace Go.Vg
open Go Go.Proofs
theorem eq91 {xo yo : Operand} (a b c d : Int) : RunsTo Tryz.prog (binRun .eql 91 xo yo (.agg #[.int .i64 a, .int .i64 b]) (.agg #[.int .i64 c, .int .i64 d])) (.bool (a == c && b == d)) := by
 intro w
 have u3 := Tryz.underlying3
 have a3 := Tryz.isAgg3
 have z3 := Tryz.sizeOf3
 have hS : Tryz.prog.underlying 91 = some (.struct (Tryz.prog.fieldsOf 91)) := by kernel_rfl
 have hp : Tryz.prog.stoodInHeld 91 = false := by kernel_rfl
 have hm : Tryz.prog.eqGuardType Tryz.prog.depth 91 = false := by kernel_rfl
 have he : (Op.equalIn 10000 91 (.agg #[.int .i64 a, .int .i64 b]) (.agg #[.int .i64 c, .int .i64 d])).run Tryz.prog w = .ok (a == c && b == d) w := by
  rw [show (10000 : Nat) = 9999 + 1 from rfl, run_equalIn_agg w 9999 91 _ _ hS hp]
  simp only [Program.fieldsOf, Tryz.underlying91]
  go_simp
  by_cases h1 : a = c <;> by_cases h2 : b = d <;> simp [h1, h2]
 simp only [binRun, Sem.run_bind, run_eqGuard_agg w _ 91 _ _ _ _ hm, Result.andThen_ok, run_eql_struct, he]
def ixF {α : Type} (f : α->Bool) : Int->List α->Int
 | _, [] => -1
 | i, x :: r => if f x = true then i else ixF f (i + 1) r
theorem ixF_any {α : Type} (f : α->Bool) : ∀ (l : List α) (i : Int), 0 <= i->(0 <= ixF f i l ↔ l.any f = true)
 | [], i, _ => by simp [ixF]
 | x :: r, i, h => by
  unfold ixF
  split
  ·rename_i e; simp [h, e]
  ·rename_i e; rw [ixF_any f r (i + 1) (by omega)]; simp [e]
theorem ix_dec {α : Type} (f : α->Bool) (l : List α) : Value.bool (decide (0 <= ixF f 0 l)) = .bool (l.any f) := by
 have := ixF_any f l 0 (by omega)
 congr 1
 cases hq : l.any f with
 | true => exact decide_eq_true (this.2 hq)
 | false => exact decide_eq_false fun h0 => by rw [this.1 h0] at hq; cases hq
def pinIs (nm vr : Int) (p : Pin) : Bool := nm == p.name && vr == p.ver
theorem cIdxPin {H : Heap} {a : O} {l c : Nat} {xs : List Pin} (hx : Pins H a l xs) (nm vr : Int) : Spec Tryz.prog 139 [.slice a l c, .agg #[.int .i64 nm, .int .i64 vr]] H fun v _ => v = i64 (ixF (pinIs nm vr) 0 xs) := by
 refine TryzvcK Tryz.func139 (by kernel_rfl) (by kernel_rfl) _ rfl (fun base K => vk139 a l c nm vr base H K) fun base hb => fun b => ?_
 have hl := hx.len
 have hle := hx.le
 refine ⟨fun m vs H' => ∃ (d : Int) (k : Nat), vs = [i64 d, i64 k]/\ m = l - k/\ k <= l/\ ixF (pinIs nm vr) k (xs.drop k) = ixF (pinIs nm vr) 0 xs/\ Ext H H', l, ⟨0, 0, rfl, rfl, by omega, rfl, Ext.refl _⟩, fun m d n H' hN hI => ?_⟩
 obtain ⟨d', k, hvs, rfl, hk, hI, eH⟩ := hI
 obtain ⟨rfl, rfl⟩ : d = d'/\ n = (k : Int) := by simpa using hvs
 refine ⟨fun hlt => ?_, fun hge => ?_⟩
 ·obtain ⟨b7, o, r, x, ha, hxk, hr, hcell⟩ := (hx.ext' eH).get (k := (k : Int)) (by omega) hlt
  obtain rfl := hr
  rw [Int.toNat_natCast] at hxk
  rw [drop_at hxk, ixF] at hI
  refine ⟨b7, o, ha, by omega, hlt, _, _, ⟨hcell 0 _ rfl, hcell 1 _ rfl, trivial⟩, _, eq91 _ _ _ _, fun he => ?_, fun he => fun r hr => ⟨rfl, l - (k + 1), by omega, d, k + 1, ?_, rfl, by omega, ?_, eH⟩⟩
  ·rw [if_pos (show pinIs nm vr x = true from he)] at hI
   rw [← hI]
  ·rw [hr, wrap_in (by omega) (by omega)]; rfl
  ·rw [if_neg (show ¬ pinIs nm vr x = true from he)] at hI
   exact hI
 ·have hkk : k = l := by omega
  rw [List.drop_eq_nil_of_le (by omega)] at hI
  rw [← hI]; rfl
theorem cHasPin {H : Heap} {a : O} {l c : Nat} {xs : List Pin} (hx : Pins H a l xs) (nm vr : Int) : Spec Tryz.prog 54 [.slice a l c, .agg #[.int .i64 nm, .int .i64 vr]] H fun v _ => v = .bool (xs.any (pinIs nm vr)) := by
 refine TryzvcK Tryz.func54 (by kernel_rfl) (by kernel_rfl) _ rfl (fun base K => vk54 a l c nm vr base H K) fun base hb => fun b => ?_
 exact (cIdxPin hx nm vr).int1 fun H1 e1 hN1 => ix_dec _ _
theorem cRelPin {H : Heap} {a : O} {l c p : Nat} {r : Rls} {nm vr : Int} (hx : Pins H a l r.lock) (h0 : H.cell p 0 = some (.int .i64 nm)) (h1 : H.cell p 1 = some (.int .i64 vr)) : Spec Tryz.prog 53 [.agg #[.int .i64 r.id, .slice a l c], .pointer (some ⟨p, 0, none⟩)] H fun v _ => v = .bool (r.lock.any (pinIs nm vr)) := by
 refine TryzvcK Tryz.func53 (by kernel_rfl) (by kernel_rfl) _ rfl (fun base K => vk53 r.id a l c p base H K) fun base hb => fun b => ?_
 exact ⟨nm, vr, ⟨h0, h1, trivial⟩, (cHasPin hx nm vr).bool1 fun H1 e1 hN1 => rfl⟩
theorem cRelGoal {H : Heap} {a ga : O} {l c gl gc p : Nat} {r g : Rls} (hx : Pins H a l r.lock) (h0 : H.cell p 4 = some (.int .i64 g.id)) (h1 : H.cell p 5 = some (.slice ga gl gc)) (hg : Pins H ga gl g.lock) : Spec Tryz.prog 55 [.agg #[.int .i64 r.id, .slice a l c], .pointer (some ⟨p, 0, none⟩)] H fun v _ => v = .bool (decide (r = g)) := by
 refine TryzvcK Tryz.func55 (by kernel_rfl) (by kernel_rfl) _ rfl (fun base K => vk55 r.id a l c p base H K) fun base hb => fun b => ?_
 exact ⟨g.id, ga, gl, gc, ⟨h0, h1, trivial⟩, (cAlike hx hg r.id g.id).bool1 fun H1 e1 hN1 => rfl⟩
theorem cAnyPin {H : Heap} {la : O} {ll lc p : Nat} {rs : List Rls} {nm vr : Int} (h0 : H.cell p 0 = some (.int .i64 nm)) (h1 : H.cell p 1 = some (.int .i64 vr)) (hx : Rels H la ll rs) : Spec Tryz.prog 52 [.slice la ll lc, .func (.func 53) #[] #[.pointer (some ⟨p, 0, none⟩)]] H fun v _ => v = .bool (rs.any (fun r => r.lock.any (pinIs nm vr))) := by
 have h138 : Spec Tryz.prog 138 [.slice la ll lc, .func (.func 53) #[] #[.pointer (some ⟨p, 0, none⟩)]] H fun v _ => v = i64 (ixF (fun r => r.lock.any (pinIs nm vr)) 0 rs) := by
  refine TryzvcK Tryz.func138 (by kernel_rfl) (by kernel_rfl) _ rfl (fun base K => vk138a la ll lc p base H K) fun base hb => ?_
  have hl := hx.len
  have hle := hx.le
  refine ⟨fun m vs H' => ∃ (d : Int) (k : Nat), vs = [i64 d, i64 k]/\ m = ll - k/\ k <= ll/\ ixF (fun r => r.lock.any (pinIs nm vr)) k (rs.drop k) = ixF (fun r => r.lock.any (pinIs nm vr)) 0 rs/\ Ext H H', ll, ⟨0, 0, rfl, rfl, by omega, rfl, Ext.refl _⟩, fun m d n H' hN hI => ?_⟩
  obtain ⟨d', k, hvs, rfl, hk, hI, eH⟩ := hI
  obtain ⟨rfl, rfl⟩ : d = d'/\ n = (k : Int) := by simpa using hvs
  refine ⟨fun hlt => ?_, fun hge => ?_⟩
  ·obtain ⟨b7, o, r, x, ha, hxk, ⟨qa, qn, qc, rfl, hq, _⟩, hcell⟩ := (hx.ext' eH).get (k := (k : Int)) (by omega) hlt
   rw [Int.toNat_natCast] at hxk
   rw [drop_at hxk, ixF] at hI
   refine ⟨b7, o, ha, by omega, hlt, _, _, _, _, ⟨hcell 0 _ rfl, hcell 1 _ rfl, trivial⟩, ?_⟩
   refine (cRelPin (c := qc) hq (Heap.cell_next eH h0) (Heap.cell_next eH h1)).bool1 fun H2 e2 _ => ⟨fun he => ?_, fun he => fun r hr => ⟨ll - (k + 1), by omega, d, k + 1, ?_, rfl, by omega, ?_, Ext.trans eH e2⟩⟩
   ·rw [if_pos he] at hI
    rw [← hI]
   ·rw [hr, wrap_in (by omega) (by omega)]; rfl
   ·rw [if_neg (by rw [he]; simp)] at hI
    exact hI
  ·have hkk : k = ll := by omega
   rw [List.drop_eq_nil_of_le (by omega)] at hI
   rw [← hI]; rfl
 refine TryzvcK Tryz.func52 (by kernel_rfl) (by kernel_rfl) _ rfl (fun base K => vk52a la ll lc p base H K) fun base hb => ?_
 exact h138.int1 fun H1 e1 hN1 => ix_dec _ _
theorem cAnyGoal {H : Heap} {la : O} {ll lc p : Nat} {rs : List Rls} {g : Rls} {ga : O} {gl gc : Nat} (h0 : H.cell p 4 = some (.int .i64 g.id)) (h1 : H.cell p 5 = some (.slice ga gl gc)) (hg : Pins H ga gl g.lock) (hx : Rels H la ll rs) : Spec Tryz.prog 52 [.slice la ll lc, .func (.func 55) #[] #[.pointer (some ⟨p, 0, none⟩)]] H fun v _ => v = .bool (rs.any (fun r => decide (r = g))) := by
 have h138 : Spec Tryz.prog 138 [.slice la ll lc, .func (.func 55) #[] #[.pointer (some ⟨p, 0, none⟩)]] H fun v _ => v = i64 (ixF (fun r => decide (r = g)) 0 rs) := by
  refine TryzvcK Tryz.func138 (by kernel_rfl) (by kernel_rfl) _ rfl (fun base K => vk138b la ll lc p base H K) fun base hb => ?_
  have hl := hx.len
  have hle := hx.le
  refine ⟨fun m vs H' => ∃ (d : Int) (k : Nat), vs = [i64 d, i64 k]/\ m = ll - k/\ k <= ll/\ ixF (fun r => decide (r = g)) k (rs.drop k) = ixF (fun r => decide (r = g)) 0 rs/\ Ext H H', ll, ⟨0, 0, rfl, rfl, by omega, rfl, Ext.refl _⟩, fun m d n H' hN hI => ?_⟩
  obtain ⟨d', k, hvs, rfl, hk, hI, eH⟩ := hI
  obtain ⟨rfl, rfl⟩ : d = d'/\ n = (k : Int) := by simpa using hvs
  refine ⟨fun hlt => ?_, fun hge => ?_⟩
  ·obtain ⟨b7, o, r, x, ha, hxk, ⟨qa, qn, qc, rfl, hq, _⟩, hcell⟩ := (hx.ext' eH).get (k := (k : Int)) (by omega) hlt
   rw [Int.toNat_natCast] at hxk
   rw [drop_at hxk, ixF] at hI
   refine ⟨b7, o, ha, by omega, hlt, _, _, _, _, ⟨hcell 0 _ rfl, hcell 1 _ rfl, trivial⟩, ?_⟩
   refine (cRelGoal (c := qc) hq (Heap.cell_next eH h0) (Heap.cell_next eH h1) (hg.ext' eH)).bool1 fun H2 e2 _ => ⟨fun he => ?_, fun he => fun r hr => ⟨ll - (k + 1), by omega, d, k + 1, ?_, rfl, by omega, ?_, Ext.trans eH e2⟩⟩
   ·rw [if_pos he] at hI
    rw [← hI]
   ·rw [hr, wrap_in (by omega) (by omega)]; rfl
   ·rw [if_neg (by rw [he]; simp)] at hI
    exact hI
  ·have hkk : k = ll := by omega
   rw [List.drop_eq_nil_of_le (by omega)] at hI
   rw [← hI]; rfl
 refine TryzvcK Tryz.func52 (by kernel_rfl) (by kernel_rfl) _ rfl (fun base K => vk52b la ll lc p base H K) fun base hb => ?_
 exact h138.int1 fun H1 e1 hN1 => ix_dec _ _
theorem cPins {H : Heap} {c : Conf} {w : Wld} {L : Ldr} {A : List Agt} {la ka xa : O} {ll lc kl kc xn xc : Nat} (hS : Sto c w L A) (hLd : LdrAt H L la ll ka kl) (hA : Sl RAgt 7 H xa xn A) :
  Spec Tryz.prog 51 [ldrArg L la ll lc ka kl kc, .slice xa xn xc] H fun v _ => v = .bool true := by
 refine TryzvcK Tryz.func51 (by kernel_rfl) (by kernel_rfl) _ rfl (fun base K => vk51 L.now L.goal L.nx L.back la ka ll lc kl kc xa xn xc base H K) fun base hb => fun b => ?_
 have hlr := hLd.rels.len
 have hlle := hLd.rels.le
 have hAl := hA.len
 have hAle := hA.le
 refine ⟨fun m vs H' => ∃ (d : Bool) (i : Nat), vs = [.bool d, i64 i]/\ m = xn - i/\ i <= xn/\ Ext H H', xn, ⟨false, 0, rfl, rfl, by omega, Ext.refl _⟩, fun m d n H' hN' hI => ?_⟩
 obtain ⟨d', i, hvs, rfl, hi, eH⟩ := hI
 obtain ⟨rfl, rfl⟩ : d = d'/\ n = (i : Int) := by simpa using hvs
 refine ⟨fun hlt => ?_, fun hge => rfl⟩
 have nxt : ∀ {r : Int}, r = IntKind.wrap .i64 ((i : Int) + 1)->r = ((i + 1 : Nat) : Int) := fun hr => by rw [hr, wrap_in (by omega) (by omega)]; rfl
 obtain ⟨b7, o7, r7, x7, ha7, hx7, ⟨ya, yn, yc, za, zn, zc, rfl, hp7, hq7⟩, hc7⟩ := (Sl.ext ragt_mono hA eH).get (k := (i : Int)) (by omega) hlt
 obtain ⟨p1, p2, p3, p4, p5⟩ := story_pins hS.inv (List.mem_of_getElem? hx7)
 have hyl := hp7.len
 have hyle := hp7.le
 refine ⟨b7, o7, ha7, by omega, hlt, _, _, _, _, _, _, _, _, _, _, _, ⟨hc7 0 _ rfl, hc7 1 _ rfl, hc7 2 _ rfl, hc7 3 _ rfl, hc7 4 _ rfl, hc7 5 _ rfl, hc7 6 _ rfl, trivial⟩, fun b4 => ?_⟩
 refine ⟨fun m vs H2 => ∃ (d : Bool) (j : Nat), vs = [.bool d, i64 j]/\ m = yn - j/\ j <= yn/\ Ext H' H2, yn, ⟨d, 0, rfl, rfl, by omega, Ext.refl _⟩, fun m2 d2 n2 H2 hN2 hI2 => ?_⟩
 obtain ⟨d3, j, hvs2, rfl, hj, eH2⟩ := hI2
 obtain ⟨rfl, rfl⟩ : d2 = d3/\ n2 = (j : Int) := by simpa using hvs2
 refine ⟨fun hlt2 => ?_, fun hge2 => ⟨fun h => absurd h (by omega), fun _ => ⟨fun hgo => fun r hr => ?_, fun hgo => ⟨fun _ => ⟨rfl, fun Hl hl hk => ?_⟩, fun h => absurd h hgo⟩⟩⟩⟩
 ·obtain ⟨b5, o5, r5, x5, ha5, hx5, hr5, hc5⟩ := (hp7.ext' eH2).get (k := (j : Int)) (by omega) hlt2
  obtain rfl := hr5
  refine ⟨b5, o5, ha5, by omega, hlt2, _, _, ⟨hc5 0 _ rfl, hc5 1 _ rfl, trivial⟩, fun b6 => ⟨rfl, fun Hl hl hk => ?_⟩⟩
  have q0 : Hl.cell b6 0 = some (.int .i64 x5.name) := by unfold Heap.cell; rw [hk.1]; rfl
  have q1 : Hl.cell b6 1 = some (.int .i64 x5.ver) := by unfold Heap.cell; rw [hk.1]; rfl
  have hany : (L.rels.any fun r => r.lock.any (pinIs x5.name x5.ver)) = true := by
   obtain ⟨r, hr, hr2⟩ := p1 x5 (List.mem_of_getElem? hx5)
   refine List.any_eq_true.2 ⟨r, hr, List.any_eq_true.2 ⟨x5, hr2, ?_⟩⟩
   simp [pinIs]
  have hcall := cAnyPin (lc := lc) q0 q1 (((hLd.ext eH).ext eH2).ext hl.ext).rels
  rw [hany] at hcall
  refine hcall.mono fun v H3 e3 hv => ⟨true, hv, fun H4 hN4 hkeep => ⟨fun h => (by cases h), fun _ => fun r hr => ⟨rfl, yn - (j + 1), by omega, d2, j + 1, ?_, rfl, by omega, Ext.trans eH2 hN4.ext⟩⟩⟩
  rw [hr, wrap_in (by omega) (by omega)]; rfl
 ·obtain ⟨rl, h3, h4⟩ := p4 hgo
  obtain rfl : r = x7.at_ - 1 := by rw [hr, wrap_in (by omega) (by omega)]
  have hr0 := (List.getElem?_eq_some_iff.1 h3).1
  obtain ⟨b8, o8, r8, x8, ha8, hx8, ⟨qa, qn, qc, rfl, hq8, _⟩, hc8⟩ := (((hLd.ext eH).ext eH2).rels).get (k := x7.at_ - 1) (by omega) (by omega)
  obtain rfl : x8 = rl := by rw [h3] at hx8; exact (Option.some.inj hx8).symm
  refine ⟨b8, o8, ha8, by omega, by omega, _, _, _, hc8 1 _ rfl, ?_⟩
  refine (cEqPins (hp7.ext' eH2) hq8).bool1 fun H3 e3 hN3 => ⟨fun hh => ?_, fun _ => ⟨fun h => (by rw [hgo] at h; cases h), fun _ => fun r hr => ⟨rfl, xn - (i + 1), by omega, d2, i + 1, by rw [nxt hr], rfl, by omega, Ext.trans eH (Ext.trans eH2 e3)⟩⟩⟩
  rw [decide_eq_true h4] at hh; cases hh
 ·have hgo' : x7.going = true := by simpa using hgo
  obtain ⟨g1, g2⟩ := p5 hgo'
  have q0 : Hl.cell b4 4 = some (.int .i64 x7.goal.id) := by unfold Heap.cell; rw [hk.1]; rfl
  have q1 : Hl.cell b4 5 = some (.slice za zn zc) := by unfold Heap.cell; rw [hk.1]; rfl
  have hany : (L.rels.any fun r => decide (r = x7.goal)) = true := List.any_eq_true.2 ⟨_, g1, decide_eq_true rfl⟩
  have hcall := cAnyGoal (lc := lc) q0 q1 (((hq7.ext' eH2)).ext' hl.ext) (((hLd.ext eH).ext eH2).ext hl.ext).rels
  rw [hany] at hcall
  refine hcall.mono fun v H3 e3 hv => ⟨true, hv, fun H4 hN4 hkeep => ⟨fun h => (by cases h), fun _ => ?_⟩⟩
  refine (cDiff (c := yc) (c' := zc) ((hp7.ext' eH2).ext' hN4.ext) ((hq7.ext' eH2).ext' hN4.ext)).mono fun v H5 e5 hv => ?_
  obtain ⟨da, dn, dc, rfl, _⟩ := hv
  exact ⟨_, _, _, _, rfl, fun hN5 => ⟨fun h => absurd g2 h, fun _ => fun r hr => ⟨rfl, xn - (i + 1), by omega, d2, i + 1, by rw [nxt hr], rfl, by omega, Ext.trans eH (Ext.trans eH2 (Ext.trans hN4.ext e5))⟩⟩⟩
theorem cStoryPins {H : Heap} (hL : Lb H) {c : Conf} {fa ra wa : O} {fl fc rl rc wl wc : Nat} (hc : CfgAt H c fa fl ra rl wa wl) {l : List Hap} {a : O} {n cc : Nat} (hx : Haps H a n l) (hcap : n <= cc) :
  Spec Tryz.prog 14 [cfgArg c fa fl fc ra rl rc wa wl wc, .slice a n cc] H fun v _ => v = .bool true := by
 refine TryzvcK Tryz.func14 (by kernel_rfl) (by kernel_rfl) _ rfl (fun base K => vk14 c.first.id c.bud fa ra wa fl fc rl rc wl wc a n cc base H K) fun base hb => fun b => ?_
 refine (cPlayedd hL hc hx hcap fun e hS hLd hA => cPins hS hLd hA).mono fun v H1 e1 hv => ?_
 obtain ⟨p, w, rfl, hw, hwe⟩ := hv
 refine ⟨_, _, _, _, _, _, _, _, _, _, _, _, _, _, _, _, _, _, _, _, _, _, _, _, _, _, _, _, _, _, _, _, _, _, _, rfl, fun hN1 => fun b4 => ⟨True, (cTold (hL.ext e1)).bool1 fun H2 e2 hN2 => ⟨fun _ => ⟨rfl, e2, by simp⟩, fun h => (by cases h)⟩, true_bool⟩⟩
end Go.Vg
namespace Go.Proofs.YtgaegoefbekndaaGreatDoor
open Go Go.Proofs Go.Vg
theorem noHandle {W : World} (h : laidMetH Tryz.prog Rows.storySaysRow.laid W) : laidMet Tryz.prog Rows.storySaysRow.laid W := by
 rw [MakeChecks.laidMetH_plain _ _ _ (by kernel_rfl)] at h
 exact h
theorem var_heap {P : Program} {W : World} {name : String} {g : Nat} {cs : Array Value} (hg : P.globalNamed name = some g) (h : W.var? P name = some cs) : ∃ t fr, W.heap[g]? = some (.cells cs t fr) := by
 unfold World.var? at h
 rw [hg] at h
 simp only [Option.bind_some] at h
 split at h
 ·rename_i c t fr hc
  obtain rfl := Option.some.inj h
  exact ⟨t, fr, hc⟩
 ·cases h
theorem sentinel_row (u : TypeId) (h : Tryz.prog.typeName? 3 u = some ("*" ++ "errors.errorString")) : u = 334 :=
 typeName_ptr_named (nm := "errors.errorString") (by kernel_rfl) (by kernel_rfl) (by decide) u h
theorem lb_of_laid {W : World} (hL0 : laidMetH Tryz.prog Rows.storySaysRow.laid W) (hsh : W.ShapedOpen Tryz.prog) : Lb (heapOf W) := by
 have hL : laidMet Tryz.prog Rows.storySaysRow.laid W := noHandle hL0
 have h3 := hL.tail.tail
 have h5 := h3.tail.tail
 have h6 := h5.tail
 have hT := Lib.tabIs_of_head (k := .u64) (zs := Lib.pow10Tab) (g := 5) (t := 328) (e := 301) (n := 20) (by kernel_rfl) (by kernel_rfl) Tryz.underlying328 Tryz.underlying301 (by kernel_rfl) (by kernel_rfl) h3
 have hstar : "*" ++ "errors.errorString" = "*errors.errorString" := by decide
 obtain ⟨ar, sr, hvr, -, -, -⟩ := laid_sentinel (g := 2) h5 (by kernel_rfl) (by kernel_rfl) Tryz.underlying263 (fun u h => sentinel_row u (by rw [hstar]; exact h)) Tryz.underlying334 Tryz.underlying336 rfl rfl Tryz.underlying9 (by kernel_rfl) (by kernel_rfl)
 obtain ⟨aq, sq, hvs, -, -, -⟩ := laid_sentinel (g := 1) h6 (by kernel_rfl) (by kernel_rfl) Tryz.underlying263 (fun u h => sentinel_row u (by rw [hstar]; exact h)) Tryz.underlying334 Tryz.underlying336 rfl rfl Tryz.underlying9 (by kernel_rfl) (by kernel_rfl)
 obtain ⟨m, hm⟩ := Go.Proofs.cell_of_shapedOpen_int (zero := #[.int .i64 0]) (g := 0) (t := 3) hsh (of_decide_eq_true (by kernel_rfl)) (by kernel_rfl) rfl (by kernel_rfl) (by kernel_rfl) Tryz.underlying3
 refine ⟨⟨m, (heapOf_cell hm).2⟩, ?_, ?_, ?_⟩
 ·obtain ⟨t, fr, h⟩ := var_heap (g := 1) (by kernel_rfl) hvs
  exact ⟨_, _, by unfold Heap.cell heapOf; rw [h]; rfl⟩
 ·obtain ⟨t, fr, h⟩ := var_heap (g := 2) (by kernel_rfl) hvr
  exact ⟨_, _, by unfold Heap.cell heapOf; rw [h]; rfl⟩
 ·obtain ⟨t, fr, h⟩ := var_heap (g := 5) (by kernel_rfl) hT
  refine ⟨_, by unfold heapOf; rw [h], by simp, fun j z hj => ?_⟩
  simp [hj]
theorem laidOutT : laidOutB Tryz.pinned.checked.prog = true := by kernel_rfl
theorem mapsRowedT : mapsRowed Tryz.pinned.checked.prog = true := by kernel_rfl
theorem heardT : Tryz.pinned.checked.prog.stopsHeard = true := by kernel_rfl
theorem keysT : Tryz.pinned.checked.prog.plainKeys = Rows.storySaysRow.plainKeys := by kernel_rfl
theorem mainT : Tryz.pinned.checked.prog.mainIs = some (Rows.storySaysCard.stood.harness.1, Rows.storySaysCard.stood.harness.2.toList) := by kernel_rfl
noncomputable def laidWorld (os : Os) : World := World.laidAll Tryz.prog os Rows.storySaysRow.laid
theorem laid_os (os : Os) : (laidWorld os).os = os := World.laidAll_os _ _ _
theorem laid_met (os : Os) (args : Array Value) : laidMetH Tryz.prog Rows.storySaysRow.laid ((laidWorld os).forCall (fun _ _ => 0) ⟨#[], args, []⟩).memory := by
 rw [MakeChecks.laidMetH_plain _ _ _ (by kernel_rfl)]
 exact laidMet_laidAll _ (by kernel_rfl) (by kernel_rfl)
end Go.Proofs.YtgaegoefbekndaaGreatDoor
