/- What is proved here: a part of the proof of laws of this seat: what a contract is, how it comes of a condition, contracts of the functions that are reached, the plain laws. -/
import Derived.Test.YtgaegoefbekndaaGreatDoorR9
set_option linter.unusedSimpArgs false
set_option linter.unusedVariables false
set_option maxRecDepth 100000
namespace Go.Vg
open Go
theorem wRun_ok {w y : Wld} {x : Hap} {q : List Hap} (h : wHap w x = .ok y) : wRunFrom w (x :: q) = ((wRunFrom y q).1, 0 :: (wRunFrom y q).2) := by
 conv => lhs; unfold wRunFrom
 rw [h]
theorem wRun_err {w : Wld} {e : Int} {x : Hap} {q : List Hap} (h : wHap w x = .error e) : wRunFrom w (x :: q) = ((wRunFrom w q).1, e :: (wRunFrom w q).2) := by
 conv => lhs; unfold wRunFrom
 rw [h]
theorem wRun_app : ∀ {l m : List Hap} {w : Wld}, wRunFrom w (l ++ m) = ((wRunFrom (wRunFrom w l).1 m).1, (wRunFrom w l).2 ++ (wRunFrom (wRunFrom w l).1 m).2)
 | [], m, w => by simp [wRunFrom]
 | x :: q, m, w => by
  cases hx : wHap w x with
  | ok y => rw [List.cons_append, wRun_ok hx, wRun_ok hx, wRun_app (l := q)]; rfl
  | error e => rw [List.cons_append, wRun_err hx, wRun_err hx, wRun_app (l := q)]; rfl
theorem WRight.run : ∀ {l : List Hap} {w : Wld}, WRight w->WRight (wRunFrom w l).1
 | [], w, h => h
 | x :: q, w, h => by
  cases hx : wHap w x with
  | ok y => rw [wRun_ok hx]; exact WRight.run (h.hap hx).ok
  | error e => rw [wRun_err hx]; exact WRight.run h
theorem wRun_len : ∀ {l : List Hap} {w : Wld}, (wRunFrom w l).2.length = l.length
 | [], w => rfl
 | x :: q, w => by
  unfold wRunFrom
  cases hx : wHap w x with
  | ok y => simp [wRun_len (l := q)]
  | error e => simp [wRun_len (l := q)]
theorem hap_take {w y : Wld} {x : Hap} (hk : x.kind = 9 ∨ x.kind = 10 ∨ x.kind = 11) (hy : wHap w x = .ok y) : takeErr w.m x.num = 0 := by
 unfold wHap at hy
 by_cases h1 : x.kind = 9 ∨ x.kind = 10
 ·rw [if_pos h1] at hy
  unfold wHear at hy
  split at hy
  ·cases hy
  ·rename_i h; exact Decidable.not_not.1 h
 ·rw [if_neg h1, if_pos (by omega)] at hy
  split at hy
  ·cases hy
  ·rename_i h; exact Decidable.not_not.1 h
def hCrash (k : Int) : Hap := ⟨12, k, 0, false, []⟩
def hBoot (k : Int) : Hap := ⟨13, k, 0, false, []⟩
theorem hap_power {w : Wld} {k : Int} (hk : k < w.n.length) : wHap w (hCrash k) = wPower w (hCrash k)/\ wHap w (hBoot k) = wPower w (hBoot k) := by
 constructor
 ·unfold wHap hCrash
  rw [if_neg (by simp), if_neg (by simp), if_neg (by simp), if_neg (by simp), if_neg (by simp; omega), if_neg (by simp), if_pos (by simp)]
 ·unfold wHap hBoot
  rw [if_neg (by simp), if_neg (by simp), if_neg (by simp), if_neg (by simp), if_neg (by simp; omega), if_neg (by simp), if_pos (by simp)]
theorem stands_head {w : Wld} (h : WRight w) (hu : w.h.up = true) {k : Int} (hk : k < 0) : ∃ x, wHap w (hCrash k) = .ok x/\ x.h.up = false/\ wHap x (hBoot k) = .ok w := by
 have hD := dok_of h.head.disk (h.head.dry hu)
 obtain ⟨e1, e2, e3, e4⟩ := hD.err
 have hl := h.head.log
 rw [if_pos hu] at hl
 refine ⟨{ w with h := ⟨newLdr w.c, w.h.d, false⟩ }, ?_, rfl, ?_⟩
 ·rw [(hap_power (by omega)).1]
  unfold wPower hCrash
  rw [if_pos hk, if_neg (by simp [hu]), if_neg (by omega), if_pos rfl, ledReplay_nil h.cfg]
  simp [hu]
 ·rw [(hap_power (by show k < (w.n.length : Int); omega)).2]
  unfold wPower hBoot
  rw [if_pos hk, if_neg (by simp), if_neg (by simp only; omega), if_neg (by simp), hl]
  simp only [Bool.not_false]
  rw [if_neg (by simp), e3]
  cases w with
  | mk c hh n m => cases hh with
   | mk l d up => simp only at hu ⊢; rw [hu]
theorem stands_node {w : Wld} (h : WRight w) {k : Nat} {n : Nod} (hn : w.n[k]? = some n) (hu : n.up = true) : ∃ x n', wHap w (hCrash k) = .ok x/\ x.n[k]? = some n'/\ n'.up = false/\ wHap x (hBoot k) = .ok w := by
 have hN := h.node n (List.mem_of_getElem? hn)
 have hkl := (List.getElem?_eq_some_iff.1 hn).1
 have hD := dok_of hN.disk (hN.dry hu)
 obtain ⟨e1, e2, e3, e4⟩ := hD.err
 have hl := hN.log
 rw [if_pos hu] at hl
 have hrel : relErr w.c.first = 0 := (cfgErr_zero h.cfg).1
 have hx : (w.n.set k ⟨newAgt w.c.first, n.d, false⟩)[k]? = some ⟨newAgt w.c.first, n.d, false⟩ := by rw [List.getElem?_set, if_pos rfl, if_pos hkl]
 refine ⟨{ w with n := w.n.set k ⟨newAgt w.c.first, n.d, false⟩ }, ⟨newAgt w.c.first, n.d, false⟩, ?_, hx, rfl, ?_⟩
 ·rw [(hap_power (by omega)).1]
  unfold wPower hCrash
  rw [if_neg (by simp only; omega)]
  simp only [Int.toNat_natCast]
  rw [hn]
  dsimp only
  rw [if_neg (by simp [hu]), if_neg (by omega), if_pos trivial, agtReplay_nil hrel]
  simp [hu]
 ·rw [(hap_power (by show (k : Int) < ((w.n.set k _).length : Int); rw [List.length_set]; omega)).2]
  unfold wPower hBoot
  rw [if_neg (by simp only; omega)]
  simp only [Int.toNat_natCast]
  rw [hx]
  dsimp only
  rw [if_neg (by simp), if_neg (by omega), if_neg (by omega), hl]
  simp only [Bool.not_false]
  rw [if_neg (by omega), e3, List.set_set]
  have : (⟨n.a, n.d, true⟩ : Nod) = n := by cases n; simp only at hu; rw [hu]
  rw [this, set_self hn]
def hTwice (k : Int) : Hap := ⟨10, 0, k, false, []⟩
theorem hap_twice {w : Wld} {k : Int} : wHap w (hTwice k) = wHear w (hTwice k) := by
 unfold wHap hTwice
 rw [if_pos (by simp)]
theorem orSame_ok {w y : Wld} {x : Except Int Wld} (h : orSame w x = y) : (x = .ok y) ∨ ((∃ e, x = .error e)/\ y = w) := by
 cases x with
 | ok z => exact .inl (by rw [← h]; rfl)
 | error e => exact .inr ⟨⟨e, rfl⟩, h.symm⟩
theorem twice_same {w x : Wld} (h : WRight w) {k : Int} (hx : wHap w (hTwice k) = .ok x) : ∃ y, wHap x (hTwice k) = .ok y/\ y.h = x.h/\ y.n = x.n := by
 have hE := h.hap hx
 have ht := hap_take (.inr (.inl rfl)) hx
 obtain ⟨t1, t2, t3, t4⟩ := took_mem ht
 have hm : x.m = w.m ∨ ∃ m, x.m = w.m ++ [m] := by
  have := hE.mail
  unfold hapLeft at this
  rw [if_neg (by simp [hTwice])] at this
  exact this
 have hk : k.toNat < w.m.length := by simp only [hTwice] at t2 t3; omega
 have htk : took x.m k = took w.m k := by
  rcases hm with e | ⟨m, e⟩
  ·rw [e]
  ·unfold took; rw [e, List.getD_eq_getElem?_getD, List.getD_eq_getElem?_getD, List.getElem?_append_left hk]
 have hte : takeErr x.m k = 0 := by
  unfold takeErr
  have hlen : w.m.length <= x.m.length := by
   rcases hm with e | ⟨m, e⟩ <;> rw [e]
   ·exact Nat.le_refl _
   ·simp
  rw [if_pos hE.ok.mail, if_neg (by simp only [hTwice] at t2 t3; omega)]
 have hleft : ∀ l : List Mail, left l k true = l := fun l => by unfold left; simp
 rw [hap_twice] at hx ⊢
 unfold wHear at hx ⊢
 have ht' : takeErr w.m (hTwice k).num = 0 := ht
 have hte' : takeErr x.m (hTwice k).num = 0 := hte
 have htk' : took x.m (hTwice k).num = took w.m (hTwice k).num := htk
 have htw : decide ((hTwice k).kind = 10) = true := by simp [hTwice]
 have hlw : ∀ l : List Mail, left l (hTwice k).num (decide ((hTwice k).kind = 10)) = l := fun l => by rw [htw]; exact hleft l
 have hmw := (mailsCheck_iff.1 t4).2 _ t1
 rw [if_neg (by omega)] at hx
 rw [if_neg (by omega), htk']
 generalize took w.m (hTwice k).num = m at *
 rw [hlw] at hx
 rw [hlw]
 cases hn : w.n[m.agent.toNat]? with
 | none => rw [hn] at hx; cases hx
 | some n =>
  rw [hn] at hx
  dsimp only at hx
  split at hx
  ·cases hx
  ·rename_i hup
   have hw : ({ w with m := w.m } : Wld) = w := rfl
   rw [hw] at hx
   by_cases hr : m.rep = true
   ·rw [if_pos hr] at hx
    have hu : w.h.up = true := by
     cases hu : w.h.up with
     | true => rfl
     | false => exact absurd (.inl ⟨hr, hu⟩) hup
    have hxx := Except.ok.inj hx
    rcases orSame_ok hxx with e | ⟨⟨e0, e⟩, rfl⟩
    ·obtain ⟨he, d, hd, rfl⟩ := wLead_ok e
     dsimp only
     rw [hn]
     dsimp only
     rw [if_neg (by rw [hr]; simp [hu]), if_pos hr]
     have hlate : ∀ L, ledErr w.c w.h.l ⟨7, m.agent, m.try_, 0, m.good, ⟨0, []⟩⟩ = 0->L = ledNext w.h.l ⟨7, m.agent, m.try_, 0, m.good, ⟨0, []⟩⟩->ledErr w.c L ⟨7, m.agent, m.try_, 0, m.good, ⟨0, []⟩⟩ ≠ 0 := fun L h0 hL hz => by
      obtain ⟨z1, z2, z3⟩ := led_zero h0
      obtain ⟨y1, y2, y3⟩ := led_zero hz
      rcases led_cases z3 with ⟨q, _⟩ | ⟨q, _⟩ | ⟨q, _⟩ | ⟨q, q1, b, q2, q3, q4⟩ | ⟨q, _⟩ | ⟨q, _⟩
      ·simp at q
      ·simp at q
      ·simp at q
      ·rw [led_eq7 rfl q2] at hL
       rcases led_cases y3 with ⟨p, _⟩ | ⟨p, _⟩ | ⟨p, _⟩ | ⟨p, p1, b', p2, p3, p4⟩ | ⟨p, _⟩ | ⟨p, _⟩
       ·simp at p
       ·simp at p
       ·simp at p
       ·rw [hL] at p2
        simp only at p2 q2
        rw [List.getElem?_set, if_pos rfl, if_pos (List.getElem?_eq_some_iff.1 q2).1] at p2
        obtain rfl := Option.some.inj p2
        unfold got at p3
        dsimp only at p3
        split at p3 <;> omega
       ·simp at p
       ·simp at p
      ·simp at q
      ·simp at q
     have hl2 : wLead { w with h := ⟨ledNext w.h.l ⟨7, m.agent, m.try_, 0, m.good, ⟨0, []⟩⟩, d, w.h.up⟩ } ⟨7, m.agent, m.try_, 0, m.good, ⟨0, []⟩⟩ = .error (ledErr w.c (ledNext w.h.l ⟨7, m.agent, m.try_, 0, m.good, ⟨0, []⟩⟩) ⟨7, m.agent, m.try_, 0, m.good, ⟨0, []⟩⟩) := by
      unfold wLead
      rw [if_pos (hlate _ he rfl)]
     refine ⟨_, rfl, ?_⟩
     rw [hl2]
     exact ⟨rfl, rfl⟩
    ·rw [hn]
     dsimp only
     rw [if_neg hup, if_pos hr]
     refine ⟨_, rfl, ?_⟩
     rw [e]; exact ⟨rfl, rfl⟩
   ·rw [if_neg hr] at hx
    have hr' : m.rep = false := by simpa using hr
    have hu : n.up = true := by
     cases hu : n.up with
     | true => rfl
     | false => exact absurd (.inr ⟨hr', hu⟩) hup
    split at hx
    ·rename_i hg
     obtain rfl := Except.ok.inj hx
     have hrn : ∀ w' : Wld, (wReport w' m.agent.toNat).n = w'.n/\ (wReport w' m.agent.toNat).h = w'.h := fun w' => by
      unfold wReport
      split
      ·exact ⟨rfl, rfl⟩
      ·unfold wPost; split <;> exact ⟨rfl, rfl⟩
     rw [(hrn w).1, hn]
     dsimp only
     rw [(hrn w).2, if_neg hup, if_neg hr, if_pos hg]
     exact ⟨_, rfl, (hrn _).2, (hrn _).1⟩
    ·rename_i hg
     have hxx := Except.ok.inj hx
     rcases orSame_ok hxx with e | ⟨⟨e0, e⟩, rfl⟩
     ·obtain ⟨n0, n', hn0, hn', rfl⟩ := wDoes_ok e
      obtain rfl : n = n0 := by rw [hn] at hn0; exact Option.some.inj hn0
      obtain ⟨d1, d2, d3, d4, d5⟩ := (h.node n (List.mem_of_getElem? hn)).does hu hn'
      have hx2 : (w.n.set m.agent.toNat n')[m.agent.toNat]? = some n' := by rw [List.getElem?_set, if_pos rfl, if_pos (List.getElem?_eq_some_iff.1 hn).1]
      dsimp only
      rw [hx2]
      dsimp only
      have d3' : n'.a = ⟨n.a.lock, n.a.at_, m.try_, true, m.rel, false⟩ := by rw [d3]; exact next_begin (m := m)
      rw [if_neg (by rw [hr', d2]; simp), if_neg hr, if_neg (by rw [d3']; simp)]
      refine ⟨_, rfl, ?_⟩
      have hne : nextErr n'.a ⟨1, 0, m.try_, 0, false, m.rel⟩ ≠ 0 := fun hz => by
       rcases (next_zero hz).2.2 with w | w
       ·have := w.2; rw [d3'] at this; exact absurd this (Int.lt_irrefl _)
       ·rcases w.1 with w | w <;> simp at w
      have hdo : wDoes { w with n := w.n.set m.agent.toNat n' } m.agent.toNat ⟨1, 0, m.try_, 0, false, m.rel⟩ = .error (nextErr n'.a ⟨1, 0, m.try_, 0, false, m.rel⟩) := by
       unfold wDoes
       dsimp only
       rw [hx2]
       dsimp only
       unfold nDoes
       rw [if_pos hne]
      rw [hdo]
      exact ⟨rfl, rfl⟩
     ·rw [hn]
      dsimp only
      rw [if_neg hup, if_neg hr, if_neg hg]
      refine ⟨_, rfl, ?_⟩
      rw [e]; exact ⟨rfl, rfl⟩
open Go
def Ahead (w : Wld) (j : Int) : Prop := ∀ (o : Nat) (b : Kn), w.h.l.ags[o]? = some b->waveOf w.c.waves o < j->b.st = 2 ∨ b.st = 3
theorem flat_ge : ∀ {ws : List (List Int)}, (∀ w ∈ ws, w ≠ [])->ws.length <= ws.flatten.length
 | [], _ => by simp
 | w :: r, h => by
  have ih := flat_ge (ws := r) fun x hx => h x (List.mem_cons_of_mem _ hx)
  have h0 : w.length ≠ 0 := fun e => h w List.mem_cons_self (List.eq_nil_of_length_eq_zero e)
  simp only [List.flatten_cons, List.length_append, List.length_cons]
  omega
open Go
structure SNod where
 a : Agt
 rs : List Recd
 up : Bool
structure Skl where
 c : Conf
 l : Ldr
 rs : List Recd
 up : Bool
 n : List SNod
 m : List Mail
def sLead (s : Skl) (r : Recd) : Except Int Skl := if ledErr s.c s.l r ≠ 0 then .error (ledErr s.c s.l r) else .ok { s with l := ledNext s.l r, rs := s.rs ++ [r] }
def sDoes (s : Skl) (k : Nat) (r : Recd) : Except Int Skl :=
 match s.n[k]? with
 | none => .error 5
 | some n => if nextErr n.a r ≠ 0 then .error (nextErr n.a r) else .ok { s with n := s.n.set k ⟨agtNext n.a r, n.rs ++ [r], n.up⟩ }
def sPost (s : Skl) (m : Mail) : Skl := if sendErr s.m m = 0 then { s with m := sent s.m m } else s
def sReport (s : Skl) (k : Nat) : Skl :=
 match s.n[k]? with
 | none => s
 | some n => sPost s (repMail k n.a)
def sTell (s : Skl) (x : Hap) : Except Int Skl :=
 if turnErr s.c s.l x.agent ≠ 0 then .error (turnErr s.c s.l x.agent) else
 if x.kind = 4 then
  (match s.l.ags[x.agent.toNat]? with
   | none => .error 5
   | some a => if a.st ≠ 1 ∨ a.back ≠ s.l.back then .error 7 else .ok (sPost s ⟨x.agent, a.try_, false, false, turnRel s.c s.l x.agent⟩))
 else match sLead s ⟨6, x.agent, s.l.nx, 0, false, ⟨0, []⟩⟩ with
  | .error e => .error e
  | .ok y => .ok (sPost y ⟨x.agent, s.l.nx, false, false, turnRel s.c s.l x.agent⟩)
def sStep (s : Skl) (x : Hap) (n : SNod) : Except Int Skl :=
 if n.a.going = false then .error 7 else
 if agtErr n.a ≠ 0 then .error (agtErr n.a) else
 if agtLeft n.a ≠ [] then sDoes s x.agent.toNat ⟨2, 0, n.a.try_, 0, false, ⟨0, []⟩⟩ else
 match sDoes s x.agent.toNat ⟨3, 0, n.a.try_, 0, x.good, ⟨0, []⟩⟩ with
 | .error e => .error e
 | .ok y => .ok (sReport y x.agent.toNat)
def sOrSame (s : Skl) : Except Int Skl->Skl
 | .ok y => y
 | .error _ => s
def sHear (s : Skl) (x : Hap) : Except Int Skl :=
 if takeErr s.m x.num ≠ 0 then .error (takeErr s.m x.num) else
 match s.n[(took s.m x.num).agent.toNat]? with
 | none => .error 5
 | some n =>
  if ((took s.m x.num).rep = true/\ s.up = false) ∨ ((took s.m x.num).rep = false/\ n.up = false) then .error 7 else
  let s1 : Skl := { s with m := left s.m x.num (decide (x.kind = 10)) }
  if (took s.m x.num).rep = true then .ok (sOrSame s1 (sLead s1 ⟨7, (took s.m x.num).agent, (took s.m x.num).try_, 0, (took s.m x.num).good, ⟨0, []⟩⟩)) else
  if (took s.m x.num).try_ = n.a.try_/\ n.a.going = false then .ok (sReport s1 (took s.m x.num).agent.toNat) else
  .ok (sOrSame s1 (sDoes s1 (took s.m x.num).agent.toNat ⟨1, 0, (took s.m x.num).try_, 0, false, (took s.m x.num).rel⟩))
def sPower (s : Skl) (x : Hap) : Except Int Skl :=
 if x.agent < 0 then
  (if s.up = decide (x.kind = 13) then .error 7 else
   match ledReplay s.c (if x.kind = 12 then [] else s.rs) with
   | .error e => .error e
   | .ok l => .ok { s with l := l, up := !s.up })
 else match s.n[x.agent.toNat]? with
  | none => .error 5
  | some n =>
   if n.up = decide (x.kind = 13) then .error 7 else
   match agtReplay s.c.first (if x.kind = 12 then [] else n.rs) with
   | .error e => .error e
   | .ok a => .ok { s with n := s.n.set x.agent.toNat ⟨a, n.rs, !n.up⟩ }
def sHapRec (s : Skl) (x : Hap) : Recd :=
 if x.kind = 1 then ⟨4, 0, 0, 0, false, ⟨s.l.rels.length + 1, x.lock⟩⟩ else
 if x.kind = 2 then ⟨5, 0, 0, x.num, false, ⟨0, []⟩⟩ else
 if x.kind = 5 then ⟨8, 0, 0, 0, false, ⟨0, []⟩⟩ else ⟨9, 0, 0, 0, false, ⟨0, []⟩⟩
def sHap (s : Skl) (x : Hap) : Except Int Skl :=
 if x.kind = 9 ∨ x.kind = 10 then sHear s x else
 if x.kind = 11 then (if takeErr s.m x.num ≠ 0 then .error (takeErr s.m x.num) else .ok { s with m := left s.m x.num false }) else
 if x.kind = 1 ∨ x.kind = 2 ∨ x.kind = 5 ∨ x.kind = 6 then (if s.up = false then .error 7 else sLead s (sHapRec s x)) else
 if x.kind < 1 ∨ 13 < x.kind then .error 4 else
 if (s.n.length : Int) <= x.agent ∨ (x.agent < 0/\ x.kind ≠ 12/\ x.kind ≠ 13) then .error 5 else
 if x.kind = 3 ∨ x.kind = 4 then (if s.up = false then .error 7 else sTell s x) else
 if x.kind = 12 ∨ x.kind = 13 then sPower s x else
 match s.n[x.agent.toNat]? with
 | none => .error 5
 | some n =>
  if n.up = false then .error 7 else
  if x.kind = 7 then sStep s x n else
  if n.a.going = true ∨ n.a.try_ = 0 then .error 7 else .ok (sReport s x.agent.toNat)
def sRunFrom : Skl->List Hap->Skl × List Int
 | s, [] => (s, [])
 | s, x :: q => match sHap s x with
  | .ok y => ((sRunFrom y q).1, 0 :: (sRunFrom y q).2)
  | .error e => ((sRunFrom s q).1, e :: (sRunFrom s q).2)
def freshSkl (c : Conf) : Skl := ⟨c, newLdr c, [], true, List.replicate (agentsOf c.waves).toNat ⟨newAgt c.first, [], true⟩, []⟩
structure NRel (b : Nat) (n : Nod) (q : SNod) : Prop where
 a : n.a = q.a
 d : DOk n.d q.rs
 len : q.rs.length <= b
 up : n.up = q.up
structure SRel (b : Nat) (w : Wld) (s : Skl) : Prop where
 c : w.c = s.c
 l : w.h.l = s.l
 d : DOk w.h.d s.rs
 len : s.rs.length <= b
 up : w.h.up = s.up
 n : w.n.length = s.n.length
 at_ : ∀ (k : Nat) (n : Nod) (q : SNod), w.n[k]? = some n->s.n[k]? = some q->NRel b n q
 m : w.m = s.m
def both (R : Wld->Skl->Prop) : Except Int Wld->Except Int Skl->Prop
 | .ok w, .ok s => R w s
 | .error e, .error f => e = f
 | _, _ => False
theorem NRel.mono {b b' : Nat} {n : Nod} {q : SNod} (h : NRel b n q) (hb : b <= b') : NRel b' n q := ⟨h.a, h.d, Nat.le_trans h.len hb, h.up⟩
theorem SRel.mono {b b' : Nat} {w : Wld} {s : Skl} (h : SRel b w s) (hb : b <= b') : SRel b' w s := ⟨h.c, h.l, h.d, Nat.le_trans h.len hb, h.up, h.n, fun k n q h1 h2 => (h.at_ k n q h1 h2).mono hb, h.m⟩
theorem SRel.node {b : Nat} {w : Wld} {s : Skl} (h : SRel b w s) (k : Nat) : (w.n[k]? = none/\ s.n[k]? = none) ∨ ∃ n q, w.n[k]? = some n/\ s.n[k]? = some q/\ NRel b n q := by
 have hn := h.n
 rcases Nat.lt_or_ge k w.n.length with hk | hk
 ·refine .inr ⟨w.n[k], s.n[k]'(by omega), List.getElem?_eq_getElem hk, List.getElem?_eq_getElem (by omega), h.at_ k _ _ (List.getElem?_eq_getElem hk) (List.getElem?_eq_getElem (by omega))⟩
 ·exact .inl ⟨List.getElem?_eq_none hk, List.getElem?_eq_none (by omega)⟩
theorem DOk.room {d : Dsk} {rs : List Recd} {r : Recd} {b : Nat} (h : DOk d rs) (hl : rs.length <= b) (hb : b <= 100) (hr : recErr r = 0) : ∃ x, dskSafe d r = .ok x/\ DOk x (rs ++ [r]) :=
 dskSafe_room h hr (by omega) (by have := recsText_len h.recs; omega)
theorem recErr_led {c : Conf} {l : Ldr} {r : Recd} (h : ledErr c l r = 0) : recErr r = 0 := by
 unfold ledErr at h
 split at h
 ·omega
 ·split at h
  ·omega
  ·omega
theorem SRel.lead {b : Nat} {w : Wld} {s : Skl} (h : SRel b w s) (hb : b <= 100) (r : Recd) : both (SRel (b + 1)) (wLead w r) (sLead s r) := by
 unfold wLead sLead
 rw [h.c, h.l]
 by_cases he : ledErr s.c s.l r ≠ 0
 ·rw [if_pos he, if_pos he]; rfl
 ·rw [if_neg he, if_neg he]
  obtain ⟨x, hx, hd⟩ := h.d.room h.len hb (recErr_led (Decidable.not_not.1 he))
  rw [hx]
  exact ⟨rfl, rfl, hd, by have := h.len; simp; omega, h.up, h.n, fun k n q h1 h2 => (h.at_ k n q h1 h2).mono (by omega), h.m⟩
theorem SRel.set {b : Nat} {w : Wld} {s : Skl} (h : SRel b w s) {b' : Nat} (hb : b <= b') {k : Nat} {n : Nod} {q : SNod} (hr : NRel b' n q) : SRel b' { w with n := w.n.set k n } { s with n := s.n.set k q } := by
 have hn := h.n
 refine ⟨h.c, h.l, h.d, Nat.le_trans h.len hb, h.up, by simp [hn], fun j x y h1 h2 => ?_, h.m⟩
 have h1 : (w.n.set k n)[j]? = some x := h1
 have h2 : (s.n.set k q)[j]? = some y := h2
 rw [List.getElem?_set] at h1 h2
 by_cases hj : k = j
 ·rw [if_pos hj] at h1 h2
  simp only [Option.ite_none_right_eq_some, Option.some.injEq] at h1 h2
  rw [← h1.2, ← h2.2]; exact hr
 ·rw [if_neg hj] at h1 h2
  exact (h.at_ j x y h1 h2).mono hb
theorem SRel.does {b : Nat} {w : Wld} {s : Skl} (h : SRel b w s) (hb : b <= 100) (k : Nat) (r : Recd) : both (SRel (b + 1)) (wDoes w k r) (sDoes s k r) := by
 unfold wDoes sDoes
 rcases h.node k with ⟨h1, h2⟩ | ⟨n, q, h1, h2, hr⟩
 ·rw [h1, h2]; rfl
 ·rw [h1, h2]
  dsimp only
  unfold nDoes
  rw [hr.a]
  by_cases he : nextErr q.a r ≠ 0
  ·rw [if_pos he, if_pos he]; rfl
  ·rw [if_neg he, if_neg he]
   have he := Decidable.not_not.1 he
   obtain ⟨x, hx, hd⟩ := hr.d.room hr.len hb (next_zero he).2.1
   rw [hx]
   exact h.set (by omega) ⟨rfl, hd, by have := hr.len; simp; omega, hr.up⟩
theorem SRel.post {b : Nat} {w : Wld} {s : Skl} (h : SRel b w s) (m : Mail) : SRel b (wPost w m) (sPost s m) := by
 unfold wPost sPost
 rw [h.m]
 split
 ·exact ⟨h.c, h.l, h.d, h.len, h.up, h.n, h.at_, rfl⟩
 ·exact h
theorem SRel.report {b : Nat} {w : Wld} {s : Skl} (h : SRel b w s) (k : Nat) : SRel b (wReport w k) (sReport s k) := by
 unfold wReport sReport
 rcases h.node k with ⟨h1, h2⟩ | ⟨n, q, h1, h2, hr⟩
 ·rw [h1, h2]; exact h
 ·rw [h1, h2]
  dsimp only
  rw [hr.a]; exact h.post _
theorem SRel.mail {b : Nat} {w : Wld} {s : Skl} (h : SRel b w s) (l : List Mail) : SRel b { w with m := l } { s with m := l } := ⟨h.c, h.l, h.d, h.len, h.up, h.n, h.at_, rfl⟩
theorem both.orSame {b : Nat} {w : Wld} {s : Skl} {x : Except Int Wld} {y : Except Int Skl} (h : both (SRel (b + 1)) x y) (hs : SRel (b + 1) w s) : SRel (b + 1) (orSame w x) (sOrSame s y) := by
 cases x <;> cases y
 ·exact hs
 ·exact h.elim
 ·exact h.elim
 ·exact h
theorem SRel.tell {b : Nat} {w : Wld} {s : Skl} (h : SRel b w s) (hb : b <= 100) (x : Hap) : both (SRel (b + 1)) (wTell w x) (sTell s x) := by
 unfold wTell sTell
 rw [h.c, h.l]
 by_cases he : turnErr s.c s.l x.agent ≠ 0
 ·rw [if_pos he, if_pos he]; rfl
 rw [if_neg he, if_neg he]
 by_cases hk : x.kind = 4
 ·rw [if_pos hk, if_pos hk]
  cases s.l.ags[x.agent.toNat]? with
  | none => rfl
  | some a =>
   dsimp only
   split
   ·rfl
   ·exact (h.post _).mono (by omega)
 ·rw [if_neg hk, if_neg hk]
  have hl := h.lead hb ⟨6, x.agent, s.l.nx, 0, false, ⟨0, []⟩⟩
  revert hl
  cases wLead w ⟨6, x.agent, s.l.nx, 0, false, ⟨0, []⟩⟩ <;> cases sLead s ⟨6, x.agent, s.l.nx, 0, false, ⟨0, []⟩⟩ <;> intro hl
  ·exact hl
  ·exact hl.elim
  ·exact hl.elim
  ·exact SRel.post hl _
theorem SRel.step {b : Nat} {w : Wld} {s : Skl} (h : SRel b w s) (hb : b <= 100) (x : Hap) {n : Nod} {q : SNod} (hr : NRel b n q) : both (SRel (b + 1)) (wStep w x n) (sStep s x q) := by
 unfold wStep sStep
 rw [hr.a]
 split
 ·rfl
 split
 ·rfl
 split
 ·exact h.does hb _ _
 ·have hl := h.does hb x.agent.toNat ⟨3, 0, q.a.try_, 0, x.good, ⟨0, []⟩⟩
  revert hl
  cases wDoes w x.agent.toNat ⟨3, 0, q.a.try_, 0, x.good, ⟨0, []⟩⟩ <;> cases sDoes s x.agent.toNat ⟨3, 0, q.a.try_, 0, x.good, ⟨0, []⟩⟩ <;> intro hl
  ·exact hl
  ·exact hl.elim
  ·exact hl.elim
  ·exact SRel.report hl _
theorem SRel.hear {b : Nat} {w : Wld} {s : Skl} (h : SRel b w s) (hb : b <= 100) (x : Hap) : both (SRel (b + 1)) (wHear w x) (sHear s x) := by
 unfold wHear sHear
 rw [h.m, h.up]
 split
 ·rfl
 rcases h.node (took s.m x.num).agent.toNat with ⟨h1, h2⟩ | ⟨n, q, h1, h2, hr⟩
 ·rw [h1, h2]; rfl
 rw [h1, h2]
 dsimp only
 rw [hr.up, hr.a]
 split
 ·rfl
 have h1 := h.mail (left s.m x.num (decide (x.kind = 10)))
 split
 ·exact both.orSame (h1.lead hb _) (h1.mono (by omega))
 split
 ·exact (h1.report _).mono (by omega)
 ·exact both.orSame (h1.does hb _ _) (h1.mono (by omega))
theorem SRel.power {b : Nat} {w : Wld} {s : Skl} (h : SRel b w s) (x : Hap) : both (SRel (b + 1)) (wPower w x) (sPower s x) := by
 unfold wPower sPower
 split
 ·rw [h.up]
  split
  ·rfl
  obtain ⟨e1, e2, e3, _⟩ := h.d.err
  rw [if_neg (by omega), e2, e3, h.c]
  cases ledReplay s.c (if x.kind = 12 then [] else s.rs) with
  | error e => rfl
  | ok l =>
   refine ⟨rfl, rfl, ?_, by have := h.len; show s.rs.length <= _; omega, rfl, h.n, fun k n q h1 h2 => (h.at_ k n q h1 h2).mono (by omega), h.m⟩
   show DOk (if x.kind = 12 then w.h.d else w.h.d) s.rs
   rw [ite_self]; exact h.d
 ·rcases h.node x.agent.toNat with ⟨h1, h2⟩ | ⟨n, q, h1, h2, hr⟩
  ·rw [h1, h2]; rfl
  rw [h1, h2]
  dsimp only
  rw [hr.up]
  split
  ·rfl
  obtain ⟨e1, e2, e3, _⟩ := hr.d.err
  rw [if_neg (show ¬ dskErr n.d ≠ 0 by omega), e2, e3, h.c]
  cases agtReplay s.c.first (if x.kind = 12 then [] else q.rs) with
  | error e => rfl
  | ok l =>
   have hs := h.set (b' := b + 1) (k := x.agent.toNat) (n := ⟨l, if x.kind = 12 then n.d else n.d, !q.up⟩) (q := ⟨l, q.rs, !q.up⟩) (by omega) ⟨rfl, by
    show DOk (if x.kind = 12 then n.d else n.d) q.rs
    rw [ite_self]; exact hr.d, by have := hr.len; show q.rs.length <= _; omega, rfl⟩
   rw [h.c] at hs
   exact hs
theorem SRel.hap {b : Nat} {w : Wld} {s : Skl} (h : SRel b w s) (hb : b <= 100) (x : Hap) : both (SRel (b + 1)) (wHap w x) (sHap s x) := by
 unfold wHap sHap
 have hrec : hapRec w x = sHapRec s x := by unfold hapRec sHapRec; rw [h.l]
 rw [h.m, h.up, h.n, hrec]
 split
 ·exact h.hear hb x
 split
 ·split
  ·rfl
  ·exact (h.mail _).mono (by omega)
 split
 ·split
  ·rfl
  ·exact h.lead hb _
 split
 ·rfl
 split
 ·rfl
 split
 ·split
  ·rfl
  ·exact h.tell hb x
 split
 ·exact h.power x
 rcases h.node x.agent.toNat with ⟨h1, h2⟩ | ⟨n, q, h1, h2, hr⟩
 ·rw [h1, h2]; rfl
 rw [h1, h2]
 dsimp only
 rw [hr.up]
 split
 ·rfl
 split
 ·exact h.step hb x hr
 rw [hr.a]
 split
 ·rfl
 ·exact (h.report _).mono (by omega)
theorem SRel.run : ∀ {l : List Hap} {b : Nat} {w : Wld} {s : Skl}, SRel b w s->b + l.length <= 100->SRel (b + l.length) (wRunFrom w l).1 (sRunFrom s l).1/\ (wRunFrom w l).2 = (sRunFrom s l).2
 | [], b, w, s, h, hb => ⟨h, rfl⟩
 | x :: q, b, w, s, h, hb => by
  simp only [List.length_cons] at hb ⊢
  have hx := h.hap (by omega) x
  unfold wRunFrom sRunFrom
  revert hx
  cases wHap w x <;> cases sHap s x <;> intro hx
  ·have hx : _ = _ := hx
   subst hx
   obtain ⟨h1, h2⟩ := SRel.run (l := q) h (by omega)
   exact ⟨h1.mono (by omega), by show _ :: _ = _ :: _; rw [h2]⟩
  ·exact hx.elim
  ·exact hx.elim
  ·obtain ⟨h1, h2⟩ := SRel.run (l := q) (show SRel (b + 1) _ _ from hx) (by omega)
   exact ⟨h1.mono (by omega), by show (0 : Int) :: _ = 0 :: _; rw [h2]⟩
theorem fresh_rel (c : Conf) : SRel 0 (freshWld c) (freshSkl c) := by
 refine ⟨rfl, rfl, DOk.nil, Nat.le_refl _, rfl, by simp [freshWld, freshSkl], fun k n q h1 h2 => ?_, rfl⟩
 obtain rfl := List.eq_of_mem_replicate (List.mem_of_getElem? h1)
 obtain rfl := List.eq_of_mem_replicate (List.mem_of_getElem? h2)
 exact ⟨rfl, DOk.nil, Nat.le_refl _, rfl⟩
def hOf (kind k : Int) : Hap := ⟨kind, k, 0, true, []⟩
def roll1 (k : Int) : List Hap := [hOf 3 k, hOf 9 0, hOf 7 k, hOf 7 k, hOf 7 k, hOf 9 0]
def rollS : List Hap := [⟨1, 0, 0, false, s2.lock⟩, ⟨2, 0, 2, false, []⟩, hOf 3 0] ++ roll1 1 ++ roll1 0 ++ roll1 2 ++ [hOf 6 0]
open Go
theorem len_of_mem_flatten {α : Type} {ws : List (List α)} {x : List α} (h : x ∈ ws) : x.length <= ws.flatten.length := by
 induction ws with
 | nil => cases h
 | cons w r ih =>
  simp only [List.flatten_cons, List.length_append]
  rcases List.mem_cons.1 h with rfl | h
  ·omega
  ·have := ih h; omega
theorem waves_small {ws : List (List Int)} {k : Int} (h : waveCheck ws k = 0) : ws.length <= 6/\ ∀ x ∈ ws, x.length <= 6 := by
 have h5 := (waveCheck_zero h).2.2.2.2
 unfold waveCheck at h
 split at h
 ·cases h
 ·split at h
  ·cases h
  ·have h1 := (waveAll_zero (by omega) ws (wok_nil _) h).2.1
   have hf := flat_ge h5
   simp only [List.nil_append] at h1
   exact ⟨by omega, fun x hx => by have := len_of_mem_flatten hx; omega⟩
theorem dsk_small {d : Dsk} (h : dskErr d = 0) : d.safe.length <= 100000/\ d.wait.length <= 100000 := by
 obtain ⟨h1, h2, _⟩ := dskErr_zero h
 omega
theorem WRight.sizes {w : Wld} (h : WRight w) : (w.c.first.lock.length <= 100000/\ w.c.rules.length <= 100000/\ w.c.waves.length <= 100000/\ ∀ x ∈ w.c.waves, x.length <= 100000)/\ (w.h.l.rels.length <= 100000/\ w.h.l.ags.length <= 100000/\ ∀ m ∈ w.h.l.rels, m.lock.length <= 100000) /\ 
  (w.h.d.safe.length <= 100000/\ w.h.d.wait.length <= 100000)/\ (w.n.length <= 100000/\ ∀ n ∈ w.n, agtErr n.a = 0/\ n.d.safe.length <= 100000/\ n.d.wait.length <= 100000)/\ (w.m.length <= 100000/\ ∀ m ∈ w.m, m.rel.lock.length <= 100000) := by
 obtain ⟨c1, c2, c3, c4, c5, c6, c7⟩ := cfgErr_zero h.cfg
 obtain ⟨b1, b2, b3⟩ := brokenErr_zero.1 c5
 obtain ⟨w1, w2⟩ := waves_small c7
 have w3 := (waveCheck_zero c7)
 obtain ⟨_, l1⟩ := ledReplay_ok h.head.log
 have f := ldr_facts l1
 have hlen := h.len
 have hm := mailsCheck_iff.1 h.mail
 refine ⟨⟨by omega, by omega, by omega, fun x hx => by have := w2 x hx; omega⟩, ⟨by have := f.many; omega, by have := (ags_six l1).1; omega, fun m hm => ?_⟩, dsk_small h.head.disk, ⟨by omega, fun n hn => ?_⟩, by omega, fun m hx => ?_⟩
 ·obtain ⟨k, hk⟩ := List.getElem?_of_mem hm
  have := (f.ids k m hk).2.2
  omega
 ·have hn := h.node n hn
  exact ⟨(agtReplay_ok hn.log).2, dsk_small hn.disk⟩
 ·have hx := hm.2 m hx
  by_cases hr : m.rep = true
  ·have h2 := hx.2.1
   unfold badForm noRel at h2
   have : m.rel.lock = [] := Decidable.byContradiction fun hne => h2 (.inl ⟨hr, fun hh => hne hh.2⟩)
   rw [this]; simp
  ·have := (relErr_zero (hx.2.2 (by simpa using hr))).2.2
   omega
open Go Go.Proofs
theorem wldErr_tail {w : Wld} (h1 : cfgErr w.c = 0) (h2 : (w.n.length : Int) = agentsOf w.c.waves) (h3 : mailsCheck w.m = 0) (h4 : farMail w.n.length w.m = false) : wldErr w = if hedErr w.c w.h ≠ 0 then hedErr w.c w.h else nodsErr w.c.first w.n := by
 unfold wldErr
 rw [if_neg (by omega), if_neg (by omega), if_neg (by omega), if_neg (by rw [h4]; simp)]
def mlIdx (f : Mail->Bool) : Int->List Mail->Int
 | _, [] => -1
 | i, x :: r => if f x = true then i else mlIdx f (i + 1) r
theorem mlIdx_any (f : Mail->Bool) : ∀ (l : List Mail) (i : Int), 0 <= i->(0 <= mlIdx f i l ↔ l.any f = true)
 | [], i, _ => by simp [mlIdx]
 | x :: r, i, h => by
  unfold mlIdx
  split
  ·rename_i e; simp [h, e]
  ·rename_i e; rw [mlIdx_any f r (i + 1) (by omega)]; simp [e]
theorem cFar1 {H : Heap} {p : Nat} {na : O} {nn nc : Nat} (hp : H.cell p 14 = some (.slice na nn nc)) (m : Mail) (a : O) (l c : Nat) : Spec Tryz.prog 104 [mailArg m a l c, .pointer (some ⟨p, 0, none⟩)] H fun v _ => v = .bool (decide ((nn : Int) <= m.agent)) := by
 refine TryzvcJ Tryz.func104 (by kernel_rfl) (by kernel_rfl) _ rfl (fun base K => vx104 m.agent m.try_ m.rel.id m.rep m.good a l c p base H K) fun base hb => fun b => ⟨_, _, _, hp, ?_⟩
 rfl
theorem cFar {H : Heap} {a : O} {l c : Nat} {ms : List Mail} (hx : Mails H a l ms) {p : Nat} {na : O} {nn nc : Nat} (hp : H.cell p 14 = some (.slice na nn nc)) : Spec Tryz.prog 103 [.slice a l c, .func (.func 104) #[] #[.pointer (some ⟨p, 0, none⟩)]] H fun r _ => r = .bool (farMail nn ms) := by
 have h188 : Spec Tryz.prog 188 [.slice a l c, .func (.func 104) #[] #[.pointer (some ⟨p, 0, none⟩)]] H fun r _ => r = i64 (mlIdx (fun m => decide ((nn : Int) <= m.agent)) 0 ms) := by
  refine TryzvcJ Tryz.func188 (by kernel_rfl) (by kernel_rfl) _ rfl (fun base K => vx188 a l c p base H K) fun base hb => ?_
  have hle := hx.le
  refine ⟨fun vs _ => ∃ (d : Int) (k : Nat), vs = [i64 d, i64 k]/\ k <= l/\ mlIdx (fun m => decide ((nn : Int) <= m.agent)) k (ms.drop k) = mlIdx (fun m => decide ((nn : Int) <= m.agent)) 0 ms, upTo l 1, ⟨0, 0, rfl, by omega, rfl⟩, fun d n H' hN hI => ?_⟩
  obtain ⟨d', k, hvs, hk, hI⟩ := hI
  obtain ⟨rfl, rfl⟩ : d = d'/\ n = (k : Int) := by simpa using hvs
  refine ⟨fun hlt => hx.mail hN.ext (by omega) hlt fun y ya yn yc hy hyp => (cFar1 (Heap.cell_next hN.ext hp) y ya yn yc).bool1 fun H2 e2 _ => ⟨fun he => ?_, fun he => ?_⟩, fun hge => ?_⟩
  ·rw [Int.toNat_natCast] at hy
   rw [drop_at hy, mlIdx, if_pos he] at hI
   rw [hI]
  ·rw [Int.toNat_natCast] at hy
   rw [drop_at hy, mlIdx, if_neg (by rw [he]; simp)] at hI
   rintro r rfl
   rw [wrap_in (by omega) (by omega)]
   exact ⟨⟨d, k + 1, rfl, by omega, hI⟩, by simp [upTo]; omega⟩
  ·rw [drop_all hx.len (by omega), mlIdx] at hI; rw [hI]
 refine TryzvcJ Tryz.func103 (by kernel_rfl) (by kernel_rfl) _ rfl (fun base K => vx103 a l c p base H K) fun base hb => ?_
 refine h188.int1 fun H' _ _ => ?_
 have := mlIdx_any (fun m => decide ((nn : Int) <= m.agent)) ms 0 (by omega)
 unfold farMail
 congr 1
 cases hany : ms.any (fun m => decide ((nn : Int) <= m.agent))
 ·rw [decide_eq_false (by rw [this, hany]; simp)]
 ·rw [decide_eq_true (this.2 hany)]
section
variable {H : Heap} (hL : Lb H)
include hL
theorem cCheck {w : Wld} {p : WA} (hw : WldAt H w p) : Spec Tryz.prog 31 [wldArg w p] H fun v _ => v = i64 (wldErr w) := by
 refine TryzvcJ Tryz.func31 (by kernel_rfl) (by kernel_rfl) _ rfl (fun base K => vx31 w.c.first.id w.c.bud p.fa p.ra p.wa p.fl p.fc p.rl p.rc p.wl p.wc w.h.l.now w.h.l.goal w.h.l.nx w.h.l.back p.la p.ka p.ll p.lc p.kl p.kc p.sa p.ta p.sl p.sc p.tl p.tc w.h.up p.na p.ma p.nl p.nc p.ml p.mc base H K) fun base hb => fun b => ?_
 have hnl := hw.nod.len
 have hle := hw.nod.le
 refine (cConfig hw.cfg).int1 fun H1 e1 hN1 => ⟨fun h1 => ?_, fun h1 => ?_⟩
 ·rw [wldErr, if_pos h1]
 have h1 := Decidable.not_not.1 h1
 refine (cAgents (hw.cfg.ext e1)).int1 fun H2 e2 hN2 => ⟨fun h2 => ?_, fun h2 => ?_⟩
 ·rw [wldErr, if_neg (by omega), if_pos (by omega)]
 have h2 := Decidable.not_not.1 h2
 refine (cWayCheck (Sl.ext RMail.mono hw.mail (Ext.trans e1 e2))).int1 fun H3 e3 hN3 => ⟨fun h3 => ?_, fun h3 => ?_⟩
 ·rw [wldErr, if_neg (by omega), if_neg (by omega), if_pos h3]
 have h3 := Decidable.not_not.1 h3
 have e13 := Ext.trans (Ext.trans e1 e2) e3
 refine ⟨rfl, fun Hl hNl hbx => ?_⟩
 refine (cFar (p := b) (na := p.na) (nn := p.nl) (nc := p.nc) (Sl.ext RMail.mono hw.mail (Ext.trans e13 hNl.ext)) (by unfold Heap.cell; rw [hbx.1]; rfl)).mono fun v H4 e4 hv => ?_
 refine ⟨_, hv, fun H5 hN5 _ => ⟨fun h4 => ?_, fun h4 => ?_⟩⟩
 ·rw [wldErr, if_neg (by omega), if_neg (by omega), if_neg (by omega), if_pos (by rw [hnl]; exact h4)]
 have e15 := Ext.trans e13 hN5.ext
 have hT := wldErr_tail h1 (by omega) h3 (by rw [hnl]; exact h4)
 refine (cCheckHead (hL.ext e15) (hw.ext e15)).int1 fun H6 e6 hN6 => ⟨fun h5 => ?_, fun h5 => ?_⟩
 ·rw [hT, if_pos h5]
 rw [if_neg h5] at hT
 refine ⟨fun vs _ => ∃ (d : Int) (k : Nat), vs = [i64 d, i64 k]/\ k <= p.nl/\ nodsErr w.c.first (w.n.drop k) = nodsErr w.c.first w.n, upTo p.nl 1, ⟨0, 0, rfl, by omega, rfl⟩, fun d n H7 hN7 hI => ?_⟩
 obtain ⟨d', k, hvs, hk, hI⟩ := hI
 obtain ⟨rfl, rfl⟩ : d = d'/\ n = (k : Int) := by simpa using hvs
 refine ⟨fun hlt => hw.nod.node hN7.ext (by omega) hlt fun x q hx hq => fun b3 => ?_, fun hge => ?_⟩
 ·rw [Int.toNat_natCast] at hx
  rw [drop_at hx, nodsErr] at hI
  refine (cCheckNode (hL.ext hN7.ext) (hw.ext hN7.ext) (hq.ext hN7.ext)).int1 fun H8 e8 _ => ⟨fun h6 => ?_, fun h6 => ?_⟩
  ·rw [hT, ← hI, if_pos h6]
  ·rw [if_neg h6] at hI
   rintro r rfl
   rw [wrap_in (by omega) (by omega)]
   exact ⟨rfl, ⟨d, k + 1, rfl, by omega, hI⟩, by simp [upTo]; omega⟩
 ·rw [hT, ← hI, drop_all hnl (by omega), nodsErr]
end
open Go Go.Proofs
theorem fresh_right {c : Conf} (h : cfgErr c = 0) : WRight (freshWld c) := by
 have hw := (waveCheck_zero (cfgErr_zero h).2.2.2.2.2.2)
 obtain ⟨e1, e2, e3, e4⟩ := DOk.nil.err
 have hlog : ∀ up, logOf dsk0 up = .ok [] := fun up => logOf_zero.2 ⟨e1, fun _ => e4, by rw [e2]; cases up <;> rfl⟩
 refine ⟨h, ?_, rfl, fun m hm => (by cases hm), hedErr_zero.1 ?_, fun n hn => nodErr_zero.1 ?_⟩
 ·show ((List.replicate (agentsOf c.waves).toNat (freshNod c.first)).length : Int) = agentsOf c.waves
  rw [List.length_replicate]; omega
 ·show hedErr c ⟨newLdr c, dsk0, true⟩ = 0
  unfold hedErr
  rw [hlog]
  have : ledReplay c [] = .ok (newLdr c) := by unfold ledReplay; rw [if_neg (by omega), if_neg (by simp)]; rfl
  dsimp only
  rw [this]
  dsimp only
  rw [if_pos rfl]
 ·obtain rfl := List.eq_of_mem_replicate hn
  show nodErr c.first ⟨newAgt c.first, dsk0, true⟩ = 0
  unfold nodErr
  rw [hlog]
  have hr := (cfgErr_zero h).1
  have : agtReplay c.first [] = .ok (newAgt c.first) := by unfold agtReplay; rw [if_neg (by omega), if_neg (by simp)]; rfl
  dsimp only
  rw [this]
  dsimp only
  rw [if_pos rfl]
theorem cS_ok : cfgErr cS = 0 := by decide +kernel
open Go Go.Proofs
def rolledS : Skl := (sRunFrom (freshSkl cS) rollS).1
def rollE : List Int := [0, 0, 7, 0, 0, 0, 0, 0, 0, 0, 0, 0, 0, 0, 0, 0, 0, 0, 0, 0, 0, 0]
theorem roll_said : (sRunFrom (freshSkl cS) rollS).2 = rollE := by decide +kernel
theorem roll_end : (decide (rolledS.l.now = 2) && decide (rolledS.l.goal = 0) && rolledS.m.isEmpty && (match rolledS.n[2]? with | some q => decide (q.a.at_ = 2) | none => false)) = true := by decide +kernel
theorem rolled_rel : SRel 22 (wRunFrom (freshWld cS) rollS).1 rolledS/\ (wRunFrom (freshWld cS) rollS).2 = rollE := by
 obtain ⟨h1, h2⟩ := SRel.run (l := rollS) (fresh_rel cS) (by decide)
 exact ⟨h1, h2.trans roll_said⟩
theorem rolled_run : runErr (freshWld cS) rollS = 0 := by
 unfold runErr
 rw [if_neg (by rw [wldErr_zero.2 (fresh_right cS_ok)]; simp), if_neg (by decide)]
theorem rolled_end : ∃ n, (wRunFrom (freshWld cS) rollS).1.h.l.now = 2/\ (wRunFrom (freshWld cS) rollS).1.h.l.goal = 0/\ (wRunFrom (freshWld cS) rollS).1.m = []/\ (wRunFrom (freshWld cS) rollS).1.n[2]? = some n/\ n.a.at_ = 2 := by
 have h := rolled_rel.1
 have e := roll_end
 simp only [Bool.and_eq_true, decide_eq_true_eq, List.isEmpty_iff] at e
 obtain ⟨⟨⟨e1, e2⟩, e3⟩, e4⟩ := e
 split at e4
 ·rename_i q hq
  obtain ⟨n, hn⟩ : ∃ n, (wRunFrom (freshWld cS) rollS).1.n[2]? = some n := ⟨_, List.getElem?_eq_getElem (by rw [h.n]; exact (List.getElem?_eq_some_iff.1 hq).1)⟩
  refine ⟨n, by rw [h.l]; exact e1, by rw [h.l]; exact e2, by rw [h.m]; exact e3, hn, ?_⟩
  rw [(h.at_ 2 n q hn hq).a]
  simpa using e4
 ·cases e4
open Go Go.Proofs
open Go.Value renaming int → I, slice → S, bool → B, agg → A, tuple → T, pointer → P, string → Str
open Go.IntKind renaming i64 → Z, wrap → W
open Go.Addr renaming mk → D
open Go.Vg.Bx renaming mk → J
open Go.Vg renaming Next → X, Spec → Y, SpecO → YO
open Go.Vg.Heap renaming cell → C
open Int renaming toNat → N
theorem vk26 (id bud : Int) (fa ra wa : O) (fl fc rl rc wl wc : Nat) (base : Nat) (H : Heap) (K : KT) :
 (fV TryzMutsK Tryz.f26 base H [.v (A #[I Z id, S fa fl fc, S ra rl rc, S wa wl wc, I Z bud])] [] K) = (
 (fun w6:LV=>∀ a b:Nat,Y Tryz.prog 86 w6 H fun c d =>∃ e g h i j k l m n o,(fun w5:LL=>∃ p,c = T #[A #[S e g h,I Z i,I Z j,B k,S l m n,I Z o],I Z p]/\ (X base H d->∀ q:Nat,(¬p = 0->K (T #[A #[I Z 0,S none 0 0,S none 0 0,S none 0 0,I Z 0,S none 0 0,I Z 0,I Z 0,B false,S none 0 0,I Z 0,S none 0 0,S none 0 0,B false,S none 0 0,S none 0 0],I Z p]) [] d)/\ (¬¬p = 0->(Y Tryz.prog 87 w6 d fun r s =>∃ t u v w x y z a1 b1 c1 d1,r = A #[I Z t,S u v w,S x y z,S a1 b1 c1,I Z d1]/\ (X base d s->∀ e1:Nat,Y Tryz.prog 88 w6 s fun f1 g1 =>∃ h1,f1 = I Z h1/\ (X base s g1->∃ (i1:NI) (j1:Nat),i1 j1 [I Z 0,A #[I Z t,S u v w,S x y z,S a1 b1 c1,I Z d1,S e g h,I Z i,I Z j,B k,S l m n,I Z o,S none 0 0,S none 0 0,B true,S none 0 0,S none 0 0]] g1/\ ∀ (k1:Nat) (l1 m1:Int) (n1:O) (o1 p1:Nat) (q1:O) (r1 s1:Nat) (t1:O) (u1 v1:Nat) (w1:Int) (x1:O) (y1 z1:Nat) (a2 b2:Int) (c2:Bool) (d2:O) (e2 f2:Nat) (g2:Int) (h2:O) (i2 j2:Nat) (k2:O) (l2 m2:Nat) (n2:Bool) (o2:O) (p2 q2:Nat) (r2:O) (s2 t2:Nat) (u2:Heap),(fun w3:AV=>X base H u2->i1 k1 [I Z l1,A w3] u2->(l1 < h1->Y Tryz.prog 89 [A #[I Z id,S fa fl fc]] u2 fun v2 w2 =>∃ x2 y2 z2 a3 b3 c3 d3 e3 f3 g3 h3 i3,v2 = T #[A #[S x2 y2 z2,I Z a3,I Z b3,B c3,I Z d3,S e3 f3 g3,B h3],I Z i3]/\ (X base u2 w2->∀ j3 k3:Nat,∃ l3:List Value,Row base w2 58 10 o2 p2 q2 l3/\ (p2 + 1) * 144 <= 140737488355328/\ p2 + 1 <= 9223372036854775807/\ ∀ (m3:O) (n3:Nat) (o3:Heap),Grew base w2 o3 o2 q2 m3 n3 (p2 + 1)->Row base o3 58 10 m3 (p2 + 1) n3 (l3 ++ [S x2 y2 z2,I Z a3,I Z b3,B c3,I Z d3,S e3 f3 g3,B h3,S none 0 0,S none 0 0,B true])->∀ p3:Int,p3 = W Z (l1 + 1)->w5 = w5/\ ∃ q3:Nat,q3 < k1/\ i1 q3 [I Z p3,A #[I Z m1,S n1 o1 p1,S q1 r1 s1,S t1 u1 v1,I Z w1,S x1 y1 z1,I Z a2,I Z b2,B c2,S d2 e2 f2,I Z g2,S h2 i2 j2,S k2 l2 m2,B n2,S m3 (p2 + 1) n3,S r2 s2 t2]] o3))/\ (¬l1 < h1->K (T #[A w3,I Z 0]) [] u2)) #[I Z m1,S n1 o1 p1,S q1 r1 s1,S t1 u1 v1,I Z w1,S x1 y1 z1,I Z a2,I Z b2,B c2,S d2 e2 f2,I Z g2,S h2 i2 j2,S k2 l2 m2,B n2,S o2 p2 q2,S r2 s2 t2])))/\ ∀ r:Nat,Y Tryz.prog 87 w6 d fun s t =>∃ u v w x y z a1 b1 c1 d1 e1,s =
 A #[I Z u,S v w x,S y z a1,S b1 c1 d1,I Z e1]/\ (X base d t->Y Tryz.prog 88 w6 t fun f1 g1 =>∃ h1,f1 = I Z h1/\ (X base t g1->∃ (i1:NI) (j1:Nat),i1 j1 [I Z 0,A #[I Z u,S v w x,S y z a1,S b1 c1 d1,I Z e1,S e g h,I Z i,I Z j,B k,S l m n,I Z o,S none 0 0,S none 0 0,B true,S none 0 0,S none 0 0]] g1/\ ∀ (k1:Nat) (l1 m1:Int) (n1:O) (o1 p1:Nat) (q1:O) (r1 s1:Nat) (t1:O) (u1 v1:Nat) (w1:Int) (x1:O) (y1 z1:Nat) (a2 b2:Int) (c2:Bool) (d2:O) (e2 f2:Nat) (g2:Int) (h2:O) (i2 j2:Nat) (k2:O) (l2 m2:Nat) (n2:Bool) (o2:O) (p2 q2:Nat) (r2:O) (s2 t2:Nat) (u2:Heap),(fun w4:AV=>X base H u2->i1 k1 [I Z l1,A w4] u2->(l1 < h1->Y Tryz.prog 89 [A #[I Z id,S fa fl fc]] u2 fun v2 w2 =>∃ x2 y2 z2 a3 b3 c3 d3 e3 f3 g3 h3 i3,v2 = T #[A #[S x2 y2 z2,I Z a3,I Z b3,B c3,I Z d3,S e3 f3 g3,B h3],I Z i3]/\ (X base u2 w2->∀ j3 k3:Nat,∃ l3:List Value,Row base w2 58 10 o2 p2 q2 l3/\ (p2 + 1) * 144 <= 140737488355328/\ p2 + 1 <= 9223372036854775807/\ ∀ (m3:O) (n3:Nat) (o3:Heap),Grew base w2 o3 o2 q2 m3 n3 (p2 + 1)->Row base o3 58 10 m3 (p2 + 1) n3 (l3 ++ [S x2 y2 z2,I Z a3,I Z b3,B c3,I Z d3,S e3 f3 g3,B h3,S none 0 0,S none 0 0,B true])->∀ p3:Int,p3 = W Z (l1 + 1)->w5 = w5/\ ∃ q3:Nat,q3 < k1/\ i1 q3 [I Z p3,A #[I Z m1,S n1 o1 p1,S q1 r1 s1,S t1 u1 v1,I Z w1,S x1 y1 z1,I Z a2,I Z b2,B c2,S d2 e2 f2,I Z g2,S h2 i2 j2,S k2 l2 m2,B n2,S m3 (p2 + 1) n3,S r2 s2 t2]] o3))/\ (¬l1 < h1->K (T #[A w4,I Z 0]) [] u2)) #[I Z m1,S n1 o1 p1,S q1 r1 s1,S t1 u1 v1,I Z w1,S x1 y1 z1,I Z a2,I Z b2,B c2,S d2 e2 f2,I Z g2,S h2 i2 j2,S k2 l2 m2,B n2,S o2 p2 q2,S r2 s2 t2]))))) [[I Z id,S fa fl fc,S ra rl rc,S wa wl wc,I Z bud],[I Z 0,S none 0 0,S none 0 0,S none 0 0,I Z 0,S none 0 0,I Z 0,I Z 0,B false,S none 0 0,I Z 0,S none 0 0,S none 0 0,B false,S none 0 0,S none 0 0],[S e g h,I Z i,I Z j,B k,S l m n,I Z o]]) [A #[I Z id,S fa fl fc,S ra rl rc,S wa wl wc,I Z bud]]) := by kernel_rfl
open Go Go.Proofs
theorem vx219 (sa ta : O) (sl sc tl tc : Nat) (kd ag rt n rid : Int) (rg : Bool) (qa : O) (ql qc : Nat) (base : Nat) (H : Heap) (K : KT) :
 (fV TryzMutsJ Tryz.f219 base H [.v (A #[S sa sl sc, S ta tl tc]), .v (A #[I Z kd, I Z ag, I Z rt, I Z n, B rg, I Z rid, S qa ql qc])] [] K) = (
 ∀ a b c:Nat,Y Tryz.prog 243 [A #[S sa sl sc,S ta tl tc],A #[I Z kd,I Z ag,I Z rt,I Z n,B rg,I Z rid,S qa ql qc]] H fun d e =>∃ g h i j k l m,d = T #[A #[S g h i,S j k l],I Z m]/\ (X base H e->(¬m = 0->K (T #[A #[S none 0 0,S none 0 0],I Z m]) [] e)/\ (¬¬m = 0->Y Tryz.prog 244 [A #[S g h i,S j k l]] e fun o p =>∃ q r s t u v w,o = T #[A #[S q r s,S t u v],I Z w]/\ (X base e p->K (T #[A #[S q r s,S t u v],I Z w]) [] p)))) := by kernel_rfl
theorem vx176 (b : Nat) (id bud : Int) (fa ra wa : O) (fl fc rl rc wl wc : Nat) (now goal nx : Int) (back : Bool) (la ka : O) (ll lc kl kc : Nat) (sa ta : O) (sl sc tl tc : Nat) (up : Bool) (na ma : O) (nl nc ml mc : Nat) (kd ag rt n rid : Int) (rg : Bool) (qa : O) (ql qc : Nat) (base : Nat) (H : Heap) (K : KT) :
 (fV TryzMutsJ Tryz.f176 base H [.loc 0 0, .v (A #[I Z kd, I Z ag, I Z rt, I Z n, B rg, I Z rid, S qa ql qc])] [⟨b, false, 41, [I Z id, S fa fl fc, S ra rl rc, S wa wl wc, I Z bud, S la ll lc, I Z now, I Z goal, B back, S ka kl kc, I Z nx, S sa sl sc, S ta tl tc, B up, S na nl nc, S ma ml mc]⟩] K) = (
 (fun w8:AV=>(fun w7:AV=>(fun w6:AV=>(fun w5:LL=>∀ a:Nat,(Y Tryz.prog 144 [A w8,A w7,A w6] H fun c d =>∃ e g h i j k l m o p q,c = T #[A #[S e g h,I Z i,I Z j,B k,S l m o,I Z p],I Z q]/\ (X base H d->∀ r:Nat,(¬q = 0->K (I Z q) w5 d)/\ (¬¬q = 0->(Y Tryz.prog 219 [A #[S sa sl sc,S ta tl tc],A w6] d fun s t =>∃ u v w x y z,(fun w1:LL=>∃ a1,s = T #[A #[S u v w,S x y z],I Z a1]/\ (X base d t->∀ b1:Nat,(a1 = 0->K (I Z a1) w1 t/\ K (I Z a1) w1 t)/\ (¬a1 = 0->K (I Z a1) w5 t))) [[I Z id,S fa fl fc,S ra rl rc,S wa wl wc,I Z bud,S e g h,I Z i,I Z j,B k,S l m o,I Z p,S u v w,S x y z,B up,S na nl nc,S ma ml mc]])/\ ∀ s:Nat,Y Tryz.prog 219 [A #[S sa sl sc,S ta tl tc],A w6] d fun t u =>∃ v w x y z a1,(fun w2:LL=>∃ b1,t = T #[A #[S v w x,S y z a1],I Z b1]/\ (X base d u->(b1 = 0->K (I Z b1) w2 u/\ K (I Z b1) w2 u)/\ (¬b1 = 0->K (I Z b1) w5 u))) [[I Z id,S fa fl fc,S ra rl rc,S wa wl wc,I Z bud,S e g h,I Z i,I Z j,B k,S l m o,I Z p,S v w x,S y z a1,B up,S na nl nc,S ma ml mc]])))/\ ∀ c:Nat,Y Tryz.prog 144 [A w8,A w7,A w6] H fun d e =>∃ g h i j k l m o p q r,d = T #[A #[S g h i,I Z j,I Z k,B l,S m o p,I Z q],I Z r]/\ (X base H e->(¬r = 0->K (I Z r) w5 e)/\ (¬¬r = 0->(Y Tryz.prog 219 [A #[S sa sl sc,S ta tl tc],A w6] e fun s t =>∃ u v w x y z,(fun w3:LL=>∃ a1,s = T #[A #[S u v w,S x y z],I Z a1]/\ (X base e t->∀ b1:Nat,(a1 = 0->K (I Z a1) w3 t/\ K (I Z a1) w3 t)/\ (¬a1 = 0->K (I Z a1) w5 t))) [[I Z id,S fa fl fc,S ra rl rc,S wa wl wc,I Z bud,S g h i,I Z j,I Z k,B l,S m o p,I Z q,S u v w,S x y z,B up,S na nl nc,S ma ml mc]])/\ ∀ s:Nat,Y Tryz.prog 219 [A #[S sa sl sc,S ta tl tc],A w6] e fun t u =>∃ v w x y z a1,(fun w4:LL=>∃ b1,t = T #[A #[S v w x,S y z a1],I Z b1]/\ (X base e u->(b1 = 0->K (I Z b1) w4 u/\ K (I Z b1) w4 u)/\ (¬b1 = 0->K (I Z b1) w5 u))) [[I Z id,S fa fl fc,S ra rl rc,S wa wl wc,I Z bud,S g h i,I Z j,I Z k,B l,S m o p,I Z q,S v w x,S y z a1,B up,S na nl nc,S ma ml mc]]))) [[I Z id,S fa fl fc,S ra rl rc,S wa wl wc,I Z bud,S la ll lc,I Z now,I Z goal,B back,S ka kl kc,I Z nx,S sa sl sc,S ta tl tc,B up,S na nl nc,S ma ml mc]]) #[I Z
 kd,I Z ag,I Z rt,I Z n,B rg,I Z rid,S qa ql qc]) #[S la ll lc,I Z now,I Z goal,B back,S ka kl kc,I Z nx]) #[I Z id,S fa fl fc,S ra rl rc,S wa wl wc,I Z bud]) := by kernel_rfl
theorem vx221 (b : Nat) (id bud : Int) (fa ra wa : O) (fl fc rl rc wl wc : Nat) (now goal nx : Int) (back : Bool) (la ka : O) (ll lc kl kc : Nat) (sa ta : O) (sl sc tl tc : Nat) (up : Bool) (na ma : O) (nl nc ml mc : Nat) (mg mt mid : Int) (mr mgd : Bool) (pa : O) (pl pc : Nat) (base : Nat) (H : Heap) (K : KT) :
 (fV TryzMutsJ Tryz.f221 base H [.loc 0 0, .v (A #[I Z mg, I Z mt, B mr, B mgd, I Z mid, S pa pl pc])] [⟨b, false, 41, [I Z id, S fa fl fc, S ra rl rc, S wa wl wc, I Z bud, S la ll lc, I Z now, I Z goal, B back, S ka kl kc, I Z nx, S sa sl sc, S ta tl tc, B up, S na nl nc, S ma ml mc]⟩] K) = (
 ∀ a:Nat,Y Tryz.prog 245 [S ma ml mc,A #[I Z mg,I Z mt,B mr,B mgd,I Z mid,S pa pl pc]] H fun c d =>∃ e g h i,c = T #[S e g h,I Z i]/\ (X base H d->(i = 0->K (T #[]) [[I Z id,S fa fl fc,S ra rl rc,S wa wl wc,I Z bud,S la ll lc,I Z now,I Z goal,B back,S ka kl kc,I Z nx,S sa sl sc,S ta tl tc,B up,S na nl nc,S e g h]] d)/\ (¬i = 0->K (T #[]) [[I Z id,S fa fl fc,S ra rl rc,S wa wl wc,I Z bud,S la ll lc,I Z now,I Z goal,B back,S ka kl kc,I Z nx,S sa sl sc,S ta tl tc,B up,S na nl nc,S ma ml mc]] d))) := by kernel_rfl
theorem vx180 (b : Nat) (id bud : Int) (fa ra wa : O) (fl fc rl rc wl wc : Nat) (now goal nx : Int) (back : Bool) (la ka : O) (ll lc kl kc : Nat) (sa ta : O) (sl sc tl tc : Nat) (up : Bool) (na ma : O) (nl nc ml mc : Nat) (k : Int) (base : Nat) (H : Heap) (K : KT) :
 (fV TryzMutsJ Tryz.f180 base H [.loc 0 0, .v (I Z k)] [⟨b, false, 41, [I Z id, S fa fl fc, S ra rl rc, S wa wl wc, I Z bud, S la ll lc, I Z now, I Z goal, B back, S ka kl kc, I Z nx, S sa sl sc, S ta tl tc, B up, S na nl nc, S ma ml mc]⟩] K) = (
 ∃ a c,na = some (D a c none)/\ 0 <= k/\ k < (nl:Int)/\ ∃ (d:O) (e g:Nat) (h i:Int) (j:Bool) (l:Int) (m:O) (n o:Nat) (p:Bool),(C H a (c + N k * 10) = some (S d e g)/\ C H a (c + N k * 10 + 1) = some (I Z h)/\ C H a (c + N k * 10 + 2) = some (I Z i)/\ C H a (c + N k * 10 + 3) = some (B j)/\ C H a (c + N k * 10 + 4) = some (I Z l)/\ C H a (c + N k * 10 + 5) = some (S m n o)/\ C H a (c + N k * 10 + 6) = some (B p)/\ True)/\ ∀ q:Nat,YO Tryz.prog 221 [P (some (D b 0 none)),A #[I Z k,I Z i,B true,B p,I Z 0,S none 0 0]] [J b false 41 [I Z id,S fa fl fc,S ra rl rc,S wa wl wc,I Z bud,S la ll lc,I Z now,I Z goal,B back,S ka kl kc,I Z nx,S sa sl sc,S ta tl tc,B up,S na nl nc,S ma ml mc]] H fun r s t =>r = T #[]/\ ∃ (u:Int) (v:O) (w x:Nat) (y:O) (z a1:Nat) (b1:O) (c1 d1:Nat) (e1:Int) (f1:O) (g1 h1:Nat) (i1 j1:Int) (k1:Bool) (l1:O) (m1 n1:Nat) (o1:Int) (p1:O) (q1 r1:Nat) (s1:O) (t1 u1:Nat) (v1:Bool) (w1:O) (x1 y1:Nat) (z1:O) (a2 b2:Nat),(fun w2:LL=>s = w2/\ (X base H t->K (T #[]) w2 t)) [[I Z u,S v w x,S y z a1,S b1 c1 d1,I Z e1,S f1 g1 h1,I Z i1,I Z j1,B k1,S l1 m1 n1,I Z o1,S p1 q1 r1,S s1 t1 u1,B v1,S w1 x1 y1,S z1 a2 b2]]) := by kernel_rfl
theorem vx177 (b : Nat) (id bud : Int) (fa ra wa : O) (fl fc rl rc wl wc : Nat) (now goal nx : Int) (back : Bool) (la ka : O) (ll lc kl kc : Nat) (sa ta : O) (sl sc tl tc : Nat) (up : Bool) (na ma : O) (nl nc ml mc : Nat) (hk hg hn : Int) (hgd : Bool) (ha : O) (hl hc : Nat) (base : Nat) (H : Heap) (K : KT) :
 (fV TryzMutsJ Tryz.f177 base H [.loc 0 0, .v (A #[I Z hk, I Z hg, I Z hn, B hgd, S ha hl hc])] [⟨b, false, 41, [I Z id, S fa fl fc, S ra rl rc, S wa wl wc, I Z bud, S la ll lc, I Z now, I Z goal, B back, S ka kl kc, I Z nx, S sa sl sc, S ta tl tc, B up, S na nl nc, S ma ml mc]⟩] K) = (
 (fun w11:LV=>(fun w10:LV=>(fun w9:LV=>∀ a:Nat,(Y Tryz.prog 220 w10 H fun c d =>∃ e g h i j k,c = T #[B e,A #[I Z g,S h i j],I Z k]/\ (X base H d->∀ l:Nat,(¬k = 0->K (I Z k) [w9] d)/\ (¬¬k = 0->(hk = 4->∃ m n,ka = some (D m n none)/\ 0 <= hg/\ hg < (kl:Int)/\ ∃ (o p:Int) (q:Bool),(C d m (n + N hg * 3) = some (I Z o)/\ C d m (n + N hg * 3 + 1) = some (I Z p)/\ C d m (n + N hg * 3 + 2) = some (B q)/\ True)/\ ∀ r:Nat,(¬o = 1->K (I Z 7) [w9] d)/\ (¬¬o = 1->∃ s,RunsTo Tryz.prog (binRun BinOp.neq 4 (Operand.tmp 54) (Operand.tmp 60) (B q) (B back)) (B s)/\ (s = true->K (I Z 7) [w9] d)/\ (¬s = true->YO Tryz.prog 221 [P (some (D b 0 none)),A #[I Z hg,I Z p,B false,B false,I Z g,S h i j]] [J b false 41 w9] d fun t u v =>t = T #[]/\ ∃ (w:Int) (x:O) (y z:Nat) (a1:O) (b1 c1:Nat) (d1:O) (e1 f1:Nat) (g1:Int) (h1:O) (i1 j1:Nat) (k1 l1:Int) (m1:Bool) (n1:O) (o1 p1:Nat) (q1:Int) (r1:O) (s1 t1:Nat) (u1:O) (v1 w1:Nat) (x1:Bool) (y1:O) (z1 a2:Nat) (b2:O) (c2 d2:Nat),(fun w3:LL=>u = w3/\ (X base d v->K (I Z 0) w3 v)) [[I Z w,S x y z,S a1 b1 c1,S d1 e1 f1,I Z g1,S h1 i1 j1,I Z k1,I Z l1,B m1,S n1 o1 p1,I Z q1,S r1 s1 t1,S u1 v1 w1,B x1,S y1 z1 a2,S b2 c2 d2]])))/\ (¬hk = 4->YO Tryz.prog 176 w11 [J b false 41 w9] d fun m n o =>∃ p,m = I Z p/\ ∃ (q:Int) (r:O) (s t:Nat) (u:O) (v w:Nat) (x:O) (y z:Nat) (a1:Int) (b1:O) (c1 d1:Nat) (e1 f1:Int) (g1:Bool) (h1:O) (i1 j1:Nat) (k1:Int) (l1:O) (m1 n1:Nat) (o1:O) (p1 q1:Nat) (r1:Bool) (s1:O) (t1 u1:Nat) (v1:O) (w1 x1:Nat),(fun w5:LV=>n = [w5]/\ (X base d o->(¬p = 0->K (I Z p) [w5] o)/\ (¬¬p = 0->YO Tryz.prog 221 [P (some (D b 0 none)),A #[I Z hg,I Z nx,B false,B false,I Z g,S h i j]] [J b false 41 w5] o fun y1 z1 a2 =>y1 = T #[]/\ ∃ (b2:Int) (c2:O) (d2 e2:Nat) (f2:O) (g2 h2:Nat) (i2:O) (j2 k2:Nat) (l2:Int) (m2:O) (n2 o2:Nat) (p2 q2:Int) (r2:Bool) (s2:O) (t2 u2:Nat) (v2:Int) (w2:O) (x2 y2:Nat) (z2:O) (a3 b3:Nat) (c3:Bool) (d3:O) (e3 f3:Nat) (g3:O) (h3 i3:Nat),(fun w4:LL=>z1 = w4/\ (X base o a2->K (I Z 0) w4 a2)) [[I Z b2,S c2 d2 e2,S f2 g2 h2,S i2 j2 k2,I Z l2,S m2 n2 o2,I Z p2,I Z q2,B r2,S s2 t2 u2,I Z v2,S w2
 x2 y2,S z2 a3 b3,B c3,S d3 e3 f3,S g3 h3 i3]]))) [I Z q,S r s t,S u v w,S x y z,I Z a1,S b1 c1 d1,I Z e1,I Z f1,B g1,S h1 i1 j1,I Z k1,S l1 m1 n1,S o1 p1 q1,B r1,S s1 t1 u1,S v1 w1 x1]))))/\ ∀ c:Nat,Y Tryz.prog 220 w10 H fun d e =>∃ g h i j k l,d = T #[B g,A #[I Z h,S i j k],I Z l]/\ (X base H e->(¬l = 0->K (I Z l) [w9] e)/\ (¬¬l = 0->(hk = 4->∃ m n,ka = some (D m n none)/\ 0 <= hg/\ hg < (kl:Int)/\ ∃ (o p:Int) (q:Bool),(C e m (n + N hg * 3) = some (I Z o)/\ C e m (n + N hg * 3 + 1) = some (I Z p)/\ C e m (n + N hg * 3 + 2) = some (B q)/\ True)/\ ∀ r:Nat,(¬o = 1->K (I Z 7) [w9] e)/\ (¬¬o = 1->∃ s,RunsTo Tryz.prog (binRun BinOp.neq 4 (Operand.tmp 54) (Operand.tmp 60) (B q) (B back)) (B s)/\ (s = true->K (I Z 7) [w9] e)/\ (¬s = true->YO Tryz.prog 221 [P (some (D b 0 none)),A #[I Z hg,I Z p,B false,B false,I Z h,S i j k]] [J b false 41 w9] e fun t u v =>t = T #[]/\ ∃ (w:Int) (x:O) (y z:Nat) (a1:O) (b1 c1:Nat) (d1:O) (e1 f1:Nat) (g1:Int) (h1:O) (i1 j1:Nat) (k1 l1:Int) (m1:Bool) (n1:O) (o1 p1:Nat) (q1:Int) (r1:O) (s1 t1:Nat) (u1:O) (v1 w1:Nat) (x1:Bool) (y1:O) (z1 a2:Nat) (b2:O) (c2 d2:Nat),(fun w6:LL=>u = w6/\ (X base e v->K (I Z 0) w6 v)) [[I Z w,S x y z,S a1 b1 c1,S d1 e1 f1,I Z g1,S h1 i1 j1,I Z k1,I Z l1,B m1,S n1 o1 p1,I Z q1,S r1 s1 t1,S u1 v1 w1,B x1,S y1 z1 a2,S b2 c2 d2]])))/\ (¬hk = 4->YO Tryz.prog 176 w11 [J b false 41 w9] e fun m n o =>∃ p,m = I Z p/\ ∃ (q:Int) (r:O) (s t:Nat) (u:O) (v w:Nat) (x:O) (y z:Nat) (a1:Int) (b1:O) (c1 d1:Nat) (e1 f1:Int) (g1:Bool) (h1:O) (i1 j1:Nat) (k1:Int) (l1:O) (m1 n1:Nat) (o1:O) (p1 q1:Nat) (r1:Bool) (s1:O) (t1 u1:Nat) (v1:O) (w1 x1:Nat),(fun w8:LV=>n = [w8]/\ (X base e o->(¬p = 0->K (I Z p) [w8] o)/\ (¬¬p = 0->YO Tryz.prog 221 [P (some (D b 0 none)),A #[I Z hg,I Z nx,B false,B false,I Z h,S i j k]] [J b false 41 w8] o fun y1 z1 a2 =>y1 = T #[]/\ ∃ (b2:Int) (c2:O) (d2 e2:Nat) (f2:O) (g2 h2:Nat) (i2:O) (j2 k2:Nat) (l2:Int) (m2:O) (n2 o2:Nat) (p2 q2:Int) (r2:Bool) (s2:O) (t2 u2:Nat) (v2:Int) (w2:O) (x2 y2:Nat) (z2:O) (a3 b3:Nat) (c3:Bool) (d3:O) (e3 f3:Nat) (g3:O) (h3 i3:Nat),(fun
 w7:LL=>z1 = w7/\ (X base o a2->K (I Z 0) w7 a2)) [[I Z b2,S c2 d2 e2,S f2 g2 h2,S i2 j2 k2,I Z l2,S m2 n2 o2,I Z p2,I Z q2,B r2,S s2 t2 u2,I Z v2,S w2 x2 y2,S z2 a3 b3,B c3,S d3 e3 f3,S g3 h3 i3]]))) [I Z q,S r s t,S u v w,S x y z,I Z a1,S b1 c1 d1,I Z e1,I Z f1,B g1,S h1 i1 j1,I Z k1,S l1 m1 n1,S o1 p1 q1,B r1,S s1 t1 u1,S v1 w1 x1])))) [I Z id,S fa fl fc,S ra rl rc,S wa wl wc,I Z bud,S la ll lc,I Z now,I Z goal,B back,S ka kl kc,I Z nx,S sa sl sc,S ta tl tc,B up,S na nl nc,S ma ml mc]) [A #[I Z id,S fa fl fc,S ra rl rc,S wa wl wc,I Z bud],A #[S la ll lc,I Z now,I Z goal,B back,S ka kl kc,I Z nx],I Z hg]) [P (some (D b 0 none)),A #[I Z 6,I Z hg,I Z nx,I Z 0,B false,I Z 0,S none 0 0]]) := by kernel_rfl
open Go Go.Proofs
theorem Spec.frame {P : Program} {f : FuncId} {args : List Value} {G H : Heap} {Q : Value->Heap->Prop} (h : Spec P f args G Q) (e : Ext G H) :
  Spec P f args H fun v H' => ∃ G', Ext G G'/\ Ext G' H'/\ (∀ x k, G' x = some k->G x = none->H x = none)/\ Q v G' := fun w hw hb => by
 refine (h w (hw.sub e) ⟨fun x hx => (by cases hx), fun x hx => (by cases hx), by simp⟩).mono fun en w' he => ?_
 obtain ⟨v, css, G', h1, h2, hB, hs, hbx, hN, hQ⟩ := he
 have hnew : ∀ x k, G' x = some k->G x = none->H x = none := fun x k hx hn => by
  have h0 := hN.fresh x k hx hn
  cases hh : H x with
  | none => rfl
  | some k' => have := hw.lt hh; omega
 refine ⟨v, css, H.plus G', h1, h2, hB, fun x k hx => ?_, ⟨fun y hy => (by cases css <;> cases hy), fun y hy => (by cases css <;> cases hy), by cases css <;> simp [setAll]⟩, ⟨plus_left, fun x k hx hn => ?_⟩, G', hN.ext, plus_right fun x k hx k' hh => ?_, hnew, hQ⟩
 ·unfold Heap.plus at hx
  cases hh : H x with
  | some k' =>
   rw [hh] at hx
   obtain rfl := Option.some.inj hx
   rw [hB.block x (hw.lt hh) (by simp)]
   exact hw x _ hh
  | none => rw [hh] at hx; exact hs x k hx
 ·unfold Heap.plus at hx
  rw [hn] at hx
  cases hg : G x with
  | none => exact hN.fresh x k hx hg
  | some k' => rw [e x k' hg] at hn; cases hn
 ·cases hg : G x with
  | none => rw [hnew x k hx hg] at hh; cases hh
  | some k0 =>
   have a1 := hN.ext x k0 hg
   have a2 := e x k0 hg
   rw [hx] at a1
   rw [hh] at a2
   rw [Option.some.inj a2, ← Option.some.inj a1]
open Go Go.Proofs
theorem SpecO.frame {P : Program} {f : FuncId} {args : List Value} {own : List Bx} {G H : Heap} {Q : Value->List (List Value)->Heap->Prop} (h : SpecO P f args own G Q) (e : Ext G H) :
  SpecO P f args own H fun v css H' => ∃ G', Ext G G'/\ Ext G' H'/\ Ext H H'/\ (∀ x k, G' x = some k->G x = none->H x = none)/\ Q v css G' := fun w hw hb => by
 have hid : ∀ x ∈ own, G x.b = none := fun x hx => by
  cases hg : G x.b with
  | none => rfl
  | some k => have := hb.hid x hx; rw [e _ k hg] at this; cases this
 refine (h w (hw.sub e) ⟨hb.ok, hid, hb.apart⟩).mono fun en w' he => ?_
 obtain ⟨v, css, G', h1, h2, hB, hs, hbx, hN, hQ⟩ := he
 have hnew : ∀ x k, G' x = some k->G x = none->H x = none := fun x k hx hn => by
  have h0 := hN.fresh x k hx hn
  cases hh : H x with
  | none => rfl
  | some k' => have := hw.lt hh; omega
 have hown : ∀ x k, H x = some k->x ∉ own.map Bx.b := fun x k hx hm => by
  obtain ⟨y, hy, rfl⟩ := List.mem_map.1 hm
  rw [hb.hid y hy] at hx; cases hx
 have hsetb : ∀ y ∈ setAll own css, y.b ∈ own.map Bx.b := by
  have key : ∀ (xs : List Bx) (cs : List (List Value)), ∀ y ∈ setAll xs cs, y.b ∈ xs.map Bx.b := by
   intro xs
   induction xs with
   | nil => intro cs y hy; cases cs <;> cases hy
   | cons x r ih =>
    intro cs y hy
    cases cs with
    | nil => cases hy
    | cons c cs =>
     rcases List.mem_cons.1 hy with rfl | hy
     ·simp [Bx.set]
     ·exact List.mem_cons_of_mem _ (ih cs y hy)
  exact key own css
 refine ⟨v, css, H.plus G', h1, h2, hB, fun x k hx => ?_, ⟨hbx.ok, fun y hy => ?_, hbx.apart⟩, ⟨plus_left, fun x k hx hn => ?_⟩, G', hN.ext, plus_right fun x k hx k' hh => ?_, plus_left, hnew, hQ⟩
 ·unfold Heap.plus at hx
  cases hh : H x with
  | some k' =>
   rw [hh] at hx
   obtain rfl := Option.some.inj hx
   rw [hB.block x (hw.lt hh) (hown x _ hh)]
   exact hw x _ hh
  | none => rw [hh] at hx; exact hs x k hx
 ·have h3 := hbx.hid y hy
  obtain ⟨z, hz, hzy⟩ := List.mem_map.1 (hsetb y hy)
  have h4 := hb.hid z hz
  rw [hzy] at h4
  unfold Heap.plus
  rw [h4]; exact h3
 ·unfold Heap.plus at hx
  rw [hn] at hx
  cases hg : G x with
  | none => exact hN.fresh x k hx hg
  | some k' => rw [e x k' hg] at hn; cases hn
 ·cases hg : G x with
  | none => rw [hnew x k hx hg] at hh; cases hh
  | some k0 =>
   have a1 := hN.ext x k0 hg
   have a2 := e x k0 hg
   rw [hx] at a1
   rw [hh] at a2
   rw [Option.some.inj a2, ← Option.some.inj a1]
def lookB (own : List Bx) (x : Nat) : Option KB := (own.find? fun y => y.b == x).map fun y => boxKB y.ty y.cs
def seenBy (own : List Bx) (a : Nat) (H : Heap) : Heap := fun x => if x = a then none else match H x with | some k => some k | none => lookB own x
def unseen (own : List Bx) (H : Heap) : Heap := fun x => match lookB own x with | some _ => none | none => H x
theorem lookB_mem {own : List Bx} {x : Nat} {k : KB} (h : lookB own x = some k) : ∃ y ∈ own, y.b = x/\ k = boxKB y.ty y.cs := by
 unfold lookB at h
 cases hf : own.find? (fun y => y.b == x) with
 | none => rw [hf] at h; cases h
 | some y =>
  rw [hf] at h
  have := List.find?_some hf
  exact ⟨y, List.mem_of_find?_eq_some hf, by simpa using this, (Option.some.inj h).symm⟩
theorem lookB_none {own : List Bx} {x : Nat} (h : lookB own x = none) : ∀ y ∈ own, y.b ≠ x := fun y hy e => by
 unfold lookB at h
 rw [Option.map_eq_none_iff, List.find?_eq_none] at h
 exact h y hy (by simpa using e)
theorem lookB_of {own : List Bx} (hn : (own.map Bx.b).Nodup) {y : Bx} (hy : y ∈ own) : lookB own y.b = some (boxKB y.ty y.cs) := by
 cases h : lookB own y.b with
 | none => exact absurd rfl (lookB_none h y hy)
 | some k =>
  obtain ⟨z, hz, hzb, rfl⟩ := lookB_mem h
  have : z = y := by
   have key : ∀ (l : List Bx), (l.map Bx.b).Nodup->z ∈ l->y ∈ l->z = y := by
    intro l
    induction l with
    | nil => intro _ h; cases h
    | cons x r ih =>
     intro hn hz hy
     rw [List.map_cons, List.nodup_cons] at hn
     rcases List.mem_cons.1 hz with e1 | hz
     ·rcases List.mem_cons.1 hy with e2 | hy
      ·rw [e1, e2]
      ·exact absurd (List.mem_map_of_mem (f := Bx.b) hy) (by rw [← hzb, e1]; exact hn.1)
     ·rcases List.mem_cons.1 hy with e2 | hy
      ·exact absurd (List.mem_map_of_mem (f := Bx.b) hz) (by rw [hzb, e2]; exact hn.1)
      ·exact ih hn.2 hz hy
   exact key own hn hz hy
  rw [this]
theorem seenBy_ext {own : List Bx} {a : Nat} {H : Heap} (h : H a = none) : Ext H (seenBy own a H) := fun x k hx => by
 unfold seenBy
 rw [if_neg (fun e => by rw [e, h] at hx; cases hx), hx]
theorem unseen_sub {own : List Bx} {H : Heap} : Ext (unseen own H) H := fun x k h => by
 unfold unseen at h
 split at h
 ·cases h
 ·exact h
theorem box_sees {y : Bx} {w : World} (h : y.ok w) (hm : y.map = false) : (boxKB y.ty y.cs).sees w.heap[y.b]? := by
 unfold Bx.ok at h
 rw [hm] at h
 exact ⟨_, _, h, by simp [boxKB], fun _ => rfl, fun j v hj => by simpa [boxKB] using hj⟩
theorem sees_box {y : Bx} {w : World} (h : (boxKB y.ty y.cs).sees w.heap[y.b]?) (hm : y.map = false) : y.ok w := by
 obtain ⟨cur, fr, h1, h2, h3, h4⟩ := h
 unfold Bx.ok
 rw [hm]
 show w.heap[y.b]? = some (.cells y.cs.toArray y.ty (0, 0))
 rw [h1, h3 rfl]
 have e : cur = y.cs.toArray := by
  apply Array.ext
  ·rw [h2]; simp [boxKB]
  ·intro j hj1 hj2
   have := h4 j (y.cs[j]'(by simpa using hj2)) (by simp [boxKB])
   rw [Array.getElem?_eq_getElem hj1] at this
   simpa using Option.some.inj this
 rw [e]; rfl
def patchW (own : List Bx) (w0 w : World) : World := { w0 with heap := Array.ofFn (n := w0.heap.size) fun k => if own.any (fun y => y.b == k.val) then (w.heap[k.val]?).getD w0.heap[k] else w0.heap[k] }
theorem patch_size {own : List Bx} {w0 w : World} : (patchW own w0 w).heap.size = w0.heap.size := by simp [patchW]
theorem patch_other {own : List Bx} {w0 w : World} {k : Nat} (h : ∀ y ∈ own, y.b ≠ k) : (patchW own w0 w).heap[k]? = w0.heap[k]? := by
 have hf : own.any (fun y => y.b == k) = false := by
  rw [List.any_eq_false]; intro y hy; simpa using h y hy
 rcases Nat.lt_or_ge k w0.heap.size with hk | hk
 ·rw [Array.getElem?_eq_getElem (by rw [patch_size]; exact hk), Array.getElem?_eq_getElem hk]
  simp only [patchW, Array.getElem_ofFn, hf, Bool.false_eq_true, if_false]
  rfl
 ·rw [Array.getElem?_eq_none (by rw [patch_size]; exact hk), Array.getElem?_eq_none hk]
theorem patch_box {own : List Bx} {w0 w : World} {k : Nat} {y : Bx} (hy : y ∈ own) (hb : y.b = k) (hk : k < w0.heap.size) (hle : w0.heap.size <= w.heap.size) : (patchW own w0 w).heap[k]? = w.heap[k]? := by
 have hf : own.any (fun y => y.b == k) = true := List.any_eq_true.2 ⟨y, hy, by simpa using hb⟩
 rw [Array.getElem?_eq_getElem (by rw [patch_size]; exact hk), Array.getElem?_eq_getElem (Nat.lt_of_lt_of_le hk hle)]
 simp only [patchW, Array.getElem_ofFn, hf, if_true]
 rw [Array.getElem?_eq_getElem (Nat.lt_of_lt_of_le hk hle)]; rfl
theorem local_run {P : Program} {muts : Muts} (hin : InlOk P muts) {C : Cfg} {w0 : World} {own0 : List Nat} {own : List Bx} {H : Heap} {w : World} (hw : StW C w0 own0 own H w) {i : Nat} {X : Bx} (hX : own[i]? = some X) (hm : ∀ y ∈ own, y.map = false)
  {g : FuncId} {pre : List SV} (hwf : ∀ s ∈ pre, SV.wf 1 s) {R : Nat->Prop} (hR : ∀ y ∈ own, ¬ R y.b) {post : Value->List Value->Heap->Prop}
  (h : ∀ H0, ∃ q, muts.inl C.base H0 g pre [X] (seenBy own X.b H) (fun s own1 H1 => ∃ cs', own1[0]? = some (X.set cs')/\ (∀ x k, seenBy own X.b H x = some k->¬ R x->H1 x = some k)/\ post (s.val own1) cs' H1) = some q/\ q) :
  Calls P g (pre.map (SV.val [X])).toArray w fun e w' => ∃ v cs' H1, e = .returned v/\ post v cs' H1/\ (∀ x k, seenBy own X.b H x = some k->¬ R x->H1 x = some k)/\ H1 X.b = none/\ StW C w0 own0 (own.set i (X.set cs')) (unseen own H1) w' := by
 have hXm := List.mem_of_getElem? hX
 have hle : w0.heap.size <= w.heap.size := hw.below.size
 have hHX : H X.b = none := hw.boxes.hid X hXm
 have hC0 : ∀ y ∈ own, C.H0 y.b = none := fun y hy => by
  cases hc : C.H0 y.b with
  | none => rfl
  | some k => have := hw.boxes.hid y hy; rw [hw.next.ext _ k hc] at this; cases this
 let H0p : Heap := fun x => match C.H0 x with | some k => some k | none => if x < C.base/\ x ≠ X.b then lookB own x else none
 obtain ⟨q, hq, hqq⟩ := h H0p
 obtain ⟨_, hcall⟩ := hin _ _ _ _ _ _ _ _ hq
 let C' : Cfg := { C with H0 := H0p }
 have hH0p : ∀ x k, H0p x = some k->C.H0 x = some k ∨ (C.H0 x = none/\ x < C.base/\ x ≠ X.b/\ lookB own x = some k) := fun x k hx => by
  simp only [H0p] at hx
  cases hc : C.H0 x with
  | some k' => rw [hc] at hx; exact .inl hx
  | none =>
   rw [hc] at hx
   simp only at hx
   split at hx
   ·rename_i hcond; exact .inr ⟨rfl, hcond.1, hcond.2, hx⟩
   ·cases hx
 have hseen : Sees (seenBy own X.b H) w := fun x k hx => by
  unfold seenBy at hx
  split at hx
  ·cases hx
  ·split at hx
   ·rename_i k' hk
    obtain rfl := Option.some.inj hx
    exact hw.sees x _ hk
   ·obtain ⟨y, hy, rfl, rfl⟩ := lookB_mem hx
    exact box_sees (hw.boxes.ok y hy) (hm y hy)
 have hst : StW C' (patchW own w0 w) own0 [X] (seenBy own X.b H) w := by
  refine ⟨hseen, ⟨fun y hy => ?_, fun y hy => ?_, by simp⟩, fun y hy => ?_, ⟨hw.below.os, hw.below.tape, hw.below.output, by rw [patch_size]; exact hle, fun k hk hn => ?_⟩, ⟨fun x k hx => ?_, fun x k hx hn => ?_⟩, ?_, fun x k hx => ?_⟩
  ·obtain rfl : y = X := by simpa using hy
   exact hw.boxes.ok _ hXm
  ·obtain rfl : y = X := by simpa using hy
   unfold seenBy; rw [if_pos rfl]
  ·obtain rfl : y = X := by simpa using hy
   exact hw.locs _ hXm
  ·rw [patch_size] at hk
   by_cases hb : ∃ y ∈ own, y.b = k
   ·obtain ⟨y, hy, hyb⟩ := hb
    rw [patch_box hy hyb hk hle]
   ·rw [patch_other fun y hy e => hb ⟨y, hy, e⟩]
    exact hw.below.block k hk hn
  ·rcases hH0p x k hx with hx | ⟨hc, hlt, hne, hx⟩
   ·exact seenBy_ext hHX x k (hw.next.ext x k hx)
   ·unfold seenBy
    rw [if_neg hne]
    obtain ⟨y, hy, rfl, rfl⟩ := lookB_mem hx
    rw [hw.boxes.hid y hy]; exact hx
  ·have hn' : C.H0 x = none := by
    cases hc : C.H0 x with
    | none => rfl
    | some k' => have hn : H0p x = none := hn; simp only [H0p, hc] at hn; cases hn
   unfold seenBy at hx
   split at hx
   ·cases hx
   ·rename_i hne
    split at hx
    ·rename_i k' hk
     exact hw.next.fresh x _ hk hn'
    ·rcases Nat.lt_or_ge x C.base with hlt | hge
     ·have hn : H0p x = none := hn
      simp only [H0p, hn', if_pos (And.intro hlt hne)] at hn
      rw [hn] at hx; cases hx
     ·exact hge
  ·show C.base = _
   rw [patch_size]; exact hw.base
  ·rcases hH0p x k hx with hx | ⟨hc, hlt, hne, hx⟩
   ·have hno : ∀ y ∈ own, y.b ≠ x := fun y hy e => by rw [← e, hC0 y hy] at hx; cases hx
    rw [patch_other hno]
    exact hw.seen0 x k hx
   ·obtain ⟨y, hy, rfl, rfl⟩ := lookB_mem hx
    rw [patch_box hy rfl (by rw [← hw.base]; exact hlt) hle]
    exact box_sees (hw.boxes.ok y hy) (hm y hy)
 refine (hcall hqq C' (patchW own w0 w) own0 w rfl rfl hst hwf).mono fun e w' he => ?_
 obtain ⟨v, own1, H1, rfl, hf, hext, hw'⟩ := he
 obtain ⟨cs', h0, hkeep, hpost⟩ := hf
 have h0m := List.mem_of_getElem? h0
 have hH1X : H1 X.b = none := by simpa [Bx.set] using hw'.boxes.hid _ h0m
 refine ⟨v, cs', H1, rfl, hpost, hkeep, hH1X, ?_⟩
 have hXl := (List.getElem?_eq_some_iff.1 hX).1
 have hmem : ∀ y ∈ own.set i (X.set cs'), y = X.set cs' ∨ (y ∈ own/\ y.b ≠ X.b) := fun y hy => by
  obtain ⟨j, hj⟩ := List.mem_iff_getElem?.1 hy
  rw [List.getElem?_set] at hj
  split at hj
  ·rename_i e
   subst e
   first | rw [if_pos hXl] at hj | skip
   exact .inl (Option.some.inj hj).symm
  ·rename_i hne
   have hym := List.mem_of_getElem? hj
   refine .inr ⟨hym, fun e => hne ?_⟩
   have hnd := hw.boxes.apart
   have hj1 : (own.map Bx.b)[j]? = some X.b := by rw [List.getElem?_map, hj]; simp [e]
   have hi1 : (own.map Bx.b)[i]? = some X.b := by rw [List.getElem?_map, hX]; rfl
   obtain ⟨hjl, hj2⟩ := List.getElem?_eq_some_iff.1 hj1
   obtain ⟨hil, hi2⟩ := List.getElem?_eq_some_iff.1 hi1
   have hpw := List.pairwise_iff_getElem.1 hnd
   rcases Nat.lt_trichotomy i j with c | c | c
   ·exact absurd (hi2.trans hj2.symm) (hpw i j hil hjl c)
   ·exact c
   ·exact absurd (hj2.trans hi2.symm) (hpw j i hjl hil c)
 have hbs : (own.set i (X.set cs')).map Bx.b = own.map Bx.b := by
  apply List.ext_getElem?
  intro j
  rw [List.getElem?_map, List.getElem?_set, List.getElem?_map]
  split
  ·rename_i e
   subst e
   first | rw [if_pos hXl] | skip
   rw [hX]; rfl
  ·rfl
 refine ⟨fun x k hx => hw'.sees x k (unseen_sub x k hx), ⟨fun y hy => ?_, fun y hy => ?_, by rw [hbs]; exact hw.boxes.apart⟩, fun y hy => ?_, ⟨hw'.below.os, hw'.below.tape, hw'.below.output, by have := hw'.below.size; rw [patch_size] at this; exact this, fun k hk hn => ?_⟩, ⟨fun x k hx => ?_, fun x k hx hn => ?_⟩, hw.base, hw.seen0⟩
 ·rcases hmem y hy with rfl | ⟨hy, hne⟩
  ·exact hw'.boxes.ok _ h0m
  ·have h1 : seenBy own X.b H y.b = some (boxKB y.ty y.cs) := by
    unfold seenBy
    rw [if_neg hne, hw.boxes.hid y hy]
    exact lookB_of hw.boxes.apart hy
   exact sees_box (hw'.sees _ _ (hkeep _ _ h1 (hR y hy))) (hm y hy)
 ·have hy' : ∃ z ∈ own, z.b = y.b := by
   rcases hmem y hy with rfl | ⟨hy, _⟩
   ·exact ⟨X, hXm, rfl⟩
   ·exact ⟨y, hy, rfl⟩
  obtain ⟨z, hz, hzy⟩ := hy'
  unfold unseen
  rw [← hzy, lookB_of hw.boxes.apart hz]
 ·rcases hmem y hy with rfl | ⟨hy, _⟩
  ·exact hw.locs X hXm
  ·exact hw.locs y hy
 ·have h1 := hw'.below.block k (by rw [patch_size]; exact hk) hn
  rw [h1]
  by_cases hb : ∃ y ∈ own, y.b = k
  ·obtain ⟨y, hy, hyb⟩ := hb
   rw [patch_box hy hyb hk hle]
   exact hw.below.block k hk hn
  ·rw [patch_other fun y hy e => hb ⟨y, hy, e⟩]
 ·have hno : lookB own x = none := by
   cases hl : lookB own x with
   | none => rfl
   | some k' =>
    obtain ⟨y, hy, rfl, _⟩ := lookB_mem hl
    rw [hC0 y hy] at hx; cases hx
  unfold unseen
  rw [hno]
  refine hw'.next.ext x k ?_
  show H0p x = some k
  simp only [H0p, hx]
 ·unfold unseen at hx
  split at hx
  ·cases hx
  ·rename_i hl
   refine hw'.next.fresh x k hx ?_
   show H0p x = none
   simp only [H0p, hn, hl, ite_self]
theorem local_run0 {P : Program} {muts : Muts} (hin : InlOk P muts) {C : Cfg} {w0 : World} {own0 : List Nat} {own : List Bx} {H : Heap} {w : World} (hw : StW C w0 own0 own H w) (hm : ∀ y ∈ own, y.map = false)
  {g : FuncId} {pre : List SV} (hwf : ∀ s ∈ pre, SV.wf 0 s) {R : Nat->Prop} (hR : ∀ y ∈ own, ¬ R y.b) {post : Value->Heap->Prop}
  (h : ∀ H0, ∃ q, muts.inl C.base H0 g pre [] (seenBy own w.heap.size H) (fun s own1 H1 => (∀ x k, seenBy own w.heap.size H x = some k->¬ R x->H1 x = some k)/\ post (s.val own1) H1) = some q/\ q) :
  Calls P g (pre.map (SV.val [])).toArray w fun e w' => ∃ v H1, e = .returned v/\ post v H1/\ (∀ x k, seenBy own w.heap.size H x = some k->¬ R x->H1 x = some k)/\ StW C w0 own0 own (unseen own H1) w' := by
 have hle : w0.heap.size <= w.heap.size := hw.below.size
 have hlt : ∀ y ∈ own, y.b ≠ w.heap.size := fun y hy e => by have := Bx.ok_lt (hw.boxes.ok y hy); omega
 have hHX : H w.heap.size = none := by
  cases hh : H w.heap.size with
  | none => rfl
  | some k => have := hw.sees.lt hh; omega
 have hC0 : ∀ y ∈ own, C.H0 y.b = none := fun y hy => by
  cases hc : C.H0 y.b with
  | none => rfl
  | some k => have := hw.boxes.hid y hy; rw [hw.next.ext _ k hc] at this; cases this
 let H0p : Heap := fun x => match C.H0 x with | some k => some k | none => if x < C.base then lookB own x else none
 obtain ⟨q, hq, hqq⟩ := h H0p
 obtain ⟨_, hcall⟩ := hin _ _ _ _ _ _ _ _ hq
 let C' : Cfg := { C with H0 := H0p }
 have hH0p : ∀ x k, H0p x = some k->C.H0 x = some k ∨ (C.H0 x = none/\ x < C.base/\ lookB own x = some k) := fun x k hx => by
  simp only [H0p] at hx
  cases hc : C.H0 x with
  | some k' => rw [hc] at hx; exact .inl hx
  | none =>
   rw [hc] at hx
   simp only at hx
   split at hx
   ·rename_i hcond; exact .inr ⟨rfl, hcond, hx⟩
   ·cases hx
 have hseen : Sees (seenBy own w.heap.size H) w := fun x k hx => by
  unfold seenBy at hx
  split at hx
  ·cases hx
  ·split at hx
   ·rename_i k' hk
    obtain rfl := Option.some.inj hx
    exact hw.sees x _ hk
   ·obtain ⟨y, hy, rfl, rfl⟩ := lookB_mem hx
    exact box_sees (hw.boxes.ok y hy) (hm y hy)
 have hst : StW C' (patchW own w0 w) own0 [] (seenBy own w.heap.size H) w := by
  refine ⟨hseen, ⟨fun y hy => (by cases hy), fun y hy => (by cases hy), by simp⟩, fun y hy => (by cases hy), ⟨hw.below.os, hw.below.tape, hw.below.output, by rw [patch_size]; exact hle, fun k hk hn => ?_⟩, ⟨fun x k hx => ?_, fun x k hx hn => ?_⟩, ?_, fun x k hx => ?_⟩
  ·rw [patch_size] at hk
   by_cases hb : ∃ y ∈ own, y.b = k
   ·obtain ⟨y, hy, hyb⟩ := hb
    rw [patch_box hy hyb hk hle]
   ·rw [patch_other fun y hy e => hb ⟨y, hy, e⟩]
    exact hw.below.block k hk hn
  ·rcases hH0p x k hx with hx | ⟨hc, hlt', hx⟩
   ·exact seenBy_ext hHX x k (hw.next.ext x k hx)
   ·unfold seenBy
    obtain ⟨y, hy, rfl, rfl⟩ := lookB_mem hx
    rw [if_neg (hlt y hy), hw.boxes.hid y hy]; exact hx
  ·have hn' : C.H0 x = none := by
    cases hc : C.H0 x with
    | none => rfl
    | some k' => have hn : H0p x = none := hn; simp only [H0p, hc] at hn; cases hn
   unfold seenBy at hx
   split at hx
   ·cases hx
   ·split at hx
    ·rename_i k' hk
     exact hw.next.fresh x _ hk hn'
    ·rcases Nat.lt_or_ge x C.base with hlt' | hge
     ·have hn : H0p x = none := hn
      simp only [H0p, hn', if_pos hlt'] at hn
      rw [hn] at hx; cases hx
     ·exact hge
  ·show C.base = _
   rw [patch_size]; exact hw.base
  ·rcases hH0p x k hx with hx | ⟨hc, hlt', hx⟩
   ·have hno : ∀ y ∈ own, y.b ≠ x := fun y hy e => by rw [← e, hC0 y hy] at hx; cases hx
    rw [patch_other hno]
    exact hw.seen0 x k hx
   ·obtain ⟨y, hy, rfl, rfl⟩ := lookB_mem hx
    rw [patch_box hy rfl (by rw [← hw.base]; exact hlt') hle]
    exact box_sees (hw.boxes.ok y hy) (hm y hy)
 refine (hcall hqq C' (patchW own w0 w) own0 w rfl rfl hst hwf).mono fun e w' he => ?_
 obtain ⟨v, own1, H1, rfl, hf, hext, hw'⟩ := he
 obtain ⟨hkeep, hpost⟩ := hf
 refine ⟨v, H1, rfl, hpost, hkeep, fun x k hx => hw'.sees x k (unseen_sub x k hx), ⟨fun y hy => ?_, fun y hy => ?_, hw.boxes.apart⟩, hw.locs, ⟨hw'.below.os, hw'.below.tape, hw'.below.output, by have := hw'.below.size; rw [patch_size] at this; exact this, fun k hk hn => ?_⟩, ⟨fun x k hx => ?_, fun x k hx hn => ?_⟩, hw.base, hw.seen0⟩
 ·have h1 : seenBy own w.heap.size H y.b = some (boxKB y.ty y.cs) := by
   unfold seenBy
   rw [if_neg (hlt y hy), hw.boxes.hid y hy]
   exact lookB_of hw.boxes.apart hy
  exact sees_box (hw'.sees _ _ (hkeep _ _ h1 (hR y hy))) (hm y hy)
 ·unfold unseen
  rw [lookB_of hw.boxes.apart hy]
 ·have h1 := hw'.below.block k (by rw [patch_size]; exact hk) hn
  rw [h1]
  by_cases hb : ∃ y ∈ own, y.b = k
  ·obtain ⟨y, hy, hyb⟩ := hb
   rw [patch_box hy hyb hk hle]
   exact hw.below.block k hk hn
  ·rw [patch_other fun y hy e => hb ⟨y, hy, e⟩]
 ·have hno : lookB own x = none := by
   cases hl : lookB own x with
   | none => rfl
   | some k' =>
    obtain ⟨y, hy, rfl, _⟩ := lookB_mem hl
    rw [hC0 y hy] at hx; cases hx
  unfold unseen
  rw [hno]
  refine hw'.next.ext x k ?_
  show H0p x = some k
  simp only [H0p, hx]
 ·unfold unseen at hx
  split at hx
  ·cases hx
  ·rename_i hl
   refine hw'.next.fresh x k hx ?_
   show H0p x = none
   simp only [H0p, hn, hl, ite_self]
theorem unseen_keep {own : List Bx} {H H1 : Heap} {a : Nat} (hid : ∀ y ∈ own, H y.b = none) (ha : H a = none) {x : Nat} {k : KB} (hx : H x = some k) (h : seenBy own a H x = some k->H1 x = some k) : unseen own H1 x = some k := by
 unfold unseen
 cases hl : lookB own x with
 | some k' =>
  obtain ⟨y, hy, rfl, _⟩ := lookB_mem hl
  rw [hid y hy] at hx; cases hx
 | none => exact h (seenBy_ext ha x k hx)
open Go Go.Proofs
structure Parts (H : Heap) (w : Wld) (p : WA) : Prop where
 cfg : CfgAt H w.c p.fa p.fl p.ra p.rl p.wa p.wl
 ldr : LdrAt H w.h.l p.la p.ll p.ka p.kl
 dsk : DskAt H w.h.d p.sa p.sl p.sc p.ta p.tl p.tc
 mail : Mails H p.ma p.ml w.m
theorem Parts.ext {H H' : Heap} {w : Wld} {p : WA} (h : Parts H w p) (e : Ext H H') : Parts H' w p := ⟨h.cfg.ext e, h.ldr.ext e, h.dsk.ext e, Sl.ext RMail.mono h.mail e⟩
def Out (w : Wld) (p : WA) (x : Except Int Wld) (v : Value) (css : List (List Value)) (G' : Heap) : Prop :=
 ∃ p' : WA, v = i64 (errOf x)/\ css = [wldCells (orSame w x) p']/\ Parts G' (orSame w x) p'/\ p'.na = p.na/\ p'.nl = p.nl/\ p'.nc = p.nc/\ (orSame w x).n = w.n
def POut (w : Wld) (p : WA) (y : Wld) (v : Value) (css : List (List Value)) (G' : Heap) : Prop :=
 ∃ p' : WA, v = .tuple #[]/\ css = [wldCells y p']/\ Parts G' y p'/\ p'.na = p.na/\ p'.nl = p.nl/\ p'.nc = p.nc/\ y.n = w.n
theorem Out.bad {w : Wld} {p : WA} {G' : Heap} {x : Except Int Wld} {e : Int} (hx : x = .error e) (h : Parts G' w p) : Out w p x (i64 e) [wldCells w p] G' := by
 subst hx
 exact ⟨p, rfl, rfl, h, rfl, rfl, rfl, rfl⟩
theorem wld16 {css : List (List Value)} {w : Wld} {p : WA} (hc : css = [wldCells w p]) {F : Int->O->Nat->Nat->O->Nat->Nat->O->Nat->Nat->Int->O->Nat->Nat->Int->Int->Bool->O->Nat->Nat->Int->O->Nat->Nat->O->Nat->Nat->Bool->O->Nat->Nat->O->Nat->Nat->Prop} (h : F w.c.first.id p.fa p.fl p.fc p.ra p.rl p.rc p.wa p.wl p.wc w.c.bud p.la p.ll p.lc w.h.l.now w.h.l.goal w.h.l.back p.ka p.kl p.kc w.h.l.nx p.sa p.sl p.sc p.ta p.tl p.tc w.h.up p.na p.nl p.nc p.ma p.ml p.mc) :
  ∃ i1 : Int, ∃ a2 : O, ∃ l2 : Nat, ∃ c2 : Nat, ∃ a3 : O, ∃ l3 : Nat, ∃ c3 : Nat, ∃ a4 : O, ∃ l4 : Nat, ∃ c4 : Nat, ∃ i5 : Int, ∃ a6 : O, ∃ l6 : Nat, ∃ c6 : Nat, ∃ i7 : Int, ∃ i8 : Int, ∃ b9 : Bool, ∃ a10 : O, ∃ l10 : Nat, ∃ c10 : Nat, ∃ i11 : Int, ∃ a12 : O, ∃ l12 : Nat, ∃ c12 : Nat, ∃ a13 : O, ∃ l13 : Nat, ∃ c13 : Nat, ∃ b14 : Bool, ∃ a15 : O, ∃ l15 : Nat, ∃ c15 : Nat, ∃ a16 : O, ∃ l16 : Nat, ∃ c16 : Nat, css = [[.int .i64 i1, .slice a2 l2 c2, .slice a3 l3 c3, .slice a4 l4 c4, .int .i64 i5, .slice a6 l6 c6, .int .i64 i7, .int .i64 i8, .bool b9, .slice a10 l10 c10, .int .i64 i11, .slice a12 l12 c12, .slice a13 l13 c13, .bool b14, .slice a15 l15 c15, .slice a16 l16 c16]]/\ F i1 a2 l2 c2 a3 l3 c3 a4 l4 c4 i5 a6 l6 c6 i7 i8 b9 a10 l10 c10 i11 a12 l12 c12 a13 l13 c13 b14 a15 l15 c15 a16 l16 c16 :=
 ⟨_, _, _, _, _, _, _, _, _, _, _, _, _, _, _, _, _, _, _, _, _, _, _, _, _, _, _, _, _, _, _, _, _, _, hc, h⟩
theorem dskPut_err {d : Dsk} {r : Recd} {e : Int} (h : dskPut d r = .error e) : e ≠ 0 := by
 rintro rfl
 unfold dskPut at h
 split at h
 ·split at h
  ·split at h
   ·cases h
   ·cases h
  ·rename_i h1; injection h with h; exact h1 h
 ·rename_i h1; injection h with h; exact h1 h
theorem dskSync_err {d : Dsk} {e : Int} (h : dskSync d = .error e) : e ≠ 0 := by
 rintro rfl
 unfold dskSync at h
 split at h
 ·split at h
  ·cases h
  ·rename_i h1; injection h with h; exact h1 h
 ·rename_i h1; injection h with h; exact h1 h
theorem dskSafe_err {d : Dsk} {r : Recd} {e : Int} (h : dskSafe d r = .error e) : e ≠ 0 := by
 unfold dskSafe at h
 cases hp : dskPut d r with
 | error e' =>
  rw [hp] at h
  injection h with h
  exact h ▸ dskPut_err hp
 | ok x => rw [hp] at h; exact dskSync_err h
theorem wLead_err {w : Wld} {r : Recd} {e : Int} (h : wLead w r = .error e) : e ≠ 0 := by
 unfold wLead at h
 split at h
 ·rename_i hn; injection h with h; exact h ▸ hn
 ·cases hd : dskSafe w.h.d r with
  | error e' =>
   rw [hd] at h
   injection h with h
   exact h ▸ dskSafe_err hd
  | ok d => rw [hd] at h; cases h
theorem Spec.dskS {P : Program} {f : FuncId} {args : List Value} {H : Heap} {d : Dsk} {e : Int} (h : Spec P f args H fun v H' => ∃ sa sl sc ta tl tc, v = .tuple #[dskArg sa sl sc ta tl tc, i64 e]/\ DskAt H' d sa sl sc ta tl tc) {base : Nat} {G : O->Nat->Nat->O->Nat->Nat->Int->Heap->Prop}
  (hG : ∀ sa sn sc wa wn wc H', Ext H H'->Vg.Next base H H'->DskAt H' d sa sn sc wa wn wc->G sa sn sc wa wn wc e H') :
  Spec P f args H fun v H' => ∃ (sa : O) (sn sc : Nat) (wa : O) (wn wc : Nat) (e : Int), v = .tuple #[.agg #[.slice sa sn sc, .slice wa wn wc], .int .i64 e]/\ (Vg.Next base H H'->G sa sn sc wa wn wc e H') :=
 h.mono fun v H' ex hv => by
  obtain ⟨sa, sn, sc, wa, wn, wc, h1, h2⟩ := hv
  exact ⟨_, _, _, _, _, _, _, h1, fun hN => hG _ _ _ _ _ _ H' ex hN h2⟩
section
variable {H : Heap} (hL : Lb H)
include hL
theorem cSafe {sa ta qa : O} {sl sc tl tc ql qc : Nat} {d : Dsk} {r : Recd} (hd : DskAt H d sa sl sc ta tl tc) (hr : Pins H qa ql r.rel.lock) : Spec Tryz.prog 219 [dskArg sa sl sc ta tl tc, recArg r qa ql qc] H fun v H' => ∃ sa sl sc ta tl tc, v = .tuple #[dskArg sa sl sc ta tl tc, i64 (errOf (dskSafe d r))]/\ DskAt H' (dskGet (dskSafe d r)) sa sl sc ta tl tc := by
 refine TryzvcJ Tryz.func219 (by kernel_rfl) (by kernel_rfl) _ rfl (fun base K => vx219 sa ta sl sc tl tc r.kind r.agent r.try_ r.num r.rel.id r.good qa ql qc base H K) fun base hb => fun b b' b'' => ?_
 refine (cPut hL hd hr).dsk fun a n c a1 n1 c1 H1 e1 hN1 hD => ⟨fun h => ?_, fun h => ?_⟩
 ·cases hp : dskPut d r with
  | ok x => rw [hp] at h; exact absurd rfl h
  | error e =>
   have : dskSafe d r = .error e := by unfold dskSafe; rw [hp]
   rw [this]
   exact ⟨none, 0, 0, none, 0, 0, rfl, DskAt.zero⟩
 ·cases hp : dskPut d r with
  | error e => rw [hp] at h; exact absurd (Decidable.not_not.1 h) (dskPut_err hp)
  | ok x =>
   rw [hp] at hD
   have : dskSafe d r = dskSync x := by unfold dskSafe; rw [hp]
   rw [this]
   refine (cSync (hL.ext e1) (DskAt.ext hD newOf_ext)).dsk fun a2 n2 c2 a3 n3 c3 H2 e2 hN2 hD2 => ?_
   exact ⟨_, _, _, _, _, _, rfl, hD2.ext newOf_ext⟩
theorem cLeads {w : Wld} {p : WA} (hw : Parts H w p) {r : Recd} {qa : O} {ql qc : Nat} (hr : Pins H qa ql r.rel.lock) (b : Nat) : SpecO Tryz.prog 176 [.pointer (some ⟨b, 0, none⟩), recArg r qa ql qc] [⟨b, false, 41, wldCells w p⟩] H (Out w p (wLead w r)) := by
 refine TryzvcO Tryz.func176 (by kernel_rfl) (own := [⟨b, false, 41, wldCells w p⟩]) (args := [.loc 0 0, .v (recArg r qa ql qc)]) (by kernel_rfl) (by intro s hs; simp at hs; rcases hs with rfl | rfl <;> simp [SV.wf]) _ (fun base K => vx176 b w.c.first.id w.c.bud p.fa p.ra p.wa p.fl p.fc p.rl p.rc p.wl p.wc w.h.l.now w.h.l.goal w.h.l.nx w.h.l.back p.la p.ka p.ll p.lc p.kl p.kc p.sa p.ta p.sl p.sc p.tl p.tc w.h.up p.na p.ma p.nl p.nc p.ml p.mc r.kind r.agent r.try_ r.num r.rel.id r.good qa ql qc base H K) fun base hb => fun b1 => ?_
 have bad : ∀ {H' : Heap}, Ext H H'->ledErr w.c w.h.l r ≠ 0->Out w p (wLead w r) (i64 (ledErr w.c w.h.l r)) [wldCells w p] H' := fun e h => Out.bad (by unfold wLead; rw [if_pos h]) (hw.ext e)
 have good : ∀ {H1 H2 : Heap} (e1 : Ext H H1) (e2 : Ext H1 H2) {la ka : O} {ll lc kl kc : Nat} {sa ta : O} {sl sc tl tc : Nat}, ledErr w.c w.h.l r = 0->LdrAt H1 (ledV w.c w.h.l r) la ll ka kl->DskAt H2 (dskGet (dskSafe w.h.d r)) sa sl sc ta tl tc->
   (errOf (dskSafe w.h.d r) = 0->Out w p (wLead w r) (i64 (errOf (dskSafe w.h.d r))) [[.int .i64 w.c.first.id, .slice p.fa p.fl p.fc, .slice p.ra p.rl p.rc, .slice p.wa p.wl p.wc, .int .i64 w.c.bud, .slice la ll lc, .int .i64 (ledV w.c w.h.l r).now, .int .i64 (ledV w.c w.h.l r).goal, .bool (ledV w.c w.h.l r).back, .slice ka kl kc, .int .i64 (ledV w.c w.h.l r).nx, .slice sa sl sc, .slice ta tl tc, .bool w.h.up, .slice p.na p.nl p.nc, .slice p.ma p.ml p.mc]] H2) /\ 
   (¬errOf (dskSafe w.h.d r) = 0->Out w p (wLead w r) (i64 (errOf (dskSafe w.h.d r))) [wldCells w p] H2) := by
  intro H1 H2 e1 e2 la ka ll lc kl kc sa ta sl sc tl tc h hA hD
  have hV : ledV w.c w.h.l r = ledNext w.h.l r := by unfold ledV; rw [if_pos h]
  rw [hV] at hA ⊢
  cases hd : dskSafe w.h.d r with
  | error e =>
   have hX : wLead w r = .error e := by unfold wLead; rw [if_neg (by omega), hd]
   refine ⟨fun h0 => absurd h0 (dskSafe_err hd), fun _ => ?_⟩
   exact Out.bad hX (hw.ext (Ext.trans e1 e2))
  | ok d =>
   have hX : wLead w r = .ok { w with h := ⟨ledNext w.h.l r, d, w.h.up⟩ } := by unfold wLead; rw [if_neg (by omega), hd]
   refine ⟨fun _ => ?_, fun h0 => absurd rfl h0⟩
   rw [hd] at hD
   rw [hX]
   exact ⟨{ p with la := la, ll := ll, lc := lc, ka := ka, kl := kl, kc := kc, sa := sa, sl := sl, sc := sc, ta := ta, tl := tl, tc := tc }, rfl, rfl, ⟨(hw.ext (Ext.trans e1 e2)).cfg, hA.ext e2, hD, (hw.ext (Ext.trans e1 e2)).mail⟩, rfl, rfl, rfl, rfl⟩
 refine ⟨?_, fun b2 => ?_⟩
 ·refine (cNextL hw.cfg hw.ldr hr).ldr fun la ll lc ka kl kc H1 e1 hN1 hA => fun b3 => ⟨fun h => bad e1 h, fun h => ⟨?_, fun b4 => ?_⟩⟩
  ·refine Spec.dskS (cSafe (hL.ext e1) (hw.dsk.ext e1) (hr.ext' e1)) fun sa sl sc ta tl tc H2 e2 hN2 hD => fun b5 => ?_
   obtain ⟨g1, g2⟩ := good e1 e2 (lc := lc) (kc := kc) (Decidable.not_not.1 h) hA hD
   exact ⟨fun h0 => ⟨g1 h0, g1 h0⟩, g2⟩
  ·refine Spec.dskS (cSafe (hL.ext e1) (hw.dsk.ext e1) (hr.ext' e1)) fun sa sl sc ta tl tc H2 e2 hN2 hD => ?_
   obtain ⟨g1, g2⟩ := good e1 e2 (lc := lc) (kc := kc) (Decidable.not_not.1 h) hA hD
   exact ⟨fun h0 => ⟨g1 h0, g1 h0⟩, g2⟩
 ·refine (cNextL hw.cfg hw.ldr hr).ldr fun la ll lc ka kl kc H1 e1 hN1 hA => ⟨fun h => bad e1 h, fun h => ⟨?_, fun b4 => ?_⟩⟩
  ·refine Spec.dskS (cSafe (hL.ext e1) (hw.dsk.ext e1) (hr.ext' e1)) fun sa sl sc ta tl tc H2 e2 hN2 hD => fun b5 => ?_
   obtain ⟨g1, g2⟩ := good e1 e2 (lc := lc) (kc := kc) (Decidable.not_not.1 h) hA hD
   exact ⟨fun h0 => ⟨g1 h0, g1 h0⟩, g2⟩
  ·refine Spec.dskS (cSafe (hL.ext e1) (hw.dsk.ext e1) (hr.ext' e1)) fun sa sl sc ta tl tc H2 e2 hN2 hD => ?_
   obtain ⟨g1, g2⟩ := good e1 e2 (lc := lc) (kc := kc) (Decidable.not_not.1 h) hA hD
   exact ⟨fun h0 => ⟨g1 h0, g1 h0⟩, g2⟩
end
theorem cPost {H : Heap} {w : Wld} {p : WA} (hw : Parts H w p) {m : Mail} {a : O} {l c : Nat} (hm : Pins H a l m.rel.lock) (b : Nat) : SpecO Tryz.prog 221 [.pointer (some ⟨b, 0, none⟩), mailArg m a l c] [⟨b, false, 41, wldCells w p⟩] H (POut w p (wPost w m)) := by
 refine TryzvcO Tryz.func221 (by kernel_rfl) (own := [⟨b, false, 41, wldCells w p⟩]) (args := [.loc 0 0, .v (mailArg m a l c)]) (by kernel_rfl) (by intro s hs; simp at hs; rcases hs with rfl | rfl <;> simp [SV.wf]) _ (fun base K => vx221 b w.c.first.id w.c.bud p.fa p.ra p.wa p.fl p.fc p.rl p.rc p.wl p.wc w.h.l.now w.h.l.goal w.h.l.nx w.h.l.back p.la p.ka p.ll p.lc p.kl p.kc p.sa p.ta p.sl p.sc p.tl p.tc w.h.up p.na p.ma p.nl p.nc p.ml p.mc m.agent m.try_ m.rel.id m.rep m.good a l c base H K) fun base hb => fun b1 => ?_
 refine (cSend hw.mail m hm).sl2 fun a1 n1 c1 H1 e1 hN1 hS => ⟨fun h => ?_, fun h => ?_⟩
 ·rw [if_pos h] at hS
  have hX : wPost w m = { w with m := sent w.m m } := by unfold wPost; rw [if_pos h]
  rw [hX]
  exact ⟨{ p with ma := a1, ml := n1, mc := c1 }, rfl, rfl, ⟨(hw.ext e1).cfg, (hw.ext e1).ldr, (hw.ext e1).dsk, hS.2⟩, rfl, rfl, rfl, rfl⟩
 ·have hX : wPost w m = w := by unfold wPost; rw [if_neg h]
  rw [hX]
  exact ⟨p, rfl, rfl, hw.ext e1, rfl, rfl, rfl, rfl⟩
structure Grown (G H G' H' : Heap) : Prop where
 ext : Ext G G'
 sub : Ext G' H'
 keep : Ext H H'
 away : ∀ x k, G' x = some k->G x = none->H x = none
theorem Grown.trans {G H G' H' G'' H'' : Heap} (h : Grown G H G' H') (k : Grown G' H' G'' H'') : Grown G H G'' H'' := ⟨Ext.trans h.ext k.ext, k.sub, Ext.trans h.keep k.keep, fun x y hx hn => by
 cases hg : G' x with
 | some z => exact h.away x z hg hn
 | none =>
  have h1 := k.away x y hx hg
  cases hh : H x with
  | none => rfl
  | some z => rw [h.keep x z hh] at h1; cases h1⟩
theorem SpecO.grown {P : Program} {f : FuncId} {args : List Value} {own : List Bx} {G H : Heap} {Q : Value->List (List Value)->Heap->Prop} (h : SpecO P f args own G Q) (e : Ext G H) :
  SpecO P f args own H fun v css H' => ∃ G', Grown G H G' H'/\ Q v css G' := (h.frame e).mono fun v css H' _ ⟨G', h1, h2, h3, h4, h5⟩ => ⟨G', ⟨h1, h2, h3, h4⟩, h5⟩
theorem Spec.grown {P : Program} {f : FuncId} {args : List Value} {G H : Heap} {Q : Value->Heap->Prop} (h : Spec P f args G Q) (e : Ext G H) :
  Spec P f args H fun v H' => ∃ G', Grown G H G' H'/\ Q v G' := (h.frame e).mono fun v H' e' ⟨G', h1, h2, h4, h5⟩ => ⟨G', ⟨h1, h2, e', h4⟩, h5⟩
theorem Sl.nodeA {H H' : Heap} {a : O} {n : Nat} {xs : List Nod} (h : Nods H a n xs) (e : Ext H H') {k : Int} (h0 : 0 <= k) (h1 : k < n) {F : O->Nat->Nat->Int->Int->Bool->Int->O->Nat->Nat->Bool->Prop}
  (hF : ∀ x q, xs[k.toNat]? = some x->NodAt H x q->F q.xa q.xl q.xc x.a.at_ x.a.try_ x.a.going x.a.goal.id q.ga q.gl q.gc x.a.good) :
  ∃ (b o : Nat), a = some ⟨b, o, none⟩/\ 0 <= k/\ k < n/\ ∃ (a : O) (n2 c : Nat) (n3 n4 : Int) (b2 : Bool) (n5 : Int) (a1 : O) (n6 c1 : Nat) (b3 : Bool),
   (H'.cell b (o + k.toNat * 10) = some (.slice a n2 c)/\ H'.cell b (o + k.toNat * 10 + 1) = some (.int .i64 n3)/\ H'.cell b (o + k.toNat * 10 + 2) = some (.int .i64 n4)/\ H'.cell b (o + k.toNat * 10 + 3) = some (.bool b2)/\ H'.cell b (o + k.toNat * 10 + 4) = some (.int .i64 n5)/\ H'.cell b (o + k.toNat * 10 + 5) = some (.slice a1 n6 c1)/\ H'.cell b (o + k.toNat * 10 + 6) = some (.bool b3)/\ True)/\ F a n2 c n3 n4 b2 n5 a1 n6 c1 b3 := by
 obtain ⟨b, o, r, x, ha, hx, hr, hc⟩ := h.get h0 h1
 obtain ⟨q, rfl, hq⟩ := hr
 have g : ∀ j v, (nodCells x q)[j]? = some v->H'.cell b (o + k.toNat * 10 + j) = some v := fun j v hj => Heap.cell_next e (hc j v hj)
 exact ⟨b, o, ha, h0, h1, _, _, _, _, _, _, _, _, _, _, _, ⟨g 0 _ rfl, g 1 _ rfl, g 2 _ rfl, g 3 _ rfl, g 4 _ rfl, g 5 _ rfl, g 6 _ rfl, trivial⟩, hF x q hx hq⟩
theorem cReport {G H : Heap} (e : Ext G H) {w : Wld} {p : WA} (hw : Parts G w p) (hn : Nods H p.na p.nl w.n) {k : Int} (h0 : 0 <= k) (h1 : k < p.nl) (b : Nat) : SpecO Tryz.prog 180 [.pointer (some ⟨b, 0, none⟩), .int .i64 k] [⟨b, false, 41, wldCells w p⟩] H fun v css H' => ∃ G', Grown G H G' H'/\ POut w p (wReport w k.toNat) v css G' := by
 refine TryzvcO Tryz.func180 (by kernel_rfl) (own := [⟨b, false, 41, wldCells w p⟩]) (args := [.loc 0 0, .v (.int .i64 k)]) (by kernel_rfl) (by intro s hs; simp at hs; rcases hs with rfl | rfl <;> simp [SV.wf]) _ (fun base K => vx180 b w.c.first.id w.c.bud p.fa p.ra p.wa p.fl p.fc p.rl p.rc p.wl p.wc w.h.l.now w.h.l.goal w.h.l.nx w.h.l.back p.la p.ka p.ll p.lc p.kl p.kc p.sa p.ta p.sl p.sc p.tl p.tc w.h.up p.na p.ma p.nl p.nc p.ml p.mc k base H K) fun base hb => ?_
 refine hn.nodeA (Ext.refl _) h0 h1 fun x q hx hq => fun b1 => ?_
 have hX : wReport w k.toNat = wPost w (repMail k.toNat x.a) := by unfold wReport; rw [hx]
 have hm : repMail k.toNat x.a = ⟨k, x.a.try_, true, x.a.good, ⟨0, []⟩⟩ := by unfold repMail; rw [Int.toNat_of_nonneg h0]
 rw [hX, hm]
 refine ((cPost hw (m := ⟨k, x.a.try_, true, x.a.good, ⟨0, []⟩⟩) (a := none) (l := 0) (c := 0) Sl.nil b).grown e).mono fun v css H1 e1 hv => ?_
 obtain ⟨G', hG, p', hv, hcss, hP, n1, n2, n3, n4⟩ := hv
 exact ⟨hv, wld16 hcss fun _ => ⟨G', hG, p', hv ▸ rfl, rfl, hP, n1, n2, n3, n4⟩⟩
section
variable {H : Heap} (hL : Lb H)
include hL
theorem cTell {w : Wld} {p : WA} (hw : Parts H w p) {x : Hap} {a : O} {l c : Nat} (b : Nat) : SpecO Tryz.prog 177 [.pointer (some ⟨b, 0, none⟩), .agg #[.int .i64 x.kind, .int .i64 x.agent, .int .i64 x.num, .bool x.good, .slice a l c]] [⟨b, false, 41, wldCells w p⟩] H (Out w p (wTell w x)) := by
 refine TryzvcO Tryz.func177 (by kernel_rfl) (own := [⟨b, false, 41, wldCells w p⟩]) (args := [.loc 0 0, .v (.agg #[.int .i64 x.kind, .int .i64 x.agent, .int .i64 x.num, .bool x.good, .slice a l c])]) (by kernel_rfl) (by intro s hs; simp at hs; rcases hs with rfl | rfl <;> simp [SV.wf]) _ (fun base K => vx177 b w.c.first.id w.c.bud p.fa p.ra p.wa p.fl p.fc p.rl p.rc p.wl p.wc w.h.l.now w.h.l.goal w.h.l.nx w.h.l.back p.la p.ka p.ll p.lc p.kl p.kc p.sa p.ta p.sl p.sc p.tl p.tc w.h.up p.na p.ma p.nl p.nc p.ml p.mc x.kind x.agent x.num x.good a l c base H K) fun base hb => fun b1 => ?_
 have hkl := hw.ldr.ags.len
 have posted : ∀ {y : Wld} {p1 : WA} {H1 : Heap} (m : Mail) {qa : O} {ql qc : Nat}, Parts H1 y p1->Pins H1 qa ql m.rel.lock->p1.na = p.na/\ p1.nl = p.nl/\ p1.nc = p.nc->y.n = w.n->wTell w x = .ok (wPost y m)->
   SpecO Tryz.prog 221 [.pointer (some ⟨b, 0, none⟩), mailArg m qa ql qc] [⟨b, false, 41, wldCells y p1⟩] H1 fun v css H' => v = .tuple #[]/\ Out w p (wTell w x) (i64 0) css H' := by
  intro y p1 H1 m qa ql qc hy hq hp1 hyn hT
  refine (cPost hy hq b).mono fun v css H2 e2 hv => ?_
  obtain ⟨p', hv, hcss, hP, n1, n2, n3, n4⟩ := hv
  rw [hT]
  exact ⟨hv, p', rfl, hcss, hP, n1.trans hp1.1, n2.trans hp1.2.1, n3.trans hp1.2.2, n4.trans hyn⟩
 have tail : ∀ {H1 : Heap} (e1 : Ext H H1) {qa : O} {ql : Nat}, turnErr w.c w.h.l x.agent = 0->Pins H1 qa ql (turnRel w.c w.h.l x.agent).lock->∀ a1, w.h.l.ags[x.agent.toNat]? = some a1->x.kind = 4->
   (¬a1.st = 1->Out w p (wTell w x) (i64 7) [wldCells w p] H1)/\ ((a1.back != w.h.l.back) = true->Out w p (wTell w x) (i64 7) [wldCells w p] H1)/\ (a1.st = 1->¬(a1.back != w.h.l.back) = true->wTell w x = .ok (wPost w ⟨x.agent, a1.try_, false, false, turnRel w.c w.h.l x.agent⟩)) := by
  intro H1 e1 qa ql hT hq a1 ha hk
  have hE : wTell w x = if a1.st ≠ 1 ∨ a1.back ≠ w.h.l.back then .error 7 else .ok (wPost w ⟨x.agent, a1.try_, false, false, turnRel w.c w.h.l x.agent⟩) := by
   unfold wTell
   rw [if_neg (by omega), if_pos hk, ha]
  refine ⟨fun h => Out.bad (by rw [hE, if_pos (.inl h)]) (hw.ext e1), fun h => Out.bad (by rw [hE, if_pos (.inr (by simpa using h))]) (hw.ext e1), fun h1 h2 => by rw [hE, if_neg (by rintro (h | h); exact h h1; exact h2 (by simpa using h))]⟩
 have bad : ∀ {H1 : Heap} (e1 : Ext H H1), ¬turnErr w.c w.h.l x.agent = 0->Out w p (wTell w x) (i64 (turnErr w.c w.h.l x.agent)) [wldCells w p] H1 := fun e1 h => Out.bad (by unfold wTell; rw [if_pos h]) (hw.ext e1)
 have rng : turnErr w.c w.h.l x.agent = 0->0 <= x.agent/\ x.agent < p.kl/\ ∃ a1, w.h.l.ags[x.agent.toNat]? = some a1 := fun h => by
  obtain ⟨_, h1, h2, _⟩ := turnErr_zero h
  exact ⟨h1, by omega, _, List.getElem?_eq_getElem (by omega)⟩
 refine ⟨(cTurnL hw.cfg hw.ldr x.agent).turn fun qa ql qc H1 e1 hN1 hq => fun b3 => ⟨fun h => bad e1 h, fun h => ?_⟩, fun b2 => (cTurnL hw.cfg hw.ldr x.agent).turn fun qa ql qc H1 e1 hN1 hq => ⟨fun h => bad e1 h, fun h => ?_⟩⟩
 all_goals
  have hT := Decidable.not_not.1 h
  obtain ⟨k0, k1, _, _⟩ := rng hT
  refine ⟨fun hk => hw.ldr.ags.kn e1 k0 k1 fun a2 ha2 => fun b4 => ?_, fun hk => ?_⟩
  ·obtain ⟨t1, t2, t3⟩ := tail e1 hT hq a2 ha2 hk
   refine ⟨t1, fun h1 => ⟨_, neqBool, t2, fun h2 => ?_⟩⟩
   have hE := t3 (Decidable.not_not.1 h1) h2
   refine (posted ⟨x.agent, a2.try_, false, false, turnRel w.c w.h.l x.agent⟩ (hw.ext e1) hq ⟨rfl, rfl, rfl⟩ rfl hE).mono fun v css H2 e2 hv => ?_
   obtain ⟨hv, hO⟩ := hv
   have hO' := hO
   obtain ⟨p', _, hcss, _⟩ := hO
   rw [hcss] at hO'
   exact ⟨hv, wld16 hcss fun _ => hO'⟩
  ·have hLd := cLeads (hL.ext e1) (hw.ext e1) (r := ⟨6, x.agent, w.h.l.nx, 0, false, ⟨0, []⟩⟩) (qa := none) (ql := 0) (qc := 0) Sl.nil b
   cases hl : wLead w ⟨6, x.agent, w.h.l.nx, 0, false, ⟨0, []⟩⟩ with
   | error e =>
    rw [hl] at hLd
    refine hLd.mono fun v css H2 e2 hv => ?_
    obtain ⟨p1, rfl, hcss, hP, n1, n2, n3, n4⟩ := hv
    have hE : wTell w x = .error e := by unfold wTell; rw [if_neg (by omega), if_neg hk, hl]
    refine ⟨_, rfl, wld16 hcss fun hN2 => ⟨fun h0 => ?_, fun h0 => absurd (Decidable.not_not.1 h0) (wLead_err hl)⟩⟩
    rw [hE]
    exact ⟨p1, rfl, rfl, hP, n1, n2, n3, rfl⟩
   | ok y =>
    rw [hl] at hLd
    refine hLd.mono fun v css H2 e2 hv => ?_
    obtain ⟨p1, rfl, hcss, hP, n1, n2, n3, n4⟩ := hv
    have hE : wTell w x = .ok (wPost y ⟨x.agent, w.h.l.nx, false, false, turnRel w.c w.h.l x.agent⟩) := by unfold wTell; rw [if_neg (by omega), if_neg hk, hl]
    refine ⟨_, rfl, wld16 hcss fun hN2 => ⟨fun h0 => absurd rfl h0, fun h0 => ?_⟩⟩
    refine (posted (y := y) (p1 := p1) ⟨x.agent, w.h.l.nx, false, false, turnRel w.c w.h.l x.agent⟩ hP (hq.ext' e2) ⟨n1, n2, n3⟩ n4 hE).mono fun v css H3 e3 hv => ?_
    obtain ⟨hv, hO⟩ := hv
    have hO' := hO
    obtain ⟨p', _, hcss, _⟩ := hO
    rw [hcss] at hO'
    exact ⟨hv, wld16 hcss fun _ => hO'⟩
end
open Go
theorem AllR.set {α : Type} {R : Rep α} {H : Heap} {r : List Value} {x : α} (h : R H r x) : ∀ {rs : List (List Value)} {xs : List α} {k : Nat}, AllR R H rs xs->AllR R H (rs.set k r) (xs.set k x)
 | [], [], _, _ => trivial
 | _ :: _, _ :: _, 0, k => ⟨h, k.2⟩
 | _ :: _, _ :: _, _ + 1, k => ⟨k.1, AllR.set h k.2⟩
theorem rows_setk {sz : Nat} {rows : List (List Value)} {k : Nat} {r : List Value} (hr : rows[k]? = some r) (hw : ∀ x ∈ rows, x.length = sz) {off : Nat} {vs : List Value} (ho : off + vs.length <= sz) :
  setRange rows.flatten (k * sz + off) vs = (rows.set k (setRange r off vs)).flatten := by
 obtain ⟨hk, hrk⟩ := List.getElem?_eq_some_iff.1 hr
 have hsplit : rows = rows.take k ++ r :: rows.drop (k + 1) := by
  rw [← hrk, ← List.drop_eq_getElem_cons hk, List.take_append_drop]
 have hw1 : ∀ x ∈ rows.take k, x.length = sz := fun x hx => hw x (List.mem_of_mem_take hx)
 have hlen : (rows.take k).length = k := by rw [List.length_take]; omega
 have h1 := rows_set (sz := sz) (rs := rows.take k) (r := r) (ss := rows.drop (k + 1)) hw1 (hw r (List.mem_of_getElem? hr)) (k := off) (vs := vs) ho
 rw [hlen, ← hsplit] at h1
 rw [h1, List.set_eq_take_append_cons_drop, if_pos hk]
section
variable {α : Type} {R : Rep α} {sz : Nat} {e : TypeId} {base : Nat} {G H H' : Heap} {a : O} {n c : Nat} {rows : List (List Value)} {xs : List α}
theorem OwnSl.put (h : OwnSl R sz e base G H a n c rows xs) {k : Nat} {r : List Value} (hr : rows[k]? = some r) {off o : Nat} {vs : List Value} (ho : off + vs.length <= sz) (hoo : o = k * sz + off) {b : Nat} {kb : KB} (ha : a = some ⟨b, 0, none⟩) (hc : c ≠ 0) (hb : H b = some kb)
  (hu : Upd H b o kb vs H') {y : α} (hy : R G (setRange r off vs) y) : OwnSl R sz e base G H' a n c (rows.set k (setRange r off vs)) (xs.set k y) := by
 subst hoo
 have hk := (List.getElem?_eq_some_iff.1 hr).1
 have hle : k * sz + off + vs.length <= rows.flatten.length := by
  rw [flat_wid h.wid]
  have : (k + 1) * sz <= rows.length * sz := Nat.mul_le_mul_right _ hk
  rw [Nat.succ_mul] at this; omega
 refine ⟨?_, fun x hx => ?_, AllR.set hy h.all, fun x kx hx => ?_, h.clear⟩
 ·rw [← rows_setk hr h.wid ho]
  exact h.row.upd ha hc hb hle hu
 ·rcases List.mem_or_eq_of_mem_set hx with hx | rfl
  ·exact h.wid x hx
  ·rw [setRange_length]; exact h.wid r (List.mem_of_getElem? hr)
 ·rw [hu.there x (fun e => by rw [e, h.clear hc b ha] at hx; cases hx)]
  exact h.sub x kx hx
end
theorem setRange_full {r vs : List Value} (h : r.length = vs.length) : setRange r 0 vs = vs := by
 rw [setRange_eq _ _ _ (by omega)]
 simp [h]
open Go Go.Proofs
structure OwnW (base : Nat) (G H : Heap) (w : Wld) (p : WA) (rows : List (List Value)) : Prop where
 parts : Parts G w p
 nod : OwnSl RNod 10 58 base G H p.na p.nl p.nc rows w.n
theorem OwnW.at_ {base : Nat} {G H : Heap} {w : Wld} {p : WA} {rows : List (List Value)} (h : OwnW base G H w p rows) : WldAt H w p :=
 ⟨(h.parts.ext h.nod.sub).cfg, (h.parts.ext h.nod.sub).ldr, (h.parts.ext h.nod.sub).dsk, h.nod.sl RNod.mono (by omega), (h.parts.ext h.nod.sub).mail⟩
theorem OwnW.ext {base : Nat} {G H H' : Heap} {w : Wld} {p : WA} {rows : List (List Value)} (h : OwnW base G H w p rows) (e : Ext H H') : OwnW base G H' w p rows := ⟨h.parts, h.nod.ext e⟩
theorem OwnW.grown {base : Nat} {G H G' H' : Heap} {w : Wld} {p : WA} {rows : List (List Value)} (h : OwnW base G H w p rows) (g : Grown G H G' H') : OwnW base G' H' w p rows :=
 ⟨h.parts.ext g.ext, h.nod.row.ext g.keep, h.nod.wid, h.nod.all.mono RNod.mono g.ext, g.sub, fun hc b hb => by
  cases hg : G' b with
  | none => rfl
  | some k =>
   have h1 := g.away b k hg (h.nod.clear hc b hb)
   obtain ⟨b', k', h2, h3⟩ := h.nod.block hc
   rw [hb] at h2; simp at h2; subst h2
   rw [h1] at h3; cases h3⟩
theorem OwnW.be {base : Nat} {G H : Heap} {w w' : Wld} {p p' : WA} {rows : List (List Value)} (h : OwnW base G H w p rows) (hp : Parts G w' p') (h1 : p'.na = p.na) (h2 : p'.nl = p.nl) (h3 : p'.nc = p.nc) (hn : w'.n = w.n) : OwnW base G H w' p' rows :=
 ⟨hp, by rw [h1, h2, h3, hn]; exact h.nod⟩
abbrev hapArg (x : Hap) (a : O) (l c : Nat) : Value := .agg #[.int .i64 x.kind, .int .i64 x.agent, .int .i64 x.num, .bool x.good, .slice a l c]
structure HapPre (base : Nat) (G H : Heap) (w : Wld) (p : WA) (rows : List (List Value)) (x : Hap) (a : O) (l : Nat) : Prop where
 lb : Lb G
 ok : wldErr w = 0
 own : OwnW base G H w p rows
 lock : Pins G a l x.lock
structure OwnPost (base : Nat) (G H : Heap) (p : WA) (w' : Wld) (p' : WA) (G' : Heap) (rows' : List (List Value)) (H' : Heap) : Prop where
 ext : Ext G G'
 away : ∀ y k, G' y = some k->G y = none->H y = none
 own : OwnW base G' H' w' p' rows'
 keep : ∀ y k, H y = some k->(p.nc = 0 ∨ p.na ≠ some ⟨y, 0, none⟩)->H' y = some k
 still : ∀ y, H y ≠ none->H' y ≠ none
 same : p'.na = p.na/\ p'.nl = p.nl/\ p'.nc = p.nc
theorem OwnPost.start {base : Nat} {G H : Heap} {w : Wld} {p : WA} {rows : List (List Value)} (h : OwnW base G H w p rows) : OwnPost base G H p w p G rows H := ⟨Ext.refl _, fun y k h1 h2 => (by rw [h1] at h2; cases h2), h, fun _ _ h _ => h, fun _ h => h, rfl, rfl, rfl⟩
theorem OwnPost.grown {base : Nat} {G H : Heap} {p : WA} {w : Wld} {p' : WA} {G' H' G'' H'' : Heap} {rows : List (List Value)} (h : OwnPost base G H p w p' G' rows H') (g : Grown G' H' G'' H'') : OwnPost base G H p w p' G'' rows H'' :=
 ⟨Ext.trans h.ext g.ext, fun y k hy hn => by
  cases hg : G' y with
  | some z => exact h.away y z hg hn
  | none =>
   have h1 := g.away y k hy hg
   cases hh : H y with
   | none => rfl
   | some z => exact absurd h1 (h.still y (by rw [hh]; simp)), h.own.grown g, fun y k hy hc => g.keep y k (h.keep y k hy hc), fun y hy => by
  have h1 := h.still y hy
  cases hh : H' y with
  | none => exact absurd hh h1
  | some k => rw [g.keep y k hh]; simp, h.same⟩
theorem OwnPost.be {base : Nat} {G H : Heap} {p : WA} {w w' : Wld} {p' p'' : WA} {G' H' : Heap} {rows : List (List Value)} (h : OwnPost base G H p w p' G' rows H') (hp : Parts G' w' p'') (h1 : p''.na = p'.na) (h2 : p''.nl = p'.nl) (h3 : p''.nc = p'.nc) (hn : w'.n = w.n) : OwnPost base G H p w' p'' G' rows H' :=
 ⟨h.ext, h.away, h.own.be hp h1 h2 h3 hn, h.keep, h.still, h1.trans h.same.1, h2.trans h.same.2.1, h3.trans h.same.2.2⟩
theorem RNod.setA {G : Heap} {x : Nod} {q : NA} (h : NodAt G x q) {a : Agt} {xa ga : O} {xl xc gl gc : Nat} (h1 : Pins G xa xl a.lock) (h2 : Pins G ga gl a.goal.lock) :
  RNod G (setRange (nodCells x q) 0 [.slice xa xl xc, .int .i64 a.at_, .int .i64 a.try_, .bool a.going, .int .i64 a.goal.id, .slice ga gl gc, .bool a.good]) { x with a := a } :=
 ⟨{ q with xa := xa, xl := xl, xc := xc, ga := ga, gl := gl, gc := gc }, rfl, h1, h2, h.dsk⟩
theorem RNod.setD {G : Heap} {x : Nod} {q : NA} (h : NodAt G x q) {d : Dsk} {ua va : O} {ul uc vl vc : Nat} (h1 : DskAt G d ua ul uc va vl vc) :
  RNod G (setRange (nodCells x q) 7 [.slice ua ul uc, .slice va vl vc]) { x with d := d } :=
 ⟨{ q with ua := ua, ul := ul, uc := uc, va := va, vl := vl, vc := vc }, rfl, h.lock, h.goal, h1⟩
theorem OwnW.node {base : Nat} {G H : Heap} {w : Wld} {p : WA} {rows : List (List Value)} (h : OwnW base G H w p rows) {k : Nat} {n : Nod} (hn : w.n[k]? = some n) :
  ∃ (b : Nat) (kb : KB) (q : NA), p.na = some ⟨b, 0, none⟩/\ base <= b/\ p.nc ≠ 0/\ H b = some kb/\ kb.free = true/\ k < p.nl/\ k * 10 + 10 <= kb.size/\ rows[k]? = some (nodCells n q)/\ NodAt G n q/\ ∀ j v, (nodCells n q)[j]? = some v->H.cell b (k * 10 + j) = some v := by
 obtain ⟨r1, r2⟩ := h.nod.rlen (by omega)
 have hk := (List.getElem?_eq_some_iff.1 hn).1
 obtain ⟨b, kb, h1, h2, h3, h4, h5, h6, h7⟩ := h.nod.row.block (by omega)
 have hrow : rows[k]? = some (rows[k]'(by omega)) := List.getElem?_eq_getElem (by omega)
 obtain ⟨q, hq, hat⟩ := h.nod.all.get hrow hn
 have hle : p.nl <= p.nc := h.nod.row.2.1
 refine ⟨b, kb, q, h1, h2, h3, h4, h5, by omega, by rw [h6]; omega, by rw [hrow, hq], hat, fun j v hj => ?_⟩
 have hjl := (List.getElem?_eq_some_iff.1 hj).1
 have hj10 : j < 10 := by simpa using hjl
 unfold Heap.cell
 rw [h4]
 refine h7 _ _ ?_
 have hs : rows = rows.take k ++ nodCells n q :: rows.drop (k + 1) := by
  rw [← hq, ← List.drop_eq_getElem_cons (by omega), List.take_append_drop]
 have hl : (rows.take k).flatten.length = k * 10 := by
  rw [flat_wid (sz := 10) fun r hr => h.nod.wid r (List.mem_of_mem_take hr), List.length_take]
  congr 1; omega
 rw [hs, List.flatten_append, List.getElem?_append_right (by omega), hl, show k * 10 + j - k * 10 = j from by omega, List.flatten_cons, List.getElem?_append_left (by simpa using hjl)]
 exact hj
theorem OwnPost.put {base : Nat} {G H : Heap} {p : WA} {w : Wld} {p' : WA} {G' H' H'' : Heap} {rows : List (List Value)} (h : OwnPost base G H p w p' G' rows H') {k : Nat} {r : List Value} (hr : rows[k]? = some r) {off o : Nat} {vs : List Value} (ho : off + vs.length <= 10) (hoo : o = k * 10 + off) {b : Nat} {kb : KB} (ha : p'.na = some ⟨b, 0, none⟩) (hc : p'.nc ≠ 0) (hb : H' b = some kb)
  (hu : Upd H' b o kb vs H'') {y : Nod} (hy : RNod G' (setRange r off vs) y) : OwnPost base G H p { w with n := w.n.set k y } p' G' (rows.set k (setRange r off vs)) H'' := by
 have hO := h.own.nod.put hr ho hoo ha hc hb hu hy
 refine ⟨h.ext, h.away, ⟨⟨h.own.parts.cfg, h.own.parts.ldr, h.own.parts.dsk, h.own.parts.mail⟩, hO⟩, fun x k hx hxc => ?_, fun x hx => ?_, h.same⟩
 ·have hne : x ≠ b := fun e => by
   subst e
   rcases hxc with h0 | h0
   ·exact hc (h.same.2.2.trans h0)
   ·exact h0 (h.same.1.symm.trans ha)
  rw [hu.there x hne]; exact h.keep x k hx hxc
 ·by_cases e : x = b
  ·subst e; rw [hu.here]; simp
  ·rw [hu.there x e]; exact h.still x hx
open Go Go.Proofs
theorem vx218 (g o : Nat) (kd ag rt n rid : Int) (rg : Bool) (qa : O) (ql qc : Nat) (base : Nat) (H0 : Heap) (H : Heap) (f : SV->List Bx->Heap->Prop) :
 (codeI ⟨Tryz.prog, Tryz.f218.ntmps, ⟨TryzListK, TryzSum, true⟩, base, H0⟩ Tryz.f218 [.v (.pointer (some ⟨g, o, none⟩)), .v (A #[I Z kd, I Z ag, I Z rt, I Z n, B rg, I Z rid, S qa ql qc])] [] H f) = (
 ∀ a:Nat,∃ (b:O) (c d:Nat) (e h:Int) (i:Bool) (j:Int) (k:O) (l m:Nat) (p:Bool),(fun w8:LV=>(C H g o = some (S b c d)/\ C H g (o + 1) = some (I Z e)/\ C H g (o + 2) = some (I Z h)/\ C H g (o + 3) = some (B i)/\ C H g (o + 4) = some (I Z j)/\ C H g (o + 5) = some (S k l m)/\ C H g (o + 6) = some (B p)/\ True)/\ (Y Tryz.prog 145 w8 H fun q r =>∃ s t u v w x y z a1 b1 c1 d1,q = T #[A #[S s t u,I Z v,I Z w,B x,I Z y,S z a1 b1,B c1],I Z d1]/\ (X base H r->∀ e1:Nat,(¬d1 = 0->f (SV.v (I Z d1)) [J a false 126 [I Z kd,I Z ag,I Z rt,I Z n,B rg,I Z rid,S qa ql qc],J e1 false 46 [S s t u,I Z v,I Z w,B x,I Z y,S z a1 b1,B c1]] r)/\ (¬¬d1 = 0->∃ (f1:O) (g1 h1:Nat) (i1:O) (j1 k1:Nat),(fun w4:LV=>(C r g (o + 7) = some (S f1 g1 h1)/\ C r g (o + 7 + 1) = some (S i1 j1 k1)/\ True)/\ (Y Tryz.prog 219 w4 r fun l1 m1 =>∃ n1 o1 p1 q1 r1 s1 t1,l1 = T #[A #[S n1 o1 p1,S q1 r1 s1],I Z t1]/\ (X base r m1->∀ u1:Nat,(fun w2:LB=>(t1 = 0->(∃ v1:KB,m1 g = some v1/\ KB.free v1 = true/\ base <= g/\ o + 7 <= KB.size v1/\ ∀ w1:Heap,Upd m1 g o v1 [S s t u,I Z v,I Z w,B x,I Z y,S z a1 b1,B c1] w1->∃ x1:KB,w1 g = some x1/\ KB.free x1 = true/\ base <= g/\ o + 7 + 2 <= KB.size x1/\ ∀ y1:Heap,Upd w1 g (o + 7) x1 [S n1 o1 p1,S q1 r1 s1] y1->f (SV.v (I Z t1)) w2 y1)/\ ∃ v1:KB,m1 g = some v1/\ KB.free v1 = true/\ base <= g/\ o + 7 <= KB.size v1/\ ∀ w1:Heap,Upd m1 g o v1 [S s t u,I Z v,I Z w,B x,I Z y,S z a1 b1,B c1] w1->∃ x1:KB,w1 g = some x1/\ KB.free x1 = true/\ base <= g/\ o + 7 + 2 <= KB.size x1/\ ∀ y1:Heap,Upd w1 g (o + 7) x1 [S n1 o1 p1,S q1 r1 s1] y1->f (SV.v (I Z t1)) w2 y1)/\ (¬t1 = 0->f (SV.v (I Z t1)) w2 m1)) [J a false 126 [I Z kd,I Z ag,I Z rt,I Z n,B rg,I Z rid,S qa ql qc],J e1 false 46 [S s t u,I Z v,I Z w,B x,I Z y,S z a1 b1,B c1],J u1 false 35 [S n1 o1 p1,S q1 r1 s1]]))/\ ∀ l1:Nat,Y Tryz.prog 219 w4 r fun m1 n1 =>∃ o1 p1 q1 r1 s1 t1,(fun w3:LB=>∃ u1,m1 = T #[A #[S o1 p1 q1,S r1 s1 t1],I Z u1]/\ (X base r n1->(u1 = 0->(∃ v1:KB,n1 g = some v1/\ KB.free v1 = true/\ base <= g/\ o + 7 <= KB.size v1/\ ∀ w1:Heap,Upd n1 g o v1 [S s t u,I Z v,I Z w,B x,I Z y,S z a1 b1,B c1] w1->∃ x1:KB,w1 g = some
 x1/\ KB.free x1 = true/\ base <= g/\ o + 7 + 2 <= KB.size x1/\ ∀ y1:Heap,Upd w1 g (o + 7) x1 [S o1 p1 q1,S r1 s1 t1] y1->f (SV.v (I Z u1)) w3 y1)/\ ∃ v1:KB,n1 g = some v1/\ KB.free v1 = true/\ base <= g/\ o + 7 <= KB.size v1/\ ∀ w1:Heap,Upd n1 g o v1 [S s t u,I Z v,I Z w,B x,I Z y,S z a1 b1,B c1] w1->∃ x1:KB,w1 g = some x1/\ KB.free x1 = true/\ base <= g/\ o + 7 + 2 <= KB.size x1/\ ∀ y1:Heap,Upd w1 g (o + 7) x1 [S o1 p1 q1,S r1 s1 t1] y1->f (SV.v (I Z u1)) w3 y1)/\ (¬u1 = 0->f (SV.v (I Z u1)) w3 n1))) [J a false 126 [I Z kd,I Z ag,I Z rt,I Z n,B rg,I Z rid,S qa ql qc],J e1 false 46 [S s t u,I Z v,I Z w,B x,I Z y,S z a1 b1,B c1],J l1 false 35 [S o1 p1 q1,S r1 s1 t1]]) [A #[S f1 g1 h1,S i1 j1 k1],A #[I Z kd,I Z ag,I Z rt,I Z n,B rg,I Z rid,S qa ql qc]])))/\ ∀ q:Nat,Y Tryz.prog 145 w8 H fun r s =>∃ t u v w x y z a1 b1 c1 d1 e1,r = T #[A #[S t u v,I Z w,I Z x,B y,I Z z,S a1 b1 c1,B d1],I Z e1]/\ (X base H s->(¬e1 = 0->f (SV.v (I Z e1)) [J a false 126 [I Z kd,I Z ag,I Z rt,I Z n,B rg,I Z rid,S qa ql qc],J q false 46 [S t u v,I Z w,I Z x,B y,I Z z,S a1 b1 c1,B d1]] s)/\ (¬¬e1 = 0->∃ (f1:O) (g1 h1:Nat) (i1:O) (j1 k1:Nat),(fun w7:LV=>(C s g (o + 7) = some (S f1 g1 h1)/\ C s g (o + 7 + 1) = some (S i1 j1 k1)/\ True)/\ (Y Tryz.prog 219 w7 s fun l1 m1 =>∃ n1 o1 p1 q1 r1 s1 t1,l1 = T #[A #[S n1 o1 p1,S q1 r1 s1],I Z t1]/\ (X base s m1->∀ u1:Nat,(fun w5:LB=>(t1 = 0->(∃ v1:KB,m1 g = some v1/\ KB.free v1 = true/\ base <= g/\ o + 7 <= KB.size v1/\ ∀ w1:Heap,Upd m1 g o v1 [S t u v,I Z w,I Z x,B y,I Z z,S a1 b1 c1,B d1] w1->∃ x1:KB,w1 g = some x1/\ KB.free x1 = true/\ base <= g/\ o + 7 + 2 <= KB.size x1/\ ∀ y1:Heap,Upd w1 g (o + 7) x1 [S n1 o1 p1,S q1 r1 s1] y1->f (SV.v (I Z t1)) w5 y1)/\ ∃ v1:KB,m1 g = some v1/\ KB.free v1 = true/\ base <= g/\ o + 7 <= KB.size v1/\ ∀ w1:Heap,Upd m1 g o v1 [S t u v,I Z w,I Z x,B y,I Z z,S a1 b1 c1,B d1] w1->∃ x1:KB,w1 g = some x1/\ KB.free x1 = true/\ base <= g/\ o + 7 + 2 <= KB.size x1/\ ∀ y1:Heap,Upd w1 g (o + 7) x1 [S n1 o1 p1,S q1 r1 s1] y1->f (SV.v (I Z t1)) w5 y1)/\ (¬t1 = 0->f (SV.v (I Z t1)) w5 m1)) [J a false 126 [I Z kd,I Z ag,I Z rt,I Z n,B rg,I
 Z rid,S qa ql qc],J q false 46 [S t u v,I Z w,I Z x,B y,I Z z,S a1 b1 c1,B d1],J u1 false 35 [S n1 o1 p1,S q1 r1 s1]]))/\ ∀ l1:Nat,Y Tryz.prog 219 w7 s fun m1 n1 =>∃ o1 p1 q1 r1 s1 t1,(fun w6:LB=>∃ u1,m1 = T #[A #[S o1 p1 q1,S r1 s1 t1],I Z u1]/\ (X base s n1->(u1 = 0->(∃ v1:KB,n1 g = some v1/\ KB.free v1 = true/\ base <= g/\ o + 7 <= KB.size v1/\ ∀ w1:Heap,Upd n1 g o v1 [S t u v,I Z w,I Z x,B y,I Z z,S a1 b1 c1,B d1] w1->∃ x1:KB,w1 g = some x1/\ KB.free x1 = true/\ base <= g/\ o + 7 + 2 <= KB.size x1/\ ∀ y1:Heap,Upd w1 g (o + 7) x1 [S o1 p1 q1,S r1 s1 t1] y1->f (SV.v (I Z u1)) w6 y1)/\ ∃ v1:KB,n1 g = some v1/\ KB.free v1 = true/\ base <= g/\ o + 7 <= KB.size v1/\ ∀ w1:Heap,Upd n1 g o v1 [S t u v,I Z w,I Z x,B y,I Z z,S a1 b1 c1,B d1] w1->∃ x1:KB,w1 g = some x1/\ KB.free x1 = true/\ base <= g/\ o + 7 + 2 <= KB.size x1/\ ∀ y1:Heap,Upd w1 g (o + 7) x1 [S o1 p1 q1,S r1 s1 t1] y1->f (SV.v (I Z u1)) w6 y1)/\ (¬u1 = 0->f (SV.v (I Z u1)) w6 n1))) [J a false 126 [I Z kd,I Z ag,I Z rt,I Z n,B rg,I Z rid,S qa ql qc],J q false 46 [S t u v,I Z w,I Z x,B y,I Z z,S a1 b1 c1,B d1],J l1 false 35 [S o1 p1 q1,S r1 s1 t1]]) [A #[S f1 g1 h1,S i1 j1 k1],A #[I Z kd,I Z ag,I Z rt,I Z n,B rg,I Z rid,S qa ql qc]]))) [A #[S b c d,I Z e,I Z h,B i,I Z j,S k l m,B p],A #[I Z kd,I Z ag,I Z rt,I Z n,B rg,I Z rid,S qa ql qc]]) := by kernel_rfl
end Go.Vg
