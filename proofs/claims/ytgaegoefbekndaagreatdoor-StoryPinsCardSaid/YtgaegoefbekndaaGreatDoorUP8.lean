/- What is proved here: a part of the proof of laws of this seat: what a contract is, how it comes of a condition, contracts of the functions that are reached, the plain laws. -/
import Derived.Test.YtgaegoefbekndaaGreatDoorUP7
set_option linter.unusedSimpArgs false
set_option linter.unusedVariables false
set_option maxRecDepth 100000
namespace Go.Vg
open Go
theorem logOf_zero {d : Dsk} {up : Bool} {l : List Recd} : logOf d up = .ok l ↔ dskErr d = 0/\ (up = true->d.wait = [])/\ l = if up = true then dskRecs d else [] := by
 unfold logOf
 constructor
 ·intro h
  split at h
  ·cases h
  ·split at h
   ·cases h
   ·rename_i h1 h2
    refine ⟨by omega, fun e => Decidable.byContradiction fun e2 => h2 ⟨e, e2⟩, (Except.ok.inj h).symm⟩
 ·rintro ⟨h1, h2, rfl⟩
  rw [if_neg (by omega), if_neg (fun e => e.2 (h2 e.1))]
structure HOk (c : Conf) (h : Hed) : Prop where
 disk : dskErr h.d = 0
 dry : h.up = true->h.d.wait = []
 log : ledReplay c (if h.up = true then dskRecs h.d else []) = .ok h.l
structure NOk (f : Rls) (n : Nod) : Prop where
 disk : dskErr n.d = 0
 dry : n.up = true->n.d.wait = []
 log : agtReplay f (if n.up = true then dskRecs n.d else []) = .ok n.a
theorem logOf_err {d : Dsk} {up : Bool} {e : Int} (h : logOf d up = .error e) : e ≠ 0 := by
 unfold logOf at h
 split at h
 ·rename_i h0; injection h with h; omega
 ·split at h
  ·injection h with h; omega
  ·cases h
theorem ledFrom_err {c : Conf} {e : Int} : ∀ {rs : List Recd} {l : Ldr}, ledFrom c l rs = .error e->e ≠ 0
 | [], l, h => by cases h
 | r :: q, l, h => by
  unfold ledFrom at h
  split at h
  ·exact ledFrom_err h
  ·rename_i h0; injection h with h; omega
theorem ledReplay_err {c : Conf} {rs : List Recd} {e : Int} (h : ledReplay c rs = .error e) : e ≠ 0 := by
 unfold ledReplay at h
 split at h
 ·rename_i h0; injection h with h; omega
 ·split at h
  ·injection h with h; omega
  ·exact ledFrom_err h
theorem replayFrom_err {e : Int} : ∀ {rs : List Recd} {l : Agt}, replayFrom l rs = .error e->e ≠ 0
 | [], l, h => by cases h
 | r :: q, l, h => by
  unfold replayFrom at h
  split at h
  ·exact replayFrom_err h
  ·rename_i h0; injection h with h; omega
theorem agtReplay_err {f : Rls} {rs : List Recd} {e : Int} (h : agtReplay f rs = .error e) : e ≠ 0 := by
 unfold agtReplay at h
 split at h
 ·rename_i h0; injection h with h; omega
 ·split at h
  ·injection h with h; omega
  ·exact replayFrom_err h
theorem hedErr_zero {c : Conf} {h : Hed} : hedErr c h = 0 ↔ HOk c h := by
 unfold hedErr
 constructor
 ·intro e
  split at e
  ·rename_i x hx; exact absurd e (logOf_err hx)
  ·rename_i l hl
   obtain ⟨h1, h2, rfl⟩ := logOf_zero.1 hl
   split at e
   ·rename_i x hx; exact absurd e (ledReplay_err hx)
   ·rename_i x hx
    split at e
    ·rename_i he; exact ⟨h1, h2, by rw [hx, he]⟩
    ·cases e
 ·rintro ⟨h1, h2, h3⟩
  rw [logOf_zero.2 ⟨h1, h2, rfl⟩]
  dsimp only
  rw [h3]
  dsimp only
  rw [if_pos rfl]
theorem nodErr_zero {f : Rls} {n : Nod} : nodErr f n = 0 ↔ NOk f n := by
 unfold nodErr
 constructor
 ·intro e
  split at e
  ·rename_i x hx; exact absurd e (logOf_err hx)
  ·rename_i l hl
   obtain ⟨h1, h2, rfl⟩ := logOf_zero.1 hl
   split at e
   ·rename_i x hx; exact absurd e (agtReplay_err hx)
   ·rename_i x hx
    split at e
    ·rename_i he; exact ⟨h1, h2, by rw [hx, he]⟩
    ·cases e
 ·rintro ⟨h1, h2, h3⟩
  rw [logOf_zero.2 ⟨h1, h2, rfl⟩]
  dsimp only
  rw [h3]
  dsimp only
  rw [if_pos rfl]
structure WRight (w : Wld) : Prop where
 cfg : cfgErr w.c = 0
 len : (w.n.length : Int) = agentsOf w.c.waves
 mail : mailsCheck w.m = 0
 who : ∀ m ∈ w.m, m.agent < w.n.length
 head : HOk w.c w.h
 node : ∀ n ∈ w.n, NOk w.c.first n
theorem wldErr_zero {w : Wld} : wldErr w = 0 ↔ WRight w := by
 unfold wldErr
 constructor
 ·intro h
  split at h
  ·omega
  ·split at h
   ·omega
   ·split at h
    ·omega
    ·split at h
     ·omega
     ·split at h
      ·omega
      ·rename_i h1 h2 h3 h4 h5
       exact ⟨by omega, by omega, by omega, farMail_false.1 (by simpa using h4), hedErr_zero.1 (by omega), fun n hn => nodErr_zero.1 (nodsErr_zero.1 h n hn)⟩
 ·rintro ⟨h1, h2, h3, h4, h5, h6⟩
  rw [if_neg (by omega), if_neg (by omega), if_neg (by omega), if_neg (by rw [farMail_false.2 h4]; simp), if_neg (by rw [hedErr_zero.2 h5]; omega)]
  exact nodsErr_zero.2 fun n hn => nodErr_zero.2 (h6 n hn)
theorem HOk.lead {c : Conf} {h : Hed} (k : HOk c h) (hu : h.up = true) {r : Recd} (hr : ledErr c h.l r = 0) {d : Dsk} (hd : dskSafe h.d r = .ok d) : HOk c ⟨ledNext h.l r, d, h.up⟩ := by
 have hD := dskSafe_ok (dok_of k.disk (k.dry hu)) hd
 obtain ⟨e1, e2, e3, e4⟩ := hD.err
 have hl := k.log
 rw [if_pos hu] at hl
 refine ⟨e1, fun _ => e4, ?_⟩
 dsimp only
 rw [if_pos hu, e2]
 exact ledReplay_snoc hl hr hD.many
theorem NOk.does {f : Rls} {n n' : Nod} (k : NOk f n) (hu : n.up = true) {r : Recd} (hd : nDoes n r = .ok n') : NOk f n'/\ n'.up = true/\ n'.a = agtNext n.a r/\ nextErr n.a r = 0/\ dskRecs n'.d = dskRecs n.d ++ [r] := by
 unfold nDoes at hd
 split at hd
 ·cases hd
 ·rename_i hr
  split at hd
  ·cases hd
  ·rename_i d hd'
   obtain rfl := Except.ok.inj hd
   have hD := dskSafe_ok (dok_of k.disk (k.dry hu)) hd'
   obtain ⟨e1, e2, e3, e4⟩ := hD.err
   have hl := k.log
   rw [if_pos hu] at hl
   refine ⟨⟨e1, fun _ => e4, ?_⟩, hu, rfl, by omega, e2⟩
   dsimp only
   rw [if_pos hu, e2]
   exact agtReplay_snoc hl (by omega) hD.many
theorem HOk.power {c : Conf} {h : Hed} (k : HOk c h) {kind : Int} (hk : kind = 12 ∨ kind = 13) (hu : ¬ h.up = decide (kind = 13)) {s : Ldr} (hs : ledReplay c (if kind = 12 then [] else dskRecs h.d) = .ok s) : HOk c ⟨s, if kind = 12 then h.d else dskBack h.d, !h.up⟩ := by
 rcases hk with rfl | rfl
 ·have hup : h.up = true := by simpa using hu
  simp only [if_pos] at hs ⊢
  exact ⟨k.disk, fun e => (by rw [hup] at e; cases e), by simp only [hup]; exact hs⟩
 ·have hup : h.up = false := by simpa using hu
  have hD := dok_back k.disk
  obtain ⟨e1, e2, e3, e4⟩ := hD.err
  rw [if_neg (by omega)] at hs ⊢
  exact ⟨e1, fun _ => e4, by simp only [hup, Bool.not_false, if_true]; rw [e2]; exact hs⟩
theorem NOk.power {f : Rls} {n : Nod} (k : NOk f n) {kind : Int} (hk : kind = 12 ∨ kind = 13) (hu : ¬ n.up = decide (kind = 13)) {s : Agt} (hs : agtReplay f (if kind = 12 then [] else dskRecs n.d) = .ok s) : NOk f ⟨s, if kind = 12 then n.d else dskBack n.d, !n.up⟩ := by
 rcases hk with rfl | rfl
 ·have hup : n.up = true := by simpa using hu
  simp only [if_pos] at hs ⊢
  exact ⟨k.disk, fun e => (by rw [hup] at e; cases e), by simp only [hup]; exact hs⟩
 ·have hup : n.up = false := by simpa using hu
  have hD := dok_back k.disk
  obtain ⟨e1, e2, e3, e4⟩ := hD.err
  rw [if_neg (by omega)] at hs ⊢
  exact ⟨e1, fun _ => e4, by simp only [hup, Bool.not_false, if_true]; rw [e2]; exact hs⟩
structure Eff (w y : Wld) (who : Int) (l : List Mail) : Prop where
 c : y.c = w.c
 ok : WRight y
 head : 0 <= who->y.h = w.h
 len : y.n.length = w.n.length
 node : ∀ i : Nat, (i : Int) ≠ who->y.n[i]? = w.n[i]?
 mail : y.m = l ∨ ∃ m, y.m = l ++ [m]
theorem WRight.less {w : Wld} (h : WRight w) {k : Int} {tw : Bool} : WRight { w with m := left w.m k tw } :=
 ⟨h.cfg, h.len, left_ok h.mail, fun m hm => h.who m (left_mem hm), h.head, h.node⟩
theorem wLead_ok {w y : Wld} {r : Recd} (hy : wLead w r = .ok y) : ledErr w.c w.h.l r = 0/\ ∃ d, dskSafe w.h.d r = .ok d/\ y = { w with h := ⟨ledNext w.h.l r, d, w.h.up⟩ } := by
 unfold wLead at hy
 split at hy
 ·cases hy
 ·rename_i he
  split at hy
  ·cases hy
  ·rename_i d hd
   exact ⟨by omega, d, hd, (Except.ok.inj hy).symm⟩
theorem WRight.lead {w y : Wld} (h : WRight w) (hu : w.h.up = true) {r : Recd} (hy : wLead w r = .ok y) : Eff w y (-1) w.m := by
 obtain ⟨he, d, hd, rfl⟩ := wLead_ok hy
 exact ⟨rfl, ⟨h.cfg, h.len, h.mail, h.who, h.head.lead hu he hd, h.node⟩, fun e => by omega, rfl, fun i _ => rfl, .inl rfl⟩
theorem wDoes_ok {w y : Wld} {k : Nat} {r : Recd} (hy : wDoes w k r = .ok y) : ∃ n n', w.n[k]? = some n/\ nDoes n r = .ok n'/\ y = { w with n := w.n.set k n' } := by
 unfold wDoes at hy
 split at hy
 ·cases hy
 ·rename_i n hn
  split at hy
  ·cases hy
  ·rename_i n' hn'
   exact ⟨n, n', hn, hn', (Except.ok.inj hy).symm⟩
theorem WRight.set {w : Wld} (h : WRight w) {k : Nat} {n' : Nod} (hn : NOk w.c.first n') : Eff w { w with n := w.n.set k n' } k w.m :=
 ⟨rfl, ⟨h.cfg, by simp [h.len], h.mail, fun m hm => by simpa using h.who m hm, h.head, fun n hn' => by
  rcases List.mem_or_eq_of_mem_set hn' with hx | rfl
  ·exact h.node n hx
  ·exact hn⟩, fun _ => rfl, by simp, fun i hi => by
   show (w.n.set k n')[i]? = _
   rw [List.getElem?_set, if_neg (by omega)], .inl rfl⟩
theorem WRight.does {w y : Wld} (h : WRight w) {k : Nat} {r : Recd} {n : Nod} (hn : w.n[k]? = some n) (hu : n.up = true) (hy : wDoes w k r = .ok y) : Eff w y k w.m/\ ∃ n', y.n[k]? = some n'/\ n'.up = true/\ n'.a = agtNext n.a r/\ nextErr n.a r = 0 := by
 obtain ⟨m, n', hm, hn', rfl⟩ := wDoes_ok hy
 obtain rfl : n = m := by rw [hn] at hm; exact Option.some.inj hm
 obtain ⟨d1, d2, d3, d4, d5⟩ := (h.node n (List.mem_of_getElem? hn)).does hu hn'
 refine ⟨h.set d1, n', ?_, d2, d3, d4⟩
 show (w.n.set k n')[k]? = _
 rw [List.getElem?_set, if_pos rfl, if_pos (List.getElem?_eq_some_iff.1 hn).1]
theorem Eff.post {w y : Wld} {who : Int} {m : Mail} {l : List Mail} (h : Eff w y who l) (hm : m.agent < w.n.length) (hl : y.m = l) : Eff w (wPost y m) who l := by
 subst hl
 unfold wPost
 split
 ·rename_i he
  refine ⟨h.c, ⟨h.ok.cfg, h.ok.len, (sentOk he).1, fun x hx => ?_, h.ok.head, h.ok.node⟩, h.head, h.len, h.node, ?_⟩
  ·have hx : x ∈ sent y.m m := hx
   rcases sent_mem hx with hx | rfl
   ·exact h.ok.who x hx
   ·have := h.len
    show x.agent < (y.n.length : Int)
    omega
  ·show sent y.m m = y.m ∨ _
   unfold sent
   split
   ·exact .inr ⟨m, rfl⟩
   ·exact .inl rfl
 ·exact h
theorem WRight.same {w : Wld} (h : WRight w) (who : Int) : Eff w w who w.m := ⟨rfl, h, fun _ => rfl, rfl, fun _ _ => rfl, .inl rfl⟩
def hapWho (w : Wld) (x : Hap) : Int :=
 if 1 <= x.kind/\ x.kind <= 6 then -1 else
 if x.kind = 9 ∨ x.kind = 10 then (if (took w.m x.num).rep = true then -1 else (took w.m x.num).agent) else
 if x.agent < 0 then -1 else x.agent
def hapLeft (w : Wld) (x : Hap) : List Mail := if x.kind = 9 ∨ x.kind = 11 then left w.m x.num false else w.m
theorem Eff.trans {w z y : Wld} {who : Int} {l : List Mail} (h : Eff z y who l) (e : z.c = w.c/\ z.h = w.h/\ z.n = w.n) : Eff w y who l :=
 ⟨h.c.trans e.1, h.ok, fun k => (h.head k).trans e.2.1, by rw [h.len, e.2.2], fun i hi => by rw [h.node i hi, e.2.2], h.mail⟩
theorem WRight.hap {w y : Wld} (h : WRight w) {x : Hap} (hy : wHap w x = .ok y) : Eff w y (hapWho w x) (hapLeft w x) := by
 unfold wHap at hy
 split at hy
 ·rename_i hk
  have hwho : hapWho w x = if (took w.m x.num).rep = true then -1 else (took w.m x.num).agent := by
   unfold hapWho; rw [if_neg (by omega), if_pos hk]
  have hleft : hapLeft w x = left w.m x.num (decide (x.kind = 10)) := by
   unfold hapLeft
   rcases hk with k | k
   ·rw [if_pos (.inl k)]; simp [k]
   ·rw [if_neg (by omega)]; simp [k, left]
  rw [hwho, hleft]
  unfold wHear at hy
  split at hy
  ·cases hy
  ·rename_i ht
   obtain ⟨t1, t2, t3, t4⟩ := took_mem (Decidable.not_not.1 ht)
   obtain ⟨o1, o2, o3⟩ := (mailsCheck_iff.1 t4).2 _ t1
   have hw := h.who _ t1
   generalize took w.m x.num = m at *
   unfold badWho at o1
   have hL := h.less (k := x.num) (tw := decide (x.kind = 10))
   split at hy
   ·cases hy
   ·rename_i n hn
    split at hy
    ·cases hy
    ·rename_i hup
     dsimp only at hy
     split at hy
     ·rename_i hr
      have hu : w.h.up = true := by
       cases hu : w.h.up with
       | true => rfl
       | false => exact absurd (.inl ⟨hr, hu⟩) hup
      rw [if_pos hr]
      obtain rfl := Except.ok.inj hy
      cases hl : wLead { w with m := left w.m x.num (decide (x.kind = 10)) } ⟨7, m.agent, m.try_, 0, m.good, ⟨0, []⟩⟩ with
      | error e => exact Eff.trans (hL.same _) ⟨rfl, rfl, rfl⟩
      | ok z => exact Eff.trans (hL.lead hu hl) ⟨rfl, rfl, rfl⟩
     ·rename_i hr
      rw [if_neg hr]
      have hr : m.rep = false := by simpa using hr
      have hu : n.up = true := by
       cases hu : n.up with
       | true => rfl
       | false => exact absurd (.inr ⟨hr, hu⟩) hup
      have hk : ((m.agent.toNat : Nat) : Int) = m.agent := by omega
      split at hy
      ·obtain rfl := Except.ok.inj hy
       have hn' : (({ w with m := left w.m x.num (decide (x.kind = 10)) } : Wld).n)[m.agent.toNat]? = some n := hn
       unfold wReport
       rw [hn']
       exact Eff.trans ((hL.same _).post (by simp only [repMail]; omega) rfl) ⟨rfl, rfl, rfl⟩
      ·obtain rfl := Except.ok.inj hy
       cases hl : wDoes { w with m := left w.m x.num (decide (x.kind = 10)) } m.agent.toNat ⟨1, 0, m.try_, 0, false, m.rel⟩ with
       | error e => exact Eff.trans (hL.same _) ⟨rfl, rfl, rfl⟩
       | ok z =>
        have := (hL.does hn hu hl).1
        rw [hk] at this
        exact Eff.trans this ⟨rfl, rfl, rfl⟩
 ·rename_i hk
  split at hy
  ·rename_i k11
   split at hy
   ·cases hy
   ·obtain rfl := Except.ok.inj hy
    have hleft : hapLeft w x = left w.m x.num false := by unfold hapLeft; rw [if_pos (.inr k11)]
    rw [hleft]
    exact Eff.trans (h.less.same _) ⟨rfl, rfl, rfl⟩
  ·rename_i k11
   have hleft : hapLeft w x = w.m := by unfold hapLeft; rw [if_neg (by omega)]
   rw [hleft]
   split at hy
   ·rename_i hk2
    have hwho : hapWho w x = -1 := by unfold hapWho; rw [if_pos (by omega)]
    rw [hwho]
    split at hy
    ·cases hy
    ·rename_i hu; exact h.lead (by simpa using hu) hy
   ·rename_i hk2
    split at hy
    ·cases hy
    ·rename_i hk3
     split at hy
     ·cases hy
     ·rename_i hwho0
      split at hy
      ·rename_i hk4
       have hwho : hapWho w x = -1 := by unfold hapWho; rw [if_pos (by omega)]
       rw [hwho]
       split at hy
       ·cases hy
       ·rename_i hu
        have hu : w.h.up = true := by simpa using hu
        unfold wTell at hy
        split at hy
        ·cases hy
        ·rename_i ht
         split at hy
         ·split at hy
          ·cases hy
          ·split at hy
           ·cases hy
           ·obtain rfl := Except.ok.inj hy
            exact (h.same _).post (by simp only; omega) rfl
         ·split at hy
          ·cases hy
          ·rename_i z hz
           obtain rfl := Except.ok.inj hy
           exact (h.lead hu hz).post (by simp only; omega) (by obtain ⟨he, d, hd, rfl⟩ := wLead_ok hz; rfl)
      ·rename_i hk4
       have hwho : hapWho w x = if x.agent < 0 then -1 else x.agent := by unfold hapWho; rw [if_neg (by omega), if_neg hk]
       split at hy
       ·rename_i hk5
        unfold wPower at hy
        split at hy
        ·rename_i hneg
         rw [hwho, if_pos hneg]
         split at hy
         ·cases hy
         ·rename_i hu
          split at hy
          ·cases hy
          ·split at hy
           ·cases hy
           ·rename_i s hs
            obtain rfl := Except.ok.inj hy
            exact ⟨rfl, ⟨h.cfg, h.len, h.mail, h.who, h.head.power hk5 hu hs, h.node⟩, fun e => by omega, rfl, fun i _ => rfl, .inl rfl⟩
        ·rename_i hneg
         rw [hwho, if_neg hneg]
         have hka : ((x.agent.toNat : Nat) : Int) = x.agent := by omega
         split at hy
         ·cases hy
         ·rename_i n hn
          split at hy
          ·cases hy
          ·rename_i hu
           split at hy
           ·cases hy
           ·split at hy
            ·cases hy
            ·rename_i s hs
             obtain rfl := Except.ok.inj hy
             have := h.set (k := x.agent.toNat) ((h.node n (List.mem_of_getElem? hn)).power hk5 hu hs)
             rw [hka] at this
             exact this
       ·rename_i hk5
        rw [hwho, if_neg (by omega)]
        have hka : ((x.agent.toNat : Nat) : Int) = x.agent := by omega
        split at hy
        ·cases hy
        ·rename_i n hn
         split at hy
         ·cases hy
         ·rename_i hu
          have hu : n.up = true := by simpa using hu
          split at hy
          ·unfold wStep at hy
           split at hy
           ·cases hy
           ·split at hy
            ·cases hy
            ·split at hy
             ·have := (h.does hn hu hy).1
              rw [hka] at this
              exact this
             ·split at hy
              ·cases hy
              ·rename_i z hz
               obtain rfl := Except.ok.inj hy
               obtain ⟨e1, n', e2, e3, e4, e5⟩ := h.does hn hu hz
               rw [hka] at e1
               have hzm : z.m = w.m := by obtain ⟨m0, n0, hm0, hn0, rfl⟩ := wDoes_ok hz; rfl
               unfold wReport
               rw [e2]
               exact e1.post (by simp only [repMail]; omega) hzm
          ·split at hy
           ·cases hy
           ·obtain rfl := Except.ok.inj hy
            unfold wReport
            rw [hn]
            exact (h.same _).post (by simp only [repMail]; omega) rfl
open Go
theorem wRun_ok {w y : Wld} {x : Hap} {q : List Hap} (h : wHap w x = .ok y) : wRunFrom w (x :: q) = ((wRunFrom y q).1, 0 :: (wRunFrom y q).2) := by
 conv => lhs; unfold wRunFrom
 rw [h]
theorem wRun_err {w : Wld} {e : Int} {x : Hap} {q : List Hap} (h : wHap w x = .error e) : wRunFrom w (x :: q) = ((wRunFrom w q).1, e :: (wRunFrom w q).2) := by
 conv => lhs; unfold wRunFrom
 rw [h]
theorem WRight.run : ∀ {l : List Hap} {w : Wld}, WRight w->WRight (wRunFrom w l).1
 | [], w, h => h
 | x :: q, w, h => by
  cases hx : wHap w x with
  | ok y => rw [wRun_ok hx]; exact WRight.run (h.hap hx).ok
  | error e => rw [wRun_err hx]; exact WRight.run h
open Go
theorem SInv.kn {c : Conf} {L : Ldr} {A : List Agt} {M : List Mail} (h : SInv c L A M) {k : Nat} {a : Agt} (ha : A[k]? = some a) : ∃ b, L.ags[k]? = some b/\ AInv L b a := by
 have hk : k < L.ags.length := by rw [← h.len]; exact (List.getElem?_eq_some_iff.1 ha).1
 exact ⟨_, List.getElem?_eq_getElem hk, (h.agt k a _ ha (List.getElem?_eq_getElem hk)).1⟩
theorem tgt_rel {c : Conf} {L : Ldr} (f : LFacts c L) : L.rels[(L.now - 1).toNat]? = some (tgt L true)/\ (L.goal ≠ 0->L.rels[(L.goal - 1).toNat]? = some (tgt L false)) := by
 have h1 := f.now
 have h2 := f.goal
 refine ⟨?_, fun h => ?_⟩
 ·rw [tgt_true, List.getElem?_eq_getElem (show (L.now - 1).toNat < L.rels.length by omega)]; rfl
 ·rw [tgt_false, List.getElem?_eq_getElem (show (L.goal - 1).toNat < L.rels.length by omega)]; rfl
theorem story_pins {c : Conf} {L : Ldr} {A : List Agt} {M : List Mail} (h : SInv c L A M) {a : Agt} (ha : a ∈ A) : (∀ p ∈ a.lock, ∃ r ∈ L.rels, p ∈ r.lock)/\ 1 <= a.at_/\ a.at_ <= L.rels.length/\ (a.going = false->∃ r, L.rels[(a.at_ - 1).toNat]? = some r/\ a.lock = r.lock)/\ (a.going = true->a.goal ∈ L.rels/\ diffErr a.lock a.goal.lock = 0) := by
 have f := ldr_facts h.led
 obtain ⟨k, hk⟩ := List.getElem?_of_mem ha
 obtain ⟨b, hb, hI⟩ := h.kn hk
 obtain ⟨z1, z2, z3, z4, z5, z6, z7⟩ := agtErr_zero hI.ok
 have hat : ∀ x, (x = true ∨ b.st ≠ 0)->AtR a (tgt L x)->∃ r, L.rels[(a.at_ - 1).toNat]? = some r/\ a.lock = r.lock := fun x hx hA => by
  obtain ⟨e1, e2, e3⟩ := hA
  have hgo : x = true ∨ L.goal ≠ 0 := hx.imp id fun e => ((f.kn k b hb).2.2.2.2.1 e).1
  have h1 := (f.tgt x hgo).2.1
  refine ⟨tgt L x, ?_, e3⟩
  rw [e2, h1]
  cases x with
  | true => exact (tgt_rel f).1
  | false => exact (tgt_rel f).2 (by rcases hgo with w | w; cases w; exact w)
 have hgoal : ∀ x, (x = true ∨ b.st ≠ 0)->a.goal = tgt L x->a.goal ∈ L.rels := fun x hx e => by rw [e]; exact f.rel hb x hx
 refine ⟨hI.pins, z2, hI.low, fun hg => ?_, fun hg => ⟨?_, diffErr_zero.2 ⟨z1, agt_goal hI.ok⟩⟩⟩
 ·by_cases hs : b.st = 0
  ·exact hat true (.inl rfl) (hI.idle hs).2
  ·by_cases e : a.try_ = b.try_
   ·rcases hI.on hs e with w | w
    ·exact hat _ (.inr hs) w
    ·rw [hg] at w; cases w.1
   ·rcases (hI.late hs (by have := hI.le; omega)).2 with w | ⟨_, w | w⟩
    ·exact hat _ (.inl rfl) w
    ·exact hat _ (.inr hs) w
    ·rw [hg] at w; cases w.1
 ·by_cases hs : b.st = 0
  ·exact (hI.idle hs).2.not hg
  ·by_cases e : a.try_ = b.try_
   ·rcases hI.on hs e with w | w
    ·exact w.not hg
    ·exact hgoal _ (.inr hs) w.2
   ·rcases (hI.late hs (by have := hI.le; omega)).2 with w | ⟨_, w | w⟩
    ·exact w.not hg
    ·exact w.not hg
    ·exact hgoal _ (.inr hs) w.2
open Go
structure Sto (c : Conf) (w : Wld) (L : Ldr) (A : List Agt) : Prop where
 cfg : w.c = c
 logs : Logs w L A
 inv : SInv c L A w.m
theorem Sto.hap {c : Conf} {w y : Wld} {L : Ldr} {A : List Agt} {x : Hap} (h : Sto c w L A) (hy : wHap w x = .ok y) : ∃ L' A', Sto c y L' A' := by
 obtain ⟨L', A', h1, h2, h3⟩ := h.logs.hap hy
 refine ⟨L', A', h3.trans h.cfg, h1, ?_⟩
 have hm := h2
 rw [h.cfg] at hm
 exact h.inv.move hm
theorem Sto.fresh {c : Conf} (h : cfgErr c = 0) : Sto c (freshWld c) (newLdr c) (List.replicate (agentsOf c.waves).toNat (newAgt c.first)) := ⟨rfl, fresh_logs h, fresh_inv h⟩
theorem Sto.right {c : Conf} {w : Wld} {L : Ldr} {A : List Agt} (h : Sto c w L A) : WRight w := wldErr_zero.1 h.logs.ok
def playW (c : Conf) (l : List Hap) : Wld := (wRunFrom (freshWld c) (l.take 90)).1
open Go Go.Proofs
open Go.Value renaming int → I, slice → S, bool → B, agg → A, tuple → T, pointer → P, string → Str
open Go.IntKind renaming i64 → Z, wrap → W
open Go.Addr renaming mk → D
open Go.Vg.Bx renaming mk → J
open Go.Vg renaming Next → X, Spec → Y, SpecO → YO
open Go.Vg.Heap renaming cell → C
open Int renaming toNat → N
theorem vx189 (sa ta : O) (sl sc tl tc : Nat) (up : Bool) (base : Nat) (H : Heap) (K : KT) :
 (fV TryzMutsJ Tryz.f189 base H [.v (A #[S sa sl sc, S ta tl tc]), .v (B up)] [] K) = (
 ∀ a:Nat,Y Tryz.prog 64 [A #[S sa sl sc,S ta tl tc]] H fun b c =>∃ d e g h i j k l m n,b = T #[A #[S d e g,S h i j],S k l m,I Z n]/\ (X base H c->∀ o:Nat,(fun w1:LB=>∃ p:Prop,((n = 0->(up = true->w1 = w1/\ SubH c c/\ (p↔0 < (tl:Int)))/\ (up = false->w1 = w1/\ SubH c c/\ ¬p))/\ (¬n = 0->w1 = w1/\ SubH c c/\ ¬p))/\ (p->K (T #[S none 0 0,I Z 4]) [] c)/\ (¬p->K (T #[S k l m,I Z n]) [] c)) [J a false 35 [S sa sl sc,S ta tl tc],J o false 35 [S d e g,S h i j]])) := by kernel_rfl
theorem vx105 (id bud : Int) (fa ra wa : O) (fl fc rl rc wl wc : Nat) (now goal nx : Int) (back : Bool) (la ka : O) (ll lc kl kc : Nat) (sa ta : O) (sl sc tl tc : Nat) (up : Bool) (na ma : O) (nl nc ml mc : Nat) (base : Nat) (H : Heap) (K : KT) :
 (fV TryzMutsJ Tryz.f105 base H [.v (A #[I Z id, S fa fl fc, S ra rl rc, S wa wl wc, I Z bud, S la ll lc, I Z now, I Z goal, B back, S ka kl kc, I Z nx, S sa sl sc, S ta tl tc, B up, S na nl nc, S ma ml mc])] [] K) = (
 (fun w5:AV=>(fun w4:AV=>(fun w3:LV=>∀ a:Nat,Y Tryz.prog 189 [A #[S sa sl sc,S ta tl tc],B up] H fun b c =>∃ d e g h,b = T #[S d e g,I Z h]/\ (X base H c->(¬h = 0->K (I Z h) [] c)/\ (¬¬h = 0->(up = false->Y Tryz.prog 66 [A w5,S none 0 0] c fun i j =>∃ k l m n o p q r s t u,i = T #[A #[S k l m,I Z n,I Z o,B p,S q r s,I Z t],I Z u]/\ (X base c j->∀ v:Nat,(fun w1:LB=>∃ w:Prop,((u = 0->Y Tryz.prog 36 [A #[S k l m,I Z n,I Z o,B p,S q r s,I Z t],A w4] j fun x y =>∃ z,x = B z/\ (X base j y->w1 = w1/\ SubH j y/\ (w↔z = false)))/\ (¬u = 0->w1 = w1/\ SubH j j/\ ¬w))/\ (w->K (I Z 4) [] j)/\ (¬w->K (I Z u) [] j)) [J a false 41 w3,J v false 32 [S k l m,I Z n,I Z o,B p,S q r s,I Z t]]))/\ (¬up = false->Y Tryz.prog 66 [A w5,S d e g] c fun i j =>∃ k l m n o p q r s t u,i = T #[A #[S k l m,I Z n,I Z o,B p,S q r s,I Z t],I Z u]/\ (X base c j->∀ v:Nat,(fun w2:LB=>∃ w:Prop,((u = 0->Y Tryz.prog 36 [A #[S k l m,I Z n,I Z o,B p,S q r s,I Z t],A w4] j fun x y =>∃ z,x = B z/\ (X base j y->w2 = w2/\ SubH j y/\ (w↔z = false)))/\ (¬u = 0->w2 = w2/\ SubH j j/\ ¬w))/\ (w->K (I Z 4) [] j)/\ (¬w->K (I Z u) [] j)) [J a false 41 w3,J v false 32 [S k l m,I Z n,I Z o,B p,S q r s,I Z t]]))))) [I Z id,S fa fl fc,S ra rl rc,S wa wl wc,I Z bud,S la ll lc,I Z now,I Z goal,B back,S ka kl kc,I Z nx,S sa sl sc,S ta tl tc,B up,S na nl nc,S ma ml mc]) #[S la ll lc,I Z now,I Z goal,B back,S ka kl kc,I Z nx]) #[I Z id,S fa fl fc,S ra rl rc,S wa wl wc,I Z bud]) := by kernel_rfl
theorem vx106 (id bud : Int) (fa ra wa : O) (fl fc rl rc wl wc : Nat) (now goal nx : Int) (back : Bool) (la ka : O) (ll lc kl kc : Nat) (sa ta : O) (sl sc tl tc : Nat) (up : Bool) (na ma : O) (nl nc ml mc : Nat) (aat tr gid : Int) (going good : Bool) (xa ga : O) (xl xc gl gc : Nat) (ua va : O) (ul uc vl vc : Nat) (nup : Bool) (base : Nat) (H : Heap) (K : KT) :
 (fV TryzMutsJ Tryz.f106 base H [.v (A #[I Z id, S fa fl fc, S ra rl rc, S wa wl wc, I Z bud, S la ll lc, I Z now, I Z goal, B back, S ka kl kc, I Z nx, S sa sl sc, S ta tl tc, B up, S na nl nc, S ma ml mc]), .v (A #[S xa xl xc, I Z aat, I Z tr, B going, I Z gid, S ga gl gc, B good, S ua ul uc, S va vl vc, B nup])] [] K) = (
 (fun w5:AV=>(fun w4:LV=>(fun w3:LV=>∀ a b:Nat,Y Tryz.prog 189 [A #[S ua ul uc,S va vl vc],B nup] H fun c d =>∃ e g h i,c = T #[S e g h,I Z i]/\ (X base H d->(¬i = 0->K (I Z i) [] d)/\ (¬¬i = 0->(nup = false->Y Tryz.prog 67 [A #[I Z id,S fa fl fc],S none 0 0] d fun j k =>∃ l m n o p q r s t u v w,j = T #[A #[S l m n,I Z o,I Z p,B q,I Z r,S s t u,B v],I Z w]/\ (X base d k->∀ x:Nat,(fun w1:LB=>∃ y:Prop,((w = 0->Y Tryz.prog 38 [A #[S l m n,I Z o,I Z p,B q,I Z r,S s t u,B v],A w5] k fun z a1 =>∃ b1,z = B b1/\ (X base k a1->w1 = w1/\ SubH k a1/\ (y↔b1 = false)))/\ (¬w = 0->w1 = w1/\ SubH k k/\ ¬y))/\ (y->K (I Z 4) [] k)/\ (¬y->K (I Z w) [] k)) [J a false 41 w3,J b false 58 w4,J x false 46 [S l m n,I Z o,I Z p,B q,I Z r,S s t u,B v]]))/\ (¬nup = false->Y Tryz.prog 67 [A #[I Z id,S fa fl fc],S e g h] d fun j k =>∃ l m n o p q r s t u v w,j = T #[A #[S l m n,I Z o,I Z p,B q,I Z r,S s t u,B v],I Z w]/\ (X base d k->∀ x:Nat,(fun w2:LB=>∃ y:Prop,((w = 0->Y Tryz.prog 38 [A #[S l m n,I Z o,I Z p,B q,I Z r,S s t u,B v],A w5] k fun z a1 =>∃ b1,z = B b1/\ (X base k a1->w2 = w2/\ SubH k a1/\ (y↔b1 = false)))/\ (¬w = 0->w2 = w2/\ SubH k k/\ ¬y))/\ (y->K (I Z 4) [] k)/\ (¬y->K (I Z w) [] k)) [J a false 41 w3,J b false 58 w4,J x false 46 [S l m n,I Z o,I Z p,B q,I Z r,S s t u,B v]]))))) [I Z id,S fa fl fc,S ra rl rc,S wa wl wc,I Z bud,S la ll lc,I Z now,I Z goal,B back,S ka kl kc,I Z nx,S sa sl sc,S ta tl tc,B up,S na nl nc,S ma ml mc]) [S xa xl xc,I Z aat,I Z tr,B going,I Z gid,S ga gl gc,B good,S ua ul uc,S va vl vc,B nup]) #[S xa xl xc,I Z aat,I Z tr,B going,I Z gid,S ga gl gc,B good]) := by kernel_rfl
theorem vx31 (id bud : Int) (fa ra wa : O) (fl fc rl rc wl wc : Nat) (now goal nx : Int) (back : Bool) (la ka : O) (ll lc kl kc : Nat) (sa ta : O) (sl sc tl tc : Nat) (up : Bool) (na ma : O) (nl nc ml mc : Nat) (base : Nat) (H : Heap) (K : KT) :
 (fV TryzMutsJ Tryz.f31 base H [.v (A #[I Z id, S fa fl fc, S ra rl rc, S wa wl wc, I Z bud, S la ll lc, I Z now, I Z goal, B back, S ka kl kc, I Z nx, S sa sl sc, S ta tl tc, B up, S na nl nc, S ma ml mc])] [] K) = (
 (fun w3:LV=>(fun w2:LL=>∀ a:Nat,Y Tryz.prog 101 w3 H fun b c =>∃ d,b = I Z d/\ (X base H c->(¬d = 0->K (I Z d) [] c)/\ (¬¬d = 0->Y Tryz.prog 88 w3 c fun e g =>∃ h,e = I Z h/\ (X base c g->(¬(nl:Int) = h->K (I Z 4) [] g)/\ (¬¬(nl:Int) = h->Y Tryz.prog 102 [S ma ml mc] g fun i j =>∃ k,i = I Z k/\ (X base g j->(¬k = 0->K (I Z k) [] j)/\ (¬¬k = 0->true = true/\ ∀ l:Heap,X 0 j l->l a = some (boxKB 41 [I Z id,S fa fl fc,S ra rl rc,S wa wl wc,I Z bud,S la ll lc,I Z now,I Z goal,B back,S ka kl kc,I Z nx,S sa sl sc,S ta tl tc,B up,S na nl nc,S ma ml mc])/\ True->Y Tryz.prog 103 [S ma ml mc,Value.func (Fn.func 104) #[] #[P (some (D a 0 none))]] l fun m n =>∃ o,m = B o/\ ∀ p,X base j p->(∀ (q:Nat) (r:KB),n q = some r->(∀ s:Bx,s ∈ [J a false 41 [I Z id,S fa fl fc,S ra rl rc,S wa wl wc,I Z bud,S la ll lc,I Z now,I Z goal,B back,S ka kl kc,I Z nx,S sa sl sc,S ta tl tc,B up,S na nl nc,S ma ml mc]]->q ≠ Bx.b s)->p q = some r)->(o = true->K (I Z 5) [] p)/\ (o = false->Y Tryz.prog 105 [A #[I Z id,S fa fl fc,S ra rl rc,S wa wl wc,I Z bud,S la ll lc,I Z now,I Z goal,B back,S ka kl kc,I Z nx,S sa sl sc,S ta tl tc,B up,S na nl nc,S ma ml mc]] p fun q r =>∃ s,q = I Z s/\ (X base p r->(¬s = 0->K (I Z s) [] r)/\ (¬¬s = 0->∃ (t:LI) (u:LM),t [I Z 0,I Z 0] r/\ ∀ (v w:Int) (x:Heap),X base H x->t [I Z v,I Z w] x->(w < (nl:Int)->∃ y z,na = some (D y z none)/\ 0 <= w/\ w < (nl:Int)/\ ∃ (a1:O) (b1 c1:Nat) (d1 e1:Int) (f1:Bool) (g1:Int) (h1:O) (i1 j1:Nat) (k1:Bool) (l1:O) (m1 n1:Nat) (o1:O) (p1 q1:Nat) (r1:Bool),(C x y (z + N w * 10) = some (S a1 b1 c1)/\ C x y (z + N w * 10 + 1) = some (I Z d1)/\ C x y (z + N w * 10 + 2) = some (I Z e1)/\ C x y (z + N w * 10 + 3) = some (B f1)/\ C x y (z + N w * 10 + 4) = some (I Z g1)/\ C x y (z + N w * 10 + 5) = some (S h1 i1 j1)/\ C x y (z + N w * 10 + 6) = some (B k1)/\ C x y (z + N w * 10 + 7) = some (S l1 m1 n1)/\ C x y (z + N w * 10 + 8) = some (S o1 p1 q1)/\ C x y (z + N w * 10 + 9) = some (B r1)/\ True)/\ ∀ s1:Nat,Y Tryz.prog 106 [A #[I Z id,S fa fl fc,S ra rl rc,S wa wl wc,I Z bud,S la ll lc,I Z now,I Z goal,B back,S ka kl kc,I Z nx,S sa
 sl sc,S ta tl tc,B up,S na nl nc,S ma ml mc],A #[S a1 b1 c1,I Z d1,I Z e1,B f1,I Z g1,S h1 i1 j1,B k1,S l1 m1 n1,S o1 p1 q1,B r1]] x fun t1 u1 =>∃ v1,t1 = I Z v1/\ (X base x u1->(¬v1 = 0->K (I Z v1) [] u1)/\ (¬¬v1 = 0->∀ w1:Int,w1 = W Z (w + 1)->w2 = w2/\ t [I Z v,I Z w1] u1/\ u [I Z v,I Z w1] < u [I Z v,I Z w])))/\ (¬w < (nl:Int)->K (I Z 0) [] x))))))))))) [[I Z id,S fa fl fc,S ra rl rc,S wa wl wc,I Z bud,S la ll lc,I Z now,I Z goal,B back,S ka kl kc,I Z nx,S sa sl sc,S ta tl tc,B up,S na nl nc,S ma ml mc]]) [A #[I Z id,S fa fl fc,S ra rl rc,S wa wl wc,I Z bud]]) := by kernel_rfl
theorem vx17 (id bud : Int) (fa ra wa : O) (fl fc rl rc wl wc : Nat) (now goal nx : Int) (back : Bool) (la ka : O) (ll lc kl kc : Nat) (sa ta : O) (sl sc tl tc : Nat) (up : Bool) (na ma : O) (nl nc ml mc : Nat) (base : Nat) (H : Heap) (K : KT) :
 (fV TryzMutsJ Tryz.f17 base H [.v (A #[I Z id, S fa fl fc, S ra rl rc, S wa wl wc, I Z bud, S la ll lc, I Z now, I Z goal, B back, S ka kl kc, I Z nx, S sa sl sc, S ta tl tc, B up, S na nl nc, S ma ml mc])] [] K) = (
 ∀ a b:Nat,Y Tryz.prog 31 [A #[I Z id,S fa fl fc,S ra rl rc,S wa wl wc,I Z bud,S la ll lc,I Z now,I Z goal,B back,S ka kl kc,I Z nx,S sa sl sc,S ta tl tc,B up,S na nl nc,S ma ml mc]] H fun c d =>∃ e,c = I Z e/\ (X base H d->(¬e = 0->K (T #[A #[S none 0 0,I Z 0,I Z 0,B false,S none 0 0,I Z 0],I Z e]) [] d)/\ (¬¬e = 0->Y Tryz.prog 64 [A #[S sa sl sc,S ta tl tc]] d fun g h =>∃ i j k l m n o p q r,g = T #[A #[S i j k,S l m n],S o p q,I Z r]/\ (X base d h->∀ s:Nat,Y Tryz.prog 66 [A #[I Z id,S fa fl fc,S ra rl rc,S wa wl wc,I Z bud],S o p q] h fun t u =>∃ (v:O) (w x:Nat) (y z:Int) (a1:Bool) (b1:O) (c1 d1:Nat) (e1 f1:Int),(fun w1:AV=>t = T w1/\ (X base h u->K (T w1) [] u)) #[A #[S v w x,I Z y,I Z z,B a1,S b1 c1 d1,I Z e1],I Z f1])))) := by kernel_rfl
theorem vx18 (id bud : Int) (fa ra wa : O) (fl fc rl rc wl wc : Nat) (now goal nx : Int) (back : Bool) (la ka : O) (ll lc kl kc : Nat) (sa ta : O) (sl sc tl tc : Nat) (up : Bool) (na ma : O) (nl nc ml mc : Nat) (k : Int) (base : Nat) (H : Heap) (K : KT) :
 (fV TryzMutsJ Tryz.f18 base H [.v (A #[I Z id, S fa fl fc, S ra rl rc, S wa wl wc, I Z bud, S la ll lc, I Z now, I Z goal, B back, S ka kl kc, I Z nx, S sa sl sc, S ta tl tc, B up, S na nl nc, S ma ml mc]), .v (I Z k)] [] K) = (
 ∀ a b:Nat,(fun w2:LB=>Y Tryz.prog 31 [A #[I Z id,S fa fl fc,S ra rl rc,S wa wl wc,I Z bud,S la ll lc,I Z now,I Z goal,B back,S ka kl kc,I Z nx,S sa sl sc,S ta tl tc,B up,S na nl nc,S ma ml mc]] H fun c d =>∃ e,c = I Z e/\ (X base H d->(¬e = 0->K (T #[A #[S none 0 0,I Z 0,I Z 0,B false,I Z 0,S none 0 0,B false],I Z e]) [] d)/\ (¬¬e = 0->∃ g:Prop,((k < 0->w2 = w2/\ SubH d d/\ g)/\ (¬k < 0->w2 = w2/\ SubH d d/\ (g↔(nl:Int) <= k)))/\ (g->K (T #[A #[S none 0 0,I Z 0,I Z 0,B false,I Z 0,S none 0 0,B false],I Z 5]) [] d)/\ (¬g->∃ h i,na = some (D h i none)/\ 0 <= k/\ k < (nl:Int)/\ ∃ (j:O) (l m:Nat) (n:O) (o p:Nat),(C d h (i + N k * 10 + 7) = some (S j l m)/\ C d h (i + N k * 10 + 7 + 1) = some (S n o p)/\ True)/\ Y Tryz.prog 64 [A #[S j l m,S n o p]] d fun q r =>∃ s t u v w x y z a1 b1,q = T #[A #[S s t u,S v w x],S y z a1,I Z b1]/\ (X base d r->∀ c1:Nat,Y Tryz.prog 67 [A #[I Z id,S fa fl fc],S y z a1] r fun d1 e1 =>∃ (f1:O) (g1 h1:Nat) (i1 j1:Int) (k1:Bool) (l1:Int) (m1:O) (n1 o1:Nat) (p1:Bool) (q1:Int),(fun w1:AV=>d1 = T w1/\ (X base r e1->K (T w1) [] e1)) #[A #[S f1 g1 h1,I Z i1,I Z j1,B k1,I Z l1,S m1 n1 o1,B p1],I Z q1]))))) [J a false 41 [I Z id,S fa fl fc,S ra rl rc,S wa wl wc,I Z bud,S la ll lc,I Z now,I Z goal,B back,S ka kl kc,I Z nx,S sa sl sc,S ta tl tc,B up,S na nl nc,S ma ml mc],J b false 46 [S none 0 0,I Z 0,I Z 0,B false,I Z 0,S none 0 0,B false]]) := by kernel_rfl
theorem vx188 (a : O) (l c p : Nat) (base : Nat) (H : Heap) (K : KT) :
 (fV TryzMutsJ Tryz.f188 base H [.v (S a l c), .v (.func (.func 104) #[] #[.pointer (some ⟨p, 0, none⟩)])] [] K) = (
 ∃ (b:LI) (d:LM),b [I Z 0,I Z 0] H/\ ∀ (e g:Int) (h:Heap),X base H h->b [I Z e,I Z g] h->(g < (l:Int)->∃ i j,a = some (D i j none)/\ 0 <= g/\ g < (l:Int)/\ ∃ (k m:Int) (n o:Bool) (q:Int) (r:O) (s t:Nat),(C h i (j + N g * 6) = some (I Z k)/\ C h i (j + N g * 6 + 1) = some (I Z m)/\ C h i (j + N g * 6 + 2) = some (B n)/\ C h i (j + N g * 6 + 3) = some (B o)/\ C h i (j + N g * 6 + 4) = some (I Z q)/\ C h i (j + N g * 6 + 5) = some (S r s t)/\ True)/\ Y Tryz.prog 104 [A #[I Z k,I Z m,B n,B o,I Z q,S r s t],P (some (D p 0 none))] h fun u v =>∃ w,u = B w/\ (X base h v->(w = true->K (I Z g) [] v)/\ (w = false->∀ x:Int,x = W Z (g + 1)->b [I Z e,I Z x] v/\ d [I Z e,I Z x] < d [I Z e,I Z g])))/\ (¬g < (l:Int)->K (I Z (-1)) [] h)) := by kernel_rfl
theorem vx103 (a : O) (l c p : Nat) (base : Nat) (H : Heap) (K : KT) :
 (fV TryzMutsJ Tryz.f103 base H [.v (S a l c), .v (.func (.func 104) #[] #[.pointer (some ⟨p, 0, none⟩)])] [] K) = (
 Y Tryz.prog 188 [S a l c,Value.func (Fn.func 104) #[] #[P (some (D p 0 none))]] H fun b d =>∃ e,b = I Z e/\ (X base H d->K (B (decide (0 <= e))) [] d)) := by kernel_rfl
theorem vx104 (mg mt mid : Int) (mr mgd : Bool) (pa : O) (pl pc : Nat) (p : Nat) (base : Nat) (H : Heap) (K : KT) :
 (fV TryzMutsJ Tryz.f104 base H [.v (A #[I Z mg, I Z mt, B mr, B mgd, I Z mid, S pa pl pc]), .v (.pointer (some ⟨p, 0, none⟩))] [] K) = (
 ∀ a:Nat,∃ b c d,C H p 14 = some (S b c d)/\ K (B (decide ((c:Int) <= mg))) [] H) := by kernel_rfl
open Go Go.Proofs
theorem neqBool {xo yo : Operand} {a b : Bool} : RunsTo Tryz.prog (binRun .neq 4 xo yo (.bool a) (.bool b)) (.bool (a != b)) := by
 intro w
 have hg : (eqGuard .neq 4 xo yo (.bool a) (.bool b)).run Tryz.prog w = .ok () w := by simp [eqGuard]
 simp only [binRun, Sem.run_bind, hg, Result.andThen_ok]
 have := run_equal_bool w 4 a b Tryz.underlying4
 simp [binOp, this]
 cases a <;> cases b <;> rfl
open Go Go.Proofs
theorem vc67 (a ga : O) (l c gl gc : Nat) (at_ tr gid : Int) (go gd : Bool) (base : Nat) (H : Heap) (K : KT) :
 (fV TryzMutsJ Tryz.f233 base H [.v (A #[S a l c, I Z at_, I Z tr, B go, I Z gid, S ga gl gc, B gd])] [] K) = (
 ∀ b:Nat,(fun w1:LB=>Y Tryz.prog 140 [S a l c] H fun d e =>∃ g,d = I Z g/\ (X base H e->(¬g = 0->K (I Z g) [] e)/\ (¬¬g = 0->∃ h:Prop,((at_ < 1->w1 = w1/\ SubH e e/\ h)/\ (¬at_ < 1->(6 < at_->w1 = w1/\ SubH e e/\ h)/\ (¬6 < at_->(tr < 0->w1 = w1/\ SubH e e/\ h)/\ (¬tr < 0->w1 = w1/\ SubH e e/\ (h↔200 < tr)))))/\ (h->K (I Z 3) [] e)/\ (¬h->(go = true->∃ i:Prop,((tr = 0->w1 = w1/\ SubH e e/\ i)/\ (¬tr = 0->w1 = w1/\ SubH e e/\ (i↔gd = true)))/\ (i->K (I Z 4) [] e)/\ (¬i->Y Tryz.prog 167 [A #[I Z gid,S ga gl gc]] e fun j k =>∃ m,j = I Z m/\ (X base e k->K (I Z m) [] k)))/\ (go = false->∃ i:Prop,((¬gid = 0->w1 = w1/\ SubH e e/\ i)/\ (¬¬gid = 0->w1 = w1/\ SubH e e/\ (i↔0 < (gl:Int))))/\ (i->K (I Z 4) [] e)/\ (¬i->K (I Z 0) [] e)))))) [J b false 46 [S a l c,I Z at_,I Z tr,B go,I Z gid,S ga gl gc,B gd]]) := by kernel_rfl
theorem vc125 (a ga : O) (l c gl gc : Nat) (at_ tr gid : Int) (go gd : Bool) (base : Nat) (H : Heap) (K : KT) :
 (fV TryzMutsJ Tryz.f173 base H [.v (A #[S a l c, I Z at_, I Z tr, B go, I Z gid, S ga gl gc, B gd])] [] K) = (
 ∀ b d:Nat,Y Tryz.prog 163 [S a l c] H fun e g =>∃ h i j,e = S h i j/\ (X base H g->Y Tryz.prog 163 [S ga gl gc] g fun k m =>∃ n o p,k = S n o p/\ (X base g m->K (A #[S h i j,I Z at_,I Z tr,B go,I Z gid,S n o p,B gd]) [] m))) := by kernel_rfl
theorem vc70 (a ga : O) (l c gl gc : Nat) (at_ tr gid : Int) (go gd : Bool) (base : Nat) (H : Heap) (K : KT) :
 (fV TryzMutsJ Tryz.f203 base H [.v (A #[S a l c, I Z at_, I Z tr, B go, I Z gid, S ga gl gc, B gd])] [] K) = (
 ∀ b:Nat,Y Tryz.prog 233 [A #[S a l c,I Z at_,I Z tr,B go,I Z gid,S ga gl gc,B gd]] H fun d e =>∃ g,d = I Z g/\ (X base H e->(¬g = 0->K (T #[S none 0 0,I Z g]) [] e)/\ (¬¬g = 0->(go = false->K (T #[S none 0 0,I Z 0]) [] e)/\ (¬go = false->Y Tryz.prog 57 [S a l c,S ga gl gc] e fun h i =>∃ j k m n,h = T #[S j k m,I Z n]/\ (X base e i->K (T #[S j k m,I Z n]) [] i))))) := by kernel_rfl
theorem vc71 (id : Int) (a : O) (l c : Nat) (base : Nat) (H : Heap) (K : KT) :
 (fV TryzMutsJ Tryz.f89 base H [.v (A #[I Z id, S a l c])] [] K) = (
 ∀ b d:Nat,Y Tryz.prog 167 [A #[I Z id,S a l c]] H fun e g =>∃ h,e = I Z h/\ (X base H g->(¬h = 0->K (T #[A #[S none 0 0,I Z 0,I Z 0,B false,I Z 0,S none 0 0,B false],I Z h]) [] g)/\ (¬¬h = 0->Y Tryz.prog 163 [S a l c] g fun i j =>∃ k m n,i = S k m n/\ (X base g j->K (T #[A #[S k m n,I Z id,I Z 0,B false,I Z 0,S none 0 0,B true],I Z 0]) [] j)))) := by kernel_rfl
theorem vc75 (a ga a' ga' : O) (l c gl gc l' c' gl' gc' : Nat) (at_ tr gid at_' tr' gid' : Int) (go gd go' gd' : Bool) (base : Nat) (H : Heap) (K : KT) :
 (fV TryzMutsJ Tryz.f38 base H [.v (A #[S a l c, I Z at_, I Z tr, B go, I Z gid, S ga gl gc, B gd]), .v (A #[S a' l' c', I Z at_', I Z tr', B go', I Z gid', S ga' gl' gc', B gd'])] [] K) = (
 ∀ b d:Nat,(fun w1:LB=>∃ e:Prop,(Y Tryz.prog 47 [S a l c,S a' l' c'] H fun g h =>∃ i,g = B i/\ (X base H h->(i = true->(at_ = at_'->(tr = tr'->∃ j,RunsTo Tryz.prog (binRun BinOp.eql 4 (Operand.tmp 26) (Operand.tmp 28) (B go) (B go')) (B j)/\ (j = true->∃ k,RunsTo Tryz.prog (binRun BinOp.eql 4 (Operand.tmp 33) (Operand.tmp 35) (B gd) (B gd')) (B k)/\ (k = true->Y Tryz.prog 56 [A #[I Z gid,S ga gl gc],A #[I Z gid',S ga' gl' gc']] h fun m n =>∃ o,m = B o/\ (X base h n->w1 = w1/\ SubH H n/\ (e↔o = true)))/\ (¬k = true->w1 = w1/\ SubH H h/\ ¬e))/\ (¬j = true->w1 = w1/\ SubH H h/\ ¬e))/\ (¬tr = tr'->w1 = w1/\ SubH H h/\ ¬e))/\ (¬at_ = at_'->w1 = w1/\ SubH H h/\ ¬e))/\ (i = false->w1 = w1/\ SubH H h/\ ¬e)))/\ K (B (@decide e (Classical.propDecidable e))) [] H) [J b false 46 [S a l c,I Z at_,I Z tr,B go,I Z gid,S ga gl gc,B gd],J d false 46 [S a' l' c',I Z at_',I Z tr',B go',I Z gid',S ga' gl' gc',B gd']]) := by kernel_rfl
theorem vc69 (a ga ra : O) (l c gl gc rl rc : Nat) (at_ tr gid kd ag tr' n id : Int) (go gd gd' : Bool) (base : Nat) (H : Heap) (K : KT) :
 (fV TryzMutsJ Tryz.f145 base H [.v (A #[S a l c, I Z at_, I Z tr, B go, I Z gid, S ga gl gc, B gd]), .v (A #[I Z kd, I Z ag, I Z tr', I Z n, B gd', I Z id, S ra rl rc])] [] K) = (
 (fun w5:LV=>(fun w4:AV=>(fun w3:AV=>∀ b d e:Nat,Y Tryz.prog 203 w5 H fun g h =>∃ i j k m,g = T #[S i j k,I Z m]/\ (X base H h->(¬m = 0->K (T #[A #[S none 0 0,I Z 0,I Z 0,B false,I Z 0,S none 0 0,B false],I Z m]) [] h)/\ (¬¬m = 0->Y Tryz.prog 198 [A #[I Z kd,I Z ag,I Z tr',I Z n,B gd',I Z id,S ra rl rc]] h fun o p =>∃ q,o = I Z q/\ (X base h p->(¬q = 0->K (T #[A #[S none 0 0,I Z 0,I Z 0,B false,I Z 0,S none 0 0,B false],I Z q]) [] p)/\ (¬¬q = 0->Y Tryz.prog 173 w5 p fun r s =>∃ t u v w x y z,(fun w2:AV=>∃ a1 b1 c1 d1,(fun w1:LB=>r = A #[S t u v,I Z w,I Z x,B y,I Z z,S a1 b1 c1,B d1]/\ (X base p s->(kd = 1->(tr' <= x->K (T w3) [] s)/\ (¬tr' <= x->Y Tryz.prog 163 [S ra rl rc] s fun e1 f1 =>∃ g1 h1 i1,e1 = S g1 h1 i1/\ (X base s f1->K (T #[A #[S t u v,I Z w,I Z tr',B true,I Z id,S g1 h1 i1,B false],I Z 0]) [] f1)))/\ (¬kd = 1->(kd = 2->(kd = 2->∃ e1:Prop,((y = false->w1 = w1/\ SubH s s/\ e1)/\ (¬y = false->(¬tr' = x->w1 = w1/\ SubH s s/\ e1)/\ (¬¬tr' = x->∃ f1,RunsTo Tryz.prog (binRun BinOp.neq 4 (Operand.tmp 68) (Operand.tmp 71) (B (decide (0 < (j:Int)))) (B (decide (kd = 2)))) (B f1)/\ w1 = w1/\ SubH s s/\ (e1↔f1 = true))))/\ (e1->K (T w3) [] s)/\ (¬e1->(kd = 2->∃ f1 g1,i = some (D f1 g1 none)/\ Int.ofNat 0 <= 0/\ 0 < (j:Int)/\ ∃ h1 i1 j1:Int,(C s f1 (g1 + 0 * 3) = some (I Z h1)/\ C s f1 (g1 + 0 * 3 + 1) = some (I Z i1)/\ C s f1 (g1 + 0 * 3 + 2) = some (I Z j1)/\ True)/\ Y Tryz.prog 204 [S t u v,A #[I Z h1,I Z i1,I Z j1]] s fun k1 l1 =>∃ m1 n1 o1 p1,k1 = T #[S m1 n1 o1,I Z p1]/\ (X base s l1->K (T #[A #[S m1 n1 o1,I Z w,I Z x,B y,I Z z,S a1 b1 c1,B d1],I Z p1]) [] l1))/\ (¬kd = 2->K (T w2) [] s/\ K (T w2) [] s/\ K (T w2) [] s/\ K (T w2) [] s)))/\ (¬kd = 2->K (T w4) [] s))/\ (¬kd = 2->(kd = 3->∃ e1:Prop,((y = false->w1 = w1/\ SubH s s/\ e1)/\ (¬y = false->(¬tr' = x->w1 = w1/\ SubH s s/\ e1)/\ (¬¬tr' = x->∃ f1,RunsTo Tryz.prog (binRun BinOp.neq 4 (Operand.tmp 68) (Operand.tmp 71) (B (decide (0 < (j:Int)))) (B (decide (kd = 2)))) (B f1)/\ w1 = w1/\ SubH s s/\ (e1↔f1 = true))))/\ (e1->K (T w3) [] s)/\ (¬e1->(kd = 2->∃ f1 g1,i = some (D f1 g1 none)/\ Int.ofNat 0 <= 0/\ 0 < (j:Int)/\ ∃ h1 i1 j1:Int,(C s f1
 (g1 + 0 * 3) = some (I Z h1)/\ C s f1 (g1 + 0 * 3 + 1) = some (I Z i1)/\ C s f1 (g1 + 0 * 3 + 2) = some (I Z j1)/\ True)/\ Y Tryz.prog 204 [S t u v,A #[I Z h1,I Z i1,I Z j1]] s fun k1 l1 =>∃ m1 n1 o1 p1,k1 = T #[S m1 n1 o1,I Z p1]/\ (X base s l1->K (T #[A #[S m1 n1 o1,I Z w,I Z x,B y,I Z z,S a1 b1 c1,B d1],I Z p1]) [] l1))/\ (¬kd = 2->K (T w2) [] s/\ K (T w2) [] s/\ K (T w2) [] s/\ K (T w2) [] s)))/\ (¬kd = 3->K (T w4) [] s))))) [J b false 46 [S t u v,I Z w,I Z x,B y,I Z z,S a1 b1 c1,B d1],J d false 126 [I Z kd,I Z ag,I Z tr',I Z n,B gd',I Z id,S ra rl rc],J e false 46 [S none 0 0,I Z 0,I Z 0,B false,I Z 0,S none 0 0,B false]]) #[A #[S t u v,I Z z,I Z x,B false,I Z 0,S none 0 0,B gd'],I Z 0]))))) #[A #[S none 0 0,I Z 0,I Z 0,B false,I Z 0,S none 0 0,B false],I Z 7]) #[A #[S none 0 0,I Z 0,I Z 0,B false,I Z 0,S none 0 0,B false],I Z 4]) [A #[S a l c,I Z at_,I Z tr,B go,I Z gid,S ga gl gc,B gd]]) := by kernel_rfl
theorem vc63 (id : Int) (a a' : O) (l c l' c' : Nat) (base : Nat) (H : Heap) (K : KT) :
 (fV TryzMutsJ Tryz.f67 base H [.v (A #[I Z id, S a l c]), .v (S a' l' c')] [] K) = (
 (fun w7:AV=>∀ b d:Nat,Y Tryz.prog 89 [A #[I Z id,S a l c]] H fun e g =>∃ h i j k m n o p q r s t,e = T #[A #[S h i j,I Z k,I Z m,B n,I Z o,S p q r,B s],I Z t]/\ (X base H g->∀ u:Nat,(¬t = 0->K (T #[A w7,I Z t]) [] g)/\ (¬¬t = 0->(200 < (l':Int)->K (T #[A w7,I Z 2]) [] g)/\ (¬200 < (l':Int)->∃ (v:LI) (w:LM),v [I Z 0,I Z t,I Z 0,A w7,A #[S h i j,I Z k,I Z m,B n,I Z o,S p q r,B s]] g/\ ∀ (x y z:Int) (a1:O) (b1 c1:Nat) (d1 e1:Int) (f1:Bool) (g1:Int) (h1:O) (i1 j1:Nat) (k1:Bool) (l1:O) (m1 n1:Nat) (o1 p1:Int) (q1:Bool) (r1:Int) (s1:O) (t1 u1:Nat) (v1:Bool) (w1:Heap),(fun w6:AV=>(fun w5:AV=>X base H w1->v [I Z x,I Z y,I Z z,A w6,A w5] w1->(z < (l':Int)->∃ x1 y1,a' = some (D x1 y1 none)/\ 0 <= z/\ z < (l':Int)/\ ∃ (z1 a2 b2 c2:Int) (d2:Bool) (e2:Int) (f2:O) (g2 h2:Nat),(C w1 x1 (y1 + N z * 7) = some (I Z z1)/\ C w1 x1 (y1 + N z * 7 + 1) = some (I Z a2)/\ C w1 x1 (y1 + N z * 7 + 2) = some (I Z b2)/\ C w1 x1 (y1 + N z * 7 + 3) = some (I Z c2)/\ C w1 x1 (y1 + N z * 7 + 4) = some (B d2)/\ C w1 x1 (y1 + N z * 7 + 5) = some (I Z e2)/\ C w1 x1 (y1 + N z * 7 + 6) = some (S f2 g2 h2)/\ True)/\ ∀ i2:Nat,Y Tryz.prog 145 [A w5,A #[I Z z1,I Z a2,I Z b2,I Z c2,B d2,I Z e2,S f2 g2 h2]] w1 fun j2 k2 =>∃ (l2:O) (m2 n2:Nat) (o2 p2:Int) (q2:Bool) (r2:Int) (s2:O) (t2 u2:Nat) (v2:Bool),(fun w4:AV=>∃ w2,j2 = T #[A w4,I Z w2]/\ (X base w1 k2->(¬w2 = 0->K (T #[A w7,I Z w2]) [] k2)/\ (¬¬w2 = 0->∀ x2:Int,(fun w3:LV=>x2 = W Z (z + 1)->[[I Z id,S a l c]] = [[I Z id,S a l c]]/\ v w3 k2/\ w w3 < w [I Z x,I Z y,I Z z,A w6,A w5]) [I Z x,I Z w2,I Z x2,A w6,A w4]))) #[S l2 m2 n2,I Z o2,I Z p2,B q2,I Z r2,S s2 t2 u2,B v2])/\ (¬z < (l':Int)->K (T #[A w5,I Z 0]) [] w1)) #[S l1 m1 n1,I Z o1,I Z p1,B q1,I Z r1,S s1 t1 u1,B v1]) #[S a1 b1 c1,I Z d1,I Z e1,B f1,I Z g1,S h1 i1 j1,B k1])))) #[S none 0 0,I Z 0,I Z 0,B false,I Z 0,S none 0 0,B false]) := by kernel_rfl
open Go Go.Proofs
section
variable {H : Heap} {a ga : O} {l c gl gc : Nat} {x : Agt}
theorem cAgtCheck (hp : Pins H a l x.lock) (hg : Pins H ga gl x.goal.lock) : Spec Tryz.prog 233 [agtArg x a l c ga gl gc] H fun v _ => v = i64 (agtErr x) := by
 refine TryzvcJ Tryz.func233 (by kernel_rfl) (by kernel_rfl) _ rfl (fun base K => vc67 a ga l c gl gc x.at_ x.try_ x.goal.id x.going x.good base H K) fun base hb => ?_
 have hgl := hg.len
 have hnr : noRel x.goal ↔ x.goal.id = 0/\ gl = 0 := by unfold noRel; rw [len_zero hgl]
 intro b
 refine (cLockCheck hp).int1 fun H1 e1 _ => ⟨fun h => by rw [agtErr, if_pos h], fun h => ?_⟩
 refine ⟨x.at_ < 1 ∨ 6 < x.at_ ∨ x.try_ < 0 ∨ 200 < x.try_, ?_, fun h2 => by rw [agtErr, if_neg h, if_pos h2], fun h2 => ⟨fun hgo => ?_, fun hgo => ?_⟩⟩
 ·repeat' (first | exact ⟨rfl, fun _ _ h => h, by omega⟩ | intro _ | refine ⟨?_, ?_⟩)
 ·refine ⟨x.try_ = 0 ∨ x.good = true, ⟨fun _ => ⟨rfl, fun _ _ h => h, by grind⟩, fun _ => ⟨rfl, fun _ _ h => h, by grind⟩⟩, fun h3 => by rw [agtErr, if_neg h, if_neg h2, if_pos hgo, if_pos h3], fun h3 => (cNoteRelease (hg.ext' e1) x.goal.id).int1 fun H2 _ _ => ?_⟩
  rw [agtErr, if_neg h, if_neg h2, if_pos hgo, if_neg h3]
 ·refine ⟨¬ (x.goal.id = 0/\ gl = 0), ⟨fun _ => ⟨rfl, fun _ _ h => h, by grind⟩, fun _ => ⟨rfl, fun _ _ h => h, by grind⟩⟩, fun h3 => ?_, fun h3 => ?_⟩
  ·rw [agtErr, if_neg h, if_neg h2, if_neg (by simp [hgo]), if_neg (by rw [hnr]; exact h3)]
  ·rw [agtErr, if_neg h, if_neg h2, if_neg (by simp [hgo]), if_pos (by rw [hnr]; exact Decidable.not_not.1 h3)]
theorem cLeft (hp : Pins H a l x.lock) (hg : Pins H ga gl x.goal.lock) : Spec Tryz.prog 203 [agtArg x a l c ga gl gc] H fun v H' => ∃ a n c, v = .tuple #[.slice a n c, i64 (agtErr x)]/\ Steps H' a n (if agtErr x = 0 then agtLeft x else []) := by
 refine TryzvcJ Tryz.func203 (by kernel_rfl) (by kernel_rfl) _ rfl (fun base K => vc70 a ga l c gl gc x.at_ x.try_ x.goal.id x.going x.good base H K) fun base hb => ?_
 intro b
 refine (cAgtCheck hp hg).int1 fun H1 e1 _ => ⟨fun h => ?_, fun h => ?_⟩
 ·rw [if_neg h]; exact ⟨none, 0, 0, rfl, Sl.nil⟩
 have h := Decidable.not_not.1 h
 rw [h, if_pos rfl]
 refine ⟨fun hgo => ⟨none, 0, 0, rfl, ?_⟩, fun hgo => ?_⟩
 ·rw [agtLeft, if_neg (by simp [hgo])]; exact Sl.nil
 ·have hz : diffErr x.lock x.goal.lock = 0 := diffErr_zero.2 ⟨(agtErr_zero h).1, agt_goal h⟩
  refine (cDiff (hp.ext' e1) (hg.ext' e1)).sl2 fun a2 n2 c2 H2 e2 _ hD => ?_
  rw [if_pos hz] at hD
  rw [hz]
  refine ⟨_, _, _, rfl, ?_⟩
  rw [agtLeft, if_pos (by simpa using hgo)]; exact hD
theorem pins_small (h : agtErr x = 0) : x.lock.length <= 12/\ x.goal.lock.length <= 12 := ⟨(agtErr_zero h).1.2, (agt_goal h).2⟩
theorem Fresh.pins {H H' : Heap} {a : O} {n c : Nat} {xs : List Pin} (h : Fresh H H' 91 2 a n c (xs.flatMap pinCells)) : Pins H' a n xs := Sl.ext REnc.mono (h.sl_new pinCells_len (by omega)) newOf_ext
theorem Spec.agt1 {P : Program} {f : FuncId} {args : List Value} {H : Heap} {x : Agt} (h : Spec P f args H fun v H' => ∃ a n c ga gn gc, v = agtArg x a n c ga gn gc/\ Pins H' a n x.lock/\ Pins H' ga gn x.goal.lock) {base : Nat}
  {G : O->Nat->Nat->Int->Int->Bool->Int->O->Nat->Nat->Bool->Heap->Prop} (hG : ∀ a n c ga gn gc H', Ext H H'->Next base H H'->Pins H' a n x.lock->Pins H' ga gn x.goal.lock->G a n c x.at_ x.try_ x.going x.goal.id ga gn gc x.good H') :
  Spec P f args H fun v H' => ∃ (a : O) (n c : Nat) (n2 n3 : Int) (b : Bool) (n4 : Int) (a2 : O) (n5 c1 : Nat) (b3 : Bool), v = .agg #[.slice a n c, .int .i64 n2, .int .i64 n3, .bool b, .int .i64 n4, .slice a2 n5 c1, .bool b3]/\ (Next base H H'->G a n c n2 n3 b n4 a2 n5 c1 b3 H') :=
 h.mono fun v H' ex hv => by
  obtain ⟨a, n, c, ga, gn, gc, h1, h2, h3⟩ := hv
  exact ⟨a, n, c, _, _, _, _, ga, gn, gc, _, h1, fun hN => hG a n c ga gn gc H' ex hN h2 h3⟩
theorem cAgtCopy (hp : Pins H a l x.lock) (hg : Pins H ga gl x.goal.lock) (h : agtErr x = 0) : Spec Tryz.prog 173 [agtArg x a l c ga gl gc] H fun v H' => ∃ a n c ga gn gc, v = agtArg x a n c ga gn gc/\ Pins H' a n x.lock/\ Pins H' ga gn x.goal.lock := by
 refine TryzvcJ Tryz.func173 (by kernel_rfl) (by kernel_rfl) _ rfl (fun base K => vc125 a ga l c gl gc x.at_ x.try_ x.goal.id x.going x.good base H K) fun base hb => ?_
 have hs := pins_small h
 have h1 := hp.len
 have h2 := hg.len
 intro b b1
 refine (cCloneJ hp (by omega)).mono fun v H1 e1 hv => ?_
 obtain ⟨a2, n2, c2, rfl, hF⟩ := hv
 refine ⟨a2, n2, c2, rfl, fun _ => (cCloneJ (hg.ext' e1) (by omega)).mono fun v H2 e2 hv => ?_⟩
 obtain ⟨a3, n3, c3, rfl, hF3⟩ := hv
 exact ⟨a3, n3, c3, rfl, fun _ => ⟨_, _, _, _, _, _, rfl, hF.pins.ext' e2, hF3.pins⟩⟩
end
theorem cNew {H : Heap} {a : O} {l c : Nat} {r : Rls} (hp : Pins H a l r.lock) : Spec Tryz.prog 89 [.agg #[.int .i64 r.id, .slice a l c]] H fun v H' => ∃ a n c ga gn gc, v = .tuple #[agtArg (if relErr r = 0 then newAgt r else noAgt) a n c ga gn gc, i64 (relErr r)]/\ Pins H' a n (if relErr r = 0 then newAgt r else noAgt).lock/\ Pins H' ga gn (if relErr r = 0 then newAgt r else noAgt).goal.lock := by
 refine TryzvcJ Tryz.func89 (by kernel_rfl) (by kernel_rfl) _ rfl (fun base K => vc71 r.id a l c base H K) fun base hb => ?_
 intro b b1
 refine (cNoteRelease hp r.id).int1 fun H1 e1 _ => ⟨fun h => ?_, fun h => ?_⟩
 ·rw [if_neg h]; exact ⟨none, 0, 0, none, 0, 0, rfl, Sl.nil, Sl.nil⟩
 have h := Decidable.not_not.1 h
 have h : relErr r = 0 := h
 rw [if_pos h, h]
 have h12 := (relErr_zero h).2.2
 have hl := hp.len
 refine (cCloneJ (hp.ext' e1) (by omega)).mono fun v H2 e2 hv => ?_
 obtain ⟨a2, n2, c2, rfl, hF⟩ := hv
 exact ⟨a2, n2, c2, rfl, fun _ => ⟨_, _, _, none, 0, 0, rfl, hF.pins, Sl.nil⟩⟩
section
variable {H : Heap} {a ga a' ga' : O} {l c gl gc l' c' gl' gc' : Nat} {x y : Agt}
theorem cAgtSame (hp : Pins H a l x.lock) (hg : Pins H ga gl x.goal.lock) (hp' : Pins H a' l' y.lock) (hg' : Pins H ga' gl' y.goal.lock) : Spec Tryz.prog 38 [agtArg x a l c ga gl gc, agtArg y a' l' c' ga' gl' gc'] H fun v _ => v = .bool (decide (x = y)) := by
 refine TryzvcJ Tryz.func38 (by kernel_rfl) (by kernel_rfl) _ rfl (fun base K => vc75 a ga a' ga' l c gl gc l' c' gl' gc' x.at_ x.try_ x.goal.id y.at_ y.try_ y.goal.id x.going x.good y.going y.good base H K) fun base hb => ?_
 have hgo : x.goal = y.goal ↔ (⟨x.goal.id, x.goal.lock⟩ : Rls) = ⟨y.goal.id, y.goal.lock⟩ := Iff.rfl
 intro b b1
 refine ⟨x = y, (cEqPins hp hp').bool1 fun H1 e1 _ => ⟨fun q1 => ⟨fun q2 => ⟨fun q3 => ⟨_, eqBool, fun q4 => ⟨_, eqBool, fun q5 => (cAlike (hg.ext' e1) (hg'.ext' e1) _ _).bool1 fun H2 e2 _ => ⟨rfl, e1.trans e2, ?_⟩, fun q5 => ⟨rfl, e1, fun h => q5 (by simp [h])⟩⟩, fun q4 => ⟨rfl, e1, fun h => q4 (by simp [h])⟩⟩, fun q3 => ⟨rfl, e1, fun h => q3 (by rw [h])⟩⟩, fun q2 => ⟨rfl, e1, fun h => q2 (by rw [h])⟩⟩, fun q1 => ⟨rfl, e1, fun h => by simp [h] at q1⟩⟩, ?_⟩
 ·rw [agt_eq, decide_eq_true_eq, ← hgo]
  simp only [beq_iff_eq] at q4 q5
  have q1 : x.lock = y.lock := by simpa using q1
  simp [q1, q2, q3, q4, q5]
 ·congr 1
  exact decide_eq_decide.2 Iff.rfl
end
open Go Go.Proofs
section
variable {H : Heap} {a ga ra : O} {l c gl gc rl rc : Nat} {x : Agt} {r : Recd}
theorem left_cases (x : Agt) : agtLeft x = [] ∨ ∃ o q, agtLeft x = o :: q := by
 cases agtLeft x with
 | nil => exact .inl rfl
 | cons o q => exact .inr ⟨o, q, rfl⟩
theorem left_fits (h : agtErr x = 0) {o : Step} {q : List Step} (hl : agtLeft x = o :: q) : applyErr x.lock o = 0 := by
 unfold agtLeft at hl
 split at hl
 ·have h1 := (agtErr_zero h).1
  have h2 := agt_goal h
  exact (diffs_fits h1.1 h2.1 h1.2 h2.2 hl).1
 ·cases hl
theorem cNext (hp : Pins H a l x.lock) (hg : Pins H ga gl x.goal.lock) (hr : Pins H ra rl r.rel.lock) :
  Spec Tryz.prog 145 [agtArg x a l c ga gl gc, recArg r ra rl rc] H fun v H' => ∃ a n c ga gn gc, v = .tuple #[agtArg (nextV x r) a n c ga gn gc, i64 (nextErr x r)]/\ Pins H' a n (nextV x r).lock/\ Pins H' ga gn (nextV x r).goal.lock := by
 refine TryzvcJ Tryz.func145 (by kernel_rfl) (by kernel_rfl) _ rfl (fun base K => vc69 a ga ra l c gl gc rl rc x.at_ x.try_ x.goal.id r.kind r.agent r.try_ r.num r.rel.id x.going x.good r.good base H K) fun base hb => ?_
 have bad : ∀ {e : Int} {H' : Heap}, nextErr x r = e->e ≠ 0->∃ a n c ga gn gc, Value.tuple #[.agg #[.slice none 0 0, .int .i64 0, .int .i64 0, .bool false, .int .i64 0, .slice none 0 0, .bool false], .int .i64 e] = .tuple #[agtArg (nextV x r) a n c ga gn gc, i64 (nextErr x r)]/\ Pins H' a n (nextV x r).lock/\ Pins H' ga gn (nextV x r).goal.lock := fun he h0 => by
  have : nextV x r = noAgt := by rw [nextV, if_neg (by omega)]
  rw [this, he]; exact ⟨none, 0, 0, none, 0, 0, rfl, Sl.nil, Sl.nil⟩
 intro b b1 b2
 refine (cLeft hp hg).sl2 fun a1 n1 c1 H1 e1 _ hD => ⟨fun h => bad (by rw [nextErr, if_pos h]) h, fun h => (cRecCheck (hr.ext' e1)).int1 fun H2 e2 _ => ⟨fun h2 => bad (by rw [nextErr, if_neg h, if_pos h2]) h2, fun h2 => ?_⟩⟩
 have h0 : agtErr x = 0 := Decidable.not_not.1 h
 rw [if_pos h0] at hD
 have hDl := hD.len
 have hnil : agtLeft x = [] ↔ n1 = 0 := by rw [← hDl]; exact List.length_eq_zero_iff.symm
 have good : ∀ {X : Agt} {H' : Heap} {a n c ga gn gc}, nextErr x r = 0->agtNext x r = X->Pins H' a n X.lock->Pins H' ga gn X.goal.lock->∃ a' n' c' ga' gn' gc', Value.tuple #[agtArg X a n c ga gn gc, .int .i64 0] = .tuple #[agtArg (nextV x r) a' n' c' ga' gn' gc', i64 (nextErr x r)]/\ Pins H' a' n' (nextV x r).lock/\ Pins H' ga' gn' (nextV x r).goal.lock := fun he hX p1 p2 => by
  have : nextV x r = agtNext x r := by rw [nextV, if_pos he]
  rw [this, he, hX]; exact ⟨_, _, _, _, _, _, rfl, p1, p2⟩
 refine (cAgtCopy ((hp.ext' e1).ext' e2) ((hg.ext' e1).ext' e2) h0).agt1 fun a3 n3 c3 ga3 gn3 gc3 H3 e3 _ p3 g3 => ⟨fun k1 => ⟨fun ht => ?_, fun ht => ?_⟩, fun k1 => ?_⟩
 ·exact bad (by rw [nextErr, if_neg h, if_neg h2, if_pos k1, if_pos ht]) (by omega)
 ·have hr12 : r.rel.lock.length <= 12 := by
   have : recErr r = 0 := Decidable.not_not.1 h2
   unfold recErr at this
   split at this
   ·omega
   ·split at this
    ·omega
    ·split at this
     ·omega
     ·rw [if_pos (.inl k1)] at this
      exact (relErr_zero this).2.2
  have hrl := hr.len
  refine (cCloneJ (((hr.ext' e1).ext' e2).ext' e3) (by omega)).mono fun v H4 e4 hv => ?_
  obtain ⟨a5, n5, c5, rfl, hF⟩ := hv
  exact ⟨a5, n5, c5, rfl, fun _ => good (X := ⟨x.lock, x.at_, r.try_, true, r.rel, false⟩) (by rw [nextErr, if_neg h, if_neg h2, if_pos k1, if_neg ht]) (by rw [agtNext, if_pos k1]) (p3.ext' e4) hF.pins⟩
 have late : (x.going = false ∨ r.try_ ≠ x.try_ ∨ (r.kind = 2/\ agtLeft x = []) ∨ (r.kind = 3/\ agtLeft x ≠ []))->(r.kind = 2 ∨ r.kind = 3)->nextErr x r = 7 := fun hl hk => by
  rw [nextErr, if_neg h, if_neg h2, if_neg k1, if_neg (by omega), if_pos hl]
 have fine : ¬ (x.going = false ∨ r.try_ ≠ x.try_ ∨ (r.kind = 2/\ agtLeft x = []) ∨ (r.kind = 3/\ agtLeft x ≠ []))->(r.kind = 2 ∨ r.kind = 3)->nextErr x r = 0 := fun hl hk => by
  rw [nextErr, if_neg h, if_neg h2, if_neg k1, if_neg (by omega), if_neg hl]
 have step : r.kind = 2->nextErr x r = 0->agtLeft x ≠ []->∃ (b : Nat) (o : Nat), a1 = some ⟨b, o, none⟩/\ Int.ofNat 0 <= 0/\ 0 < (n1 : Int)/\ ∃ (n n9 n10 : Int), (H3.cell b (o + 0 * 3) = some (.int .i64 n)/\ H3.cell b (o + 0 * 3 + 1) = some (.int .i64 n9)/\ H3.cell b (o + 0 * 3 + 2) = some (.int .i64 n10)/\ True) /\ 
   Spec Tryz.prog 204 [.slice a3 n3 c3, .agg #[.int .i64 n, .int .i64 n9, .int .i64 n10]] H3 fun v H' => ∃ (a : O) (n c : Nat) (n11 : Int), v = .tuple #[.slice a n c, .int .i64 n11]/\ (Vg.Next base H3 H'->∃ a' n' c' ga' gn' gc', Value.tuple #[.agg #[.slice a n c, .int .i64 x.at_, .int .i64 x.try_, .bool x.going, .int .i64 x.goal.id, .slice ga3 gn3 gc3, .bool x.good], .int .i64 n11] = .tuple #[agtArg (nextV x r) a' n' c' ga' gn' gc', i64 (nextErr x r)]/\ Pins H' a' n' (nextV x r).lock/\ Pins H' ga' gn' (nextV x r).goal.lock) := fun hk he hne => by
  obtain ⟨o, q, hl⟩ := (left_cases x).resolve_left hne
  rw [hl] at hD
  have hpos : 0 < n1 := by
   rcases Nat.eq_zero_or_pos n1 with hz | hz
   ·exact absurd (hnil.2 hz) hne
   ·exact hz
  refine hD.step (k := 0) (Ext.trans e2 e3) (by omega) (by omega) fun o' ho' => ?_
  obtain rfl : o = o' := by simpa using ho'
  have f1 := left_fits h0 hl
  refine (cApply p3 o.kind o.name o.ver).sl2 fun a5 n5 c5 H5 e5 _ hA => ?_
  have f1' : applyErr x.lock ⟨o.kind, o.name, o.ver⟩ = 0 := f1
  rw [if_pos f1'] at hA
  rw [f1']
  exact good (X := ⟨applied x.lock o, x.at_, x.try_, x.going, x.goal, x.good⟩) he (by rw [agtNext, if_neg k1, if_pos hk, hl]) hA (g3.ext' e5)
 have done : r.kind = 3->nextErr x r = 0->∃ a' n' c' ga' gn' gc', Value.tuple #[.agg #[.slice a3 n3 c3, .int .i64 x.goal.id, .int .i64 x.try_, .bool false, .int .i64 0, .slice none 0 0, .bool r.good], .int .i64 0] = .tuple #[agtArg (nextV x r) a' n' c' ga' gn' gc', i64 (nextErr x r)]/\ Pins H3 a' n' (nextV x r).lock/\ Pins H3 ga' gn' (nextV x r).goal.lock := fun hk he =>
  good (X := ⟨x.lock, x.goal.id, x.try_, false, ⟨0, []⟩, r.good⟩) he (by rw [agtNext, if_neg k1, if_neg (by omega)]) p3 Sl.nil
 have leaf : ∀ {b5 : Bool}, x.going ≠ false->r.try_ = x.try_->(r.kind = 2 ∨ r.kind = 3)->b5 = (decide (0 < (n1 : Int)) != decide (r.kind = 2))->((x.going = false ∨ r.try_ ≠ x.try_ ∨ (r.kind = 2/\ agtLeft x = []) ∨ (r.kind = 3/\ agtLeft x ≠ [])) ↔ b5 = true) := fun q1 q2 q3 q4 => by
  subst q4
  simp only [ne_eq, hnil]
  have q5 : ∀ p q : Bool, ((p != q) = true) ↔ ¬ (p = true ↔ q = true) := by decide
  rw [q5]
  simp only [decide_eq_true_eq]
  constructor
  ·rintro (q | q | q | q)
   ·exact absurd q q1
   ·exact absurd q2 q
   ·omega
   ·omega
  ·intro q
   by_cases hk : r.kind = 2
   ·exact .inr (.inr (.inl ⟨hk, by omega⟩))
   ·exact .inr (.inr (.inr ⟨by omega, by omega⟩))
 refine ⟨fun k2 => ⟨fun _ => ⟨_, ⟨fun q => ⟨rfl, fun _ _ h => h, .inl q⟩, fun q => ⟨fun q2 => ⟨rfl, fun _ _ h => h, .inr (.inl q2)⟩, fun q2 => ⟨_, neqBool, rfl, fun _ _ h => h, leaf q (Decidable.not_not.1 q2) (.inl k2) rfl⟩⟩⟩, fun hl => bad (late hl (.inl k2)) (by omega), fun hl => ⟨fun _ => step k2 (fine hl (.inl k2)) (fun hn => hl (.inr (.inr (.inl ⟨k2, hn⟩)))), fun h' => absurd k2 h'⟩⟩, fun h' => absurd k2 h'⟩, fun k2 => ⟨fun k3 => ?_, fun k3 => ?_⟩⟩
 ·refine ⟨_, ⟨fun q => ⟨rfl, fun _ _ h => h, .inl q⟩, fun q => ⟨fun q2 => ⟨rfl, fun _ _ h => h, .inr (.inl q2)⟩, fun q2 => ⟨_, neqBool, rfl, fun _ _ h => h, leaf q (Decidable.not_not.1 q2) (.inr k3) rfl⟩⟩⟩, fun hl => bad (late hl (.inr k3)) (by omega), fun hl => ⟨fun h' => absurd h' k2, fun _ => ?_⟩⟩
  have hd := done k3 (fine hl (.inr k3))
  exact ⟨hd, hd, hd, hd⟩
 ·exact bad (by rw [nextErr, if_neg h, if_neg h2, if_neg k1, if_pos ⟨k2, k3⟩]) (by omega)
end
open Go Go.Proofs
theorem cReplay {H : Heap} {a a' : O} {l c l' c' : Nat} {f : Rls} {rs : List Recd} (hp : Pins H a l f.lock) (hr : Recs H a' l' rs) :
  Spec Tryz.prog 67 [.agg #[.int .i64 f.id, .slice a l c], .slice a' l' c'] H fun v H' => ∃ a n c ga gn gc, v = .tuple #[agtArg (okA (agtReplay f rs)) a n c ga gn gc, i64 (errOf (agtReplay f rs))]/\ Pins H' a n (okA (agtReplay f rs)).lock/\ Pins H' ga gn (okA (agtReplay f rs)).goal.lock := by
 refine TryzvcJ Tryz.func67 (by kernel_rfl) (by kernel_rfl) _ rfl (fun base K => vc63 f.id a a' l c l' c' base H K) fun base hb => ?_
 have hrl := hr.len
 have bad : ∀ {e : Int} {H' : Heap}, agtReplay f rs = .error e->∃ a n c ga gn gc, Value.tuple #[.agg #[.slice none 0 0, .int .i64 0, .int .i64 0, .bool false, .int .i64 0, .slice none 0 0, .bool false], .int .i64 e] = .tuple #[agtArg (okA (agtReplay f rs)) a n c ga gn gc, i64 (errOf (agtReplay f rs))]/\ Pins H' a n (okA (agtReplay f rs)).lock/\ Pins H' ga gn (okA (agtReplay f rs)).goal.lock := fun he => by
  rw [he]; exact ⟨none, 0, 0, none, 0, 0, rfl, Sl.nil, Sl.nil⟩
 intro b b'
 refine (cNew hp).agt fun a1 n1 c1 ga1 gn1 gc1 H1 e1 _ p1 g1 => fun b2 => ⟨fun h => bad (by rw [agtReplay, if_pos h]), fun h => ⟨fun h200 => bad (by rw [agtReplay, if_neg h, if_pos (by omega)]), fun h200 => ?_⟩⟩
 rw [if_pos (Decidable.not_not.1 h)] at p1 g1 ⊢
 have hW : agtReplay f rs = replayFrom (newAgt f) rs := by rw [agtReplay, if_neg h, if_neg (by omega)]
 rw [hW] at bad ⊢
 refine ⟨fun vs Hc => ∃ (y : Agt) (a : O) (n c : Nat) (ga : O) (gn gc : Nat) (d e : Int) (w : Value) (k : Nat), vs = [i64 d, i64 e, i64 k, w, agtArg y a n c ga gn gc]/\ Pins Hc a n y.lock/\ Pins Hc ga gn y.goal.lock/\ k <= l'/\ replayFrom y (rs.drop k) = replayFrom (newAgt f) rs, upTo l' 2,
  ⟨newAgt f, a1, n1, c1, ga1, gn1, gc1, 0, _, _, 0, rfl, p1, g1, by omega, rfl⟩, fun d e m a6 n8 c3 n9 n10 b0 n11 a7 n12 c4 b3 a8 n13 c5 n14 n15 b4 n16 a9 n17 c6 b5 H' hN hI => ?_⟩
 obtain ⟨y, ya, yn, yc, yga, ygn, ygc, d', e', w, k, hvs, hP, hG, hk, hI⟩ := hI
 obtain ⟨rfl, rfl, rfl, rfl, ⟨rfl, rfl, rfl⟩, rfl, rfl, rfl, rfl, ⟨rfl, rfl, rfl⟩, rfl⟩ : d = d'/\ e = e'/\ m = (k : Int)/\ Value.agg #[.slice a6 n8 c3, .int .i64 n9, .int .i64 n10, .bool b0, .int .i64 n11, .slice a7 n12 c4, .bool b3] = w/\ (a8 = ya/\ n13 = yn/\ c5 = yc)/\ n14 = y.at_/\ n15 = y.try_/\ b4 = y.going/\ n16 = y.goal.id/\ (a9 = yga/\ n17 = ygn/\ c6 = ygc)/\ b5 = y.good := by simpa using hvs
 refine ⟨fun hlt => hr.recd hN.ext (by omega) hlt fun r ra rn rc hm hq => fun b8 => ?_, fun hge => ?_⟩
 ·rw [Int.toNat_natCast] at hm
  rw [drop_at hm, replayFrom] at hI
  refine (cNext hP hG (hq.ext' hN.ext)).agt fun a2 n2 c2 ga2 gn2 gc2 H2 e2 _ p2 g2 => ⟨fun h => ?_, fun h => ?_⟩
  ·rw [if_neg h] at hI
   exact bad hI.symm
  ·have h0 : nextErr y r = 0 := Decidable.not_not.1 h
   rw [if_pos h0] at hI
   have hV : nextV y r = agtNext y r := by rw [nextV, if_pos h0]
   rw [hV] at p2 g2 ⊢
   rintro q rfl
   rw [wrap_in (by omega) (by omega)]
   exact ⟨rfl, ⟨agtNext y r, a2, n2, c2, ga2, gn2, gc2, _, _, _, k + 1, rfl, p2, g2, by omega, hI⟩, by simp [upTo]; omega⟩
 ·rw [drop_all hrl (by omega), replayFrom] at hI
  rw [← hI]
  exact ⟨_, _, _, _, _, _, rfl, hP, hG⟩
def f1 : Rls := ⟨1, [⟨1, 1⟩]⟩
def f2 : Rls := ⟨2, [⟨2, 1⟩]⟩
def g5 : Agt := ⟨[], 1, 3, true, f2, false⟩
def g7 : Agt := ⟨[⟨2, 1⟩], 2, 3, false, ⟨0, []⟩, true⟩
open Go Go.Proofs
theorem vd44 (s : ByteArray) (base : Nat) (H : Heap) (K : KT) :
 (fV TryzMuts Tryz.f251 base H [.v (.string s)] [] K) = (
 Y Tryz.prog 226 [Str s] H fun a b =>∃ c,a = T #[I Z c,Value.nilIface]/\ (X base H b->∃ d,RunsTo Tryz.prog (binRun BinOp.eql 263 (Operand.tmp 12) (Operand.const Value.nilIface) Value.nilIface Value.nilIface) (B d)/\ (d = true->Y Tryz.prog 223 [I Z c] b fun e g =>∃ h,e = Str h/\ (X base b g->∃ i,RunsTo Tryz.prog (binRun BinOp.eql 9 (Operand.tmp 16) (Operand.tmp 17) (Str h) (Str s)) (B i)/\ K (T #[I Z c,B (decide (i = true))]) [] g))/\ (¬d = true->K (T #[I Z c,B false]) [] b))∨∃ (d:TypeId) (e:Value),a = T #[I Z c,Value.iface d e]/\ (X base H b->∃ g,RunsTo Tryz.prog (binRun BinOp.eql 263 (Operand.tmp 12) (Operand.const Value.nilIface) (Value.iface d e) Value.nilIface) (B g)/\ (g = true->Y Tryz.prog 223 [I Z c] b fun h i =>∃ j,h = Str j/\ (X base b i->∃ k,RunsTo Tryz.prog (binRun BinOp.eql 9 (Operand.tmp 16) (Operand.tmp 17) (Str j) (Str s)) (B k)/\ K (T #[I Z c,B (decide (k = true))]) [] i))/\ (¬g = true->K (T #[I Z c,B false]) [] b))) := by kernel_rfl
theorem vd8 (a : O) (l c : Nat) (base : Nat) (H : Heap) (K : KT) :
 (fV TryzMutsJ Tryz.f284 base H [.v (S a l c)] [] K) = (
 Y Tryz.prog 140 [S a l c] H fun b d =>∃ e,b = I Z e/\ (X base H d->(¬e = 0->K (T #[Str (ByteArray.mk #[]),I Z e]) [] d)/\ (¬¬e = 0->∃ (g:LI) (h:LM),g [S none 0 0,I Z 0] d/\ ∀ (i:O) (j k:Nat) (m:Int) (n:Heap),X base H n->g [S i j k,I Z m] n->(m < (l:Int)->∃ o p,a = some (D o p none)/\ 0 <= m/\ m < (l:Int)/\ ∃ q r:Int,(C n o (p + N m * 2) = some (I Z q)/\ C n o (p + N m * 2 + 1) = some (I Z r)/\ True)/\ ∀ s:Nat,Y Tryz.prog 223 [I Z q] n fun t u =>∃ v,t = Str v/\ (X base n u->∃ w,RunsTo Tryz.prog (binRun BinOp.add 9 (Operand.tmp 22) (Operand.const (Str (ByteArray.mk #[64]))) (Str v) (Str (ByteArray.mk #[64]))) (Str w)/\ Y Tryz.prog 223 [I Z r] u fun x y =>∃ z,x = Str z/\ (X base u y->∃ a1,RunsTo Tryz.prog (binRun BinOp.add 9 (Operand.tmp 23) (Operand.tmp 26) (Str w) (Str z)) (Str a1)/\ ∀ (b1:Nat) (c1:Heap),X base y c1->y b1 = none->c1 b1 = some (boxKB 9 [Str a1])->∃ d1 e1:List Value,Row base c1 9 1 i j k d1/\ List.length e1 = 1 * 1/\ allOne e1 = true/\ (1 = 0∨∃ f1 g1,some (D b1 0 none) = some (D f1 g1 none)/\ cellsAt c1 f1 g1 0 e1)/\ (j + 1) * 16 <= 140737488355328/\ j + 1 <= 9223372036854775807/\ ∀ (f1:O) (g1:Nat) (h1:Heap),Grew base c1 h1 i k f1 g1 (j + 1)->Row base h1 9 1 f1 (j + 1) g1 (d1 ++ e1)->∀ i1:Int,i1 = W Z (m + 1)->g [S f1 (j + 1) g1,I Z i1] h1/\ h [S f1 (j + 1) g1,I Z i1] < h [S i j k,I Z m])))/\ (¬m < (l:Int)->Y Tryz.prog 299 [S i j k,Str (ByteArray.mk #[44])] n fun o p =>∃ q,o = Str q/\ (X base n p->K (T #[Str q,I Z 0]) [] p))))) := by kernel_rfl
theorem vd11 (s : ByteArray) (base : Nat) (H : Heap) (K : KT) :
 (fV TryzMutsJ Tryz.f228 base H [.v (.string s)] [] K) = (
 (60000 < (↑(ByteArray.size s) : Int)->K (T #[S none 0 0,I Z 2]) [] H)/\ (¬60000 < (↑(ByteArray.size s) : Int)->∃ a,RunsTo Tryz.prog (binRun BinOp.eql 9 (Operand.tmp 18) (Operand.const (Str (ByteArray.mk #[]))) (Str s) (Str (ByteArray.mk #[]))) (B a)/\ (a = true->K (T #[S none 0 0,I Z 0]) [] H)/\ (¬a = true->Y Tryz.prog 208 [Str s,Str (ByteArray.mk #[44])] H fun b c =>∃ d e g,b = S d e g/\ (X base H c->∃ (h:LI) (i:LM),h [S none 0 0,I Z 0,S none 0 0,I Z 0] c/\ ∀ (j:O) (k l:Nat) (m:Int) (n:O) (o p:Nat) (q:Int) (r:Heap),X base H r->h [S j k l,I Z m,S n o p,I Z q] r->(q < (e:Int)->∃ t u,d = some (D t u none)/\ 0 <= q/\ q < (e:Int)/\ ∃ v,C r t (u + N q * 1) = some (Str v)/\ Y Tryz.prog 195 [Str v,Str (ByteArray.mk #[64])] r fun w x =>∃ y z a1,w = T #[Str y,Str z,B a1]/\ (X base r x->Y Tryz.prog 251 [Str y] x fun b1 c1 =>∃ d1 e1,b1 = T #[I Z d1,B e1]/\ (X base x c1->Y Tryz.prog 251 [Str z] c1 fun f1 g1 =>∃ h1 i1,f1 = T #[I Z h1,B i1]/\ (X base c1 g1->∃ j1:Prop,((a1 = false->SubH g1 g1/\ j1)/\ (¬a1 = false->(e1 = false->SubH g1 g1/\ j1)/\ (¬e1 = false->SubH g1 g1/\ (j1↔i1 = false))))/\ (j1->K (T #[S none 0 0,I Z 1]) [] g1)/\ (¬j1->∀ k1:Nat,∃ l1:List Value,Row base g1 91 2 n o p l1/\ (o + 1) * 16 <= 140737488355328/\ o + 1 <= 9223372036854775807/\ ∀ (m1:O) (n1:Nat) (o1:Heap),Grew base g1 o1 n p m1 n1 (o + 1)->Row base o1 91 2 m1 (o + 1) n1 (l1 ++ [I Z d1,I Z h1])->∀ p1:Int,p1 = W Z (q + 1)->h [S j k l,I Z m,S m1 (o + 1) n1,I Z p1] o1/\ i [S j k l,I Z m,S m1 (o + 1) n1,I Z p1] < i [S j k l,I Z m,S n o p,I Z q])))))/\ (¬q < (e:Int)->Y Tryz.prog 140 [S n o p] r fun t u =>∃ v,t = I Z v/\ (X base r u->(¬v = 0->K (T #[S none 0 0,I Z v]) [] u)/\ (¬¬v = 0->K (T #[S n o p,I Z 0]) [] u))))))) := by kernel_rfl
open Go Go.Proofs
theorem vd18 (kd ag tr n id : Int) (gd : Bool) (a : O) (l c : Nat) (base : Nat) (H : Heap) (K : KT) :
 (fV TryzMutsJ Tryz.f265 base H [.v (A #[I Z kd, I Z ag, I Z tr, I Z n, B gd, I Z id, S a l c])] [] K) = (
 (fun w1:LL=>∀ b:Nat,Y Tryz.prog 198 [A #[I Z kd,I Z ag,I Z tr,I Z n,B gd,I Z id,S a l c]] H fun d e =>∃ g,d = I Z g/\ (X base H e->(¬g = 0->K (T #[Str (ByteArray.mk #[]),I Z g]) [] e)/\ (¬¬g = 0->(gd = true->∀ h:Nat,∃ (i:LI) (j:LM),i [I Z 0,A #[P none,S none 0 0]] e/\ ∀ (k:Int) (m:Value) (o:O) (p q:Nat) (r:Heap),X base H r->i [I Z k,A #[m,S o p q]] r->(k < 6->0 <= k/\ k < 6/\ ∃ s,List.get?Internal [I Z kd,I Z ag,I Z tr,I Z n,I Z 1,I Z id] (N k * 1) = some (I Z s)/\ Y Tryz.prog 223 [I Z s] r fun t u =>∃ v,t = Str v/\ (X base r u->∃ w,RunsTo Tryz.prog (binRun BinOp.add 9 (Operand.tmp 35) (Operand.const (Str (ByteArray.mk #[32]))) (Str v) (Str (ByteArray.mk #[32]))) (Str w)/\ YO Tryz.prog 298 [P (some (D h 0 none))] [J h false 311 [m,S o p q]] u fun x y z =>x = T #[]/\ ∃ (a1:Value) (b1:O) (c1 d1:Nat),y = [[a1,S b1 c1 d1]]/\ (X base u z->∃ e1:List Value,Row base z 5 1 b1 c1 d1 e1/\ c1 + ByteArray.size w <= 140737488355328/\ ∀ (f1:O) (g1:Nat) (h1:Heap),Grew base z h1 b1 d1 f1 g1 (c1 + ByteArray.size w)->Row base h1 5 1 f1 (c1 + ByteArray.size w) g1 (e1 ++ u8s (Array.toList (ByteArray.data w)))->∀ i1:Int,i1 = W Z (k + 1)->w1 = w1/\ i [I Z i1,A #[a1,S f1 (c1 + ByteArray.size w) g1]] h1/\ j [I Z i1,A #[a1,S f1 (c1 + ByteArray.size w) g1]] < j [I Z k,A #[m,S o p q]])))/\ (¬k < 6->Y Tryz.prog 284 [S a l c] r fun s t =>∃ u v,s = T #[Str u,I Z v]/\ (X base r t->311 = 311/\ 0 < p/\ ∃ w:List UInt8,Row base t 5 1 o p q (u8s w)/\ ∀ x:Heap,(∀ (y:Nat) (z:KB),t y = some z->o ≠ some (D y 0 none)->x y = some z)->(∀ (y:Nat) (z:KB),x y = some z->t y = some z)->∃ y,RunsTo Tryz.prog (binRun BinOp.add 9 (Operand.tmp 46) (Operand.const (Str (ByteArray.mk #[61]))) (Str (ByteArray.mk (List.toArray w))) (Str (ByteArray.mk #[61]))) (Str y)/\ ∃ z,RunsTo Tryz.prog (binRun BinOp.add 9 (Operand.tmp 47) (Operand.tmp 48) (Str y) (Str u)) (Str z)/\ K (T #[Str z,I Z v]) [] x)))/\ (gd = false->∀ h:Nat,∃ (i:LI) (j:LM),i [I Z 0,A #[P none,S none 0 0]] e/\ ∀ (k:Int) (m:Value) (o:O) (p q:Nat) (r:Heap),X base H r->i [I Z k,A #[m,S o p q]] r->(k < 6->0 <= k/\ k < 6/\ ∃ s,List.get?Internal [I
 Z kd,I Z ag,I Z tr,I Z n,I Z 0,I Z id] (N k * 1) = some (I Z s)/\ Y Tryz.prog 223 [I Z s] r fun t u =>∃ v,t = Str v/\ (X base r u->∃ w,RunsTo Tryz.prog (binRun BinOp.add 9 (Operand.tmp 35) (Operand.const (Str (ByteArray.mk #[32]))) (Str v) (Str (ByteArray.mk #[32]))) (Str w)/\ YO Tryz.prog 298 [P (some (D h 0 none))] [J h false 311 [m,S o p q]] u fun x y z =>x = T #[]/\ ∃ (a1:Value) (b1:O) (c1 d1:Nat),y = [[a1,S b1 c1 d1]]/\ (X base u z->∃ e1:List Value,Row base z 5 1 b1 c1 d1 e1/\ c1 + ByteArray.size w <= 140737488355328/\ ∀ (f1:O) (g1:Nat) (h1:Heap),Grew base z h1 b1 d1 f1 g1 (c1 + ByteArray.size w)->Row base h1 5 1 f1 (c1 + ByteArray.size w) g1 (e1 ++ u8s (Array.toList (ByteArray.data w)))->∀ i1:Int,i1 = W Z (k + 1)->w1 = w1/\ i [I Z i1,A #[a1,S f1 (c1 + ByteArray.size w) g1]] h1/\ j [I Z i1,A #[a1,S f1 (c1 + ByteArray.size w) g1]] < j [I Z k,A #[m,S o p q]])))/\ (¬k < 6->Y Tryz.prog 284 [S a l c] r fun s t =>∃ u v,s = T #[Str u,I Z v]/\ (X base r t->311 = 311/\ 0 < p/\ ∃ w:List UInt8,Row base t 5 1 o p q (u8s w)/\ ∀ x:Heap,(∀ (y:Nat) (z:KB),t y = some z->o ≠ some (D y 0 none)->x y = some z)->(∀ (y:Nat) (z:KB),x y = some z->t y = some z)->∃ y,RunsTo Tryz.prog (binRun BinOp.add 9 (Operand.tmp 46) (Operand.const (Str (ByteArray.mk #[61]))) (Str (ByteArray.mk (List.toArray w))) (Str (ByteArray.mk #[61]))) (Str y)/\ ∃ z,RunsTo Tryz.prog (binRun BinOp.add 9 (Operand.tmp 47) (Operand.tmp 48) (Str y) (Str u)) (Str z)/\ K (T #[Str z,I Z v]) [] x)))))) [[I Z kd,I Z ag,I Z tr,I Z n,B gd,I Z id,S a l c]]) := by kernel_rfl
theorem vd21 (s : ByteArray) (base : Nat) (H : Heap) (K : KT) :
 (fV TryzMutsJ Tryz.f196 base H [.v (.string s)] [] K) = (
 (fun w6:AV=>∀ a:Nat,(60000 < (↑(ByteArray.size s) : Int)->K (T #[A w6,I Z 2]) [] H)/\ (¬60000 < (↑(ByteArray.size s) : Int)->Y Tryz.prog 208 [Str s,Str (ByteArray.mk #[32])] H fun b c =>∃ d e g,b = S d e g/\ (X base H c->(¬(e:Int) = 7->K (T #[A w6,I Z 1]) [] c)/\ (¬¬(e:Int) = 7->∀ h:Nat,List.length [I Z 0,I Z 0,I Z 0,I Z 0,I Z 0,I Z 0] = 6/\ ∃ (i:LI) (j:LM),i [I Z 0,I Z 0,A w6,A #[I Z 0,I Z 0,I Z 0,I Z 0,I Z 0,I Z 0]] c/\ ∀ (k l m n o p:Int) (q:Bool) (r:Int) (t:O) (u v:Nat) (w:List Value),(fun w5:LV=>(fun w4:LB=>List.length w = 6->∀ x,X base H x->i w5 x->(l < 6->∃ y z,d = some (D y z none)/\ 0 <= l/\ l < (e:Int)/\ ∃ a1,C x y (z + N l * 1) = some (Str a1)/\ Y Tryz.prog 226 [Str a1] x fun b1 c1 =>∃ d1,b1 = T #[I Z d1,Value.nilIface]/\ (X base x c1->∃ e1,RunsTo Tryz.prog (binRun BinOp.neq 263 (Operand.tmp 36) (Operand.const Value.nilIface) Value.nilIface Value.nilIface) (B e1)/\ (e1 = true->K (T #[A w6,I Z 1]) [] c1)/\ (¬e1 = true->∃ f1 g1,d = some (D f1 g1 none)/\ 0 <= l/\ l < (e:Int)/\ ∃ h1,C c1 f1 (g1 + N l * 1) = some (Str h1)/\ Y Tryz.prog 223 [I Z d1] c1 fun i1 j1 =>∃ k1,i1 = Str k1/\ (X base c1 j1->∃ l1,RunsTo Tryz.prog (binRun BinOp.neq 9 (Operand.tmp 40) (Operand.tmp 44) (Str k1) (Str h1)) (B l1)/\ (l1 = true->K (T #[A w6,I Z 1]) [] j1)/\ (¬l1 = true->0 <= l/\ l < 6/\ 0 + N l * 1 + 1 <= List.length w/\ ∀ m1:Int,(fun w1:LV=>m1 = W Z (l + 1)->List.length (List.set w (0 + N l * 1) (I Z d1)) = 6/\ i w1 j1/\ j w1 < j w5) [I Z k,I Z m1,A #[I Z m,I Z n,I Z o,I Z p,B q,I Z r,S t u v],A (List.toArray (List.set w (0 + N l * 1) (I Z d1)))]))))∨∃ (e1:TypeId) (f1:Value),b1 = T #[I Z d1,Value.iface e1 f1]/\ (X base x c1->∃ g1,RunsTo Tryz.prog (binRun BinOp.neq 263 (Operand.tmp 36) (Operand.const Value.nilIface) (Value.iface e1 f1) Value.nilIface) (B g1)/\ (g1 = true->K (T #[A w6,I Z 1]) [] c1)/\ (¬g1 = true->∃ h1 i1,d = some (D h1 i1 none)/\ 0 <= l/\ l < (e:Int)/\ ∃ j1,C c1 h1 (i1 + N l * 1) = some (Str j1)/\ Y Tryz.prog 223 [I Z d1] c1 fun k1 l1 =>∃ m1,k1 = Str m1/\ (X base c1 l1->∃ n1,RunsTo Tryz.prog (binRun BinOp.neq 9 (Operand.tmp 40) (Operand.tmp 44) (Str m1)
 (Str j1)) (B n1)/\ (n1 = true->K (T #[A w6,I Z 1]) [] l1)/\ (¬n1 = true->0 <= l/\ l < 6/\ 0 + N l * 1 + 1 <= List.length w/\ ∀ o1:Int,(fun w2:LV=>o1 = W Z (l + 1)->List.length (List.set w (0 + N l * 1) (I Z d1)) = 6/\ i w2 l1/\ j w2 < j w5) [I Z k,I Z o1,A #[I Z m,I Z n,I Z o,I Z p,B q,I Z r,S t u v],A (List.toArray (List.set w (0 + N l * 1) (I Z d1)))])))))/\ (¬l < 6->∃ y z,d = some (D y z none)/\ Int.ofNat 0 <= 6/\ 6 < (e:Int)/\ ∃ a1,C x y (z + 6 * 1) = some (Str a1)/\ Y Tryz.prog 227 [Str a1,Str (ByteArray.mk #[61])] x fun b1 c1 =>∃ d1 e1,b1 = T #[Str d1,B e1]/\ (X base x c1->∃ f1:Prop,((e1 = false->w4 = w4/\ SubH c1 c1/\ f1)/\ (¬e1 = false->∃ g1,List.get?Internal w (0 + 4 * 1) = some (I Z g1)/\ (g1 < 0->w4 = w4/\ SubH c1 c1/\ f1)/\ (¬g1 < 0->∃ h1,List.get?Internal w (0 + 4 * 1) = some (I Z h1)/\ w4 = w4/\ SubH c1 c1/\ (f1↔1 < h1))))/\ (f1->K (T #[A w6,I Z 1]) [] c1)/\ (¬f1->Y Tryz.prog 228 [Str d1] c1 fun g1 h1 =>∃ i1 j1 k1 l1,g1 = T #[S i1 j1 k1,I Z l1]/\ (X base c1 h1->(¬l1 = 0->K (T #[A w6,I Z l1]) [] h1)/\ (¬¬l1 = 0->∃ m1,List.get?Internal w (0 + 0 * 1) = some (I Z m1)/\ ∃ n1,List.get?Internal w (0 + 1 * 1) = some (I Z n1)/\ ∃ o1,List.get?Internal w (0 + 2 * 1) = some (I Z o1)/\ ∃ p1,List.get?Internal w (0 + 3 * 1) = some (I Z p1)/\ ∃ q1,List.get?Internal w (0 + 4 * 1) = some (I Z q1)/\ ∃ r1,(fun w3:AV=>List.get?Internal w (0 + 5 * 1) = some (I Z r1)/\ ∀ s1:Nat,Y Tryz.prog 198 [A w3] h1 fun t1 u1 =>∃ v1,t1 = I Z v1/\ (X base h1 u1->(¬v1 = 0->K (T #[A w6,I Z v1]) [] u1)/\ (¬¬v1 = 0->K (T #[A w3,I Z 0]) [] u1))) #[I Z m1,I Z n1,I Z o1,I Z p1,B (decide (q1 = 1)),I Z r1,S i1 j1 k1])))))) [J a false 126 [I Z m,I Z n,I Z o,I Z p,B q,I Z r,S t u v],J h false 261 w]) [I Z k,I Z l,A #[I Z m,I Z n,I Z o,I Z p,B q,I Z r,S t u v],A (List.toArray w)])))) #[I Z 0,I Z 0,I Z 0,I Z 0,B false,I Z 0,S none 0 0]) := by kernel_rfl
open Go Go.Proofs
open Go Go.Proofs
theorem vd61 (a : O) (l c : Nat) (base : Nat) (H : Heap) (K : KT) :
 (fV TryzMutsJ Tryz.f169 base H [.v (S a l c)] [] K) = (
 ∃ b,RunsTo Tryz.prog (binRun BinOp.eql 33 (Operand.tmp 3) (Operand.const (S none 0 0)) (S a l c) (S none 0 0)) (B b)/\ (b = true->K (S none 0 0) [] H)/\ (¬b = true->∀ (d:Nat) (e:Heap),X base H e->H d = none->e d = some (boxKB 5 [])->∃ g h:List Value,Row base e 5 1 (some (D d 0 none)) 0 0 g/\ List.length h = l * 1/\ allOne h = true/\ (l = 0∨∃ i j,a = some (D i j none)/\ cellsAt e i j 0 h)/\ (0 + l) * 1 <= 140737488355328/\ 0 + l <= 9223372036854775807/\ ∀ (i:O) (j:Nat) (k:Heap),Grew base e k (some (D d 0 none)) 0 i j (0 + l)->Row base k 5 1 i (0 + l) j (g ++ h)->K (S i (0 + l) j) [] k)) := by kernel_rfl
theorem vd62 (a : O) (l c : Nat) (base : Nat) (H : Heap) (K : KT) :
 (fV TryzMutsJ Tryz.f80 base H [.v (S a l c)] [] K) = (
 ∃ (b:LI) (d:LM),b [I Z 0,I Z 0] H/\ ∀ (e g:Int) (h:Heap),X base H h->b [I Z e,I Z g] h->(g < (l:Int)->∃ i j,a = some (D i j none)/\ 0 <= g/\ g < (l:Int)/\ ∃ k m n,C h i (j + N g * 1) = some (S k m n)/\ ∀ o:Int,o = W Z (e + (m:Int))->(o < 0->False)/\ (¬o < 0->∀ p:Int,p = W Z (g + 1)->b [I Z o,I Z p] h/\ d [I Z o,I Z p] < d [I Z e,I Z g]))/\ (¬g < (l:Int)->Y Tryz.prog 152 [S none 0 0,I Z e] h fun i j =>∃ k m n,i = S k m n/\ (X base h j->∃ (o:LI) (p:LM),o [S k m n,I Z 0] j/\ ∀ (q:O) (r s:Nat) (t:Int) (u:Heap),X base H u->o [S q r s,I Z t] u->(t < (l:Int)->∃ v w,a = some (D v w none)/\ 0 <= t/\ t < (l:Int)/\ ∃ x y z,C u v (w + N t * 1) = some (S x y z)/\ ∃ a1 b1:List Value,Row base u 5 1 q r s a1/\ List.length b1 = y * 1/\ allOne b1 = true/\ (y = 0∨∃ c1 d1,x = some (D c1 d1 none)/\ cellsAt u c1 d1 0 b1)/\ (r + y) * 1 <= 140737488355328/\ r + y <= 9223372036854775807/\ ∀ (c1:O) (d1:Nat) (e1:Heap),Grew base u e1 q s c1 d1 (r + y)->Row base e1 5 1 c1 (r + y) d1 (a1 ++ b1)->∀ f1:Int,f1 = W Z (t + 1)->o [S c1 (r + y) d1,I Z f1] e1/\ p [S c1 (r + y) d1,I Z f1] < p [S q r s,I Z t])/\ (¬t < (l:Int)->K (S q r s) [] u)))) := by kernel_rfl
theorem vd63 (s : ByteArray) (most : Int) (base : Nat) (H : Heap) (K : KT) :
 (fV TryzMutsJ Tryz.f143 base H [.v (.string s), .v (I Z most)] [] K) = (
 ∃ (a:LI) (b:LM),a [Str s,S none 0 0,I Z 0,I Z 0,S none 0 0] H/\ ∀ (c:ByteArray) (d:O) (e g:Nat) (h i:Int) (j:O) (k l:Nat) (m:Heap),X base H m->a [Str c,S d e g,I Z h,I Z i,S j k l] m->∃ n,RunsTo Tryz.prog (binRun BinOp.neq 9 (Operand.tmp 16) (Operand.const (Str (ByteArray.mk #[]))) (Str c) (Str (ByteArray.mk #[]))) (B n)/\ (n = true->Y Tryz.prog 195 [Str c,Str (ByteArray.mk #[10])] m fun o p =>∃ q r t,o = T #[Str q,Str r,B t]/\ (X base m p->(t = false->∀ u:Int,u = W Z ((↑(ByteArray.size s) : Int) - (↑(ByteArray.size c) : Int))->K (T #[S j k l,I Z u,I Z 9]) [] p)/\ (¬t = false->Y Tryz.prog 196 [Str q] p fun u v =>∃ w x y z a1 b1 c1 d1 e1 f1,u = T #[A #[I Z w,I Z x,I Z y,I Z z,B a1,I Z b1,S c1 d1 e1],I Z f1]/\ (X base p v->∀ g1:Nat,(¬f1 = 0->∀ h1:Int,h1 = W Z ((↑(ByteArray.size s) : Int) - (↑(ByteArray.size c) : Int))->K (T #[S j k l,I Z h1,I Z f1]) [] v)/\ (¬¬f1 = 0->((k:Int) = most->∀ h1:Int,h1 = W Z ((↑(ByteArray.size s) : Int) - (↑(ByteArray.size c) : Int))->K (T #[S j k l,I Z h1,I Z 2]) [] v)/\ (¬(k:Int) = most->∀ h1:Nat,∃ i1:List Value,Row base v 126 7 j k l i1/\ (k + 1) * 72 <= 140737488355328/\ k + 1 <= 9223372036854775807/\ ∀ (j1:O) (k1:Nat) (l1:Heap),Grew base v l1 j l j1 k1 (k + 1)->Row base l1 126 7 j1 (k + 1) k1 (i1 ++ [I Z w,I Z x,I Z y,I Z z,B a1,I Z b1,S c1 d1 e1])->a [Str r,S d e g,I Z h,I Z i,S j1 (k + 1) k1] l1/\ b [Str r,S d e g,I Z h,I Z i,S j1 (k + 1) k1] < b [Str c,S d e g,I Z h,I Z i,S j k l]))))))/\ (¬n = true->K (T #[S j k l,I Z (↑(ByteArray.size s) : Int),I Z 0]) [] m)) := by kernel_rfl
theorem vd60 (a a' : O) (l c l' c' : Nat) (base : Nat) (H : Heap) (K : KT) :
 (fV TryzMutsJ Tryz.f142 base H [.v (A #[S a l c, S a' l' c'])] [] K) = (
 ∀ b:Nat,(fun w1:LB=>∃ d:Prop,((60000 < (l:Int)->w1 = w1/\ SubH H H/\ d)/\ (¬60000 < (l:Int)->∀ e:Int,e = W Z (60000 - (l:Int))->w1 = w1/\ SubH H H/\ (d↔e < (l':Int))))/\ (d->K (I Z 2) [] H)/\ (¬d->∃ e:List UInt8,List.length e = l/\ (l = 0∨∃ g h,a = some (D g h none)/\ cellsAt H g h 0 (u8s e))/\ Y Tryz.prog 143 [Str (ByteArray.mk (List.toArray e)),I Z 200] H fun g h =>∃ i j k m n,g = T #[S i j k,I Z m,I Z n]/\ (X base H h->K (I Z n) [] h))) [J b false 35 [S a l c,S a' l' c']]) := by kernel_rfl
theorem vd32 (a a' : O) (l c l' c' : Nat) (kd ag tr n id : Int) (gd : Bool) (ra : O) (rl rc : Nat) (base : Nat) (H : Heap) (K : KT) :
 (fV TryzMutsJ Tryz.f243 base H [.v (A #[S a l c, S a' l' c']), .v (A #[I Z kd, I Z ag, I Z tr, I Z n, B gd, I Z id, S ra rl rc])] [] K) = (
 ∀ b d e:Nat,Y Tryz.prog 142 [A #[S a l c,S a' l' c']] H fun g h =>∃ i,g = I Z i/\ (X base H h->(¬i = 0->K (T #[A #[S none 0 0,S none 0 0],I Z i]) [] h)/\ (¬¬i = 0->Y Tryz.prog 265 [A #[I Z kd,I Z ag,I Z tr,I Z n,B gd,I Z id,S ra rl rc]] h fun j k =>∃ m o,j = T #[Str m,I Z o]/\ (X base h k->(¬o = 0->K (T #[A #[S none 0 0,S none 0 0],I Z o]) [] k)/\ (¬¬o = 0->∀ p:Int,p = W Z ((↑(ByteArray.size m) : Int) + 1)->∀ q:Int,q = W Z (60000 - (l:Int))->∀ r:Int,r = W Z (q - (l':Int))->(r < p->K (T #[A #[S none 0 0,S none 0 0],I Z 2]) [] k)/\ (¬r < p->(Y Tryz.prog 169 [S a l c] k fun s t =>∃ u v w,s = S u v w/\ (X base k t->(Y Tryz.prog 169 [S a' l' c'] t fun x y =>∃ z a1 b1,x = S z a1 b1/\ (X base t y->(∃ c1:List Value,Row base y 5 1 z a1 b1 c1/\ a1 + ByteArray.size m <= 140737488355328/\ ∀ (d1:O) (e1:Nat) (f1:Heap),Grew base y f1 z b1 d1 e1 (a1 + ByteArray.size m)->Row base f1 5 1 d1 (a1 + ByteArray.size m) e1 (c1 ++ u8s (Array.toList (ByteArray.data m)))->∀ (g1:Nat) (h1:Heap),X base f1 h1->f1 g1 = none->h1 g1 = some (boxKB 5 [I IntKind.u8 10])->∃ i1 j1:List Value,Row base h1 5 1 d1 (a1 + ByteArray.size m) e1 i1/\ List.length j1 = 1 * 1/\ allOne j1 = true/\ (1 = 0∨∃ k1 l1,some (D g1 0 none) = some (D k1 l1 none)/\ cellsAt h1 k1 l1 0 j1)/\ (a1 + ByteArray.size m + 1) * 1 <= 140737488355328/\ a1 + ByteArray.size m + 1 <= 9223372036854775807/\ ∀ (k1:O) (l1:Nat) (m1:Heap),Grew base h1 m1 d1 e1 k1 l1 (a1 + ByteArray.size m + 1)->Row base m1 5 1 k1 (a1 + ByteArray.size m + 1) l1 (i1 ++ j1)->K (T #[A #[S u v w,S k1 (a1 + ByteArray.size m + 1) l1],I Z 0]) [] m1)/\ ∀ (c1:Nat) (d1:Heap),X base y d1->y c1 = none->d1 c1 = some (boxKB 5 [I IntKind.u8 10])->∃ e1:List Value,Row base d1 5 1 z a1 b1 e1/\ a1 + ByteArray.size m <= 140737488355328/\ ∀ (f1:O) (g1:Nat) (h1:Heap),Grew base d1 h1 z b1 f1 g1 (a1 + ByteArray.size m)->Row base h1 5 1 f1 (a1 + ByteArray.size m) g1 (e1 ++ u8s (Array.toList (ByteArray.data m)))->∃ i1 j1:List Value,Row base h1 5 1 f1 (a1 + ByteArray.size m) g1 i1/\ List.length j1 = 1 * 1/\ allOne j1 = true/\ (1 = 0∨∃ k1 l1,some (D c1 0 none) = some
 (D k1 l1 none)/\ cellsAt h1 k1 l1 0 j1)/\ (a1 + ByteArray.size m + 1) * 1 <= 140737488355328/\ a1 + ByteArray.size m + 1 <= 9223372036854775807/\ ∀ (k1:O) (l1:Nat) (m1:Heap),Grew base h1 m1 f1 g1 k1 l1 (a1 + ByteArray.size m + 1)->Row base m1 5 1 k1 (a1 + ByteArray.size m + 1) l1 (i1 ++ j1)->K (T #[A #[S u v w,S k1 (a1 + ByteArray.size m + 1) l1],I Z 0]) [] m1))/\ ∀ (x:Nat) (y:Heap),X base t y->t x = none->y x = some (boxKB 5 [I IntKind.u8 10])->Y Tryz.prog 169 [S a' l' c'] y fun z a1 =>∃ b1 c1 d1,z = S b1 c1 d1/\ (X base y a1->∃ e1:List Value,Row base a1 5 1 b1 c1 d1 e1/\ c1 + ByteArray.size m <= 140737488355328/\ ∀ (f1:O) (g1:Nat) (h1:Heap),Grew base a1 h1 b1 d1 f1 g1 (c1 + ByteArray.size m)->Row base h1 5 1 f1 (c1 + ByteArray.size m) g1 (e1 ++ u8s (Array.toList (ByteArray.data m)))->∃ i1 j1:List Value,Row base h1 5 1 f1 (c1 + ByteArray.size m) g1 i1/\ List.length j1 = 1 * 1/\ allOne j1 = true/\ (1 = 0∨∃ k1 l1,some (D x 0 none) = some (D k1 l1 none)/\ cellsAt h1 k1 l1 0 j1)/\ (c1 + ByteArray.size m + 1) * 1 <= 140737488355328/\ c1 + ByteArray.size m + 1 <= 9223372036854775807/\ ∀ (k1:O) (l1:Nat) (m1:Heap),Grew base h1 m1 f1 g1 k1 l1 (c1 + ByteArray.size m + 1)->Row base m1 5 1 k1 (c1 + ByteArray.size m + 1) l1 (i1 ++ j1)->K (T #[A #[S u v w,S k1 (c1 + ByteArray.size m + 1) l1],I Z 0]) [] m1)))/\ ∀ (s:Nat) (t:Heap),X base k t->k s = none->t s = some (boxKB 5 [I IntKind.u8 10])->Y Tryz.prog 169 [S a l c] t fun u v =>∃ w x y,u = S w x y/\ (X base t v->Y Tryz.prog 169 [S a' l' c'] v fun z a1 =>∃ b1 c1 d1,z = S b1 c1 d1/\ (X base v a1->∃ e1:List Value,Row base a1 5 1 b1 c1 d1 e1/\ c1 + ByteArray.size m <= 140737488355328/\ ∀ (f1:O) (g1:Nat) (h1:Heap),Grew base a1 h1 b1 d1 f1 g1 (c1 + ByteArray.size m)->Row base h1 5 1 f1 (c1 + ByteArray.size m) g1 (e1 ++ u8s (Array.toList (ByteArray.data m)))->∃ i1 j1:List Value,Row base h1 5 1 f1 (c1 + ByteArray.size m) g1 i1/\ List.length j1 = 1 * 1/\ allOne j1 = true/\ (1 = 0∨∃ k1 l1,some (D s 0 none) = some (D k1 l1 none)/\ cellsAt h1 k1 l1 0 j1)/\ (c1 + ByteArray.size m + 1) * 1 <= 140737488355328/\ c1 +
 ByteArray.size m + 1 <= 9223372036854775807/\ ∀ (k1:O) (l1:Nat) (m1:Heap),Grew base h1 m1 f1 g1 k1 l1 (c1 + ByteArray.size m + 1)->Row base m1 5 1 k1 (c1 + ByteArray.size m + 1) l1 (i1 ++ j1)->K (T #[A #[S w x y,S k1 (c1 + ByteArray.size m + 1) l1],I Z 0]) [] m1)))))))) := by kernel_rfl
theorem vd33 (a a' : O) (l c l' c' : Nat) (base : Nat) (H : Heap) (K : KT) :
 (fV TryzMutsJ Tryz.f244 base H [.v (A #[S a l c, S a' l' c'])] [] K) = (
 ∀ b d:Nat,Y Tryz.prog 142 [A #[S a l c,S a' l' c']] H fun e g =>∃ h,e = I Z h/\ (X base H g->(¬h = 0->K (T #[A #[S none 0 0,S none 0 0],I Z h]) [] g)/\ (¬¬h = 0->∀ (i:Nat) (j:Heap),X base g j->g i = none->j i = some (boxKB 33 [S a l c,S a' l' c'])->Y Tryz.prog 80 [S (some (D i 0 none)) 2 2] j fun k m =>∃ n o p,k = S n o p/\ (X base j m->∀ q:Nat,Y Tryz.prog 142 [A #[S n o p,S none 0 0]] m fun r s =>∃ t,r = I Z t/\ (X base m s->(¬t = 0->K (T #[A #[S none 0 0,S none 0 0],I Z t]) [] s)/\ (¬¬t = 0->K (T #[A #[S n o p,S none 0 0],I Z 0]) [] s)))))) := by kernel_rfl
theorem vd36 (a a' : O) (l c l' c' : Nat) (base : Nat) (H : Heap) (K : KT) :
 (fV TryzMutsJ Tryz.f64 base H [.v (A #[S a l c, S a' l' c'])] [] K) = (
 ∀ b d:Nat,Y Tryz.prog 142 [A #[S a l c,S a' l' c']] H fun e g =>∃ h,e = I Z h/\ (X base H g->(¬h = 0->K (T #[A #[S none 0 0,S none 0 0],S none 0 0,I Z h]) [] g)/\ (¬¬h = 0->∃ i:List UInt8,List.length i = l/\ (l = 0∨∃ j k,a = some (D j k none)/\ cellsAt g j k 0 (u8s i))/\ Y Tryz.prog 143 [Str (ByteArray.mk (List.toArray i)),I Z 200] g fun j k =>∃ m n o p q,j = T #[S m n o,I Z p,I Z q]/\ (X base g k->∃ r:List UInt8,List.length r = l'/\ (l' = 0∨∃ s t,a' = some (D s t none)/\ cellsAt k s t 0 (u8s r))/\ ∀ s:Int,s = W Z (200 - (n:Int))->Y Tryz.prog 143 [Str (ByteArray.mk (List.toArray r)),I Z s] k fun t u =>∃ v w x y z,t = T #[S v w x,I Z y,I Z z]/\ (X base k u->0 <= y/\ y <= (c':Int)/\ ∀ (a1:Nat) (b1:Heap),X base u b1->u a1 = none->b1 a1 = some (boxKB 33 [S a l c,S a' (N y) c'])->Y Tryz.prog 80 [S (some (D a1 0 none)) 2 2] b1 fun c1 d1 =>∃ e1 f1 g1,c1 = S e1 f1 g1/\ (X base b1 d1->∃ h1 i1:List Value,Row base d1 126 7 m n o h1/\ List.length i1 = w * 7/\ allOne i1 = true/\ (w = 0∨∃ j1 k1,v = some (D j1 k1 none)/\ cellsAt d1 j1 k1 0 i1)/\ (n + w) * 72 <= 140737488355328/\ n + w <= 9223372036854775807/\ ∀ (j1:O) (k1:Nat) (l1:Heap),Grew base d1 l1 m o j1 k1 (n + w)->Row base l1 126 7 j1 (n + w) k1 (h1 ++ i1)->K (T #[A #[S e1 f1 g1,S none 0 0],S j1 (n + w) k1,I Z 0]) [] l1)))))) := by kernel_rfl
theorem vd79 (a : O) (l c : Nat) (k : Int) (base : Nat) (H : Heap) (K : KT) :
 (fV TryzMutsJ Tryz.f152 base H [.v (S a l c), .v (I Z k)] [] K) = (
 (k < 0->False)/\ (¬k < 0->∀ b:Int,b = W Z ((c:Int) - (l:Int))->∀ d:Int,d = W Z (k - b)->(0 < d->0 <= (c:Int)/\ (c:Int) <= (c:Int)/\ ∃ (e:List Value) (g:Nat),d = (g:Int)/\ 0 < g/\ c < N (c:Int) + g/\ Row base H 5 1 a (N (c:Int)) c e/\ (N (c:Int) + g) * 1 <= 140737488355328/\ N (c:Int) + g <= 9223372036854775807/\ ∀ (h i:Nat) (j:Heap),X base H j->H h = none->Row base j 5 1 (some (D h 0 none)) (N (c:Int) + g) i (e ++ List.flatten (List.replicate g [I IntKind.u8 0]))->0 <= (l:Int)/\ (l:Int) <= (i:Int)/\ K (S (some (D h 0 none)) (N (l:Int)) i) [] j)/\ (¬0 < d->K (S a l c) [] H))) := by kernel_rfl
open Go Go.Proofs
end Go.Vg
