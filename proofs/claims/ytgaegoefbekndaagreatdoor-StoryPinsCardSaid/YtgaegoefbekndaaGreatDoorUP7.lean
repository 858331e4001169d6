/- What is proved here: a part of the proof of laws of this seat: what a contract is, how it comes of a condition, contracts of the functions that are reached, the plain laws. -/
import Derived.Test.YtgaegoefbekndaaGreatDoorUP6
set_option linter.unusedSimpArgs false
set_option linter.unusedVariables false
set_option maxRecDepth 100000
namespace Go.Vg
open Go Go.Proofs
section
variable {base : Nat} {G H H' : Heap} {l : Ldr} {la la' ka : O} {ll lc lc' kl kc : Nat} {rows : List (List Value)}
theorem OwnL.push (h : OwnL base G H l la ll lc ka kl kc rows) {r : Rls} {a : O} {n c nn : Nat} (hp : Pins G a n r.lock) (hg : Rg r.id) (hn : nn = ll + 1) (hG : Grew base H H' la lc la' lc' nn) (hR : Row base H' 24 2 la' nn lc' (rows.flatten ++ [i64 r.id, .slice a n c])) :
  LdrAt H' { l with rels := l.rels ++ [r] } la' nn ka kl := by
 have h1 := h.rels.grew (rows' := [[i64 r.id, .slice a n c]]) (ys := [r]) hG (by simpa using hR) (by simp) ⟨⟨a, n, c, rfl, hp, hg⟩, trivial⟩
 exact ⟨h1.sl RRl.mono (by omega), kns_row (h.ags.stay hG h.apart).1⟩
theorem OwnL.put (h : OwnL base G H l la ll lc ka kl kc rows) {k : Nat} {p q : Kn} (hp : l.ags[k]? = some p) {f o : Nat} {vs : List Value} (hf : f + vs.length <= 3) (hq : setRange (knCells p) f vs = knCells q) {b : Nat} {kb : KB} (hka : ka = some ⟨b, 0, none⟩) (hkc : kc ≠ 0) (hb : H b = some kb) (ho : o = k * 3 + f) (hu : Upd H b o kb vs H') :
  OwnL base G H' { l with ags := l.ags.set k q } la ll lc ka kl kc rows := by
 refine ⟨h.rels.other hu (fun w e => h.apart w hkc (by rw [e, hka])) (h.clear hkc b hka), ?_, h.apart, h.clear⟩
 have hl := (kns_row h.ags).len
 have hkl := (List.getElem?_eq_some_iff.1 hp).1
 have h1 := h.ags.upd hka hkc hb (o := o) (vs := vs) (by rw [h.ags.1, ho]; omega) hu
 rw [ho, flat_field knCells_len hf hq hp] at h1
 exact h1
theorem OwnL.ag (h : OwnL base G H l la ll lc ka kl kc rows) {k : Nat} {p : Kn} (hp : l.ags[k]? = some p) :
  ∃ (b : Nat) (kb : KB), ka = some ⟨b, 0, none⟩/\ base <= b/\ kc ≠ 0/\ H b = some kb/\ kb.free = true/\ kb.size = kc * 3/\ k < kl/\ kl <= kc/\ ∀ (j : Nat) (v : Value), (knCells p)[j]? = some v->H.cell b (0 + k * 3 + j) = some v := by
 have hl := (kns_row h.ags).len
 have hkl := (List.getElem?_eq_some_iff.1 hp).1
 obtain ⟨b, kb, h1, h2, h3, h4, h5, h6, _⟩ := h.ags.block (by omega)
 have hR := h.ags
 rw [List.flatMap_def] at hR
 obtain ⟨b', hb', hc⟩ := hR.at (i := k) (r := knCells p) (fun r hr => by obtain ⟨x, _, rfl⟩ := List.mem_map.1 hr; rfl) (by simp; omega) (by rw [List.getElem?_map, hp]; rfl)
 obtain rfl : b = b' := by rw [h1] at hb'; simpa using hb'
 exact ⟨b, kb, h1, h2, h3, h4, h5, h6, by omega, hR.2.1, hc⟩
theorem OwnL.as {x y : Ldr} (h : OwnL base G H x la ll lc ka kl kc rows) (hr : x.rels = y.rels) (ha : x.ags = y.ags) : OwnL base G H y la ll lc ka kl kc rows := ⟨hr ▸ h.rels, ha ▸ h.ags, h.apart, h.clear⟩
theorem LdrAt.as {x y : Ldr} (h : LdrAt H x la ll ka kl) (hr : x.rels = y.rels) (ha : x.ags = y.ags) : LdrAt H y la ll ka kl := ⟨hr ▸ h.rels, ha ▸ h.ags⟩
end
theorem rec_zero {r : Recd} (h : recErr r = 0) : (1 <= r.kind/\ r.kind <= 9)/\ ¬ recForm r/\ ¬ recRange r/\ (r.kind = 1 ∨ r.kind = 4->relErr r.rel = 0) := by
 unfold recErr at h
 split at h
 ·omega
 ·split at h
  ·omega
  ·split at h
   ·omega
   ·rename_i h1 h2 h3
    refine ⟨by omega, h2, h3, fun hk => ?_⟩
    rw [if_pos hk] at h; exact h
def clr (a : Kn) : Kn := ⟨0, a.try_, false⟩
theorem clr_at {xs : List Kn} {i : Nat} {m : Kn} (hm : xs[i]? = some m) : ((xs.take i).map clr ++ xs.drop i).set i (clr m) = (xs.take (i + 1)).map clr ++ xs.drop (i + 1) := by
 have hi := (List.getElem?_eq_some_iff.1 hm).1
 rw [drop_at hm, take_at hm, List.set_append_right _ _ (by simp; omega)]
 simp [Nat.min_eq_left (Nat.le_of_lt hi)]
theorem clr_get {xs : List Kn} {i : Nat} {m : Kn} (hm : xs[i]? = some m) : ((xs.take i).map clr ++ xs.drop i)[i]? = some m := by
 have hi := (List.getElem?_eq_some_iff.1 hm).1
 rw [List.getElem?_append_right (by simp; omega)]
 simp [Nat.min_eq_left (Nat.le_of_lt hi), hm]
section
variable {H : Heap} {c : Conf} {fa ra wa qa : O} {fl fc rl rc wl wc ql qc : Nat} {l : Ldr} {la ka : O} {ll lc kl kc : Nat} {r : Recd}
theorem cNextL2 (hc : CfgAt H c fa fl ra rl wa wl) (h : LdrAt H l la ll ka kl) (hr : Pins H qa ql r.rel.lock) :
  Spec Tryz.prog 144 [cfgArg c fa fl fc ra rl rc wa wl wc, ldrArg l la ll lc ka kl kc, recArg r qa ql qc] H fun v H' => ∃ la ll lc ka kl kc, v = .tuple #[ldrArg (ledV c l r) la ll lc ka kl kc, i64 (ledErr c l r)]/\ LdrAt H' (ledV c l r) la ll ka kl/\ ll <= lc := by
 refine TryzvcJ Tryz.func144 (by kernel_rfl) (by kernel_rfl) _ rfl (fun base K => vc79 c.first.id c.bud fa ra wa fl fc rl rc wl wc la ka ll lc kl kc l.now l.goal l.nx l.back r.kind r.agent r.try_ r.num r.rel.id r.good qa ql qc base H K) fun base hb => ?_
 have bad : ∀ {e : Int} {H' : Heap}, ledErr c l r = e->e ≠ 0->∃ la ll lc ka kl kc, Value.tuple #[.agg #[.slice none 0 0, .int .i64 0, .int .i64 0, .bool false, .slice none 0 0, .int .i64 0], .int .i64 e] = .tuple #[ldrArg (ledV c l r) la ll lc ka kl kc, i64 (ledErr c l r)]/\ LdrAt H' (ledV c l r) la ll ka kl/\ ll <= lc := fun he h0 => by
  have : ledV c l r = noLdr := by rw [ledV, if_neg (by omega)]
  rw [this, he]; exact ⟨none, 0, 0, none, 0, 0, rfl, ⟨Sl.nil, Sl.nil⟩, by omega⟩
 have good : ∀ {X : Ldr} {H' : Heap} {la ll lc ka kl kc}, ledErr c l r = 0->ledNext l r = X->LdrAt H' X la ll ka kl->ll <= lc->∃ la' ll' lc' ka' kl' kc', Value.tuple #[ldrArg X la ll lc ka kl kc, .int .i64 0] = .tuple #[ldrArg (ledV c l r) la' ll' lc' ka' kl' kc', i64 (ledErr c l r)]/\ LdrAt H' (ledV c l r) la' ll' ka' kl'/\ ll' <= lc' := fun he hX hA hle => by
  have : ledV c l r = ledNext l r := by rw [ledV, if_pos he]
  rw [this, he, hX]; exact ⟨_, _, _, _, _, _, rfl, hA, hle⟩
 intro b b1 b2 b3
 refine (cLdrCheck hc h).int1 fun H1 e1 _ => ⟨fun q => bad (by rw [ledErr, if_pos q]) q, fun q => ?_⟩
 have q0 : ldrErr c l = 0 := Decidable.not_not.1 q
 obtain ⟨g1, g2, g3, g4, g5, g6, g7⟩ := ldrErr_zero.1 q0
 unfold ldrRange at g5
 have h6 := ags_six q0
 have hlk := rel_lock g4
 have hkl := h.ags.len
 have hll := h.rels.len
 refine (cRecCheck (hr.ext' e1)).int1 fun H2 e2 _ => ?_
 have E2 := e1.trans e2
 refine (cCopyL (h.ext E2) (by omega) (by omega) (fun m hm => by have := (hlk m hm).2; omega)).mono fun v H3 e3 hv => ?_
 obtain ⟨la', ll', lc', ka', kl', kc', G, rows, rfl, hNew⟩ := hv
 refine ⟨la', ll', lc', _, _, _, ka', kl', kc', _, rfl, fun hN3 => ?_⟩
 have E3 := E2.trans e3
 have hO := hNew.own hN3
 have hll' := hO.at_.rels.len
 have hkl' := hO.at_.ags.len
 refine ⟨fun q2 => ⟨fun _ => bad (by rw [ledErr, if_neg q, if_pos q2]) q2, fun w => absurd q2 w⟩, fun q2 => ?_⟩
 have q20 : recErr r = 0 := Decidable.not_not.1 q2
 have E : ∀ {P : Int}, ledKind c l r = P->ledErr c l r = P := fun he => by rw [ledErr, if_neg q, if_neg q2, he]
 obtain ⟨z1, z2, z3, z4⟩ := rec_zero q20
 have hra : 0 <= r.agent := by unfold recRange at z3; omega
 refine ⟨fun k4 => ?_, fun k4 => ⟨fun k5 => ?_, fun k5 => ?_⟩⟩
 ·have hr0 : relErr r.rel = 0 := z4 (.inr k4)
  intro b4 b5
  refine ⟨fun w => ⟨fun _ => bad (E (by rw [ledKind, if_pos k4, if_pos (by omega)])) (by decide), fun w => absurd (by decide) w⟩, fun w => ?_⟩
  rintro _ rfl
  rw [wrap_in (by omega) (by omega)]
  refine ⟨fun w2 => ⟨fun _ => bad (E (by rw [ledKind, if_pos k4, if_neg (by omega), if_pos (by omega)])) (by decide), fun w => absurd (by decide) w⟩, fun w2 => ?_⟩
  refine (cBroken (hr.ext' E3) (hc.ext E3).rules).int2 fun H4 e4 _ => ⟨fun w3 => ⟨fun _ => bad (E (by rw [ledKind, if_pos k4, if_neg (by omega), if_neg (by omega), if_pos w3])) w3, fun w => absurd w3 w⟩, fun w3 => ⟨fun w4 => ⟨fun _ => bad (E (by rw [ledKind, if_pos k4, if_neg (by omega), if_neg (by omega), if_neg w3, if_pos w4])) (by decide), fun w => absurd (by decide) w⟩, fun w4 => ?_⟩⟩
  have hE0 : ledErr c l r = 0 := E (by rw [ledKind, if_pos k4, if_neg (by omega), if_neg (by omega), if_neg w3, if_neg w4])
  have hrl := hr.len
  have hr12 := (relErr_zero hr0).2.2
  refine (cCloneJ (hr.ext' (E3.trans e4)) (by omega)).mono fun v H5 e5 hv => ?_
  obtain ⟨a5, n5, c5, rfl, hF⟩ := hv
  refine ⟨a5, n5, c5, rfl, fun hN5 g H6 hN6 _ hg => ?_⟩
  have hO6 := ((hO.rels.ext e4).grow RRl.mono e5).ext hN6.ext
  have hP : Pins (G.plus (newOf H4 H5)) a5 n5 r.rel.lock := Sl.ext REnc.mono (hF.sl_new pinCells_len (by omega)) (new_in_grow (hO.rels.sub.trans e4))
  have hOL : OwnL base (G.plus (newOf H4 H5)) H6 l la' ll' lc' ka' kl' kc' rows := ⟨hO6, ((hO.ags.ext e4).ext e5).ext hN6.ext, hO.apart, fun w g hg => by
   obtain ⟨kb, hkb⟩ : ∃ kb, H4 g = some kb := by
    rcases (hO.ags.ext e4).2.2.2 with ⟨_, h0⟩ | ⟨g', k', u1, _, u3, _⟩
    ·exact absurd h0 w
    ·rw [hg] at u1; simp at u1; subst u1; exact ⟨k', u3⟩
   unfold Heap.plus newOf
   rw [hO.clear w g hg, hkb]⟩
  refine ⟨rows.flatten, [i64 r.rel.id, .slice a5 n5 c5], hO6.row, rfl, rfl, .inr ⟨g, 0, rfl, box_cellsAt hg⟩, by omega, by omega, fun a7 c7 H7 hG hR7 => ⟨fun w => absurd rfl w, fun _ => ?_⟩⟩
  exact good (X := { l with rels := l.rels ++ [r.rel] }) hE0 (by rw [ledNext, if_pos k4]) (hOL.push hP (rg_id hr0) rfl hG hR7) hR7.2.1
 ·refine ⟨fun w => ⟨fun _ => bad (E (by rw [ledKind, if_neg k4, if_pos k5, if_pos w])) (by decide), fun w => absurd (by decide) w⟩, fun w => ⟨fun w2 => ⟨fun _ => bad (E (by rw [ledKind, if_neg k4, if_pos k5, if_neg w, if_pos (by omega)])) (by decide), fun w => absurd (by decide) w⟩, fun w2 => ⟨fun w3 => ⟨fun _ => bad (E (by rw [ledKind, if_neg k4, if_pos k5, if_neg w, if_neg (by omega), if_pos w3])) (by decide), fun w => absurd (by decide) w⟩, fun w3 => ⟨fun w => absurd rfl w, fun _ => ?_⟩⟩⟩⟩
  exact good (X := { l with goal := r.num }) (E (by rw [ledKind, if_neg k4, if_pos k5, if_neg w, if_neg (by omega), if_neg w3])) (by rw [ledNext, if_neg k4, if_pos k5]) (hO.at_.as rfl rfl) hO.rels.row.2.1
 refine ⟨r.kind = 6 ∨ r.kind = 7, ⟨fun w => ⟨rfl, fun _ _ h => h, .inl w⟩, fun w => ⟨rfl, fun _ _ h => h, by omega⟩⟩, fun k67 => ?_, fun k67 => ⟨fun k8 => ?_, fun k8 => ⟨fun k9 => ?_, fun k9 => ?_⟩⟩⟩
 ·intro b4 b5
  refine ⟨fun w => ⟨fun _ => bad (E (by rw [ledKind, if_neg k4, if_neg k5, if_pos k67, if_pos (by omega)])) (by decide), fun w => absurd (by decide) w⟩, fun w => ?_⟩
  obtain ⟨p, hp⟩ : ∃ p, l.ags[r.agent.toNat]? = some p := ⟨_, List.getElem?_eq_getElem (by omega)⟩
  obtain ⟨b6, kb, t1, t2, t3, t4, t5, t6, t7, t8, t9⟩ := hO.ag hp
  refine ⟨b6, 0, t1, hra, by omega, fun k7 => ?_, fun k7 => ?_⟩
  ·refine ⟨p.st, t9 0 _ rfl, fun w2 => ⟨fun _ => bad (E (by rw [ledKind, if_neg k4, if_neg k5, if_pos k67, if_neg (by omega), if_pos k7, hp]; exact if_pos (.inl w2))) (by decide), fun w => absurd (by decide) w⟩, fun w2 => ⟨p.try_, t9 1 _ rfl, fun w3 => ⟨fun _ => bad (E (by rw [ledKind, if_neg k4, if_neg k5, if_pos k67, if_neg (by omega), if_pos k7, hp]; exact if_pos (.inr w3))) (by decide), fun w => absurd (by decide) w⟩, fun w3 => ?_⟩⟩
   have hE0 : ledErr c l r = 0 := E (by rw [ledKind, if_neg k4, if_neg k5, if_pos k67, if_neg (by omega), if_pos k7, hp]; exact if_neg (by rintro (x | x); exact w2 x; exact w3 x))
   have hNX : ledNext l r = { l with ags := l.ags.set r.agent.toNat (got r p) } := by rw [ledNext, if_neg k4, if_neg k5, if_neg (by omega), if_pos k7, hp]
   refine ⟨kb, t4, t5, t2, by omega, fun H4 hu => ?_⟩
   have hO4 := hO.put (q := ⟨3, p.try_, p.back⟩) hp (f := 0) (by simp) rfl t1 t3 t4 (by omega) hu
   refine ⟨fun hgd => ?_, fun hgd => ⟨fun w => absurd rfl w, fun _ => good (X := { l with ags := l.ags.set r.agent.toNat (got r p) }) hE0 hNX (hO4.at_.as rfl (by simp [got, hgd])) hO4.rels.row.2.1⟩⟩
   refine ⟨_, hu.here, t5, t2, by show _ <= kb.size; omega, fun H5 hu2 => ?_⟩
   have hp5 : (l.ags.set r.agent.toNat ⟨3, p.try_, p.back⟩)[r.agent.toNat]? = some ⟨3, p.try_, p.back⟩ := by rw [List.getElem?_set_self (by omega)]
   have hO5 := hO4.put (q := ⟨2, p.try_, p.back⟩) hp5 (f := 0) (by simp) rfl t1 t3 hu.here (by omega) hu2
   exact ⟨fun w => absurd rfl w, fun _ => good (X := { l with ags := l.ags.set r.agent.toNat (got r p) }) hE0 hNX (hO5.at_.as rfl (by simp [got, hgd])) hO5.rels.row.2.1⟩
  ·have k6 : r.kind = 6 := by omega
   have lateE : (l.goal = 0 ∨ r.try_ ≠ l.nx ∨ turnOf c l r.agent = false)->ledErr c l r = 7 := fun w => E (by rw [ledKind, if_neg k4, if_neg k5, if_pos k67, if_neg (by omega), if_neg k7, if_pos w])
   refine ⟨fun w2 => ⟨fun _ => bad (lateE (.inl w2)) (by decide), fun w => absurd (by decide) w⟩, fun w2 => ⟨fun w3 => ⟨fun _ => bad (lateE (.inr (.inl w3))) (by decide), fun w => absurd (by decide) w⟩, fun w3 => ?_⟩⟩
   have w3' : r.try_ = l.nx := Decidable.not_not.1 w3
   refine (cTurn (hc.ext E3) hO.at_ h6.1 hra (by omega)).bool1 fun H4 e4 _ => ⟨fun w4 => ⟨fun _ => bad (lateE (.inr (.inr w4))) (by decide), fun w => absurd (by decide) w⟩, fun w4 => ?_⟩
   refine ⟨kb, e4 _ _ t4, t5, t2, by omega, fun H5 hu => ?_⟩
   rintro _ rfl
   rw [wrap_in (by omega) (by omega)]
   have hO5 := (hO.ext e4).put (q := ⟨1, r.try_, l.back⟩) hp (f := 0) (by simp) rfl t1 t3 (e4 _ _ t4) (by omega) hu
   refine ⟨fun w => absurd rfl w, fun _ => good (X := { l with ags := l.ags.set r.agent.toNat ⟨1, r.try_, l.back⟩, nx := l.nx + 1 }) (E (by rw [ledKind, if_neg k4, if_neg k5, if_pos k67, if_neg (by omega), if_neg k7, if_neg (by rintro (x | x | x); exact w2 x; exact w3 x; exact w4 x)])) (by rw [ledNext, if_neg k4, if_neg k5, if_pos k6]) (hO5.at_.as rfl rfl) hO5.rels.row.2.1⟩
 ·refine ⟨l.goal = 0 ∨ l.back = true, ⟨fun w => ⟨rfl, fun _ _ h => h, .inl w⟩, fun w => ⟨rfl, fun _ _ h => h, ⟨fun x => x.resolve_left w, .inr⟩⟩⟩, fun w => ⟨fun _ => bad (E (by rw [ledKind, if_neg k4, if_neg k5, if_neg k67, if_pos k8, if_pos w])) (by decide), fun w => absurd (by decide) w⟩, fun w => ?_⟩
  rw [q20]
  exact ⟨fun w => absurd rfl w, fun _ => good (X := { l with back := true }) (E (by rw [ledKind, if_neg k4, if_neg k5, if_neg k67, if_pos k8, if_neg w])) (by rw [ledNext, if_neg k4, if_neg k5, if_neg (by omega), if_neg (by omega), if_pos k8]) (hO.at_.as rfl rfl) hO.rels.row.2.1⟩
 ·intro b4
  refine ⟨fun w => ⟨fun _ => bad (E (by rw [ledKind, if_neg k4, if_neg k5, if_neg k67, if_neg k8, if_pos k9, if_pos (.inl w)])) (by decide), fun w => absurd (by decide) w⟩, fun w => ?_⟩
  refine (cOver (hc.ext E3) hO.at_ h6.1).bool1 fun H4 e4 _ => ⟨fun w2 => ⟨fun _ => bad (E (by rw [ledKind, if_neg k4, if_neg k5, if_neg k67, if_neg k8, if_pos k9, if_pos (.inr w2)])) (by decide), fun w => absurd (by decide) w⟩, fun w2 => ?_⟩
  have hE0 : ledErr c l r = 0 := E (by rw [ledKind, if_neg k4, if_neg k5, if_neg k67, if_neg k8, if_pos k9, if_neg (by rintro (x | x); exact w x; exact w2 x)])
  have hNX : ledNext l r = { l with now := (if l.back = false then l.goal else l.now), goal := 0, back := false, ags := l.ags.map fun a => ⟨0, a.try_, false⟩ } := by rw [ledNext, if_neg k4, if_neg k5, if_neg (by omega), if_neg (by omega), if_neg k8]
  refine ⟨fun w3 => ?_, fun w3 => ?_⟩
  all_goals
   refine ⟨fun vs Hc => ∃ i : Nat, vs = [i64 i]/\ i <= kl'/\ OwnL base G Hc { l with ags := (l.ags.take i).map clr ++ l.ags.drop i } la' ll' lc' ka' kl' kc' rows, upTo kl' 0, ⟨0, rfl, by omega, (hO.ext e4).as rfl rfl⟩, fun m H5 hN5 hI => ?_⟩
   obtain ⟨i, hvs, hi, hOi⟩ := hI
   obtain rfl : m = (i : Int) := by simpa using hvs
   refine ⟨fun hlt => ?_, fun hge => ?_⟩
   ·obtain ⟨p, hp⟩ : ∃ p, l.ags[i]? = some p := ⟨_, List.getElem?_eq_getElem (by omega)⟩
    obtain ⟨b6, kb, t1, t2, t3, t4, t5, t6, t7, t8, t9⟩ := hOi.ag (clr_get hp)
    refine ⟨b6, 0, t1, by omega, hlt, p.st, p.try_, p.back, ⟨t9 0 _ rfl, t9 1 _ rfl, t9 2 _ rfl, trivial⟩, fun b7 => ⟨b6, 0, t1, by omega, hlt, kb, t4, t5, t2, by rw [Int.toNat_natCast]; omega, fun H6 hu => ?_⟩⟩
    rw [Int.toNat_natCast] at hu
    rintro _ rfl
    rw [wrap_in (by omega) (by omega)]
    have hO6 := hOi.put (q := clr p) (clr_get hp) (f := 0) (by simp) rfl t1 t3 t4 (by omega) hu
    exact ⟨rfl, ⟨i + 1, rfl, by omega, hO6.as rfl (clr_at hp)⟩, by simp [upTo]; omega⟩
   ·refine ⟨fun w => absurd rfl w, fun _ => ?_⟩
    rw [List.take_of_length_le (by omega), List.drop_eq_nil_of_le (by omega), List.append_nil] at hOi
    first
    | exact good (X := { l with now := l.goal, goal := 0, back := false, ags := l.ags.map clr }) hE0 (by rw [hNX, if_pos w3]; rfl) (hOi.at_.as rfl rfl) hOi.rels.row.2.1
    | exact good (X := { l with now := l.now, goal := 0, back := false, ags := l.ags.map clr }) hE0 (by rw [hNX, if_neg w3]; rfl) (hOi.at_.as rfl rfl) hOi.rels.row.2.1
 ·exact ⟨fun _ => bad (E (by rw [ledKind, if_neg k4, if_neg k5, if_neg k67, if_neg k8, if_neg k9])) (by decide), fun w => absurd (by decide) w⟩
theorem cNextL (hc : CfgAt H c fa fl ra rl wa wl) (h : LdrAt H l la ll ka kl) (hr : Pins H qa ql r.rel.lock) :
  Spec Tryz.prog 144 [cfgArg c fa fl fc ra rl rc wa wl wc, ldrArg l la ll lc ka kl kc, recArg r qa ql qc] H fun v H' => ∃ la ll lc ka kl kc, v = .tuple #[ldrArg (ledV c l r) la ll lc ka kl kc, i64 (ledErr c l r)]/\ LdrAt H' (ledV c l r) la ll ka kl :=
 (cNextL2 hc h hr).mono fun v H' _ ⟨la, ll, lc, ka, kl, kc, h1, h2, _⟩ => ⟨la, ll, lc, ka, kl, kc, h1, h2⟩
end
open Go Go.Proofs
open Go Go.Proofs
section
variable {H : Heap} {c : Conf} {fa ra wa : O} {fl fc rl rc wl wc : Nat}
theorem cReplayL {a : O} {n k : Nat} {rs : List Recd} (hc : CfgAt H c fa fl ra rl wa wl) (hr : Recs H a n rs) :
  Spec Tryz.prog 66 [cfgArg c fa fl fc ra rl rc wa wl wc, .slice a n k] H fun v H' => ∃ la ll lc ka kl kc, v = .tuple #[ldrArg (okLd (ledReplay c rs)) la ll lc ka kl kc, i64 (errOf (ledReplay c rs))]/\ LdrAt H' (okLd (ledReplay c rs)) la ll ka kl := by
 refine TryzvcJ Tryz.func66 (by kernel_rfl) (by kernel_rfl) _ rfl (fun base K => vc89 c.first.id c.bud fa ra wa fl fc rl rc wl wc a n k base H K) fun base hb => ?_
 have hrl := hr.len
 have bad : ∀ {e : Int} {H' : Heap}, ledReplay c rs = .error e->∃ la ll lc ka kl kc, Value.tuple #[.agg #[.slice none 0 0, .int .i64 0, .int .i64 0, .bool false, .slice none 0 0, .int .i64 0], .int .i64 e] = .tuple #[ldrArg (okLd (ledReplay c rs)) la ll lc ka kl kc, i64 (errOf (ledReplay c rs))]/\ LdrAt H' (okLd (ledReplay c rs)) la ll ka kl := fun he => by
  rw [he]; exact ⟨none, 0, 0, none, 0, 0, rfl, Sl.nil, Sl.nil⟩
 intro b b'
 refine (cNewL hc).ldr fun la1 ll1 lc1 ka1 kl1 kc1 H1 e1 _ hA1 => fun b2 => ⟨fun h => bad (by rw [ledReplay, if_pos h]), fun h => ⟨fun h200 => bad (by rw [ledReplay, if_neg h, if_pos (by omega)]), fun h200 => ?_⟩⟩
 rw [if_pos (Decidable.not_not.1 h)] at hA1 ⊢
 have hW : ledReplay c rs = ledFrom c (newLdr c) rs := by rw [ledReplay, if_neg h, if_neg (by omega)]
 rw [hW] at bad ⊢
 refine ⟨fun vs Hc => ∃ (y : Ldr) (la : O) (ll lc : Nat) (ka : O) (kl kc : Nat) (d e : Int) (w : Value) (i : Nat), vs = [i64 d, i64 e, i64 i, w, ldrArg y la ll lc ka kl kc]/\ LdrAt Hc y la ll ka kl/\ i <= n/\ ledFrom c y (rs.drop i) = ledFrom c (newLdr c) rs, upTo n 2,
  ⟨newLdr c, la1, ll1, lc1, ka1, kl1, kc1, 0, _, _, 0, rfl, hA1, by omega, rfl⟩, fun d e m a6 n8 c3 n9 n10 b0 a7 n11 c4 n12 a8 n13 c5 n14 n15 b4 a9 n16 c6 n17 H' hN hI => ?_⟩
 obtain ⟨y, ya, yn, yc, yka, ykn, ykc, d', e', w, i, hvs, hA, hi, hI⟩ := hI
 obtain ⟨rfl, rfl, rfl, rfl, ⟨rfl, rfl, rfl⟩, rfl, rfl, rfl, ⟨rfl, rfl, rfl⟩, rfl⟩ : d = d'/\ e = e'/\ m = (i : Int)/\ Value.agg #[.slice a6 n8 c3, .int .i64 n9, .int .i64 n10, .bool b0, .slice a7 n11 c4, .int .i64 n12] = w/\ (a8 = ya/\ n13 = yn/\ c5 = yc)/\ n14 = y.now/\ n15 = y.goal/\ b4 = y.back/\ (a9 = yka/\ n16 = ykn/\ c6 = ykc)/\ n17 = y.nx := by simpa using hvs
 refine ⟨fun hlt => hr.recd hN.ext (by omega) hlt fun r ra rn rc hm hq => fun b8 => ?_, fun hge => ?_⟩
 ·rw [Int.toNat_natCast] at hm
  rw [drop_at hm, ledFrom] at hI
  refine (cNextL (hc.ext hN.ext) hA (hq.ext' hN.ext)).ldr fun la2 ll2 lc2 ka2 kl2 kc2 H2 e2 _ hA2 => ⟨fun h => ?_, fun h => ?_⟩
  ·rw [if_neg h] at hI
   exact bad hI.symm
  ·have h0 : ledErr c y r = 0 := Decidable.not_not.1 h
   rw [if_pos h0] at hI
   have hV : ledV c y r = ledNext y r := by rw [ledV, if_pos h0]
   rw [hV] at hA2 ⊢
   rintro q rfl
   rw [wrap_in (by omega) (by omega)]
   exact ⟨rfl, ⟨ledNext y r, la2, ll2, lc2, ka2, kl2, kc2, _, _, _, i + 1, rfl, hA2, by omega, hI⟩, by simp [upTo]; omega⟩
 ·rw [drop_all hrl (by omega), ledFrom] at hI
  rw [← hI]
  exact ⟨_, _, _, _, _, _, rfl, hA⟩
end
theorem sl_of_rows {α : Type} {R : Rep α} {sz : Nat} {H : Heap} {g : Nat} {ty : TypeId} {rs : List (List Value)} {xs : List α} {n : Nat} (h : H g = some (boxKB ty rs.flatten)) (hw : ∀ r ∈ rs, r.length = sz) (ha : AllR R H rs xs) (hn : rs.length = n) (hle : (n : Int) <= 9223372036854775807) : Sl R sz H (some ⟨g, 0, none⟩) n xs :=
 Sl.of_has (rows := rs) (Has.of_box h rfl hw hn hle) ha.len fun i r x hr hx => ha.get hr hx
def cS : Conf := ⟨⟨1, [⟨1, 1⟩]⟩, [⟨1, 2, 2, 1⟩], [[1], [0, 2]], 0⟩
def s2 : Rls := ⟨2, [⟨1, 2⟩, ⟨2, 1⟩]⟩
def s3 : Rls := ⟨3, [⟨1, 2⟩]⟩
def q1 : Recd := ⟨4, 0, 0, 0, false, s2⟩
def q2 : Recd := ⟨5, 0, 0, 2, false, ⟨0, []⟩⟩
def q3 : Recd := ⟨6, 1, 1, 0, false, ⟨0, []⟩⟩
def q4 : Recd := ⟨7, 1, 1, 0, false, ⟨0, []⟩⟩
def u1 : Recd := ⟨6, 0, 2, 0, false, ⟨0, []⟩⟩
def u2 : Recd := ⟨8, 0, 0, 0, false, ⟨0, []⟩⟩
def u3 : Recd := ⟨4, 0, 0, 0, false, s3⟩
theorem cSmall {H : Heap} : Spec Tryz.prog 71 [] H fun v H' => ∃ a n c a1 n1 c1 a2 n2 c2, v = cfgArg cS a n c a1 n1 c1 a2 n2 c2/\ CfgAt H' cS a n a1 n1 a2 n2 := by
 refine TryzvcJ Tryz.func71 (by kernel_rfl) (by kernel_rfl) _ rfl (fun base K => vc128 base H K) fun base hb => ?_
 intro b g H1 hN1 _ hg g1 H2 hN2 _ hg1 g2 H3 hN3 _ hg2 g3 H4 hN4 _ hg3 g4 H5 hN5 _ hg4
 have e5 := hN5.ext
 have e45 := Ext.trans hN4.ext hN5.ext
 have e35 := Ext.trans hN3.ext e45
 have e25 := Ext.trans hN2.ext e35
 refine ⟨_, _, _, _, _, _, _, _, _, rfl, ?_, ?_, ?_⟩
 ·exact sl_of_boxE pinCells_len (xs := [⟨1, 1⟩]) (e25 _ _ hg) rfl (by decide)
 ·exact sl_of_boxE ruleCells_len (xs := [⟨1, 2, 2, 1⟩]) (e35 _ _ hg1) rfl (by decide)
 ·refine sl_of_rows (rs := [[.slice (some ⟨g2, 0, none⟩) 1 1], [.slice (some ⟨g3, 0, none⟩) 2 2]]) hg4 (by simp) ⟨⟨_, _, _, rfl, ?_⟩, ⟨_, _, _, rfl, ?_⟩, trivial⟩ rfl (by decide)
  ·exact ints_of_box (xs := [1]) (e45 _ _ hg2) rfl (by decide)
  ·exact ints_of_box (xs := [0, 2]) (e5 _ _ hg3) rfl (by decide)
theorem Spec.turn {P : Program} {f : FuncId} {args : List Value} {H : Heap} {t : Bool} {x : Rls} {e : Int} (h : Spec P f args H fun v H' => ∃ a n c', v = .tuple #[.bool t, .agg #[.int .i64 x.id, .slice a n c'], i64 e]/\ Pins H' a n x.lock) {base : Nat}
  {G : Bool->Int->O->Nat->Nat->Int->Heap->Prop} (hG : ∀ a n c H', Ext H H'->Next base H H'->Pins H' a n x.lock->G t x.id a n c e H') :
  Spec P f args H fun v H' => ∃ (t : Bool) (id : Int) (a : O) (n c : Nat) (e : Int), v = .tuple #[.bool t, .agg #[.int .i64 id, .slice a n c], .int .i64 e]/\ (Next base H H'->G t id a n c e H') :=
 h.mono fun v H' ex hv => by
  obtain ⟨a, n, c, h1, h2⟩ := hv
  exact ⟨_, _, a, n, c, _, h1, fun hN => hG a n c H' ex hN h2⟩
open Go Go.Proofs
theorem form_parts {c : Conf} {l : Ldr} (h : ¬ ldrForm c l) : l.goal ≠ l.now/\ ¬ (l.goal = 0/\ l.back = true)/\ (l.ags.length : Int) = agentsOf c.waves/\ l.rels[0]? = some c.first := by
 refine ⟨fun q => h (.inl q), fun q => h (.inr (.inl q)), ?_, ?_⟩
 ·by_cases q : (l.ags.length : Int) = agentsOf c.waves
  ·exact q
  ·exact absurd (.inr (.inr (.inl q))) h
 ·by_cases q : l.rels[0]? = some c.first
  ·exact q
  ·exact absurd (.inr (.inr (.inr q))) h
theorem form_of {c : Conf} {l : Ldr} (h1 : l.goal ≠ l.now) (h2 : ¬ (l.goal = 0/\ l.back = true)) (h3 : (l.ags.length : Int) = agentsOf c.waves) (h4 : l.rels[0]? = some c.first) : ¬ ldrForm c l := by
 rintro (q | q | q | q)
 ·exact h1 q
 ·exact h2 q
 ·exact q h3
 ·exact q h4
theorem new_ok {c : Conf} (h : cfgErr c = 0) : ldrErr c (newLdr c) = 0 := by
 obtain ⟨z1, z2, z3, z4, z5, z6, z7⟩ := cfgErr_zero h
 have hag := (agents_same z7).2
 refine ldrErr_zero.2 ⟨h, by simp [newLdr], by simp [newLdr], ?_, ?_, ?_, ?_⟩
 ·refine relsErr_zero.2 fun j r hj => ?_
  cases j with
  | zero => simp [newLdr] at hj; subst hj; exact ⟨z5, z6, by rw [z2]; rfl⟩
  | succ j => simp [newLdr] at hj
 ·unfold ldrRange newLdr; simp
 ·refine form_of (by simp [newLdr]) (by simp [newLdr]) ?_ rfl
  simp [newLdr]; omega
 ·refine knErr_zero.2 fun a ha => ?_
  simp [newLdr] at ha
  obtain ⟨_, rfl⟩ := ha
  exact ⟨by unfold badKn newLdr; simp, by unfold oddKn newLdr; simp⟩
theorem led_zero {c : Conf} {l : Ldr} {r : Recd} (h : ledErr c l r = 0) : ldrErr c l = 0/\ recErr r = 0/\ ledKind c l r = 0 := by
 unfold ledErr at h
 split at h
 ·omega
 ·split at h
  ·omega
  ·exact ⟨by omega, by omega, h⟩
theorem led_cases {c : Conf} {l : Ldr} {r : Recd} (h : ledKind c l r = 0) : (r.kind = 4/\ l.rels.length ≠ 6/\ r.rel.id = l.rels.length + 1/\ brokenErr r.rel.lock c.rules = 0/\ broken r.rel.lock c.rules < 0) ∨
  (r.kind = 5/\ l.goal = 0/\ r.num <= l.rels.length/\ r.num ≠ l.now) ∨ (r.kind = 6/\ r.agent < l.ags.length/\ l.goal ≠ 0/\ r.try_ = l.nx/\ turnOf c l r.agent = true) ∨
  (r.kind = 7/\ r.agent < l.ags.length/\ ∃ a, l.ags[r.agent.toNat]? = some a/\ a.st = 1/\ r.try_ = a.try_) ∨ (r.kind = 8/\ l.goal ≠ 0/\ l.back = false) ∨ (r.kind = 9/\ l.goal ≠ 0/\ overOf c l = true) := by
 unfold ledKind at h
 by_cases k4 : r.kind = 4
 ·rw [if_pos k4] at h
  split at h
  ·omega
  ·split at h
   ·omega
   ·split at h
    ·omega
    ·split at h
     ·omega
     ·exact .inl ⟨k4, by assumption, by omega, by omega, by omega⟩
 ·rw [if_neg k4] at h
  by_cases k5 : r.kind = 5
  ·rw [if_pos k5] at h
   split at h
   ·omega
   ·split at h
    ·omega
    ·split at h
     ·omega
     ·exact .inr (.inl ⟨k5, by omega, by omega, by assumption⟩)
  ·rw [if_neg k5] at h
   by_cases k67 : r.kind = 6 ∨ r.kind = 7
   ·rw [if_pos k67] at h
    split at h
    ·omega
    ·by_cases k7 : r.kind = 7
     ·rw [if_pos k7] at h
      cases ha : l.ags[r.agent.toNat]? with
      | none => rw [ha] at h; simp at h
      | some a =>
       rw [ha] at h
       simp only at h
       split at h
       ·omega
       ·exact .inr (.inr (.inr (.inl ⟨k7, by omega, a, rfl, by omega, by omega⟩)))
     ·rw [if_neg k7] at h
      split at h
      ·omega
      ·rename_i w
       refine .inr (.inr (.inl ⟨by omega, by omega, fun q => w (.inl q), ?_, ?_⟩))
       ·by_cases q : r.try_ = l.nx
        ·exact q
        ·exact absurd (.inr (.inl q)) w
       ·cases q : turnOf c l r.agent with
        | true => rfl
        | false => exact absurd (.inr (.inr q)) w
   ·rw [if_neg k67] at h
    by_cases k8 : r.kind = 8
    ·rw [if_pos k8] at h
     split at h
     ·omega
     ·rename_i w
      refine .inr (.inr (.inr (.inr (.inl ⟨k8, fun q => w (.inl q), ?_⟩))))
      cases q : l.back with
      | false => rfl
      | true => exact absurd (.inr q) w
    ·rw [if_neg k8] at h
     by_cases k9 : r.kind = 9
     ·rw [if_pos k9] at h
      split at h
      ·omega
      ·rename_i w
       refine .inr (.inr (.inr (.inr (.inr ⟨k9, fun q => w (.inl q), ?_⟩))))
       cases q : overOf c l with
       | true => rfl
       | false => exact absurd (.inr q) w
     ·rw [if_neg k9] at h; omega
theorem kn_mem_set {xs : List Kn} {k : Nat} {x a : Kn} (h : a ∈ xs.set k x) : a = x ∨ a ∈ xs := by
 rcases List.mem_or_eq_of_mem_set h with h | h
 ·exact .inr h
 ·exact .inl h
theorem led_ok {c : Conf} {l : Ldr} {r : Recd} (h : ledErr c l r = 0) : ldrErr c (ledNext l r) = 0 := by
 obtain ⟨h1, h2, h3⟩ := led_zero h
 obtain ⟨g1, g2, g3, g4, g5, g6, g7⟩ := ldrErr_zero.1 h1
 obtain ⟨z1, z2, z3, z4⟩ := rec_zero h2
 obtain ⟨f1, f2, f3, f4⟩ := form_parts g6
 have hkn := knErr_zero.1 g7
 have g5' := g5
 unfold ldrRange at g5'
 unfold recRange at z3
 rcases led_cases h3 with ⟨k, w1, w2, w3, w4⟩ | ⟨k, w1, w2, w3⟩ | ⟨k, w1, w2, w3, w4⟩ | ⟨k, w1, a, w2, w3, w4⟩ | ⟨k, w1, w2⟩ | ⟨k, w1, w2⟩
 ·have e : ledNext l r = { l with rels := l.rels ++ [r.rel] } := by rw [ledNext, if_pos k]
  rw [e]
  refine ldrErr_zero.2 ⟨g1, by simp, by simp; omega, relsErr_zero.2 fun j x hj => ?_, by unfold ldrRange; simp; omega, form_of f1 f2 f3 ?_, g7⟩
  ·rcases Nat.lt_or_ge j l.rels.length with hl | hl
   ·rw [List.getElem?_append_left hl] at hj
    exact relsErr_zero.1 g4 j x hj
   ·rw [List.getElem?_append_right hl] at hj
    cases hjl : j - l.rels.length with
    | zero => rw [hjl] at hj; simp at hj; subst hj; exact ⟨w3, w4, by rw [w2]; omega⟩
    | succ m => rw [hjl] at hj; simp at hj
  ·simp only; rw [List.getElem?_append_left (by omega)]; exact f4
 ·have e : ledNext l r = { l with goal := r.num } := by rw [ledNext, if_neg (by omega), if_pos k]
  rw [e]
  refine ldrErr_zero.2 ⟨g1, g2, g3, g4, by unfold ldrRange; simp only; omega, form_of w3 (fun q => by simp only at q; omega) f3 f4, knErr_zero.2 fun a ha => ?_⟩
  obtain ⟨x1, x2⟩ := hkn a ha
  refine ⟨x1, ?_⟩
  unfold oddKn at x2 ⊢
  simp only
  rintro (⟨y1, _⟩ | y)
  ·exact x2 (.inl ⟨y1, .inl w1⟩)
  ·exact x2 (.inr y)
 ·have e : ledNext l r = { l with ags := l.ags.set r.agent.toNat ⟨1, r.try_, l.back⟩, nx := l.nx + 1 } := by rw [ledNext, if_neg (by omega), if_neg (by omega), if_pos k]
  rw [e]
  refine ldrErr_zero.2 ⟨g1, g2, g3, g4, by unfold ldrRange; simp only; omega, form_of f1 f2 (by simpa using f3) f4, knErr_zero.2 fun a ha => ?_⟩
  rcases kn_mem_set ha with rfl | ha
  ·refine ⟨by unfold badKn; simp only; omega, ?_⟩
   unfold oddKn
   simp only
   rintro (⟨_, y | y⟩ | ⟨y1, y | y⟩)
   ·exact w2 y
   ·omega
   ·rw [y] at y1; cases y1
   ·omega
  ·obtain ⟨x1, x2⟩ := hkn a ha
   exact ⟨by unfold badKn at x1 ⊢; simp only; omega, x2⟩
 ·have e : ledNext l r = { l with ags := l.ags.set r.agent.toNat (got r a) } := by rw [ledNext, if_neg (by omega), if_neg (by omega), if_neg (by omega), if_pos k, w2]
  rw [e]
  refine ldrErr_zero.2 ⟨g1, g2, g3, g4, g5, form_of f1 f2 (by simpa using f3) f4, knErr_zero.2 fun b hb => ?_⟩
  rcases kn_mem_set hb with rfl | hb
  ·obtain ⟨x1, x2⟩ := hkn a (List.mem_of_getElem? w2)
   have hst : (got r a).st = 2 ∨ (got r a).st = 3 := by unfold got; by_cases hg : r.good = true <;> simp [hg]
   have ht : (got r a).try_ = a.try_ := rfl
   have hbk : (got r a).back = a.back := rfl
   refine ⟨by unfold badKn at x1 ⊢; rw [ht]; simp only; omega, ?_⟩
   unfold oddKn at x2 ⊢
   rw [ht, hbk]
   simp only
   rintro (⟨_, y⟩ | ⟨y1, y | y⟩)
   ·exact x2 (.inl ⟨by omega, y⟩)
   ·exact x2 (.inr ⟨y1, .inl y⟩)
   ·omega
  ·exact hkn b hb
 ·have e : ledNext l r = { l with back := true } := by rw [ledNext, if_neg (by omega), if_neg (by omega), if_neg (by omega), if_neg (by omega), if_pos k]
  rw [e]
  refine ldrErr_zero.2 ⟨g1, g2, g3, g4, g5, form_of f1 (fun q => w1 q.1) f3 f4, knErr_zero.2 fun a ha => ?_⟩
  obtain ⟨x1, x2⟩ := hkn a ha
  refine ⟨x1, ?_⟩
  unfold oddKn at x2 ⊢
  simp only
  rintro (y | ⟨y1, _⟩)
  ·exact x2 (.inl y)
  ·exact x2 (.inr ⟨y1, .inl w2⟩)
 ·have e : ledNext l r = { l with now := (if l.back = false then l.goal else l.now), goal := 0, back := false, ags := l.ags.map fun a => ⟨0, a.try_, false⟩ } := by rw [ledNext, if_neg (by omega), if_neg (by omega), if_neg (by omega), if_neg (by omega), if_neg (by omega)]
  rw [e]
  have hn : 1 <= (if l.back = false then l.goal else l.now)/\ (if l.back = false then l.goal else l.now) <= l.rels.length := by split <;> omega
  refine ldrErr_zero.2 ⟨g1, g2, g3, g4, by unfold ldrRange; simp only; omega, form_of (by simp only; omega) (by simp) (by simpa using f3) f4, knErr_zero.2 fun b hb => ?_⟩
  obtain ⟨a, ha, rfl⟩ := List.mem_map.1 hb
  obtain ⟨x1, x2⟩ := hkn a ha
  exact ⟨by unfold badKn at x1 ⊢; simp only; omega, by unfold oddKn; simp⟩
theorem led_turn {c : Conf} {l : Ldr} {r : Recd} (h : ledErr c l r = 0) (k : r.kind = 6) (hb : l.back = false) : ∃ p, l.ags[r.agent.toNat]? = some p/\ 0 <= r.agent/\ r.agent < l.ags.length/\ p.st = 0/\ cnt 3 l.ags <= c.bud /\ 
  ∀ (k : Int) (m : Kn), 0 <= k->l.ags[k.toNat]? = some m->waveOf c.waves k < waveOf c.waves r.agent->m.st = 2 ∨ m.st = 3 := by
 obtain ⟨h1, h2, h3⟩ := led_zero h
 obtain ⟨g1, g2, g3, g4, g5, g6, g7⟩ := ldrErr_zero.1 h1
 obtain ⟨z1, z2, z3, z4⟩ := rec_zero h2
 obtain ⟨f1, f2, f3, f4⟩ := form_parts g6
 unfold recRange at z3
 obtain ⟨w1, w2, w3, w4⟩ : r.agent < l.ags.length/\ l.goal ≠ 0/\ r.try_ = l.nx/\ turnOf c l r.agent = true := by
  rcases led_cases h3 with ⟨k, _⟩ | ⟨k, _⟩ | ⟨k, w⟩ | ⟨k, _⟩ | ⟨k, _⟩ | ⟨k, _⟩
  ·omega
  ·omega
  ·exact w
  ·omega
  ·omega
  ·omega
 obtain ⟨p, hp⟩ : ∃ p, l.ags[r.agent.toNat]? = some p := ⟨_, List.getElem?_eq_getElem (by omega)⟩
 unfold turnOf at w4
 rw [hp] at w4
 simp only [hb, Bool.false_eq_true, if_false, decide_eq_true_eq] at w4
 obtain ⟨y1, y2, y3, y4⟩ := w4
 refine ⟨p, hp, by omega, w1, y2, y4, fun k m hk hm hlt => ?_⟩
 have hwz := waveCheck_zero y1
 have hkl := (List.getElem?_eq_some_iff.1 hm).1
 obtain ⟨N, hN, hIs⟩ : ∃ n : Nat, waveNow c.waves (thr l.ags) = n/\ IsNow c.waves (thr l.ags) n := by
  obtain ⟨n, hn, hI⟩ := nowFrom_spec (thr l.ags) c.waves 0
  exact ⟨n, by rw [waveNow, thr_len, if_pos y1, hn]; omega, hI⟩
 rw [y3, hN] at hlt
 rcases waveOfFrom_spec k c.waves 0 with ⟨_, x⟩ | ⟨j, v, x1, x2, x3, x4⟩
 ·exact absurd ((hwz.2.2.2.1 k).2 ⟨hk, by omega⟩) x
 ·have hj : j < N := by unfold waveOf at hlt; omega
  have := hIs.ahead j v x2 hj k x3
  by_cases hst : m.st = 2 ∨ m.st = 3
  ·exact hst
  ·rw [(notThr hk hm).2 hst] at this; cases this
open Go
structure Nod where
 a : Agt
 d : Dsk
 up : Bool
 deriving DecidableEq
structure Hed where
 l : Ldr
 d : Dsk
 up : Bool
 deriving DecidableEq
structure Wld where
 c : Conf
 h : Hed
 n : List Nod
 m : List Mail
structure Hap where
 kind : Int
 agent : Int
 num : Int
 good : Bool
 lock : List Pin
def logOf (d : Dsk) (up : Bool) : Except Int (List Recd) :=
 if dskErr d ≠ 0 then .error (dskErr d) else if up = true/\ d.wait ≠ [] then .error 4 else .ok (if up = true then dskRecs d else [])
def hedErr (c : Conf) (h : Hed) : Int :=
 match logOf h.d h.up with
 | .error e => e
 | .ok l => match ledReplay c l with
  | .error e => e
  | .ok x => if x = h.l then 0 else 4
def nodErr (f : Rls) (n : Nod) : Int :=
 match logOf n.d n.up with
 | .error e => e
 | .ok l => match agtReplay f l with
  | .error e => e
  | .ok x => if x = n.a then 0 else 4
def nodsErr (f : Rls) : List Nod->Int
 | [] => 0
 | n :: q => if nodErr f n ≠ 0 then nodErr f n else nodsErr f q
def farMail (k : Int) (l : List Mail) : Bool := l.any fun m => decide (k <= m.agent)
def wldErr (w : Wld) : Int :=
 if cfgErr w.c ≠ 0 then cfgErr w.c else
 if (w.n.length : Int) ≠ agentsOf w.c.waves then 4 else
 if mailsCheck w.m ≠ 0 then mailsCheck w.m else
 if farMail w.n.length w.m = true then 5 else
 if hedErr w.c w.h ≠ 0 then hedErr w.c w.h else nodsErr w.c.first w.n
def dskSafe (d : Dsk) (r : Recd) : Except Int Dsk :=
 match dskPut d r with
 | .error e => .error e
 | .ok x => dskSync x
def wLead (w : Wld) (r : Recd) : Except Int Wld :=
 if ledErr w.c w.h.l r ≠ 0 then .error (ledErr w.c w.h.l r) else
 match dskSafe w.h.d r with
 | .error e => .error e
 | .ok d => .ok { w with h := ⟨ledNext w.h.l r, d, w.h.up⟩ }
def nDoes (n : Nod) (r : Recd) : Except Int Nod :=
 if nextErr n.a r ≠ 0 then .error (nextErr n.a r) else
 match dskSafe n.d r with
 | .error e => .error e
 | .ok d => .ok ⟨agtNext n.a r, d, n.up⟩
def wDoes (w : Wld) (k : Nat) (r : Recd) : Except Int Wld :=
 match w.n[k]? with
 | none => .error 5
 | some n => match nDoes n r with
  | .error e => .error e
  | .ok n' => .ok { w with n := w.n.set k n' }
def wPost (w : Wld) (m : Mail) : Wld := if sendErr w.m m = 0 then { w with m := sent w.m m } else w
def repMail (k : Nat) (a : Agt) : Mail := ⟨k, a.try_, true, a.good, ⟨0, []⟩⟩
def wReport (w : Wld) (k : Nat) : Wld :=
 match w.n[k]? with
 | none => w
 | some n => wPost w (repMail k n.a)
def wTell (w : Wld) (x : Hap) : Except Int Wld :=
 if turnErr w.c w.h.l x.agent ≠ 0 then .error (turnErr w.c w.h.l x.agent) else
 if x.kind = 4 then
  (match w.h.l.ags[x.agent.toNat]? with
   | none => .error 5
   | some a => if a.st ≠ 1 ∨ a.back ≠ w.h.l.back then .error 7 else .ok (wPost w ⟨x.agent, a.try_, false, false, turnRel w.c w.h.l x.agent⟩))
 else match wLead w ⟨6, x.agent, w.h.l.nx, 0, false, ⟨0, []⟩⟩ with
  | .error e => .error e
  | .ok y => .ok (wPost y ⟨x.agent, w.h.l.nx, false, false, turnRel w.c w.h.l x.agent⟩)
def wStep (w : Wld) (x : Hap) (n : Nod) : Except Int Wld :=
 if n.a.going = false then .error 7 else
 if agtErr n.a ≠ 0 then .error (agtErr n.a) else
 if agtLeft n.a ≠ [] then wDoes w x.agent.toNat ⟨2, 0, n.a.try_, 0, false, ⟨0, []⟩⟩ else
 match wDoes w x.agent.toNat ⟨3, 0, n.a.try_, 0, x.good, ⟨0, []⟩⟩ with
 | .error e => .error e
 | .ok y => .ok (wReport y x.agent.toNat)
def orSame (w : Wld) : Except Int Wld->Wld
 | .ok y => y
 | .error _ => w
def wHear (w : Wld) (x : Hap) : Except Int Wld :=
 if takeErr w.m x.num ≠ 0 then .error (takeErr w.m x.num) else
 match w.n[(took w.m x.num).agent.toNat]? with
 | none => .error 5
 | some n =>
  if ((took w.m x.num).rep = true/\ w.h.up = false) ∨ ((took w.m x.num).rep = false/\ n.up = false) then .error 7 else
  let w1 : Wld := { w with m := left w.m x.num (decide (x.kind = 10)) }
  if (took w.m x.num).rep = true then .ok (orSame w1 (wLead w1 ⟨7, (took w.m x.num).agent, (took w.m x.num).try_, 0, (took w.m x.num).good, ⟨0, []⟩⟩)) else
  if (took w.m x.num).try_ = n.a.try_/\ n.a.going = false then .ok (wReport w1 (took w.m x.num).agent.toNat) else
  .ok (orSame w1 (wDoes w1 (took w.m x.num).agent.toNat ⟨1, 0, (took w.m x.num).try_, 0, false, (took w.m x.num).rel⟩))
def wPower (w : Wld) (x : Hap) : Except Int Wld :=
 if x.agent < 0 then
  (if w.h.up = decide (x.kind = 13) then .error 7 else
   if dskErr w.h.d ≠ 0 then .error (dskErr w.h.d) else
   match ledReplay w.c (if x.kind = 12 then [] else dskRecs w.h.d) with
   | .error e => .error e
   | .ok s => .ok { w with h := ⟨s, if x.kind = 12 then w.h.d else dskBack w.h.d, !w.h.up⟩ })
 else match w.n[x.agent.toNat]? with
  | none => .error 5
  | some n =>
   if n.up = decide (x.kind = 13) then .error 7 else
   if dskErr n.d ≠ 0 then .error (dskErr n.d) else
   match agtReplay w.c.first (if x.kind = 12 then [] else dskRecs n.d) with
   | .error e => .error e
   | .ok s => .ok { w with n := w.n.set x.agent.toNat ⟨s, if x.kind = 12 then n.d else dskBack n.d, !n.up⟩ }
def hapRec (w : Wld) (x : Hap) : Recd :=
 if x.kind = 1 then ⟨4, 0, 0, 0, false, ⟨w.h.l.rels.length + 1, x.lock⟩⟩ else
 if x.kind = 2 then ⟨5, 0, 0, x.num, false, ⟨0, []⟩⟩ else
 if x.kind = 5 then ⟨8, 0, 0, 0, false, ⟨0, []⟩⟩ else ⟨9, 0, 0, 0, false, ⟨0, []⟩⟩
def wHap (w : Wld) (x : Hap) : Except Int Wld :=
 if x.kind = 9 ∨ x.kind = 10 then wHear w x else
 if x.kind = 11 then (if takeErr w.m x.num ≠ 0 then .error (takeErr w.m x.num) else .ok { w with m := left w.m x.num false }) else
 if x.kind = 1 ∨ x.kind = 2 ∨ x.kind = 5 ∨ x.kind = 6 then (if w.h.up = false then .error 7 else wLead w (hapRec w x)) else
 if x.kind < 1 ∨ 13 < x.kind then .error 4 else
 if (w.n.length : Int) <= x.agent ∨ (x.agent < 0/\ x.kind ≠ 12/\ x.kind ≠ 13) then .error 5 else
 if x.kind = 3 ∨ x.kind = 4 then (if w.h.up = false then .error 7 else wTell w x) else
 if x.kind = 12 ∨ x.kind = 13 then wPower w x else
 match w.n[x.agent.toNat]? with
 | none => .error 5
 | some n =>
  if n.up = false then .error 7 else
  if x.kind = 7 then wStep w x n else
  if n.a.going = true ∨ n.a.try_ = 0 then .error 7 else .ok (wReport w x.agent.toNat)
def wDo (w : Wld) (x : Hap) : Except Int Wld := if wldErr w ≠ 0 then .error (wldErr w) else wHap w x
def wRunFrom : Wld->List Hap->Wld × List Int
 | w, [] => (w, [])
 | w, x :: q => match wHap w x with
  | .ok y => ((wRunFrom y q).1, 0 :: (wRunFrom y q).2)
  | .error e => ((wRunFrom w q).1, e :: (wRunFrom w q).2)
def runErr (w : Wld) (l : List Hap) : Int := if wldErr w ≠ 0 then wldErr w else if 150 < l.length then 2 else 0
def freshNod (f : Rls) : Nod := ⟨newAgt f, dsk0, true⟩
def freshWld (c : Conf) : Wld := ⟨c, ⟨newLdr c, dsk0, true⟩, List.replicate (agentsOf c.waves).toNat (freshNod c.first), []⟩
structure DOk (d : Dsk) (rs : List Recd) : Prop where
 eq : d = ⟨recsText rs, []⟩
 recs : ∀ r ∈ rs, recErr r = 0
 many : rs.length <= 200
 size : (recsText rs).length <= 60000
theorem DOk.nil : DOk dsk0 [] := ⟨rfl, by simp, by simp, by simp [recsText]⟩
theorem DOk.err {d : Dsk} {rs : List Recd} (h : DOk d rs) : dskErr d = 0/\ dskRecs d = rs/\ dskBack d = d/\ d.wait = [] := by
 obtain ⟨rfl, h1, h2, h3⟩ := h
 obtain ⟨a, b, c⟩ := dsk_again h1 h2 h3
 exact ⟨a, b, c, rfl⟩
theorem dok_of {d : Dsk} (h : dskErr d = 0) (hw : d.wait = []) : DOk d (dskRecs d) := by
 obtain ⟨h1, h2, h3⟩ := dskErr_zero h
 obtain ⟨i1, i2, i3, i4, i5⟩ := linesF_ok (most := 200) d.safe.length (s := d.safe) (k := 0) (Nat.le_refl _) (by omega)
 have h5 := i5 h3
 rw [h5, List.take_of_length_le (Nat.le_refl _)] at i4
 have hr : dskRecs d = (linesF 200 0 d.safe).1 := by
  unfold dskRecs dskMore
  rw [hw, linesF_nil]; simp
 rw [hr]
 refine ⟨?_, i1, by omega, by rw [← i4]; exact h1⟩
 cases d with
 | mk s w => subst hw; simp only at i4; rw [← i4]
theorem dok_back {d : Dsk} (h : dskErr d = 0) : DOk (dskBack d) (dskRecs d) := by
 obtain ⟨h1, h2, h3⟩ := dskErr_zero h
 obtain ⟨i1, i2, i3, i4, i5⟩ := linesF_ok (most := 200) d.safe.length (s := d.safe) (k := 0) (Nat.le_refl _) (by omega)
 have h5 := i5 h3
 rw [h5, List.take_of_length_le (Nat.le_refl _)] at i4
 obtain ⟨j1, j2, j3, j4, j5⟩ := linesF_ok (most := 200 - (linesF 200 0 d.safe).1.length) d.wait.length (s := d.wait) (k := 0) (Nat.le_refl _) (by omega)
 have e : dskBack d = ⟨recsText (dskRecs d), []⟩ := by
  unfold dskBack dskRecs
  rw [recsText_app, ← i4]
  unfold dskMore
  rw [j4]
 have el : (recsText (dskRecs d)).length <= 60000 := by
  unfold dskRecs
  rw [recsText_app, ← i4]
  unfold dskMore
  rw [← j4, List.length_append, List.length_take]
  omega
 refine ⟨e, fun r hr => ?_, ?_, el⟩
 ·unfold dskRecs dskMore at hr
  rcases List.mem_append.1 hr with hr | hr
  ·exact i1 r hr
  ·exact j1 r hr
 ·unfold dskRecs dskMore
  rw [List.length_append]; omega
theorem dskErr_many {rs : List Recd} (h : ∀ r ∈ rs, recErr r = 0) (hn : 200 < rs.length) (hl : (recsText rs).length <= 60000) : dskErr ⟨recsText rs, []⟩ = 2 := by
 unfold dskErr
 dsimp only
 rw [if_neg (by omega), if_neg (by simp)]
 have key : ∀ (qs : List Recd) (k : Nat), (∀ r ∈ qs, recErr r = 0)->k <= 200->200 < k + qs.length->(linesF 200 k (recsText qs)).2.2 = 2 := by
  intro qs
  induction qs with
  | nil => intro k _ h1 h2; simp at h2; omega
  | cons q t ih =>
   intro k hq h1 h2
   rw [recsText_cons]
   by_cases hk : k = 200
   ·subst hk
    rw [linesF_many recText_line (recRead_text (hq q (by simp)))]
   ·rw [linesF_more recText_line (recRead_text (hq q (by simp))) hk]
    exact ih (k + 1) (fun x hx => hq x (by simp [hx])) (by omega) (by simp at h2; omega)
 exact key rs 0 h (by omega) (by omega)
theorem dskSafe_ok {d x : Dsk} {rs : List Recd} {r : Recd} (h : DOk d rs) (hx : dskSafe d r = .ok x) : DOk x (rs ++ [r]) := by
 unfold dskSafe at hx
 cases hp : dskPut d r with
 | error e => rw [hp] at hx; cases hx
 | ok y =>
  rw [hp] at hx
  obtain ⟨p1, p2, p3, rfl⟩ := dskPut_ok hp
  obtain ⟨rfl, h1, h2, h3⟩ := h
  simp only [List.nil_append, List.length_nil, Nat.add_zero] at p3 hx
  have e1 : recsText rs ++ (recText r ++ [10]) = recsText (rs ++ [r]) := by rw [recsText_app]; simp [recsText]
  unfold dskSync at hx
  dsimp only at hx
  rw [e1] at hx
  split at hx
  ·split at hx
   ·rename_i hz
    obtain rfl := Except.ok.inj hx
    have hl : (recsText (rs ++ [r])).length <= 60000 := (dskErr_zero hz).1
    refine ⟨rfl, fun q hq => ?_, ?_, hl⟩
    ·rcases List.mem_append.1 hq with hq | hq
     ·exact h1 q hq
     ·simp at hq; subst hq; exact p2
    ·by_cases hn : (rs ++ [r]).length <= 200
     ·exact hn
     ·exfalso
      have hall : ∀ q ∈ rs ++ [r], recErr q = 0 := fun q hq => by
       rcases List.mem_append.1 hq with hq | hq
       ·exact h1 q hq
       ·simp at hq; subst hq; exact p2
      have := dskErr_many hall (by omega) hl
      rw [this] at hz; cases hz
   ·cases hx
  ·cases hx
theorem dskSafe_room {d : Dsk} {rs : List Recd} {r : Recd} (h : DOk d rs) (hr : recErr r = 0) (hn : rs.length < 200) (hl : (recsText rs).length <= 59000) : ∃ x, dskSafe d r = .ok x/\ DOk x (rs ++ [r]) := by
 have e0 := h.err
 obtain ⟨rfl, h1, h2, h3⟩ := h
 have hlen := recText_len hr
 have e1 : recsText rs ++ (recText r ++ [10]) = recsText (rs ++ [r]) := by rw [recsText_app]; simp [recsText]
 have hall : ∀ q ∈ rs ++ [r], recErr q = 0 := fun q hq => by
  rcases List.mem_append.1 hq with hq | hq
  ·exact h1 q hq
  ·simp at hq; subst hq; exact hr
 have hl2 : (recsText (rs ++ [r])).length <= 60000 := by rw [← e1]; simp; omega
 have hx : dskSafe ⟨recsText rs, []⟩ r = .ok ⟨recsText (rs ++ [r]), []⟩ := by
  unfold dskSafe dskPut
  rw [if_pos e0.1, if_pos hr]
  dsimp only
  rw [if_neg (by simp; omega)]
  dsimp only
  unfold dskSync
  dsimp only
  have hz : dskErr ⟨recsText rs, [] ++ (recText r ++ [10])⟩ = 0 := dskErr_recs h1 (by omega) (by simp; omega)
  rw [if_pos hz, List.nil_append, e1, if_pos (dskErr_recs hall (by simp; omega) (by simpa using hl2))]
 exact ⟨_, hx, rfl, hall, by simp; omega, hl2⟩
open Go
abbrev uTell (k t : Int) : Recd := ⟨6, k, t, 0, false, ⟨0, []⟩⟩
abbrev uHeard (m : Mail) : Recd := ⟨7, m.agent, m.try_, 0, m.good, ⟨0, []⟩⟩
abbrev uBegin (m : Mail) : Recd := ⟨1, 0, m.try_, 0, false, m.rel⟩
abbrev uStep (a : Agt) : Recd := ⟨2, 0, a.try_, 0, false, ⟨0, []⟩⟩
abbrev uDone (a : Agt) (g : Bool) : Recd := ⟨3, 0, a.try_, 0, g, ⟨0, []⟩⟩
abbrev toMail (c : Conf) (l : Ldr) (k : Nat) (t : Int) : Mail := ⟨k, t, false, false, turnRel c l k⟩
inductive Mv (c : Conf) (L : Ldr) (A : List Agt) (M : List Mail) : Ldr->List Agt->List Mail->Prop
 | rest {M' : List Mail} (h : ∀ m ∈ M', m ∈ M) : Mv c L A M L A M'
 | led (r : Recd) (h : ledErr c L r = 0) (k : r.kind ≠ 6/\ r.kind ≠ 7) : Mv c L A M (ledNext L r) A M
 | send {M' : List Mail} (k : Nat) (h : ledErr c L (uTell k L.nx) = 0) (hm : ∀ m ∈ M', m ∈ M ∨ m = toMail c L k L.nx) : Mv c L A M (ledNext L (uTell k L.nx)) A M'
 | again {M' : List Mail} (k : Nat) (b : Kn) (hk : L.ags[k]? = some b) (h1 : b.st = 1) (h2 : b.back = L.back) (hg : L.goal ≠ 0) (hm : ∀ m ∈ M', m ∈ M ∨ m = toMail c L k b.try_) : Mv c L A M L A M'
 | got {M' : List Mail} (m : Mail) (hm : m ∈ M) (hr : m.rep = true) (h : ledErr c L (uHeard m) = 0) (hM : ∀ m ∈ M', m ∈ M) : Mv c L A M (ledNext L (uHeard m)) A M'
 | begin {M' : List Mail} (m : Mail) (a : Agt) (hm : m ∈ M) (hr : m.rep = false) (ha : A[m.agent.toNat]? = some a) (h : nextErr a (uBegin m) = 0) (hM : ∀ m ∈ M', m ∈ M) : Mv c L A M L (A.set m.agent.toNat (agtNext a (uBegin m))) M'
 | step (k : Nat) (a : Agt) (ha : A[k]? = some a) (h : nextErr a (uStep a) = 0) : Mv c L A M L (A.set k (agtNext a (uStep a))) M
 | done {M' : List Mail} (k : Nat) (a : Agt) (g : Bool) (ha : A[k]? = some a) (h : nextErr a (uDone a g) = 0) (hM : ∀ m ∈ M', m ∈ M ∨ m = repMail k (agtNext a (uDone a g))) : Mv c L A M L (A.set k (agtNext a (uDone a g))) M'
 | report {M' : List Mail} (k : Nat) (a : Agt) (ha : A[k]? = some a) (hg : a.going = false) (hM : ∀ m ∈ M', m ∈ M ∨ m = repMail k a) : Mv c L A M L A M'
def tgt (L : Ldr) (back : Bool) : Rls := (L.rels[((if back = true then L.now else L.goal) - 1).toNat]?).getD ⟨0, []⟩
def AtR (a : Agt) (r : Rls) : Prop := a.going = false/\ a.at_ = r.id/\ a.lock = r.lock
def OnR (a : Agt) (r : Rls) : Prop := AtR a r ∨ (a.going = true/\ a.goal = r)
structure AInv (L : Ldr) (b : Kn) (a : Agt) : Prop where
 ok : agtErr a = 0
 le : a.try_ <= b.try_
 idle : b.st = 0->a.try_ = b.try_/\ AtR a (tgt L true)
 on : b.st ≠ 0->a.try_ = b.try_->OnR a (tgt L b.back)
 late : b.st ≠ 0->a.try_ < b.try_->b.st = 1/\ (AtR a (tgt L true) ∨ (b.back = true/\ OnR a (tgt L false)))
 said : b.st = 2 ∨ b.st = 3->a.try_ = b.try_/\ a.going = false/\ (a.good = true ↔ b.st = 2)
 pins : ∀ p ∈ a.lock, ∃ r ∈ L.rels, p ∈ r.lock
 low : a.at_ <= L.rels.length
structure MInv (L : Ldr) (b : Kn) (a : Agt) (m : Mail) : Prop where
 rep : m.rep = true->m.try_ <= a.try_/\ (m.try_ = a.try_->a.going = false/\ m.good = a.good)
 told : m.rep = false->m.try_ <= b.try_/\ (a.try_ < m.try_->(m.try_ = b.try_->m.rel = tgt L b.back)/\ (m.try_ < b.try_->b.back = true/\ m.rel = tgt L false))
def WInv (c : Conf) (L : Ldr) : Prop := L.back = false->∀ (k o : Nat) (b b' : Kn), L.ags[k]? = some b->b.st ≠ 0->L.ags[o]? = some b'->waveOf c.waves o < waveOf c.waves k->b'.st = 2 ∨ b'.st = 3
def illAt (c : Conf) (L : Ldr) (j : Int) (k : Nat) : Bool := match L.ags[k]? with
 | some b => decide (b.st = 3/\ waveOf c.waves k ≠ j)
 | none => false
def IInv (c : Conf) (L : Ldr) : Prop := L.back = false->∃ j : Int, (∀ (k : Nat) (b : Kn), L.ags[k]? = some b->b.st = 1->waveOf c.waves k = j)/\ ((List.range L.ags.length).countP (illAt c L j) : Int) <= c.bud
structure SInv (c : Conf) (L : Ldr) (A : List Agt) (M : List Mail) : Prop where
 led : ldrErr c L = 0
 len : A.length = L.ags.length
 agt : ∀ (k : Nat) (a : Agt) (b : Kn), A[k]? = some a->L.ags[k]? = some b->AInv L b a/\ ∀ m ∈ M, m.agent.toNat = k->MInv L b a m
 wave : WInv c L
 ill : IInv c L
structure LFacts (c : Conf) (L : Ldr) : Prop where
 now : 1 <= L.now/\ L.now <= L.rels.length
 goal : 0 <= L.goal/\ L.goal <= L.rels.length
 many : 1 <= L.rels.length/\ L.rels.length <= 6
 ids : ∀ (j : Nat) (r : Rls), L.rels[j]? = some r->r.id = j + 1/\ Lk r.lock/\ r.lock.length <= 12
 ne : L.goal ≠ L.now
 home : L.goal = 0->L.back = false
 kn : ∀ (k : Nat) (b : Kn), L.ags[k]? = some b->0 <= b.st/\ b.st <= 3/\ 0 <= b.try_/\ b.try_ < L.nx/\ (b.st ≠ 0->L.goal ≠ 0/\ b.try_ ≠ 0)/\ (b.back = true->L.back = true/\ b.st ≠ 0)
 nx : 1 <= L.nx/\ L.nx <= 201
theorem ldr_facts {c : Conf} {L : Ldr} (h : ldrErr c L = 0) : LFacts c L := by
 obtain ⟨g1, g2, g3, g4, g5, g6, g7⟩ := ldrErr_zero.1 h
 obtain ⟨f1, f2, f3, f4⟩ := form_parts g6
 have hkn := knErr_zero.1 g7
 unfold ldrRange at g5
 refine ⟨by omega, by omega, ⟨g2, g3⟩, fun j r hj => ?_, f1, fun h0 => ?_, fun k b hb => ?_, by omega⟩
 ·have h1 := relsErr_zero.1 g4 j r hj
  have h2 := rel_lock g4 r (List.mem_of_getElem? hj)
  exact ⟨by omega, h2.1, h2.2⟩
 ·cases hb : L.back with
  | false => rfl
  | true => exact absurd ⟨h0, hb⟩ f2
 ·obtain ⟨x1, x2⟩ := hkn b (List.mem_of_getElem? hb)
  unfold badKn at x1
  unfold oddKn at x2
  refine ⟨by omega, by omega, by omega, by omega, fun hs => ⟨fun h0 => x2 (.inl ⟨hs, .inl h0⟩), fun h0 => x2 (.inl ⟨hs, .inr h0⟩)⟩, fun hb => ⟨?_, fun h0 => x2 (.inr ⟨hb, .inr h0⟩)⟩⟩
  cases hl : L.back with
  | true => rfl
  | false => exact absurd (.inr ⟨hb, .inl hl⟩) x2
theorem LFacts.tgt {c : Conf} {L : Ldr} (f : LFacts c L) (b : Bool) : (b = true ∨ L.goal ≠ 0)->tgt L b ∈ L.rels/\ (tgt L b).id = (if b = true then L.now else L.goal)/\ Lk (tgt L b).lock/\ (tgt L b).lock.length <= 12 := fun h => by
 have h1 := f.now
 have h2 := f.goal
 have hlt : ((if b = true then L.now else L.goal) - 1).toNat < L.rels.length := by split <;> omega
 have hx := List.getElem?_eq_getElem hlt
 have ht : Vg.tgt L b = L.rels[((if b = true then L.now else L.goal) - 1).toNat] := by unfold Vg.tgt; rw [hx]; rfl
 obtain ⟨i1, i2, i3⟩ := f.ids _ _ hx
 rw [ht]
 refine ⟨List.getElem_mem hlt, ?_, i2, i3⟩
 rw [i1]
 rcases h with h | h
 ·rw [h] at hlt ⊢; simp only [if_true] at hlt ⊢; omega
 ·split <;> omega
theorem tgt_of {c : Conf} {L : Ldr} (f : LFacts c L) {L' : Ldr} (hn : L'.now = L.now) (hg : L'.goal = L.goal) (hr : L'.rels.take L.rels.length = L.rels) (b : Bool) : tgt L' b = tgt L b := by
 have h1 := f.now
 have h2 := f.goal
 have h3 := f.many
 have hlt : ((if b = true then L.now else L.goal) - 1).toNat < L.rels.length := by split <;> omega
 unfold tgt
 rw [hn, hg]
 congr 1
 conv => rhs; rw [← hr]
 rw [List.getElem?_take, if_pos hlt]
theorem turnRel_tgt {c : Conf} {L : Ldr} {k : Nat} (h : turnErr c L k = 0) : turnRel c L k = tgt L L.back := by
 unfold turnRel tgt goalOf
 rw [if_pos h]
theorem turnErr_of {c : Conf} {L : Ldr} (h : ldrErr c L = 0) {k : Nat} (hk : k < L.ags.length) (hg : L.goal ≠ 0) : turnErr c L k = 0 := by
 unfold turnErr
 rw [if_neg (by omega), if_neg (by omega), if_neg hg]
theorem next_zero {a : Agt} {r : Recd} (h : nextErr a r = 0) : agtErr a = 0/\ recErr r = 0/\ ((r.kind = 1/\ a.try_ < r.try_) ∨ ((r.kind = 2 ∨ r.kind = 3)/\ a.going = true/\ r.try_ = a.try_/\ (r.kind = 2->agtLeft a ≠ [])/\ (r.kind = 3->agtLeft a = []))) := by
 unfold nextErr at h
 split at h
 ·omega
 ·split at h
  ·omega
  ·refine ⟨by omega, by omega, ?_⟩
   split at h
   ·rename_i k
    split at h
    ·omega
    ·exact .inl ⟨k, by omega⟩
   ·split at h
    ·omega
    ·rename_i k1 k2
     split at h
     ·omega
     ·rename_i k3
      refine .inr ⟨by omega, ?_, ?_, fun k hl => ?_, fun k => ?_⟩
      ·cases hg : a.going with
       | true => rfl
       | false => exact absurd (.inl hg) k3
      ·exact Decidable.byContradiction fun e => k3 (.inr (.inl e))
      ·exact k3 (.inr (.inr (.inl ⟨k, hl⟩)))
      ·exact Decidable.byContradiction fun e => k3 (.inr (.inr (.inr ⟨k, e⟩)))
theorem next_begin {a : Agt} {m : Mail} : agtNext a (uBegin m) = ⟨a.lock, a.at_, m.try_, true, m.rel, false⟩ := by
 unfold agtNext; rw [if_pos rfl]
theorem next_step {a : Agt} {o : Step} {q : List Step} (hl : agtLeft a = o :: q) : agtNext a (uStep a) = ⟨applied a.lock o, a.at_, a.try_, a.going, a.goal, a.good⟩ := by
 unfold agtNext; rw [if_neg (show ¬ (2 : Int) = 1 by omega), if_pos rfl, hl]
theorem next_done {a : Agt} {g : Bool} : agtNext a (uDone a g) = ⟨a.lock, a.goal.id, a.try_, false, ⟨0, []⟩, g⟩ := by
 unfold agtNext; rw [if_neg (show ¬ (3 : Int) = 1 by omega), if_neg (show ¬ (3 : Int) = 2 by omega)]
theorem agtErr_of {a : Agt} (h1 : Lk a.lock/\ a.lock.length <= 12) (h2 : 1 <= a.at_/\ a.at_ <= 6) (h3 : 0 <= a.try_/\ a.try_ <= 200) (h4 : a.going = true->a.try_ ≠ 0/\ a.good = false/\ relErr a.goal = 0) (h5 : a.going = false->noRel a.goal) : agtErr a = 0 := by
 unfold agtErr
 rw [if_neg (by rw [lockCheck_zero.2 h1]; omega), if_neg (by omega)]
 cases hg : a.going with
 | true =>
  obtain ⟨x, y, z⟩ := h4 hg
  rw [if_pos rfl, if_neg (by rintro (e | e); exact x e; rw [y] at e; cases e), z]
 | false => rw [if_neg (by simp), if_pos (h5 hg)]
theorem left_step {a : Agt} (h : agtErr a = 0) (hg : a.going = true) {o : Step} {q : List Step} (hl : agtLeft a = o :: q) : (Lk (applied a.lock o)/\ (applied a.lock o).length <= 12)/\ agtLeft ⟨applied a.lock o, a.at_, a.try_, a.going, a.goal, a.good⟩ = q/\ ∀ p ∈ applied a.lock o, p ∈ a.lock ∨ p ∈ a.goal.lock := by
 obtain ⟨⟨z1, z2⟩, _⟩ := agtErr_zero h
 obtain ⟨y1, y2⟩ := agt_goal h
 have hd : diffs a.lock a.goal.lock = o :: q := by unfold agtLeft at hl; rw [if_pos hg] at hl; exact hl
 have hok := diffs_mem z1 y1 (hd ▸ List.mem_cons_self : o ∈ diffs a.lock a.goal.lock)
 refine ⟨⟨(hok.applied z1 y1).1, (diffs_fits z1 y1 z2 y2 hd).2⟩, ?_, fun p hp => ?_⟩
 ·unfold agtLeft; rw [if_pos hg]; exact diffs_step z1 y1 hd
 ·unfold applied at hp
  split at hp
  ·left
   unfold del at hp
   exact (List.mem_filter.1 hp).1
  ·rename_i k
   rcases up_mem hp with rfl | hp
   ·right
    have hv := hok.ver
    have hne : find a.goal.lock o.name ≠ 0 := by rcases hok.kind with e | e | e <;> omega
    obtain ⟨q', hq, e1, e2⟩ := find_pos hne
    have : q' = ⟨o.name, o.ver⟩ := by cases q'; simp_all
    rw [← this]; exact hq
   ·exact .inl hp
theorem left_none {a : Agt} (h : agtErr a = 0) (hg : a.going = true) (hl : agtLeft a = []) : a.lock = a.goal.lock := by
 unfold agtLeft at hl
 rw [if_pos hg] at hl
 exact diffs_nil (agtErr_zero h).1.1 (agt_goal h).1 hl
theorem next_ok {a : Agt} {r : Recd} (h : nextErr a r = 0) : agtErr (agtNext a r) = 0 := by
 obtain ⟨h1, h2, h3⟩ := next_zero h
 obtain ⟨z1, z2, z3, z4, z5, z6, z7⟩ := agtErr_zero h1
 obtain ⟨y1, y2, y3, y4⟩ := rec_zero h2
 unfold recRange at y3
 rcases h3 with ⟨k, ht⟩ | ⟨k, hg, ht, hl2, hl3⟩
 ·unfold agtNext
  rw [if_pos k]
  exact agtErr_of z1 ⟨z2, z3⟩ ⟨by simp only; omega, by simp only; omega⟩ (fun _ => ⟨by simp only; omega, rfl, y4 (.inl k)⟩) (fun e => by cases e)
 ·rcases k with k | k
  ·obtain ⟨o, q, hl⟩ := List.exists_cons_of_ne_nil (hl2 k)
   unfold agtNext
   rw [if_neg (by omega), if_pos k, hl]
   exact agtErr_of (left_step h1 hg hl).1 ⟨z2, z3⟩ ⟨z4, z5⟩ z6 z7
  ·unfold agtNext
   rw [if_neg (by omega), if_neg (by omega)]
   have hid := (relErr_zero (z6 hg).2.2).1
   exact agtErr_of z1 hid ⟨z4, z5⟩ (fun e => by cases e) (fun _ => by simp [noRel])
def KInv (L : Ldr) (M : List Mail) (k : Nat) (b : Kn) (a : Agt) : Prop := AInv L b a/\ ∀ m ∈ M, m.agent.toNat = k->MInv L b a m
theorem AInv.tr {L L' : Ldr} {b : Kn} {a : Agt} (h : AInv L b a) (ht : ∀ x, tgt L' x = tgt L x) (hr : ∀ r ∈ L.rels, r ∈ L'.rels) (hn : L.rels.length <= L'.rels.length) : AInv L' b a :=
 ⟨h.ok, h.le, fun x => by rw [ht]; exact h.idle x, fun x y => by rw [ht]; exact h.on x y, fun x y => by rw [ht, ht]; exact h.late x y, h.said, fun p hp => (by obtain ⟨r, h1, h2⟩ := h.pins p hp; exact ⟨r, hr r h1, h2⟩), by have := h.low; omega⟩
theorem MInv.tr {L L' : Ldr} {b : Kn} {a : Agt} {m : Mail} (h : MInv L b a m) (ht : ∀ x, tgt L' x = tgt L x) : MInv L' b a m :=
 ⟨h.rep, fun x => by rw [ht, ht]; exact h.told x⟩
theorem KInv.tr {L L' : Ldr} {M : List Mail} {k : Nat} {b : Kn} {a : Agt} (h : KInv L M k b a) (ht : ∀ x, tgt L' x = tgt L x) (hr : ∀ r ∈ L.rels, r ∈ L'.rels) (hn : L.rels.length <= L'.rels.length) : KInv L' M k b a := ⟨h.1.tr ht hr hn, fun m hm hk => (h.2 m hm hk).tr ht⟩
theorem KInv.sub {L : Ldr} {M M' : List Mail} {k : Nat} {b : Kn} {a : Agt} (h : KInv L M k b a) (hM : ∀ m ∈ M', m ∈ M) : KInv L M' k b a := ⟨h.1, fun m hm hk => h.2 m (hM m hm) hk⟩
theorem KInv.more {L : Ldr} {M M' : List Mail} {k j : Nat} {b : Kn} {a : Agt} {x : Mail} (h : KInv L M k b a) (hM : ∀ m ∈ M', m ∈ M ∨ m = x) (hj : x.agent.toNat = j) (hx : j = k->MInv L b a x) : KInv L M' k b a :=
 ⟨h.1, fun m hm hk => by
  rcases hM m hm with h1 | rfl
  ·exact h.2 m h1 hk
  ·exact hx (hj.symm.trans hk)⟩
theorem set_self {α : Type} {xs : List α} {k : Nat} {x : α} (h : xs[k]? = some x) : xs.set k x = xs := by
 obtain ⟨hk, rfl⟩ := List.getElem?_eq_some_iff.1 h
 exact List.set_getElem_self hk
theorem left_set {α β : Type} {P : Nat->α->β->Prop} {xs : List α} {ys : List β} {k : Nat} {x : α} (h : ∀ j a b, j ≠ k->xs[j]? = some a->ys[j]? = some b->P j a b) (hp : ∀ b, ys[k]? = some b->P k x b) : ∀ j a b, (xs.set k x)[j]? = some a->ys[j]? = some b->P j a b := by
 intro j a b ha hb
 by_cases e : k = j
 ·subst e
  rw [List.getElem?_set, if_pos rfl] at ha
  split at ha
  ·obtain rfl := Option.some.inj ha
   exact hp b hb
  ·cases ha
 ·rw [List.getElem?_set, if_neg e] at ha; exact h j a b (Ne.symm e) ha hb
theorem AtR.not {a : Agt} {r : Rls} (h : AtR a r) (hg : a.going = true) {p : Prop} : p := by
 unfold AtR at h
 rw [h.1] at hg
 cases hg
theorem OnR.keep {a a' : Agt} {r : Rls} (h : OnR a r) (hg : a.going = true) (hg' : a'.going = true) (e : a'.goal = a.goal) : OnR a' r := by
 rcases h with h | h
 ·exact h.not hg
 ·exact .inr ⟨hg', by rw [e]; exact h.2⟩
theorem KInv.begin {L : Ldr} {M M' : List Mail} {b : Kn} {a : Agt} {m : Mail} (h : KInv L M m.agent.toNat b a) (hm : m ∈ M) (hr : m.rep = false) (hn : nextErr a (uBegin m) = 0) (hM : ∀ m ∈ M', m ∈ M) : KInv L M' m.agent.toNat b (agtNext a (uBegin m)) := by
 have hok := next_ok hn
 obtain ⟨h1, h2, h3⟩ := next_zero hn
 have ht : a.try_ < m.try_ := by
  rcases h3 with h3 | h3
  ·exact h3.2
  ·rcases h3.1 with e | e <;> exact absurd e (by simp)
 rw [next_begin] at hok ⊢
 obtain ⟨t1, t2⟩ := (h.2 m hm rfl).told hr
 obtain ⟨t3, t4⟩ := t2 ht
 have hst : b.st ≠ 0 := fun e => by have := (h.1.idle e).1; omega
 obtain ⟨l1, l2⟩ := h.1.late hst (by omega)
 refine ⟨⟨hok, t1, fun e => absurd e hst, fun _ e => .inr ⟨rfl, t3 e⟩, fun _ e => ⟨l1, .inr ⟨(t4 e).1, .inr ⟨rfl, (t4 e).2⟩⟩⟩, fun e => by omega, h.1.pins, h.1.low⟩, fun m' hm' hk => ?_⟩
 have hI := h.2 m' (hM m' hm') hk
 refine ⟨fun e => ?_, fun e => ⟨(hI.told e).1, fun e2 => ?_⟩⟩
 ·have := (hI.rep e).1
  exact ⟨by simp only; omega, fun e3 => by simp only at e3; omega⟩
 ·simp only at e2
  exact (hI.told e).2 (by omega)
theorem KInv.step {L : Ldr} {M : List Mail} {k : Nat} {b : Kn} {a : Agt} (h : KInv L M k b a) (hr : ∀ x, (x = true ∨ b.st ≠ 0)->tgt L x ∈ L.rels) (hn : nextErr a (uStep a) = 0) : KInv L M k b (agtNext a (uStep a)) := by
 have hok := next_ok hn
 obtain ⟨h1, h2, h3⟩ := next_zero hn
 obtain ⟨hg, hl⟩ : a.going = true/\ agtLeft a ≠ [] := by
  rcases h3 with h3 | h3
  ·exact absurd h3.1 (by simp)
  ·exact ⟨h3.2.1, h3.2.2.2.1 rfl⟩
 obtain ⟨o, q, hl⟩ := List.exists_cons_of_ne_nil hl
 rw [next_step hl] at hok ⊢
 have hp := (left_step h1 hg hl).2.2
 have hst : b.st ≠ 0 := fun e => by have := (h.1.idle e).2.1; rw [hg] at this; cases this
 have hgoal : a.goal ∈ L.rels := by
  by_cases e : a.try_ = b.try_
  ·rcases h.1.on hst e with w | w
   ·exact w.not hg
   ·rw [w.2]; exact hr _ (.inr hst)
  ·rcases (h.1.late hst (by have := h.1.le; omega)).2 with w | ⟨_, w | w⟩
   ·exact w.not hg
   ·exact w.not hg
   ·rw [w.2]; exact hr _ (.inr hst)
 refine ⟨⟨hok, h.1.le, fun e => absurd e hst, fun x y => (h.1.on x y).keep hg hg rfl, fun x y => ?_, fun e => ?_, fun p hp' => ?_, h.1.low⟩, fun m hm hk => ?_⟩
 ·obtain ⟨w1, w2⟩ := h.1.late x y
  refine ⟨w1, ?_⟩
  rcases w2 with w | ⟨w3, w⟩
  ·exact w.not hg
  ·exact .inr ⟨w3, w.keep hg hg rfl⟩
 ·have := (h.1.said e).2.1; rw [hg] at this; cases this
 ·rcases hp p hp' with w | w
  ·exact h.1.pins p w
  ·exact ⟨_, hgoal, w⟩
 ·have hI := h.2 m hm hk
  refine ⟨fun e => ⟨(hI.rep e).1, fun e2 => ?_⟩, fun e => hI.told e⟩
  have := ((hI.rep e).2 e2).1
  rw [hg] at this; cases this
theorem OnR.there {a a' : Agt} {r : Rls} (h : OnR a r) (hg : a.going = true) (hl : a.lock = a.goal.lock) (h1 : a'.going = false) (h2 : a'.at_ = a.goal.id) (h3 : a'.lock = a.lock) : AtR a' r := by
 rcases h with h | h
 ·exact h.not hg
 ·exact ⟨h1, by rw [h2, h.2], by rw [h3, hl, h.2]⟩
theorem KInv.done {L : Ldr} {M M' : List Mail} {k : Nat} {b : Kn} {a : Agt} {g : Bool} (h : KInv L M k b a) (hr : ∀ x, (x = true ∨ b.st ≠ 0)->(tgt L x).id <= L.rels.length) (hn : nextErr a (uDone a g) = 0) (hM : ∀ m ∈ M', m ∈ M ∨ m = repMail k (agtNext a (uDone a g))) : KInv L M' k b (agtNext a (uDone a g)) := by
 have hok := next_ok hn
 obtain ⟨h1, h2, h3⟩ := next_zero hn
 obtain ⟨hg, hl⟩ : a.going = true/\ agtLeft a = [] := by
  rcases h3 with h3 | h3
  ·exact absurd h3.1 (by simp)
  ·exact ⟨h3.2.1, h3.2.2.2.2 rfl⟩
 have hlk := left_none h1 hg hl
 rw [next_done] at hok hM ⊢
 have hst : b.st ≠ 0 := fun e => by have := (h.1.idle e).2.1; rw [hg] at this; cases this
 refine ⟨⟨hok, h.1.le, fun e => absurd e hst, fun x y => .inl ((h.1.on x y).there hg hlk rfl rfl rfl), fun x y => ?_, fun e => ?_, h.1.pins, ?_⟩, fun m hm hk => ?_⟩
 ·obtain ⟨w1, w2⟩ := h.1.late x y
  refine ⟨w1, ?_⟩
  rcases w2 with w | ⟨w3, w⟩
  ·exact w.not hg
  ·exact .inr ⟨w3, .inl (w.there hg hlk rfl rfl rfl)⟩
 ·have := (h.1.said e).2.1; rw [hg] at this; cases this
 ·show a.goal.id <= L.rels.length
  by_cases e : a.try_ = b.try_
  ·rcases h.1.on hst e with w | w
   ·exact w.not hg
   ·rw [w.2]; exact hr _ (.inr hst)
  ·rcases (h.1.late hst (by have := h.1.le; omega)).2 with w | ⟨_, w | w⟩
   ·exact w.not hg
   ·exact w.not hg
   ·rw [w.2]; exact hr _ (.inr hst)
 ·rcases hM m hm with hm | rfl
  ·have hI := h.2 m hm hk
   refine ⟨fun e => ⟨(hI.rep e).1, fun e2 => ?_⟩, fun e => hI.told e⟩
   have := ((hI.rep e).2 e2).1
   rw [hg] at this; cases this
  ·exact ⟨fun _ => ⟨Int.le_refl _, fun _ => ⟨rfl, rfl⟩⟩, fun e => by cases e⟩
open Go
theorem led_eq4 {L : Ldr} {r : Recd} (k : r.kind = 4) : ledNext L r = { L with rels := L.rels ++ [r.rel] } := by rw [ledNext, if_pos k]
theorem led_eq5 {L : Ldr} {r : Recd} (k : r.kind = 5) : ledNext L r = { L with goal := r.num } := by rw [ledNext, if_neg (by omega), if_pos k]
theorem led_eq6 {L : Ldr} {r : Recd} (k : r.kind = 6) : ledNext L r = { L with ags := L.ags.set r.agent.toNat ⟨1, r.try_, L.back⟩, nx := L.nx + 1 } := by rw [ledNext, if_neg (by omega), if_neg (by omega), if_pos k]
theorem led_eq7 {L : Ldr} {r : Recd} (k : r.kind = 7) {a : Kn} (h : L.ags[r.agent.toNat]? = some a) : ledNext L r = { L with ags := L.ags.set r.agent.toNat (got r a) } := by rw [ledNext, if_neg (by omega), if_neg (by omega), if_neg (by omega), if_pos k, h]
theorem led_eq8 {L : Ldr} {r : Recd} (k : r.kind = 8) : ledNext L r = { L with back := true } := by rw [ledNext, if_neg (by omega), if_neg (by omega), if_neg (by omega), if_neg (by omega), if_pos k]
theorem led_eq9 {L : Ldr} {r : Recd} (k : r.kind = 9) : ledNext L r = { L with now := (if L.back = false then L.goal else L.now), goal := 0, back := false, ags := L.ags.map fun a => ⟨0, a.try_, false⟩ } := by rw [ledNext, if_neg (by omega), if_neg (by omega), if_neg (by omega), if_neg (by omega), if_neg (by omega)]
theorem tgt_true {L : Ldr} : tgt L true = (L.rels[(L.now - 1).toNat]?).getD ⟨0, []⟩ := by simp [tgt]
theorem tgt_false {L : Ldr} : tgt L false = (L.rels[(L.goal - 1).toNat]?).getD ⟨0, []⟩ := by simp [tgt]
theorem LFacts.low {c : Conf} {L : Ldr} (f : LFacts c L) {k : Nat} {b : Kn} (hb : L.ags[k]? = some b) : ∀ x, (x = true ∨ b.st ≠ 0)->(Vg.tgt L x).id <= L.rels.length := fun x h => by
 have h1 := (f.tgt x (h.imp id fun e => ((f.kn k b hb).2.2.2.2.1 e).1)).2.1
 have h2 := f.now
 have h3 := f.goal
 rw [h1]; split <;> omega
theorem LFacts.rel {c : Conf} {L : Ldr} (f : LFacts c L) {k : Nat} {b : Kn} (hb : L.ags[k]? = some b) : ∀ x, (x = true ∨ b.st ≠ 0)->Vg.tgt L x ∈ L.rels := fun x h =>
 (f.tgt x (h.imp id fun e => ((f.kn k b hb).2.2.2.2.1 e).1)).1
theorem SInv.move_led {c : Conf} {L : Ldr} {A : List Agt} {M : List Mail} (h : SInv c L A M) {r : Recd} (hr : ledErr c L r = 0) (hk : r.kind ≠ 6/\ r.kind ≠ 7) : SInv c (ledNext L r) A M := by
 have f := ldr_facts h.led
 have hok := led_ok hr
 obtain ⟨z1, z2, z3⟩ := led_zero hr
 rcases led_cases z3 with ⟨k, w1, w2, w3, w4⟩ | ⟨k, w1, w2, w3⟩ | ⟨k, w1, w2, w3, w4⟩ | ⟨k, w1, a, w2, w3, w4⟩ | ⟨k, w1, w2⟩ | ⟨k, w1, w2⟩
 ·rw [led_eq4 k] at hok ⊢
  have ht : ∀ x, tgt { L with rels := L.rels ++ [r.rel] } x = tgt L x := tgt_of f rfl rfl (by simp)
  exact ⟨hok, h.len, fun k a b ha hb => KInv.tr (h.agt k a b ha hb) ht (fun q hq => List.mem_append_left _ hq) (by simp), h.wave, h.ill⟩
 ·rw [led_eq5 k] at hok ⊢
  have hst : ∀ (k : Nat) (b : Kn), L.ags[k]? = some b->b.st = 0 := fun k b hb => Decidable.byContradiction fun e => ((f.kn k b hb).2.2.2.2.1 e).1 w1
  refine ⟨hok, h.len, fun k a b ha hb => ?_, fun _ k o b b' hb hs => absurd (hst k b hb) hs, fun _ => ⟨0, fun k b hb hs => (by rw [hst k b hb] at hs; cases hs), ?_⟩⟩
  ·obtain ⟨i1, i2⟩ := h.agt k a b ha hb
   have hb0 := hst k b hb
   obtain ⟨d1, d2⟩ := i1.idle hb0
   refine ⟨⟨i1.ok, i1.le, fun _ => ⟨d1, ?_⟩, fun e => absurd hb0 e, fun e => absurd hb0 e, fun e => (by omega), i1.pins, i1.low⟩, fun m hm hmk => ?_⟩
   ·rw [tgt_true] at d2 ⊢; exact d2
   ·have hI := i2 m hm hmk
    refine ⟨hI.rep, fun e => ⟨(hI.told e).1, fun e2 => ?_⟩⟩
    have := (hI.told e).1
    omega
  ·have : (List.range L.ags.length).countP (illAt c L 0) = 0 := List.countP_eq_zero.2 fun k hk => by
    unfold illAt
    cases hb : L.ags[k]? with
    | none => simp
    | some b => simp [hst k b hb]
   have h2 : (List.range L.ags.length).countP (illAt c { L with goal := r.num } 0) = 0 := this
   show ((List.range L.ags.length).countP (illAt c { L with goal := r.num } 0) : Int) <= c.bud
   rw [h2]
   obtain ⟨y1, y2, y3, y4, y5⟩ := cfgErr_zero (ldrErr_zero.1 z1).1
   omega
 ·exact absurd k hk.1
 ·exact absurd k hk.2
 ·rw [led_eq8 k] at hok ⊢
  have ht : ∀ x, tgt { L with back := true } x = tgt L x := tgt_of f rfl rfl (by simp)
  exact ⟨hok, h.len, fun k a b ha hb => KInv.tr (h.agt k a b ha hb) ht (fun q hq => hq) (Nat.le_refl _), fun e => (by cases e), fun e => (by cases e)⟩
 ·rw [led_eq9 k] at hok ⊢
  have hz : ∀ (k : Nat) (b : Kn), (L.ags.map fun a => (⟨0, a.try_, false⟩ : Kn))[k]? = some b->∃ b0, L.ags[k]? = some b0/\ b = ⟨0, b0.try_, false⟩ := fun k b hb => by
   rw [List.getElem?_map] at hb
   obtain ⟨b0, h0, e⟩ := Option.map_eq_some_iff.1 hb
   exact ⟨b0, h0, e.symm⟩
  refine ⟨hok, by simp [h.len], fun k a b ha hb => ?_, fun _ k o b b' hb hs => ?_, fun _ => ⟨0, fun k b hb hs => ?_, ?_⟩⟩
  ·obtain ⟨b0, hb0, rfl⟩ := hz k b hb
   obtain ⟨i1, i2⟩ := h.agt k a b0 ha hb0
   obtain ⟨q1, q2, q3, q4, q5, q6⟩ := f.kn k b0 hb0
   have hat : a.try_ = b0.try_/\ AtR a (if L.back = false then tgt L false else tgt L true) := by
    by_cases hs : b0.st = 0
    ·obtain ⟨d1, d2⟩ := i1.idle hs
     refine ⟨d1, ?_⟩
     cases hb : L.back with
     | true => rw [if_neg (by simp)]; exact d2
     | false =>
      exfalso
      unfold overOf at w2
      rw [if_pos hb, decide_eq_true_eq] at w2
      refine w2.2 (List.mem_map.2 ⟨b0, List.mem_of_getElem? hb0, ?_⟩)
      simp [hs]
    ·have hst : (b0.st = 2 ∨ b0.st = 3)/\ b0.back = L.back := by
      unfold overOf at w2
      cases hb : L.back with
      | false =>
       rw [if_pos hb, decide_eq_true_eq] at w2
       refine ⟨Decidable.byContradiction fun e => w2.2 (List.mem_map.2 ⟨b0, List.mem_of_getElem? hb0, by simpa using e⟩), ?_⟩
       cases h0 : b0.back with
       | false => rfl
       | true => have := (q6 h0).1; rw [hb] at this; cases this
      | true =>
       rw [if_neg (by rw [hb]; simp), decide_eq_true_eq] at w2
       have := w2 b0 (List.mem_of_getElem? hb0)
       unfold busy at this
       refine ⟨by omega, ?_⟩
       cases h0 : b0.back with
       | true => rfl
       | false => exact absurd (.inr ⟨hs, h0⟩) this
     obtain ⟨s1, s2, s3⟩ := i1.said hst.1
     refine ⟨s1, ?_⟩
     have hon := i1.on hs s1
     rw [hst.2] at hon
     have : AtR a (tgt L L.back) := by
      rcases hon with w | w
      ·exact w
      ·rw [s2] at w; cases w.1
     cases hb : L.back with
     | true => rw [hb] at this; rw [if_neg (by simp)]; exact this
     | false => rw [hb] at this; rw [if_pos rfl]; exact this
   refine ⟨⟨i1.ok, i1.le, fun _ => ⟨hat.1, ?_⟩, fun e => absurd rfl e, fun e => absurd rfl e, fun e => (by simp at e), i1.pins, i1.low⟩, fun m hm hmk => ?_⟩
   ·have := hat.2
    rw [tgt_true]
    cases hb : L.back with
    | true => rw [hb, if_neg (by simp), tgt_true] at this; simpa [hb] using this
    | false => rw [hb, if_pos rfl, tgt_false] at this; simpa [hb] using this
   ·have hI := i2 m hm hmk
    refine ⟨hI.rep, fun e => ⟨(hI.told e).1, fun e2 => ?_⟩⟩
    have := (hI.told e).1
    omega
  ·obtain ⟨b0, _, rfl⟩ := hz k b hb
   exact absurd rfl hs
  ·obtain ⟨b0, _, rfl⟩ := hz k b hb
   cases hs
  ·have : (List.range (L.ags.map fun a => (⟨0, a.try_, false⟩ : Kn)).length).countP (illAt c { L with now := (if L.back = false then L.goal else L.now), goal := 0, back := false, ags := L.ags.map fun a => ⟨0, a.try_, false⟩ } 0) = 0 := List.countP_eq_zero.2 fun k hk => by
    unfold illAt
    dsimp only
    cases hb : (L.ags.map fun a => (⟨0, a.try_, false⟩ : Kn))[k]? with
    | none => simp
    | some b => obtain ⟨b0, _, rfl⟩ := hz k b hb; simp
   rw [this]
   obtain ⟨y1, y2, y3, y4, y5⟩ := cfgErr_zero (ldrErr_zero.1 z1).1
   omega
def atK {α : Type} (q : α->Bool) : Option α->Bool
 | some b => q b
 | none => false
theorem range_count {α : Type} (q : α->Bool) (xs : List α) : (List.range xs.length).countP (fun k => atK q xs[k]?) = xs.countP q := by
 have h : (List.range xs.length).map (fun k => xs[k]?) = xs.map some := by
  apply List.ext_getElem?
  intro i
  rw [List.getElem?_map, List.getElem?_map]
  by_cases hi : i < xs.length
  ·rw [List.getElem?_range hi]; simp [hi]
  ·simp [hi]
 have h2 : (List.range xs.length).countP (fun k => atK q xs[k]?) = ((List.range xs.length).map (fun k => xs[k]?)).countP (atK q) := by
  rw [List.countP_map]; rfl
 rw [h2, h, List.countP_map]
 rfl
theorem ill_cnt {c : Conf} {L : Ldr} {j : Int} : ((List.range L.ags.length).countP (illAt c L j) : Int) <= cnt 3 L.ags := by
 have h1 := range_count (fun b : Kn => decide (b.st = 3)) L.ags
 have h2 : (List.range L.ags.length).countP (illAt c L j) <= (List.range L.ags.length).countP (fun k => atK (fun b : Kn => decide (b.st = 3)) L.ags[k]?) := by
  refine List.countP_mono_left fun k hk hx => ?_
  unfold illAt at hx
  cases hb : L.ags[k]? with
  | none => rw [hb] at hx; cases hx
  | some b => rw [hb] at hx; simp at hx; simp [atK, hx.1]
 unfold cnt
 rw [← List.countP_eq_length_filter]
 omega
theorem SInv.move_send {c : Conf} {L : Ldr} {A : List Agt} {M M' : List Mail} (h : SInv c L A M) {k : Nat} (hr : ledErr c L (uTell k L.nx) = 0) (hm : ∀ m ∈ M', m ∈ M ∨ m = toMail c L k L.nx) : SInv c (ledNext L (uTell k L.nx)) A M' := by
 have f := ldr_facts h.led
 have hok := led_ok hr
 obtain ⟨z1, z2, z3⟩ := led_zero hr
 obtain ⟨w1, w2, w4⟩ : k < L.ags.length/\ L.goal ≠ 0/\ turnOf c L k = true := by
  rcases led_cases z3 with ⟨k, _⟩ | ⟨k, _⟩ | ⟨k, w⟩ | ⟨k, _⟩ | ⟨k, _⟩ | ⟨k, _⟩
  ·simp at k
  ·simp at k
  ·exact ⟨by have := w.1; simp only at this; omega, w.2.1, w.2.2.2⟩
  ·simp at k
  ·simp at k
  ·simp at k
 obtain ⟨b, hb⟩ : ∃ b, L.ags[k]? = some b := ⟨_, List.getElem?_eq_getElem w1⟩
 obtain ⟨q1, q2, q3, q4, q5, q6⟩ := f.kn k b hb
 have hte := turnErr_of z1 w1 w2
 have heq : ledNext L (uTell k L.nx) = { L with ags := L.ags.set k ⟨1, L.nx, L.back⟩, nx := L.nx + 1 } := by rw [led_eq6 rfl]; simp
 have hturn := w4
 unfold turnOf at w4
 rw [Int.toNat_natCast, hb] at w4
 dsimp only at w4
 rw [heq] at hok ⊢
 have ht : ∀ x, tgt { L with ags := L.ags.set k ⟨1, L.nx, L.back⟩, nx := L.nx + 1 } x = tgt L x := tgt_of f rfl rfl (by simp)
 have hset : ∀ (j : Nat) (x : Kn), (L.ags.set k ⟨1, L.nx, L.back⟩)[j]? = some x->(j = k/\ x = ⟨1, L.nx, L.back⟩) ∨ (j ≠ k/\ L.ags[j]? = some x) := fun j x hx => by
  rw [List.getElem?_set] at hx
  by_cases e : k = j
  ·subst e
   rw [if_pos rfl, if_pos w1] at hx
   exact .inl ⟨rfl, (Option.some.inj hx).symm⟩
  ·rw [if_neg e] at hx
   exact .inr ⟨Ne.symm e, hx⟩
 have hthr : L.back = false->∀ (o : Nat) (m : Kn), L.ags[o]? = some m->waveOf c.waves o < waveOf c.waves k->m.st = 2 ∨ m.st = 3 := fun hbk o m hm hlt => by
  obtain ⟨p, e1, e2, e3, e4, e5, e6⟩ := led_turn hr rfl hbk
  exact e6 o m (by omega) (by simpa using hm) hlt
 have hidle : L.back = false->b.st = 0/\ cnt 3 L.ags <= c.bud := fun hbk => by
  rw [if_neg (by rw [hbk]; simp), decide_eq_true_eq] at w4
  exact ⟨w4.2.1, w4.2.2.2⟩
 refine ⟨hok, by simp [h.len], fun j a b' ha hb' => ?_, fun hbk i o x x' hx hs hx' hlt => ?_, fun hbk => ⟨waveOf c.waves k, fun i x hx hs => ?_, ?_⟩⟩
 ·rcases hset j b' hb' with ⟨rfl, rfl⟩ | ⟨hj, hb'⟩
  ·obtain ⟨i1, i2⟩ := h.agt j a b ha hb
   refine ⟨?_, fun m hmM hmk => ?_⟩
   ·have hle := i1.le
    refine ⟨i1.ok, by simp only; omega, fun e => (by cases e), fun _ e => (by simp only at e; omega), fun _ _ => ⟨rfl, ?_⟩, fun e => (by simp at e), i1.pins, i1.low⟩
    rw [ht, ht]
    cases hbk : L.back with
    | false => exact .inl (i1.idle (hidle hbk).1).2
    | true =>
     rw [if_pos hbk, decide_eq_true_eq] at w4
     by_cases e : a.try_ = b.try_
     ·have := i1.on w4.1 e
      rw [w4.2] at this
      exact .inr ⟨rfl, this⟩
     ·rcases (i1.late w4.1 (by omega)).2 with w | w
      ·exact .inl w
      ·rw [w4.2] at w; cases w.1
   ·rcases hm m hmM with hmM | rfl
    ·have hI := i2 m hmM hmk
     refine ⟨hI.rep, fun e => ⟨by have := (hI.told e).1; simp only; omega, fun e2 => ?_⟩⟩
     obtain ⟨t1, t2⟩ := hI.told e
     obtain ⟨t3, t4⟩ := t2 e2
     have hs : b.st ≠ 0 := fun e0 => by have := (i1.idle e0).1; omega
     rw [ht, ht]
     refine ⟨fun e3 => by simp only at e3; omega, fun _ => ?_⟩
     have hbk : L.back = true := by
      cases hbk : L.back with
      | true => rfl
      | false => exact absurd (hidle hbk).1 hs
     rw [if_pos hbk, decide_eq_true_eq] at w4
     refine ⟨hbk, ?_⟩
     by_cases e3 : m.try_ = b.try_
     ·rw [t3 e3, w4.2]
     ·have := (t4 (by omega)).1
      rw [w4.2] at this; cases this
    ·refine ⟨fun e => (by cases e), fun _ => ⟨Int.le_refl _, fun _ => ⟨fun _ => ?_, fun e => ?_⟩⟩⟩
     ·rw [ht]; exact turnRel_tgt hte
     ·exact absurd e (Int.lt_irrefl _)
  ·refine KInv.more (L := { L with ags := L.ags.set k ⟨1, L.nx, L.back⟩, nx := L.nx + 1 }) (M := M) (x := toMail c L k L.nx) (j := k) (KInv.tr (h.agt j a b' ha hb') ht (fun q hq => hq) (Nat.le_refl _)) hm (by simp) fun e => absurd e.symm hj
 ·have hbk : L.back = false := hbk
  have hx : (L.ags.set k ⟨1, L.nx, L.back⟩)[i]? = some x := hx
  have hx' : (L.ags.set k ⟨1, L.nx, L.back⟩)[o]? = some x' := hx'
  rcases hset i x hx with ⟨rfl, rfl⟩ | ⟨hi, hy⟩
  ·rcases hset o x' hx' with ⟨rfl, rfl⟩ | ⟨ho, hy'⟩
   ·omega
   ·exact hthr hbk o x' hy' hlt
  ·rcases hset o x' hx' with ⟨rfl, rfl⟩ | ⟨ho, hy'⟩
   ·have := h.wave hbk i _ x b hy hs hb hlt
    have := (hidle hbk).1
    omega
   ·exact h.wave hbk i o x x' hy hs hy' hlt
 ·have hbk : L.back = false := hbk
  have hx : (L.ags.set k ⟨1, L.nx, L.back⟩)[i]? = some x := hx
  rcases hset i x hx with ⟨rfl, rfl⟩ | ⟨hi, hx⟩
  ·rfl
  ·rcases Int.lt_trichotomy (waveOf c.waves i) (waveOf c.waves k) with e | e | e
   ·have := hthr hbk i x hx e; omega
   ·exact e
   ·have := h.wave hbk i k x b hx (by omega) hb e
    have := (hidle hbk).1
    omega
 ·have hbk : L.back = false := hbk
  have h1 := ill_cnt (c := c) (L := { L with ags := L.ags.set k ⟨1, L.nx, L.back⟩, nx := L.nx + 1 }) (j := waveOf c.waves k)
  have h2 : cnt 3 (L.ags.set k ⟨1, L.nx, L.back⟩) <= cnt 3 L.ags := by
   unfold cnt
   rw [← List.countP_eq_length_filter, ← List.countP_eq_length_filter]
   obtain ⟨hk, hbe⟩ := List.getElem?_eq_some_iff.1 hb
   rw [List.countP_set hk]
   simp only [hbe, (hidle hbk).1]
   simp
  exact Int.le_trans h1 (Int.le_trans h2 (hidle hbk).2)
theorem SInv.move_got {c : Conf} {L : Ldr} {A : List Agt} {M M' : List Mail} (h : SInv c L A M) {m : Mail} (hm : m ∈ M) (hrep : m.rep = true) (hr : ledErr c L (uHeard m) = 0) (hM : ∀ m ∈ M', m ∈ M) : SInv c (ledNext L (uHeard m)) A M' := by
 have f := ldr_facts h.led
 have hok := led_ok hr
 obtain ⟨z1, z2, z3⟩ := led_zero hr
 obtain ⟨b, hb, hs, htr⟩ : ∃ b, L.ags[m.agent.toNat]? = some b/\ b.st = 1/\ m.try_ = b.try_ := by
  rcases led_cases z3 with ⟨k, _⟩ | ⟨k, _⟩ | ⟨k, w⟩ | ⟨k, _, w⟩ | ⟨k, _⟩ | ⟨k, _⟩
  ·simp at k
  ·simp at k
  ·simp at k
  ·exact w
  ·simp at k
  ·simp at k
 have heq : ledNext L (uHeard m) = { L with ags := L.ags.set m.agent.toNat (got (uHeard m) b) } := led_eq7 rfl hb
 rw [heq] at hok ⊢
 have hk : m.agent.toNat < L.ags.length := (List.getElem?_eq_some_iff.1 hb).1
 have ht : ∀ x, tgt { L with ags := L.ags.set m.agent.toNat (got (uHeard m) b) } x = tgt L x := tgt_of f rfl rfl (by simp)
 have hgot : (got (uHeard m) b).try_ = b.try_/\ (got (uHeard m) b).back = b.back/\ ((got (uHeard m) b).st = 2 ∨ (got (uHeard m) b).st = 3)/\ ((got (uHeard m) b).st = 2 ↔ m.good = true) := by
  unfold got
  refine ⟨rfl, rfl, ?_, ?_⟩
  ·dsimp only; split <;> simp
  ·dsimp only; split
   ·rename_i e; simp [e]
   ·rename_i e; simp [e]
 generalize got (uHeard m) b = g at hgot ht hok
 obtain ⟨g1, g2, g3, g4⟩ := hgot
 have hset : ∀ (j : Nat) (x : Kn), (L.ags.set m.agent.toNat g)[j]? = some x->(j = m.agent.toNat/\ x = g) ∨ (j ≠ m.agent.toNat/\ L.ags[j]? = some x) := fun j x hx => by
  rw [List.getElem?_set] at hx
  by_cases e : m.agent.toNat = j
  ·rw [if_pos e, if_pos (by omega)] at hx
   exact .inl ⟨e.symm, (Option.some.inj hx).symm⟩
  ·rw [if_neg e] at hx
   exact .inr ⟨Ne.symm e, hx⟩
 refine ⟨hok, by simp [h.len], fun j a b' ha hb' => ?_, fun hbk i o x x' hx hs' hx' hlt => ?_, fun hbk => ?_⟩
 ·rcases hset j b' hb' with ⟨rfl, rfl⟩ | ⟨hj, hb'⟩
  ·obtain ⟨i1, i2⟩ := h.agt _ a b ha hb
   obtain ⟨r1, r2⟩ := (i2 m hm rfl).rep hrep
   have hle := i1.le
   have he : a.try_ = b.try_ := by omega
   obtain ⟨r3, r4⟩ := r2 (by omega)
   have hon := i1.on (by omega) he
   refine ⟨⟨i1.ok, by omega, fun e => (by omega), fun _ _ => by rw [ht, g2]; exact hon, fun _ e => (by omega), fun _ => ⟨by omega, r3, by rw [g4, r4]⟩, i1.pins, i1.low⟩, fun m' hm' hk' => ?_⟩
   have hI := i2 m' (hM m' hm') hk'
   refine ⟨hI.rep, fun e => ⟨by have := (hI.told e).1; omega, fun e2 => ?_⟩⟩
   have := (hI.told e).1
   omega
  ·exact KInv.sub (KInv.tr (h.agt j a b' ha hb') ht (fun q hq => hq) (Nat.le_refl _)) hM
 ·have hbk : L.back = false := hbk
  have hx : (L.ags.set m.agent.toNat g)[i]? = some x := hx
  have hx' : (L.ags.set m.agent.toNat g)[o]? = some x' := hx'
  rcases hset o x' hx' with ⟨rfl, rfl⟩ | ⟨ho, hy'⟩
  ·exact g3
  ·rcases hset i x hx with ⟨rfl, rfl⟩ | ⟨hi, hy⟩
   ·exact h.wave hbk _ o b x' hb (by omega) hy' hlt
   ·exact h.wave hbk i o x x' hy hs' hy' hlt
 ·have hbk : L.back = false := hbk
  obtain ⟨j, j1, j2⟩ := h.ill hbk
  refine ⟨j, fun i x hx hs' => ?_, ?_⟩
  ·have hx : (L.ags.set m.agent.toNat g)[i]? = some x := hx
   rcases hset i x hx with ⟨rfl, rfl⟩ | ⟨hi, hx⟩
   ·omega
   ·exact j1 i x hx hs'
  ·have hj := j1 _ b hb hs
   have h2 : (List.range L.ags.length).countP (illAt c { L with ags := L.ags.set m.agent.toNat g } j) <= (List.range L.ags.length).countP (illAt c L j) := by
    refine List.countP_mono_left fun i hi hx => ?_
    unfold illAt at hx ⊢
    dsimp only at hx
    cases hy : (L.ags.set m.agent.toNat g)[i]? with
    | none => rw [hy] at hx; cases hx
    | some x =>
     rw [hy] at hx
     rcases hset i x hy with ⟨rfl, rfl⟩ | ⟨_, hy⟩
     ·simp only [decide_eq_true_eq] at hx; exact absurd hj hx.2
     ·rw [hy]; exact hx
   show ((List.range (L.ags.set m.agent.toNat g).length).countP (illAt c { L with ags := L.ags.set m.agent.toNat g } j) : Int) <= c.bud
   rw [List.length_set]
   omega
theorem SInv.move {c : Conf} {L L' : Ldr} {A A' : List Agt} {M M' : List Mail} (h : SInv c L A M) (hv : Mv c L A M L' A' M') : SInv c L' A' M' := by
 have f := ldr_facts h.led
 cases hv with
 | rest hM => exact ⟨h.led, h.len, fun k a b ha hb => KInv.sub (h.agt k a b ha hb) hM, h.wave, h.ill⟩
 | led r hr hk => exact h.move_led hr hk
 | send k hr hm => exact h.move_send hr hm
 | again k b hk h1 h2 hg hm =>
  refine ⟨h.led, h.len, fun j a b' ha hb' => KInv.more (x := toMail c _ k b.try_) (j := k) (h.agt j a b' ha hb') hm (by simp) fun e => ?_, h.wave, h.ill⟩
  subst e
  obtain rfl : b = b' := by rw [hk] at hb'; exact Option.some.inj hb'
  have hte := turnErr_of h.led (List.getElem?_eq_some_iff.1 hk).1 hg
  refine ⟨fun e => (by cases e), fun _ => ⟨Int.le_refl _, fun _ => ⟨fun _ => ?_, fun e => absurd e (Int.lt_irrefl _)⟩⟩⟩
  rw [h2]; exact turnRel_tgt hte
 | got m hm hr he hM => exact h.move_got hm hr he hM
 | begin m a hm hr ha he hM =>
  refine ⟨h.led, by simp [h.len], left_set (P := fun k a b => KInv L _ k b a) (fun j x b _ hx hb => KInv.sub (h.agt j x b hx hb) hM) fun b hb => KInv.begin (h.agt _ a b ha hb) hm hr he hM, h.wave, h.ill⟩
 | step k a ha he =>
  refine ⟨h.led, by simp [h.len], left_set (P := fun k a b => KInv L _ k b a) (fun j x b _ hx hb => h.agt j x b hx hb) fun b hb => KInv.step (h.agt _ a b ha hb) (f.rel hb) he, h.wave, h.ill⟩
 | done k a g ha he hM =>
  refine ⟨h.led, by simp [h.len], left_set (P := fun k a b => KInv L _ k b a) (fun j x b hj hx hb => KInv.more (x := repMail k (agtNext a (uDone a g))) (j := k) (h.agt j x b hx hb) hM (by simp [repMail]) fun e => absurd e.symm hj) fun b hb => KInv.done (h.agt _ a b ha hb) (f.low hb) he hM, h.wave, h.ill⟩
 | report k a ha hg hM =>
  refine ⟨h.led, h.len, fun j x b hx hb => KInv.more (x := repMail k a) (j := k) (h.agt j x b hx hb) hM (by simp [repMail]) fun e => ?_, h.wave, h.ill⟩
  subst e
  obtain rfl : a = x := by rw [ha] at hx; exact Option.some.inj hx
  exact ⟨fun _ => ⟨Int.le_refl _, fun _ => ⟨hg, rfl⟩⟩, fun e => by cases e⟩
open Go
theorem ledFrom_snoc {c : Conf} {r : Recd} {L : Ldr} : ∀ {rs : List Recd} {l : Ldr}, ledFrom c l rs = .ok L->ledErr c L r = 0->ledFrom c l (rs ++ [r]) = .ok (ledNext L r)
 | [], l, h, hr => by
  obtain rfl := Except.ok.inj (show Except.ok l = Except.ok L from h)
  show ledFrom c l [r] = _
  unfold ledFrom; rw [if_pos hr]; rfl
 | q :: rs, l, h, hr => by
  show ledFrom c l (q :: (rs ++ [r])) = _
  unfold ledFrom at h ⊢
  split at h
  ·rename_i hq; rw [if_pos hq]; exact ledFrom_snoc h hr
  ·cases h
theorem ledReplay_snoc {c : Conf} {rs : List Recd} {r : Recd} {L : Ldr} (h : ledReplay c rs = .ok L) (hr : ledErr c L r = 0) (hn : (rs ++ [r]).length <= 200) : ledReplay c (rs ++ [r]) = .ok (ledNext L r) := by
 unfold ledReplay at h ⊢
 split at h
 ·cases h
 ·rename_i hc
  rw [if_neg hc]
  split at h
  ·cases h
  ·rw [if_neg (by omega)]; exact ledFrom_snoc h hr
theorem ledFrom_ok {c : Conf} {L : Ldr} : ∀ {rs : List Recd} {l : Ldr}, ldrErr c l = 0->ledFrom c l rs = .ok L->ldrErr c L = 0
 | [], l, h, e => by obtain rfl := Except.ok.inj (show Except.ok l = Except.ok L from e); exact h
 | q :: rs, l, h, e => by
  unfold ledFrom at e
  split at e
  ·rename_i hq; exact ledFrom_ok (led_ok hq) e
  ·cases e
theorem ledReplay_ok {c : Conf} {rs : List Recd} {L : Ldr} (h : ledReplay c rs = .ok L) : cfgErr c = 0/\ ldrErr c L = 0 := by
 unfold ledReplay at h
 split at h
 ·cases h
 ·rename_i hc
  split at h
  ·cases h
  ·exact ⟨by omega, ledFrom_ok (new_ok (by omega)) h⟩
theorem ledReplay_nil {c : Conf} (h : cfgErr c = 0) : ledReplay c [] = .ok (newLdr c) := by
 unfold ledReplay; rw [if_neg (by omega), if_neg (by simp)]; rfl
theorem replayFrom_snoc {r : Recd} {A : Agt} : ∀ {rs : List Recd} {a : Agt}, replayFrom a rs = .ok A->nextErr A r = 0->replayFrom a (rs ++ [r]) = .ok (agtNext A r)
 | [], l, h, hr => by
  obtain rfl := Except.ok.inj (show Except.ok l = Except.ok A from h)
  show replayFrom l [r] = _
  unfold replayFrom; rw [if_pos hr]; rfl
 | q :: rs, l, h, hr => by
  show replayFrom l (q :: (rs ++ [r])) = _
  unfold replayFrom at h ⊢
  split at h
  ·rename_i hq; rw [if_pos hq]; exact replayFrom_snoc h hr
  ·cases h
theorem agtReplay_snoc {f : Rls} {rs : List Recd} {r : Recd} {A : Agt} (h : agtReplay f rs = .ok A) (hr : nextErr A r = 0) (hn : (rs ++ [r]).length <= 200) : agtReplay f (rs ++ [r]) = .ok (agtNext A r) := by
 unfold agtReplay at h ⊢
 split at h
 ·cases h
 ·rename_i hc
  rw [if_neg hc]
  split at h
  ·cases h
  ·rw [if_neg (by omega)]; exact replayFrom_snoc h hr
theorem newAgt_ok {f : Rls} (h : relErr f = 0) : agtErr (newAgt f) = 0 := by
 obtain ⟨h1, h2⟩ := relErr_zero h
 exact agtErr_of h2 h1 ⟨Int.le_refl _, by unfold newAgt; simp⟩ (fun e => by cases e) (fun _ => by simp [newAgt, noRel])
theorem replayFrom_ok {A : Agt} : ∀ {rs : List Recd} {a : Agt}, agtErr a = 0->replayFrom a rs = .ok A->agtErr A = 0
 | [], l, h, e => by obtain rfl := Except.ok.inj (show Except.ok l = Except.ok A from e); exact h
 | q :: rs, l, h, e => by
  unfold replayFrom at e
  split at e
  ·rename_i hq; exact replayFrom_ok (next_ok hq) e
  ·cases e
theorem agtReplay_ok {f : Rls} {rs : List Recd} {A : Agt} (h : agtReplay f rs = .ok A) : relErr f = 0/\ agtErr A = 0 := by
 unfold agtReplay at h
 split at h
 ·cases h
 ·rename_i hc
  split at h
  ·cases h
  ·exact ⟨by omega, replayFrom_ok (newAgt_ok (by omega)) h⟩
theorem agtReplay_nil {f : Rls} (h : relErr f = 0) : agtReplay f [] = .ok (newAgt f) := by
 unfold agtReplay; rw [if_neg (by omega), if_neg (by simp)]; rfl
def mailOk (m : Mail) : Prop := ¬ badWho m/\ ¬ badForm m/\ (m.rep = false->relErr m.rel = 0)
theorem mailsFrom_iff : ∀ {l : List Mail}, mailsFrom l = 0 ↔ ∀ m ∈ l, mailOk m
 | [] => by simp [mailsFrom]
 | x :: q => by
  unfold mailsFrom
  constructor
  ·intro h
   split at h
   ·omega
   ·split at h
    ·omega
    ·rename_i h1 h2
     split at h
     ·rename_i h3
      intro m hm
      rcases List.mem_cons.1 hm with rfl | hm
      ·exact ⟨h1, h2, fun e => by rw [h3] at e; cases e⟩
      ·exact mailsFrom_iff.1 h m hm
     ·split at h
      ·omega
      ·rename_i h3 h4
       intro m hm
       rcases List.mem_cons.1 hm with rfl | hm
       ·exact ⟨h1, h2, fun _ => by omega⟩
       ·exact mailsFrom_iff.1 h m hm
  ·intro h
   obtain ⟨h1, h2, h3⟩ := h x List.mem_cons_self
   have h4 := mailsFrom_iff.2 fun m hm => h m (List.mem_cons_of_mem _ hm)
   rw [if_neg h1, if_neg h2]
   split
   ·exact h4
   ·rename_i h5
    rw [if_neg (by rw [h3 (by simpa using h5)]; omega)]
    exact h4
theorem mailsCheck_iff {l : List Mail} : mailsCheck l = 0 ↔ l.length <= 40/\ ∀ m ∈ l, mailOk m := by
 unfold mailsCheck
 constructor
 ·intro h
  split at h
  ·omega
  ·exact ⟨by omega, mailsFrom_iff.1 h⟩
 ·rintro ⟨h1, h2⟩
  rw [if_neg (by omega)]; exact mailsFrom_iff.2 h2
theorem sentOk {l : List Mail} {m : Mail} (h : sendErr l m = 0) : mailsCheck (sent l m) = 0/\ mailOk m := by
 unfold sendErr at h
 split at h
 ·rename_i h0
  obtain ⟨a1, a2⟩ := mailsCheck_iff.1 h0
  obtain ⟨b1, b2⟩ := mailsCheck_iff.1 h
  refine ⟨?_, b2 m (by simp)⟩
  unfold sent
  split
  ·refine mailsCheck_iff.2 ⟨by simp; omega, fun x hx => ?_⟩
   rcases List.mem_append.1 hx with hx | hx
   ·exact a2 x hx
   ·exact b2 x hx
  ·exact h0
 ·omega
theorem sent_mem {l : List Mail} {m x : Mail} (h : x ∈ sent l m) : x ∈ l ∨ x = m := by
 unfold sent at h
 split at h
 ·rcases List.mem_append.1 h with h | h
  ·exact .inl h
  ·exact .inr (by simpa using h)
 ·exact .inl h
theorem left_mem {l : List Mail} {k : Int} {tw : Bool} {x : Mail} (h : x ∈ left l k tw) : x ∈ l := by
 unfold left at h
 split at h
 ·exact h
 ·rcases List.mem_append.1 h with h | h
  ·exact List.mem_of_mem_take h
  ·exact List.mem_of_mem_drop h
theorem left_len {l : List Mail} {k : Int} {tw : Bool} : (left l k tw).length <= l.length := by
 unfold left
 split
 ·exact Nat.le_refl _
 ·rw [List.length_append, List.length_take, List.length_drop]; omega
theorem left_ok {l : List Mail} {k : Int} {tw : Bool} (h : mailsCheck l = 0) : mailsCheck (left l k tw) = 0 := by
 obtain ⟨a1, a2⟩ := mailsCheck_iff.1 h
 have := left_len (l := l) (k := k) (tw := tw)
 exact mailsCheck_iff.2 ⟨by omega, fun x hx => a2 x (left_mem hx)⟩
theorem took_mem {l : List Mail} {k : Int} (h : takeErr l k = 0) : took l k ∈ l/\ 0 <= k/\ k < l.length/\ mailsCheck l = 0 := by
 unfold takeErr at h
 split at h
 ·rename_i h0
  split at h
  ·omega
  ·refine ⟨?_, by omega, by omega, h0⟩
   unfold took
   have hk : k.toNat < l.length := by omega
   rw [List.getD_eq_getElem?_getD, List.getElem?_eq_getElem hk]
   exact List.getElem_mem hk
 ·omega
structure Logs (w : Wld) (L : Ldr) (A : List Agt) : Prop where
 cfg : cfgErr w.c = 0
 len : (w.n.length : Int) = agentsOf w.c.waves
 alen : A.length = w.n.length
 mail : mailsCheck w.m = 0
 who : ∀ m ∈ w.m, m.agent < w.n.length
 hd : DOk w.h.d (dskRecs w.h.d)
 hl : ledReplay w.c (dskRecs w.h.d) = .ok L
 hi : w.h.l = if w.h.up = true then L else newLdr w.c
 nd : ∀ (k : Nat) (n : Nod) (a : Agt), w.n[k]? = some n->A[k]? = some a->DOk n.d (dskRecs n.d)/\ agtReplay w.c.first (dskRecs n.d) = .ok a/\ n.a = if n.up = true then a else newAgt w.c.first
theorem logOf_ok {d : Dsk} {up : Bool} (h : DOk d (dskRecs d)) : logOf d up = .ok (if up = true then dskRecs d else []) := by
 obtain ⟨e1, e2, e3, e4⟩ := h.err
 unfold logOf
 rw [if_neg (by omega), if_neg (fun e => e.2 e4)]
theorem nodsErr_zero {f : Rls} : ∀ {l : List Nod}, nodsErr f l = 0 ↔ ∀ n ∈ l, nodErr f n = 0
 | [] => by simp [nodsErr]
 | x :: q => by
  unfold nodsErr
  constructor
  ·intro h
   split at h
   ·omega
   ·intro n hn
    rcases List.mem_cons.1 hn with rfl | hn
    ·omega
    ·exact nodsErr_zero.1 h n hn
  ·intro h
   rw [if_neg (by rw [h x List.mem_cons_self]; omega)]
   exact nodsErr_zero.2 fun n hn => h n (List.mem_cons_of_mem _ hn)
theorem farMail_false {k : Int} {l : List Mail} : farMail k l = false ↔ ∀ m ∈ l, m.agent < k := by
 unfold farMail
 rw [List.any_eq_false]
 simp
theorem Logs.ok {w : Wld} {L : Ldr} {A : List Agt} (h : Logs w L A) : wldErr w = 0 := by
 have hrel : relErr w.c.first = 0 := (cfgErr_zero h.cfg).1
 have hH : hedErr w.c w.h = 0 := by
  unfold hedErr
  rw [logOf_ok h.hd]
  dsimp only
  cases hu : w.h.up with
  | true => rw [if_pos rfl, h.hl]; dsimp only; rw [h.hi, hu, if_pos rfl, if_pos rfl]
  | false => rw [if_neg (show ¬ (false = true) by simp), ledReplay_nil h.cfg]; dsimp only; rw [h.hi, hu, if_neg (show ¬ (false = true) by simp), if_pos rfl]
 have hN : nodsErr w.c.first w.n = 0 := nodsErr_zero.2 fun n hn => by
  obtain ⟨k, hk⟩ := List.getElem?_of_mem hn
  have hka : k < A.length := by rw [h.alen]; exact (List.getElem?_eq_some_iff.1 hk).1
  obtain ⟨n1, n2, n3⟩ := h.nd k n _ hk (List.getElem?_eq_getElem hka)
  unfold nodErr
  rw [logOf_ok n1]
  dsimp only
  cases hu : n.up with
  | true => rw [if_pos rfl, n2]; dsimp only; rw [n3, hu, if_pos rfl, if_pos rfl]
  | false => rw [if_neg (show ¬ (false = true) by simp), agtReplay_nil hrel]; dsimp only; rw [n3, hu, if_neg (show ¬ (false = true) by simp), if_pos rfl]
 unfold wldErr
 rw [if_neg (by rw [h.cfg]; omega), if_neg (by rw [h.len]; omega), if_neg (by rw [h.mail]; omega), if_neg (by rw [farMail_false.2 h.who]; simp), if_neg (by rw [hH]; omega), hN]
theorem Logs.lead {w y : Wld} {L : Ldr} {A : List Agt} {r : Recd} (h : Logs w L A) (hu : w.h.up = true) (hy : wLead w r = .ok y) :
  ledErr w.c L r = 0/\ Logs y (ledNext L r) A/\ y.c = w.c/\ y.n = w.n/\ y.m = w.m/\ y.h.up = true/\ y.h.l = ledNext L r/\ dskRecs y.h.d = dskRecs w.h.d ++ [r] := by
 have hi := h.hi
 rw [if_pos hu] at hi
 unfold wLead at hy
 rw [hi] at hy
 split at hy
 ·cases hy
 ·rename_i he
  split at hy
  ·cases hy
  ·rename_i d hd
   obtain rfl := Except.ok.inj hy
   have hD := dskSafe_ok h.hd hd
   have hr := hD.err.2.1
   have he : ledErr w.c L r = 0 := by omega
   refine ⟨he, ⟨h.cfg, h.len, h.alen, h.mail, h.who, by rw [hr]; exact hD, by rw [hr]; exact ledReplay_snoc h.hl he hD.many, by simp [hu], h.nd⟩, rfl, rfl, rfl, hu, rfl, hr⟩
theorem Logs.does {w y : Wld} {L : Ldr} {A : List Agt} {r : Recd} {k : Nat} {n : Nod} {a : Agt} (h : Logs w L A) (hn : w.n[k]? = some n) (ha : A[k]? = some a) (hu : n.up = true) (hy : wDoes w k r = .ok y) :
  nextErr a r = 0/\ Logs y L (A.set k (agtNext a r))/\ y.c = w.c/\ y.h = w.h/\ y.m = w.m/\ ∃ n', y.n = w.n.set k n'/\ n'.a = agtNext a r/\ n'.up = true/\ dskRecs n'.d = dskRecs n.d ++ [r] := by
 obtain ⟨n1, n2, n3⟩ := h.nd k n a hn ha
 rw [if_pos hu] at n3
 unfold wDoes at hy
 rw [hn] at hy
 dsimp only at hy
 unfold nDoes at hy
 rw [n3] at hy
 split at hy
 ·cases hy
 ·rename_i n' hn'
  obtain rfl := Except.ok.inj hy
  split at hn'
  ·cases hn'
  ·rename_i he
   split at hn'
   ·cases hn'
   ·rename_i d hd
    obtain rfl := Except.ok.inj hn'
    have hD := dskSafe_ok n1 hd
    have hr := hD.err.2.1
    have he : nextErr a r = 0 := by omega
    refine ⟨he, ⟨h.cfg, by simp [h.len], by simp [h.alen], h.mail, fun m hm => by simpa using h.who m hm, h.hd, h.hl, h.hi, fun j x b hx hb => ?_⟩, rfl, rfl, rfl, ⟨_, rfl, rfl, hu, hr⟩⟩
    rw [List.getElem?_set] at hx hb
    by_cases e : k = j
    ·rw [if_pos e] at hx hb
     split at hx
     ·split at hb
      ·obtain rfl := Option.some.inj hx
       obtain rfl := Option.some.inj hb
       exact ⟨by rw [hr]; exact hD, by rw [hr]; exact agtReplay_snoc n2 he hD.many, by rw [if_pos hu]⟩
      ·cases hb
     ·cases hx
    ·rw [if_neg e] at hx hb
     exact h.nd j x b hx hb
theorem Logs.post {w : Wld} {L : Ldr} {A : List Agt} {m : Mail} (h : Logs w L A) (hm : m.agent < w.n.length) :
  Logs (wPost w m) L A/\ (∀ x ∈ (wPost w m).m, x ∈ w.m ∨ x = m)/\ (wPost w m).c = w.c/\ (wPost w m).n = w.n/\ (wPost w m).h = w.h := by
 unfold wPost
 split
 ·rename_i he
  refine ⟨⟨h.cfg, h.len, h.alen, (sentOk he).1, fun x hx => ?_, h.hd, h.hl, h.hi, h.nd⟩, fun x hx => sent_mem hx, rfl, rfl, rfl⟩
  rcases sent_mem hx with hx | rfl
  ·exact h.who x hx
  ·exact hm
 ·exact ⟨h, fun x hx => .inl hx, rfl, rfl, rfl⟩
theorem Logs.less {w : Wld} {L : Ldr} {A : List Agt} {k : Int} {tw : Bool} (h : Logs w L A) : Logs { w with m := left w.m k tw } L A :=
 ⟨h.cfg, h.len, h.alen, left_ok h.mail, fun m hm => h.who m (left_mem hm), h.hd, h.hl, h.hi, h.nd⟩
theorem Logs.agent {w : Wld} {L : Ldr} {A : List Agt} {k : Nat} {n : Nod} (h : Logs w L A) (hn : w.n[k]? = some n) : ∃ a, A[k]? = some a/\ DOk n.d (dskRecs n.d)/\ agtReplay w.c.first (dskRecs n.d) = .ok a/\ n.a = if n.up = true then a else newAgt w.c.first := by
 have hk : k < A.length := by rw [h.alen]; exact (List.getElem?_eq_some_iff.1 hn).1
 exact ⟨_, List.getElem?_eq_getElem hk, h.nd k n _ hn (List.getElem?_eq_getElem hk)⟩
theorem Logs.ags {w : Wld} {L : Ldr} {A : List Agt} (h : Logs w L A) : ldrErr w.c L = 0/\ L.ags.length = w.n.length := by
 have h1 := (ledReplay_ok h.hl).2
 obtain ⟨g1, g2, g3, g4, g5, g6, g7⟩ := ldrErr_zero.1 h1
 have := (form_parts g6).2.2.1
 have := h.len
 exact ⟨h1, by omega⟩
theorem turnErr_zero {c : Conf} {l : Ldr} {k : Int} (h : turnErr c l k = 0) : ldrErr c l = 0/\ 0 <= k/\ k < l.ags.length/\ l.goal ≠ 0 := by
 unfold turnErr at h
 split at h
 ·omega
 ·split at h
  ·omega
  ·split at h
   ·omega
   ·exact ⟨by omega, by omega, by omega, by assumption⟩
theorem Logs.tell {w y : Wld} {L : Ldr} {A : List Agt} {x : Hap} (h : Logs w L A) (hu : w.h.up = true) (hy : wTell w x = .ok y) : ∃ L' A', Logs y L' A'/\ Mv w.c L A w.m L' A' y.m/\ y.c = w.c := by
 have hi := h.hi
 rw [if_pos hu] at hi
 unfold wTell at hy
 rw [hi] at hy
 split at hy
 ·cases hy
 ·rename_i ht
  obtain ⟨t1, t2, t3, t4⟩ := turnErr_zero (Decidable.not_not.1 ht)
  have hag := h.ags.2
  have hk : ((x.agent.toNat : Nat) : Int) = x.agent := by omega
  split at hy
  ·split at hy
   ·cases hy
   ·rename_i b hb
    split at hy
    ·cases hy
    ·rename_i hs
     obtain rfl := Except.ok.inj hy
     obtain ⟨p1, p2, p3, p4, p5⟩ := h.post (m := ⟨x.agent, b.try_, false, false, turnRel w.c L x.agent⟩) (by simp only; omega)
     refine ⟨L, A, p1, .again x.agent.toNat b hb (Decidable.byContradiction fun e => hs (.inl e)) (Decidable.byContradiction fun e => hs (.inr e)) t4 fun m hm => ?_, p3⟩
     unfold toMail
     rw [hk]
     exact p2 m hm
  ·split at hy
   ·cases hy
   ·rename_i z hz
    obtain rfl := Except.ok.inj hy
    obtain ⟨l1, l2, l3, l4, l5, l6, l7, l8⟩ := h.lead hu hz
    obtain ⟨p1, p2, p3, p4, p5⟩ := l2.post (m := ⟨x.agent, L.nx, false, false, turnRel w.c L x.agent⟩) (by rw [l4]; simp only; omega)
    refine ⟨_, A, p1, ?_, by rw [p3, l3]⟩
    have := Mv.send (c := w.c) (L := L) (A := A) (M := w.m) (M' := (wPost z ⟨x.agent, L.nx, false, false, turnRel w.c L x.agent⟩).m) x.agent.toNat (by rw [hk]; exact l1) fun m hm => by
     rw [← l5]; unfold toMail; rw [hk]; exact p2 m hm
    rw [hk] at this
    exact this
theorem Logs.step {w y : Wld} {L : Ldr} {A : List Agt} {x : Hap} {n : Nod} (h : Logs w L A) (h0 : 0 <= x.agent) (hn : w.n[x.agent.toNat]? = some n) (hu : n.up = true) (hy : wStep w x n = .ok y) : ∃ L' A', Logs y L' A'/\ Mv w.c L A w.m L' A' y.m/\ y.c = w.c := by
 obtain ⟨a, ha, n1, n2, n3⟩ := h.agent hn
 rw [if_pos hu] at n3
 unfold wStep at hy
 rw [n3] at hy
 split at hy
 ·cases hy
 ·split at hy
  ·cases hy
  ·split at hy
   ·obtain ⟨d1, d2, d3, d4, d5, _⟩ := h.does hn ha hu hy
    exact ⟨L, _, d2, by rw [d5]; exact .step _ a ha d1, d3⟩
   ·split at hy
    ·cases hy
    ·rename_i z hz
     obtain rfl := Except.ok.inj hy
     obtain ⟨d1, d2, d3, d4, d5, n', e1, e2, e3, e4⟩ := h.does hn ha hu hz
     have hkl := (List.getElem?_eq_some_iff.1 hn).1
     have hz' : z.n[x.agent.toNat]? = some n' := by rw [e1, List.getElem?_set, if_pos rfl, if_pos hkl]
     have hrep : wReport z x.agent.toNat = wPost z (repMail x.agent.toNat (agtNext a (uDone a x.good))) := by unfold wReport; rw [hz']; dsimp only; rw [e2]
     obtain ⟨p1, p2, p3, p4, p5⟩ := d2.post (m := repMail x.agent.toNat (agtNext a (uDone a x.good))) (by rw [e1]; simp [repMail]; omega)
     rw [hrep]
     refine ⟨L, _, p1, .done x.agent.toNat a x.good ha d1 fun m hm => ?_, by rw [p3, d3]⟩
     rw [← d5]; exact p2 m hm
theorem Logs.hear {w y : Wld} {L : Ldr} {A : List Agt} {x : Hap} (h : Logs w L A) (hy : wHear w x = .ok y) : ∃ L' A', Logs y L' A'/\ Mv w.c L A w.m L' A' y.m/\ y.c = w.c := by
 unfold wHear at hy
 split at hy
 ·cases hy
 ·rename_i ht
  obtain ⟨t1, t2, t3, t4⟩ := took_mem (Decidable.not_not.1 ht)
  obtain ⟨o1, o2, o3⟩ := (mailsCheck_iff.1 t4).2 _ t1
  have hw := h.who _ t1
  generalize took w.m x.num = m at *
  unfold badWho at o1
  split at hy
  ·cases hy
  ·rename_i n hn
   obtain ⟨a, ha, n1, n2, n3⟩ := h.agent hn
   split at hy
   ·cases hy
   ·rename_i hup
    dsimp only at hy
    have hL := h.less (k := x.num) (tw := decide (x.kind = 10))
    have hsub : ∀ q ∈ left w.m x.num (decide (x.kind = 10)), q ∈ w.m := fun q hq => left_mem hq
    split at hy
    ·rename_i hr
     have hu : w.h.up = true := by
      cases hu : w.h.up with
      | true => rfl
      | false => exact absurd (.inl ⟨hr, hu⟩) hup
     obtain rfl := Except.ok.inj hy
     cases hl : wLead { w with m := left w.m x.num (decide (x.kind = 10)) } (uHeard m) with
     | error e => exact ⟨L, A, hL, .rest hsub, rfl⟩
     | ok z =>
      obtain ⟨l1, l2, l3, l4, l5, _⟩ := hL.lead hu hl
      refine ⟨_, A, l2, .got m t1 hr l1 fun q hq => hsub q ?_, l3⟩
      have : (orSame { w with m := left w.m x.num (decide (x.kind = 10)) } (.ok z)).m = left w.m x.num (decide (x.kind = 10)) := l5
      rw [this] at hq; exact hq
    ·rename_i hr
     have hr : m.rep = false := by simpa using hr
     have hu : n.up = true := by
      cases hu : n.up with
      | true => rfl
      | false => exact absurd (.inr ⟨hr, hu⟩) hup
     rw [if_pos hu] at n3
     have hk : ((m.agent.toNat : Nat) : Int) = m.agent := by omega
     split at hy
     ·rename_i hg
      obtain rfl := Except.ok.inj hy
      rw [n3] at hg
      have hn' : (({ w with m := left w.m x.num (decide (x.kind = 10)) } : Wld).n)[m.agent.toNat]? = some n := hn
      have hrep : wReport { w with m := left w.m x.num (decide (x.kind = 10)) } m.agent.toNat = wPost { w with m := left w.m x.num (decide (x.kind = 10)) } (repMail m.agent.toNat a) := by unfold wReport; rw [hn']; dsimp only; rw [n3]
      obtain ⟨p1, p2, p3, p4, p5⟩ := hL.post (m := repMail m.agent.toNat a) (by simp only [repMail]; omega)
      rw [hrep]
      exact ⟨L, A, p1, .report m.agent.toNat a ha hg.2 fun q hq => (p2 q hq).imp (hsub q) id, p3⟩
     ·obtain rfl := Except.ok.inj hy
      cases hl : wDoes { w with m := left w.m x.num (decide (x.kind = 10)) } m.agent.toNat (uBegin m) with
      | error e => exact ⟨L, A, hL, .rest hsub, rfl⟩
      | ok z =>
       obtain ⟨d1, d2, d3, d4, d5, _⟩ := hL.does hn ha hu hl
       refine ⟨L, _, d2, .begin m a t1 hr ha d1 fun q hq => hsub q ?_, d3⟩
       have : (orSame { w with m := left w.m x.num (decide (x.kind = 10)) } (.ok z)).m = left w.m x.num (decide (x.kind = 10)) := d5
       rw [this] at hq; exact hq
theorem Logs.power {w y : Wld} {L : Ldr} {A : List Agt} {x : Hap} (h : Logs w L A) (hk : x.kind = 12 ∨ x.kind = 13) (hy : wPower w x = .ok y) : Logs y L A/\ y.m = w.m/\ y.c = w.c := by
 have hrel : relErr w.c.first = 0 := (cfgErr_zero h.cfg).1
 obtain ⟨e1, e2, e3, e4⟩ := h.hd.err
 unfold wPower at hy
 split at hy
 ·split at hy
  ·cases hy
  ·rename_i hu
   split at hy
   ·cases hy
   ·rcases hk with k | k
    ·have hup : w.h.up = true := by simpa [k] using hu
     rw [if_pos k, ledReplay_nil h.cfg] at hy
     dsimp only at hy
     obtain rfl := Except.ok.inj hy
     rw [if_pos k]
     exact ⟨⟨h.cfg, h.len, h.alen, h.mail, h.who, h.hd, h.hl, by simp [hup], h.nd⟩, rfl, rfl⟩
    ·have hup : w.h.up = false := by simpa [k] using hu
     rw [if_neg (by omega), h.hl] at hy
     dsimp only at hy
     obtain rfl := Except.ok.inj hy
     rw [if_neg (by omega), e3]
     exact ⟨⟨h.cfg, h.len, h.alen, h.mail, h.who, h.hd, h.hl, by simp [hup], h.nd⟩, rfl, rfl⟩
 ·split at hy
  ·cases hy
  ·rename_i n hn
   obtain ⟨a, ha, n1, n2, n3⟩ := h.agent hn
   obtain ⟨f1, f2, f3, f4⟩ := n1.err
   have key : ∀ n', DOk n'.d (dskRecs n'.d)->agtReplay w.c.first (dskRecs n'.d) = .ok a->(n'.a = if n'.up = true then a else newAgt w.c.first)->Logs { w with n := w.n.set x.agent.toNat n' } L A := fun n' q1 q2 q3 => by
    refine ⟨h.cfg, by simp [h.len], by simp [h.alen], h.mail, fun m hm => by simpa using h.who m hm, h.hd, h.hl, h.hi, fun j z b hz hb => ?_⟩
    have hz : (w.n.set x.agent.toNat n')[j]? = some z := hz
    rw [List.getElem?_set] at hz
    by_cases e : x.agent.toNat = j
    ·rw [if_pos e] at hz
     split at hz
     ·obtain rfl := Option.some.inj hz
      obtain rfl : a = b := by rw [e, hb] at ha; exact (Option.some.inj ha).symm
      exact ⟨q1, q2, q3⟩
     ·cases hz
    ·rw [if_neg e] at hz
     exact h.nd j z b hz hb
   split at hy
   ·cases hy
   ·rename_i hu
    split at hy
    ·cases hy
    ·rcases hk with k | k
     ·have hup : n.up = true := by simpa [k] using hu
      rw [if_pos k, agtReplay_nil hrel] at hy
      dsimp only at hy
      obtain rfl := Except.ok.inj hy
      rw [if_pos k]
      exact ⟨key _ n1 n2 (by simp [hup]), rfl, rfl⟩
     ·have hup : n.up = false := by simpa [k] using hu
      rw [if_neg (by omega), n2] at hy
      dsimp only at hy
      obtain rfl := Except.ok.inj hy
      rw [if_neg (by omega), f3]
      exact ⟨key _ n1 n2 (by simp [hup]), rfl, rfl⟩
theorem Logs.hap {w y : Wld} {L : Ldr} {A : List Agt} {x : Hap} (h : Logs w L A) (hy : wHap w x = .ok y) : ∃ L' A', Logs y L' A'/\ Mv w.c L A w.m L' A' y.m/\ y.c = w.c := by
 unfold wHap at hy
 split at hy
 ·exact h.hear hy
 ·split at hy
  ·split at hy
   ·cases hy
   ·obtain rfl := Except.ok.inj hy
    exact ⟨L, A, h.less, .rest fun q hq => left_mem (show q ∈ left w.m x.num false from hq), rfl⟩
  ·split at hy
   ·split at hy
    ·cases hy
    ·rename_i hu
     obtain ⟨l1, l2, l3, l4, l5, _⟩ := h.lead (by simpa using hu) hy
     refine ⟨_, A, l2, ?_, l3⟩
     rw [l5]
     refine .led _ l1 ?_
     unfold hapRec
     split
     ·simp
     ·split
      ·simp
      ·split <;> simp
   ·split at hy
    ·cases hy
    ·split at hy
     ·cases hy
     ·rename_i k1 k2 k3 k4 hwho
      split at hy
      ·split at hy
       ·cases hy
       ·rename_i hu
        exact h.tell (by simpa using hu) hy
      ·split at hy
       ·rename_i hk
        obtain ⟨p1, p2, p3⟩ := h.power hk hy
        exact ⟨L, A, p1, by rw [p2]; exact .rest fun q hq => hq, p3⟩
       ·rename_i hk
        split at hy
        ·cases hy
        ·rename_i n hn
         split at hy
         ·cases hy
         ·rename_i hu
          have hu : n.up = true := by simpa using hu
          split at hy
          ·exact h.step (by omega) hn hu hy
          ·split at hy
           ·cases hy
           ·rename_i hg
            obtain rfl := Except.ok.inj hy
            obtain ⟨a, ha, n1, n2, n3⟩ := h.agent hn
            rw [if_pos hu] at n3
            have hrep : wReport w x.agent.toNat = wPost w (repMail x.agent.toNat a) := by unfold wReport; rw [hn]; dsimp only; rw [n3]
            have hkl := (List.getElem?_eq_some_iff.1 hn).1
            obtain ⟨p1, p2, p3, p4, p5⟩ := h.post (m := repMail x.agent.toNat a) (by simp only [repMail]; omega)
            rw [hrep]
            refine ⟨L, A, p1, .report x.agent.toNat a ha ?_ p2, p3⟩
            rw [← n3]
            cases hga : n.a.going with
            | false => rfl
            | true => exact absurd (.inl hga) hg
theorem fresh_logs {c : Conf} (h : cfgErr c = 0) : Logs (freshWld c) (newLdr c) (List.replicate (agentsOf c.waves).toNat (newAgt c.first)) := by
 obtain ⟨y1, y2, y3, y4, y5, y6, y7⟩ := cfgErr_zero h
 have ha := (agents_same y7).2
 have hr : dskRecs dsk0 = [] := DOk.nil.err.2.1
 have hd : DOk dsk0 (dskRecs dsk0) := by rw [hr]; exact DOk.nil
 refine ⟨h, ?_, by simp [freshWld], by simp [freshWld, mailsCheck, mailsFrom], by simp [freshWld], hd, by show ledReplay c (dskRecs dsk0) = _; rw [hr]; exact ledReplay_nil h, by simp [freshWld], fun k n a hn ha => ?_⟩
 ·show ((List.replicate (agentsOf c.waves).toNat (freshNod c.first)).length : Int) = agentsOf c.waves
  rw [List.length_replicate]; omega
 ·have hn := List.mem_of_getElem? hn
  have ha := List.mem_of_getElem? ha
  obtain rfl := List.eq_of_mem_replicate hn
  obtain rfl := List.eq_of_mem_replicate ha
  exact ⟨hd, by show agtReplay c.first (dskRecs dsk0) = _; rw [hr]; exact agtReplay_nil y1, by simp [freshNod]⟩
theorem fresh_inv {c : Conf} (h : cfgErr c = 0) : SInv c (newLdr c) (List.replicate (agentsOf c.waves).toNat (newAgt c.first)) [] := by
 obtain ⟨y1, y2, y3, y4, y5, y6, y7⟩ := cfgErr_zero h
 have hb0 : ∀ (k : Nat) (b : Kn), (newLdr c).ags[k]? = some b->b = ⟨0, 0, false⟩ := fun k b hb => List.eq_of_mem_replicate (List.mem_of_getElem? hb)
 have ht : tgt (newLdr c) true = c.first := by rw [tgt_true]; rfl
 refine ⟨new_ok h, by simp [newLdr], fun k a b ha hb => ⟨?_, by simp⟩, fun _ k o b b' hb hs => ?_, fun _ => ⟨0, fun k b hb hs => ?_, ?_⟩⟩
 ·obtain rfl := List.eq_of_mem_replicate (List.mem_of_getElem? ha)
  obtain rfl := hb0 k b hb
  refine ⟨newAgt_ok y1, Int.le_refl _, fun _ => ⟨rfl, ?_⟩, fun e => absurd rfl e, fun e => absurd rfl e, fun e => by simp at e, fun p hp => ⟨c.first, by simp [newLdr], hp⟩, ?_⟩
  ·rw [ht]; exact ⟨rfl, rfl, rfl⟩
  ·simp [newAgt, newLdr]; omega
 ·rw [hb0 k b hb] at hs; exact absurd rfl hs
 ·rw [hb0 k b hb] at hs; cases hs
 ·have : (List.range (newLdr c).ags.length).countP (illAt c (newLdr c) 0) = 0 := List.countP_eq_zero.2 fun k hk => by
   unfold illAt
   cases hb : (newLdr c).ags[k]? with
   | none => simp
   | some b => simp [hb0 k b hb]
  rw [this]; omega
end Go.Vg
