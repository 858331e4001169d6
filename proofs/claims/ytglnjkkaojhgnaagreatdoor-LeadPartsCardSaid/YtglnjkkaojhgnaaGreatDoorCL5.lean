/- What is proved here: the contract of lead.Next. -/
import Derived.Test.YtglnjkkaojhgnaaGreatDoorCL1
import Derived.Test.YtglnjkkaojhgnaaGreatDoorV8
set_option linter.unusedSimpArgs false
set_option maxRecDepth 100000
set_option linter.unusedVariables false
namespace Go.Vg
open Go Go.Proofs
section
variable {base : Nat} {G H H' : Heap} {l : Ldr} {la la' ka : Option Addr} {ll lc lc' kl kc : Nat} {rows : List (List Value)}
theorem OwnL.push (h : OwnL base G H l la ll lc ka kl kc rows) {r : Rls} {a : Option Addr} {n c nn : Nat} (hp : Pins G a n r.lock) (hg : Rg r.id) (hn : nn = ll + 1) (hG : Grew base H H' la lc la' lc' nn) (hR : Row base H' 27 2 la' nn lc' (rows.flatten ++ [i64 r.id, .slice a n c])) :
    LdrAt H' { l with rels := l.rels ++ [r] } la' nn ka kl := by
  have h1 := h.rels.grew (rows' := [[i64 r.id, .slice a n c]]) (ys := [r]) hG (by simpa using hR) (by simp) ⟨⟨a, n, c, rfl, hp, hg⟩, trivial⟩
  exact ⟨h1.sl RRl.mono (by omega), kns_row (h.ags.stay hG h.apart).1⟩
theorem OwnL.put (h : OwnL base G H l la ll lc ka kl kc rows) {k : Nat} {p q : Kn} (hp : l.ags[k]? = some p) {f o : Nat} {vs : List Value} (hf : f + vs.length ≤ 3) (hq : setRange (knCells p) f vs = knCells q) {b : Nat} {kb : KB} (hka : ka = some ⟨b, 0, none⟩) (hkc : kc ≠ 0) (hb : H b = some kb) (ho : o = k * 3 + f) (hu : Upd H b o kb vs H') :
    OwnL base G H' { l with ags := l.ags.set k q } la ll lc ka kl kc rows := by
  refine ⟨h.rels.other hu (fun w e => h.apart w hkc (by rw [e, hka])) (h.clear hkc b hka), ?_, h.apart, h.clear⟩
  have hl := (kns_row h.ags).len
  have hkl := (List.getElem?_eq_some_iff.1 hp).1
  have h1 := h.ags.upd hka hkc hb (o := o) (vs := vs) (by rw [h.ags.1, ho]; omega) hu
  rw [ho, flat_field knCells_len hf hq hp] at h1
  exact h1
theorem OwnL.ag (h : OwnL base G H l la ll lc ka kl kc rows) {k : Nat} {p : Kn} (hp : l.ags[k]? = some p) :
    ∃ (b : Nat) (kb : KB), ka = some ⟨b, 0, none⟩ ∧ base ≤ b ∧ kc ≠ 0 ∧ H b = some kb ∧ kb.free = true ∧ kb.size = kc * 3 ∧ k < kl ∧ kl ≤ kc ∧ ∀ (j : Nat) (v : Value), (knCells p)[j]? = some v → H.cell b (0 + k * 3 + j) = some v := by
  have hl := (kns_row h.ags).len
  have hkl := (List.getElem?_eq_some_iff.1 hp).1
  obtain ⟨b, kb, h1, h2, h3, h4, h5, h6, _⟩ := h.ags.block (by omega)
  have hR := h.ags
  rw [List.flatMap_def] at hR
  obtain ⟨b', hb', hc⟩ := hR.at (i := k) (r := knCells p) (fun r hr => by obtain ⟨x, _, rfl⟩ := List.mem_map.1 hr; rfl) (by simp; omega) (by rw [List.getElem?_map, hp]; rfl)
  obtain rfl : b = b' := by rw [h1] at hb'; simpa using hb'
  exact ⟨b, kb, h1, h2, h3, h4, h5, h6, by omega, hR.2.1, hc⟩
/-- The same block, other words. -/
theorem OwnL.as {x y : Ldr} (h : OwnL base G H x la ll lc ka kl kc rows) (hr : x.rels = y.rels) (ha : x.ags = y.ags) : OwnL base G H y la ll lc ka kl kc rows := ⟨hr ▸ h.rels, ha ▸ h.ags, h.apart, h.clear⟩
theorem LdrAt.as {x y : Ldr} (h : LdrAt H x la ll ka kl) (hr : x.rels = y.rels) (ha : x.ags = y.ags) : LdrAt H y la ll ka kl := ⟨hr ▸ h.rels, ha ▸ h.ags⟩
end
theorem rec_zero {r : Recd} (h : recErr r = 0) : (1 ≤ r.kind ∧ r.kind ≤ 9) ∧ ¬ recForm r ∧ ¬ recRange r ∧ (r.kind = 1 ∨ r.kind = 4 → relErr r.rel = 0) := by
  unfold recErr at h
  split at h
  · omega
  · split at h
    · omega
    · split at h
      · omega
      · rename_i h1 h2 h3
        refine ⟨by omega, h2, h3, fun hk => ?_⟩
        rw [if_pos hk] at h; exact h
def clr (a : Kn) : Kn := ⟨0, a.try_, false⟩
theorem clr_at {xs : List Kn} {i : Nat} {m : Kn} (hm : xs[i]? = some m) : ((xs.take i).map clr ++ xs.drop i).set i (clr m) = (xs.take (i + 1)).map clr ++ xs.drop (i + 1) := by
  have hi := (List.getElem?_eq_some_iff.1 hm).1
  rw [drop_at hm, take_at hm, List.set_append_right _ _ (by simp; omega)]
  simp [Nat.min_eq_left (Nat.le_of_lt hi)]
theorem clr_get {xs : List Kn} {i : Nat} {m : Kn} (hm : xs[i]? = some m) : ((xs.take i).map clr ++ xs.drop i)[i]? = some m := by
  have hi := (List.getElem?_eq_some_iff.1 hm).1
  rw [List.getElem?_append_right (by simp; omega)]
  simp [Nat.min_eq_left (Nat.le_of_lt hi), hm]
section
variable {H : Heap} {c : Conf} {fa ra wa qa : Option Addr} {fl fc rl rc wl wc ql qc : Nat} {l : Ldr} {la ka : Option Addr} {ll lc kl kc : Nat} {r : Recd}
theorem cNextL2 (hc : CfgAt H c fa fl ra rl wa wl) (h : LdrAt H l la ll ka kl) (hr : Pins H qa ql r.rel.lock) :
    Spec Tryz.prog 29 [cfgArg c fa fl fc ra rl rc wa wl wc, ldrArg l la ll lc ka kl kc, recArg r qa ql qc] H fun v H' => ∃ la ll lc ka kl kc, v = .tuple #[ldrArg (ledV c l r) la ll lc ka kl kc, i64 (ledErr c l r)] ∧ LdrAt H' (ledV c l r) la ll ka kl ∧ ll ≤ lc := by
  refine TryzvcJ Tryz.func29 (by kernel_rfl) (by kernel_rfl) _ rfl (fun base K => vc79 c.first.id c.bud fa ra wa fl fc rl rc wl wc la ka ll lc kl kc l.now l.goal l.nx l.back r.kind r.agent r.try_ r.num r.rel.id r.good qa ql qc base H K) fun base hb => ?_
  have bad : ∀ {e : Int} {H' : Heap}, ledErr c l r = e → e ≠ 0 → ∃ la ll lc ka kl kc, Value.tuple #[.agg #[.slice none 0 0, .int .i64 0, .int .i64 0, .bool false, .slice none 0 0, .int .i64 0], .int .i64 e] = .tuple #[ldrArg (ledV c l r) la ll lc ka kl kc, i64 (ledErr c l r)] ∧ LdrAt H' (ledV c l r) la ll ka kl ∧ ll ≤ lc := fun he h0 => by
    have : ledV c l r = noLdr := by rw [ledV, if_neg (by omega)]
    rw [this, he]; exact ⟨none, 0, 0, none, 0, 0, rfl, ⟨Sl.nil, Sl.nil⟩, by omega⟩
  have good : ∀ {X : Ldr} {H' : Heap} {la ll lc ka kl kc}, ledErr c l r = 0 → ledNext l r = X → LdrAt H' X la ll ka kl → ll ≤ lc → ∃ la' ll' lc' ka' kl' kc', Value.tuple #[ldrArg X la ll lc ka kl kc, .int .i64 0] = .tuple #[ldrArg (ledV c l r) la' ll' lc' ka' kl' kc', i64 (ledErr c l r)] ∧ LdrAt H' (ledV c l r) la' ll' ka' kl' ∧ ll' ≤ lc' := fun he hX hA hle => by
    have : ledV c l r = ledNext l r := by rw [ledV, if_pos he]
    rw [this, he, hX]; exact ⟨_, _, _, _, _, _, rfl, hA, hle⟩
  intro b b1 b2 b3
  refine (cLdrCheck hc h).int1 fun H1 e1 _ => ⟨fun q => bad (by rw [ledErr, if_pos q]) q, fun q => ?_⟩
  have q0 : ldrErr c l = 0 := Decidable.not_not.1 q
  obtain ⟨g1, g2, g3, g4, g5, g6, g7⟩ := ldrErr_zero.1 q0
  unfold ldrRange at g5
  have h6 := ags_six q0
  have hlk := rel_lock g4
  have hkl := h.ags.len
  have hll := h.rels.len
  refine (cRecCheck (hr.ext' e1)).int1 fun H2 e2 _ => ?_
  have E2 := e1.trans e2
  refine (cCopyL (h.ext E2) (by omega) (by omega) (fun m hm => by have := (hlk m hm).2; omega)).mono fun v H3 e3 hv => ?_
  obtain ⟨la', ll', lc', ka', kl', kc', G, rows, rfl, hNew⟩ := hv
  refine ⟨la', ll', lc', _, _, _, ka', kl', kc', _, rfl, fun hN3 => ?_⟩
  have E3 := E2.trans e3
  have hO := hNew.own hN3
  have hll' := hO.at_.rels.len
  have hkl' := hO.at_.ags.len
  refine ⟨fun q2 => ⟨fun _ => bad (by rw [ledErr, if_neg q, if_pos q2]) q2, fun w => absurd q2 w⟩, fun q2 => ?_⟩
  have q20 : recErr r = 0 := Decidable.not_not.1 q2
  have E : ∀ {P : Int}, ledKind c l r = P → ledErr c l r = P := fun he => by rw [ledErr, if_neg q, if_neg q2, he]
  obtain ⟨z1, z2, z3, z4⟩ := rec_zero q20
  have hra : 0 ≤ r.agent := by unfold recRange at z3; omega
  refine ⟨fun k4 => ?_, fun k4 => ⟨fun k5 => ?_, fun k5 => ?_⟩⟩
  · -- publish
    have hr0 : relErr r.rel = 0 := z4 (.inr k4)
    intro b4 b5
    refine ⟨fun w => ⟨fun _ => bad (E (by rw [ledKind, if_pos k4, if_pos (by omega)])) (by decide), fun w => absurd (by decide) w⟩, fun w => ?_⟩
    rintro _ rfl
    rw [wrap_in (by omega) (by omega)]
    refine ⟨fun w2 => ⟨fun _ => bad (E (by rw [ledKind, if_pos k4, if_neg (by omega), if_pos (by omega)])) (by decide), fun w => absurd (by decide) w⟩, fun w2 => ?_⟩
    refine (cBroken (hr.ext' E3) (hc.ext E3).rules).int2 fun H4 e4 _ => ⟨fun w3 => ⟨fun _ => bad (E (by rw [ledKind, if_pos k4, if_neg (by omega), if_neg (by omega), if_pos w3])) w3, fun w => absurd w3 w⟩, fun w3 => ⟨fun w4 => ⟨fun _ => bad (E (by rw [ledKind, if_pos k4, if_neg (by omega), if_neg (by omega), if_neg w3, if_pos w4])) (by decide), fun w => absurd (by decide) w⟩, fun w4 => ?_⟩⟩
    have hE0 : ledErr c l r = 0 := E (by rw [ledKind, if_pos k4, if_neg (by omega), if_neg (by omega), if_neg w3, if_neg w4])
    have hrl := hr.len
    have hr12 := (relErr_zero hr0).2.2
    refine (cCloneJ (hr.ext' (E3.trans e4)) (by omega)).mono fun v H5 e5 hv => ?_
    obtain ⟨a5, n5, c5, rfl, hF⟩ := hv
    refine ⟨a5, n5, c5, rfl, fun hN5 g H6 hN6 _ hg => ?_⟩
    have hO6 := ((hO.rels.ext e4).grow RRl.mono e5).ext hN6.ext
    have hP : Pins (G.plus (newOf H4 H5)) a5 n5 r.rel.lock := Sl.ext REnc.mono (hF.sl_new pinCells_len (by omega)) (new_in_grow (hO.rels.sub.trans e4))
    have hOL : OwnL base (G.plus (newOf H4 H5)) H6 l la' ll' lc' ka' kl' kc' rows := ⟨hO6, ((hO.ags.ext e4).ext e5).ext hN6.ext, hO.apart, fun w g hg => by
      obtain ⟨kb, hkb⟩ : ∃ kb, H4 g = some kb := by
        rcases (hO.ags.ext e4).2.2.2 with ⟨_, h0⟩ | ⟨g', k', u1, _, u3, _⟩
        · exact absurd h0 w
        · rw [hg] at u1; simp at u1; subst u1; exact ⟨k', u3⟩
      unfold Heap.plus newOf
      rw [hO.clear w g hg, hkb]⟩
    refine ⟨rows.flatten, [i64 r.rel.id, .slice a5 n5 c5], hO6.row, rfl, rfl, .inr ⟨g, 0, rfl, box_cellsAt hg⟩, by omega, by omega, fun a7 c7 H7 hG hR7 => ⟨fun w => absurd rfl w, fun _ => ?_⟩⟩
    exact good (X := { l with rels := l.rels ++ [r.rel] }) hE0 (by rw [ledNext, if_pos k4]) (hOL.push hP (rg_id hr0) rfl hG hR7) hR7.2.1
  · -- start
    refine ⟨fun w => ⟨fun _ => bad (E (by rw [ledKind, if_neg k4, if_pos k5, if_pos w])) (by decide), fun w => absurd (by decide) w⟩, fun w => ⟨fun w2 => ⟨fun _ => bad (E (by rw [ledKind, if_neg k4, if_pos k5, if_neg w, if_pos (by omega)])) (by decide), fun w => absurd (by decide) w⟩, fun w2 => ⟨fun w3 => ⟨fun _ => bad (E (by rw [ledKind, if_neg k4, if_pos k5, if_neg w, if_neg (by omega), if_pos w3])) (by decide), fun w => absurd (by decide) w⟩, fun w3 => ⟨fun w => absurd rfl w, fun _ => ?_⟩⟩⟩⟩
    exact good (X := { l with goal := r.num }) (E (by rw [ledKind, if_neg k4, if_pos k5, if_neg w, if_neg (by omega), if_neg w3])) (by rw [ledNext, if_neg k4, if_pos k5]) (hO.at_.as rfl rfl) hO.rels.row.2.1
  refine ⟨r.kind = 6 ∨ r.kind = 7, ⟨fun w => ⟨rfl, fun _ _ h => h, .inl w⟩, fun w => ⟨rfl, fun _ _ h => h, by omega⟩⟩, fun k67 => ?_, fun k67 => ⟨fun k8 => ?_, fun k8 => ⟨fun k9 => ?_, fun k9 => ?_⟩⟩⟩
  · -- tell
    intro b4 b5
    refine ⟨fun w => ⟨fun _ => bad (E (by rw [ledKind, if_neg k4, if_neg k5, if_pos k67, if_pos (by omega)])) (by decide), fun w => absurd (by decide) w⟩, fun w => ?_⟩
    obtain ⟨p, hp⟩ : ∃ p, l.ags[r.agent.toNat]? = some p := ⟨_, List.getElem?_eq_getElem (by omega)⟩
    obtain ⟨b6, kb, t1, t2, t3, t4, t5, t6, t7, t8, t9⟩ := hO.ag hp
    refine ⟨b6, 0, t1, hra, by omega, fun k7 => ?_, fun k7 => ?_⟩
    · -- heard of
      refine ⟨p.st, t9 0 _ rfl, fun w2 => ⟨fun _ => bad (E (by rw [ledKind, if_neg k4, if_neg k5, if_pos k67, if_neg (by omega), if_pos k7, hp]; exact if_pos (.inl w2))) (by decide), fun w => absurd (by decide) w⟩, fun w2 => ⟨p.try_, t9 1 _ rfl, fun w3 => ⟨fun _ => bad (E (by rw [ledKind, if_neg k4, if_neg k5, if_pos k67, if_neg (by omega), if_pos k7, hp]; exact if_pos (.inr w3))) (by decide), fun w => absurd (by decide) w⟩, fun w3 => ?_⟩⟩
      have hE0 : ledErr c l r = 0 := E (by rw [ledKind, if_neg k4, if_neg k5, if_pos k67, if_neg (by omega), if_pos k7, hp]; exact if_neg (by rintro (x | x); exact w2 x; exact w3 x))
      have hNX : ledNext l r = { l with ags := l.ags.set r.agent.toNat (got r p) } := by rw [ledNext, if_neg k4, if_neg k5, if_neg (by omega), if_pos k7, hp]
      refine ⟨kb, t4, t5, t2, by omega, fun H4 hu => ?_⟩
      have hO4 := hO.put (q := ⟨3, p.try_, p.back⟩) hp (f := 0) (by simp) rfl t1 t3 t4 (by omega) hu
      refine ⟨fun hgd => ?_, fun hgd => ⟨fun w => absurd rfl w, fun _ => good (X := { l with ags := l.ags.set r.agent.toNat (got r p) }) hE0 hNX (hO4.at_.as rfl (by simp [got, hgd])) hO4.rels.row.2.1⟩⟩
      refine ⟨_, hu.here, t5, t2, by show _ ≤ kb.size; omega, fun H5 hu2 => ?_⟩
      have hp5 : (l.ags.set r.agent.toNat ⟨3, p.try_, p.back⟩)[r.agent.toNat]? = some ⟨3, p.try_, p.back⟩ := by rw [List.getElem?_set_self (by omega)]
      have hO5 := hO4.put (q := ⟨2, p.try_, p.back⟩) hp5 (f := 0) (by simp) rfl t1 t3 hu.here (by omega) hu2
      exact ⟨fun w => absurd rfl w, fun _ => good (X := { l with ags := l.ags.set r.agent.toNat (got r p) }) hE0 hNX (hO5.at_.as rfl (by simp [got, hgd])) hO5.rels.row.2.1⟩
    · -- told
      have k6 : r.kind = 6 := by omega
      have lateE : (l.goal = 0 ∨ r.try_ ≠ l.nx ∨ turnOf c l r.agent = false) → ledErr c l r = 7 := fun w => E (by rw [ledKind, if_neg k4, if_neg k5, if_pos k67, if_neg (by omega), if_neg k7, if_pos w])
      refine ⟨fun w2 => ⟨fun _ => bad (lateE (.inl w2)) (by decide), fun w => absurd (by decide) w⟩, fun w2 => ⟨fun w3 => ⟨fun _ => bad (lateE (.inr (.inl w3))) (by decide), fun w => absurd (by decide) w⟩, fun w3 => ?_⟩⟩
      have w3' : r.try_ = l.nx := Decidable.not_not.1 w3
      refine (cTurn (hc.ext E3) hO.at_ h6.1 hra (by omega)).bool1 fun H4 e4 _ => ⟨fun w4 => ⟨fun _ => bad (lateE (.inr (.inr w4))) (by decide), fun w => absurd (by decide) w⟩, fun w4 => ?_⟩
      refine ⟨kb, e4 _ _ t4, t5, t2, by omega, fun H5 hu => ?_⟩
      rintro _ rfl
      rw [wrap_in (by omega) (by omega)]
      have hO5 := (hO.ext e4).put (q := ⟨1, r.try_, l.back⟩) hp (f := 0) (by simp) rfl t1 t3 (e4 _ _ t4) (by omega) hu
      refine ⟨fun w => absurd rfl w, fun _ => good (X := { l with ags := l.ags.set r.agent.toNat ⟨1, r.try_, l.back⟩, nx := l.nx + 1 }) (E (by rw [ledKind, if_neg k4, if_neg k5, if_pos k67, if_neg (by omega), if_neg k7, if_neg (by rintro (x | x | x); exact w2 x; exact w3 x; exact w4 x)])) (by rw [ledNext, if_neg k4, if_neg k5, if_pos k6]) (hO5.at_.as rfl rfl) hO5.rels.row.2.1⟩
  · -- back
    refine ⟨l.goal = 0 ∨ l.back = true, ⟨fun w => ⟨rfl, fun _ _ h => h, .inl w⟩, fun w => ⟨rfl, fun _ _ h => h, ⟨fun x => x.resolve_left w, .inr⟩⟩⟩, fun w => ⟨fun _ => bad (E (by rw [ledKind, if_neg k4, if_neg k5, if_neg k67, if_pos k8, if_pos w])) (by decide), fun w => absurd (by decide) w⟩, fun w => ?_⟩
    rw [q20]
    exact ⟨fun w => absurd rfl w, fun _ => good (X := { l with back := true }) (E (by rw [ledKind, if_neg k4, if_neg k5, if_neg k67, if_pos k8, if_neg w])) (by rw [ledNext, if_neg k4, if_neg k5, if_neg (by omega), if_neg (by omega), if_pos k8]) (hO.at_.as rfl rfl) hO.rels.row.2.1⟩
  · -- end
    intro b4
    refine ⟨fun w => ⟨fun _ => bad (E (by rw [ledKind, if_neg k4, if_neg k5, if_neg k67, if_neg k8, if_pos k9, if_pos (.inl w)])) (by decide), fun w => absurd (by decide) w⟩, fun w => ?_⟩
    refine (cOver (hc.ext E3) hO.at_ h6.1).bool1 fun H4 e4 _ => ⟨fun w2 => ⟨fun _ => bad (E (by rw [ledKind, if_neg k4, if_neg k5, if_neg k67, if_neg k8, if_pos k9, if_pos (.inr w2)])) (by decide), fun w => absurd (by decide) w⟩, fun w2 => ?_⟩
    have hE0 : ledErr c l r = 0 := E (by rw [ledKind, if_neg k4, if_neg k5, if_neg k67, if_neg k8, if_pos k9, if_neg (by rintro (x | x); exact w x; exact w2 x)])
    have hNX : ledNext l r = { l with now := (if l.back = false then l.goal else l.now), goal := 0, back := false, ags := l.ags.map fun a => ⟨0, a.try_, false⟩ } := by rw [ledNext, if_neg k4, if_neg k5, if_neg (by omega), if_neg (by omega), if_neg k8]
    refine ⟨fun w3 => ?_, fun w3 => ?_⟩
    all_goals
      refine ⟨fun vs Hc => ∃ i : Nat, vs = [i64 i] ∧ i ≤ kl' ∧ OwnL base G Hc { l with ags := (l.ags.take i).map clr ++ l.ags.drop i } la' ll' lc' ka' kl' kc' rows, upTo kl' 0, ⟨0, rfl, by omega, (hO.ext e4).as rfl rfl⟩, fun m H5 hN5 hI => ?_⟩
      obtain ⟨i, hvs, hi, hOi⟩ := hI
      obtain rfl : m = (i : Int) := by simpa using hvs
      refine ⟨fun hlt => ?_, fun hge => ?_⟩
      · obtain ⟨p, hp⟩ : ∃ p, l.ags[i]? = some p := ⟨_, List.getElem?_eq_getElem (by omega)⟩
        obtain ⟨b6, kb, t1, t2, t3, t4, t5, t6, t7, t8, t9⟩ := hOi.ag (clr_get hp)
        refine ⟨b6, 0, t1, by omega, hlt, p.st, p.try_, p.back, ⟨t9 0 _ rfl, t9 1 _ rfl, t9 2 _ rfl, trivial⟩, fun b7 => ⟨b6, 0, t1, by omega, hlt, kb, t4, t5, t2, by rw [Int.toNat_natCast]; omega, fun H6 hu => ?_⟩⟩
        rw [Int.toNat_natCast] at hu
        rintro _ rfl
        rw [wrap_in (by omega) (by omega)]
        have hO6 := hOi.put (q := clr p) (clr_get hp) (f := 0) (by simp) rfl t1 t3 t4 (by omega) hu
        exact ⟨rfl, ⟨i + 1, rfl, by omega, hO6.as rfl (clr_at hp)⟩, by simp [upTo]; omega⟩
      · refine ⟨fun w => absurd rfl w, fun _ => ?_⟩
        rw [List.take_of_length_le (by omega), List.drop_eq_nil_of_le (by omega), List.append_nil] at hOi
        first
        | exact good (X := { l with now := l.goal, goal := 0, back := false, ags := l.ags.map clr }) hE0 (by rw [hNX, if_pos w3]; rfl) (hOi.at_.as rfl rfl) hOi.rels.row.2.1
        | exact good (X := { l with now := l.now, goal := 0, back := false, ags := l.ags.map clr }) hE0 (by rw [hNX, if_neg w3]; rfl) (hOi.at_.as rfl rfl) hOi.rels.row.2.1
  · exact ⟨fun _ => bad (E (by rw [ledKind, if_neg k4, if_neg k5, if_neg k67, if_neg k8, if_neg k9])) (by decide), fun w => absurd (by decide) w⟩
theorem cNextL (hc : CfgAt H c fa fl ra rl wa wl) (h : LdrAt H l la ll ka kl) (hr : Pins H qa ql r.rel.lock) :
    Spec Tryz.prog 29 [cfgArg c fa fl fc ra rl rc wa wl wc, ldrArg l la ll lc ka kl kc, recArg r qa ql qc] H fun v H' => ∃ la ll lc ka kl kc, v = .tuple #[ldrArg (ledV c l r) la ll lc ka kl kc, i64 (ledErr c l r)] ∧ LdrAt H' (ledV c l r) la ll ka kl :=
  (cNextL2 hc h hr).mono fun v H' _ ⟨la, ll, lc, ka, kl, kc, h1, h2, _⟩ => ⟨la, ll, lc, ka, kl, kc, h1, h2⟩
/-- A call that yields a leader, of some room, and an error. -/
theorem Spec.ldr2 {P : Program} {f : FuncId} {args : List Value} {H : Heap} {x : Ldr} {e : Int} (h : Spec P f args H fun v H' => ∃ la ll lc ka kl kc, v = .tuple #[ldrArg x la ll lc ka kl kc, i64 e] ∧ LdrAt H' x la ll ka kl ∧ ll ≤ lc) {base : Nat}
    {G : Option Addr → Nat → Nat → Int → Int → Bool → Option Addr → Nat → Nat → Int → Int → Heap → Prop} (hG : ∀ la ll lc ka kl kc H', Ext H H' → Next base H H' → LdrAt H' x la ll ka kl → ll ≤ lc → G la ll lc x.now x.goal x.back ka kl kc x.nx e H') :
    Spec P f args H fun v H' => ∃ (la : Option Addr) (ll lc : Nat) (n2 n3 : Int) (b : Bool) (ka : Option Addr) (kl kc : Nat) (n6 n7 : Int), v = .tuple #[.agg #[.slice la ll lc, .int .i64 n2, .int .i64 n3, .bool b, .slice ka kl kc, .int .i64 n6], .int .i64 n7] ∧ (Next base H H' → G la ll lc n2 n3 b ka kl kc n6 n7 H') :=
  h.mono fun v H' ex hv => by
    obtain ⟨la, ll, lc, ka, kl, kc, h1, h2, h3⟩ := hv
    exact ⟨la, ll, lc, _, _, _, ka, kl, kc, _, e, h1, fun hN => hG la ll lc ka kl kc H' ex hN h2 h3⟩
end
end Go.Vg
set_option linter.unusedSimpArgs false
set_option maxRecDepth 100000
set_option linter.unusedVariables false
namespace Go.Vg
open Go Go.Proofs
abbrev QL (c : Conf) (l : Ldr) (r : Recd) (v : Value) (H' : Heap) : Prop := ∃ la ll lc ka kl kc, v = .tuple #[ldrArg (ledV c l r) la ll lc ka kl kc, i64 (ledErr c l r)] ∧ LdrAt H' (ledV c l r) la ll ka kl
section
variable {H : Heap} {c : Conf} {fa ra wa qa : Option Addr} {fl fc rl rc wl wc ql qc : Nat} {l : Ldr} {la ka : Option Addr} {ll lc kl kc : Nat} {r : Recd}
theorem goodQ {X : Ldr} {H' : Heap} {la ka : Option Addr} {ll lc kl kc : Nat} (he : ledErr c l r = 0) (hX : ledNext l r = X) (hA : LdrAt H' X la ll ka kl) : QL c l r (.tuple #[ldrArg X la ll lc ka kl kc, .int .i64 0]) H' := by
  have : ledV c l r = ledNext l r := by rw [ledV, if_pos he]
  unfold QL
  rw [this, he, hX]; exact ⟨_, _, _, _, _, _, rfl, hA⟩
end
end Go.Vg
set_option linter.unusedSimpArgs false
set_option maxRecDepth 100000
set_option linter.unusedVariables false
namespace Go.Vg
open Go Go.Proofs
section
variable {H : Heap} {c : Conf} {fa ra wa : Option Addr} {fl fc rl rc wl wc : Nat}
theorem cReplayL {a : Option Addr} {n k : Nat} {rs : List Recd} (hc : CfgAt H c fa fl ra rl wa wl) (hr : Recs H a n rs) :
    Spec Tryz.prog 27 [cfgArg c fa fl fc ra rl rc wa wl wc, .slice a n k] H fun v H' => ∃ la ll lc ka kl kc, v = .tuple #[ldrArg (okLd (ledReplay c rs)) la ll lc ka kl kc, i64 (errOf (ledReplay c rs))] ∧ LdrAt H' (okLd (ledReplay c rs)) la ll ka kl := by
  refine TryzvcJ Tryz.func27 (by kernel_rfl) (by kernel_rfl) _ rfl (fun base K => vc89 c.first.id c.bud fa ra wa fl fc rl rc wl wc a n k base H K) fun base hb => ?_
  have hrl := hr.len
  have bad : ∀ {e : Int} {H' : Heap}, ledReplay c rs = .error e → ∃ la ll lc ka kl kc, Value.tuple #[.agg #[.slice none 0 0, .int .i64 0, .int .i64 0, .bool false, .slice none 0 0, .int .i64 0], .int .i64 e] = .tuple #[ldrArg (okLd (ledReplay c rs)) la ll lc ka kl kc, i64 (errOf (ledReplay c rs))] ∧ LdrAt H' (okLd (ledReplay c rs)) la ll ka kl := fun he => by
    rw [he]; exact ⟨none, 0, 0, none, 0, 0, rfl, Sl.nil, Sl.nil⟩
  intro b b'
  refine (cNewL hc).ldr fun la1 ll1 lc1 ka1 kl1 kc1 H1 e1 _ hA1 => fun b2 => ⟨fun h => bad (by rw [ledReplay, if_pos h]), fun h => ⟨fun h200 => bad (by rw [ledReplay, if_neg h, if_pos (by omega)]), fun h200 => ?_⟩⟩
  rw [if_pos (Decidable.not_not.1 h)] at hA1 ⊢
  have hW : ledReplay c rs = ledFrom c (newLdr c) rs := by rw [ledReplay, if_neg h, if_neg (by omega)]
  rw [hW] at bad ⊢
  refine ⟨fun vs Hc => ∃ (y : Ldr) (la : Option Addr) (ll lc : Nat) (ka : Option Addr) (kl kc : Nat) (d e : Int) (w : Value) (i : Nat), vs = [i64 d, i64 e, i64 i, w, ldrArg y la ll lc ka kl kc] ∧ LdrAt Hc y la ll ka kl ∧ i ≤ n ∧ ledFrom c y (rs.drop i) = ledFrom c (newLdr c) rs, upTo n 2,
    ⟨newLdr c, la1, ll1, lc1, ka1, kl1, kc1, 0, _, _, 0, rfl, hA1, by omega, rfl⟩, fun d e m a6 n8 c3 n9 n10 b0 a7 n11 c4 n12 a8 n13 c5 n14 n15 b4 a9 n16 c6 n17 H' hN hI => ?_⟩
  obtain ⟨y, ya, yn, yc, yka, ykn, ykc, d', e', w, i, hvs, hA, hi, hI⟩ := hI
  obtain ⟨rfl, rfl, rfl, rfl, ⟨rfl, rfl, rfl⟩, rfl, rfl, rfl, ⟨rfl, rfl, rfl⟩, rfl⟩ : d = d' ∧ e = e' ∧ m = (i : Int) ∧ Value.agg #[.slice a6 n8 c3, .int .i64 n9, .int .i64 n10, .bool b0, .slice a7 n11 c4, .int .i64 n12] = w ∧ (a8 = ya ∧ n13 = yn ∧ c5 = yc) ∧ n14 = y.now ∧ n15 = y.goal ∧ b4 = y.back ∧ (a9 = yka ∧ n16 = ykn ∧ c6 = ykc) ∧ n17 = y.nx := by simpa using hvs
  refine ⟨fun hlt => hr.recd hN.ext (by omega) hlt fun r ra rn rc hm hq => fun b8 => ?_, fun hge => ?_⟩
  · rw [Int.toNat_natCast] at hm
    rw [drop_at hm, ledFrom] at hI
    refine (cNextL (hc.ext hN.ext) hA (hq.ext' hN.ext)).ldr fun la2 ll2 lc2 ka2 kl2 kc2 H2 e2 _ hA2 => ⟨fun h => ?_, fun h => ?_⟩
    · rw [if_neg h] at hI
      exact bad hI.symm
    · have h0 : ledErr c y r = 0 := Decidable.not_not.1 h
      rw [if_pos h0] at hI
      have hV : ledV c y r = ledNext y r := by rw [ledV, if_pos h0]
      rw [hV] at hA2 ⊢
      rintro q rfl
      rw [wrap_in (by omega) (by omega)]
      exact ⟨rfl, ⟨ledNext y r, la2, ll2, lc2, ka2, kl2, kc2, _, _, _, i + 1, rfl, hA2, by omega, hI⟩, by simp [upTo]; omega⟩
  · rw [drop_all hrl (by omega), ledFrom] at hI
    rw [← hI]
    exact ⟨_, _, _, _, _, _, rfl, hA⟩
end
/-! ### A closed fact -/
theorem sl_of_rows {α : Type} {R : Rep α} {sz : Nat} {H : Heap} {g : Nat} {ty : TypeId} {rs : List (List Value)} {xs : List α} {n : Nat} (h : H g = some (boxKB ty rs.flatten)) (hw : ∀ r ∈ rs, r.length = sz) (ha : AllR R H rs xs) (hn : rs.length = n) (hle : (n : Int) ≤ 9223372036854775807) : Sl R sz H (some ⟨g, 0, none⟩) n xs :=
  Sl.of_has (rows := rs) (Has.of_box h rfl hw hn hle) ha.len fun i r x hr hx => ha.get hr hx
def cS : Conf := ⟨⟨1, [⟨1, 1⟩]⟩, [⟨1, 2, 2, 1⟩], [[1], [0, 2]], 0⟩
def s2 : Rls := ⟨2, [⟨1, 2⟩, ⟨2, 1⟩]⟩
def s3 : Rls := ⟨3, [⟨1, 2⟩]⟩
def q1 : Recd := ⟨4, 0, 0, 0, false, s2⟩
def q2 : Recd := ⟨5, 0, 0, 2, false, ⟨0, []⟩⟩
def q3 : Recd := ⟨6, 1, 1, 0, false, ⟨0, []⟩⟩
def q4 : Recd := ⟨7, 1, 1, 0, false, ⟨0, []⟩⟩
def lX : Ldr := ⟨[⟨1, [⟨1, 1⟩]⟩, s2], 1, 2, false, [⟨0, 0, false⟩, ⟨3, 1, false⟩, ⟨0, 0, false⟩], 2⟩
def lB : Ldr := ⟨[⟨1, [⟨1, 1⟩]⟩, s2], 1, 2, true, [⟨0, 0, false⟩, ⟨3, 1, false⟩, ⟨0, 0, false⟩], 2⟩
def u1 : Recd := ⟨6, 0, 2, 0, false, ⟨0, []⟩⟩
def u2 : Recd := ⟨8, 0, 0, 0, false, ⟨0, []⟩⟩
def u3 : Recd := ⟨4, 0, 0, 0, false, s3⟩
theorem led1 : ledReplay cS [q1, q2, q3, q4] = .ok lX := by kernel_rfl
theorem led2 : turnErr cS lX 0 = 0 ∧ turnT cS lX 0 = false ∧ turnRel cS lX 0 = s2 := by decide +kernel
theorem led3 : ledErr cS lX u1 = 7 ∧ ledErr cS lX u3 = 8 := by decide +kernel
theorem led4 : ledErr cS lX u2 = 0 ∧ ledV cS lX u2 = lB := by decide +kernel
theorem led5 : turnErr cS lB 1 = 0 ∧ turnT cS lB 1 = true ∧ turnRel cS lB 1 = ⟨1, [⟨1, 1⟩]⟩ := by decide +kernel
theorem led6 : overErr cS lB = 0 ∧ overT cS lB = false := by decide +kernel
theorem cSmall {H : Heap} : Spec Tryz.prog 49 [] H fun v H' => ∃ a n c a1 n1 c1 a2 n2 c2, v = cfgArg cS a n c a1 n1 c1 a2 n2 c2 ∧ CfgAt H' cS a n a1 n1 a2 n2 := by
  refine TryzvcJ Tryz.func49 (by kernel_rfl) (by kernel_rfl) _ rfl (fun base K => vc128 base H K) fun base hb => ?_
  intro b g H1 hN1 _ hg g1 H2 hN2 _ hg1 g2 H3 hN3 _ hg2 g3 H4 hN4 _ hg3 g4 H5 hN5 _ hg4
  have e5 := hN5.ext
  have e45 := Ext.trans hN4.ext hN5.ext
  have e35 := Ext.trans hN3.ext e45
  have e25 := Ext.trans hN2.ext e35
  refine ⟨_, _, _, _, _, _, _, _, _, rfl, ?_, ?_, ?_⟩
  · exact sl_of_boxE pinCells_len (xs := [⟨1, 1⟩]) (e25 _ _ hg) rfl (by decide)
  · exact sl_of_boxE ruleCells_len (xs := [⟨1, 2, 2, 1⟩]) (e35 _ _ hg1) rfl (by decide)
  · refine sl_of_rows (rs := [[.slice (some ⟨g2, 0, none⟩) 1 1], [.slice (some ⟨g3, 0, none⟩) 2 2]]) hg4 (by simp) ⟨⟨_, _, _, rfl, ?_⟩, ⟨_, _, _, rfl, ?_⟩, trivial⟩ rfl (by decide)
    · exact ints_of_box (xs := [1]) (e45 _ _ hg2) rfl (by decide)
    · exact ints_of_box (xs := [0, 2]) (e5 _ _ hg3) rfl (by decide)
theorem Spec.turn {P : Program} {f : FuncId} {args : List Value} {H : Heap} {t : Bool} {x : Rls} {e : Int} (h : Spec P f args H fun v H' => ∃ a n c', v = .tuple #[.bool t, .agg #[.int .i64 x.id, .slice a n c'], i64 e] ∧ Pins H' a n x.lock) {base : Nat}
    {G : Bool → Int → Option Addr → Nat → Nat → Int → Heap → Prop} (hG : ∀ a n c H', Ext H H' → Next base H H' → Pins H' a n x.lock → G t x.id a n c e H') :
    Spec P f args H fun v H' => ∃ (t : Bool) (id : Int) (a : Option Addr) (n c : Nat) (e : Int), v = .tuple #[.bool t, .agg #[.int .i64 id, .slice a n c], .int .i64 e] ∧ (Next base H H' → G t id a n c e H') :=
  h.mono fun v H' ex hv => by
    obtain ⟨a, n, c, h1, h2⟩ := hv
    exact ⟨_, _, a, n, c, _, h1, fun hN => hG a n c H' ex hN h2⟩
theorem Spec.over {P : Program} {f : FuncId} {args : List Value} {H : Heap} {t : Bool} {e : Int} (h : Spec P f args H fun v _ => v = .tuple #[.bool t, i64 e]) {base : Nat} {G : Bool → Int → Heap → Prop} (hG : ∀ H', Ext H H' → Next base H H' → G t e H') :
    Spec P f args H fun v H' => ∃ (t : Bool) (e : Int), v = .tuple #[.bool t, .int .i64 e] ∧ (Next base H H' → G t e H') :=
  h.mono fun v H' ex hv => ⟨_, _, hv, fun hN => hG H' ex hN⟩
theorem tail76 {base : Nat} {H H2 H3 : Heap} {a a1 a2 a9 a10 a12 : Option Addr} {n1 c n2 c1 n3 c2 n7 c4 n10 c5 n14 c6 b b2 : Nat} (hc : CfgAt H3 cS a n1 a1 n2 a2 n3) (h : LdrAt H3 lX a9 n7 a10 n10) :
    vt76_1 base H (fun v _ _ => v = .bool true) H2 H3 1 a n1 c a1 n2 c1 a2 n3 c2 0 a9 n7 c4 1 2 false a10 n10 c5 2 0 0 false 2 b b2 a12 n14 c6 := by
  intro _ b4
  refine (cNextL (c := cS) (l := lX) (r := u1) hc h Sl.nil).ldr fun la1 ll1 lc1 ka1 kl1 kc1 H4 e4 _ hA4 => fun b6 => ?_
  rw [led3.1]
  refine (cNextL (c := cS) (l := lX) (r := u2) (hc.ext e4) (h.ext e4) Sl.nil).ldr fun la2 ll2 lc2 ka2 kl2 kc2 H5 e5 _ hA5 => fun b8 => ?_
  have E5 := e4.trans e5
  rw [led4.2] at hA5 ⊢
  rw [led4.1]
  refine (cTurnL (c := cS) (l := lB) (hc.ext E5) hA5 1).turn fun a20 n29 c11 H6 e6 _ hp6 => fun b10 => ?_
  have E6 := E5.trans e6
  rw [led5.1, led5.2.1, led5.2.2]
  refine (cOverL (c := cS) (l := lB) (hc.ext E6) (hA5.ext e6)).over fun H7 e7 _ => ?_
  have E7 := E6.trans e7
  rw [led6.1, led6.2]
  intro g H8 hN8 _ hg
  have E8 := Ext.trans E7 hN8.ext
  refine (cNextL (c := cS) (l := lX) (r := u3) (hc.ext E8) (h.ext E8) (sl_of_boxE pinCells_len (xs := [⟨1, 2⟩]) hg rfl (by decide))).ldr fun la3 ll3 lc3 ka3 kl3 kc3 H9 e9 _ hA9 => fun b13 => ?_
  rw [led3.2]
  refine ⟨True, ⟨fun _ => ⟨fun _ => ⟨fun _ => ⟨fun _ => ⟨fun _ => ⟨fun _ => ⟨fun _ => ⟨fun _ => ⟨fun _ => ⟨fun _ => ⟨fun _ => ⟨fun _ => ⟨fun _ => ?_, fun w => absurd rfl w⟩, fun w => absurd rfl w⟩, fun w => absurd rfl w⟩, fun w => by cases w⟩, fun w => absurd rfl w⟩, fun w => absurd rfl w⟩, fun w => absurd rfl w⟩, fun w => absurd rfl w⟩, fun w => absurd rfl w⟩, fun w => absurd rfl w⟩, fun w => absurd rfl w⟩, fun w => absurd rfl w⟩, fun w => absurd rfl w⟩, by simp⟩
  exact (cAgents (hc.ext (E8.trans e9))).int1 fun H10 e10 _ => ⟨rfl, e10, by decide⟩
theorem cLed {H : Heap} : Spec Tryz.prog 28 [] H fun v _ => v = .bool true := by
  refine TryzvcJ Tryz.func28 (by kernel_rfl) (by kernel_rfl) _ rfl (fun base K => vc76 base H K) fun base hb => ?_
  refine cSmall.mono fun v H1 e1 hv => ?_
  obtain ⟨a, n1, c, a1, n2, c1, a2, n3, c2, rfl, hc⟩ := hv
  refine ⟨_, a, n1, c, a1, n2, c1, a2, n3, c2, _, rfl, fun hN1 b => ?_⟩
  have recs : ∀ {Hx : Heap} {g : Nat} {a4 : Option Addr} {n6 c3 : Nat}, Hx g = some (boxKB 29 [.int .i64 4, .int .i64 0, .int .i64 0, .int .i64 0, .bool false, .int .i64 2, .slice a4 n6 c3, .int .i64 5, .int .i64 0, .int .i64 0, .int .i64 2, .bool false, .int .i64 0, .slice none 0 0, .int .i64 6, .int .i64 1, .int .i64 1, .int .i64 0, .bool false, .int .i64 0, .slice none 0 0, .int .i64 7, .int .i64 1, .int .i64 1, .int .i64 0, .bool false, .int .i64 0, .slice none 0 0]) → Pins Hx a4 n6 s2.lock → Recs Hx (some ⟨g, 0, none⟩) 4 [q1, q2, q3, q4] := fun {Hx g a4 n6 c3} hg hp =>
    sl_of_rows (rs := [recVal q1 a4 n6 c3, recVal q2 none 0 0, recVal q3 none 0 0, recVal q4 none 0 0]) hg (by simp [recVal]) ⟨⟨_, _, _, rfl, hp⟩, ⟨none, 0, 0, rfl, Sl.nil⟩, ⟨none, 0, 0, rfl, Sl.nil⟩, ⟨none, 0, 0, rfl, Sl.nil⟩, trivial⟩ rfl (by decide)
  refine ⟨?_, fun b1 => ?_⟩
  all_goals
    refine cSecond.mono fun v H2 e2 hv => ?_
    obtain ⟨a4, n6, c3, rfl, hp2⟩ := hv
    refine ⟨_, a4, n6, c3, rfl, fun hN2 => ?_⟩
    first | refine ⟨fun g H3 hN3 _ hg => ?_, fun b1 g H3 hN3 _ hg => ?_⟩ | intro g H3 hN3 _ hg
  all_goals
    have hc3 := (hc.ext e2).ext hN3.ext
    have hr := recs hg (hp2.ext' hN3.ext)
    try refine ⟨?_, fun b1 => ?_⟩
  all_goals
    refine (cReplayL (c := cS) hc3 hr).ldr fun la4 ll4 lc4 ka4 kl4 kc4 H4 e4 _ hA4 => ?_
    rw [led1] at hA4 ⊢
    first
    | refine (cTurnL (c := cS) (l := lX) (hc3.ext e4) hA4 0).mono fun v H5 e5 hv => ?_
    | refine fun b2 => (cTurnL (c := cS) (l := lX) (hc3.ext e4) hA4 0).mono fun v H5 e5 hv => ?_
    obtain ⟨a12, n14, c6, rfl, hp5⟩ := hv
    refine ⟨_, _, a12, n14, c6, _, rfl, ?_⟩
    rw [led2.1, led2.2.1, led2.2.2]
    exact tail76 ((hc3.ext e4).ext e5) (hA4.ext e5)
/-! ### The laws -/
section
variable {H : Heap} {c : Conf} {fa ra wa qa : Option Addr} {fl fc rl rc wl wc ql qc : Nat} {l : Ldr} {la ka : Option Addr} {ll lc kl kc : Nat} {r : Recd}
end
end Go.Vg
