/- What is proved here: the contracts of the functions that check configurations and leaders, and of the document's. -/
import Derived.Test.YtglnjkkaojhgnaaGreatDoorP7
import Derived.Test.YtglnjkkaojhgnaaGreatDoorC6
import Derived.Test.YtglnjkkaojhgnaaGreatDoorV7
set_option linter.unusedSimpArgs false
set_option maxRecDepth 100000
set_option linter.unusedVariables false
namespace Go.Vg
open Go Go.Proofs
section
variable {H : Heap} {c : Conf} {fa ra wa : Option Addr} {fl fc rl rc wl wc : Nat}
theorem cAgents (hc : CfgAt H c fa fl ra rl wa wl) : Spec Tryz.prog 53 [cfgArg c fa fl fc ra rl rc wa wl wc] H fun v _ => v = i64 (agentsOf c.waves) := by
  refine TryzvcJ Tryz.func53 (by kernel_rfl) (by kernel_rfl) _ rfl (fun base K => vc94 c.first.id c.bud fa ra wa fl fc rl rc wl wc base H K) fun base hb => ?_
  intro b
  have hl := hc.waves.len
  have hle := hc.waves.le
  refine ⟨fun vs _ => ∃ (m : Int) (i : Nat), vs = [i64 m, i64 i] ∧ i ≤ wl ∧ 0 ≤ m ∧ m ≤ 6 ∧ agentsFrom m (c.waves.drop i) = agentsOf c.waves, upTo wl 1, ⟨0, 0, rfl, by omega, by omega, by omega, rfl⟩, fun n n1 H' hN hI => ?_⟩
  obtain ⟨m, i, hvs, hi, m0, m6, hI⟩ := hI
  obtain ⟨rfl, rfl⟩ : n = m ∧ n1 = (i : Int) := by simpa using hvs
  refine ⟨fun hlt => hc.waves.slice hN.ext (by omega) hlt fun w a' n' c' hw hs => ?_, fun hge => ?_⟩
  · rw [Int.toNat_natCast] at hw
    rw [drop_at hw, agentsFrom] at hI
    have hwl := hs.len
    have hmin : (if 7 < (n' : Int) then 7 else (n' : Int)) = min 7 (w.length : Int) := by rw [hwl]; split <;> omega
    rw [hmin]
    rintro _ rfl
    rw [wrap_in (by omega) (by omega)]
    refine ⟨fun h => ?_, fun h => ?_⟩
    · rw [if_pos h] at hI; rw [hI]
    · rw [if_neg h] at hI
      rintro _ rfl
      rw [wrap_in (by omega) (by omega)]
      exact ⟨rfl, ⟨_, i + 1, rfl, by omega, by omega, by omega, hI⟩, by simp [upTo]; omega⟩
  · rw [drop_all hl (by omega), agentsFrom] at hI; rw [hI]
theorem cConfig (hc : CfgAt H c fa fl ra rl wa wl) : Spec Tryz.prog 86 [cfgArg c fa fl fc ra rl rc wa wl wc] H fun v _ => v = i64 (cfgErr c) := by
  refine TryzvcJ Tryz.func86 (by kernel_rfl) (by kernel_rfl) _ rfl (fun base K => vc95 c.first.id c.bud fa ra wa fl fc rl rc wl wc base H K) fun base hb => ?_
  intro b
  refine (cNoteRelease hc.pins c.first.id).int1 fun H1 e1 _ => ⟨fun h => by rw [cfgErr, if_pos h], fun h => ?_⟩
  refine ⟨c.first.id ≠ 1 ∨ c.bud < 0 ∨ 3 < c.bud, ⟨fun h => ⟨rfl, fun _ _ h => h, .inl h⟩, fun h => ⟨fun h => ⟨rfl, fun _ _ h => h, .inr (.inl h)⟩, fun h => ⟨rfl, fun _ _ h => h, by omega⟩⟩⟩, fun hφ => by rw [cfgErr, if_neg h, if_pos hφ], fun hφ => ?_⟩
  refine (cBroken (hc.ext e1).pins (hc.ext e1).rules).int2 fun H2 e2 _ => ⟨fun h2 => by rw [cfgErr, if_neg h, if_neg hφ, if_pos h2], fun h2 => ⟨fun h3 => by rw [cfgErr, if_neg h, if_neg hφ, if_neg h2, if_pos h3], fun h3 => ?_⟩⟩
  refine (cAgents ((hc.ext e1).ext e2)).int1 fun H3 e3 _ => (cWaveCheck (((hc.ext e1).ext e2).ext e3).waves (agentsOf c.waves)).int1 fun H4 e4 _ => ?_
  rw [cfgErr, if_neg h, if_neg hφ, if_neg h2, if_neg h3]
end
/-! ### Lists of what is known of agents -/
section
variable {H : Heap} {l : Ldr} {la ka : Option Addr} {ll lc kl kc : Nat}
theorem thr_at {xs : List Kn} {i : Nat} {a : Kn} (h : xs[i]? = some a) : thr (xs.take (i + 1)) = thr (xs.take i) ++ [decide (a.st = 2 ∨ a.st = 3)] := by
  rw [take_at h]; simp [thr]
theorem boolRow {base : Nat} {H : Heap} {e : TypeId} {a : Option Addr} {n c : Nat} {xs : List Bool} (h : Row base H e 1 a n c (xs.map Value.bool)) : Sl RBool 1 H a n xs := by
  have hf : ∀ xs : List Bool, xs.flatMap (fun x : Bool => [Value.bool x]) = xs.map Value.bool := fun xs => by induction xs with | nil => rfl | cons x r ih => simp [ih]
  exact sl_of_rowE (sz := 1) (enc := fun x : Bool => [Value.bool x]) (fun _ => rfl) (by omega) (by rw [hf]; exact h)
theorem cThrough (h : LdrAt H l la ll ka kl) (h6 : l.ags.length ≤ 6) : Spec Tryz.prog 115 [ldrArg l la ll lc ka kl kc] H fun v H' => ∃ a n c, v = .slice a n c ∧ Sl RBool 1 H' a n (thr l.ags) := by
  refine TryzvcJ Tryz.func115 (by kernel_rfl) (by kernel_rfl) _ rfl (fun base K => vc149 la ka ll lc kl kc l.now l.goal l.nx l.back base H K) fun base hb => ?_
  intro b
  have hl := h.ags.len
  refine ⟨fun vs Hc => ∃ (a : Option Addr) (c i : Nat), vs = [.slice a i c, i64 i] ∧ i ≤ kl ∧ Row base Hc 4 1 a i c ((thr (l.ags.take i)).map Value.bool), upTo kl 1, ⟨none, 0, 0, rfl, by omega, Row.nil⟩, fun a n c n1 H' hN hI => ?_⟩
  obtain ⟨a', c', i, hvs, hi, hR⟩ := hI
  obtain ⟨⟨rfl, rfl, rfl⟩, rfl⟩ : (a = a' ∧ n = i ∧ c = c') ∧ n1 = (i : Int) := by simpa using hvs
  refine ⟨fun hlt => h.ags.kn hN.ext (by omega) hlt fun m hm => fun b2 => ?_, fun hge => ?_⟩
  · rw [Int.toNat_natCast] at hm
    refine ⟨fun h2 b3 => ⟨_, hR, by omega, by omega, fun a2 c2 H2 hG hR2 => ?_⟩, fun h2 b3 => ⟨_, hR, by omega, by omega, fun a2 c2 H2 hG hR2 => ?_⟩⟩
    · rintro _ rfl
      rw [wrap_in (by omega) (by omega)]
      refine ⟨rfl, ⟨a2, c2, n + 1, rfl, by omega, ?_⟩, by simp [upTo]; omega⟩
      rw [thr_at hm, List.map_append]; simpa [h2] using hR2
    · rintro _ rfl
      rw [wrap_in (by omega) (by omega)]
      refine ⟨rfl, ⟨a2, c2, n + 1, rfl, by omega, ?_⟩, by simp [upTo]; omega⟩
      rw [thr_at hm, List.map_append]; simpa [h2] using hR2
  · rw [List.take_of_length_le (by omega)] at hR
    exact ⟨a, n, c, rfl, boolRow hR⟩
theorem cnt_at {xs : List Kn} {i : Nat} {a : Kn} {k : Int} (h : xs[i]? = some a) : cnt k (xs.take (i + 1)) = cnt k (xs.take i) + if a.st = k then 1 else 0 := by
  rw [take_at h]; unfold cnt; rw [List.filter_append]; by_cases h2 : a.st = k <;> simp [h2]
theorem cnt_range (k : Int) (xs : List Kn) : 0 ≤ cnt k xs ∧ cnt k xs ≤ xs.length := by
  unfold cnt; have := List.length_filter_le (fun a : Kn => decide (a.st = k)) xs; omega
theorem cIll (h : LdrAt H l la ll ka kl) : Spec Tryz.prog 117 [ldrArg l la ll lc ka kl kc] H fun v _ => v = i64 (cnt 3 l.ags) := by
  refine TryzvcJ Tryz.func117 (by kernel_rfl) (by kernel_rfl) _ rfl (fun base K => vc150 la ka ll lc kl kc l.now l.goal l.nx l.back base H K) fun base hb => ?_
  intro b
  have hl := h.ags.len
  have hle := h.ags.le
  refine ⟨fun vs Hc => ∃ (i : Nat), vs = [i64 (cnt 3 (l.ags.take i)), i64 i] ∧ i ≤ kl, upTo kl 1, ⟨0, rfl, by omega⟩, fun n n1 H' hN hI => ?_⟩
  obtain ⟨i, hvs, hi⟩ := hI
  obtain ⟨rfl, rfl⟩ : n = cnt 3 (l.ags.take i) ∧ n1 = (i : Int) := by simpa using hvs
  refine ⟨fun hlt => h.ags.kn hN.ext (by omega) hlt fun m hm => fun b2 => ?_, fun hge => ?_⟩
  · rw [Int.toNat_natCast] at hm
    have hr := cnt_range 3 (l.ags.take i)
    have hti : (l.ags.take i).length ≤ i := by simp; omega
    refine ⟨fun h2 => ?_, fun h2 => ?_⟩
    · rintro _ rfl _ rfl
      rw [wrap_in (by omega) (by omega), wrap_in (by omega) (by omega)]
      exact ⟨rfl, ⟨i + 1, by rw [cnt_at hm, if_pos h2]; simp, by omega⟩, by simp [upTo]; omega⟩
    · rintro _ rfl
      rw [wrap_in (by omega) (by omega)]
      exact ⟨rfl, ⟨i + 1, by rw [cnt_at hm, if_neg h2]; simp, by omega⟩, by simp [upTo]; omega⟩
  · rw [List.take_of_length_le (by omega)]
end
end Go.Vg
set_option linter.unusedSimpArgs false
set_option maxRecDepth 100000
set_option linter.unusedVariables false
namespace Go.Vg
open Go Go.Proofs
/-! ### Equality -/
theorem rls_eq {m m' : Rls} : m = m' ↔ m.id = m'.id ∧ m.lock = m'.lock := by cases m; cases m'; simp
theorem cEqRelsA {H : Heap} {a a' : Option Addr} {l c l' c' : Nat} {xs ys : List Rls} (hx : Rels H a l xs) (hy : Rels H a' l' ys) : Spec Tryz.prog 60 [.slice a l c, .slice a' l' c', .func (.func 47) #[] #[]] H fun v _ => v = .bool (decide (xs = ys)) := by
  refine TryzvcJ Tryz.func60 (by kernel_rfl) (by kernel_rfl) _ rfl (fun base K => vc85a a a' l c l' c' base H K) fun base hb => ?_
  have hxl := hx.len
  have hyl := hy.len
  have hle := hx.le
  refine ⟨fun hne => ?_, fun he => ?_⟩
  · rw [decide_eq_false]; rintro rfl; omega
  refine ⟨fun vs _ => ∃ (b : Bool) (k : Nat), vs = [.bool b, i64 k] ∧ k ≤ l ∧ (xs.drop k = ys.drop k ↔ xs = ys), upTo l 1, ⟨false, 0, rfl, by omega, by simp⟩, fun b n H' hN hI => ?_⟩
  obtain ⟨b', k, hvs, hk, hI⟩ := hI
  obtain ⟨rfl, rfl⟩ : b = b' ∧ n = (k : Int) := by simpa using hvs
  refine ⟨fun hlt => hx.rl hN.ext (by omega) hlt fun m a1 n1 c1 hm hp => fun b4 => hy.rl hN.ext (by omega) (by omega) fun m' a2 n2 c2 hm' hq => fun b8 => (cAlike (hp.ext' hN.ext) (hq.ext' hN.ext) _ _).bool1 fun H2 e2 _ => ⟨fun h => ?_, fun h => ?_⟩, fun hge => ?_⟩
  · rw [Int.toNat_natCast] at hm hm'
    rw [drop_at hm, drop_at hm'] at hI
    rw [decide_eq_false]
    intro e
    exact absurd (List.cons.inj (hI.2 e)).1 (by rw [rls_eq]; simpa using h)
  · rw [Int.toNat_natCast] at hm hm'
    rw [drop_at hm, drop_at hm'] at hI
    have hpq : m = m' := by rw [rls_eq]; simpa using h
    rintro r rfl
    rw [wrap_in (by omega) (by omega)]
    exact ⟨⟨b, k + 1, rfl, by omega, by rw [← hI]; simp [hpq]⟩, by simp [upTo]; omega⟩
  · rw [decide_eq_true]
    exact hI.1 (by rw [drop_all hxl (by omega), drop_all hyl (by omega)])
theorem cEqRelsB {H : Heap} {a a' : Option Addr} {l c l' c' : Nat} {xs ys : List Rls} (hx : Rels H a l xs) (hy : Rels H a' l' ys) : Spec Tryz.prog 60 [.slice a l c, .slice a' l' c', .func (.func 39) #[] #[]] H fun v _ => v = .bool (decide (xs = ys)) := by
  refine TryzvcJ Tryz.func60 (by kernel_rfl) (by kernel_rfl) _ rfl (fun base K => vc85b a a' l c l' c' base H K) fun base hb => ?_
  have hxl := hx.len
  have hyl := hy.len
  have hle := hx.le
  refine ⟨fun hne => ?_, fun he => ?_⟩
  · rw [decide_eq_false]; rintro rfl; omega
  refine ⟨fun vs _ => ∃ (b : Bool) (k : Nat), vs = [.bool b, i64 k] ∧ k ≤ l ∧ (xs.drop k = ys.drop k ↔ xs = ys), upTo l 1, ⟨false, 0, rfl, by omega, by simp⟩, fun b n H' hN hI => ?_⟩
  obtain ⟨b', k, hvs, hk, hI⟩ := hI
  obtain ⟨rfl, rfl⟩ : b = b' ∧ n = (k : Int) := by simpa using hvs
  refine ⟨fun hlt => hx.rl hN.ext (by omega) hlt fun m a1 n1 c1 hm hp => fun b4 => hy.rl hN.ext (by omega) (by omega) fun m' a2 n2 c2 hm' hq => fun b8 => (cRefAlike (hp.ext' hN.ext) (hq.ext' hN.ext) _ _).bool1 fun H2 e2 _ => ⟨fun h => ?_, fun h => ?_⟩, fun hge => ?_⟩
  · rw [Int.toNat_natCast] at hm hm'
    rw [drop_at hm, drop_at hm'] at hI
    rw [decide_eq_false]
    intro e
    exact absurd (List.cons.inj (hI.2 e)).1 (by rw [rls_eq]; simpa using h)
  · rw [Int.toNat_natCast] at hm hm'
    rw [drop_at hm, drop_at hm'] at hI
    have hpq : m = m' := by rw [rls_eq]; simpa using h
    rintro r rfl
    rw [wrap_in (by omega) (by omega)]
    exact ⟨⟨b, k + 1, rfl, by omega, by rw [← hI]; simp [hpq]⟩, by simp [upTo]; omega⟩
  · rw [decide_eq_true]
    exact hI.1 (by rw [drop_all hxl (by omega), drop_all hyl (by omega)])
theorem neq111 {xo yo : Operand} (p q : Kn) : RunsTo Tryz.prog (binRun .neq 110 xo yo (.agg #[.int .i64 p.st, .int .i64 p.try_, .bool p.back]) (.agg #[.int .i64 q.st, .int .i64 q.try_, .bool q.back])) (.bool (!(p.st == q.st && p.try_ == q.try_ && p.back == q.back))) := by
  intro w
  have u3 := Tryz.underlying3
  have a3 := Tryz.isAgg3
  have z3 := Tryz.sizeOf3
  have u4 := Tryz.underlying4
  have a4 := Tryz.isAgg4
  have z4 := Tryz.sizeOf4
  have hS : Tryz.prog.underlying 110 = some (.struct (Tryz.prog.fieldsOf 110)) := by kernel_rfl
  have hp : Tryz.prog.stoodInHeld 110 = false := by kernel_rfl
  have hm : Tryz.prog.eqGuardType Tryz.prog.depth 110 = false := by kernel_rfl
  have he : (Op.equalIn 10000 110 (.agg #[.int .i64 p.st, .int .i64 p.try_, .bool p.back]) (.agg #[.int .i64 q.st, .int .i64 q.try_, .bool q.back])).run Tryz.prog w = .ok (p.st == q.st && p.try_ == q.try_ && p.back == q.back) w := by
    rw [show (10000 : Nat) = 9999 + 1 from rfl, run_equalIn_agg w 9999 110 _ _ hS hp]
    simp only [Program.fieldsOf, Tryz.underlying110]
    go_simp
    by_cases h1 : p.st = q.st <;> by_cases h2 : p.try_ = q.try_ <;> by_cases h3 : p.back = q.back <;> simp [h1, h2, h3]
  simp only [binRun, Sem.run_bind, run_eqGuard_agg w _ 110 _ _ _ _ hm, Result.andThen_ok, run_neq_struct, he]
theorem cEqKns {H : Heap} {a a' : Option Addr} {l c l' c' : Nat} {xs ys : List Kn} (hx : Kns H a l xs) (hy : Kns H a' l' ys) : Spec Tryz.prog 61 [.slice a l c, .slice a' l' c'] H fun v _ => v = .bool (decide (xs = ys)) := by
  refine TryzvcJ Tryz.func61 (by kernel_rfl) (by kernel_rfl) _ rfl (fun base K => vc138 a a' l c l' c' base H K) fun base hb => ?_
  have hxl := hx.len
  have hyl := hy.len
  have hle := hx.le
  refine ⟨fun hne => ?_, fun he => ?_⟩
  · rw [decide_eq_false]; rintro rfl; omega
  refine ⟨fun vs _ => ∃ (b : Bool) (k : Nat), vs = [.bool b, i64 k] ∧ k ≤ l ∧ (xs.drop k = ys.drop k ↔ xs = ys), upTo l 1, ⟨false, 0, rfl, by omega, by simp⟩, fun b n H' hN hI => ?_⟩
  obtain ⟨b', k, hvs, hk, hI⟩ := hI
  obtain ⟨rfl, rfl⟩ : b = b' ∧ n = (k : Int) := by simpa using hvs
  refine ⟨fun hlt => hx.kn hN.ext (by omega) hlt fun p hp => hy.kn hN.ext (by omega) (by omega) fun q hq => ⟨_, neq111 p q, fun h => ?_, fun h => ?_⟩, fun hge => ?_⟩
  · rw [Int.toNat_natCast] at hp hq
    rw [drop_at hp, drop_at hq] at hI
    rw [decide_eq_false]
    intro e
    obtain ⟨rfl, _⟩ := List.cons.inj (hI.2 e)
    simp at h
  · rw [Int.toNat_natCast] at hp hq
    rw [drop_at hp, drop_at hq] at hI
    have hpq : p = q := by
      cases p; cases q; simp at h; simp [h]
    rintro r rfl
    rw [wrap_in (by omega) (by omega)]
    exact ⟨⟨b, k + 1, rfl, by omega, by rw [← hI]; simp [hpq]⟩, by simp [upTo]; omega⟩
  · rw [decide_eq_true]
    exact hI.1 (by rw [drop_all hxl (by omega), drop_all hyl (by omega)])
theorem ldr_eq {x y : Ldr} : x = y ↔ x.rels = y.rels ∧ x.now = y.now ∧ x.goal = y.goal ∧ x.back = y.back ∧ x.ags = y.ags ∧ x.nx = y.nx := by cases x; cases y; simp
section
variable {H : Heap} {x y : Ldr} {la ka la' ka' : Option Addr} {ll lc kl kc ll' lc' kl' kc' : Nat}
theorem cLdrSame (h : LdrAt H x la ll ka kl) (h' : LdrAt H y la' ll' ka' kl') : Spec Tryz.prog 30 [ldrArg x la ll lc ka kl kc, ldrArg y la' ll' lc' ka' kl' kc'] H fun v _ => v = .bool (decide (x = y)) := by
  refine TryzvcJ Tryz.func30 (by kernel_rfl) (by kernel_rfl) _ rfl (fun base K => vc96 la ka ll lc kl kc x.now x.goal x.nx x.back la' ka' ll' lc' kl' kc' y.now y.goal y.nx y.back base H K) fun base hb => ?_
  intro b b1
  refine ⟨x = y, (cEqRelsA h.rels h'.rels).bool1 fun H1 e1 _ => ⟨fun q1 => ⟨fun q2 => ⟨fun q3 => ⟨_, eqBool, fun q4 => (cEqKns (h.ext e1).ags (h'.ext e1).ags).bool1 fun H2 e2 _ => ⟨fun q5 => ⟨rfl, e1.trans e2, ?_⟩, fun q5 => ⟨rfl, e1.trans e2, fun e => by simp [e] at q5⟩⟩, fun q4 => ⟨rfl, e1, fun e => q4 (by simp [e])⟩⟩, fun q3 => ⟨rfl, e1, fun e => q3 (by rw [e])⟩⟩, fun q2 => ⟨rfl, e1, fun e => q2 (by rw [e])⟩⟩, fun q1 => ⟨rfl, e1, fun e => by simp [e] at q1⟩⟩, ?_⟩
  · rw [ldr_eq]; simp at q1 q4 q5; simp [q1, q2, q3, q4, q5]
  · congr 1; exact decide_eq_decide.2 Iff.rfl
end
/-! ### Check -/
section
variable {H : Heap} {c : Conf} {fa ra wa : Option Addr} {fl fc rl rc wl wc : Nat} {l : Ldr} {la ka : Option Addr} {ll lc kl kc : Nat}
theorem cLdrCheck (hc : CfgAt H c fa fl ra rl wa wl) (h : LdrAt H l la ll ka kl) : Spec Tryz.prog 54 [cfgArg c fa fl fc ra rl rc wa wl wc, ldrArg l la ll lc ka kl kc] H fun v _ => v = i64 (ldrErr c l) := by
  refine TryzvcJ Tryz.func54 (by kernel_rfl) (by kernel_rfl) _ rfl (fun base K => vc77 c.first.id c.bud fa ra wa fl fc rl rc wl wc la ka ll lc kl kc l.now l.goal l.nx l.back base H K) fun base hb => ?_
  intro b b1
  have hll := h.rels.len
  have hle := h.rels.le
  have hkl := h.ags.len
  have hke := h.ags.le
  refine (cConfig hc).int1 fun H1 e1 _ => ⟨fun q1 => by rw [ldrErr, if_pos q1], fun q1 => ?_⟩
  refine ⟨l.rels.length = 0 ∨ 6 < l.rels.length, ⟨fun q => ⟨rfl, fun _ _ h => h, by omega⟩, fun q => ⟨rfl, fun _ _ h => h, by omega⟩⟩, fun q2 => by rw [ldrErr, if_neg q1, if_pos q2], fun q2 => ?_⟩
  refine ⟨fun vs _ => ∃ (d : Int) (i : Nat), vs = [i64 d, i64 i] ∧ i ≤ ll ∧ relsErr c.rules i (l.rels.drop i) = relsErr c.rules 0 l.rels, upTo ll 1, ⟨0, 0, rfl, by omega, rfl⟩, fun n n1 H2 hN hI => ?_⟩
  obtain ⟨d, i, hvs, hi, hI⟩ := hI
  obtain ⟨rfl, rfl⟩ : n = d ∧ n1 = (i : Int) := by simpa using hvs
  refine ⟨fun hlt => h.rels.rl hN.ext (by omega) hlt fun m ma mn mc hm hp => fun b2 => ?_, fun hge => ?_⟩
  · rw [Int.toNat_natCast] at hm
    rw [drop_at hm, relsErr] at hI
    have bad : ∀ {e : Int}, relsErr c.rules 0 l.rels = e → e ≠ 0 → ldrErr c l = e := fun he h0 => by rw [ldrErr, if_neg q1, if_neg q2, if_pos (by omega), he]
    refine (cBroken (hp.ext' hN.ext) (hc.ext hN.ext).rules).int2 fun H3 e3 _ => ⟨fun q3 => ?_, fun q3 => ⟨fun q4 => ?_, fun q4 => ?_⟩⟩
    · rw [if_pos q3] at hI; rw [bad hI.symm q3]
    · rw [if_neg q3, if_pos q4] at hI; rw [bad hI.symm (by omega)]
    · rw [if_neg q3, if_neg q4] at hI
      rintro _ rfl
      rw [wrap_in (by omega) (by omega)]
      refine ⟨fun q5 => ?_, fun q5 => ?_⟩
      · rw [if_pos q5] at hI; rw [bad hI.symm (by omega)]
      · rw [if_neg (by omega)] at hI
        rintro _ rfl
        exact ⟨rfl, ⟨_, i + 1, rfl, by omega, hI⟩, by simp [upTo]; omega⟩
  · rw [drop_all hll (by omega), relsErr] at hI
    have E1 : ldrErr c l = if ldrRange l then 3 else if ldrForm c l then 4 else knErr l.goal l.nx l.back l.ags := by rw [ldrErr, if_neg q1, if_neg q2, if_neg (by omega)]
    refine ⟨ldrRange l, ?_, fun q3 => by rw [E1, if_pos q3], fun q3 => ?_⟩
    · unfold ldrRange
      repeat' (first | exact ⟨rfl, fun _ _ h => h, by omega⟩ | intro _ | refine ⟨?_, ?_⟩)
    rw [if_neg q3] at E1
    have form : ldrForm c l → ldrErr c l = 4 := fun q => by rw [E1, if_pos q]
    refine ⟨fun q4 => by rw [form (.inl q4)], fun q4 => ⟨fun q5 => ⟨fun q6 => by rw [form (.inr (.inl ⟨q5, q6⟩))], fun q6 => ?_⟩, fun q5 => ?_⟩⟩
    all_goals
      have hgb : ¬ (l.goal = 0 ∧ l.back = true) := by first | exact fun q => by rw [q6] at q; cases q.2 | exact fun q => q5 q.1
      refine (cAgents (hc.ext hN.ext)).int1 fun H3 e3 _ => ⟨fun q7 => by rw [form (.inr (.inr (.inl (by omega))))], fun q7 => h.rels.rl (k := 0) (Ext.trans hN.ext e3) (by omega) (by omega) fun m ma mn mc hm hp => ?_⟩
      have E3 := Ext.trans hN.ext e3
      have hm0 : l.rels[0]? = some m := hm
      refine (cAlike (hp.ext' E3) (hc.ext E3).pins _ _).bool1 fun H4 e4 _ => ⟨fun q8 => ?_, fun q8 => ?_⟩
      · rw [form (.inr (.inr (.inr (by rw [hm0]; intro e; simp at e; subst e; simp at q8))))]
      have hmf : m = c.first := by rw [rls_eq]; simpa using q8
      have hF : ¬ ldrForm c l := by
        rintro (q | q | q | q)
        · exact q4 q
        · exact hgb q
        · omega
        · exact q (by rw [hm0, hmf])
      have E2 : ldrErr c l = knErr l.goal l.nx l.back l.ags := by rw [E1, if_neg hF]
      refine ⟨fun vs _ => ∃ (d : Int) (i : Nat), vs = [i64 d, i64 i] ∧ i ≤ kl ∧ knErr l.goal l.nx l.back (l.ags.drop i) = knErr l.goal l.nx l.back l.ags, upTo kl 1, ⟨_, 0, rfl, by omega, rfl⟩, fun n2 n3 H5 hN5 hI5 => ?_⟩
      obtain ⟨d5, j, hvs5, hj, hI5⟩ := hI5
      obtain ⟨rfl, rfl⟩ : n2 = d5 ∧ n3 = (j : Int) := by simpa using hvs5
      refine ⟨fun hlt5 => h.ags.kn hN5.ext (by omega) hlt5 fun z hz => fun b6 => ?_, fun hge5 => ?_⟩
      · rw [Int.toNat_natCast] at hz
        rw [drop_at hz, knErr] at hI5
        refine ⟨badKn l.nx z, ?_, fun q9 => by rw [E2, ← hI5, if_pos q9], fun q9 => ?_⟩
        · unfold badKn
          repeat' (first | exact ⟨rfl, fun _ _ h => h, by omega⟩ | intro _ | refine ⟨?_, ?_⟩)
        refine ⟨oddKn l.goal l.back z, ?_, fun q10 => by rw [E2, ← hI5, if_neg q9, if_pos q10], fun q10 => ?_⟩
        · unfold oddKn
          repeat' (first | exact ⟨rfl, fun _ _ h => h, by grind⟩ | intro _ | refine ⟨?_, ?_⟩)
        rw [if_neg q9, if_neg q10] at hI5
        rintro _ rfl
        rw [wrap_in (by omega) (by omega)]
        exact ⟨rfl, ⟨_, j + 1, rfl, by omega, hI5⟩, by simp [upTo]; omega⟩
      · rw [drop_all hkl (by omega), knErr] at hI5
        rw [E2, ← hI5]
end
end Go.Vg
set_option linter.unusedSimpArgs false
set_option maxRecDepth 100000
set_option linter.unusedVariables false
namespace Go.Vg
open Go Go.Proofs
def bIdx (v : Bool) : Int → List Bool → Int
  | _, [] => -1
  | i, x :: r => if v = x then i else bIdx v (i + 1) r
theorem bIdx_mem (v : Bool) : ∀ (l : List Bool) (i : Int), 0 ≤ i → (0 ≤ bIdx v i l ↔ v ∈ l)
  | [], i, _ => by simp [bIdx]
  | x :: r, i, h => by
    unfold bIdx
    split
    · rename_i e; subst e; simp [h]
    · rename_i e; rw [bIdx_mem v r (i + 1) (by omega)]; simp [e]
theorem cHasBool {H : Heap} {a : Option Addr} {l c : Nat} {xs : List Bool} (hx : Sl RBool 1 H a l xs) (v : Bool) : Spec Tryz.prog 118 [.slice a l c, .bool v] H fun r _ => r = .bool (decide (v ∈ xs)) := by
  have h155 : Spec Tryz.prog 141 [.slice a l c, .bool v] H fun r _ => r = i64 (bIdx v 0 xs) := by
    refine TryzvcJ Tryz.func141 (by kernel_rfl) (by kernel_rfl) _ rfl (fun base K => vc155 a l c v base H K) fun base hb => ?_
    have hle := hx.le
    refine ⟨fun vs _ => ∃ (d : Int) (k : Nat), vs = [i64 d, i64 k] ∧ k ≤ l ∧ bIdx v k (xs.drop k) = bIdx v 0 xs, upTo l 1, ⟨0, 0, rfl, by omega, rfl⟩, fun d n H' hN hI => ?_⟩
    obtain ⟨d', k, hvs, hk, hI⟩ := hI
    obtain ⟨rfl, rfl⟩ : d = d' ∧ n = (k : Int) := by simpa using hvs
    refine ⟨fun hlt => hx.bool hN.ext (by omega) hlt fun y hy => ⟨_, eqBool, fun he => ?_, fun he => ?_⟩, fun hge => ?_⟩
    · rw [Int.toNat_natCast] at hy
      rw [drop_at hy, bIdx, if_pos (by simpa using he)] at hI
      rw [hI]
    · rw [Int.toNat_natCast] at hy
      rw [drop_at hy, bIdx, if_neg (by simpa using he)] at hI
      rintro r rfl
      rw [wrap_in (by omega) (by omega)]
      exact ⟨⟨d, k + 1, rfl, by omega, hI⟩, by simp [upTo]; omega⟩
    · rw [drop_all hx.len (by omega), bIdx] at hI; rw [hI]
  refine TryzvcJ Tryz.func118 (by kernel_rfl) (by kernel_rfl) _ rfl (fun base K => vc151 a l c v base H K) fun base hb => ?_
  refine h155.int1 fun H' _ _ => ?_
  simp [bIdx_mem v xs 0 (by omega)]
theorem cBusy {H : Heap} (a : Kn) : Spec Tryz.prog 120 [.agg #[.int .i64 a.st, .int .i64 a.try_, .bool a.back]] H fun v _ => v = .bool (decide (busy a)) := by
  refine TryzvcJ Tryz.func120 (by kernel_rfl) (by kernel_rfl) _ rfl (fun base K => vc152 a.st a.try_ a.back base H K) fun base hb => ?_
  intro b
  refine ⟨busy a, ?_, by congr 1; exact decide_eq_decide.2 Iff.rfl⟩
  unfold busy
  repeat' (first | exact ⟨rfl, fun _ _ h => h, by grind⟩ | intro _ | refine ⟨?_, ?_⟩)
def knIdx (f : Kn → Bool) : Int → List Kn → Int
  | _, [] => -1
  | i, x :: r => if f x = true then i else knIdx f (i + 1) r
theorem knIdx_any (f : Kn → Bool) : ∀ (l : List Kn) (i : Int), 0 ≤ i → (0 ≤ knIdx f i l ↔ l.any f = true)
  | [], i, _ => by simp [knIdx]
  | x :: r, i, h => by
    unfold knIdx
    split
    · rename_i e; simp [h, e]
    · rename_i e; rw [knIdx_any f r (i + 1) (by omega)]; simp [e]
theorem cAnyBusy {H : Heap} {a : Option Addr} {l c : Nat} {xs : List Kn} (hx : Kns H a l xs) : Spec Tryz.prog 119 [.slice a l c, .func (.func 120) #[] #[]] H fun r _ => r = .bool (xs.any fun a => decide (busy a)) := by
  have h136 : Spec Tryz.prog 142 [.slice a l c, .func (.func 120) #[] #[]] H fun r _ => r = i64 (knIdx (fun a => decide (busy a)) 0 xs) := by
    refine TryzvcJ Tryz.func142 (by kernel_rfl) (by kernel_rfl) _ rfl (fun base K => vc136a a l c base H K) fun base hb => ?_
    have hle := hx.le
    refine ⟨fun vs _ => ∃ (d : Int) (k : Nat), vs = [i64 d, i64 k] ∧ k ≤ l ∧ knIdx (fun a => decide (busy a)) k (xs.drop k) = knIdx (fun a => decide (busy a)) 0 xs, upTo l 1, ⟨0, 0, rfl, by omega, rfl⟩, fun d n H' hN hI => ?_⟩
    obtain ⟨d', k, hvs, hk, hI⟩ := hI
    obtain ⟨rfl, rfl⟩ : d = d' ∧ n = (k : Int) := by simpa using hvs
    refine ⟨fun hlt => hx.kn hN.ext (by omega) hlt fun y hy => (cBusy y).bool1 fun H2 e2 _ => ⟨fun he => ?_, fun he => ?_⟩, fun hge => ?_⟩
    · rw [Int.toNat_natCast] at hy
      rw [drop_at hy, knIdx, if_pos he] at hI
      rw [hI]
    · rw [Int.toNat_natCast] at hy
      rw [drop_at hy, knIdx, if_neg (by rw [he]; simp)] at hI
      rintro r rfl
      rw [wrap_in (by omega) (by omega)]
      exact ⟨⟨d, k + 1, rfl, by omega, hI⟩, by simp [upTo]; omega⟩
    · rw [drop_all hx.len (by omega), knIdx] at hI; rw [hI]
  refine TryzvcJ Tryz.func119 (by kernel_rfl) (by kernel_rfl) _ rfl (fun base K => vc82a a l c base H K) fun base hb => ?_
  refine h136.int1 fun H' _ _ => ?_
  have := knIdx_any (fun a => decide (busy a)) xs 0 (by omega)
  congr 1
  cases hany : xs.any (fun a => decide (busy a))
  · rw [decide_eq_false (by rw [this, hany]; simp)]
  · rw [decide_eq_true (this.2 hany)]
section
variable {H : Heap} {c : Conf} {fa ra wa : Option Addr} {fl fc rl rc wl wc : Nat} {l : Ldr} {la ka : Option Addr} {ll lc kl kc : Nat}
theorem thr_len (l : List Kn) : (thr l).length = l.length := by simp [thr]
theorem cTurn (hc : CfgAt H c fa fl ra rl wa wl) (h : LdrAt H l la ll ka kl) (h6 : l.ags.length ≤ 6) {k : Int} (h0 : 0 ≤ k) (h1 : k < kl) : Spec Tryz.prog 87 [cfgArg c fa fl fc ra rl rc wa wl wc, ldrArg l la ll lc ka kl kc, i64 k] H fun v _ => v = .bool (turnOf c l k) := by
  refine TryzvcJ Tryz.func87 (by kernel_rfl) (by kernel_rfl) _ rfl (fun base K => vc134 c.first.id c.bud fa ra wa fl fc rl rc wl wc la ka ll lc kl kc l.now l.goal l.nx l.back k base H K) fun base hb => ?_
  intro b b1
  refine h.ags.kn (Ext.refl _) h0 h1 fun m hm => fun b4 => ⟨fun q => ?_, fun q => ?_⟩
  · refine ⟨m.st ≠ 0 ∧ m.back = false, ⟨fun w => ⟨rfl, fun _ _ h => h, by simp [w]⟩, fun w => ⟨rfl, fun _ _ h => h, fun w2 => w w2.1⟩⟩, ?_⟩
    unfold turnOf
    rw [hm]
    simp only [q, if_true]
    congr 1; exact decide_eq_decide.2 Iff.rfl
  · have hT0 : turnOf c l k = decide (waveCheck c.waves l.ags.length = 0 ∧ m.st = 0 ∧ waveOf c.waves k = waveNow c.waves (thr l.ags) ∧ cnt 3 l.ags ≤ c.bud) := by
      unfold turnOf
      rw [hm]
      simp [q]
    rw [hT0]
    refine (cThrough h h6).sl1 fun a n c' H1 e1 _ hT => ?_
    refine (cWaveNow (hc.ext e1).waves hT).int2 fun H2 e2 _ => ?_
    rw [thr_len]
    refine ⟨fun w1 => ⟨fun w2 => ?_, fun w2 => by simp [w2]⟩, fun w1 => by simp [w1]⟩
    refine (cWaveOf (hc.ext (e1.trans e2)).waves k).int1 fun H3 e3 _ => ⟨fun w3 => ?_, fun w3 => by simp [w3]⟩
    exact (cIll (h.ext ((e1.trans e2).trans e3))).int1 fun H4 e4 _ => by simp [w1, w2, w3]
theorem cOver (hc : CfgAt H c fa fl ra rl wa wl) (h : LdrAt H l la ll ka kl) (h6 : l.ags.length ≤ 6) : Spec Tryz.prog 88 [cfgArg c fa fl fc ra rl rc wa wl wc, ldrArg l la ll lc ka kl kc] H fun v _ => v = .bool (overOf c l) := by
  refine TryzvcJ Tryz.func88 (by kernel_rfl) (by kernel_rfl) _ rfl (fun base K => vc135 c.first.id c.bud fa ra wa fl fc rl rc wl wc la ka ll lc kl kc l.now l.goal l.nx l.back base H K) fun base hb => ?_
  intro b b1
  refine ⟨fun q => ?_, fun q => ?_⟩
  · have hO : overOf c l = decide (cnt 3 l.ags ≤ c.bud ∧ false ∉ thr l.ags) := by unfold overOf; rw [if_pos q]
    rw [hO]
    refine (cIll h).int1 fun H1 e1 _ => ⟨fun w => (cThrough (h.ext e1) h6).sl1 fun a n c' H2 e2 _ hT => (cHasBool hT false).bool1 fun H3 e3 _ => ?_, fun w => by simp [w]⟩
    simp [w]
  · have hO : overOf c l = decide (∀ a ∈ l.ags, ¬ busy a) := by unfold overOf; rw [if_neg q]
    rw [hO]
    refine (cAnyBusy h.ags).bool1 fun H1 e1 _ => ?_
    congr 1
    rw [decide_eq_decide]
    simp
/-! ### The document's -/
theorem notThr {l : List Kn} {a : Int} (h0 : 0 ≤ a) {m : Kn} (hm : l[a.toNat]? = some m) : notThrough (thr l) a = true ↔ ¬ (m.st = 2 ∨ m.st = 3) := by
  unfold notThrough thr
  rw [List.getElem?_map, hm]
  simp
theorem cnt_cons (k : Int) (a : Kn) (q : List Kn) : cnt k (a :: q) = cnt k q + if a.st = k then 1 else 0 := by
  unfold cnt; by_cases h : a.st = k <;> simp [h]
theorem cnt_all {l : List Kn} : cnt 2 l + cnt 3 l = l.length ↔ false ∉ thr l := by
  have key : ∀ l : List Kn, cnt 2 l + cnt 3 l ≤ l.length ∧ (cnt 2 l + cnt 3 l = l.length ↔ false ∉ thr l) := by
    intro l
    induction l with
    | nil => simp [cnt, thr]
    | cons a q ih =>
      obtain ⟨h1, h2⟩ := ih
      rw [cnt_cons, cnt_cons]
      have e : thr (a :: q) = decide (a.st = 2 ∨ a.st = 3) :: thr q := rfl
      rw [e]
      simp only [List.length_cons, List.mem_cons, not_or]
      rw [← h2]
      by_cases c2 : a.st = 2
      · simp [c2]; omega
      · by_cases c3 : a.st = 3
        · simp [c3]; omega
        · simp [c2, c3]; omega
  exact (key l).2
end
end Go.Vg
set_option linter.unusedSimpArgs false
set_option maxRecDepth 100000
set_option linter.unusedVariables false
namespace Go.Vg
open Go Go.Proofs
theorem cCloneRels {H : Heap} {a : Option Addr} {l c : Nat} {ms : List Rls} (hx : Rels H a l ms) (hl : l ≤ 100000) : Spec Tryz.prog 90 [.slice a l c] H fun v H' => ∃ a n c rs, v = .slice a n c ∧ Fresh H H' 27 2 a n c rs.flatten ∧ (∀ r ∈ rs, r.length = 2) ∧ AllR RRl H rs ms := by
  refine TryzvcJ Tryz.func90 (by kernel_rfl) (by kernel_rfl) _ rfl (fun base K => vc147 a l c base H K) fun base hb => ⟨_, eqNil Tryz.underlying60, fun h => ?_, fun h => ?_⟩
  · obtain rfl : a = none := by cases a <;> simp at h ⊢
    obtain ⟨_, rfl⟩ := hx.addr_nil
    exact ⟨none, 0, 0, [], rfl, Fresh.zero, by simp, trivial⟩
  · intro g H1 hN1 _ hg
    obtain ⟨rs, h1, h2, h3, h4⟩ := hx.rows RRl.len
    exact ⟨[], _, Row.zero, h3, allOne_rows RRl.one h2, h4.imp id (fun ⟨b, o, hb, hc⟩ => ⟨b, o, hb, cellsAt_ext hN1.ext hc⟩), by omega, by omega, fun a3 c3 H3 hG hR => ⟨_, _, _, rs, rfl, hR.fresh hb, h1, h2⟩⟩
theorem cCloneKns {H : Heap} {a : Option Addr} {l c : Nat} {xs : List Kn} (hx : Kns H a l xs) (hl : l ≤ 100000) : Spec Tryz.prog 91 [.slice a l c] H fun v H' => ∃ a n c, v = .slice a n c ∧ Fresh H H' 110 3 a n c (xs.flatMap knCells) := by
  refine TryzvcJ Tryz.func91 (by kernel_rfl) (by kernel_rfl) _ rfl (fun base K => vc148 a l c base H K) fun base hb => ⟨_, eqNil Tryz.underlying61, fun h => ?_, fun h => ?_⟩
  · obtain rfl : a = none := by cases a <;> simp at h ⊢
    obtain ⟨_, rfl⟩ := hx.addr_nil
    exact ⟨none, 0, 0, rfl, Fresh.zero⟩
  · intro g H1 hN1 _ hg
    obtain ⟨hc1, hc2⟩ := hx.cells knCells_len hN1.ext
    exact ⟨[], xs.flatMap knCells, Row.zero, hc1, allOne_flat knCells_one xs, hc2, by omega, by omega, fun a3 c3 H3 hG hR => ⟨_, _, _, rfl, hR.fresh hb⟩⟩
theorem Row.other {base : Nat} {H H' : Heap} {e : TypeId} {sz : Nat} {a : Option Addr} {n c b o : Nat} {k : KB} {xs vs : List Value} (h : Row base H e sz a n c xs) (hu : Upd H b o k vs H') (hne : c ≠ 0 → a ≠ some ⟨b, 0, none⟩) : Row base H' e sz a n c xs := by
  obtain ⟨h1, h2, h3, h4⟩ := h
  by_cases hc : c = 0
  · exact ⟨h1, h2, h3, .inl ⟨by omega, hc⟩⟩
  · refine ⟨h1, h2, h3, h4.imp id fun ⟨g, k', q1, q2, q3, q4⟩ => ⟨g, k', q1, q2, ?_, q4⟩⟩
    rw [hu.there g (fun e => hne hc (by rw [q1, e]))]; exact q3
theorem Row.stay {base : Nat} {H H' : Heap} {f : TypeId} {sy : Nat} {a a' b : Option Addr} {c c' nn m d : Nat} {ys : List Value} (h : Row base H f sy b m d ys) (hG : Grew base H H' a c a' c' nn) (hs : c ≠ 0 → d ≠ 0 → a ≠ b) : Row base H' f sy b m d ys ∧ (c' ≠ 0 → d ≠ 0 → a' ≠ b) := by
  obtain ⟨h1, h2, h3, h4⟩ := h
  rcases h4 with ⟨h5, h6⟩ | ⟨g, k, hb, hbase, hH, hr⟩
  · exact ⟨⟨h1, h2, h3, .inl ⟨h5, h6⟩⟩, fun _ hd => absurd h6 hd⟩
  · by_cases hd : d = 0
    · exact ⟨⟨h1, h2, h3, .inl ⟨by omega, hd⟩⟩, fun _ h => absurd hd h⟩
    · refine ⟨⟨h1, h2, h3, .inr ⟨g, k, hb, hbase, hG.keep g k hH ?_, hr⟩⟩, fun hc' _ e => ?_⟩
      · by_cases hc : c = 0
        · exact .inl hc
        · exact .inr fun e => hs hc hd (by rw [e, hb])
      · rcases hG.place hc' g (by rw [e, hb]) with h | ⟨h, hc⟩
        · rw [hH] at h; cases h
        · exact hs hc hd (by rw [← h, e])
theorem OwnSl.other {α : Type} {R : Rep α} {sz : Nat} {e : TypeId} {base : Nat} {G H H' : Heap} {a : Option Addr} {n c b o : Nat} {k : KB} {vs : List Value} {rows : List (List Value)} {xs : List α} (h : OwnSl R sz e base G H a n c rows xs) (hu : Upd H b o k vs H') (hne : c ≠ 0 → a ≠ some ⟨b, 0, none⟩) (hG : G b = none) :
    OwnSl R sz e base G H' a n c rows xs :=
  ⟨h.row.other hu hne, h.wid, h.all, fun x k hx => by
    rw [hu.there x (fun e => by rw [e, hG] at hx; cases hx)]; exact h.sub x k hx, h.clear⟩
/-- A leader of the call's own. -/
structure OwnL (base : Nat) (G H : Heap) (l : Ldr) (la : Option Addr) (ll lc : Nat) (ka : Option Addr) (kl kc : Nat) (rows : List (List Value)) : Prop where
  rels : OwnSl RRl 2 27 base G H la ll lc rows l.rels
  ags : Row base H 110 3 ka kl kc (l.ags.flatMap knCells)
  apart : lc ≠ 0 → kc ≠ 0 → la ≠ ka
  clear : kc ≠ 0 → ∀ g, ka = some ⟨g, 0, none⟩ → G g = none
structure NewL (H G H' : Heap) (l : Ldr) (la : Option Addr) (ll lc : Nat) (ka : Option Addr) (kl kc : Nat) (rows : List (List Value)) : Prop where
  rels : NewSl RRl 2 27 H G H' la ll lc rows l.rels
  ags : Fresh H H' 110 3 ka kl kc (l.ags.flatMap knCells)
  apart : lc ≠ 0 → kc ≠ 0 → la ≠ ka
  clear : kc ≠ 0 → ∀ g, ka = some ⟨g, 0, none⟩ → G g = none
theorem NewL.own {base : Nat} {H G H' : Heap} {l : Ldr} {la ka : Option Addr} {ll lc kl kc : Nat} {rows : List (List Value)} (h : NewL H G H' l la ll lc ka kl kc rows) (hN : Next base H H') : OwnL base G H' l la ll lc ka kl kc rows :=
  ⟨h.rels.own hN, h.ags.row hN, h.apart, h.clear⟩
theorem kns_row {base : Nat} {H : Heap} {ka : Option Addr} {kl kc : Nat} {xs : List Kn} (h : Row base H 110 3 ka kl kc (xs.flatMap knCells)) : Kns H ka kl xs := sl_of_rowE knCells_len (by omega) h
theorem OwnL.at_ {base : Nat} {G H : Heap} {l : Ldr} {la ka : Option Addr} {ll lc kl kc : Nat} {rows : List (List Value)} (h : OwnL base G H l la ll lc ka kl kc rows) : LdrAt H l la ll ka kl := ⟨h.rels.sl RRl.mono (by omega), kns_row h.ags⟩
theorem OwnL.ext {base : Nat} {G H H' : Heap} {l : Ldr} {la ka : Option Addr} {ll lc kl kc : Nat} {rows : List (List Value)} (h : OwnL base G H l la ll lc ka kl kc rows) (x : Ext H H') : OwnL base G H' l la ll lc ka kl kc rows := ⟨h.rels.ext x, h.ags.ext x, h.apart, h.clear⟩
theorem cCopyL {H : Heap} {l : Ldr} {la ka : Option Addr} {ll lc kl kc : Nat} (h : LdrAt H l la ll ka kl) (hl1 : ll ≤ 100000) (hl2 : kl ≤ 100000) (hk : ∀ m ∈ l.rels, m.lock.length ≤ 100000) :
    Spec Tryz.prog 55 [ldrArg l la ll lc ka kl kc] H fun v H' => ∃ la ll lc ka kl kc G rows, v = ldrArg l la ll lc ka kl kc ∧ NewL H G H' l la ll lc ka kl kc rows := by
  refine TryzvcJ Tryz.func55 (by kernel_rfl) (by kernel_rfl) _ rfl (fun base K => vc129 la ka ll lc kl kc l.now l.goal l.nx l.back base H K) fun base hb => ?_
  intro b b0
  have hml := h.rels.len
  refine (cCloneRels h.rels hl1).mono fun v H1 e1 hv => ?_
  obtain ⟨a1, n1, c1, rs, rfl, hF, hw, hA⟩ := hv
  refine ⟨a1, n1, c1, rfl, fun hN1 => ?_⟩
  refine (cCloneKns (h.ext e1).ags hl2).mono fun v H2 e2 hv => ?_
  obtain ⟨a2, n2, c2, rfl, hF2⟩ := hv
  refine ⟨a2, n2, c2, rfl, fun hN2 => ?_⟩
  have hR := (hF.row hN1).ext e2
  have hK := hF2.row hN2
  have hrl : rs.length = n1 := by
    have := hR.1
    rw [flat_wid hw] at this
    omega
  have hrm := hA.len
  have hapart : c1 ≠ 0 → c2 ≠ 0 → a1 ≠ a2 := fun q1 q2 e => by
    rcases hF.2.2.2 with ⟨_, h0⟩ | ⟨g, k, w1, w2, w3, _⟩
    · exact q1 h0
    · rcases hF2.2.2.2 with ⟨_, h0⟩ | ⟨g', k', u1, u2, _⟩
      · exact q2 h0
      · rw [e, u1] at w1; simp at w1; subst w1; rw [w3] at u2; cases u2
  refine ⟨fun vs Hc => ∃ (i : Nat) (r1 : List (List Value)) (G : Heap), vs = [i64 i] ∧ i ≤ n1 ∧ r1.length = i ∧ (∀ r ∈ r1, r.length = 2) ∧ Row base Hc 27 2 a1 n1 c1 (r1 ++ rs.drop i).flatten ∧ Row base Hc 110 3 a2 n2 c2 (l.ags.flatMap knCells) ∧ AllR RRl G r1 (l.rels.take i) ∧ Away H G ∧ Ext G Hc ∧ (c1 ≠ 0 → ∀ g, a1 = some ⟨g, 0, none⟩ → G g = none) ∧ (c2 ≠ 0 → ∀ g, a2 = some ⟨g, 0, none⟩ → G g = none),
    upTo n1 0, ⟨0, [], fun _ => none, rfl, by omega, rfl, by simp, hR, hK, by simp [AllR], fun _ _ h => (by cases h), fun _ _ h => (by cases h), fun _ _ _ => rfl, fun _ _ _ => rfl⟩, fun m H3 hN3 hI => ?_⟩
  obtain ⟨i, r1, G, hvs, hi, hr1, hw1, hR2, hK2, hA2, haw, hsub, hcl, hcl2⟩ := hI
  obtain rfl : m = (i : Int) := by simpa using hvs
  refine ⟨fun hlt => ?_, fun hge => ?_⟩
  · have hri : rs[i]? = some (rs[i]'(by omega)) := List.getElem?_eq_getElem (by omega)
    have hmi : l.rels[i]? = some (l.rels[i]'(by omega)) := List.getElem?_eq_getElem (by omega)
    generalize hrr : rs[i]'(by omega) = r at hri
    generalize hmm : l.rels[i]'(by omega) = m at hmi
    obtain ⟨pa, pn, pc, rfl, hp, hg⟩ := hA.get hri hmi
    have hpl := hp.len
    have hkm := hk m (List.mem_of_getElem? hmi)
    have hwL : ∀ r ∈ r1 ++ rs.drop i, r.length = 2 := fun r hr => by
      rcases List.mem_append.1 hr with hr | hr
      · exact hw1 r hr
      · exact hw r (List.mem_of_mem_drop hr)
    have hat : (r1 ++ rs.drop i)[i]? = some [i64 m.id, .slice pa pn pc] := by
      rw [List.getElem?_append_right (by omega), hr1, Nat.sub_self, List.getElem?_drop, Nat.add_zero]; exact hri
    obtain ⟨b, hab, hcell⟩ := hR2.at hwL (by simp; omega) hat
    have hd := drop_at hri
    refine ⟨b, 0, hab, by omega, hlt, _, _, _, _, ⟨hcell 0 _ rfl, hcell 1 _ rfl, trivial⟩, fun b2 => ?_⟩
    refine (cCloneJ (hp.ext' hN3.ext) (by omega)).mono fun v H4 e4 hv => ?_
    obtain ⟨a6, n6, c6, rfl, hF6⟩ := hv
    refine ⟨a6, n6, c6, rfl, fun hN4 => ?_⟩
    obtain ⟨b3, k3, hb3, hbase, hc1, hH2, hf3, hs3, _⟩ := hR2.block (by omega)
    obtain rfl : b = b3 := by rw [hab] at hb3; simpa using hb3
    have hnc := hR2.2.1
    refine ⟨b, 0, hab, by omega, hlt, k3, e4 _ _ hH2, hf3, hbase, by rw [hs3, Int.toNat_natCast]; omega, fun H5 hu => ?_⟩
    rintro r rfl
    rw [wrap_in (by omega) (by omega)]
    rw [Int.toNat_natCast] at hu
    have hR4 := (hR2.ext e4).upd hab hc1 (e4 _ _ hH2) (o := 0 + i * 2 + 1) (vs := [.slice a6 n6 c6]) (by rw [hR2.1]; show 0 + i * 2 + 1 + 1 ≤ n1 * 2; omega) hu
    have hK4 := (hK2.ext e4).other hu (fun q e => hapart hc1 q (by rw [hab, e]))
    rw [hd, show 0 + i * 2 + 1 = r1.length * 2 + 1 from by omega, rows_set hw1 rfl (by simp)] at hR4
    have hnew : RRl (G.plus (newOf H3 H4)) (setRange [i64 m.id, .slice pa pn pc] 1 [.slice a6 n6 c6]) m := ⟨a6, n6, c6, rfl, Sl.ext REnc.mono (hF6.sl_new pinCells_len (by omega)) (new_in_grow hsub), hg⟩
    have hGb : (G.plus (newOf H3 H4)) b = none := by
      unfold Heap.plus newOf
      rw [hcl hc1 b hab, hH2]
    refine ⟨rfl, ⟨i + 1, r1 ++ [setRange [i64 m.id, .slice pa pn pc] 1 [.slice a6 n6 c6]], G.plus (newOf H3 H4), rfl, by omega, by simp [hr1], fun r hr => ?_, by simpa using hR4, hK4, ?_, ?_, fun x k hx => ?_, fun _ g hg => ?_, fun q g hg => ?_⟩, by simp [upTo]; omega⟩
    · rcases List.mem_append.1 hr with hr | hr
      · exact hw1 r hr
      · simp at hr; subst hr; rfl
    · rw [take_at hmi]
      exact AllR.append (AllR.one hnew) (hA2.mono RRl.mono plus_left)
    · exact plus_away haw (newOf_away.sub hN3.ext)
    · have hne : x ≠ b := fun e => by rw [e, hGb] at hx; cases hx
      rw [hu.there x hne]
      exact plus_sub (hsub.trans e4) newOf_ext x k hx
    · rw [hab] at hg; simp at hg; subst hg; exact hGb
    · unfold Heap.plus newOf
      rw [hcl2 q g hg]
      rcases hK2.2.2.2 with ⟨_, h0⟩ | ⟨g', k', u1, _, u3, _⟩
      · exact absurd h0 q
      · rw [hg] at u1; simp at u1; subst u1; rw [u3]
  · obtain rfl : i = n1 := by omega
    rw [List.drop_eq_nil_of_le (by omega), List.append_nil] at hR2
    rw [List.take_of_length_le (by omega)] at hA2
    exact ⟨_, _, _, _, _, _, G, r1, rfl, OwnSl.new ⟨hR2, hw1, hA2, hsub, hcl⟩ hb haw, hK2.fresh hb, hapart, hcl2⟩
/-! ### New ones -/
theorem rels_box {H : Heap} {g : Nat} {ty : TypeId} {m : Rls} {a : Option Addr} {n c : Nat} (h : H g = some (boxKB ty [i64 m.id, .slice a n c])) (hp : Pins H a n m.lock) (hg : Rg m.id) : Rels H (some ⟨g, 0, none⟩) 1 [m] :=
  Sl.of_has (rows := [[i64 m.id, .slice a n c]]) (Has.of_box h rfl (by simp) rfl (by omega)) rfl fun i r x hr hx => by
    cases i with
    | zero => simp at hr hx; subst hr; subst hx; exact ⟨a, n, c, rfl, hp, hg⟩
    | succ i => simp at hr
theorem kns_box {H : Heap} {g n : Nat} {ty : TypeId} (h : H g = some (boxKB ty (List.flatten (List.replicate n [i64 0, i64 0, .bool false])))) (hn : n ≤ 100000) : Kns H (some ⟨g, 0, none⟩) n (List.replicate n ⟨0, 0, false⟩) := by
  refine sl_of_boxE (ty := ty) knCells_len ?_ (by simp) (by omega)
  rw [h]
  congr 2
  rw [List.flatMap_def, List.map_replicate]
  rfl
theorem rg_id {r : Rls} (h : relErr r = 0) : Rg r.id := by have := (relErr_zero h).1; unfold Rg; omega
section
variable {H : Heap} {c : Conf} {fa ra wa : Option Addr} {fl fc rl rc wl wc : Nat} {l : Ldr} {la ka : Option Addr} {ll lc kl kc : Nat}
theorem cNewL (hc : CfgAt H c fa fl ra rl wa wl) : Spec Tryz.prog 48 [cfgArg c fa fl fc ra rl rc wa wl wc] H fun v H' => ∃ la ll lc ka kl kc, v = .tuple #[ldrArg (if cfgErr c = 0 then newLdr c else noLdr) la ll lc ka kl kc, i64 (cfgErr c)] ∧ LdrAt H' (if cfgErr c = 0 then newLdr c else noLdr) la ll ka kl := by
  refine TryzvcJ Tryz.func48 (by kernel_rfl) (by kernel_rfl) _ rfl (fun base K => vc84 c.first.id c.bud fa ra wa fl fc rl rc wl wc base H K) fun base hb => ?_
  intro b b0
  refine (cConfig hc).int1 fun H1 e1 _ => ⟨fun q => ?_, fun q => ?_⟩
  · rw [if_neg q]; exact ⟨none, 0, 0, none, 0, 0, rfl, Sl.nil, Sl.nil⟩
  have q0 : cfgErr c = 0 := Decidable.not_not.1 q
  rw [if_pos q0, q0]
  obtain ⟨z1, z2, z3, z4, z5, z6, z7⟩ := cfgErr_zero q0
  have hag := (agents_same z7).2
  have hfl := hc.pins.len
  have hf12 := (relErr_zero z1).2.2
  refine (cCloneJ (hc.ext e1).pins (by omega)).mono fun v H2 e2 hv => ?_
  obtain ⟨a, n, c', rfl, hF⟩ := hv
  refine ⟨a, n, c', rfl, fun hN2 => ?_⟩
  have hP : Pins H2 a n c.first.lock := pins_of_row (hF.row hN2)
  have hc2 := (hc.ext e1).ext e2
  have fin : ∀ {H' : Heap} {g g1 : Nat}, Ext H2 H' → H' g = some (boxKB 27 [.int .i64 1, .slice a n c']) → H' g1 = some (boxKB 110 (List.flatten (List.replicate (agentsOf c.waves).toNat [.int .i64 0, .int .i64 0, .bool false]))) →
      ∃ la ll lc ka kl kc, Value.tuple #[.agg #[.slice (some ⟨g, 0, none⟩) 1 1, .int .i64 1, .int .i64 0, .bool false, .slice (some ⟨g1, 0, none⟩) (agentsOf c.waves).toNat (agentsOf c.waves).toNat, .int .i64 1], .int .i64 0] = .tuple #[ldrArg (newLdr c) la ll lc ka kl kc, i64 0] ∧ LdrAt H' (newLdr c) la ll ka kl := fun e hg hg1 => by
    refine ⟨_, _, _, _, _, _, rfl, ?_, ?_⟩
    · exact rels_box (m := c.first) (by rw [z2]; exact hg) (hP.ext' e) (rg_id z1)
    · exact kns_box hg1 (by omega)
  intro b1
  refine ⟨fun g H3 hN3 _ hg => ?_, ?_⟩
  · refine (cAgents (hc2.ext hN3.ext)).int1 fun H4 e4 _ => ⟨by omega, by omega, by omega, by omega, fun g1 H5 hN5 _ hg1 => ?_⟩
    exact fin ((Ext.trans hN3.ext e4).trans hN5.ext) (hN5.ext _ _ (e4 _ _ hg)) hg1
  · refine (cAgents hc2).int1 fun H3 e3 _ => ⟨fun g H4 hN4 _ hg => ⟨by omega, by omega, by omega, by omega, fun g1 H5 hN5 _ hg1 => ?_⟩, by omega, by omega, by omega, by omega, fun g H4 hN4 _ hg g1 H5 hN5 _ hg1 => ?_⟩
    · exact fin ((e3.trans hN4.ext).trans hN5.ext) (hN5.ext _ _ hg) hg1
    · exact fin ((e3.trans hN4.ext).trans hN5.ext) hg1 (hN5.ext _ _ hg)
/-! ### Turn, Over -/
def turnErr (c : Conf) (l : Ldr) (k : Int) : Int := if ldrErr c l ≠ 0 then ldrErr c l else if k < 0 ∨ (l.ags.length : Int) ≤ k then 5 else if l.goal = 0 then 7 else 0
def turnRel (c : Conf) (l : Ldr) (k : Int) : Rls := if turnErr c l k = 0 then (l.rels[(goalOf l - 1).toNat]?).getD ⟨0, []⟩ else ⟨0, []⟩
def turnT (c : Conf) (l : Ldr) (k : Int) : Bool := if turnErr c l k = 0 then turnOf c l k else false
def overErr (c : Conf) (l : Ldr) : Int := if ldrErr c l ≠ 0 then ldrErr c l else if l.goal = 0 then 7 else 0
def overT (c : Conf) (l : Ldr) : Bool := if overErr c l = 0 then overOf c l else false
theorem ags_six (hE : ldrErr c l = 0) : l.ags.length ≤ 6 ∧ (l.ags.length : Int) = agentsOf c.waves := by
  obtain ⟨g1, g2, g3, g4, g5, g6, g7⟩ := ldrErr_zero.1 hE
  have hag : (l.ags.length : Int) = agentsOf c.waves := by
    by_cases q : (l.ags.length : Int) = agentsOf c.waves
    · exact q
    · exact absurd (.inr (.inr (.inl q))) g6
  have := (agents_same (cfgErr_zero g1).2.2.2.2.2.2).2
  exact ⟨by omega, hag⟩
theorem cTurnL (hc : CfgAt H c fa fl ra rl wa wl) (h : LdrAt H l la ll ka kl) (k : Int) : Spec Tryz.prog 51 [cfgArg c fa fl fc ra rl rc wa wl wc, ldrArg l la ll lc ka kl kc, i64 k] H fun v H' => ∃ a n c', v = .tuple #[.bool (turnT c l k), .agg #[.int .i64 (turnRel c l k).id, .slice a n c'], i64 (turnErr c l k)] ∧ Pins H' a n (turnRel c l k).lock := by
  refine TryzvcJ Tryz.func51 (by kernel_rfl) (by kernel_rfl) _ rfl (fun base K => vc80 c.first.id c.bud fa ra wa fl fc rl rc wl wc la ka ll lc kl kc l.now l.goal l.nx l.back k base H K) fun base hb => ?_
  have bad : ∀ {e : Int} {H' : Heap}, turnErr c l k = e → e ≠ 0 → ∃ a n c', Value.tuple #[.bool false, .agg #[.int .i64 0, .slice none 0 0], .int .i64 e] = .tuple #[.bool (turnT c l k), .agg #[.int .i64 (turnRel c l k).id, .slice a n c'], i64 (turnErr c l k)] ∧ Pins H' a n (turnRel c l k).lock := fun he h0 => by
    have e1 : turnT c l k = false := by rw [turnT, if_neg (by omega)]
    have e2 : turnRel c l k = ⟨0, []⟩ := by rw [turnRel, if_neg (by omega)]
    rw [e1, e2, he]
    exact ⟨none, 0, 0, rfl, Sl.nil⟩
  intro b b1 b2
  have hkl := h.ags.len
  have hll := h.rels.len
  refine (cLdrCheck hc h).int1 fun H1 e1 _ => ⟨fun q => bad (by rw [turnErr, if_pos q]) q, fun q => ?_⟩
  have q0 : ldrErr c l = 0 := Decidable.not_not.1 q
  obtain ⟨g1, g2, g3, g4, g5, g6, g7⟩ := ldrErr_zero.1 q0
  unfold ldrRange at g5
  have h6 := ags_six q0
  refine ⟨k < 0 ∨ (l.ags.length : Int) ≤ k, ⟨fun w => ⟨rfl, fun _ _ h => h, .inl w⟩, fun w => ⟨rfl, fun _ _ h => h, by omega⟩⟩, fun w => bad (by rw [turnErr, if_neg q, if_pos w]) (by omega), fun w => ⟨fun w2 => bad (by rw [turnErr, if_neg q, if_neg w, if_pos w2]) (by omega), fun w2 => ?_⟩⟩
  have hT0 : turnErr c l k = 0 := by rw [turnErr, if_neg q, if_neg w, if_neg w2]
  have hT1 : turnT c l k = turnOf c l k := by rw [turnT, if_pos hT0]
  have hlk := rel_lock g4
  refine ⟨fun hk => ?_, fun hk => ?_⟩
  all_goals
    rintro _ rfl
    rw [wrap_in (by omega) (by omega)]
    refine h.rels.rl e1 (by omega) (by omega) fun m ma mn mc hm hp => fun b5 => ?_
    have hgo : l.rels[(goalOf l - 1).toNat]? = some m := by unfold goalOf; simp only [hk]; simpa using hm
    have hT2 : turnRel c l k = m := by rw [turnRel, if_pos hT0, hgo]; rfl
    have hml := hlk m (List.mem_of_getElem? hm)
    have hpl := hp.len
    refine (cTurn (hc.ext e1) (h.ext e1) h6.1 (k := k) (by omega) (by omega)).bool1 fun H2 e2 _ => (cCloneJ (hp.ext' (e1.trans e2)) (by omega)).slF fun a5 n5 c5 H3 e3 hN3 hF => ?_
    rw [hT0, hT1, hT2]
    exact ⟨_, _, _, rfl, pins_of_row hF⟩
theorem cOverL (hc : CfgAt H c fa fl ra rl wa wl) (h : LdrAt H l la ll ka kl) : Spec Tryz.prog 52 [cfgArg c fa fl fc ra rl rc wa wl wc, ldrArg l la ll lc ka kl kc] H fun v _ => v = .tuple #[.bool (overT c l), i64 (overErr c l)] := by
  refine TryzvcJ Tryz.func52 (by kernel_rfl) (by kernel_rfl) _ rfl (fun base K => vc81 c.first.id c.bud fa ra wa fl fc rl rc wl wc la ka ll lc kl kc l.now l.goal l.nx l.back base H K) fun base hb => ?_
  intro b b1
  refine (cLdrCheck hc h).int1 fun H1 e1 _ => ⟨fun q => ?_, fun q => ⟨fun w => ?_, fun w => ?_⟩⟩
  · have e : overErr c l = ldrErr c l := by rw [overErr, if_pos q]
    rw [overT, if_neg (by omega), e]
  · have e : overErr c l = 7 := by rw [overErr, if_neg q, if_pos w]
    rw [overT, if_neg (by omega), e]
  · have e : overErr c l = 0 := by rw [overErr, if_neg q, if_neg w]
    rw [overT, if_pos e, e]
    exact (cOver (hc.ext e1) (h.ext e1) (ags_six (Decidable.not_not.1 q)).1).bool1 fun H2 e2 _ => rfl
end
end Go.Vg
