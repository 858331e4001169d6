/- Verification conditions of functions, as the definitions of this proof reckon them (each by the kernel). -/
import Derived.Test.YtonlnlkkokigiaaSeatJ
set_option maxRecDepth 100000
set_option linter.unusedSimpArgs false
set_option linter.unusedVariables false
namespace Go.Vg
open Go Go.Proofs
abbrev vt21_5 (fid bud : Int) (fa ra wa : Option Addr) (fl fc rl rc wl wc : Nat) (la ka : Option Addr) (ll lc kl kc : Nat) (now goal nx : Int) (back : Bool) (k : Int) (la' ka' : Option Addr) (ll' lc' kl' kc' : Nat) (now' goal' nx' : Int) (back' : Bool) (base : Nat) (H : Heap) (K : Value → List (List Value) → Heap → Prop) (n_11 : Int) (b : Nat) (b_1 : Nat) (b_2 : Nat) (b_4 : Nat) (a : Option Addr) (n : Nat) (c : Nat) (n_1 : Int) (n_2 : Int) (b_3 : Bool) (a_1 : Option Addr) (n_3 : Nat) (c_1 : Nat) (n_4 : Int) (b_6 : Nat) (n_6 : Int) (a_3 : Option Addr) (n_7 : Nat) (c_2 : Nat) (b_8 : Nat) (a_9 : Option Addr) (n_12 : Nat) (c_3 : Nat) (n_13 : Int) (n_14 : Int) (b_9 : Bool) (a_10 : Option Addr) (n_15 : Nat) (c_4 : Nat) (n_16 : Int) (H' : Heap) (φ : Prop) : Prop :=
 ¬n_11 = 0 → [Bx.mk b false 101 [.int .i64 fid, .slice fa fl fc, .slice ra rl rc, .slice wa wl wc, .int .i64 bud], Bx.mk b_1 false 105 [.slice la ll lc, .int .i64 now, .int
 .i64 goal, .bool back, .slice ka kl kc, .int .i64 nx], Bx.mk b_2 false 105 [.slice la' ll' lc', .int .i64 now', .int .i64 goal', .bool back', .slice ka' kl' kc',
 .int .i64 nx'], Bx.mk b_4 false 105 [.slice a n c, .int .i64 n_1, .int .i64 n_2, .bool b_3, .slice a_1 n_3 c_1, .int .i64 n_4], Bx.mk b_6 false 59 [.int .i64
 n_6, .slice a_3 n_7 c_2], Bx.mk b_8 false 105 [.slice a_9 n_12 c_3, .int .i64 n_13, .int .i64 n_14, .bool b_9, .slice a_10 n_15 c_4, .int .i64 n_16]] = [Bx.mk b false 101
 [.int .i64 fid, .slice fa fl fc, .slice ra rl rc, .slice wa wl wc, .int .i64 bud], Bx.mk b_1 false 105 [.slice la ll lc, .int .i64 now, .int .i64 goal, .bool
 back, .slice ka kl kc, .int .i64 nx], Bx.mk b_2 false 105 [.slice la' ll' lc', .int .i64 now', .int .i64 goal', .bool back', .slice ka' kl' kc', .int .i64 nx'], Bx.mk
 b_4 false 105 [.slice a n c, .int .i64 n_1, .int .i64 n_2, .bool b_3, .slice a_1 n_3 c_1, .int .i64 n_4], Bx.mk b_6 false 59 [.int .i64 n_6, .slice a_3 n_7 c_2], Bx.mk
 b_8 false 105 [.slice a_9 n_12 c_3, .int .i64 n_13, .int .i64 n_14, .bool b_9, .slice a_10 n_15 c_4, .int .i64 n_16]] ∧ SubH H' H' ∧ ¬φ
abbrev vt21_15 (fid bud : Int) (fa ra wa : Option Addr) (fl fc rl rc wl wc : Nat) (la ka : Option Addr) (ll lc kl kc : Nat) (now goal nx : Int) (back : Bool) (k : Int) (la' ka' : Option Addr) (ll' lc' kl' kc' : Nat) (now' goal' nx' : Int) (back' : Bool) (base : Nat) (H : Heap) (K : Value → List (List Value) → Heap → Prop) (b_5 : Bool) (n_6 : Int) (a_3 : Option Addr) (n_7 : Nat) (c_2 : Nat) (H'_8 : Heap) (b : Nat) (b_1 : Nat) (b_2 : Nat) (b_4 : Nat) (a : Option Addr) (n : Nat) (c : Nat) (n_1 : Int) (n_2 : Int) (b_3 : Bool) (a_1 : Option Addr) (n_3 : Nat) (c_1 : Nat) (n_4 : Int) (b_6 : Nat) (b_8 : Nat) (a_9 : Option Addr) (n_12 : Nat) (c_3 : Nat) (n_13 : Int) (n_14 : Int) (b_9 : Bool) (a_10 : Option Addr) (n_15 : Nat) (c_4 : Nat) (n_16 : Int) (φ : Prop) : Prop :=
 b_5 = false → Spec Try.prog 99 [.agg #[.int .i64 n_6, .slice a_3 n_7 c_2], .agg #[.int .i64 0, .slice none 0 0]] H'_8 fun (v : Value) (H' : Heap) => ∃ (b_15 : Bool), v = .bool b_15 ∧
 (Next base H'_8 H' → [Bx.mk b false 101 [.int .i64 fid, .slice fa fl fc, .slice ra rl rc, .slice wa wl wc, .int .i64 bud], Bx.mk b_1 false 105 [.slice la ll lc, .int .i64 now,
 .int .i64 goal, .bool back, .slice ka kl kc, .int .i64 nx], Bx.mk b_2 false 105 [.slice la' ll' lc', .int .i64 now', .int .i64 goal', .bool back', .slice ka' kl'
 kc', .int .i64 nx'], Bx.mk b_4 false 105 [.slice a n c, .int .i64 n_1, .int .i64 n_2, .bool b_3, .slice a_1 n_3 c_1, .int .i64 n_4], Bx.mk b_6 false 59 [.int
 .i64 n_6, .slice a_3 n_7 c_2], Bx.mk b_8 false 105 [.slice a_9 n_12 c_3, .int .i64 n_13, .int .i64 n_14, .bool b_9, .slice a_10 n_15 c_4, .int .i64 n_16]] = [Bx.mk b false
 101 [.int .i64 fid, .slice fa fl fc, .slice ra rl rc, .slice wa wl wc, .int .i64 bud], Bx.mk b_1 false 105 [.slice la ll lc, .int .i64 now, .int .i64 goal, .bool
 back, .slice ka kl kc, .int .i64 nx], Bx.mk b_2 false 105 [.slice la' ll' lc', .int .i64 now', .int .i64 goal', .bool back', .slice ka' kl' kc', .int .i64 nx'], Bx.mk
 b_4 false 105 [.slice a n c, .int .i64 n_1, .int .i64 n_2, .bool b_3, .slice a_1 n_3 c_1, .int .i64 n_4], Bx.mk b_6 false 59 [.int .i64 n_6, .slice a_3 n_7 c_2], Bx.mk
 b_8 false 105 [.slice a_9 n_12 c_3, .int .i64 n_13, .int .i64 n_14, .bool b_9, .slice a_10 n_15 c_4, .int .i64 n_16]] ∧ SubH H'_8 H' ∧ (φ ↔ b_15 = true))
abbrev vt21_18 (fid bud : Int) (fa ra wa : Option Addr) (fl fc rl rc wl wc : Nat) (la ka : Option Addr) (ll lc kl kc : Nat) (now goal nx : Int) (back : Bool) (k : Int) (la' ka' : Option Addr) (ll' lc' kl' kc' : Nat) (now' goal' nx' : Int) (back' : Bool) (base : Nat) (H : Heap) (K : Value → List (List Value) → Heap → Prop) (b_5 : Bool) (b : Nat) (b_1 : Nat) (b_2 : Nat) (b_4 : Nat) (a : Option Addr) (n : Nat) (c : Nat) (n_1 : Int) (n_2 : Int) (b_3 : Bool) (a_1 : Option Addr) (n_3 : Nat) (c_1 : Nat) (n_4 : Int) (b_6 : Nat) (n_6 : Int) (a_3 : Option Addr) (n_7 : Nat) (c_2 : Nat) (b_8 : Nat) (a_9 : Option Addr) (n_12 : Nat) (c_3 : Nat) (n_13 : Int) (n_14 : Int) (b_9 : Bool) (a_10 : Option Addr) (n_15 : Nat) (c_4 : Nat) (n_16 : Int) (H'_8 : Heap) (φ : Prop) : Prop :=
 ¬b_5 = false → [Bx.mk b false 101 [.int .i64 fid, .slice fa fl fc, .slice ra rl rc, .slice wa wl wc, .int .i64 bud], Bx.mk b_1 false 105 [.slice la ll lc, .int .i64 now, .int
 .i64 goal, .bool back, .slice ka kl kc, .int .i64 nx], Bx.mk b_2 false 105 [.slice la' ll' lc', .int .i64 now', .int .i64 goal', .bool back', .slice ka' kl' kc',
 .int .i64 nx'], Bx.mk b_4 false 105 [.slice a n c, .int .i64 n_1, .int .i64 n_2, .bool b_3, .slice a_1 n_3 c_1, .int .i64 n_4], Bx.mk b_6 false 59 [.int .i64
 n_6, .slice a_3 n_7 c_2], Bx.mk b_8 false 105 [.slice a_9 n_12 c_3, .int .i64 n_13, .int .i64 n_14, .bool b_9, .slice a_10 n_15 c_4, .int .i64 n_16]] = [Bx.mk b false 101
 [.int .i64 fid, .slice fa fl fc, .slice ra rl rc, .slice wa wl wc, .int .i64 bud], Bx.mk b_1 false 105 [.slice la ll lc, .int .i64 now, .int .i64 goal, .bool
 back, .slice ka kl kc, .int .i64 nx], Bx.mk b_2 false 105 [.slice la' ll' lc', .int .i64 now', .int .i64 goal', .bool back', .slice ka' kl' kc', .int .i64 nx'], Bx.mk
 b_4 false 105 [.slice a n c, .int .i64 n_1, .int .i64 n_2, .bool b_3, .slice a_1 n_3 c_1, .int .i64 n_4], Bx.mk b_6 false 59 [.int .i64 n_6, .slice a_3 n_7 c_2], Bx.mk
 b_8 false 105 [.slice a_9 n_12 c_3, .int .i64 n_13, .int .i64 n_14, .bool b_9, .slice a_10 n_15 c_4, .int .i64 n_16]] ∧ SubH H'_8 H'_8 ∧ ¬φ
abbrev vt21_9 (fid bud : Int) (fa ra wa : Option Addr) (fl fc rl rc wl wc : Nat) (la ka : Option Addr) (ll lc kl kc : Nat) (now goal nx : Int) (back : Bool) (k : Int) (la' ka' : Option Addr) (ll' lc' kl' kc' : Nat) (now' goal' nx' : Int) (back' : Bool) (base : Nat) (H : Heap) (K : Value → List (List Value) → Heap → Prop) (n_8 : Int) (H'_8 : Heap) (b_5 : Bool) (n_6 : Int) (a_3 : Option Addr) (n_7 : Nat) (c_2 : Nat) : Prop :=
 n_8 = 0 → Spec Try.prog 100 [.agg #[.int .i64 fid, .slice fa fl fc, .slice ra rl rc, .slice wa wl wc, .int .i64 bud], .agg #[.slice la ll lc, .int .i64 now, .int
 .i64 goal, .bool back, .slice ka kl kc, .int .i64 nx], .int .i64 k] H'_8 fun (v : Value) (H' : Heap) => ∃ (b : Bool), v = .bool b ∧ (Next base H'_8 H' → ∃ (b_15 : Bool), RunsTo Try.prog
 (binRun BinOp.eql 4 (.tmp 169) (.tmp 173) (.bool b_5) (.bool b)) (.bool b_15) ∧ (b_15 = true → Spec Try.prog 101 [.agg #[.slice la ll lc, .int .i64 now, .int .i64 goal,
 .bool back, .slice ka kl kc, .int .i64 nx]] H' fun (v : Value) (H'_9 : Heap) => ∃ (n : Int), ∃ (a : Option Addr), ∃ (n_23 : Nat), ∃ (c : Nat), v = .agg #[.int .i64 n, .slice a n_23 c] ∧
 (Next base H' H'_9 → Spec Try.prog 99 [.agg #[.int .i64 n_6, .slice a_3 n_7 c_2], .agg #[.int .i64 n, .slice a n_23 c]] H'_9 fun (v : Value) (H' : Heap) => ∃ (b : Bool), v = .bool
 b ∧ (Next base H'_9 H' → K (.bool b) [] H'))) ∧ (¬b_15 = true → K (.bool false) [] H'))
abbrev vt21_10 (fid bud : Int) (fa ra wa : Option Addr) (fl fc rl rc wl wc : Nat) (la ka : Option Addr) (ll lc kl kc : Nat) (now goal nx : Int) (back : Bool) (k : Int) (la' ka' : Option Addr) (ll' lc' kl' kc' : Nat) (now' goal' nx' : Int) (back' : Bool) (base : Nat) (H : Heap) (K : Value → List (List Value) → Heap → Prop) (φ : Prop) (n_8 : Int) (b_5 : Bool) (n_6 : Int) (a_3 : Option Addr) (n_7 : Nat) (c_2 : Nat) (H'_8 : Heap) (b : Nat) (b_1 : Nat) (b_2 : Nat) (b_4 : Nat) (a : Option Addr) (n : Nat) (c : Nat) (n_1 : Int) (n_2 : Int) (b_3 : Bool) (a_1 : Option Addr) (n_3 : Nat) (c_1 : Nat) (n_4 : Int) (b_6 : Nat) (b_8 : Nat) (a_9 : Option Addr) (n_12 : Nat) (c_3 : Nat) (n_13 : Int) (n_14 : Int) (b_9 : Bool) (a_10 : Option Addr) (n_15 : Nat) (c_4 : Nat) (n_16 : Int) : Prop :=
 φ → (¬Int.ofNat 7 = 0 → ∃ (φ : Prop), ((n_8 = 7 → (vt21_15 fid bud fa ra wa fl fc rl rc wl wc la ka ll lc kl kc now goal nx back k la' ka' ll' lc' kl' kc' now' goal' nx' back' base H K b_5 n_6 a_3 n_7 c_2 H'_8 b b_1 b_2 b_4 a n c n_1
 n_2 b_3 a_1 n_3 c_1 n_4 b_6 b_8 a_9 n_12 c_3 n_13 n_14 b_9 a_10 n_15 c_4 n_16 φ) ∧ (vt21_18 fid bud fa ra wa fl fc rl rc wl wc la ka ll lc kl kc now goal nx back k la' ka' ll' lc' kl' kc' now' goal' nx' back' base H K b_5 b b_1 b_2 b_4
 a n c n_1 n_2 b_3 a_1 n_3 c_1 n_4 b_6 n_6 a_3 n_7 c_2 b_8 a_9 n_12 c_3 n_13 n_14 b_9 a_10 n_15 c_4 n_16 H'_8 φ)) ∧ (¬n_8 = 7 → [Bx.mk b false 101 [.int .i64 fid, .slice fa fl fc, .slice ra rl rc, .slice wa wl
 wc, .int .i64 bud], Bx.mk b_1 false 105 [.slice la ll lc, .int .i64 now, .int .i64 goal, .bool back, .slice ka kl kc, .int .i64 nx], Bx.mk b_2 false 105 [.slice la'
 ll' lc', .int .i64 now', .int .i64 goal', .bool back', .slice ka' kl' kc', .int .i64 nx'], Bx.mk b_4 false 105 [.slice a n c, .int .i64 n_1, .int .i64 n_2,
 .bool b_3, .slice a_1 n_3 c_1, .int .i64 n_4], Bx.mk b_6 false 59 [.int .i64 n_6, .slice a_3 n_7 c_2], Bx.mk b_8 false 105 [.slice a_9 n_12 c_3, .int .i64 n_13, .int
 .i64 n_14, .bool b_9, .slice a_10 n_15 c_4, .int .i64 n_16]] = [Bx.mk b false 101 [.int .i64 fid, .slice fa fl fc, .slice ra rl rc, .slice wa wl wc, .int .i64 bud],
 Bx.mk b_1 false 105 [.slice la ll lc, .int .i64 now, .int .i64 goal, .bool back, .slice ka kl kc, .int .i64 nx], Bx.mk b_2 false 105 [.slice la' ll' lc', .int .i64
 now', .int .i64 goal', .bool back', .slice ka' kl' kc', .int .i64 nx'], Bx.mk b_4 false 105 [.slice a n c, .int .i64 n_1, .int .i64 n_2, .bool b_3, .slice a_1 n_3
 c_1, .int .i64 n_4], Bx.mk b_6 false 59 [.int .i64 n_6, .slice a_3 n_7 c_2], Bx.mk b_8 false 105 [.slice a_9 n_12 c_3, .int .i64 n_13, .int .i64 n_14, .bool b_9,
 .slice a_10 n_15 c_4, .int .i64 n_16]] ∧ SubH H'_8 H'_8 ∧ ¬φ)) ∧ K (.bool (@decide φ (Classical.propDecidable φ))) [] H'_8) ∧ (¬¬Int.ofNat 7 = 0 → (vt21_9 fid bud fa ra wa fl fc rl rc wl wc la ka ll lc kl kc now
 goal nx back k la' ka' ll' lc' kl' kc' now' goal' nx' back' base H K n_8 H'_8 b_5 n_6 a_3 n_7 c_2) ∧ (¬n_8 = 0 → K (.bool false) [] H'_8))
abbrev vt21_14 (fid bud : Int) (fa ra wa : Option Addr) (fl fc rl rc wl wc : Nat) (la ka : Option Addr) (ll lc kl kc : Nat) (now goal nx : Int) (back : Bool) (k : Int) (la' ka' : Option Addr) (ll' lc' kl' kc' : Nat) (now' goal' nx' : Int) (back' : Bool) (base : Nat) (H : Heap) (K : Value → List (List Value) → Heap → Prop) (n_11 : Int) (b : Nat) (b_1 : Nat) (b_2 : Nat) (b_4 : Nat) (a : Option Addr) (n : Nat) (c : Nat) (n_1 : Int) (n_2 : Int) (b_3 : Bool) (a_1 : Option Addr) (n_3 : Nat) (c_1 : Nat) (n_4 : Int) (b_6 : Nat) (n_6 : Int) (a_3 : Option Addr) (n_7 : Nat) (c_2 : Nat) (b_8 : Nat) (a_9 : Option Addr) (n_12 : Nat) (c_3 : Nat) (n_13 : Int) (n_14 : Int) (b_9 : Bool) (a_10 : Option Addr) (n_15 : Nat) (c_4 : Nat) (n_16 : Int) (H' : Heap) (φ : Prop) : Prop :=
 (n_11 = 0 → [Bx.mk b false 101 [.int .i64 fid, .slice fa fl fc, .slice ra rl rc, .slice wa wl wc, .int .i64 bud], Bx.mk b_1 false 105 [.slice la ll lc, .int .i64 now, .int
 .i64 goal, .bool back, .slice ka kl kc, .int .i64 nx], Bx.mk b_2 false 105 [.slice la' ll' lc', .int .i64 now', .int .i64 goal', .bool back', .slice ka' kl' kc',
 .int .i64 nx'], Bx.mk b_4 false 105 [.slice a n c, .int .i64 n_1, .int .i64 n_2, .bool b_3, .slice a_1 n_3 c_1, .int .i64 n_4], Bx.mk b_6 false 59 [.int .i64
 n_6, .slice a_3 n_7 c_2], Bx.mk b_8 false 105 [.slice a_9 n_12 c_3, .int .i64 n_13, .int .i64 n_14, .bool b_9, .slice a_10 n_15 c_4, .int .i64 n_16]] = [Bx.mk b false 101
 [.int .i64 fid, .slice fa fl fc, .slice ra rl rc, .slice wa wl wc, .int .i64 bud], Bx.mk b_1 false 105 [.slice la ll lc, .int .i64 now, .int .i64 goal, .bool
 back, .slice ka kl kc, .int .i64 nx], Bx.mk b_2 false 105 [.slice la' ll' lc', .int .i64 now', .int .i64 goal', .bool back', .slice ka' kl' kc', .int .i64 nx'], Bx.mk
 b_4 false 105 [.slice a n c, .int .i64 n_1, .int .i64 n_2, .bool b_3, .slice a_1 n_3 c_1, .int .i64 n_4], Bx.mk b_6 false 59 [.int .i64 n_6, .slice a_3 n_7 c_2], Bx.mk
 b_8 false 105 [.slice a_9 n_12 c_3, .int .i64 n_13, .int .i64 n_14, .bool b_9, .slice a_10 n_15 c_4, .int .i64 n_16]] ∧ SubH H' H' ∧ (φ ↔ goal = 0)) ∧ (vt21_5 fid bud fa ra wa fl fc rl
 rc wl wc la ka ll lc kl kc now goal nx back k la' ka' ll' lc' kl' kc' now' goal' nx' back' base H K n_11 b b_1 b_2 b_4 a n c n_1 n_2 b_3 a_1 n_3 c_1 n_4 b_6 n_6 a_3 n_7 c_2 b_8 a_9 n_12 c_3 n_13 n_14 b_9 a_10 n_15 c_4 n_16 H' φ)
abbrev vt21_1 (fid bud : Int) (fa ra wa : Option Addr) (fl fc rl rc wl wc : Nat) (la ka : Option Addr) (ll lc kl kc : Nat) (now goal nx : Int) (back : Bool) (k : Int) (la' ka' : Option Addr) (ll' lc' kl' kc' : Nat) (now' goal' nx' : Int) (back' : Bool) (base : Nat) (H : Heap) (K : Value → List (List Value) → Heap → Prop) (φ : Prop) (H' : Heap) (b : Nat) (b_1 : Nat) (b_2 : Nat) (b_4 : Nat) (a : Option Addr) (n : Nat) (c : Nat) (n_1 : Int) (n_2 : Int) (b_3 : Bool) (a_1 : Option Addr) (n_3 : Nat) (c_1 : Nat) (n_4 : Int) (b_6 : Nat) (n_6 : Int) (a_3 : Option Addr) (n_7 : Nat) (c_2 : Nat) (b_8 : Nat) (a_9 : Option Addr) (n_12 : Nat) (c_3 : Nat) (n_13 : Int) (n_14 : Int) (b_9 : Bool) (a_10 : Option Addr) (n_15 : Nat) (c_4 : Nat) (n_16 : Int) (n_8 : Int) (b_5 : Bool) : Prop :=
 ¬φ → Spec Try.prog 92 [.agg #[.int .i64 fid, .slice fa fl fc, .slice ra rl rc, .slice wa wl wc, .int .i64 bud], .agg #[.slice la ll lc, .int .i64 now, .int
 .i64 goal, .bool back, .slice ka kl kc, .int .i64 nx]] H' fun (v : Value) (H'_8 : Heap) => ∃ (n_22 : Int), v = .int .i64 n_22 ∧ (Next base H' H'_8 → ∃ (φ : Prop), ((n_22 = 0 → (k < 0 → [Bx.mk
 b false 101 [.int .i64 fid, .slice fa fl fc, .slice ra rl rc, .slice wa wl wc, .int .i64 bud], Bx.mk b_1 false 105 [.slice la ll lc, .int .i64 now, .int .i64 goal,
 .bool back, .slice ka kl kc, .int .i64 nx], Bx.mk b_2 false 105 [.slice la' ll' lc', .int .i64 now', .int .i64 goal', .bool back', .slice ka' kl' kc', .int .i64
 nx'], Bx.mk b_4 false 105 [.slice a n c, .int .i64 n_1, .int .i64 n_2, .bool b_3, .slice a_1 n_3 c_1, .int .i64 n_4], Bx.mk b_6 false 59 [.int .i64 n_6, .slice a_3 n_7
 c_2], Bx.mk b_8 false 105 [.slice a_9 n_12 c_3, .int .i64 n_13, .int .i64 n_14, .bool b_9, .slice a_10 n_15 c_4, .int .i64 n_16]] = [Bx.mk b false 101 [.int .i64 fid,
 .slice fa fl fc, .slice ra rl rc, .slice wa wl wc, .int .i64 bud], Bx.mk b_1 false 105 [.slice la ll lc, .int .i64 now, .int .i64 goal, .bool back, .slice ka kl kc,
 .int .i64 nx], Bx.mk b_2 false 105 [.slice la' ll' lc', .int .i64 now', .int .i64 goal', .bool back', .slice ka' kl' kc', .int .i64 nx'], Bx.mk b_4 false 105 [.slice a
 n c, .int .i64 n_1, .int .i64 n_2, .bool b_3, .slice a_1 n_3 c_1, .int .i64 n_4], Bx.mk b_6 false 59 [.int .i64 n_6, .slice a_3 n_7 c_2], Bx.mk b_8 false 105 [.slice
 a_9 n_12 c_3, .int .i64 n_13, .int .i64 n_14, .bool b_9, .slice a_10 n_15 c_4, .int .i64 n_16]] ∧ SubH H'_8 H'_8 ∧ φ) ∧ (¬k < 0 → [Bx.mk b false 101 [.int .i64 fid, .slice
 fa fl fc, .slice ra rl rc, .slice wa wl wc, .int .i64 bud], Bx.mk b_1 false 105 [.slice la ll lc, .int .i64 now, .int .i64 goal, .bool back, .slice ka kl kc, .int
 .i64 nx], Bx.mk b_2 false 105 [.slice la' ll' lc', .int .i64 now', .int .i64 goal', .bool back', .slice ka' kl' kc', .int .i64 nx'], Bx.mk b_4 false 105 [.slice a n c,
 .int .i64 n_1, .int .i64 n_2, .bool b_3, .slice a_1 n_3 c_1, .int .i64 n_4], Bx.mk b_6 false 59 [.int .i64 n_6, .slice a_3 n_7 c_2], Bx.mk b_8 false 105 [.slice a_9
 n_12 c_3, .int .i64 n_13, .int .i64 n_14, .bool b_9, .slice a_10 n_15 c_4, .int .i64 n_16]] = [Bx.mk b false 101 [.int .i64 fid, .slice fa fl fc, .slice ra rl rc,
 .slice wa wl wc, .int .i64 bud], Bx.mk b_1 false 105 [.slice la ll lc, .int .i64 now, .int .i64 goal, .bool back, .slice ka kl kc, .int .i64 nx], Bx.mk b_2 false 105
 [.slice la' ll' lc', .int .i64 now', .int .i64 goal', .bool back', .slice ka' kl' kc', .int .i64 nx'], Bx.mk b_4 false 105 [.slice a n c, .int .i64 n_1, .int
 .i64 n_2, .bool b_3, .slice a_1 n_3 c_1, .int .i64 n_4], Bx.mk b_6 false 59 [.int .i64 n_6, .slice a_3 n_7 c_2], Bx.mk b_8 false 105 [.slice a_9 n_12 c_3, .int .i64 n_13,
 .int .i64 n_14, .bool b_9, .slice a_10 n_15 c_4, .int .i64 n_16]] ∧ SubH H'_8 H'_8 ∧ (φ ↔ (↑kl : Int) ≤ k))) ∧ (vt21_5 fid bud fa ra wa fl fc rl rc wl wc la ka ll lc kl kc now goal nx back k la' ka'
 ll' lc' kl' kc' now' goal' nx' back' base H K n_22 b b_1 b_2 b_4 a n c n_1 n_2 b_3 a_1 n_3 c_1 n_4 b_6 n_6 a_3 n_7 c_2 b_8 a_9 n_12 c_3 n_13 n_14 b_9 a_10 n_15 c_4 n_16 H'_8 φ)) ∧ (φ → ∃ (φ : Prop), ((Int.ofNat 5 = 0 → [Bx.mk b false
 101 [.int .i64 fid, .slice fa fl fc, .slice ra rl rc, .slice wa wl wc, .int .i64 bud], Bx.mk b_1 false 105 [.slice la ll lc, .int .i64 now, .int .i64 goal, .bool
 back, .slice ka kl kc, .int .i64 nx], Bx.mk b_2 false 105 [.slice la' ll' lc', .int .i64 now', .int .i64 goal', .bool back', .slice ka' kl' kc', .int .i64 nx'], Bx.mk
 b_4 false 105 [.slice a n c, .int .i64 n_1, .int .i64 n_2, .bool b_3, .slice a_1 n_3 c_1, .int .i64 n_4], Bx.mk b_6 false 59 [.int .i64 n_6, .slice a_3 n_7 c_2], Bx.mk
 b_8 false 105 [.slice a_9 n_12 c_3, .int .i64 n_13, .int .i64 n_14, .bool b_9, .slice a_10 n_15 c_4, .int .i64 n_16]] = [Bx.mk b false 101 [.int .i64 fid, .slice fa fl
 fc, .slice ra rl rc, .slice wa wl wc, .int .i64 bud], Bx.mk b_1 false 105 [.slice la ll lc, .int .i64 now, .int .i64 goal, .bool back, .slice ka kl kc, .int .i64
 nx], Bx.mk b_2 false 105 [.slice la' ll' lc', .int .i64 now', .int .i64 goal', .bool back', .slice ka' kl' kc', .int .i64 nx'], Bx.mk b_4 false 105 [.slice a n c, .int
 .i64 n_1, .int .i64 n_2, .bool b_3, .slice a_1 n_3 c_1, .int .i64 n_4], Bx.mk b_6 false 59 [.int .i64 n_6, .slice a_3 n_7 c_2], Bx.mk b_8 false 105 [.slice a_9 n_12 c_3,
 .int .i64 n_13, .int .i64 n_14, .bool b_9, .slice a_10 n_15 c_4, .int .i64 n_16]] ∧ SubH H'_8 H'_8 ∧ (φ ↔ goal = 0)) ∧ (¬Int.ofNat 5 = 0 → [Bx.mk b false 101 [.int .i64 fid,
 .slice fa fl fc, .slice ra rl rc, .slice wa wl wc, .int .i64 bud], Bx.mk b_1 false 105 [.slice la ll lc, .int .i64 now, .int .i64 goal, .bool back, .slice ka kl kc,
 .int .i64 nx], Bx.mk b_2 false 105 [.slice la' ll' lc', .int .i64 now', .int .i64 goal', .bool back', .slice ka' kl' kc', .int .i64 nx'], Bx.mk b_4 false 105 [.slice a
 n c, .int .i64 n_1, .int .i64 n_2, .bool b_3, .slice a_1 n_3 c_1, .int .i64 n_4], Bx.mk b_6 false 59 [.int .i64 n_6, .slice a_3 n_7 c_2], Bx.mk b_8 false 105 [.slice
 a_9 n_12 c_3, .int .i64 n_13, .int .i64 n_14, .bool b_9, .slice a_10 n_15 c_4, .int .i64 n_16]] = [Bx.mk b false 101 [.int .i64 fid, .slice fa fl fc, .slice ra rl rc,
 .slice wa wl wc, .int .i64 bud], Bx.mk b_1 false 105 [.slice la ll lc, .int .i64 now, .int .i64 goal, .bool back, .slice ka kl kc, .int .i64 nx], Bx.mk b_2 false 105
 [.slice la' ll' lc', .int .i64 now', .int .i64 goal', .bool back', .slice ka' kl' kc', .int .i64 nx'], Bx.mk b_4 false 105 [.slice a n c, .int .i64 n_1, .int
 .i64 n_2, .bool b_3, .slice a_1 n_3 c_1, .int .i64 n_4], Bx.mk b_6 false 59 [.int .i64 n_6, .slice a_3 n_7 c_2], Bx.mk b_8 false 105 [.slice a_9 n_12 c_3, .int .i64 n_13,
 .int .i64 n_14, .bool b_9, .slice a_10 n_15 c_4, .int .i64 n_16]] ∧ SubH H'_8 H'_8 ∧ ¬φ)) ∧ (vt21_10 fid bud fa ra wa fl fc rl rc wl wc la ka ll lc kl kc now goal nx back k la' ka' ll' lc' kl' kc' now'
 goal' nx' back' base H K φ n_8 b_5 n_6 a_3 n_7 c_2 H'_8 b b_1 b_2 b_4 a n c n_1 n_2 b_3 a_1 n_3 c_1 n_4 b_6 b_8 a_9 n_12 c_3 n_13 n_14 b_9 a_10 n_15 c_4 n_16) ∧ (¬φ → (¬Int.ofNat 5 = 0 → ∃ (φ : Prop), ((n_8 = 5 → (vt21_15 fid bud fa ra
 wa fl fc rl rc wl wc la ka ll lc kl kc now goal nx back k la' ka' ll' lc' kl' kc' now' goal' nx' back' base H K b_5 n_6 a_3 n_7 c_2 H'_8 b b_1 b_2 b_4 a n c n_1 n_2 b_3 a_1 n_3 c_1 n_4 b_6 b_8 a_9 n_12 c_3 n_13 n_14 b_9 a_10 n_15 c_4
 n_16 φ) ∧ (vt21_18 fid bud fa ra wa fl fc rl rc wl wc la ka ll lc kl kc now goal nx back k la' ka' ll' lc' kl' kc' now' goal' nx' back' base H K b_5 b b_1 b_2 b_4 a n c n_1 n_2 b_3 a_1 n_3 c_1 n_4 b_6 n_6 a_3 n_7 c_2 b_8 a_9 n_12 c_3
 n_13 n_14 b_9 a_10 n_15 c_4 n_16 H'_8 φ)) ∧ (¬n_8 = 5 → [Bx.mk b false 101 [.int .i64 fid, .slice fa fl fc, .slice ra rl rc, .slice wa wl wc, .int .i64 bud], Bx.mk b_1 false 105 [.slice la ll
 lc, .int .i64 now, .int .i64 goal, .bool back, .slice ka kl kc, .int .i64 nx], Bx.mk b_2 false 105 [.slice la' ll' lc', .int .i64 now', .int .i64 goal',
 .bool back', .slice ka' kl' kc', .int .i64 nx'], Bx.mk b_4 false 105 [.slice a n c, .int .i64 n_1, .int .i64 n_2, .bool b_3, .slice a_1 n_3 c_1, .int .i64 n_4],
 Bx.mk b_6 false 59 [.int .i64 n_6, .slice a_3 n_7 c_2], Bx.mk b_8 false 105 [.slice a_9 n_12 c_3, .int .i64 n_13, .int .i64 n_14, .bool b_9, .slice a_10 n_15 c_4, .int
 .i64 n_16]] = [Bx.mk b false 101 [.int .i64 fid, .slice fa fl fc, .slice ra rl rc, .slice wa wl wc, .int .i64 bud], Bx.mk b_1 false 105 [.slice la ll lc, .int .i64 now,
 .int .i64 goal, .bool back, .slice ka kl kc, .int .i64 nx], Bx.mk b_2 false 105 [.slice la' ll' lc', .int .i64 now', .int .i64 goal', .bool back', .slice ka' kl'
 kc', .int .i64 nx'], Bx.mk b_4 false 105 [.slice a n c, .int .i64 n_1, .int .i64 n_2, .bool b_3, .slice a_1 n_3 c_1, .int .i64 n_4], Bx.mk b_6 false 59 [.int
 .i64 n_6, .slice a_3 n_7 c_2], Bx.mk b_8 false 105 [.slice a_9 n_12 c_3, .int .i64 n_13, .int .i64 n_14, .bool b_9, .slice a_10 n_15 c_4, .int .i64 n_16]] ∧ SubH H'_8 H'_8
 ∧ ¬φ)) ∧ K (.bool (@decide φ (Classical.propDecidable φ))) [] H'_8) ∧ (¬¬Int.ofNat 5 = 0 → (vt21_9 fid bud fa ra wa fl fc rl rc wl wc la ka ll lc kl kc now goal nx back k la' ka' ll' lc' kl' kc' now' goal' nx' back' base H K n_8
 H'_8 b_5 n_6 a_3 n_7 c_2) ∧ (¬n_8 = 0 → K (.bool false) [] H'_8)))) ∧ (¬φ → ∃ (φ : Prop), (vt21_14 fid bud fa ra wa fl fc rl rc wl wc la ka ll lc kl kc now goal nx back k la' ka' ll' lc' kl' kc' now' goal' nx' back' base H K n_22
 b b_1 b_2 b_4 a n c n_1 n_2 b_3 a_1 n_3 c_1 n_4 b_6 n_6 a_3 n_7 c_2 b_8 a_9 n_12 c_3 n_13 n_14 b_9 a_10 n_15 c_4 n_16 H'_8 φ) ∧ (vt21_10 fid bud fa ra wa fl fc rl rc wl wc la ka ll lc kl kc now goal nx back k la' ka' ll' lc' kl' kc'
 now' goal' nx' back' base H K φ n_8 b_5 n_6 a_3 n_7 c_2 H'_8 b b_1 b_2 b_4 a n c n_1 n_2 b_3 a_1 n_3 c_1 n_4 b_6 b_8 a_9 n_12 c_3 n_13 n_14 b_9 a_10 n_15 c_4 n_16) ∧ (¬φ → (¬n_22 = 0 → ∃ (φ : Prop), ((n_8 = n_22 → (vt21_15 fid bud fa
 ra wa fl fc rl rc wl wc la ka ll lc kl kc now goal nx back k la' ka' ll' lc' kl' kc' now' goal' nx' back' base H K b_5 n_6 a_3 n_7 c_2 H'_8 b b_1 b_2 b_4 a n c n_1 n_2 b_3 a_1 n_3 c_1 n_4 b_6 b_8 a_9 n_12 c_3 n_13 n_14 b_9 a_10 n_15
 c_4 n_16 φ) ∧ (vt21_18 fid bud fa ra wa fl fc rl rc wl wc la ka ll lc kl kc now goal nx back k la' ka' ll' lc' kl' kc' now' goal' nx' back' base H K b_5 b b_1 b_2 b_4 a n c n_1 n_2 b_3 a_1 n_3 c_1 n_4 b_6 n_6 a_3 n_7 c_2 b_8 a_9 n_12
 c_3 n_13 n_14 b_9 a_10 n_15 c_4 n_16 H'_8 φ)) ∧ (¬n_8 = n_22 → [Bx.mk b false 101 [.int .i64 fid, .slice fa fl fc, .slice ra rl rc, .slice wa wl wc, .int .i64 bud], Bx.mk b_1 false 105
 [.slice la ll lc, .int .i64 now, .int .i64 goal, .bool back, .slice ka kl kc, .int .i64 nx], Bx.mk b_2 false 105 [.slice la' ll' lc', .int .i64 now', .int
 .i64 goal', .bool back', .slice ka' kl' kc', .int .i64 nx'], Bx.mk b_4 false 105 [.slice a n c, .int .i64 n_1, .int .i64 n_2, .bool b_3, .slice a_1 n_3 c_1, .int
 .i64 n_4], Bx.mk b_6 false 59 [.int .i64 n_6, .slice a_3 n_7 c_2], Bx.mk b_8 false 105 [.slice a_9 n_12 c_3, .int .i64 n_13, .int .i64 n_14, .bool b_9, .slice a_10 n_15
 c_4, .int .i64 n_16]] = [Bx.mk b false 101 [.int .i64 fid, .slice fa fl fc, .slice ra rl rc, .slice wa wl wc, .int .i64 bud], Bx.mk b_1 false 105 [.slice la ll lc, .int
 .i64 now, .int .i64 goal, .bool back, .slice ka kl kc, .int .i64 nx], Bx.mk b_2 false 105 [.slice la' ll' lc', .int .i64 now', .int .i64 goal', .bool back',
 .slice ka' kl' kc', .int .i64 nx'], Bx.mk b_4 false 105 [.slice a n c, .int .i64 n_1, .int .i64 n_2, .bool b_3, .slice a_1 n_3 c_1, .int .i64 n_4], Bx.mk b_6 false 59
 [.int .i64 n_6, .slice a_3 n_7 c_2], Bx.mk b_8 false 105 [.slice a_9 n_12 c_3, .int .i64 n_13, .int .i64 n_14, .bool b_9, .slice a_10 n_15 c_4, .int .i64 n_16]] ∧ SubH
 H'_8 H'_8 ∧ ¬φ)) ∧ K (.bool (@decide φ (Classical.propDecidable φ))) [] H'_8) ∧ (¬¬n_22 = 0 → (vt21_9 fid bud fa ra wa fl fc rl rc wl wc la ka ll lc kl kc now goal nx back k la' ka' ll' lc' kl' kc' now' goal' nx' back' base H K
 n_8 H'_8 b_5 n_6 a_3 n_7 c_2) ∧ (¬n_8 = 0 → K (.bool false) [] H'_8)))))
abbrev vt21_6 (fid bud : Int) (fa ra wa : Option Addr) (fl fc rl rc wl wc : Nat) (la ka : Option Addr) (ll lc kl kc : Nat) (now goal nx : Int) (back : Bool) (k : Int) (la' ka' : Option Addr) (ll' lc' kl' kc' : Nat) (now' goal' nx' : Int) (back' : Bool) (base : Nat) (H : Heap) (K : Value → List (List Value) → Heap → Prop) (n_11 : Int) (b : Nat) (b_1 : Nat) (b_2 : Nat) (b_4 : Nat) (a : Option Addr) (n : Nat) (c : Nat) (n_1 : Int) (n_2 : Int) (b_3 : Bool) (a_1 : Option Addr) (n_3 : Nat) (c_1 : Nat) (n_4 : Int) (b_6 : Nat) (n_6 : Int) (a_3 : Option Addr) (n_7 : Nat) (c_2 : Nat) (b_8 : Nat) (H'_7 : Heap) (φ : Prop) : Prop :=
 ¬n_11 = 0 → [Bx.mk b false 101 [.int .i64 fid, .slice fa fl fc, .slice ra rl rc, .slice wa wl wc, .int .i64 bud], Bx.mk b_1 false 105 [.slice la ll lc, .int .i64 now, .int
 .i64 goal, .bool back, .slice ka kl kc, .int .i64 nx], Bx.mk b_2 false 105 [.slice la' ll' lc', .int .i64 now', .int .i64 goal', .bool back', .slice ka' kl' kc',
 .int .i64 nx'], Bx.mk b_4 false 105 [.slice a n c, .int .i64 n_1, .int .i64 n_2, .bool b_3, .slice a_1 n_3 c_1, .int .i64 n_4], Bx.mk b_6 false 59 [.int .i64
 n_6, .slice a_3 n_7 c_2], Bx.mk b_8 false 105 [.slice none 0 0, .int .i64 0, .int .i64 0, .bool false, .slice none 0 0, .int .i64 0]] = [Bx.mk b false 101 [.int .i64
 fid, .slice fa fl fc, .slice ra rl rc, .slice wa wl wc, .int .i64 bud], Bx.mk b_1 false 105 [.slice la ll lc, .int .i64 now, .int .i64 goal, .bool back, .slice ka kl kc,
 .int .i64 nx], Bx.mk b_2 false 105 [.slice la' ll' lc', .int .i64 now', .int .i64 goal', .bool back', .slice ka' kl' kc', .int .i64 nx'], Bx.mk b_4 false 105 [.slice a
 n c, .int .i64 n_1, .int .i64 n_2, .bool b_3, .slice a_1 n_3 c_1, .int .i64 n_4], Bx.mk b_6 false 59 [.int .i64 n_6, .slice a_3 n_7 c_2], Bx.mk b_8 false 105 [.slice
 none 0 0, .int .i64 0, .int .i64 0, .bool false, .slice none 0 0, .int .i64 0]] ∧ SubH H'_7 H'_7 ∧ ¬φ
abbrev vt21_16 (fid bud : Int) (fa ra wa : Option Addr) (fl fc rl rc wl wc : Nat) (la ka : Option Addr) (ll lc kl kc : Nat) (now goal nx : Int) (back : Bool) (k : Int) (la' ka' : Option Addr) (ll' lc' kl' kc' : Nat) (now' goal' nx' : Int) (back' : Bool) (base : Nat) (H : Heap) (K : Value → List (List Value) → Heap → Prop) (b_5 : Bool) (n_6 : Int) (a_3 : Option Addr) (n_7 : Nat) (c_2 : Nat) (H' : Heap) (b : Nat) (b_1 : Nat) (b_2 : Nat) (b_4 : Nat) (a : Option Addr) (n : Nat) (c : Nat) (n_1 : Int) (n_2 : Int) (b_3 : Bool) (a_1 : Option Addr) (n_3 : Nat) (c_1 : Nat) (n_4 : Int) (b_6 : Nat) (b_8 : Nat) (φ : Prop) : Prop :=
 b_5 = false → Spec Try.prog 99 [.agg #[.int .i64 n_6, .slice a_3 n_7 c_2], .agg #[.int .i64 0, .slice none 0 0]] H' fun (v : Value) (H'_8 : Heap) => ∃ (b_14 : Bool), v = .bool b_14 ∧
 (Next base H' H'_8 → [Bx.mk b false 101 [.int .i64 fid, .slice fa fl fc, .slice ra rl rc, .slice wa wl wc, .int .i64 bud], Bx.mk b_1 false 105 [.slice la ll lc, .int .i64 now,
 .int .i64 goal, .bool back, .slice ka kl kc, .int .i64 nx], Bx.mk b_2 false 105 [.slice la' ll' lc', .int .i64 now', .int .i64 goal', .bool back', .slice ka' kl'
 kc', .int .i64 nx'], Bx.mk b_4 false 105 [.slice a n c, .int .i64 n_1, .int .i64 n_2, .bool b_3, .slice a_1 n_3 c_1, .int .i64 n_4], Bx.mk b_6 false 59 [.int
 .i64 n_6, .slice a_3 n_7 c_2], Bx.mk b_8 false 105 [.slice none 0 0, .int .i64 0, .int .i64 0, .bool false, .slice none 0 0, .int .i64 0]] = [Bx.mk b false 101 [.int
 .i64 fid, .slice fa fl fc, .slice ra rl rc, .slice wa wl wc, .int .i64 bud], Bx.mk b_1 false 105 [.slice la ll lc, .int .i64 now, .int .i64 goal, .bool back,
 .slice ka kl kc, .int .i64 nx], Bx.mk b_2 false 105 [.slice la' ll' lc', .int .i64 now', .int .i64 goal', .bool back', .slice ka' kl' kc', .int .i64 nx'], Bx.mk b_4
 false 105 [.slice a n c, .int .i64 n_1, .int .i64 n_2, .bool b_3, .slice a_1 n_3 c_1, .int .i64 n_4], Bx.mk b_6 false 59 [.int .i64 n_6, .slice a_3 n_7 c_2], Bx.mk b_8
 false 105 [.slice none 0 0, .int .i64 0, .int .i64 0, .bool false, .slice none 0 0, .int .i64 0]] ∧ SubH H' H'_8 ∧ (φ ↔ b_14 = true))
abbrev vt21_19 (fid bud : Int) (fa ra wa : Option Addr) (fl fc rl rc wl wc : Nat) (la ka : Option Addr) (ll lc kl kc : Nat) (now goal nx : Int) (back : Bool) (k : Int) (la' ka' : Option Addr) (ll' lc' kl' kc' : Nat) (now' goal' nx' : Int) (back' : Bool) (base : Nat) (H : Heap) (K : Value → List (List Value) → Heap → Prop) (b_5 : Bool) (b : Nat) (b_1 : Nat) (b_2 : Nat) (b_4 : Nat) (a : Option Addr) (n : Nat) (c : Nat) (n_1 : Int) (n_2 : Int) (b_3 : Bool) (a_1 : Option Addr) (n_3 : Nat) (c_1 : Nat) (n_4 : Int) (b_6 : Nat) (n_6 : Int) (a_3 : Option Addr) (n_7 : Nat) (c_2 : Nat) (b_8 : Nat) (H' : Heap) (φ : Prop) : Prop :=
 ¬b_5 = false → [Bx.mk b false 101 [.int .i64 fid, .slice fa fl fc, .slice ra rl rc, .slice wa wl wc, .int .i64 bud], Bx.mk b_1 false 105 [.slice la ll lc, .int .i64 now, .int
 .i64 goal, .bool back, .slice ka kl kc, .int .i64 nx], Bx.mk b_2 false 105 [.slice la' ll' lc', .int .i64 now', .int .i64 goal', .bool back', .slice ka' kl' kc',
 .int .i64 nx'], Bx.mk b_4 false 105 [.slice a n c, .int .i64 n_1, .int .i64 n_2, .bool b_3, .slice a_1 n_3 c_1, .int .i64 n_4], Bx.mk b_6 false 59 [.int .i64
 n_6, .slice a_3 n_7 c_2], Bx.mk b_8 false 105 [.slice none 0 0, .int .i64 0, .int .i64 0, .bool false, .slice none 0 0, .int .i64 0]] = [Bx.mk b false 101 [.int .i64
 fid, .slice fa fl fc, .slice ra rl rc, .slice wa wl wc, .int .i64 bud], Bx.mk b_1 false 105 [.slice la ll lc, .int .i64 now, .int .i64 goal, .bool back, .slice ka kl kc,
 .int .i64 nx], Bx.mk b_2 false 105 [.slice la' ll' lc', .int .i64 now', .int .i64 goal', .bool back', .slice ka' kl' kc', .int .i64 nx'], Bx.mk b_4 false 105 [.slice a
 n c, .int .i64 n_1, .int .i64 n_2, .bool b_3, .slice a_1 n_3 c_1, .int .i64 n_4], Bx.mk b_6 false 59 [.int .i64 n_6, .slice a_3 n_7 c_2], Bx.mk b_8 false 105 [.slice
 none 0 0, .int .i64 0, .int .i64 0, .bool false, .slice none 0 0, .int .i64 0]] ∧ SubH H' H' ∧ ¬φ
abbrev vt21_11 (fid bud : Int) (fa ra wa : Option Addr) (fl fc rl rc wl wc : Nat) (la ka : Option Addr) (ll lc kl kc : Nat) (now goal nx : Int) (back : Bool) (k : Int) (la' ka' : Option Addr) (ll' lc' kl' kc' : Nat) (now' goal' nx' : Int) (back' : Bool) (base : Nat) (H : Heap) (K : Value → List (List Value) → Heap → Prop) (φ : Prop) (n_8 : Int) (b_5 : Bool) (n_6 : Int) (a_3 : Option Addr) (n_7 : Nat) (c_2 : Nat) (H' : Heap) (b : Nat) (b_1 : Nat) (b_2 : Nat) (b_4 : Nat) (a : Option Addr) (n : Nat) (c : Nat) (n_1 : Int) (n_2 : Int) (b_3 : Bool) (a_1 : Option Addr) (n_3 : Nat) (c_1 : Nat) (n_4 : Int) (b_6 : Nat) (b_8 : Nat) : Prop :=
 φ → (¬Int.ofNat 7 = 0 → ∃ (φ : Prop), ((n_8 = 7 → (vt21_16 fid bud fa ra wa fl fc rl rc wl wc la ka ll lc kl kc now goal nx back k la' ka' ll' lc' kl' kc' now' goal' nx' back' base H K b_5 n_6 a_3 n_7 c_2 H' b b_1 b_2 b_4 a n c n_1 n_2
 b_3 a_1 n_3 c_1 n_4 b_6 b_8 φ) ∧ (vt21_19 fid bud fa ra wa fl fc rl rc wl wc la ka ll lc kl kc now goal nx back k la' ka' ll' lc' kl' kc' now' goal' nx' back' base H K b_5 b b_1 b_2 b_4 a n c n_1 n_2 b_3 a_1 n_3 c_1 n_4 b_6 n_6 a_3 n_7
 c_2 b_8 H' φ)) ∧ (¬n_8 = 7 → [Bx.mk b false 101 [.int .i64 fid, .slice fa fl fc, .slice ra rl rc, .slice wa wl wc, .int .i64 bud], Bx.mk b_1 false 105 [.slice la ll lc, .int .i64
 now, .int .i64 goal, .bool back, .slice ka kl kc, .int .i64 nx], Bx.mk b_2 false 105 [.slice la' ll' lc', .int .i64 now', .int .i64 goal', .bool back', .slice ka'
 kl' kc', .int .i64 nx'], Bx.mk b_4 false 105 [.slice a n c, .int .i64 n_1, .int .i64 n_2, .bool b_3, .slice a_1 n_3 c_1, .int .i64 n_4], Bx.mk b_6 false 59 [.int
 .i64 n_6, .slice a_3 n_7 c_2], Bx.mk b_8 false 105 [.slice none 0 0, .int .i64 0, .int .i64 0, .bool false, .slice none 0 0, .int .i64 0]] = [Bx.mk b false 101 [.int
 .i64 fid, .slice fa fl fc, .slice ra rl rc, .slice wa wl wc, .int .i64 bud], Bx.mk b_1 false 105 [.slice la ll lc, .int .i64 now, .int .i64 goal, .bool back,
 .slice ka kl kc, .int .i64 nx], Bx.mk b_2 false 105 [.slice la' ll' lc', .int .i64 now', .int .i64 goal', .bool back', .slice ka' kl' kc', .int .i64 nx'], Bx.mk b_4
 false 105 [.slice a n c, .int .i64 n_1, .int .i64 n_2, .bool b_3, .slice a_1 n_3 c_1, .int .i64 n_4], Bx.mk b_6 false 59 [.int .i64 n_6, .slice a_3 n_7 c_2], Bx.mk b_8
 false 105 [.slice none 0 0, .int .i64 0, .int .i64 0, .bool false, .slice none 0 0, .int .i64 0]] ∧ SubH H' H' ∧ ¬φ)) ∧ K (.bool (@decide φ (Classical.propDecidable φ))) [] H') ∧
 (¬¬Int.ofNat 7 = 0 → (vt21_9 fid bud fa ra wa fl fc rl rc wl wc la ka ll lc kl kc now goal nx back k la' ka' ll' lc' kl' kc' now' goal' nx' back' base H K n_8 H' b_5 n_6 a_3 n_7 c_2) ∧ (¬n_8 = 0 → K (.bool false) [] H'))
abbrev vt21_17 (fid bud : Int) (fa ra wa : Option Addr) (fl fc rl rc wl wc : Nat) (la ka : Option Addr) (ll lc kl kc : Nat) (now goal nx : Int) (back : Bool) (k : Int) (la' ka' : Option Addr) (ll' lc' kl' kc' : Nat) (now' goal' nx' : Int) (back' : Bool) (base : Nat) (H : Heap) (K : Value → List (List Value) → Heap → Prop) (n_11 : Int) (b : Nat) (b_1 : Nat) (b_2 : Nat) (b_4 : Nat) (a : Option Addr) (n : Nat) (c : Nat) (n_1 : Int) (n_2 : Int) (b_3 : Bool) (a_1 : Option Addr) (n_3 : Nat) (c_1 : Nat) (n_4 : Int) (b_6 : Nat) (n_6 : Int) (a_3 : Option Addr) (n_7 : Nat) (c_2 : Nat) (b_8 : Nat) (H'_7 : Heap) (φ : Prop) : Prop :=
 (n_11 = 0 → [Bx.mk b false 101 [.int .i64 fid, .slice fa fl fc, .slice ra rl rc, .slice wa wl wc, .int .i64 bud], Bx.mk b_1 false 105 [.slice la ll lc, .int .i64 now, .int
 .i64 goal, .bool back, .slice ka kl kc, .int .i64 nx], Bx.mk b_2 false 105 [.slice la' ll' lc', .int .i64 now', .int .i64 goal', .bool back', .slice ka' kl' kc',
 .int .i64 nx'], Bx.mk b_4 false 105 [.slice a n c, .int .i64 n_1, .int .i64 n_2, .bool b_3, .slice a_1 n_3 c_1, .int .i64 n_4], Bx.mk b_6 false 59 [.int .i64
 n_6, .slice a_3 n_7 c_2], Bx.mk b_8 false 105 [.slice none 0 0, .int .i64 0, .int .i64 0, .bool false, .slice none 0 0, .int .i64 0]] = [Bx.mk b false 101 [.int .i64
 fid, .slice fa fl fc, .slice ra rl rc, .slice wa wl wc, .int .i64 bud], Bx.mk b_1 false 105 [.slice la ll lc, .int .i64 now, .int .i64 goal, .bool back, .slice ka kl kc,
 .int .i64 nx], Bx.mk b_2 false 105 [.slice la' ll' lc', .int .i64 now', .int .i64 goal', .bool back', .slice ka' kl' kc', .int .i64 nx'], Bx.mk b_4 false 105 [.slice a
 n c, .int .i64 n_1, .int .i64 n_2, .bool b_3, .slice a_1 n_3 c_1, .int .i64 n_4], Bx.mk b_6 false 59 [.int .i64 n_6, .slice a_3 n_7 c_2], Bx.mk b_8 false 105 [.slice
 none 0 0, .int .i64 0, .int .i64 0, .bool false, .slice none 0 0, .int .i64 0]] ∧ SubH H'_7 H'_7 ∧ (φ ↔ goal = 0)) ∧ (vt21_6 fid bud fa ra wa fl fc rl rc wl wc la ka ll lc kl kc now goal nx
 back k la' ka' ll' lc' kl' kc' now' goal' nx' back' base H K n_11 b b_1 b_2 b_4 a n c n_1 n_2 b_3 a_1 n_3 c_1 n_4 b_6 n_6 a_3 n_7 c_2 b_8 H'_7 φ)
abbrev vt21_2 (fid bud : Int) (fa ra wa : Option Addr) (fl fc rl rc wl wc : Nat) (la ka : Option Addr) (ll lc kl kc : Nat) (now goal nx : Int) (back : Bool) (k : Int) (la' ka' : Option Addr) (ll' lc' kl' kc' : Nat) (now' goal' nx' : Int) (back' : Bool) (base : Nat) (H : Heap) (K : Value → List (List Value) → Heap → Prop) (φ : Prop) (H'_7 : Heap) (b : Nat) (b_1 : Nat) (b_2 : Nat) (b_4 : Nat) (a : Option Addr) (n : Nat) (c : Nat) (n_1 : Int) (n_2 : Int) (b_3 : Bool) (a_1 : Option Addr) (n_3 : Nat) (c_1 : Nat) (n_4 : Int) (b_6 : Nat) (n_6 : Int) (a_3 : Option Addr) (n_7 : Nat) (c_2 : Nat) (b_8 : Nat) (n_8 : Int) (b_5 : Bool) : Prop :=
 ¬φ → Spec Try.prog 92 [.agg #[.int .i64 fid, .slice fa fl fc, .slice ra rl rc, .slice wa wl wc, .int .i64 bud], .agg #[.slice la ll lc, .int .i64 now, .int
 .i64 goal, .bool back, .slice ka kl kc, .int .i64 nx]] H'_7 fun (v : Value) (H' : Heap) => ∃ (n_17 : Int), v = .int .i64 n_17 ∧ (Next base H'_7 H' → ∃ (φ : Prop), ((n_17 = 0 → (k < 0 → [Bx.mk
 b false 101 [.int .i64 fid, .slice fa fl fc, .slice ra rl rc, .slice wa wl wc, .int .i64 bud], Bx.mk b_1 false 105 [.slice la ll lc, .int .i64 now, .int .i64 goal,
 .bool back, .slice ka kl kc, .int .i64 nx], Bx.mk b_2 false 105 [.slice la' ll' lc', .int .i64 now', .int .i64 goal', .bool back', .slice ka' kl' kc', .int .i64
 nx'], Bx.mk b_4 false 105 [.slice a n c, .int .i64 n_1, .int .i64 n_2, .bool b_3, .slice a_1 n_3 c_1, .int .i64 n_4], Bx.mk b_6 false 59 [.int .i64 n_6, .slice a_3 n_7
 c_2], Bx.mk b_8 false 105 [.slice none 0 0, .int .i64 0, .int .i64 0, .bool false, .slice none 0 0, .int .i64 0]] = [Bx.mk b false 101 [.int .i64 fid, .slice fa fl fc,
 .slice ra rl rc, .slice wa wl wc, .int .i64 bud], Bx.mk b_1 false 105 [.slice la ll lc, .int .i64 now, .int .i64 goal, .bool back, .slice ka kl kc, .int .i64 nx],
 Bx.mk b_2 false 105 [.slice la' ll' lc', .int .i64 now', .int .i64 goal', .bool back', .slice ka' kl' kc', .int .i64 nx'], Bx.mk b_4 false 105 [.slice a n c, .int .i64
 n_1, .int .i64 n_2, .bool b_3, .slice a_1 n_3 c_1, .int .i64 n_4], Bx.mk b_6 false 59 [.int .i64 n_6, .slice a_3 n_7 c_2], Bx.mk b_8 false 105 [.slice none 0 0, .int
 .i64 0, .int .i64 0, .bool false, .slice none 0 0, .int .i64 0]] ∧ SubH H' H' ∧ φ) ∧ (¬k < 0 → [Bx.mk b false 101 [.int .i64 fid, .slice fa fl fc, .slice ra rl rc,
 .slice wa wl wc, .int .i64 bud], Bx.mk b_1 false 105 [.slice la ll lc, .int .i64 now, .int .i64 goal, .bool back, .slice ka kl kc, .int .i64 nx], Bx.mk b_2 false 105
 [.slice la' ll' lc', .int .i64 now', .int .i64 goal', .bool back', .slice ka' kl' kc', .int .i64 nx'], Bx.mk b_4 false 105 [.slice a n c, .int .i64 n_1, .int
 .i64 n_2, .bool b_3, .slice a_1 n_3 c_1, .int .i64 n_4], Bx.mk b_6 false 59 [.int .i64 n_6, .slice a_3 n_7 c_2], Bx.mk b_8 false 105 [.slice none 0 0, .int .i64 0,
 .int .i64 0, .bool false, .slice none 0 0, .int .i64 0]] = [Bx.mk b false 101 [.int .i64 fid, .slice fa fl fc, .slice ra rl rc, .slice wa wl wc, .int .i64 bud],
 Bx.mk b_1 false 105 [.slice la ll lc, .int .i64 now, .int .i64 goal, .bool back, .slice ka kl kc, .int .i64 nx], Bx.mk b_2 false 105 [.slice la' ll' lc', .int .i64
 now', .int .i64 goal', .bool back', .slice ka' kl' kc', .int .i64 nx'], Bx.mk b_4 false 105 [.slice a n c, .int .i64 n_1, .int .i64 n_2, .bool b_3, .slice a_1 n_3
 c_1, .int .i64 n_4], Bx.mk b_6 false 59 [.int .i64 n_6, .slice a_3 n_7 c_2], Bx.mk b_8 false 105 [.slice none 0 0, .int .i64 0, .int .i64 0, .bool false, .slice none 0
 0, .int .i64 0]] ∧ SubH H' H' ∧ (φ ↔ (↑kl : Int) ≤ k))) ∧ (vt21_6 fid bud fa ra wa fl fc rl rc wl wc la ka ll lc kl kc now goal nx back k la' ka' ll' lc' kl' kc' now' goal' nx' back' base H K n_17 b b_1 b_2 b_4 a n c n_1
 n_2 b_3 a_1 n_3 c_1 n_4 b_6 n_6 a_3 n_7 c_2 b_8 H' φ)) ∧ (φ → ∃ (φ : Prop), ((Int.ofNat 5 = 0 → [Bx.mk b false 101 [.int .i64 fid, .slice fa fl fc, .slice ra rl rc, .slice wa wl wc, .int .i64
 bud], Bx.mk b_1 false 105 [.slice la ll lc, .int .i64 now, .int .i64 goal, .bool back, .slice ka kl kc, .int .i64 nx], Bx.mk b_2 false 105 [.slice la' ll' lc', .int
 .i64 now', .int .i64 goal', .bool back', .slice ka' kl' kc', .int .i64 nx'], Bx.mk b_4 false 105 [.slice a n c, .int .i64 n_1, .int .i64 n_2, .bool b_3,
 .slice a_1 n_3 c_1, .int .i64 n_4], Bx.mk b_6 false 59 [.int .i64 n_6, .slice a_3 n_7 c_2], Bx.mk b_8 false 105 [.slice none 0 0, .int .i64 0, .int .i64 0, .bool
 false, .slice none 0 0, .int .i64 0]] = [Bx.mk b false 101 [.int .i64 fid, .slice fa fl fc, .slice ra rl rc, .slice wa wl wc, .int .i64 bud], Bx.mk b_1 false 105 [.slice la
 ll lc, .int .i64 now, .int .i64 goal, .bool back, .slice ka kl kc, .int .i64 nx], Bx.mk b_2 false 105 [.slice la' ll' lc', .int .i64 now', .int .i64 goal',
 .bool back', .slice ka' kl' kc', .int .i64 nx'], Bx.mk b_4 false 105 [.slice a n c, .int .i64 n_1, .int .i64 n_2, .bool b_3, .slice a_1 n_3 c_1, .int .i64 n_4],
 Bx.mk b_6 false 59 [.int .i64 n_6, .slice a_3 n_7 c_2], Bx.mk b_8 false 105 [.slice none 0 0, .int .i64 0, .int .i64 0, .bool false, .slice none 0 0, .int .i64 0]] ∧
 SubH H' H' ∧ (φ ↔ goal = 0)) ∧ (¬Int.ofNat 5 = 0 → [Bx.mk b false 101 [.int .i64 fid, .slice fa fl fc, .slice ra rl rc, .slice wa wl wc, .int .i64 bud], Bx.mk b_1 false 105 [.slice la ll lc,
 .int .i64 now, .int .i64 goal, .bool back, .slice ka kl kc, .int .i64 nx], Bx.mk b_2 false 105 [.slice la' ll' lc', .int .i64 now', .int .i64 goal', .bool
 back', .slice ka' kl' kc', .int .i64 nx'], Bx.mk b_4 false 105 [.slice a n c, .int .i64 n_1, .int .i64 n_2, .bool b_3, .slice a_1 n_3 c_1, .int .i64 n_4], Bx.mk b_6
 false 59 [.int .i64 n_6, .slice a_3 n_7 c_2], Bx.mk b_8 false 105 [.slice none 0 0, .int .i64 0, .int .i64 0, .bool false, .slice none 0 0, .int .i64 0]] = [Bx.mk b
 false 101 [.int .i64 fid, .slice fa fl fc, .slice ra rl rc, .slice wa wl wc, .int .i64 bud], Bx.mk b_1 false 105 [.slice la ll lc, .int .i64 now, .int .i64 goal,
 .bool back, .slice ka kl kc, .int .i64 nx], Bx.mk b_2 false 105 [.slice la' ll' lc', .int .i64 now', .int .i64 goal', .bool back', .slice ka' kl' kc', .int .i64
 nx'], Bx.mk b_4 false 105 [.slice a n c, .int .i64 n_1, .int .i64 n_2, .bool b_3, .slice a_1 n_3 c_1, .int .i64 n_4], Bx.mk b_6 false 59 [.int .i64 n_6, .slice a_3 n_7
 c_2], Bx.mk b_8 false 105 [.slice none 0 0, .int .i64 0, .int .i64 0, .bool false, .slice none 0 0, .int .i64 0]] ∧ SubH H' H' ∧ ¬φ)) ∧ (vt21_11 fid bud fa ra wa fl fc rl rc wl wc la
 ka ll lc kl kc now goal nx back k la' ka' ll' lc' kl' kc' now' goal' nx' back' base H K φ n_8 b_5 n_6 a_3 n_7 c_2 H' b b_1 b_2 b_4 a n c n_1 n_2 b_3 a_1 n_3 c_1 n_4 b_6 b_8) ∧ (¬φ → (¬Int.ofNat 5 = 0 → ∃ (φ : Prop), ((n_8 = 5 →
 (vt21_16 fid bud fa ra wa fl fc rl rc wl wc la ka ll lc kl kc now goal nx back k la' ka' ll' lc' kl' kc' now' goal' nx' back' base H K b_5 n_6 a_3 n_7 c_2 H' b b_1 b_2 b_4 a n c n_1 n_2 b_3 a_1 n_3 c_1 n_4 b_6 b_8 φ) ∧ (vt21_19 fid bud
 fa ra wa fl fc rl rc wl wc la ka ll lc kl kc now goal nx back k la' ka' ll' lc' kl' kc' now' goal' nx' back' base H K b_5 b b_1 b_2 b_4 a n c n_1 n_2 b_3 a_1 n_3 c_1 n_4 b_6 n_6 a_3 n_7 c_2 b_8 H' φ)) ∧ (¬n_8 = 5 → [Bx.mk b false 101
 [.int .i64 fid, .slice fa fl fc, .slice ra rl rc, .slice wa wl wc, .int .i64 bud], Bx.mk b_1 false 105 [.slice la ll lc, .int .i64 now, .int .i64 goal, .bool
 back, .slice ka kl kc, .int .i64 nx], Bx.mk b_2 false 105 [.slice la' ll' lc', .int .i64 now', .int .i64 goal', .bool back', .slice ka' kl' kc', .int .i64 nx'], Bx.mk
 b_4 false 105 [.slice a n c, .int .i64 n_1, .int .i64 n_2, .bool b_3, .slice a_1 n_3 c_1, .int .i64 n_4], Bx.mk b_6 false 59 [.int .i64 n_6, .slice a_3 n_7 c_2], Bx.mk
 b_8 false 105 [.slice none 0 0, .int .i64 0, .int .i64 0, .bool false, .slice none 0 0, .int .i64 0]] = [Bx.mk b false 101 [.int .i64 fid, .slice fa fl fc, .slice
 ra rl rc, .slice wa wl wc, .int .i64 bud], Bx.mk b_1 false 105 [.slice la ll lc, .int .i64 now, .int .i64 goal, .bool back, .slice ka kl kc, .int .i64 nx], Bx.mk b_2
 false 105 [.slice la' ll' lc', .int .i64 now', .int .i64 goal', .bool back', .slice ka' kl' kc', .int .i64 nx'], Bx.mk b_4 false 105 [.slice a n c, .int .i64 n_1,
 .int .i64 n_2, .bool b_3, .slice a_1 n_3 c_1, .int .i64 n_4], Bx.mk b_6 false 59 [.int .i64 n_6, .slice a_3 n_7 c_2], Bx.mk b_8 false 105 [.slice none 0 0, .int .i64
 0, .int .i64 0, .bool false, .slice none 0 0, .int .i64 0]] ∧ SubH H' H' ∧ ¬φ)) ∧ K (.bool (@decide φ (Classical.propDecidable φ))) [] H') ∧ (¬¬Int.ofNat 5 = 0 → (vt21_9 fid bud fa ra wa fl fc rl
 rc wl wc la ka ll lc kl kc now goal nx back k la' ka' ll' lc' kl' kc' now' goal' nx' back' base H K n_8 H' b_5 n_6 a_3 n_7 c_2) ∧ (¬n_8 = 0 → K (.bool false) [] H')))) ∧ (¬φ → ∃ (φ : Prop), (vt21_17 fid bud fa ra wa fl fc rl rc wl
 wc la ka ll lc kl kc now goal nx back k la' ka' ll' lc' kl' kc' now' goal' nx' back' base H K n_17 b b_1 b_2 b_4 a n c n_1 n_2 b_3 a_1 n_3 c_1 n_4 b_6 n_6 a_3 n_7 c_2 b_8 H' φ) ∧ (vt21_11 fid bud fa ra wa fl fc rl rc wl wc la ka ll lc
 kl kc now goal nx back k la' ka' ll' lc' kl' kc' now' goal' nx' back' base H K φ n_8 b_5 n_6 a_3 n_7 c_2 H' b b_1 b_2 b_4 a n c n_1 n_2 b_3 a_1 n_3 c_1 n_4 b_6 b_8) ∧ (¬φ → (¬n_17 = 0 → ∃ (φ : Prop), ((n_8 = n_17 → (vt21_16 fid bud fa
 ra wa fl fc rl rc wl wc la ka ll lc kl kc now goal nx back k la' ka' ll' lc' kl' kc' now' goal' nx' back' base H K b_5 n_6 a_3 n_7 c_2 H' b b_1 b_2 b_4 a n c n_1 n_2 b_3 a_1 n_3 c_1 n_4 b_6 b_8 φ) ∧ (vt21_19 fid bud fa ra wa fl fc rl
 rc wl wc la ka ll lc kl kc now goal nx back k la' ka' ll' lc' kl' kc' now' goal' nx' back' base H K b_5 b b_1 b_2 b_4 a n c n_1 n_2 b_3 a_1 n_3 c_1 n_4 b_6 n_6 a_3 n_7 c_2 b_8 H' φ)) ∧ (¬n_8 = n_17 → [Bx.mk b false 101 [.int
 .i64 fid, .slice fa fl fc, .slice ra rl rc, .slice wa wl wc, .int .i64 bud], Bx.mk b_1 false 105 [.slice la ll lc, .int .i64 now, .int .i64 goal, .bool back,
 .slice ka kl kc, .int .i64 nx], Bx.mk b_2 false 105 [.slice la' ll' lc', .int .i64 now', .int .i64 goal', .bool back', .slice ka' kl' kc', .int .i64 nx'], Bx.mk b_4
 false 105 [.slice a n c, .int .i64 n_1, .int .i64 n_2, .bool b_3, .slice a_1 n_3 c_1, .int .i64 n_4], Bx.mk b_6 false 59 [.int .i64 n_6, .slice a_3 n_7 c_2], Bx.mk b_8
 false 105 [.slice none 0 0, .int .i64 0, .int .i64 0, .bool false, .slice none 0 0, .int .i64 0]] = [Bx.mk b false 101 [.int .i64 fid, .slice fa fl fc, .slice ra
 rl rc, .slice wa wl wc, .int .i64 bud], Bx.mk b_1 false 105 [.slice la ll lc, .int .i64 now, .int .i64 goal, .bool back, .slice ka kl kc, .int .i64 nx], Bx.mk b_2
 false 105 [.slice la' ll' lc', .int .i64 now', .int .i64 goal', .bool back', .slice ka' kl' kc', .int .i64 nx'], Bx.mk b_4 false 105 [.slice a n c, .int .i64 n_1,
 .int .i64 n_2, .bool b_3, .slice a_1 n_3 c_1, .int .i64 n_4], Bx.mk b_6 false 59 [.int .i64 n_6, .slice a_3 n_7 c_2], Bx.mk b_8 false 105 [.slice none 0 0, .int .i64
 0, .int .i64 0, .bool false, .slice none 0 0, .int .i64 0]] ∧ SubH H' H' ∧ ¬φ)) ∧ K (.bool (@decide φ (Classical.propDecidable φ))) [] H') ∧ (¬¬n_17 = 0 → (vt21_9 fid bud fa ra wa fl fc rl rc wl
 wc la ka ll lc kl kc now goal nx back k la' ka' ll' lc' kl' kc' now' goal' nx' back' base H K n_8 H' b_5 n_6 a_3 n_7 c_2) ∧ (¬n_8 = 0 → K (.bool false) [] H')))))
abbrev vt21_3 (fid bud : Int) (fa ra wa : Option Addr) (fl fc rl rc wl wc : Nat) (la ka : Option Addr) (ll lc kl kc : Nat) (now goal nx : Int) (back : Bool) (k : Int) (la' ka' : Option Addr) (ll' lc' kl' kc' : Nat) (now' goal' nx' : Int) (back' : Bool) (base : Nat) (H : Heap) (K : Value → List (List Value) → Heap → Prop) (H' : Heap) (H'_8 : Heap) (b_7 : Bool) (b_15 : Bool) (b : Nat) (b_1 : Nat) (b_2 : Nat) (b_4 : Nat) (a : Option Addr) (n : Nat) (c : Nat) (n_1 : Int) (n_2 : Int) (b_3 : Bool) (a_1 : Option Addr) (n_3 : Nat) (c_1 : Nat) (n_4 : Int) (b_6 : Nat) (n_6 : Int) (a_3 : Option Addr) (n_7 : Nat) (c_2 : Nat) (b_8 : Nat) (a_9 : Option Addr) (n_12 : Nat) (c_3 : Nat) (n_13 : Int) (n_14 : Int) (b_9 : Bool) (a_10 : Option Addr) (n_15 : Nat) (c_4 : Nat) (n_16 : Int) (φ : Prop) : Prop :=
 Next base H' H'_8 → ∃ (b_16 : Bool), RunsTo Try.prog (binRun BinOp.neq 4 (.tmp 122) (.tmp 125) (.bool b_7) (.bool b_15)) (.bool b_16) ∧ [Bx.mk b false 101 [.int .i64 fid, .slice fa fl
 fc, .slice ra rl rc, .slice wa wl wc, .int .i64 bud], Bx.mk b_1 false 105 [.slice la ll lc, .int .i64 now, .int .i64 goal, .bool back, .slice ka kl kc, .int .i64
 nx], Bx.mk b_2 false 105 [.slice la' ll' lc', .int .i64 now', .int .i64 goal', .bool back', .slice ka' kl' kc', .int .i64 nx'], Bx.mk b_4 false 105 [.slice a n c, .int
 .i64 n_1, .int .i64 n_2, .bool b_3, .slice a_1 n_3 c_1, .int .i64 n_4], Bx.mk b_6 false 59 [.int .i64 n_6, .slice a_3 n_7 c_2], Bx.mk b_8 false 105 [.slice a_9 n_12 c_3,
 .int .i64 n_13, .int .i64 n_14, .bool b_9, .slice a_10 n_15 c_4, .int .i64 n_16]] = [Bx.mk b false 101 [.int .i64 fid, .slice fa fl fc, .slice ra rl rc, .slice wa
 wl wc, .int .i64 bud], Bx.mk b_1 false 105 [.slice la ll lc, .int .i64 now, .int .i64 goal, .bool back, .slice ka kl kc, .int .i64 nx], Bx.mk b_2 false 105 [.slice la'
 ll' lc', .int .i64 now', .int .i64 goal', .bool back', .slice ka' kl' kc', .int .i64 nx'], Bx.mk b_4 false 105 [.slice a n c, .int .i64 n_1, .int .i64 n_2,
 .bool b_3, .slice a_1 n_3 c_1, .int .i64 n_4], Bx.mk b_6 false 59 [.int .i64 n_6, .slice a_3 n_7 c_2], Bx.mk b_8 false 105 [.slice a_9 n_12 c_3, .int .i64 n_13, .int
 .i64 n_14, .bool b_9, .slice a_10 n_15 c_4, .int .i64 n_16]] ∧ SubH H' H'_8 ∧ (φ ↔ b_16 = true)
abbrev vt21_4 (fid bud : Int) (fa ra wa : Option Addr) (fl fc rl rc wl wc : Nat) (la ka : Option Addr) (ll lc kl kc : Nat) (now goal nx : Int) (back : Bool) (k : Int) (la' ka' : Option Addr) (ll' lc' kl' kc' : Nat) (now' goal' nx' : Int) (back' : Bool) (base : Nat) (H : Heap) (K : Value → List (List Value) → Heap → Prop) (H'_7 : Heap) (H' : Heap) (b_7 : Bool) (b_14 : Bool) (b : Nat) (b_1 : Nat) (b_2 : Nat) (b_4 : Nat) (a : Option Addr) (n : Nat) (c : Nat) (n_1 : Int) (n_2 : Int) (b_3 : Bool) (a_1 : Option Addr) (n_3 : Nat) (c_1 : Nat) (n_4 : Int) (b_6 : Nat) (n_6 : Int) (a_3 : Option Addr) (n_7 : Nat) (c_2 : Nat) (b_8 : Nat) (φ : Prop) : Prop :=
 Next base H'_7 H' → ∃ (b_15 : Bool), RunsTo Try.prog (binRun BinOp.neq 4 (.tmp 122) (.tmp 125) (.bool b_7) (.bool b_14)) (.bool b_15) ∧ [Bx.mk b false 101 [.int .i64 fid, .slice fa fl
 fc, .slice ra rl rc, .slice wa wl wc, .int .i64 bud], Bx.mk b_1 false 105 [.slice la ll lc, .int .i64 now, .int .i64 goal, .bool back, .slice ka kl kc, .int .i64
 nx], Bx.mk b_2 false 105 [.slice la' ll' lc', .int .i64 now', .int .i64 goal', .bool back', .slice ka' kl' kc', .int .i64 nx'], Bx.mk b_4 false 105 [.slice a n c, .int
 .i64 n_1, .int .i64 n_2, .bool b_3, .slice a_1 n_3 c_1, .int .i64 n_4], Bx.mk b_6 false 59 [.int .i64 n_6, .slice a_3 n_7 c_2], Bx.mk b_8 false 105 [.slice none 0 0,
 .int .i64 0, .int .i64 0, .bool false, .slice none 0 0, .int .i64 0]] = [Bx.mk b false 101 [.int .i64 fid, .slice fa fl fc, .slice ra rl rc, .slice wa wl wc,
 .int .i64 bud], Bx.mk b_1 false 105 [.slice la ll lc, .int .i64 now, .int .i64 goal, .bool back, .slice ka kl kc, .int .i64 nx], Bx.mk b_2 false 105 [.slice la' ll'
 lc', .int .i64 now', .int .i64 goal', .bool back', .slice ka' kl' kc', .int .i64 nx'], Bx.mk b_4 false 105 [.slice a n c, .int .i64 n_1, .int .i64 n_2,
 .bool b_3, .slice a_1 n_3 c_1, .int .i64 n_4], Bx.mk b_6 false 59 [.int .i64 n_6, .slice a_3 n_7 c_2], Bx.mk b_8 false 105 [.slice none 0 0, .int .i64 0, .int .i64 0,
 .bool false, .slice none 0 0, .int .i64 0]] ∧ SubH H'_7 H' ∧ (φ ↔ b_15 = true)
abbrev vt21_7 (fid bud : Int) (fa ra wa : Option Addr) (fl fc rl rc wl wc : Nat) (la ka : Option Addr) (ll lc kl kc : Nat) (now goal nx : Int) (back : Bool) (k : Int) (la' ka' : Option Addr) (ll' lc' kl' kc' : Nat) (now' goal' nx' : Int) (back' : Bool) (base : Nat) (H : Heap) (K : Value → List (List Value) → Heap → Prop) (φ : Prop) (n_9 : Int) (b : Nat) (b_1 : Nat) (b_2 : Nat) (b_4 : Nat) (a : Option Addr) (n : Nat) (c : Nat) (n_1 : Int) (n_2 : Int) (b_3 : Bool) (a_1 : Option Addr) (n_3 : Nat) (c_1 : Nat) (n_4 : Int) (b_6 : Nat) (n_6 : Int) (a_3 : Option Addr) (n_7 : Nat) (c_2 : Nat) (b_8 : Nat) (a_9 : Option Addr) (n_12 : Nat) (c_3 : Nat) (n_13 : Int) (n_14 : Int) (b_9 : Bool) (a_10 : Option Addr) (n_15 : Nat) (c_4 : Nat) (n_16 : Int) (H' : Heap) (b_7 : Bool) (n_8 : Int) (b_5 : Bool) : Prop :=
 φ → ∃ (φ : Prop), ((¬n_9 = 7 → [Bx.mk b false 101 [.int .i64 fid, .slice fa fl fc, .slice ra rl rc, .slice wa wl wc, .int .i64 bud], Bx.mk b_1 false 105 [.slice la ll lc, .int
 .i64 now, .int .i64 goal, .bool back, .slice ka kl kc, .int .i64 nx], Bx.mk b_2 false 105 [.slice la' ll' lc', .int .i64 now', .int .i64 goal', .bool back',
 .slice ka' kl' kc', .int .i64 nx'], Bx.mk b_4 false 105 [.slice a n c, .int .i64 n_1, .int .i64 n_2, .bool b_3, .slice a_1 n_3 c_1, .int .i64 n_4], Bx.mk b_6 false 59
 [.int .i64 n_6, .slice a_3 n_7 c_2], Bx.mk b_8 false 105 [.slice a_9 n_12 c_3, .int .i64 n_13, .int .i64 n_14, .bool b_9, .slice a_10 n_15 c_4, .int .i64 n_16]] =
 [Bx.mk b false 101 [.int .i64 fid, .slice fa fl fc, .slice ra rl rc, .slice wa wl wc, .int .i64 bud], Bx.mk b_1 false 105 [.slice la ll lc, .int .i64 now, .int .i64
 goal, .bool back, .slice ka kl kc, .int .i64 nx], Bx.mk b_2 false 105 [.slice la' ll' lc', .int .i64 now', .int .i64 goal', .bool back', .slice ka' kl' kc', .int
 .i64 nx'], Bx.mk b_4 false 105 [.slice a n c, .int .i64 n_1, .int .i64 n_2, .bool b_3, .slice a_1 n_3 c_1, .int .i64 n_4], Bx.mk b_6 false 59 [.int .i64 n_6,
 .slice a_3 n_7 c_2], Bx.mk b_8 false 105 [.slice a_9 n_12 c_3, .int .i64 n_13, .int .i64 n_14, .bool b_9, .slice a_10 n_15 c_4, .int .i64 n_16]] ∧ SubH H' H' ∧ φ) ∧ (¬¬n_9 = 7 →
 (¬Int.ofNat 7 = 0 → (b_7 = true → [Bx.mk b false 101 [.int .i64 fid, .slice fa fl fc, .slice ra rl rc, .slice wa wl wc, .int .i64 bud], Bx.mk b_1 false 105 [.slice la ll lc, .int
 .i64 now, .int .i64 goal, .bool back, .slice ka kl kc, .int .i64 nx], Bx.mk b_2 false 105 [.slice la' ll' lc', .int .i64 now', .int .i64 goal', .bool back',
 .slice ka' kl' kc', .int .i64 nx'], Bx.mk b_4 false 105 [.slice a n c, .int .i64 n_1, .int .i64 n_2, .bool b_3, .slice a_1 n_3 c_1, .int .i64 n_4], Bx.mk b_6 false 59
 [.int .i64 n_6, .slice a_3 n_7 c_2], Bx.mk b_8 false 105 [.slice a_9 n_12 c_3, .int .i64 n_13, .int .i64 n_14, .bool b_9, .slice a_10 n_15 c_4, .int .i64 n_16]] =
 [Bx.mk b false 101 [.int .i64 fid, .slice fa fl fc, .slice ra rl rc, .slice wa wl wc, .int .i64 bud], Bx.mk b_1 false 105 [.slice la ll lc, .int .i64 now, .int .i64
 goal, .bool back, .slice ka kl kc, .int .i64 nx], Bx.mk b_2 false 105 [.slice la' ll' lc', .int .i64 now', .int .i64 goal', .bool back', .slice ka' kl' kc', .int
 .i64 nx'], Bx.mk b_4 false 105 [.slice a n c, .int .i64 n_1, .int .i64 n_2, .bool b_3, .slice a_1 n_3 c_1, .int .i64 n_4], Bx.mk b_6 false 59 [.int .i64 n_6,
 .slice a_3 n_7 c_2], Bx.mk b_8 false 105 [.slice a_9 n_12 c_3, .int .i64 n_13, .int .i64 n_14, .bool b_9, .slice a_10 n_15 c_4, .int .i64 n_16]] ∧ SubH H' H' ∧ φ) ∧ (b_7 = false →
 (Int.ofNat 7 = 0 → Spec Try.prog 98 [.agg #[.int .i64 fid, .slice fa fl fc, .slice ra rl rc, .slice wa wl wc, .int .i64 bud], .agg #[.slice la ll lc, .int .i64 now,
 .int .i64 goal, .bool back, .slice ka kl kc, .int .i64 nx]] H' fun (v : Value) (H'_8 : Heap) => ∃ (b_15 : Bool), v = .bool b_15 ∧ (vt21_3 fid bud fa ra wa fl fc rl rc wl wc la ka ll lc kl kc now
 goal nx back k la' ka' ll' lc' kl' kc' now' goal' nx' back' base H K H' H'_8 b_7 b_15 b b_1 b_2 b_4 a n c n_1 n_2 b_3 a_1 n_3 c_1 n_4 b_6 n_6 a_3 n_7 c_2 b_8 a_9 n_12 c_3 n_13 n_14 b_9 a_10 n_15 c_4 n_16 φ)) ∧ (¬Int.ofNat 7 = 0 →
 [Bx.mk b false 101 [.int .i64 fid, .slice fa fl fc, .slice ra rl rc, .slice wa wl wc, .int .i64 bud], Bx.mk b_1 false 105 [.slice la ll lc, .int .i64 now, .int .i64
 goal, .bool back, .slice ka kl kc, .int .i64 nx], Bx.mk b_2 false 105 [.slice la' ll' lc', .int .i64 now', .int .i64 goal', .bool back', .slice ka' kl' kc', .int
 .i64 nx'], Bx.mk b_4 false 105 [.slice a n c, .int .i64 n_1, .int .i64 n_2, .bool b_3, .slice a_1 n_3 c_1, .int .i64 n_4], Bx.mk b_6 false 59 [.int .i64 n_6,
 .slice a_3 n_7 c_2], Bx.mk b_8 false 105 [.slice a_9 n_12 c_3, .int .i64 n_13, .int .i64 n_14, .bool b_9, .slice a_10 n_15 c_4, .int .i64 n_16]] = [Bx.mk b false 101 [.int
 .i64 fid, .slice fa fl fc, .slice ra rl rc, .slice wa wl wc, .int .i64 bud], Bx.mk b_1 false 105 [.slice la ll lc, .int .i64 now, .int .i64 goal, .bool back,
 .slice ka kl kc, .int .i64 nx], Bx.mk b_2 false 105 [.slice la' ll' lc', .int .i64 now', .int .i64 goal', .bool back', .slice ka' kl' kc', .int .i64 nx'], Bx.mk b_4
 false 105 [.slice a n c, .int .i64 n_1, .int .i64 n_2, .bool b_3, .slice a_1 n_3 c_1, .int .i64 n_4], Bx.mk b_6 false 59 [.int .i64 n_6, .slice a_3 n_7 c_2], Bx.mk b_8
 false 105 [.slice a_9 n_12 c_3, .int .i64 n_13, .int .i64 n_14, .bool b_9, .slice a_10 n_15 c_4, .int .i64 n_16]] ∧ SubH H' H' ∧ ¬φ))) ∧ (¬¬Int.ofNat 7 = 0 → (Int.ofNat 7 = 0 → Spec
 Try.prog 98 [.agg #[.int .i64 fid, .slice fa fl fc, .slice ra rl rc, .slice wa wl wc, .int .i64 bud], .agg #[.slice la ll lc, .int .i64 now, .int .i64 goal,
 .bool back, .slice ka kl kc, .int .i64 nx]] H' fun (v : Value) (H'_8 : Heap) => ∃ (b_15 : Bool), v = .bool b_15 ∧ (vt21_3 fid bud fa ra wa fl fc rl rc wl wc la ka ll lc kl kc now goal nx back k la' ka' ll'
 lc' kl' kc' now' goal' nx' back' base H K H' H'_8 b_7 b_15 b b_1 b_2 b_4 a n c n_1 n_2 b_3 a_1 n_3 c_1 n_4 b_6 n_6 a_3 n_7 c_2 b_8 a_9 n_12 c_3 n_13 n_14 b_9 a_10 n_15 c_4 n_16 φ)) ∧ (¬Int.ofNat 7 = 0 → [Bx.mk b false 101 [.int
 .i64 fid, .slice fa fl fc, .slice ra rl rc, .slice wa wl wc, .int .i64 bud], Bx.mk b_1 false 105 [.slice la ll lc, .int .i64 now, .int .i64 goal, .bool back,
 .slice ka kl kc, .int .i64 nx], Bx.mk b_2 false 105 [.slice la' ll' lc', .int .i64 now', .int .i64 goal', .bool back', .slice ka' kl' kc', .int .i64 nx'], Bx.mk b_4
 false 105 [.slice a n c, .int .i64 n_1, .int .i64 n_2, .bool b_3, .slice a_1 n_3 c_1, .int .i64 n_4], Bx.mk b_6 false 59 [.int .i64 n_6, .slice a_3 n_7 c_2], Bx.mk b_8
 false 105 [.slice a_9 n_12 c_3, .int .i64 n_13, .int .i64 n_14, .bool b_9, .slice a_10 n_15 c_4, .int .i64 n_16]] = [Bx.mk b false 101 [.int .i64 fid, .slice fa fl fc,
 .slice ra rl rc, .slice wa wl wc, .int .i64 bud], Bx.mk b_1 false 105 [.slice la ll lc, .int .i64 now, .int .i64 goal, .bool back, .slice ka kl kc, .int .i64 nx],
 Bx.mk b_2 false 105 [.slice la' ll' lc', .int .i64 now', .int .i64 goal', .bool back', .slice ka' kl' kc', .int .i64 nx'], Bx.mk b_4 false 105 [.slice a n c, .int .i64
 n_1, .int .i64 n_2, .bool b_3, .slice a_1 n_3 c_1, .int .i64 n_4], Bx.mk b_6 false 59 [.int .i64 n_6, .slice a_3 n_7 c_2], Bx.mk b_8 false 105 [.slice a_9 n_12 c_3, .int
 .i64 n_13, .int .i64 n_14, .bool b_9, .slice a_10 n_15 c_4, .int .i64 n_16]] ∧ SubH H' H' ∧ ¬φ)))) ∧ (φ → K (.bool false) [] H') ∧ (vt21_1 fid bud fa ra wa fl fc rl rc wl wc la ka ll lc kl
 kc now goal nx back k la' ka' ll' lc' kl' kc' now' goal' nx' back' base H K φ H' b b_1 b_2 b_4 a n c n_1 n_2 b_3 a_1 n_3 c_1 n_4 b_6 n_6 a_3 n_7 c_2 b_8 a_9 n_12 c_3 n_13 n_14 b_9 a_10 n_15 c_4 n_16 n_8 b_5)
abbrev vt21_8 (fid bud : Int) (fa ra wa : Option Addr) (fl fc rl rc wl wc : Nat) (la ka : Option Addr) (ll lc kl kc : Nat) (now goal nx : Int) (back : Bool) (k : Int) (la' ka' : Option Addr) (ll' lc' kl' kc' : Nat) (now' goal' nx' : Int) (back' : Bool) (base : Nat) (H : Heap) (K : Value → List (List Value) → Heap → Prop) (φ : Prop) (n_9 : Int) (b : Nat) (b_1 : Nat) (b_2 : Nat) (b_4 : Nat) (a : Option Addr) (n : Nat) (c : Nat) (n_1 : Int) (n_2 : Int) (b_3 : Bool) (a_1 : Option Addr) (n_3 : Nat) (c_1 : Nat) (n_4 : Int) (b_6 : Nat) (n_6 : Int) (a_3 : Option Addr) (n_7 : Nat) (c_2 : Nat) (b_8 : Nat) (H'_7 : Heap) (b_7 : Bool) (n_8 : Int) (b_5 : Bool) : Prop :=
 φ → ∃ (φ : Prop), ((¬n_9 = 7 → [Bx.mk b false 101 [.int .i64 fid, .slice fa fl fc, .slice ra rl rc, .slice wa wl wc, .int .i64 bud], Bx.mk b_1 false 105 [.slice la ll lc, .int
 .i64 now, .int .i64 goal, .bool back, .slice ka kl kc, .int .i64 nx], Bx.mk b_2 false 105 [.slice la' ll' lc', .int .i64 now', .int .i64 goal', .bool back',
 .slice ka' kl' kc', .int .i64 nx'], Bx.mk b_4 false 105 [.slice a n c, .int .i64 n_1, .int .i64 n_2, .bool b_3, .slice a_1 n_3 c_1, .int .i64 n_4], Bx.mk b_6 false 59
 [.int .i64 n_6, .slice a_3 n_7 c_2], Bx.mk b_8 false 105 [.slice none 0 0, .int .i64 0, .int .i64 0, .bool false, .slice none 0 0, .int .i64 0]] = [Bx.mk b false 101
 [.int .i64 fid, .slice fa fl fc, .slice ra rl rc, .slice wa wl wc, .int .i64 bud], Bx.mk b_1 false 105 [.slice la ll lc, .int .i64 now, .int .i64 goal, .bool
 back, .slice ka kl kc, .int .i64 nx], Bx.mk b_2 false 105 [.slice la' ll' lc', .int .i64 now', .int .i64 goal', .bool back', .slice ka' kl' kc', .int .i64 nx'], Bx.mk
 b_4 false 105 [.slice a n c, .int .i64 n_1, .int .i64 n_2, .bool b_3, .slice a_1 n_3 c_1, .int .i64 n_4], Bx.mk b_6 false 59 [.int .i64 n_6, .slice a_3 n_7 c_2], Bx.mk
 b_8 false 105 [.slice none 0 0, .int .i64 0, .int .i64 0, .bool false, .slice none 0 0, .int .i64 0]] ∧ SubH H'_7 H'_7 ∧ φ) ∧ (¬¬n_9 = 7 → (¬Int.ofNat 7 = 0 → (b_7 = true → [Bx.mk b
 false 101 [.int .i64 fid, .slice fa fl fc, .slice ra rl rc, .slice wa wl wc, .int .i64 bud], Bx.mk b_1 false 105 [.slice la ll lc, .int .i64 now, .int .i64 goal,
 .bool back, .slice ka kl kc, .int .i64 nx], Bx.mk b_2 false 105 [.slice la' ll' lc', .int .i64 now', .int .i64 goal', .bool back', .slice ka' kl' kc', .int .i64
 nx'], Bx.mk b_4 false 105 [.slice a n c, .int .i64 n_1, .int .i64 n_2, .bool b_3, .slice a_1 n_3 c_1, .int .i64 n_4], Bx.mk b_6 false 59 [.int .i64 n_6, .slice a_3 n_7
 c_2], Bx.mk b_8 false 105 [.slice none 0 0, .int .i64 0, .int .i64 0, .bool false, .slice none 0 0, .int .i64 0]] = [Bx.mk b false 101 [.int .i64 fid, .slice fa fl fc,
 .slice ra rl rc, .slice wa wl wc, .int .i64 bud], Bx.mk b_1 false 105 [.slice la ll lc, .int .i64 now, .int .i64 goal, .bool back, .slice ka kl kc, .int .i64 nx],
 Bx.mk b_2 false 105 [.slice la' ll' lc', .int .i64 now', .int .i64 goal', .bool back', .slice ka' kl' kc', .int .i64 nx'], Bx.mk b_4 false 105 [.slice a n c, .int .i64
 n_1, .int .i64 n_2, .bool b_3, .slice a_1 n_3 c_1, .int .i64 n_4], Bx.mk b_6 false 59 [.int .i64 n_6, .slice a_3 n_7 c_2], Bx.mk b_8 false 105 [.slice none 0 0, .int
 .i64 0, .int .i64 0, .bool false, .slice none 0 0, .int .i64 0]] ∧ SubH H'_7 H'_7 ∧ φ) ∧ (b_7 = false → (Int.ofNat 7 = 0 → Spec Try.prog 98 [.agg #[.int .i64 fid, .slice
 fa fl fc, .slice ra rl rc, .slice wa wl wc, .int .i64 bud], .agg #[.slice la ll lc, .int .i64 now, .int .i64 goal, .bool back, .slice ka kl kc, .int .i64
 nx]] H'_7 fun (v : Value) (H' : Heap) => ∃ (b_14 : Bool), v = .bool b_14 ∧ (vt21_4 fid bud fa ra wa fl fc rl rc wl wc la ka ll lc kl kc now goal nx back k la' ka' ll' lc' kl' kc' now' goal' nx' back' base H K H'_7 H' b_7 b_14 b
 b_1 b_2 b_4 a n c n_1 n_2 b_3 a_1 n_3 c_1 n_4 b_6 n_6 a_3 n_7 c_2 b_8 φ)) ∧ (¬Int.ofNat 7 = 0 → [Bx.mk b false 101 [.int .i64 fid, .slice fa fl fc, .slice ra rl rc, .slice wa wl wc, .int .i64
 bud], Bx.mk b_1 false 105 [.slice la ll lc, .int .i64 now, .int .i64 goal, .bool back, .slice ka kl kc, .int .i64 nx], Bx.mk b_2 false 105 [.slice la' ll' lc', .int
 .i64 now', .int .i64 goal', .bool back', .slice ka' kl' kc', .int .i64 nx'], Bx.mk b_4 false 105 [.slice a n c, .int .i64 n_1, .int .i64 n_2, .bool b_3,
 .slice a_1 n_3 c_1, .int .i64 n_4], Bx.mk b_6 false 59 [.int .i64 n_6, .slice a_3 n_7 c_2], Bx.mk b_8 false 105 [.slice none 0 0, .int .i64 0, .int .i64 0, .bool
 false, .slice none 0 0, .int .i64 0]] = [Bx.mk b false 101 [.int .i64 fid, .slice fa fl fc, .slice ra rl rc, .slice wa wl wc, .int .i64 bud], Bx.mk b_1 false 105 [.slice la
 ll lc, .int .i64 now, .int .i64 goal, .bool back, .slice ka kl kc, .int .i64 nx], Bx.mk b_2 false 105 [.slice la' ll' lc', .int .i64 now', .int .i64 goal',
 .bool back', .slice ka' kl' kc', .int .i64 nx'], Bx.mk b_4 false 105 [.slice a n c, .int .i64 n_1, .int .i64 n_2, .bool b_3, .slice a_1 n_3 c_1, .int .i64 n_4],
 Bx.mk b_6 false 59 [.int .i64 n_6, .slice a_3 n_7 c_2], Bx.mk b_8 false 105 [.slice none 0 0, .int .i64 0, .int .i64 0, .bool false, .slice none 0 0, .int .i64 0]] ∧
 SubH H'_7 H'_7 ∧ ¬φ))) ∧ (¬¬Int.ofNat 7 = 0 → (Int.ofNat 7 = 0 → Spec Try.prog 98 [.agg #[.int .i64 fid, .slice fa fl fc, .slice ra rl rc, .slice wa wl wc, .int .i64 bud], .agg
 #[.slice la ll lc, .int .i64 now, .int .i64 goal, .bool back, .slice ka kl kc, .int .i64 nx]] H'_7 fun (v : Value) (H' : Heap) => ∃ (b_14 : Bool), v = .bool b_14 ∧ (vt21_4 fid bud
 fa ra wa fl fc rl rc wl wc la ka ll lc kl kc now goal nx back k la' ka' ll' lc' kl' kc' now' goal' nx' back' base H K H'_7 H' b_7 b_14 b b_1 b_2 b_4 a n c n_1 n_2 b_3 a_1 n_3 c_1 n_4 b_6 n_6 a_3 n_7 c_2 b_8 φ)) ∧ (¬Int.ofNat 7 = 0 →
 [Bx.mk b false 101 [.int .i64 fid, .slice fa fl fc, .slice ra rl rc, .slice wa wl wc, .int .i64 bud], Bx.mk b_1 false 105 [.slice la ll lc, .int .i64 now, .int .i64
 goal, .bool back, .slice ka kl kc, .int .i64 nx], Bx.mk b_2 false 105 [.slice la' ll' lc', .int .i64 now', .int .i64 goal', .bool back', .slice ka' kl' kc', .int
 .i64 nx'], Bx.mk b_4 false 105 [.slice a n c, .int .i64 n_1, .int .i64 n_2, .bool b_3, .slice a_1 n_3 c_1, .int .i64 n_4], Bx.mk b_6 false 59 [.int .i64 n_6,
 .slice a_3 n_7 c_2], Bx.mk b_8 false 105 [.slice none 0 0, .int .i64 0, .int .i64 0, .bool false, .slice none 0 0, .int .i64 0]] = [Bx.mk b false 101 [.int .i64 fid,
 .slice fa fl fc, .slice ra rl rc, .slice wa wl wc, .int .i64 bud], Bx.mk b_1 false 105 [.slice la ll lc, .int .i64 now, .int .i64 goal, .bool back, .slice ka kl kc,
 .int .i64 nx], Bx.mk b_2 false 105 [.slice la' ll' lc', .int .i64 now', .int .i64 goal', .bool back', .slice ka' kl' kc', .int .i64 nx'], Bx.mk b_4 false 105 [.slice a
 n c, .int .i64 n_1, .int .i64 n_2, .bool b_3, .slice a_1 n_3 c_1, .int .i64 n_4], Bx.mk b_6 false 59 [.int .i64 n_6, .slice a_3 n_7 c_2], Bx.mk b_8 false 105 [.slice
 none 0 0, .int .i64 0, .int .i64 0, .bool false, .slice none 0 0, .int .i64 0]] ∧ SubH H'_7 H'_7 ∧ ¬φ)))) ∧ (φ → K (.bool false) [] H'_7) ∧ (vt21_2 fid bud fa ra wa fl fc rl rc wl wc
 la ka ll lc kl kc now goal nx back k la' ka' ll' lc' kl' kc' now' goal' nx' back' base H K φ H'_7 b b_1 b_2 b_4 a n c n_1 n_2 b_3 a_1 n_3 c_1 n_4 b_6 n_6 a_3 n_7 c_2 b_8 n_8 b_5)
abbrev vt21_12 (fid bud : Int) (fa ra wa : Option Addr) (fl fc rl rc wl wc : Nat) (la ka : Option Addr) (ll lc kl kc : Nat) (now goal nx : Int) (back : Bool) (k : Int) (la' ka' : Option Addr) (ll' lc' kl' kc' : Nat) (now' goal' nx' : Int) (back' : Bool) (base : Nat) (H : Heap) (K : Value → List (List Value) → Heap → Prop) (φ : Prop) (n_9 : Int) (n_11 : Int) (b : Nat) (b_1 : Nat) (b_2 : Nat) (b_4 : Nat) (a : Option Addr) (n : Nat) (c : Nat) (n_1 : Int) (n_2 : Int) (b_3 : Bool) (a_1 : Option Addr) (n_3 : Nat) (c_1 : Nat) (n_4 : Int) (b_6 : Nat) (n_6 : Int) (a_3 : Option Addr) (n_7 : Nat) (c_2 : Nat) (b_8 : Nat) (a_9 : Option Addr) (n_12 : Nat) (c_3 : Nat) (n_13 : Int) (n_14 : Int) (b_9 : Bool) (a_10 : Option Addr) (n_15 : Nat) (c_4 : Nat) (n_16 : Int) (H' : Heap) (b_7 : Bool) (n_8 : Int) (b_5 : Bool) : Prop :=
 ¬φ → ∃ (φ : Prop), ((¬n_9 = n_11 → [Bx.mk b false 101 [.int .i64 fid, .slice fa fl fc, .slice ra rl rc, .slice wa wl wc, .int .i64 bud], Bx.mk b_1 false 105 [.slice la ll lc, .int
 .i64 now, .int .i64 goal, .bool back, .slice ka kl kc, .int .i64 nx], Bx.mk b_2 false 105 [.slice la' ll' lc', .int .i64 now', .int .i64 goal', .bool back',
 .slice ka' kl' kc', .int .i64 nx'], Bx.mk b_4 false 105 [.slice a n c, .int .i64 n_1, .int .i64 n_2, .bool b_3, .slice a_1 n_3 c_1, .int .i64 n_4], Bx.mk b_6 false 59
 [.int .i64 n_6, .slice a_3 n_7 c_2], Bx.mk b_8 false 105 [.slice a_9 n_12 c_3, .int .i64 n_13, .int .i64 n_14, .bool b_9, .slice a_10 n_15 c_4, .int .i64 n_16]] =
 [Bx.mk b false 101 [.int .i64 fid, .slice fa fl fc, .slice ra rl rc, .slice wa wl wc, .int .i64 bud], Bx.mk b_1 false 105 [.slice la ll lc, .int .i64 now, .int .i64
 goal, .bool back, .slice ka kl kc, .int .i64 nx], Bx.mk b_2 false 105 [.slice la' ll' lc', .int .i64 now', .int .i64 goal', .bool back', .slice ka' kl' kc', .int
 .i64 nx'], Bx.mk b_4 false 105 [.slice a n c, .int .i64 n_1, .int .i64 n_2, .bool b_3, .slice a_1 n_3 c_1, .int .i64 n_4], Bx.mk b_6 false 59 [.int .i64 n_6,
 .slice a_3 n_7 c_2], Bx.mk b_8 false 105 [.slice a_9 n_12 c_3, .int .i64 n_13, .int .i64 n_14, .bool b_9, .slice a_10 n_15 c_4, .int .i64 n_16]] ∧ SubH H' H' ∧ φ) ∧ (¬¬n_9 = n_11
 → (¬n_11 = 0 → (b_7 = true → [Bx.mk b false 101 [.int .i64 fid, .slice fa fl fc, .slice ra rl rc, .slice wa wl wc, .int .i64 bud], Bx.mk b_1 false 105 [.slice la ll lc, .int .i64
 now, .int .i64 goal, .bool back, .slice ka kl kc, .int .i64 nx], Bx.mk b_2 false 105 [.slice la' ll' lc', .int .i64 now', .int .i64 goal', .bool back', .slice ka'
 kl' kc', .int .i64 nx'], Bx.mk b_4 false 105 [.slice a n c, .int .i64 n_1, .int .i64 n_2, .bool b_3, .slice a_1 n_3 c_1, .int .i64 n_4], Bx.mk b_6 false 59 [.int
 .i64 n_6, .slice a_3 n_7 c_2], Bx.mk b_8 false 105 [.slice a_9 n_12 c_3, .int .i64 n_13, .int .i64 n_14, .bool b_9, .slice a_10 n_15 c_4, .int .i64 n_16]] = [Bx.mk b false
 101 [.int .i64 fid, .slice fa fl fc, .slice ra rl rc, .slice wa wl wc, .int .i64 bud], Bx.mk b_1 false 105 [.slice la ll lc, .int .i64 now, .int .i64 goal, .bool
 back, .slice ka kl kc, .int .i64 nx], Bx.mk b_2 false 105 [.slice la' ll' lc', .int .i64 now', .int .i64 goal', .bool back', .slice ka' kl' kc', .int .i64 nx'], Bx.mk
 b_4 false 105 [.slice a n c, .int .i64 n_1, .int .i64 n_2, .bool b_3, .slice a_1 n_3 c_1, .int .i64 n_4], Bx.mk b_6 false 59 [.int .i64 n_6, .slice a_3 n_7 c_2], Bx.mk
 b_8 false 105 [.slice a_9 n_12 c_3, .int .i64 n_13, .int .i64 n_14, .bool b_9, .slice a_10 n_15 c_4, .int .i64 n_16]] ∧ SubH H' H' ∧ φ) ∧ (b_7 = false → (n_11 = 0 → Spec Try.prog 98
 [.agg #[.int .i64 fid, .slice fa fl fc, .slice ra rl rc, .slice wa wl wc, .int .i64 bud], .agg #[.slice la ll lc, .int .i64 now, .int .i64 goal, .bool
 back, .slice ka kl kc, .int .i64 nx]] H' fun (v : Value) (H'_8 : Heap) => ∃ (b_15 : Bool), v = .bool b_15 ∧ (vt21_3 fid bud fa ra wa fl fc rl rc wl wc la ka ll lc kl kc now goal nx back k la' ka' ll' lc' kl' kc'
 now' goal' nx' back' base H K H' H'_8 b_7 b_15 b b_1 b_2 b_4 a n c n_1 n_2 b_3 a_1 n_3 c_1 n_4 b_6 n_6 a_3 n_7 c_2 b_8 a_9 n_12 c_3 n_13 n_14 b_9 a_10 n_15 c_4 n_16 φ)) ∧ (vt21_5 fid bud fa ra wa fl fc rl rc wl wc la ka ll lc kl kc now
 goal nx back k la' ka' ll' lc' kl' kc' now' goal' nx' back' base H K n_11 b b_1 b_2 b_4 a n c n_1 n_2 b_3 a_1 n_3 c_1 n_4 b_6 n_6 a_3 n_7 c_2 b_8 a_9 n_12 c_3 n_13 n_14 b_9 a_10 n_15 c_4 n_16 H' φ))) ∧ (¬¬n_11 = 0 → (n_11 = 0 → Spec
 Try.prog 98 [.agg #[.int .i64 fid, .slice fa fl fc, .slice ra rl rc, .slice wa wl wc, .int .i64 bud], .agg #[.slice la ll lc, .int .i64 now, .int .i64 goal,
 .bool back, .slice ka kl kc, .int .i64 nx]] H' fun (v : Value) (H'_8 : Heap) => ∃ (b_15 : Bool), v = .bool b_15 ∧ (vt21_3 fid bud fa ra wa fl fc rl rc wl wc la ka ll lc kl kc now goal nx back k la' ka' ll'
 lc' kl' kc' now' goal' nx' back' base H K H' H'_8 b_7 b_15 b b_1 b_2 b_4 a n c n_1 n_2 b_3 a_1 n_3 c_1 n_4 b_6 n_6 a_3 n_7 c_2 b_8 a_9 n_12 c_3 n_13 n_14 b_9 a_10 n_15 c_4 n_16 φ)) ∧ (vt21_5 fid bud fa ra wa fl fc rl rc wl wc la ka ll
 lc kl kc now goal nx back k la' ka' ll' lc' kl' kc' now' goal' nx' back' base H K n_11 b b_1 b_2 b_4 a n c n_1 n_2 b_3 a_1 n_3 c_1 n_4 b_6 n_6 a_3 n_7 c_2 b_8 a_9 n_12 c_3 n_13 n_14 b_9 a_10 n_15 c_4 n_16 H' φ)))) ∧ (φ → K (.bool
 false) [] H') ∧ (vt21_1 fid bud fa ra wa fl fc rl rc wl wc la ka ll lc kl kc now goal nx back k la' ka' ll' lc' kl' kc' now' goal' nx' back' base H K φ H' b b_1 b_2 b_4 a n c n_1 n_2 b_3 a_1 n_3 c_1 n_4 b_6 n_6 a_3 n_7 c_2 b_8 a_9 n_12
 c_3 n_13 n_14 b_9 a_10 n_15 c_4 n_16 n_8 b_5)
abbrev vt21_13 (fid bud : Int) (fa ra wa : Option Addr) (fl fc rl rc wl wc : Nat) (la ka : Option Addr) (ll lc kl kc : Nat) (now goal nx : Int) (back : Bool) (k : Int) (la' ka' : Option Addr) (ll' lc' kl' kc' : Nat) (now' goal' nx' : Int) (back' : Bool) (base : Nat) (H : Heap) (K : Value → List (List Value) → Heap → Prop) (φ : Prop) (n_9 : Int) (n_11 : Int) (b : Nat) (b_1 : Nat) (b_2 : Nat) (b_4 : Nat) (a : Option Addr) (n : Nat) (c : Nat) (n_1 : Int) (n_2 : Int) (b_3 : Bool) (a_1 : Option Addr) (n_3 : Nat) (c_1 : Nat) (n_4 : Int) (b_6 : Nat) (n_6 : Int) (a_3 : Option Addr) (n_7 : Nat) (c_2 : Nat) (b_8 : Nat) (H'_7 : Heap) (b_7 : Bool) (n_8 : Int) (b_5 : Bool) : Prop :=
 ¬φ → ∃ (φ : Prop), ((¬n_9 = n_11 → [Bx.mk b false 101 [.int .i64 fid, .slice fa fl fc, .slice ra rl rc, .slice wa wl wc, .int .i64 bud], Bx.mk b_1 false 105 [.slice la ll lc, .int
 .i64 now, .int .i64 goal, .bool back, .slice ka kl kc, .int .i64 nx], Bx.mk b_2 false 105 [.slice la' ll' lc', .int .i64 now', .int .i64 goal', .bool back',
 .slice ka' kl' kc', .int .i64 nx'], Bx.mk b_4 false 105 [.slice a n c, .int .i64 n_1, .int .i64 n_2, .bool b_3, .slice a_1 n_3 c_1, .int .i64 n_4], Bx.mk b_6 false 59
 [.int .i64 n_6, .slice a_3 n_7 c_2], Bx.mk b_8 false 105 [.slice none 0 0, .int .i64 0, .int .i64 0, .bool false, .slice none 0 0, .int .i64 0]] = [Bx.mk b false 101
 [.int .i64 fid, .slice fa fl fc, .slice ra rl rc, .slice wa wl wc, .int .i64 bud], Bx.mk b_1 false 105 [.slice la ll lc, .int .i64 now, .int .i64 goal, .bool
 back, .slice ka kl kc, .int .i64 nx], Bx.mk b_2 false 105 [.slice la' ll' lc', .int .i64 now', .int .i64 goal', .bool back', .slice ka' kl' kc', .int .i64 nx'], Bx.mk
 b_4 false 105 [.slice a n c, .int .i64 n_1, .int .i64 n_2, .bool b_3, .slice a_1 n_3 c_1, .int .i64 n_4], Bx.mk b_6 false 59 [.int .i64 n_6, .slice a_3 n_7 c_2], Bx.mk
 b_8 false 105 [.slice none 0 0, .int .i64 0, .int .i64 0, .bool false, .slice none 0 0, .int .i64 0]] ∧ SubH H'_7 H'_7 ∧ φ) ∧ (¬¬n_9 = n_11 → (¬n_11 = 0 → (b_7 = true → [Bx.mk b false
 101 [.int .i64 fid, .slice fa fl fc, .slice ra rl rc, .slice wa wl wc, .int .i64 bud], Bx.mk b_1 false 105 [.slice la ll lc, .int .i64 now, .int .i64 goal, .bool
 back, .slice ka kl kc, .int .i64 nx], Bx.mk b_2 false 105 [.slice la' ll' lc', .int .i64 now', .int .i64 goal', .bool back', .slice ka' kl' kc', .int .i64 nx'], Bx.mk
 b_4 false 105 [.slice a n c, .int .i64 n_1, .int .i64 n_2, .bool b_3, .slice a_1 n_3 c_1, .int .i64 n_4], Bx.mk b_6 false 59 [.int .i64 n_6, .slice a_3 n_7 c_2], Bx.mk
 b_8 false 105 [.slice none 0 0, .int .i64 0, .int .i64 0, .bool false, .slice none 0 0, .int .i64 0]] = [Bx.mk b false 101 [.int .i64 fid, .slice fa fl fc, .slice
 ra rl rc, .slice wa wl wc, .int .i64 bud], Bx.mk b_1 false 105 [.slice la ll lc, .int .i64 now, .int .i64 goal, .bool back, .slice ka kl kc, .int .i64 nx], Bx.mk b_2
 false 105 [.slice la' ll' lc', .int .i64 now', .int .i64 goal', .bool back', .slice ka' kl' kc', .int .i64 nx'], Bx.mk b_4 false 105 [.slice a n c, .int .i64 n_1,
 .int .i64 n_2, .bool b_3, .slice a_1 n_3 c_1, .int .i64 n_4], Bx.mk b_6 false 59 [.int .i64 n_6, .slice a_3 n_7 c_2], Bx.mk b_8 false 105 [.slice none 0 0, .int .i64
 0, .int .i64 0, .bool false, .slice none 0 0, .int .i64 0]] ∧ SubH H'_7 H'_7 ∧ φ) ∧ (b_7 = false → (n_11 = 0 → Spec Try.prog 98 [.agg #[.int .i64 fid, .slice fa fl fc,
 .slice ra rl rc, .slice wa wl wc, .int .i64 bud], .agg #[.slice la ll lc, .int .i64 now, .int .i64 goal, .bool back, .slice ka kl kc, .int .i64 nx]] H'_7 fun
 (v : Value) (H' : Heap) => ∃ (b_14 : Bool), v = .bool b_14 ∧ (vt21_4 fid bud fa ra wa fl fc rl rc wl wc la ka ll lc kl kc now goal nx back k la' ka' ll' lc' kl' kc' now' goal' nx' back' base H K H'_7 H' b_7 b_14 b b_1 b_2 b_4 a n
 c n_1 n_2 b_3 a_1 n_3 c_1 n_4 b_6 n_6 a_3 n_7 c_2 b_8 φ)) ∧ (vt21_6 fid bud fa ra wa fl fc rl rc wl wc la ka ll lc kl kc now goal nx back k la' ka' ll' lc' kl' kc' now' goal' nx' back' base H K n_11 b b_1 b_2 b_4 a n c n_1 n_2 b_3 a_1
 n_3 c_1 n_4 b_6 n_6 a_3 n_7 c_2 b_8 H'_7 φ))) ∧ (¬¬n_11 = 0 → (n_11 = 0 → Spec Try.prog 98 [.agg #[.int .i64 fid, .slice fa fl fc, .slice ra rl rc, .slice wa wl wc, .int .i64 bud],
 .agg #[.slice la ll lc, .int .i64 now, .int .i64 goal, .bool back, .slice ka kl kc, .int .i64 nx]] H'_7 fun (v : Value) (H' : Heap) => ∃ (b_14 : Bool), v = .bool b_14 ∧
 (vt21_4 fid bud fa ra wa fl fc rl rc wl wc la ka ll lc kl kc now goal nx back k la' ka' ll' lc' kl' kc' now' goal' nx' back' base H K H'_7 H' b_7 b_14 b b_1 b_2 b_4 a n c n_1 n_2 b_3 a_1 n_3 c_1 n_4 b_6 n_6 a_3 n_7 c_2 b_8 φ)) ∧
 (vt21_6 fid bud fa ra wa fl fc rl rc wl wc la ka ll lc kl kc now goal nx back k la' ka' ll' lc' kl' kc' now' goal' nx' back' base H K n_11 b b_1 b_2 b_4 a n c n_1 n_2 b_3 a_1 n_3 c_1 n_4 b_6 n_6 a_3 n_7 c_2 b_8 H'_7 φ)))) ∧ (φ → K
 (.bool false) [] H'_7) ∧ (vt21_2 fid bud fa ra wa fl fc rl rc wl wc la ka ll lc kl kc now goal nx back k la' ka' ll' lc' kl' kc' now' goal' nx' back' base H K φ H'_7 b b_1 b_2 b_4 a n c n_1 n_2 b_3 a_1 n_3 c_1 n_4 b_6 n_6 a_3 n_7
 c_2 b_8 n_8 b_5)
theorem vc21 (fid bud : Int) (fa ra wa : Option Addr) (fl fc rl rc wl wc : Nat) (la ka : Option Addr) (ll lc kl kc : Nat) (now goal nx : Int) (back : Bool) (k : Int) (la' ka' : Option Addr) (ll' lc' kl' kc' : Nat) (now' goal' nx' : Int) (back' : Bool) (base : Nat) (H : Heap) (K : Value → List (List Value) → Heap → Prop) :
  (funV ⟨Try.prog, Try.f21.ntmps, TryMutsJ, base, H⟩ (bodyOf Try.f21) Try.f21.results.toList [.v (.agg #[.int .i64 fid, .slice fa fl fc, .slice ra rl rc, .slice wa wl wc, .int .i64 bud]), .v (.agg #[.slice la ll lc, .int .i64 now, .int .i64 goal, .bool back, .slice ka kl kc, .int .i64 nx]), .v (.int .i64 k), .v (.agg #[.slice la' ll' lc', .int .i64 now', .int .i64 goal', .bool back', .slice ka' kl' kc', .int .i64 nx'])] [] K) = (
 ∀ (b b_1 b_2 : Nat), Spec Try.prog 84 [.agg #[.int .i64 fid, .slice fa fl fc, .slice ra rl rc, .slice wa wl wc, .int .i64 bud]] H fun (v : Value) (H' : Heap) => ∃ (a : Option Addr), ∃ (n :
 Nat), ∃ (c : Nat), ∃ (n_1 : Int), ∃ (n_2 : Int), ∃ (b_3 : Bool), ∃ (a_1 : Option Addr), ∃ (n_3 : Nat), ∃ (c_1 : Nat), ∃ (n_4 : Int), ∃ (n_5 : Int), v = .tuple #[.agg #[.slice a n c, .int .i64 n_1, .int
 .i64 n_2, .bool b_3, .slice a_1 n_3 c_1, .int .i64 n_4], .int .i64 n_5] ∧ (Next base H H' → ∀ (b_4 : Nat), Spec Try.prog 80 [.agg #[.int .i64 fid, .slice fa fl fc,
 .slice ra rl rc, .slice wa wl wc, .int .i64 bud], .agg #[.slice la ll lc, .int .i64 now, .int .i64 goal, .bool back, .slice ka kl kc, .int .i64 nx],
 .int .i64 k] H' fun (v : Value) (H'_1 : Heap) => ∃ (b_5 : Bool), ∃ (n_6 : Int), ∃ (a_3 : Option Addr), ∃ (n_7 : Nat), ∃ (c_2 : Nat), ∃ (n_8 : Int), v = .tuple #[.bool b_5, .agg #[.int .i64 n_6,
 .slice a_3 n_7 c_2], .int .i64 n_8] ∧ (Next base H' H'_1 → ∀ (b_6 : Nat), Spec Try.prog 81 [.agg #[.int .i64 fid, .slice fa fl fc, .slice ra rl rc, .slice wa wl wc, .int
 .i64 bud], .agg #[.slice la ll lc, .int .i64 now, .int .i64 goal, .bool back, .slice ka kl kc, .int .i64 nx]] H'_1 fun (v : Value) (H' : Heap) => ∃ (b_7 : Bool), ∃ (n_9 :
 Int), v = .tuple #[.bool b_7, .int .i64 n_9] ∧ (Next base H'_1 H' → Spec Try.prog 91 [.agg #[.int .i64 fid, .slice fa fl fc, .slice ra rl rc, .slice wa wl wc, .int
 .i64 bud]] H' fun (v : Value) (H'_2 : Heap) => ∃ (n_10 : Int), v = .int .i64 n_10 ∧ (Next base H' H'_2 → Spec Try.prog 92 [.agg #[.int .i64 fid, .slice fa fl fc, .slice ra rl rc,
 .slice wa wl wc, .int .i64 bud], .agg #[.slice la ll lc, .int .i64 now, .int .i64 goal, .bool back, .slice ka kl kc, .int .i64 nx]] H'_2 fun (v : Value) (H' :
 Heap) => ∃ (n_11 : Int), v = .int .i64 n_11 ∧ (Next base H'_2 H' → ∀ (b_8 : Nat), (n_10 = 0 → Spec Try.prog 93 [.agg #[.int .i64 fid, .slice fa fl fc, .slice ra rl rc, .slice wa wl wc,
 .int .i64 bud]] H' fun (v : Value) (H'_3 : Heap) => ∃ (a_9 : Option Addr), ∃ (n_12 : Nat), ∃ (c_3 : Nat), ∃ (n_13 : Int), ∃ (n_14 : Int), ∃ (b_9 : Bool), ∃ (a_10 : Option Addr), ∃ (n_15 : Nat), ∃ (c_4 : Nat), ∃ (n_16 :
 Int), v = .agg #[.slice a_9 n_12 c_3, .int .i64 n_13, .int .i64 n_14, .bool b_9, .slice a_10 n_15 c_4, .int .i64 n_16] ∧ (Next base H' H'_3 → Spec Try.prog 94 [.agg
 #[.int .i64 fid, .slice fa fl fc, .slice ra rl rc, .slice wa wl wc, .int .i64 bud]] H'_3 fun (v : Value) (H' : Heap) => ∃ (n_17 : Int), v = .int .i64 n_17 ∧ (Next base H'_3 H' →
 Spec Try.prog 76 [] H' fun (v : Value) (H'_4 : Heap) => ∃ (b_10 : Bool), v = .bool b_10 ∧ (Next base H' H'_4 → (b_10 = false → K (.bool false) [] H'_4) ∧ (¬b_10 = false → Spec Try.prog 95 [.agg #[.int
 .i64 fid, .slice fa fl fc, .slice ra rl rc, .slice wa wl wc, .int .i64 bud]] H'_4 fun (v : Value) (H' : Heap) => ∃ (n_18 : Int), v = .int .i64 n_18 ∧ (Next base H'_4 H' → (¬n_18 = n_10 →
 K (.bool false) [] H') ∧ (¬¬n_18 = n_10 → Spec Try.prog 77 [.agg #[.int .i64 fid, .slice fa fl fc, .slice ra rl rc, .slice wa wl wc, .int .i64 bud], .agg #[.slice la ll lc,
 .int .i64 now, .int .i64 goal, .bool back, .slice ka kl kc, .int .i64 nx]] H' fun (v : Value) (H'_5 : Heap) => ∃ (n_19 : Int), v = .int .i64 n_19 ∧ (Next base H' H'_5 →
 (¬n_19 = n_11 → K (.bool false) [] H'_5) ∧ (¬¬n_19 = n_11 → Spec Try.prog 96 [.agg #[.slice la ll lc, .int .i64 now, .int .i64 goal, .bool back, .slice ka kl kc, .int .i64
 nx], .agg #[.slice la' ll' lc', .int .i64 now', .int .i64 goal', .bool back', .slice ka' kl' kc', .int .i64 nx']] H'_5 fun (v : Value) (H' : Heap) => ∃ (b_11 : Bool), v =
 .bool b_11 ∧ (Next base H'_5 H' → Spec Try.prog 88 [.agg #[.slice la ll lc, .int .i64 now, .int .i64 goal, .bool back, .slice ka kl kc, .int .i64 nx], .agg
 #[.slice la' ll' lc', .int .i64 now', .int .i64 goal', .bool back', .slice ka' kl' kc', .int .i64 nx']] H' fun (v : Value) (H'_6 : Heap) => ∃ (b_12 : Bool), v = .bool b_12 ∧
 (Next base H' H'_6 → ∃ (b_13 : Bool), RunsTo Try.prog (binRun BinOp.neq 4 (.tmp 69) (.tmp 72) (.bool b_11) (.bool b_12)) (.bool b_13) ∧ (b_13 = true → K (.bool false) [] H'_6) ∧ (¬b_13 = true →
 (¬n_5 = n_10 → K (.bool false) [] H'_6) ∧ (¬¬n_5 = n_10 → Spec Try.prog 88 [.agg #[.slice a n c, .int .i64 n_1, .int .i64 n_2, .bool b_3, .slice a_1 n_3 c_1, .int .i64
 n_4], .agg #[.slice a_9 n_12 c_3, .int .i64 n_13, .int .i64 n_14, .bool b_9, .slice a_10 n_15 c_4, .int .i64 n_16]] H'_6 fun (v : Value) (H' : Heap) => ∃ (b_14 : Bool), v =
 .bool b_14 ∧ (Next base H'_6 H' → (b_14 = false → K (.bool false) [] H') ∧ (¬b_14 = false → Spec Try.prog 97 [.agg #[.int .i64 fid, .slice fa fl fc, .slice ra rl rc, .slice wa wl wc,
 .int .i64 bud]] H' fun (v : Value) (H'_7 : Heap) => ∃ (n_20 : Int), v = .int .i64 n_20 ∧ (Next base H' H'_7 → (¬n_17 = n_20 → (n_17 < 7 → K (.bool false) [] H'_7) ∧ (¬n_17 < 7 → Spec Try.prog 97
 [.agg #[.int .i64 fid, .slice fa fl fc, .slice ra rl rc, .slice wa wl wc, .int .i64 bud]] H'_7 fun (v : Value) (H' : Heap) => ∃ (n_21 : Int), v = .int .i64 n_21 ∧ (Next base
 H'_7 H' → (n_21 < 7 → K (.bool false) [] H') ∧ (¬n_21 < 7 → ∃ (φ : Prop), (vt21_14 fid bud fa ra wa fl fc rl rc wl wc la ka ll lc kl kc now goal nx back k la' ka' ll' lc' kl' kc' now' goal' nx' back' base H K n_11 b b_1 b_2 b_4 a
 n c n_1 n_2 b_3 a_1 n_3 c_1 n_4 b_6 n_6 a_3 n_7 c_2 b_8 a_9 n_12 c_3 n_13 n_14 b_9 a_10 n_15 c_4 n_16 H' φ) ∧ (vt21_7 fid bud fa ra wa fl fc rl rc wl wc la ka ll lc kl kc now goal nx back k la' ka' ll' lc' kl' kc' now' goal' nx' back'
 base H K φ n_9 b b_1 b_2 b_4 a n c n_1 n_2 b_3 a_1 n_3 c_1 n_4 b_6 n_6 a_3 n_7 c_2 b_8 a_9 n_12 c_3 n_13 n_14 b_9 a_10 n_15 c_4 n_16 H' b_7 n_8 b_5) ∧ (vt21_12 fid bud fa ra wa fl fc rl rc wl wc la ka ll lc kl kc now goal nx back k la'
 ka' ll' lc' kl' kc' now' goal' nx' back' base H K φ n_9 n_11 b b_1 b_2 b_4 a n c n_1 n_2 b_3 a_1 n_3 c_1 n_4 b_6 n_6 a_3 n_7 c_2 b_8 a_9 n_12 c_3 n_13 n_14 b_9 a_10 n_15 c_4 n_16 H' b_7 n_8 b_5))))) ∧ (¬¬n_17 = n_20 → ∃ (φ : Prop),
 (vt21_14 fid bud fa ra wa fl fc rl rc wl wc la ka ll lc kl kc now goal nx back k la' ka' ll' lc' kl' kc' now' goal' nx' back' base H K n_11 b b_1 b_2 b_4 a n c n_1 n_2 b_3 a_1 n_3 c_1 n_4 b_6 n_6 a_3 n_7 c_2 b_8 a_9 n_12 c_3 n_13 n_14
 b_9 a_10 n_15 c_4 n_16 H'_7 φ) ∧ (vt21_7 fid bud fa ra wa fl fc rl rc wl wc la ka ll lc kl kc now goal nx back k la' ka' ll' lc' kl' kc' now' goal' nx' back' base H K φ n_9 b b_1 b_2 b_4 a n c n_1 n_2 b_3 a_1 n_3 c_1 n_4 b_6 n_6 a_3
 n_7 c_2 b_8 a_9 n_12 c_3 n_13 n_14 b_9 a_10 n_15 c_4 n_16 H'_7 b_7 n_8 b_5) ∧ (vt21_12 fid bud fa ra wa fl fc rl rc wl wc la ka ll lc kl kc now goal nx back k la' ka' ll' lc' kl' kc' now' goal' nx' back' base H K φ n_9 n_11 b b_1 b_2
 b_4 a n c n_1 n_2 b_3 a_1 n_3 c_1 n_4 b_6 n_6 a_3 n_7 c_2 b_8 a_9 n_12 c_3 n_13 n_14 b_9 a_10 n_15 c_4 n_16 H'_7 b_7 n_8 b_5)))))))))))))))))) ∧ (¬n_10 = 0 → Spec Try.prog 94 [.agg #[.int .i64 fid, .slice fa fl
 fc, .slice ra rl rc, .slice wa wl wc, .int .i64 bud]] H' fun (v : Value) (H'_3 : Heap) => ∃ (n_12 : Int), v = .int .i64 n_12 ∧ (Next base H' H'_3 → Spec Try.prog 76 [] H'_3 fun (v : Value) (H' :
 Heap) => ∃ (b_9 : Bool), v = .bool b_9 ∧ (Next base H'_3 H' → (b_9 = false → K (.bool false) [] H') ∧ (¬b_9 = false → Spec Try.prog 95 [.agg #[.int .i64 fid, .slice fa fl fc, .slice ra rl rc,
 .slice wa wl wc, .int .i64 bud]] H' fun (v : Value) (H'_4 : Heap) => ∃ (n_13 : Int), v = .int .i64 n_13 ∧ (Next base H' H'_4 → (¬n_13 = n_10 → K (.bool false) [] H'_4) ∧ (¬¬n_13 = n_10 → Spec
 Try.prog 77 [.agg #[.int .i64 fid, .slice fa fl fc, .slice ra rl rc, .slice wa wl wc, .int .i64 bud], .agg #[.slice la ll lc, .int .i64 now, .int .i64 goal,
 .bool back, .slice ka kl kc, .int .i64 nx]] H'_4 fun (v : Value) (H' : Heap) => ∃ (n_14 : Int), v = .int .i64 n_14 ∧ (Next base H'_4 H' → (¬n_14 = n_11 → K (.bool false) [] H') ∧ (¬¬n_14 = n_11
 → Spec Try.prog 96 [.agg #[.slice la ll lc, .int .i64 now, .int .i64 goal, .bool back, .slice ka kl kc, .int .i64 nx], .agg #[.slice la' ll' lc', .int
 .i64 now', .int .i64 goal', .bool back', .slice ka' kl' kc', .int .i64 nx']] H' fun (v : Value) (H'_5 : Heap) => ∃ (b_10 : Bool), v = .bool b_10 ∧ (Next base H' H'_5 → Spec Try.prog
 88 [.agg #[.slice la ll lc, .int .i64 now, .int .i64 goal, .bool back, .slice ka kl kc, .int .i64 nx], .agg #[.slice la' ll' lc', .int .i64 now', .int
 .i64 goal', .bool back', .slice ka' kl' kc', .int .i64 nx']] H'_5 fun (v : Value) (H' : Heap) => ∃ (b_11 : Bool), v = .bool b_11 ∧ (Next base H'_5 H' → ∃ (b_12 : Bool), RunsTo Try.prog (binRun
 BinOp.neq 4 (.tmp 69) (.tmp 72) (.bool b_10) (.bool b_11)) (.bool b_12) ∧ (b_12 = true → K (.bool false) [] H') ∧ (¬b_12 = true → (¬n_5 = n_10 → K (.bool false) [] H') ∧ (¬¬n_5 = n_10 → Spec
 Try.prog 88 [.agg #[.slice a n c, .int .i64 n_1, .int .i64 n_2, .bool b_3, .slice a_1 n_3 c_1, .int .i64 n_4], .agg #[.slice none 0 0, .int .i64 0, .int
 .i64 0, .bool false, .slice none 0 0, .int .i64 0]] H' fun (v : Value) (H'_6 : Heap) => ∃ (b_13 : Bool), v = .bool b_13 ∧ (Next base H' H'_6 → (b_13 = false → K (.bool false) [] H'_6) ∧ (¬b_13
 = false → Spec Try.prog 97 [.agg #[.int .i64 fid, .slice fa fl fc, .slice ra rl rc, .slice wa wl wc, .int .i64 bud]] H'_6 fun (v : Value) (H' : Heap) => ∃ (n_15 : Int), v = .int
 .i64 n_15 ∧ (Next base H'_6 H' → (¬n_12 = n_15 → (n_12 < 7 → K (.bool false) [] H') ∧ (¬n_12 < 7 → Spec Try.prog 97 [.agg #[.int .i64 fid, .slice fa fl fc, .slice ra rl rc, .slice wa wl
 wc, .int .i64 bud]] H' fun (v : Value) (H'_7 : Heap) => ∃ (n_16 : Int), v = .int .i64 n_16 ∧ (Next base H' H'_7 → (n_16 < 7 → K (.bool false) [] H'_7) ∧ (¬n_16 < 7 → ∃ (φ : Prop), (vt21_17 fid bud fa ra
 wa fl fc rl rc wl wc la ka ll lc kl kc now goal nx back k la' ka' ll' lc' kl' kc' now' goal' nx' back' base H K n_11 b b_1 b_2 b_4 a n c n_1 n_2 b_3 a_1 n_3 c_1 n_4 b_6 n_6 a_3 n_7 c_2 b_8 H'_7 φ) ∧ (vt21_8 fid bud fa ra wa fl fc rl rc
 wl wc la ka ll lc kl kc now goal nx back k la' ka' ll' lc' kl' kc' now' goal' nx' back' base H K φ n_9 b b_1 b_2 b_4 a n c n_1 n_2 b_3 a_1 n_3 c_1 n_4 b_6 n_6 a_3 n_7 c_2 b_8 H'_7 b_7 n_8 b_5) ∧ (vt21_13 fid bud fa ra wa fl fc rl rc wl
 wc la ka ll lc kl kc now goal nx back k la' ka' ll' lc' kl' kc' now' goal' nx' back' base H K φ n_9 n_11 b b_1 b_2 b_4 a n c n_1 n_2 b_3 a_1 n_3 c_1 n_4 b_6 n_6 a_3 n_7 c_2 b_8 H'_7 b_7 n_8 b_5))))) ∧ (¬¬n_12 = n_15 → ∃ (φ : Prop),
 (vt21_17 fid bud fa ra wa fl fc rl rc wl wc la ka ll lc kl kc now goal nx back k la' ka' ll' lc' kl' kc' now' goal' nx' back' base H K n_11 b b_1 b_2 b_4 a n c n_1 n_2 b_3 a_1 n_3 c_1 n_4 b_6 n_6 a_3 n_7 c_2 b_8 H' φ) ∧ (vt21_8 fid bud
 fa ra wa fl fc rl rc wl wc la ka ll lc kl kc now goal nx back k la' ka' ll' lc' kl' kc' now' goal' nx' back' base H K φ n_9 b b_1 b_2 b_4 a n c n_1 n_2 b_3 a_1 n_3 c_1 n_4 b_6 n_6 a_3 n_7 c_2 b_8 H' b_7 n_8 b_5) ∧ (vt21_13 fid bud fa
 ra wa fl fc rl rc wl wc la ka ll lc kl kc now goal nx back k la' ka' ll' lc' kl' kc' now' goal' nx' back' base H K φ n_9 n_11 b b_1 b_2 b_4 a n c n_1 n_2 b_3 a_1 n_3 c_1 n_4 b_6 n_6 a_3 n_7 c_2 b_8 H' b_7 n_8 b_5))))))))))))))))))))))) := by kernel_rfl
end Go.Vg
