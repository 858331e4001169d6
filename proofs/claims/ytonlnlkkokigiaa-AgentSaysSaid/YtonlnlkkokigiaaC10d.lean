/- What is proved here: the contract of the law WaySays. -/
import Derived.Test.YtonlnlkkokigiaaC10
import Derived.Test.YtonlnlkkokigiaaV10
set_option linter.unusedSimpArgs false
set_option maxRecDepth 100000
set_option linter.unusedVariables false
namespace Go.Vg
open Go Go.Proofs
theorem neqBool {xo yo : Operand} {a b : Bool} : RunsTo Try.prog (binRun .neq 4 xo yo (.bool a) (.bool b)) (.bool (a != b)) := by
  intro w
  have hg : (eqGuard .neq 4 xo yo (.bool a) (.bool b)).run Try.prog w = .ok () w := by simp [eqGuard]
  simp only [binRun, Sem.run_bind, hg, Result.andThen_ok]
  have := run_equal_bool w 4 a b Try.underlying4
  simp [binOp, this]
  cases a <;> cases b <;> rfl
theorem tak_noMail {ms : List Mail} {k : Int} (h : takeErr ms k ≠ 0) {H : Heap} {a : Option Addr} {n : Nat} {tw : Bool} (hT : Mails H a n (if takeErr ms k = 0 then left ms k tw else [])) : n = 0 := by
  rw [if_neg h] at hT; exact hT.len.symm
/-- What the law asks behind 'want'. -/
theorem wayTail {base : Nat} {a a' : Option Addr} {l c l' c' : Nat} {ag tr id k : Int} {rp gd tw : Bool} {b b_3 : Nat} {K : Value → List (List Value) → Heap → Prop} (hK : ∀ H, K (.bool true) [] H) {ms : List Mail} {m : Mail} {a_1 : Option Addr} {n c_1 : Nat} {a_3 : Option Addr} {n_2 c_2 : Nat} {n_3 n_4 : Int} {b_1 b_2 : Bool} {n_5 : Int} {a_4 : Option Addr} {n_6 c_3 : Nat} {n_1 n_7 n_8 n_9 : Int}
    {wa : Option Addr} {wn wc : Nat} {Hw : Heap} (hb : ∀ x kx, Hw x = some kx → True) (hx : Mails Hw a l ms) (hlc : l ≤ c) (h1 : n_1 = sendErr ms m) (hS : Mails Hw a_1 n (if sendErr ms m = 0 then sent ms m else [])) (h7 : n_7 = takeErr ms k) (hT : Mails Hw a_3 n_2 (if takeErr ms k = 0 then left ms k tw else []))
    {x : Mail} (hxm : x = if takeErr ms k = 0 then took ms k else noMail) (h3 : n_3 = x.agent) (h4 : n_4 = x.try_) (hb1 : b_1 = x.rep) (hb2 : b_2 = x.good) (h5 : n_5 = x.rel.id) (hp : Pins Hw a_4 n_6 x.rel.lock) (h8 : n_8 = mailsCheck ms) (h9 : n_9 = sendErr ms m) (hW : Mails Hw wa wn (sent ms m)) :
  ∃ (φ : Prop), ((¬n_1 = n_9 → [Bx.mk b false 61 [Value.int IntKind.i64 ag, Value.int IntKind.i64 tr, Value.bool rp, Value.bool gd, Value.int IntKind.i64 id, Value.slice a' l' c'], Bx.mk b_3 false 61 [Value.int IntKind.i64 n_3, Value.int
  IntKind.i64 n_4, Value.bool b_1, Value.bool b_2, Value.int IntKind.i64 n_5, Value.slice a_4 n_6 c_3]] = [Bx.mk b false 61 [Value.int IntKind.i64 ag, Value.int IntKind.i64 tr, Value.bool rp, Value.bool gd, Value.int IntKind.i64 id,
  Value.slice a' l' c'], Bx.mk b_3 false 61 [Value.int IntKind.i64 n_3, Value.int IntKind.i64 n_4, Value.bool b_1, Value.bool b_2, Value.int IntKind.i64 n_5, Value.slice a_4 n_6 c_3]] ∧ SubH Hw Hw ∧ φ) ∧ (¬¬n_1 = n_9 → (¬n_9 = 0 → (0 <
  (↑n : Int) → [Bx.mk b false 61 [Value.int IntKind.i64 ag, Value.int IntKind.i64 tr, Value.bool rp, Value.bool gd, Value.int IntKind.i64 id, Value.slice a' l' c'], Bx.mk b_3 false 61 [Value.int IntKind.i64 n_3, Value.int IntKind.i64
  n_4, Value.bool b_1, Value.bool b_2, Value.int IntKind.i64 n_5, Value.slice a_4 n_6 c_3]] = [Bx.mk b false 61 [Value.int IntKind.i64 ag, Value.int IntKind.i64 tr, Value.bool rp, Value.bool gd, Value.int IntKind.i64 id, Value.slice a'
  l' c'], Bx.mk b_3 false 61 [Value.int IntKind.i64 n_3, Value.int IntKind.i64 n_4, Value.bool b_1, Value.bool b_2, Value.int IntKind.i64 n_5, Value.slice a_4 n_6 c_3]] ∧ SubH Hw Hw ∧ φ) ∧ (¬0 < (↑n : Int) → (n_9 = 0 → Vg.Spec Try.prog
  51 [Value.slice a_1 n c_1, Value.slice wa wn wc] Hw fun (v : Value) (H' : Heap) => ∃ (b_4 : Bool), v = Value.bool b_4 ∧ (Vg.Next base Hw H' → [Bx.mk b false 61 [Value.int IntKind.i64 ag, Value.int IntKind.i64 tr, Value.bool rp,
  Value.bool gd, Value.int IntKind.i64 id, Value.slice a' l' c'], Bx.mk b_3 false 61 [Value.int IntKind.i64 n_3, Value.int IntKind.i64 n_4, Value.bool b_1, Value.bool b_2, Value.int IntKind.i64 n_5, Value.slice a_4 n_6 c_3]] = [Bx.mk b
  false 61 [Value.int IntKind.i64 ag, Value.int IntKind.i64 tr, Value.bool rp, Value.bool gd, Value.int IntKind.i64 id, Value.slice a' l' c'], Bx.mk b_3 false 61 [Value.int IntKind.i64 n_3, Value.int IntKind.i64 n_4, Value.bool b_1,
  Value.bool b_2, Value.int IntKind.i64 n_5, Value.slice a_4 n_6 c_3]] ∧ SubH Hw H' ∧ (φ ↔ b_4 = false))) ∧ (¬n_9 = 0 → [Bx.mk b false 61 [Value.int IntKind.i64 ag, Value.int IntKind.i64 tr, Value.bool rp, Value.bool gd, Value.int
  IntKind.i64 id, Value.slice a' l' c'], Bx.mk b_3 false 61 [Value.int IntKind.i64 n_3, Value.int IntKind.i64 n_4, Value.bool b_1, Value.bool b_2, Value.int IntKind.i64 n_5, Value.slice a_4 n_6 c_3]] = [Bx.mk b false 61 [Value.int
  IntKind.i64 ag, Value.int IntKind.i64 tr, Value.bool rp, Value.bool gd, Value.int IntKind.i64 id, Value.slice a' l' c'], Bx.mk b_3 false 61 [Value.int IntKind.i64 n_3, Value.int IntKind.i64 n_4, Value.bool b_1, Value.bool b_2,
  Value.int IntKind.i64 n_5, Value.slice a_4 n_6 c_3]] ∧ SubH Hw Hw ∧ ¬φ))) ∧ (¬¬n_9 = 0 → (n_9 = 0 → Vg.Spec Try.prog 51 [Value.slice a_1 n c_1, Value.slice wa wn wc] Hw fun (v : Value) (H' : Heap) => ∃ (b_4 : Bool), v = Value.bool b_4
  ∧ (Vg.Next base Hw H' → [Bx.mk b false 61 [Value.int IntKind.i64 ag, Value.int IntKind.i64 tr, Value.bool rp, Value.bool gd, Value.int IntKind.i64 id, Value.slice a' l' c'], Bx.mk b_3 false 61 [Value.int IntKind.i64 n_3, Value.int
  IntKind.i64 n_4, Value.bool b_1, Value.bool b_2, Value.int IntKind.i64 n_5, Value.slice a_4 n_6 c_3]] = [Bx.mk b false 61 [Value.int IntKind.i64 ag, Value.int IntKind.i64 tr, Value.bool rp, Value.bool gd, Value.int IntKind.i64 id,
  Value.slice a' l' c'], Bx.mk b_3 false 61 [Value.int IntKind.i64 n_3, Value.int IntKind.i64 n_4, Value.bool b_1, Value.bool b_2, Value.int IntKind.i64 n_5, Value.slice a_4 n_6 c_3]] ∧ SubH Hw H' ∧ (φ ↔ b_4 = false))) ∧ (¬n_9 = 0 →
  [Bx.mk b false 61 [Value.int IntKind.i64 ag, Value.int IntKind.i64 tr, Value.bool rp, Value.bool gd, Value.int IntKind.i64 id, Value.slice a' l' c'], Bx.mk b_3 false 61 [Value.int IntKind.i64 n_3, Value.int IntKind.i64 n_4, Value.bool
  b_1, Value.bool b_2, Value.int IntKind.i64 n_5, Value.slice a_4 n_6 c_3]] = [Bx.mk b false 61 [Value.int IntKind.i64 ag, Value.int IntKind.i64 tr, Value.bool rp, Value.bool gd, Value.int IntKind.i64 id, Value.slice a' l' c'], Bx.mk b_3
  false 61 [Value.int IntKind.i64 n_3, Value.int IntKind.i64 n_4, Value.bool b_1, Value.bool b_2, Value.int IntKind.i64 n_5, Value.slice a_4 n_6 c_3]] ∧ SubH Hw Hw ∧ ¬φ)))) ∧ (φ → K (Value.bool false) [] Hw) ∧ (¬φ → ∃ (φ : Prop), ((n_8 =
  0 → (k < 0 → [Bx.mk b false 61 [Value.int IntKind.i64 ag, Value.int IntKind.i64 tr, Value.bool rp, Value.bool gd, Value.int IntKind.i64 id, Value.slice a' l' c'], Bx.mk b_3 false 61 [Value.int IntKind.i64 n_3, Value.int IntKind.i64
  n_4, Value.bool b_1, Value.bool b_2, Value.int IntKind.i64 n_5, Value.slice a_4 n_6 c_3]] = [Bx.mk b false 61 [Value.int IntKind.i64 ag, Value.int IntKind.i64 tr, Value.bool rp, Value.bool gd, Value.int IntKind.i64 id, Value.slice a'
  l' c'], Bx.mk b_3 false 61 [Value.int IntKind.i64 n_3, Value.int IntKind.i64 n_4, Value.bool b_1, Value.bool b_2, Value.int IntKind.i64 n_5, Value.slice a_4 n_6 c_3]] ∧ SubH Hw Hw ∧ φ) ∧ (¬k < 0 → [Bx.mk b false 61 [Value.int
  IntKind.i64 ag, Value.int IntKind.i64 tr, Value.bool rp, Value.bool gd, Value.int IntKind.i64 id, Value.slice a' l' c'], Bx.mk b_3 false 61 [Value.int IntKind.i64 n_3, Value.int IntKind.i64 n_4, Value.bool b_1, Value.bool b_2,
  Value.int IntKind.i64 n_5, Value.slice a_4 n_6 c_3]] = [Bx.mk b false 61 [Value.int IntKind.i64 ag, Value.int IntKind.i64 tr, Value.bool rp, Value.bool gd, Value.int IntKind.i64 id, Value.slice a' l' c'], Bx.mk b_3 false 61 [Value.int
  IntKind.i64 n_3, Value.int IntKind.i64 n_4, Value.bool b_1, Value.bool b_2, Value.int IntKind.i64 n_5, Value.slice a_4 n_6 c_3]] ∧ SubH Hw Hw ∧ (φ ↔ (↑l : Int) ≤ k))) ∧ (¬n_8 = 0 → [Bx.mk b false 61 [Value.int IntKind.i64 ag, Value.int
  IntKind.i64 tr, Value.bool rp, Value.bool gd, Value.int IntKind.i64 id, Value.slice a' l' c'], Bx.mk b_3 false 61 [Value.int IntKind.i64 n_3, Value.int IntKind.i64 n_4, Value.bool b_1, Value.bool b_2, Value.int IntKind.i64 n_5,
  Value.slice a_4 n_6 c_3]] = [Bx.mk b false 61 [Value.int IntKind.i64 ag, Value.int IntKind.i64 tr, Value.bool rp, Value.bool gd, Value.int IntKind.i64 id, Value.slice a' l' c'], Bx.mk b_3 false 61 [Value.int IntKind.i64 n_3, Value.int
  IntKind.i64 n_4, Value.bool b_1, Value.bool b_2, Value.int IntKind.i64 n_5, Value.slice a_4 n_6 c_3]] ∧ SubH Hw Hw ∧ ¬φ)) ∧ (φ → (¬Int.ofNat 5 = 0 → ∃ (φ : Prop), ((n_7 = 5 → ((↑n_2 : Int) = 0 → ∀ (g : Nat) (H' : Heap), Vg.Next base Hw
  H' → Hw g = none → H' g = some (boxKB 61 [Value.int IntKind.i64 n_3, Value.int IntKind.i64 n_4, Value.bool b_1, Value.bool b_2, Value.int IntKind.i64 n_5, Value.slice a_4 n_6 c_3]) → ∀ (g_1 : Nat) (H'_5 : Heap), Vg.Next base H' H'_5 →
  H' g_1 = none → H'_5 g_1 = some (boxKB 61 [Value.int IntKind.i64 0, Value.int IntKind.i64 0, Value.bool false, Value.bool false, Value.int IntKind.i64 0, Value.slice none 0 0]) → Vg.Spec Try.prog 51 [Value.slice (some (Addr.mk g 0
  none)) 1 1, Value.slice (some (Addr.mk g_1 0 none)) 1 1] H'_5 fun (v : Value) (H' : Heap) => ∃ (b_4 : Bool), v = Value.bool b_4 ∧ (Vg.Next base H'_5 H' → [Bx.mk b false 61 [Value.int IntKind.i64 ag, Value.int IntKind.i64 tr, Value.bool
  rp, Value.bool gd, Value.int IntKind.i64 id, Value.slice a' l' c'], Bx.mk b_3 false 61 [Value.int IntKind.i64 n_3, Value.int IntKind.i64 n_4, Value.bool b_1, Value.bool b_2, Value.int IntKind.i64 n_5, Value.slice a_4 n_6 c_3]] = [Bx.mk
  b false 61 [Value.int IntKind.i64 ag, Value.int IntKind.i64 tr, Value.bool rp, Value.bool gd, Value.int IntKind.i64 id, Value.slice a' l' c'], Bx.mk b_3 false 61 [Value.int IntKind.i64 n_3, Value.int IntKind.i64 n_4, Value.bool b_1,
  Value.bool b_2, Value.int IntKind.i64 n_5, Value.slice a_4 n_6 c_3]] ∧ SubH Hw H' ∧ (φ ↔ b_4 = true))) ∧ (¬(↑n_2 : Int) = 0 → [Bx.mk b false 61 [Value.int IntKind.i64 ag, Value.int IntKind.i64 tr, Value.bool rp, Value.bool gd,
  Value.int IntKind.i64 id, Value.slice a' l' c'], Bx.mk b_3 false 61 [Value.int IntKind.i64 n_3, Value.int IntKind.i64 n_4, Value.bool b_1, Value.bool b_2, Value.int IntKind.i64 n_5, Value.slice a_4 n_6 c_3]] = [Bx.mk b false 61
  [Value.int IntKind.i64 ag, Value.int IntKind.i64 tr, Value.bool rp, Value.bool gd, Value.int IntKind.i64 id, Value.slice a' l' c'], Bx.mk b_3 false 61 [Value.int IntKind.i64 n_3, Value.int IntKind.i64 n_4, Value.bool b_1, Value.bool
  b_2, Value.int IntKind.i64 n_5, Value.slice a_4 n_6 c_3]] ∧ SubH Hw Hw ∧ ¬φ)) ∧ (¬n_7 = 5 → [Bx.mk b false 61 [Value.int IntKind.i64 ag, Value.int IntKind.i64 tr, Value.bool rp, Value.bool gd, Value.int IntKind.i64 id, Value.slice a'
  l' c'], Bx.mk b_3 false 61 [Value.int IntKind.i64 n_3, Value.int IntKind.i64 n_4, Value.bool b_1, Value.bool b_2, Value.int IntKind.i64 n_5, Value.slice a_4 n_6 c_3]] = [Bx.mk b false 61 [Value.int IntKind.i64 ag, Value.int IntKind.i64
  tr, Value.bool rp, Value.bool gd, Value.int IntKind.i64 id, Value.slice a' l' c'], Bx.mk b_3 false 61 [Value.int IntKind.i64 n_3, Value.int IntKind.i64 n_4, Value.bool b_1, Value.bool b_2, Value.int IntKind.i64 n_5, Value.slice a_4 n_6
  c_3]] ∧ SubH Hw Hw ∧ ¬φ)) ∧ K (Value.bool (@decide φ (Classical.propDecidable φ))) [] Hw) ∧ (¬¬Int.ofNat 5 = 0 → Vg.Spec Try.prog 52 [Value.slice a l c] Hw fun (v : Value) (H' : Heap) => ∃ (a_24 : Option Addr), ∃ (n : Nat), ∃ (c_5 :
  Nat), v = Value.slice a_24 n c_5 ∧ (Vg.Next base Hw H' → (tw = false → ∀ (r : Int), r = IntKind.wrap IntKind.i64 (k + 1) → ∃ (xs : List Value), ∃ (k_1 : Nat), ∃ (m : Nat), k = (↑k_1 : Int) ∧ r = (↑m : Int) ∧ k_1 ≤ m ∧ m ≤ n ∧ n ≤
  1000000 ∧ Row base H' 61 6 a_24 n c_5 xs ∧ allOne xs = true ∧ ∀ (H'_5 : Heap), Grew base H' H'_5 a_24 c_5 a_24 c_5 (k_1 + (n - m)) → Row base H'_5 61 6 a_24 (k_1 + (n - m)) c_5 (List.take (k_1 * 6) xs ++ List.drop (m * 6) xs) → (n_7 =
  0 → ∀ (r : Int), r = IntKind.wrap IntKind.i64 (k + 1) → 0 ≤ k ∧ k ≤ r ∧ r ≤ (↑c : Int) ∧ ∀ (a' : Option Addr), (k < (↑c : Int) → a' = Option.map (fun (ad : Addr) => Addr.add ad (Int.toNat k * 6)) a) → ∀ (g : Nat) (H' : Heap), Vg.Next
  base H'_5 H' → H'_5 g = none → H' g = some (boxKB 61 [Value.int IntKind.i64 n_3, Value.int IntKind.i64 n_4, Value.bool b_1, Value.bool b_2, Value.int IntKind.i64 n_5, Value.slice a_4 n_6 c_3]) → Vg.Spec Try.prog 51 [Value.slice (some
  (Addr.mk g 0 none)) 1 1, Value.slice a' (Int.toNat r - Int.toNat k) (c - Int.toNat k)] H' fun (v : Value) (H'_6 : Heap) => ∃ (b : Bool), v = Value.bool b ∧ (Vg.Next base H' H'_6 → (b = true → Vg.Spec Try.prog 51 [Value.slice a_3 n_2
  c_2, Value.slice a_24 (k_1 + (n - m)) c_5] H'_6 fun (v : Value) (H' : Heap) => ∃ (b : Bool), v = Value.bool b ∧ (Vg.Next base H'_6 H' → K (Value.bool b) [] H')) ∧ (b = false → K (Value.bool false) [] H'_6))) ∧ (¬n_7 = 0 → K (Value.bool
  false) [] H'_5)) ∧ (¬tw = false → (n_7 = 0 → ∀ (r : Int), r = IntKind.wrap IntKind.i64 (k + 1) → 0 ≤ k ∧ k ≤ r ∧ r ≤ (↑c : Int) ∧ ∀ (a' : Option Addr), (k < (↑c : Int) → a' = Option.map (fun (ad : Addr) => Addr.add ad (Int.toNat k *
  6)) a) → ∀ (g : Nat) (H'_5 : Heap), Vg.Next base H' H'_5 → H' g = none → H'_5 g = some (boxKB 61 [Value.int IntKind.i64 n_3, Value.int IntKind.i64 n_4, Value.bool b_1, Value.bool b_2, Value.int IntKind.i64 n_5, Value.slice a_4 n_6
  c_3]) → Vg.Spec Try.prog 51 [Value.slice (some (Addr.mk g 0 none)) 1 1, Value.slice a' (Int.toNat r - Int.toNat k) (c - Int.toNat k)] H'_5 fun (v : Value) (H' : Heap) => ∃ (b : Bool), v = Value.bool b ∧ (Vg.Next base H'_5 H' → (b =
  true → Vg.Spec Try.prog 51 [Value.slice a_3 n_2 c_2, Value.slice a_24 n c_5] H' fun (v : Value) (H'_6 : Heap) => ∃ (b : Bool), v = Value.bool b ∧ (Vg.Next base H' H'_6 → K (Value.bool b) [] H'_6)) ∧ (b = false → K (Value.bool false) []
  H'))) ∧ (¬n_7 = 0 → K (Value.bool false) [] H'))))) ∧ (¬φ → (¬n_8 = 0 → ∃ (φ : Prop), ((n_7 = n_8 → ((↑n_2 : Int) = 0 → ∀ (g : Nat) (H' : Heap), Vg.Next base Hw H' → Hw g = none → H' g = some (boxKB 61 [Value.int IntKind.i64 n_3,
  Value.int IntKind.i64 n_4, Value.bool b_1, Value.bool b_2, Value.int IntKind.i64 n_5, Value.slice a_4 n_6 c_3]) → ∀ (g_1 : Nat) (H'_5 : Heap), Vg.Next base H' H'_5 → H' g_1 = none → H'_5 g_1 = some (boxKB 61 [Value.int IntKind.i64 0,
  Value.int IntKind.i64 0, Value.bool false, Value.bool false, Value.int IntKind.i64 0, Value.slice none 0 0]) → Vg.Spec Try.prog 51 [Value.slice (some (Addr.mk g 0 none)) 1 1, Value.slice (some (Addr.mk g_1 0 none)) 1 1] H'_5 fun (v :
  Value) (H' : Heap) => ∃ (b_4 : Bool), v = Value.bool b_4 ∧ (Vg.Next base H'_5 H' → [Bx.mk b false 61 [Value.int IntKind.i64 ag, Value.int IntKind.i64 tr, Value.bool rp, Value.bool gd, Value.int IntKind.i64 id, Value.slice a' l' c'],
  Bx.mk b_3 false 61 [Value.int IntKind.i64 n_3, Value.int IntKind.i64 n_4, Value.bool b_1, Value.bool b_2, Value.int IntKind.i64 n_5, Value.slice a_4 n_6 c_3]] = [Bx.mk b false 61 [Value.int IntKind.i64 ag, Value.int IntKind.i64 tr,
  Value.bool rp, Value.bool gd, Value.int IntKind.i64 id, Value.slice a' l' c'], Bx.mk b_3 false 61 [Value.int IntKind.i64 n_3, Value.int IntKind.i64 n_4, Value.bool b_1, Value.bool b_2, Value.int IntKind.i64 n_5, Value.slice a_4 n_6
  c_3]] ∧ SubH Hw H' ∧ (φ ↔ b_4 = true))) ∧ (¬(↑n_2 : Int) = 0 → [Bx.mk b false 61 [Value.int IntKind.i64 ag, Value.int IntKind.i64 tr, Value.bool rp, Value.bool gd, Value.int IntKind.i64 id, Value.slice a' l' c'], Bx.mk b_3 false 61
  [Value.int IntKind.i64 n_3, Value.int IntKind.i64 n_4, Value.bool b_1, Value.bool b_2, Value.int IntKind.i64 n_5, Value.slice a_4 n_6 c_3]] = [Bx.mk b false 61 [Value.int IntKind.i64 ag, Value.int IntKind.i64 tr, Value.bool rp,
  Value.bool gd, Value.int IntKind.i64 id, Value.slice a' l' c'], Bx.mk b_3 false 61 [Value.int IntKind.i64 n_3, Value.int IntKind.i64 n_4, Value.bool b_1, Value.bool b_2, Value.int IntKind.i64 n_5, Value.slice a_4 n_6 c_3]] ∧ SubH Hw Hw
  ∧ ¬φ)) ∧ (¬n_7 = n_8 → [Bx.mk b false 61 [Value.int IntKind.i64 ag, Value.int IntKind.i64 tr, Value.bool rp, Value.bool gd, Value.int IntKind.i64 id, Value.slice a' l' c'], Bx.mk b_3 false 61 [Value.int IntKind.i64 n_3, Value.int
  IntKind.i64 n_4, Value.bool b_1, Value.bool b_2, Value.int IntKind.i64 n_5, Value.slice a_4 n_6 c_3]] = [Bx.mk b false 61 [Value.int IntKind.i64 ag, Value.int IntKind.i64 tr, Value.bool rp, Value.bool gd, Value.int IntKind.i64 id,
  Value.slice a' l' c'], Bx.mk b_3 false 61 [Value.int IntKind.i64 n_3, Value.int IntKind.i64 n_4, Value.bool b_1, Value.bool b_2, Value.int IntKind.i64 n_5, Value.slice a_4 n_6 c_3]] ∧ SubH Hw Hw ∧ ¬φ)) ∧ K (Value.bool (@decide φ
  (Classical.propDecidable φ))) [] Hw) ∧ (¬¬n_8 = 0 → Vg.Spec Try.prog 52 [Value.slice a l c] Hw fun (v : Value) (H' : Heap) => ∃ (a_24 : Option Addr), ∃ (n : Nat), ∃ (c_5 : Nat), v = Value.slice a_24 n c_5 ∧ (Vg.Next base Hw H' → (tw =
  false → ∀ (r : Int), r = IntKind.wrap IntKind.i64 (k + 1) → ∃ (xs : List Value), ∃ (k_1 : Nat), ∃ (m : Nat), k = (↑k_1 : Int) ∧ r = (↑m : Int) ∧ k_1 ≤ m ∧ m ≤ n ∧ n ≤ 1000000 ∧ Row base H' 61 6 a_24 n c_5 xs ∧ allOne xs = true ∧ ∀
  (H'_5 : Heap), Grew base H' H'_5 a_24 c_5 a_24 c_5 (k_1 + (n - m)) → Row base H'_5 61 6 a_24 (k_1 + (n - m)) c_5 (List.take (k_1 * 6) xs ++ List.drop (m * 6) xs) → (n_7 = 0 → ∀ (r : Int), r = IntKind.wrap IntKind.i64 (k + 1) → 0 ≤ k ∧
  k ≤ r ∧ r ≤ (↑c : Int) ∧ ∀ (a' : Option Addr), (k < (↑c : Int) → a' = Option.map (fun (ad : Addr) => Addr.add ad (Int.toNat k * 6)) a) → ∀ (g : Nat) (H' : Heap), Vg.Next base H'_5 H' → H'_5 g = none → H' g = some (boxKB 61 [Value.int
  IntKind.i64 n_3, Value.int IntKind.i64 n_4, Value.bool b_1, Value.bool b_2, Value.int IntKind.i64 n_5, Value.slice a_4 n_6 c_3]) → Vg.Spec Try.prog 51 [Value.slice (some (Addr.mk g 0 none)) 1 1, Value.slice a' (Int.toNat r - Int.toNat
  k) (c - Int.toNat k)] H' fun (v : Value) (H'_6 : Heap) => ∃ (b : Bool), v = Value.bool b ∧ (Vg.Next base H' H'_6 → (b = true → Vg.Spec Try.prog 51 [Value.slice a_3 n_2 c_2, Value.slice a_24 (k_1 + (n - m)) c_5] H'_6 fun (v : Value) (H'
  : Heap) => ∃ (b : Bool), v = Value.bool b ∧ (Vg.Next base H'_6 H' → K (Value.bool b) [] H')) ∧ (b = false → K (Value.bool false) [] H'_6))) ∧ (¬n_7 = 0 → K (Value.bool false) [] H'_5)) ∧ (¬tw = false → (n_7 = 0 → ∀ (r : Int), r =
  IntKind.wrap IntKind.i64 (k + 1) → 0 ≤ k ∧ k ≤ r ∧ r ≤ (↑c : Int) ∧ ∀ (a' : Option Addr), (k < (↑c : Int) → a' = Option.map (fun (ad : Addr) => Addr.add ad (Int.toNat k * 6)) a) → ∀ (g : Nat) (H'_5 : Heap), Vg.Next base H' H'_5 → H' g
  = none → H'_5 g = some (boxKB 61 [Value.int IntKind.i64 n_3, Value.int IntKind.i64 n_4, Value.bool b_1, Value.bool b_2, Value.int IntKind.i64 n_5, Value.slice a_4 n_6 c_3]) → Vg.Spec Try.prog 51 [Value.slice (some (Addr.mk g 0 none)) 1
  1, Value.slice a' (Int.toNat r - Int.toNat k) (c - Int.toNat k)] H'_5 fun (v : Value) (H' : Heap) => ∃ (b : Bool), v = Value.bool b ∧ (Vg.Next base H'_5 H' → (b = true → Vg.Spec Try.prog 51 [Value.slice a_3 n_2 c_2, Value.slice a_24 n
  c_5] H' fun (v : Value) (H'_6 : Heap) => ∃ (b : Bool), v = Value.bool b ∧ (Vg.Next base H' H'_6 → K (Value.bool b) [] H'_6)) ∧ (b = false → K (Value.bool false) [] H'))) ∧ (¬n_7 = 0 → K (Value.bool false) [] H')))))) := by
  subst h1 h7 h8 h9 h3 h4 hb1 hb2 h5
  have hml := hx.len
  refine ⟨False, ⟨fun h => absurd rfl h, fun _ => ⟨fun h => ?_, fun h => ⟨fun _ => ?_, fun h' => absurd h' h⟩⟩⟩, fun h => h.elim, fun _ => ?_⟩
  · rw [if_neg h] at hS
    have := hS.len
    simp at this
    exact ⟨fun h2 => by omega, fun _ => ⟨fun h2 => absurd h2 h, fun _ => ⟨rfl, fun _ _ h => h, fun h => h.elim⟩⟩⟩
  · rw [if_pos (Decidable.not_not.1 h)] at hS
    exact (cRefSame hS hW).bool1 fun H1 e1 _ => ⟨rfl, e1, by simp⟩
  refine ⟨mailsCheck ms = 0 ∧ (k < 0 ∨ (l : Int) ≤ k), ⟨fun g => ⟨fun _ => ⟨rfl, fun _ _ h => h, by omega⟩, fun _ => ⟨rfl, fun _ _ h => h, by omega⟩⟩, fun g => ⟨rfl, fun _ _ h => h, fun h => g h.1⟩⟩, fun g => ⟨fun _ => ?_, fun h => absurd (by decide) h⟩, fun g => ⟨fun g2 => ?_, fun g2 => ?_⟩⟩
  · have hE : takeErr ms k = 5 := by rw [takeErr, if_pos g.1, if_pos (by omega)]
    have hn := tak_noMail (by omega) hT
    rw [hE, if_neg (by omega)] at hxm
    subst hxm
    refine ⟨True, ⟨fun _ => ⟨fun _ => ?_, fun h => absurd (by omega) h⟩, fun h => absurd hE h⟩, by rw [show @decide True (Classical.propDecidable True) = true from by simp]; exact hK _⟩
    intro g1 H1 hN1 _ hg1 g2 H2 hN2 _ hg2
    have b1 : Mails H1 (some ⟨g1, 0, none⟩) 1 [noMail] := mail_box (m := noMail) hg1 (hp.ext' hN1.ext)
    have b2 : Mails H2 (some ⟨g2, 0, none⟩) 1 [noMail] := mail_box (m := noMail) hg2 Sl.nil
    exact (cRefSame (b1.ext' hN2.ext) b2).bool1 fun H3 e3 _ => ⟨rfl, Ext.trans (Ext.trans hN1.ext hN2.ext) e3, by simp⟩
  · have hE : takeErr ms k = mailsCheck ms := by rw [takeErr, if_neg g2]
    have hn := tak_noMail (by omega) hT
    rw [hE, if_neg g2] at hxm
    subst hxm
    refine ⟨True, ⟨fun _ => ⟨fun _ => ?_, fun h => absurd (by omega) h⟩, fun h => absurd hE h⟩, by rw [show @decide True (Classical.propDecidable True) = true from by simp]; exact hK _⟩
    intro g1 H1 hN1 _ hg1 g2 H2 hN2 _ hg2
    have b1 : Mails H1 (some ⟨g1, 0, none⟩) 1 [noMail] := mail_box (m := noMail) hg1 (hp.ext' hN1.ext)
    have b2 : Mails H2 (some ⟨g2, 0, none⟩) 1 [noMail] := mail_box (m := noMail) hg2 Sl.nil
    exact (cRefSame (b1.ext' hN2.ext) b2).bool1 fun H3 e3 _ => ⟨rfl, Ext.trans (Ext.trans hN1.ext hN2.ext) e3, by simp⟩
  have g2 := Decidable.not_not.1 g2
  have hk : 0 ≤ k ∧ k < l := by
    by_cases c1 : k < 0
    · exact absurd ⟨g2, .inl c1⟩ g
    · by_cases c2 : (l : Int) ≤ k
      · exact absurd ⟨g2, .inr c2⟩ g
      · omega
  have hE : takeErr ms k = 0 := by rw [takeErr, if_pos g2, if_neg (by omega)]
  obtain ⟨h40, _⟩ := mailsCheck_zero g2
  rw [hE, if_pos rfl] at hxm
  rw [if_pos hE] at hT
  subst hxm
  have hmk : ms[k.toNat]? = some (took ms k) := by
    rw [took, List.getD_eq_getElem?_getD, List.getElem?_eq_getElem (by omega)]; rfl
  -- one piece of mail, and the rest
  have fin : ∀ {H1 : Heap} {a5 : Option Addr} {n5 c5 : Nat}, Ext Hw H1 → Mails H1 a5 n5 (left ms k tw) → ∀ (r : Int), r = k + 1 → 0 ≤ k ∧ k ≤ r ∧ r ≤ (c : Int) ∧ ∀ (a'' : Option Addr), (k < (c : Int) → a'' = Option.map (fun (ad : Addr) => Addr.add ad (Int.toNat k * 6)) a) → ∀ (g : Nat) (H2 : Heap), Vg.Next base H1 H2 → H1 g = none → H2 g = some (boxKB 61 (mailVal (took ms k) a_4 n_6 c_3)) →
      Spec Try.prog 51 [.slice (some ⟨g, 0, none⟩) 1 1, .slice a'' (Int.toNat r - Int.toNat k) (c - Int.toNat k)] H2 fun v H3 => ∃ b : Bool, v = .bool b ∧ (Vg.Next base H2 H3 → (b = true → Spec Try.prog 51 [.slice a_3 n_2 c_2, .slice a5 n5 c5] H3 fun v H4 => ∃ b : Bool, v = .bool b ∧ (Vg.Next base H3 H4 → K (.bool b) [] H4)) ∧ (b = false → K (.bool false) [] H3)) := by
    intro H1 a5 n5 c5 e1 hL r hr
    subst hr
    refine ⟨hk.1, by omega, by omega, fun a6 ha6 => ?_⟩
    intro g3 H2 hN2 _ hg3
    have e2 : Ext Hw H2 := e1.trans hN2.ext
    have b3 : Mails H2 (some ⟨g3, 0, none⟩) 1 [took ms k] := mail_box (m := took ms k) hg3 (hp.ext' e2)
    have hone : Mails H2 a6 1 [took ms k] := by
      have := (hx.ext' e2).sub (l := k.toNat) (m := 1) (a' := a6) (by omega) (fun _ => ha6 (by omega))
      have e : (ms.drop k.toNat).take 1 = [took ms k] := by rw [drop_at hmk]; rfl
      rw [e] at this
      exact this
    rw [show Int.toNat (k + 1) - Int.toNat k = 1 from by omega]
    refine (cRefSame b3 hone).bool1 fun H3 e3 _ => ⟨fun _ => ?_, fun h => by simp at h⟩
    refine (cRefSame ((hT.ext' e2).ext' e3) ((hL.ext' hN2.ext).ext' e3)).bool1 fun H4 _ _ => ?_
    rw [decide_eq_true rfl]
    exact hK _
  refine (cCloneMails hx (by omega)).mono fun v H1 e1 hv => ?_
  obtain ⟨a5, n5, c5, rs, rfl, hF, hw, hA⟩ := hv
  refine ⟨a5, n5, c5, rfl, fun hN1 => ?_⟩
  have hO : OwnSl RMail 6 61 base Hw H1 a5 n5 c5 rs ms := ⟨hF.row hN1, hw, hA, e1, fun hc g hg => by
    rcases hF.2.2.2 with ⟨_, h0⟩ | ⟨g', kg, q1, q2, _⟩
    · exact absurd h0 hc
    · rw [hg] at q1; simp at q1; subst q1; exact q2⟩
  obtain ⟨_, hn5⟩ := hO.rlen (by omega)
  refine ⟨fun ht => ?_, fun ht => ⟨fun _ r hr => fin e1 ?_ r (by rw [hr, wrap_small (by omega) (by omega)]), fun h => absurd hE h⟩⟩
  · rintro r rfl
    rw [wrap_small (by omega) (by omega)]
    refine ⟨rs.flatten, k.toNat, k.toNat + 1, by omega, by omega, by omega, by omega, by omega, hO.row, allOne_rows RMail.one hA, fun H2 hG hR2 => ⟨fun _ => ?_, fun h => absurd hE h⟩⟩
    rw [flat_takeR k.toNat hw, flat_dropR (k.toNat + 1) hw, ← List.flatten_append] at hR2
    have hO2 := hO.regrew hG hR2 (fun r hr => by
      rcases List.mem_append.1 hr with hr | hr
      · exact hw r (List.mem_of_mem_take hr)
      · exact hw r (List.mem_of_mem_drop hr)) (AllR.append (hA.drop (k.toNat + 1)) (hA.take k.toNat))
    exact fin (c5 := c5) hO2.sub (by rw [left, if_neg (by simp [ht])]; exact hO2.sl RMail.mono (by omega))
  · rw [left, if_pos (by simpa using ht)]
    exact hO.sl RMail.mono (by omega)
theorem cWaySays {H : Heap} {a a' a'' : Option Addr} {l c l' c' l'' c'' : Nat} {ms os : List Mail} (hx : Mails H a l ms) (hlc : l ≤ c) (m : Mail) (hp : Pins H a' l' m.rel.lock) (k : Int) (tw : Bool) (ho : Mails H a'' l'' os) :
    Spec Try.prog 10 [.slice a l c, mailArg m a' l' c', i64 k, .bool tw, .slice a'' l'' c''] H fun v _ => v = .bool true := by
  refine TryvcJ Try.func10 (by kernel_rfl) (by kernel_rfl) _ rfl (fun base K => vc10 a a' a'' l c l' c' l'' c'' m.agent m.try_ m.rel.id k m.rep m.good tw base H K) fun base hb => ?_
  intro b
  have hml := hx.len
  refine (cSend hx m hp).sl2 fun a1 n1 c1 H1 e1 _ hS => ?_
  obtain ⟨_, hS⟩ := hS
  refine (cTake (hx.ext' e1) k tw).mail3 fun a3 n3 c3 la ln lc H2 e2 _ hT hl => fun b3 => ?_
  have x2 := (hx.ext' e1).ext' e2
  refine (cRefMail x2).int1 fun H3 e3 _ => ⟨False, ?_, fun h => h.elim, fun _ => ?_⟩
  · have x3 := x2.ext' e3
    have o3 := ((ho.ext' e1).ext' e2).ext' e3
    refine cPosted.bool1 fun H4 e4 _ => ⟨fun h => by simp at h, fun _ => (cWayCheck (x3.ext' e4)).int1 fun H5 e5 _ => ⟨fun h => absurd rfl h, fun _ => ?_⟩⟩
    have x5 := (x3.ext' e4).ext' e5
    have o5 := (o3.ext' e4).ext' e5
    exact (cSame x5 o5).bool1 fun H6 e6 _ => (cRefSame (x5.ext' e6) (o5.ext' e6)).bool1 fun H7 e7 _ => ⟨_, neqBool, rfl, Ext.trans (Ext.trans (Ext.trans e4 e5) e6) e7, by simp⟩
  have x3 := x2.ext' e3
  have p3 := ((hp.ext' e1).ext' e2).ext' e3
  have S3 := (hS.ext' e2).ext' e3
  have T3 := hT.ext' e3
  have l3 := hl.ext' e3
  -- want: the clone and one more
  have grow : ∀ {Hc Hb Hw : Heap} {a5 wa : Option Addr} {n5 c5 wc : Nat} {rs : List (List Value)}, Ext H3 Hc → OwnSl RMail 6 61 base Hc Hb a5 n5 c5 rs ms → l < 40 → Grew base Hb Hw a5 c5 wa wc (n5 + 1) → Row base Hw 61 6 wa (n5 + 1) wc (rs.flatten ++ mailVal m a' l' c') → Ext H3 Hw ∧ Mails Hw wa (n5 + 1) (sent ms m) := fun ec hO hl hG hR => by
    have := hO.grew (rows' := [mailVal m a' l' c']) (ys := [m]) hG (by simpa using hR) (by simp [mailVal]) ⟨⟨a', l', c', rfl, p3.ext' ec⟩, trivial⟩
    refine ⟨ec.trans this.sub, ?_⟩
    rw [sent, if_pos (by omega)]
    exact this.sl RMail.mono (by omega)
  have own : ∀ {Hc H5 : Heap} {a5 : Option Addr} {n5 c5 : Nat} {rs : List (List Value)}, Ext Hc H5 → Vg.Next base Hc H5 → Fresh Hc H5 61 6 a5 n5 c5 rs.flatten → (∀ r ∈ rs, r.length = 6) → AllR RMail Hc rs ms → OwnSl RMail 6 61 base Hc H5 a5 n5 c5 rs ms := fun e5 hN hF hw hA =>
    ⟨hF.row hN, hw, hA, e5, fun hc g hg => by
      rcases hF.2.2.2 with ⟨_, h0⟩ | ⟨g', kg, q1, q2, _⟩
      · exact absurd h0 hc
      · rw [hg] at q1; simp at q1; subst q1; exact q2⟩
  refine ⟨fun hz => ?_, fun hz => ?_⟩
  · intro g4 H4 hN4 _ hg4
    have b4 : Mails H4 (some ⟨g4, 0, none⟩) 1 [m] := mail_box (m := m) hg4 (p3.ext' hN4.ext)
    have h9 : mailsCheck [m] = sendErr ms m := by rw [sendErr, if_pos hz]
    refine (cRefMail b4).int1 fun H5 e5 _ => ⟨fun h40 => ⟨?_, ?_⟩, fun h40 => ?_⟩
    · have e35 : Ext H3 H5 := Ext.trans hN4.ext e5
      refine (cCloneMails (x3.ext' e35) (by omega)).mono fun v H6 e6 hv => ?_
      obtain ⟨a6, n6, c6, rs, rfl, hF, hw, hA⟩ := hv
      refine ⟨a6, n6, c6, rfl, fun hN6 => ?_⟩
      have hO := own e6 hN6 hF hw hA
      obtain ⟨_, hn6⟩ := hO.rlen (by omega)
      intro g7 H7 hN7 _ hg7
      refine ⟨rs.flatten, mailVal m a' l' c', hO.row.ext hN7.ext, rfl, rfl, .inr ⟨g7, 0, rfl, box_cellsAt hg7⟩, by omega, by omega, fun wa wc Hw hG hR => ?_⟩
      obtain ⟨ew, hW⟩ := grow e35 (hO.ext hN7.ext) (by omega) hG hR
      exact wayTail (K := fun v _ _ => v = Value.bool true) (fun _ => rfl) (fun _ _ _ => trivial) (x3.ext' ew) hlc rfl (S3.ext' ew) rfl (T3.ext' ew) rfl rfl rfl rfl rfl rfl (l3.ext' ew) rfl h9 hW
    · have e35 : Ext H3 H5 := Ext.trans hN4.ext e5
      intro g7 H7 hN7 _ hg7
      refine (cCloneMails ((x3.ext' e35).ext' hN7.ext) (by omega)).mono fun v H6 e6 hv => ?_
      obtain ⟨a6, n6, c6, rs, rfl, hF, hw, hA⟩ := hv
      refine ⟨a6, n6, c6, rfl, fun hN6 => ?_⟩
      have hO := own e6 hN6 hF hw hA
      obtain ⟨_, hn6⟩ := hO.rlen (by omega)
      refine ⟨rs.flatten, mailVal m a' l' c', hO.row, rfl, rfl, .inr ⟨g7, 0, rfl, cellsAt_ext e6 (box_cellsAt hg7)⟩, by omega, by omega, fun wa wc Hw hG hR => ?_⟩
      obtain ⟨ew, hW⟩ := grow (e35.trans hN7.ext) hO (by omega) hG hR
      exact wayTail (K := fun v _ _ => v = Value.bool true) (fun _ => rfl) (fun _ _ _ => trivial) (x3.ext' ew) hlc rfl (S3.ext' ew) rfl (T3.ext' ew) rfl rfl rfl rfl rfl rfl (l3.ext' ew) rfl h9 hW
    · have ew : Ext H3 H5 := Ext.trans hN4.ext e5
      have hW : Mails H5 a l (sent ms m) := by rw [sent, if_neg (by omega)]; exact x3.ext' ew
      exact wayTail (K := fun v _ _ => v = Value.bool true) (fun _ => rfl) (fun _ _ _ => trivial) (x3.ext' ew) hlc rfl (S3.ext' ew) rfl (T3.ext' ew) rfl rfl rfl rfl rfl rfl (l3.ext' ew) rfl h9 hW
  · have h9 : mailsCheck ms = sendErr ms m := by rw [sendErr, if_neg hz]
    refine ⟨fun h40 => ⟨?_, ?_⟩, fun h40 => ?_⟩
    · refine (cCloneMails x3 (by omega)).mono fun v H6 e6 hv => ?_
      obtain ⟨a6, n6, c6, rs, rfl, hF, hw, hA⟩ := hv
      refine ⟨a6, n6, c6, rfl, fun hN6 => ?_⟩
      have hO := own e6 hN6 hF hw hA
      obtain ⟨_, hn6⟩ := hO.rlen (by omega)
      intro g7 H7 hN7 _ hg7
      refine ⟨rs.flatten, mailVal m a' l' c', hO.row.ext hN7.ext, rfl, rfl, .inr ⟨g7, 0, rfl, box_cellsAt hg7⟩, by omega, by omega, fun wa wc Hw hG hR => ?_⟩
      obtain ⟨ew, hW⟩ := grow (Ext.refl _) (hO.ext hN7.ext) (by omega) hG hR
      exact wayTail (K := fun v _ _ => v = Value.bool true) (fun _ => rfl) (fun _ _ _ => trivial) (x3.ext' ew) hlc rfl (S3.ext' ew) rfl (T3.ext' ew) rfl rfl rfl rfl rfl rfl (l3.ext' ew) rfl h9 hW
    · intro g7 H7 hN7 _ hg7
      refine (cCloneMails (x3.ext' hN7.ext) (by omega)).mono fun v H6 e6 hv => ?_
      obtain ⟨a6, n6, c6, rs, rfl, hF, hw, hA⟩ := hv
      refine ⟨a6, n6, c6, rfl, fun hN6 => ?_⟩
      have hO := own e6 hN6 hF hw hA
      obtain ⟨_, hn6⟩ := hO.rlen (by omega)
      refine ⟨rs.flatten, mailVal m a' l' c', hO.row, rfl, rfl, .inr ⟨g7, 0, rfl, cellsAt_ext e6 (box_cellsAt hg7)⟩, by omega, by omega, fun wa wc Hw hG hR => ?_⟩
      obtain ⟨ew, hW⟩ := grow hN7.ext hO (by omega) hG hR
      exact wayTail (K := fun v _ _ => v = Value.bool true) (fun _ => rfl) (fun _ _ _ => trivial) (x3.ext' ew) hlc rfl (S3.ext' ew) rfl (T3.ext' ew) rfl rfl rfl rfl rfl rfl (l3.ext' ew) rfl h9 hW
    · have hW : Mails H3 a l (sent ms m) := by rw [sent, if_neg (by omega)]; exact x3
      exact wayTail (K := fun v _ _ => v = Value.bool true) (fun _ => rfl) (fun _ _ _ => trivial) x3 hlc rfl S3 rfl T3 rfl rfl rfl rfl rfl rfl l3 rfl h9 hW
end Go.Vg
