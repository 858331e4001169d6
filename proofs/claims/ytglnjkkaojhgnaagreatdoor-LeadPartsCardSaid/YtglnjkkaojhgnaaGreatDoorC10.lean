/- What is proved here: the contracts of the functions of ways between locks, and of the document's answers. -/
import Derived.Test.YtglnjkkaojhgnaaGreatDoorC9
import Derived.Test.YtglnjkkaojhgnaaGreatDoorV5
import Derived.Test.YtglnjkkaojhgnaaGreatDoorC3
set_option linter.unusedSimpArgs false
set_option maxRecDepth 100000
set_option linter.unusedVariables false
namespace Go.Vg
open Go Go.Proofs
/-! ### diff.Between -/
/-! ### The document's Steps -/
theorem Row.keep {base : Nat} {H H' : Heap} {f : TypeId} {sy : Nat} {a a' b : Option Addr} {c c' nn m d : Nat} {ys : List Value} (h : Row base H f sy b m d ys) (hG : Grew base H H' a c a' c' nn) (hs : c ≠ 0 → d ≠ 0 → a ≠ b) : Row base H' f sy b m d ys ∧ (c' ≠ 0 → d ≠ 0 → a' ≠ b) := by
  obtain ⟨h1, h2, h3, h4⟩ := h
  rcases h4 with ⟨h5, h6⟩ | ⟨g, k, hb, hbase, hH, hr⟩
  · exact ⟨⟨h1, h2, h3, .inl ⟨h5, h6⟩⟩, fun _ hd => absurd h6 hd⟩
  · by_cases hd : d = 0
    · exact ⟨⟨h1, h2, h3, .inl ⟨by omega, hd⟩⟩, fun _ h => absurd hd h⟩
    · refine ⟨⟨h1, h2, h3, .inr ⟨g, k, hb, hbase, hG.keep g k hH ?_, hr⟩⟩, fun hc' _ e => ?_⟩
      · by_cases hc : c = 0
        · exact .inl hc
        · exact .inr fun e => hs hc hd (by rw [e, hb])
      · rcases hG.place hc' g (by rw [e, hb]) with h | ⟨h, hc⟩
        · rw [hH] at h; cases h
        · exact hs hc hd (by rw [← h, e])
theorem tab_get (xs : List Pin) {k : Int} (h0 : 0 ≤ k) (h1 : k < 21) : (tabCells xs)[0 + k.toNat * 1]? = some (.int .i64 (find xs k)) := by
  rw [Nat.zero_add, Nat.mul_one, tabCells_at xs (by omega), show (k.toNat : Int) = k from by omega]
/-! ### The document's Stepped -/
/-! ### The document's OnTheWay -/
theorem run_items {s t : List Int} (hs : s.length = 21) (ht : t.length = 21) (w : World) : ∀ is : List Nat, (∀ i ∈ is, i < 21) → (Op.eqItems 9999 3 1 (s.map i64).toArray (t.map i64).toArray is).run Tryz.prog w = .ok (decide (∀ i ∈ is, s[i]? = t[i]?)) w
  | [], _ => by simp [Op.eqItems]
  | i :: is, hi => by
    have h0 := hi i List.mem_cons_self
    have ih := run_items hs ht w is fun j hj => hi j (List.mem_cons_of_mem _ hj)
    have u3 := run_underlying (P := Tryz.prog) Tryz.underlying3
    have px : ∀ q : List Int, q.length = 21 → (part 3 (q.map i64).toArray (i * 1)).run Tryz.prog w = .ok (i64 (q.getD i 0)) w := fun q hq => by
      simp [part, isAgg, u3, List.getD, List.getElem?_eq_getElem (show i < q.length by omega)]
    have pe : (Op.equalIn 9999 3 (i64 (s.getD i 0)) (i64 (t.getD i 0))).run Tryz.prog w = .ok (s.getD i 0 == t.getD i 0) w := by
      rw [show (9999 : Nat) = 9998 + 1 from rfl, run_equalIn_int w 9998 3 .i64 .i64 _ _ Tryz.underlying3]
    have e : s[i]? = t[i]? ↔ s.getD i 0 = t.getD i 0 := by
      rw [List.getD_eq_getElem?_getD, List.getD_eq_getElem?_getD, List.getElem?_eq_getElem (show i < s.length by omega), List.getElem?_eq_getElem (show i < t.length by omega)]
      simp
    simp only [Op.eqItems, Sem.run_bind, px s hs, px t ht, pe, Result.andThen_ok]
    by_cases he : s.getD i 0 = t.getD i 0
    · simp only [he, beq_self_eq_true, Bool.not_true, Bool.false_eq_true, if_false]
      rw [ih]
      congr 1
      rw [decide_eq_decide]
      exact ⟨fun h j hj => by rcases List.mem_cons.1 hj with rfl | hj; exact e.2 he; exact h j hj, fun h j hj => h j (List.mem_cons_of_mem _ hj)⟩
    · have hb : (s.getD i 0 == t.getD i 0) = false := by simpa using he
      simp only [hb, Bool.not_false, if_true, Sem.run_pure]
      congr 1
      symm
      rw [decide_eq_false_iff_not]
      intro hall
      exact he (e.1 (hall i List.mem_cons_self))
/-! ### slices.Equal of steps -/
theorem neq73 {xo yo : Operand} (p q : Step) : RunsTo Tryz.prog (binRun .neq 91 xo yo (.agg #[.int .i64 p.kind, .int .i64 p.name, .int .i64 p.ver]) (.agg #[.int .i64 q.kind, .int .i64 q.name, .int .i64 q.ver])) (.bool (!(p.kind == q.kind && p.name == q.name && p.ver == q.ver))) := by
  intro w
  have u3 := Tryz.underlying3
  have a3 := Tryz.isAgg3
  have z3 := Tryz.sizeOf3
  have hS : Tryz.prog.underlying 91 = some (.struct (Tryz.prog.fieldsOf 91)) := by kernel_rfl
  have hp : Tryz.prog.stoodInHeld 91 = false := by kernel_rfl
  have hm : Tryz.prog.eqGuardType Tryz.prog.depth 91 = false := by kernel_rfl
  have he : (Op.equalIn 10000 91 (.agg #[.int .i64 p.kind, .int .i64 p.name, .int .i64 p.ver]) (.agg #[.int .i64 q.kind, .int .i64 q.name, .int .i64 q.ver])).run Tryz.prog w = .ok (p.kind == q.kind && p.name == q.name && p.ver == q.ver) w := by
    rw [show (10000 : Nat) = 9999 + 1 from rfl, run_equalIn_agg w 9999 91 _ _ hS hp]
    simp only [Program.fieldsOf, Tryz.underlying91]
    go_simp
    by_cases h1 : p.kind = q.kind <;> by_cases h2 : p.name = q.name <;> by_cases h3 : p.ver = q.ver <;> simp [h1, h2, h3]
  simp only [binRun, Sem.run_bind, run_eqGuard_agg w _ 91 _ _ _ _ hm, Result.andThen_ok, run_neq_struct, he]
end Go.Vg
set_option linter.unusedSimpArgs false
set_option maxRecDepth 100000
set_option linter.unusedVariables false
namespace Go.Vg
open Go Go.Proofs
/-! ### Releases -/
theorem cNoteRelease {H : Heap} {a : Option Addr} {l c : Nat} {xs : List Pin} (hx : Pins H a l xs) (id : Int) : Spec Tryz.prog 75 [.agg #[.int .i64 id, .slice a l c]] H fun v _ => v = i64 (relErr ⟨id, xs⟩) := by
  refine TryzvcJ Tryz.func75 (by kernel_rfl) (by kernel_rfl) _ rfl (fun base K => vc68 id a l c base H K) fun base hb => ?_
  intro b
  refine ⟨id < 1 ∨ 6 < id, ⟨fun _ => ⟨rfl, fun _ _ h => h, by omega⟩, fun _ => ⟨rfl, fun _ _ h => h, by omega⟩⟩, fun h => by rw [relErr, if_pos h], fun h => ?_⟩
  refine (cLockCheck hx).int1 fun H1 e1 _ => ?_
  rw [relErr, if_neg h]
theorem cRefRelease {H : Heap} {a : Option Addr} {l c : Nat} {xs : List Pin} (hx : Pins H a l xs) (id : Int) : Spec Tryz.prog 108 [.agg #[.int .i64 id, .slice a l c]] H fun v _ => v = i64 (relErr ⟨id, xs⟩) := by
  refine TryzvcJ Tryz.func108 (by kernel_rfl) (by kernel_rfl) _ rfl (fun base K => vc74 id a l c base H K) fun base hb => ?_
  intro b
  refine (cIn id 1 6).bool1 fun H1 e1 _ => ⟨fun h => ?_, fun h => (cRefLockCheck (hx.ext' e1)).int1 fun H2 e2 _ => ?_⟩
  · have h : ¬ (1 ≤ id ∧ id ≤ 6) := by simpa [inR] using h
    rw [relErr, if_pos (show id < 1 ∨ 6 < id by omega)]
  · have h : 1 ≤ id ∧ id ≤ 6 := by simpa [inR] using h
    rw [relErr, if_neg (show ¬ (id < 1 ∨ 6 < id) by omega)]
theorem rel_eq {id id' : Int} {xs ys : List Pin} : ((⟨id, xs⟩ : Rls) = ⟨id', ys⟩) ↔ id = id' ∧ xs = ys := by simp
theorem cAlike {H : Heap} {a a' : Option Addr} {l c l' c' : Nat} {xs ys : List Pin} (hx : Pins H a l xs) (hy : Pins H a' l' ys) (id id' : Int) :
    Spec Tryz.prog 47 [.agg #[.int .i64 id, .slice a l c], .agg #[.int .i64 id', .slice a' l' c']] H fun v _ => v = .bool (decide ((⟨id, xs⟩ : Rls) = ⟨id', ys⟩)) := by
  refine TryzvcJ Tryz.func47 (by kernel_rfl) (by kernel_rfl) _ rfl (fun base K => vc86 id id' a a' l c l' c' base H K) fun base hb => ?_
  have hxl := hx.len
  have hyl := hy.len
  have hle := hx.le
  intro b b1
  refine ⟨id ≠ id' ∨ l ≠ l', ⟨fun _ => ⟨rfl, fun _ _ h => h, by omega⟩, fun _ => ⟨rfl, fun _ _ h => h, by omega⟩⟩, fun h => ?_, fun h => ?_⟩
  · rw [decide_eq_false]
    rw [rel_eq]
    rintro ⟨rfl, rfl⟩
    omega
  have hid : id = id' := by omega
  have hll : l = l' := by omega
  have hW : decide ((⟨id, xs⟩ : Rls) = ⟨id', ys⟩) = decide (xs = ys) := by rw [decide_eq_decide, rel_eq]; simp [hid]
  rw [hW]
  refine ⟨fun vs _ => ∃ (b : Bool) (k : Nat), vs = [.bool b, i64 k] ∧ k ≤ l ∧ (xs.drop k = ys.drop k ↔ xs = ys), upTo l 1, ⟨false, 0, rfl, by omega, by simp⟩, fun b n H' hN hI => ?_⟩
  obtain ⟨b', k, hvs, hk, hI⟩ := hI
  obtain ⟨rfl, rfl⟩ : b = b' ∧ n = (k : Int) := by simpa using hvs
  refine ⟨fun hlt => hx.pin hN.ext (by omega) hlt fun p hp => fun b3 => hy.pin hN.ext (by omega) (by omega) fun q hq => ⟨_, neq48 _ _ _ _, fun h => ?_, fun h => ?_⟩, fun hge => ?_⟩
  · rw [Int.toNat_natCast] at hp hq
    rw [drop_at hp, drop_at hq] at hI
    rw [decide_eq_false]
    intro e
    obtain ⟨rfl, _⟩ := List.cons.inj (hI.2 e)
    simp at h
  · rw [Int.toNat_natCast] at hp hq
    rw [drop_at hp, drop_at hq] at hI
    have hpq : p = q := by cases p; cases q; simp at h; simp [h]
    rintro r rfl
    rw [wrap_in (by omega) (by omega)]
    exact ⟨rfl, ⟨b, k + 1, rfl, by omega, by rw [← hI]; simp [hpq]⟩, by simp [upTo]; omega⟩
  · rw [decide_eq_true]
    exact hI.1 (by rw [drop_all hxl (by omega), drop_all hyl (by omega)])
theorem cRefAlike {H : Heap} {a a' : Option Addr} {l c l' c' : Nat} {xs ys : List Pin} (hx : Pins H a l xs) (hy : Pins H a' l' ys) (id id' : Int) :
    Spec Tryz.prog 39 [.agg #[.int .i64 id, .slice a l c], .agg #[.int .i64 id', .slice a' l' c']] H fun v _ => v = .bool (decide ((⟨id, xs⟩ : Rls) = ⟨id', ys⟩)) := by
  refine TryzvcJ Tryz.func39 (by kernel_rfl) (by kernel_rfl) _ rfl (fun base K => vc99 id id' a a' l c l' c' base H K) fun base hb => ?_
  intro b b1
  refine ⟨id = id' ∧ xs = ys, ⟨fun h => (cEqPins hx hy).bool1 fun H1 e1 _ => ⟨rfl, e1, by simp [h]⟩, fun h => ⟨rfl, fun _ _ h => h, fun h' => h h'.1⟩⟩, ?_⟩
  congr 1
  rw [decide_eq_decide, rel_eq]
/-! ### way.Check -/
theorem len_zero {xs : List Pin} {n : Nat} (h : xs.length = n) : (xs = [] ↔ n = 0) := by rw [← h]; exact List.length_eq_zero_iff.symm
end Go.Vg
set_option linter.unusedSimpArgs false
set_option maxRecDepth 100000
set_option linter.unusedVariables false
namespace Go.Vg
open Go Go.Proofs
theorem Row.at {base : Nat} {H : Heap} {e : TypeId} {sz n c i : Nat} {a : Option Addr} {L : List (List Value)} {r : List Value} (h : Row base H e sz a n c L.flatten) (hw : ∀ r ∈ L, r.length = sz) (hn : L.length = n) (hr : L[i]? = some r) :
    ∃ b : Nat, a = some ⟨b, 0, none⟩ ∧ ∀ (j : Nat) (v : Value), r[j]? = some v → H.cell b (0 + i * sz + j) = some v := by
  have hi : i < n := by have := (List.getElem?_eq_some_iff.1 hr).1; omega
  obtain ⟨b, o, r', ha, hr', hc⟩ := (has_of_row h rfl hw hn).get hi
  rw [hr] at hr'
  obtain rfl := Option.some.inj hr'
  obtain ⟨b', _, hb', _⟩ := h.block (by omega)
  rw [ha] at hb'
  simp at hb'
  obtain ⟨rfl, rfl⟩ := hb'
  exact ⟨b, ha, hc⟩
/-! ### way.Send -/
/-! ### way.Take -/
end Go.Vg
set_option linter.unusedSimpArgs false
set_option maxRecDepth 100000
set_option linter.unusedVariables false
namespace Go.Vg
open Go Go.Proofs
theorem mail_eq {m m' : Mail} : m = m' ↔ m.agent = m'.agent ∧ m.try_ = m'.try_ ∧ m.rep = m'.rep ∧ m.good = m'.good ∧ m.rel = m'.rel := by
  cases m; cases m'; simp
abbrev mailArg (m : Mail) (a : Option Addr) (n c : Nat) : Value := .agg #[.int .i64 m.agent, .int .i64 m.try_, .bool m.rep, .bool m.good, .int .i64 m.rel.id, .slice a n c]
/-- A call that yields mail, a piece of mail, an error. -/
theorem Spec.mail3 {P : Program} {f : FuncId} {args : List Value} {H : Heap} {x : Mail} {e : Int} {Q : Option Addr → Nat → Nat → Heap → Prop} (h : Spec P f args H fun v H' => ∃ a n c la ln lc, v = .tuple #[.slice a n c, .agg (mailVal x la ln lc).toArray, i64 e] ∧ Q a n c H' ∧ Pins H' la ln x.rel.lock) {base : Nat}
    {G : Option Addr → Nat → Nat → Int → Int → Bool → Bool → Int → Option Addr → Nat → Nat → Int → Heap → Prop} (hG : ∀ a n c la ln lc H', Ext H H' → Next base H H' → Q a n c H' → Pins H' la ln x.rel.lock → G a n c x.agent x.try_ x.rep x.good x.rel.id la ln lc e H') :
    Spec P f args H fun v H' => ∃ (a : Option Addr) (n c : Nat) (n5 n6 : Int) (b2 b3 : Bool) (n7 : Int) (a8 : Option Addr) (n8 c3 : Nat) (n9 : Int), v = .tuple #[.slice a n c, .agg #[.int .i64 n5, .int .i64 n6, .bool b2, .bool b3, .int .i64 n7, .slice a8 n8 c3], .int .i64 n9] ∧ (Next base H H' → G a n c n5 n6 b2 b3 n7 a8 n8 c3 n9 H') :=
  h.mono fun v H' ex hv => by
    obtain ⟨a, n, c, la, ln, lc, h1, h2, h3⟩ := hv
    exact ⟨a, n, c, _, _, _, _, _, la, ln, lc, e, h1, fun hN => hG a n c la ln lc H' ex hN h2 h3⟩
/-! ### A closed fact -/
def m1 : Mail := ⟨1, 2, true, true, ⟨0, []⟩⟩
def m2 : Mail := ⟨2, 3, false, false, ⟨2, [⟨1, 2⟩, ⟨2, 1⟩]⟩⟩
theorem cSecond {H : Heap} : Spec Tryz.prog 50 [] H fun v H' => ∃ a n c, v = .agg #[i64 2, .slice a n c] ∧ Pins H' a n [⟨1, 2⟩, ⟨2, 1⟩] := by
  refine TryzvcJ Tryz.func50 (by kernel_rfl) (by kernel_rfl) _ rfl (fun base K => vc116 base H K) fun base hb => ?_
  intro b g H1 hN1 _ hg
  exact ⟨_, _, _, rfl, sl_of_boxE pinCells_len (xs := [⟨1, 2⟩, ⟨2, 1⟩]) hg rfl (by decide)⟩
/-! ### The law WayBack -/
theorem mailsFrom_app : ∀ {a b : List Mail}, mailsFrom a = 0 → mailsFrom (a ++ b) = mailsFrom b
  | [], b, _ => rfl
  | m :: q, b, h => by
    unfold mailsFrom at h
    rw [List.cons_append, mailsFrom]
    split at h
    · omega
    · split at h
      · omega
      · rename_i h1 h2
        rw [if_neg h1, if_neg h2]
        split at h
        · rename_i h3; rw [if_pos h3]; exact mailsFrom_app h
        · rename_i h3
          rw [if_neg h3]
          split at h
          · rename_i h4; exact absurd h h4
          · rename_i h4; rw [if_neg h4]; exact mailsFrom_app h
theorem sent_ok {ms : List Mail} {m : Mail} (h : sendErr ms m = 0) : mailsCheck ms = 0 ∧ mailsCheck [m] = 0 ∧ mailsCheck (sent ms m) = 0 := by
  unfold sendErr at h
  split at h
  · rename_i h1
    refine ⟨h1, h, ?_⟩
    unfold sent
    split
    · rename_i h2
      have h1' := h1
      have h' := h
      unfold mailsCheck at h1' h' ⊢
      rw [if_neg (by omega)] at h1'
      rw [if_neg (by simp)] at h'
      rw [if_neg (by simp; omega), mailsFrom_app h1']
      exact h'
    · exact h1
  · rename_i h1; exact absurd h h1
end Go.Vg
