/- Plain laws of configurations and leaders; how cells stand for them. -/
import Derived.Test.YtglnjkkaojhgnaaGreatDoorC9
import Derived.Test.YtglnjkkaojhgnaaGreatDoorC3
set_option linter.unusedSimpArgs false
set_option linter.unusedVariables false
namespace Go.Vg
open Go
structure Kn where
  st : Int
  try_ : Int
  back : Bool
  deriving DecidableEq
structure Conf where
  first : Rls
  rules : List Rule
  waves : List (List Int)
  bud : Int
structure Ldr where
  rels : List Rls
  now : Int
  goal : Int
  back : Bool
  ags : List Kn
  nx : Int
  deriving DecidableEq
/-! ### How many agents -/
def agentsFrom : Int → List (List Int) → Int
  | n, [] => n
  | n, w :: q => if 6 < n + min 7 (w.length : Int) then n + min 7 (w.length : Int) else agentsFrom (n + min 7 (w.length : Int)) q
def agentsOf (ws : List (List Int)) : Int := agentsFrom 0 ws
def refAgents (ws : List (List Int)) : Int := if 6 < ws.flatten.length then 7 else ws.flatten.length
theorem agentsFrom_spec : ∀ (ws : List (List Int)) (n : Int), 0 ≤ n → n ≤ 6 → (n + ws.flatten.length ≤ 6 ∧ agentsFrom n ws = n + ws.flatten.length) ∨ (6 < n + ws.flatten.length ∧ 6 < agentsFrom n ws)
  | [], n, h0, h6 => .inl (by simp [agentsFrom]; omega)
  | w :: q, n, h0, h6 => by
    unfold agentsFrom
    simp only [List.flatten_cons, List.length_append]
    split
    · exact .inr (by omega)
    · rename_i h
      have hm : min 7 (w.length : Int) = w.length := by omega
      rw [hm] at h ⊢
      rcases agentsFrom_spec q (n + w.length) (by omega) (by omega) with h1 | h1
      · exact .inl (by omega)
      · exact .inr (by omega)
theorem agentsOf_spec (ws : List (List Int)) : (ws.flatten.length ≤ 6 ∧ agentsOf ws = ws.flatten.length ∧ refAgents ws = ws.flatten.length) ∨ (6 < ws.flatten.length ∧ 6 < agentsOf ws ∧ refAgents ws = 7) := by
  rcases agentsFrom_spec ws 0 (by omega) (by omega) with h | h
  · exact .inl ⟨by omega, by unfold agentsOf; omega, by unfold refAgents; rw [if_neg (by omega)]⟩
  · exact .inr ⟨by omega, by unfold agentsOf; omega, by unfold refAgents; rw [if_pos (by omega)]⟩
theorem agents_check (ws : List (List Int)) : waveCheck ws (refAgents ws) = waveCheck ws (agentsOf ws) := by
  rcases agentsOf_spec ws with ⟨h, h1, h2⟩ | ⟨h, h1, h2⟩
  · rw [h1, h2]
  · unfold waveCheck
    rw [if_neg (by omega), if_pos (by omega), if_neg (by omega), if_pos (by omega)]
theorem agents_same {ws : List (List Int)} (h : waveCheck ws (agentsOf ws) = 0) : refAgents ws = agentsOf ws ∧ 1 ≤ agentsOf ws ∧ agentsOf ws ≤ 6 := by
  have hz := waveCheck_zero h
  rcases agentsOf_spec ws with ⟨h, h1, h2⟩ | ⟨h, h1, h2⟩
  · exact ⟨by omega, hz.1, hz.2.1⟩
  · omega
/-! ### Configurations and leaders -/
def cfgErr (c : Conf) : Int :=
  if relErr c.first ≠ 0 then relErr c.first else
  if c.first.id ≠ 1 ∨ c.bud < 0 ∨ 3 < c.bud then 3 else
  if brokenErr c.first.lock c.rules ≠ 0 then brokenErr c.first.lock c.rules else
  if 0 ≤ broken c.first.lock c.rules then 8 else waveCheck c.waves (agentsOf c.waves)
def relsErr (rules : List Rule) : Int → List Rls → Int
  | _, [] => 0
  | i, r :: q => if brokenErr r.lock rules ≠ 0 then brokenErr r.lock rules else if 0 ≤ broken r.lock rules then 8 else if r.id ≠ i + 1 then 4 else relsErr rules (i + 1) q
def badKn (nx : Int) (a : Kn) : Prop := a.st < 0 ∨ 3 < a.st ∨ a.try_ < 0 ∨ nx ≤ a.try_
instance (nx : Int) (a : Kn) : Decidable (badKn nx a) := by unfold badKn; infer_instance
def oddKn (goal : Int) (back : Bool) (a : Kn) : Prop := (a.st ≠ 0 ∧ (goal = 0 ∨ a.try_ = 0)) ∨ (a.back = true ∧ (back = false ∨ a.st = 0))
instance (goal : Int) (back : Bool) (a : Kn) : Decidable (oddKn goal back a) := by unfold oddKn; infer_instance
def knErr (goal nx : Int) (back : Bool) : List Kn → Int
  | [] => 0
  | a :: q => if badKn nx a then 3 else if oddKn goal back a then 4 else knErr goal nx back q
def ldrRange (l : Ldr) : Prop := l.now < 1 ∨ (l.rels.length : Int) < l.now ∨ l.goal < 0 ∨ (l.rels.length : Int) < l.goal ∨ l.nx < 1 ∨ 201 < l.nx
instance (l : Ldr) : Decidable (ldrRange l) := by unfold ldrRange; infer_instance
def ldrForm (c : Conf) (l : Ldr) : Prop := l.goal = l.now ∨ (l.goal = 0 ∧ l.back = true) ∨ (l.ags.length : Int) ≠ agentsOf c.waves ∨ l.rels[0]? ≠ some c.first
instance (c : Conf) (l : Ldr) : Decidable (ldrForm c l) := by unfold ldrForm; infer_instance
def ldrErr (c : Conf) (l : Ldr) : Int :=
  if cfgErr c ≠ 0 then cfgErr c else
  if l.rels.length = 0 ∨ 6 < l.rels.length then 2 else
  if relsErr c.rules 0 l.rels ≠ 0 then relsErr c.rules 0 l.rels else
  if ldrRange l then 3 else if ldrForm c l then 4 else knErr l.goal l.nx l.back l.ags
def thr (l : List Kn) : List Bool := l.map fun a => decide (a.st = 2 ∨ a.st = 3)
def cnt (k : Int) (l : List Kn) : Int := (l.filter fun a => decide (a.st = k)).length
def noLdr : Ldr := ⟨[], 0, 0, false, [], 0⟩
def newLdr (c : Conf) : Ldr := ⟨[c.first], 1, 0, false, List.replicate (agentsOf c.waves).toNat ⟨0, 0, false⟩, 1⟩
def turnOf (c : Conf) (l : Ldr) (k : Int) : Bool := match l.ags[k.toNat]? with
  | none => false
  | some a => if l.back = true then decide (a.st ≠ 0 ∧ a.back = false) else decide (waveCheck c.waves l.ags.length = 0 ∧ a.st = 0 ∧ waveOf c.waves k = waveNow c.waves (thr l.ags) ∧ cnt 3 l.ags ≤ c.bud)
def busy (a : Kn) : Prop := a.st = 1 ∨ (a.st ≠ 0 ∧ a.back = false)
instance (a : Kn) : Decidable (busy a) := by unfold busy; infer_instance
def overOf (c : Conf) (l : Ldr) : Bool := if l.back = false then decide (cnt 3 l.ags ≤ c.bud ∧ false ∉ thr l.ags) else decide (∀ a ∈ l.ags, ¬ busy a)
def goalOf (l : Ldr) : Int := if l.back = true then l.now else l.goal
def ledKind (c : Conf) (l : Ldr) (r : Recd) : Int :=
  if r.kind = 4 then (if l.rels.length = 6 then 2 else if r.rel.id ≠ l.rels.length + 1 then 7 else if brokenErr r.rel.lock c.rules ≠ 0 then brokenErr r.rel.lock c.rules else if 0 ≤ broken r.rel.lock c.rules then 8 else 0) else
  if r.kind = 5 then (if l.goal ≠ 0 then 7 else if (l.rels.length : Int) < r.num then 5 else if r.num = l.now then 6 else 0) else
  if r.kind = 6 ∨ r.kind = 7 then (if (l.ags.length : Int) ≤ r.agent then 5 else
    if r.kind = 7 then (match l.ags[r.agent.toNat]? with | none => 5 | some a => if a.st ≠ 1 ∨ r.try_ ≠ a.try_ then 7 else 0) else
    (if l.goal = 0 ∨ r.try_ ≠ l.nx ∨ turnOf c l r.agent = false then 7 else 0)) else
  if r.kind = 8 then (if l.goal = 0 ∨ l.back = true then 7 else 0) else
  if r.kind = 9 then (if l.goal = 0 ∨ overOf c l = false then 7 else 0) else 4
def ledErr (c : Conf) (l : Ldr) (r : Recd) : Int :=
  if ldrErr c l ≠ 0 then ldrErr c l else if recErr r ≠ 0 then recErr r else ledKind c l r
def got (r : Recd) (a : Kn) : Kn := ⟨if r.good = true then 2 else 3, a.try_, a.back⟩
def ledNext (l : Ldr) (r : Recd) : Ldr :=
  if r.kind = 4 then { l with rels := l.rels ++ [r.rel] } else
  if r.kind = 5 then { l with goal := r.num } else
  if r.kind = 6 then { l with ags := l.ags.set r.agent.toNat ⟨1, r.try_, l.back⟩, nx := l.nx + 1 } else
  if r.kind = 7 then { l with ags := (match l.ags[r.agent.toNat]? with | none => l.ags | some a => l.ags.set r.agent.toNat (got r a)) } else
  if r.kind = 8 then { l with back := true } else
  { l with now := (if l.back = false then l.goal else l.now), goal := 0, back := false, ags := l.ags.map fun a => ⟨0, a.try_, false⟩ }
def ledV (c : Conf) (l : Ldr) (r : Recd) : Ldr := if ledErr c l r = 0 then ledNext l r else noLdr
def ledFrom (c : Conf) : Ldr → List Recd → Except Int Ldr
  | l, [] => .ok l
  | l, r :: q => if ledErr c l r = 0 then ledFrom c (ledNext l r) q else .error (ledErr c l r)
def ledReplay (c : Conf) (rs : List Recd) : Except Int Ldr := if cfgErr c ≠ 0 then .error (cfgErr c) else if 200 < rs.length then .error 2 else ledFrom c (newLdr c) rs
def okLd : Except Int Ldr → Ldr
  | .ok l => l
  | .error _ => noLdr
/-! ### What holds of right ones -/
theorem cfgErr_zero {c : Conf} (h : cfgErr c = 0) : relErr c.first = 0 ∧ c.first.id = 1 ∧ 0 ≤ c.bud ∧ c.bud ≤ 3 ∧ brokenErr c.first.lock c.rules = 0 ∧ broken c.first.lock c.rules < 0 ∧ waveCheck c.waves (agentsOf c.waves) = 0 := by
  unfold cfgErr at h
  split at h
  · omega
  · split at h
    · omega
    · split at h
      · omega
      · split at h
        · omega
        · exact ⟨by omega, by omega, by omega, by omega, by omega, by omega, h⟩
theorem relsErr_zero {rules : List Rule} : ∀ {l : List Rls} {i : Int}, relsErr rules i l = 0 ↔ ∀ (j : Nat) (r : Rls), l[j]? = some r → brokenErr r.lock rules = 0 ∧ broken r.lock rules < 0 ∧ r.id = i + j + 1
  | [], i => by simp [relsErr]
  | x :: q, i => by
    unfold relsErr
    constructor
    · intro h
      split at h
      · omega
      · split at h
        · omega
        · split at h
          · omega
          · intro j r hj
            cases j with
            | zero => simp at hj; subst hj; exact ⟨by omega, by omega, by omega⟩
            | succ j =>
              have := relsErr_zero.1 h j r (by simpa using hj)
              exact ⟨this.1, this.2.1, by rw [this.2.2]; push_cast; omega⟩
    · intro h
      have h0 := h 0 x rfl
      rw [if_neg (by omega), if_neg (by omega), if_neg (by omega)]
      exact relsErr_zero.2 fun j r hj => by
        have := h (j + 1) r (by simpa using hj)
        exact ⟨this.1, this.2.1, by rw [this.2.2]; push_cast; omega⟩
theorem knErr_zero {goal nx : Int} {back : Bool} : ∀ {l : List Kn}, knErr goal nx back l = 0 ↔ ∀ a ∈ l, ¬ badKn nx a ∧ ¬ oddKn goal back a
  | [] => by simp [knErr]
  | x :: q => by
    unfold knErr
    constructor
    · intro h
      split at h
      · omega
      · split at h
        · omega
        · intro a ha
          rcases List.mem_cons.1 ha with rfl | ha
          · exact ⟨by assumption, by assumption⟩
          · exact knErr_zero.1 h a ha
    · intro h
      have h0 := h x List.mem_cons_self
      rw [if_neg h0.1, if_neg h0.2]
      exact knErr_zero.2 fun a ha => h a (List.mem_cons_of_mem _ ha)
theorem ldrErr_zero {c : Conf} {l : Ldr} : ldrErr c l = 0 ↔ cfgErr c = 0 ∧ 1 ≤ l.rels.length ∧ l.rels.length ≤ 6 ∧ relsErr c.rules 0 l.rels = 0 ∧ ¬ ldrRange l ∧ ¬ ldrForm c l ∧ knErr l.goal l.nx l.back l.ags = 0 := by
  unfold ldrErr
  constructor
  · intro h
    split at h
    · omega
    · split at h
      · omega
      · split at h
        · omega
        · split at h
          · omega
          · split at h
            · omega
            · exact ⟨by omega, by omega, by omega, by omega, by assumption, by assumption, h⟩
  · rintro ⟨h1, h2, h3, h4, h5, h6, h7⟩
    rw [if_neg (by omega), if_neg (by omega), if_neg (by omega), if_neg h5, if_neg h6, h7]
theorem rel_lock {rules : List Rule} {l : List Rls} {i : Int} (h : relsErr rules i l = 0) : ∀ r ∈ l, Lk r.lock ∧ r.lock.length ≤ 12 := fun r hr => by
  obtain ⟨j, hj⟩ := List.getElem?_of_mem hr
  exact (brokenErr_zero.1 (relsErr_zero.1 h j r hj).1).1
/-! ### Cells -/
def Rg (n : Int) : Prop := -9223372036854775808 ≤ n ∧ n ≤ 9223372036854775807
def RRl : Rep Rls := fun H r x => ∃ a n c, r = [i64 x.id, .slice a n c] ∧ Pins H a n x.lock ∧ Rg x.id
theorem RRl.mono : RRl.Mono := fun _ _ _ _ e ⟨a, n, c, h, hp, hg⟩ => ⟨a, n, c, h, hp.ext' e, hg⟩
theorem RRl.len {H : Heap} {r : List Value} {m : Rls} (h : RRl H r m) : r.length = 2 := by obtain ⟨a, n, c, rfl, _⟩ := h; rfl
theorem RRl.one {r : List Value} {m : Rls} {H : Heap} (h : RRl H r m) : allOne r = true := by obtain ⟨a, n, c, rfl, _⟩ := h; rfl
abbrev Rels (H : Heap) (a : Option Addr) (n : Nat) (l : List Rls) : Prop := Sl RRl 2 H a n l
theorem Rels.ext' {H H' : Heap} {a : Option Addr} {n : Nat} {l : List Rls} (h : Rels H a n l) (e : Ext H H') : Rels H' a n l := Sl.ext RRl.mono h e
def knCells (a : Kn) : List Value := [i64 a.st, i64 a.try_, .bool a.back]
theorem knCells_len (a : Kn) : (knCells a).length = 3 := rfl
theorem knCells_one (a : Kn) : allOne (knCells a) = true := rfl
abbrev Kns (H : Heap) (a : Option Addr) (n : Nat) (l : List Kn) : Prop := Sl (REnc knCells) 3 H a n l
theorem Kns.ext' {H H' : Heap} {a : Option Addr} {n : Nat} {l : List Kn} (h : Kns H a n l) (e : Ext H H') : Kns H' a n l := Sl.ext REnc.mono h e
theorem Rels.rg {H : Heap} {a : Option Addr} {n : Nat} {l : List Rls} (h : Rels H a n l) {j : Nat} {m : Rls} (hj : l[j]? = some m) : Rg m.id := by
  have hl := h.len
  have hjl := (List.getElem?_eq_some_iff.1 hj).1
  obtain ⟨b, o, r, x, ha, hx, ⟨a', n', c', rfl, hp, hg⟩, hc⟩ := h.get (k := (j : Int)) (by omega) (by omega)
  rw [Int.toNat_natCast, hj] at hx
  obtain rfl := Option.some.inj hx
  exact hg
theorem Rg.pred {n : Int} (h : Rg n) {i : Int} (h0 : 0 ≤ i) (h1 : i < 9223372036854775807) : IntKind.wrap .i64 (n - 1) = i ↔ n = i + 1 := by
  by_cases hn : n = -9223372036854775808
  · subst hn
    rw [show IntKind.wrap .i64 (-9223372036854775808 - 1) = 9223372036854775807 from by decide]
    omega
  · rw [wrap_in (by unfold Rg at h; omega) (by unfold Rg at h; omega)]; omega
theorem Sl.rl {H H' : Heap} {a : Option Addr} {n : Nat} {xs : List Rls} (h : Rels H a n xs) (e : Ext H H') {k : Int} (h0 : 0 ≤ k) (h1 : k < n) {F : Int → Option Addr → Nat → Nat → Prop}
    (hF : ∀ m a n c, xs[k.toNat]? = some m → Pins H a n m.lock → F m.id a n c) :
    ∃ (b o : Nat), a = some ⟨b, o, none⟩ ∧ 0 ≤ k ∧ k < n ∧ ∃ (z : Int) (a' : Option Addr) (n' c' : Nat), (H'.cell b (o + k.toNat * 2) = some (.int .i64 z) ∧ H'.cell b (o + k.toNat * 2 + 1) = some (.slice a' n' c') ∧ True) ∧ F z a' n' c' := by
  obtain ⟨b, o, r, x, ha, hx, ⟨a', n', c', rfl, hp, _⟩, hc⟩ := h.get h0 h1
  exact ⟨b, o, ha, h0, h1, _, _, _, _, ⟨Heap.cell_next e (hc 0 _ rfl), Heap.cell_next e (hc 1 _ rfl), trivial⟩, hF x a' n' c' hx hp⟩
theorem Sl.kn {H H' : Heap} {a : Option Addr} {n : Nat} {xs : List Kn} (h : Kns H a n xs) (e : Ext H H') {k : Int} (h0 : 0 ≤ k) (h1 : k < n) {F : Int → Int → Bool → Prop} (hF : ∀ m, xs[k.toNat]? = some m → F m.st m.try_ m.back) :
    ∃ (b o : Nat), a = some ⟨b, o, none⟩ ∧ 0 ≤ k ∧ k < n ∧ ∃ (x y : Int) (q : Bool), (H'.cell b (o + k.toNat * 3) = some (.int .i64 x) ∧ H'.cell b (o + k.toNat * 3 + 1) = some (.int .i64 y) ∧ H'.cell b (o + k.toNat * 3 + 2) = some (.bool q) ∧ True) ∧ F x y q := by
  obtain ⟨b, o, r, x, ha, hx, rfl, hc⟩ := h.get h0 h1
  exact ⟨b, o, ha, h0, h1, _, _, _, ⟨Heap.cell_next e (hc 0 _ rfl), Heap.cell_next e (hc 1 _ rfl), Heap.cell_next e (hc 2 _ rfl), trivial⟩, hF x hx⟩
abbrev cfgArg (c : Conf) (fa : Option Addr) (fl fc : Nat) (ra : Option Addr) (rl rc : Nat) (wa : Option Addr) (wl wc : Nat) : Value := .agg #[.int .i64 c.first.id, .slice fa fl fc, .slice ra rl rc, .slice wa wl wc, .int .i64 c.bud]
abbrev ldrArg (l : Ldr) (la : Option Addr) (ll lc : Nat) (ka : Option Addr) (kl kc : Nat) : Value := .agg #[.slice la ll lc, .int .i64 l.now, .int .i64 l.goal, .bool l.back, .slice ka kl kc, .int .i64 l.nx]
structure CfgAt (H : Heap) (c : Conf) (fa : Option Addr) (fl : Nat) (ra : Option Addr) (rl : Nat) (wa : Option Addr) (wl : Nat) : Prop where
  pins : Pins H fa fl c.first.lock
  rules : Rules H ra rl c.rules
  waves : Waves H wa wl c.waves
theorem CfgAt.ext {H H' : Heap} {c : Conf} {fa ra wa : Option Addr} {fl rl wl : Nat} (h : CfgAt H c fa fl ra rl wa wl) (e : Ext H H') : CfgAt H' c fa fl ra rl wa wl := ⟨h.pins.ext' e, Sl.ext REnc.mono h.rules e, h.waves.ext' e⟩
structure LdrAt (H : Heap) (l : Ldr) (la : Option Addr) (ll : Nat) (ka : Option Addr) (kl : Nat) : Prop where
  rels : Rels H la ll l.rels
  ags : Kns H ka kl l.ags
theorem LdrAt.ext {H H' : Heap} {l : Ldr} {la ka : Option Addr} {ll kl : Nat} (h : LdrAt H l la ll ka kl) (e : Ext H H') : LdrAt H' l la ll ka kl := ⟨h.rels.ext' e, h.ags.ext' e⟩
/-- A call that yields a leader and an error. -/
theorem Spec.ldr {P : Program} {f : FuncId} {args : List Value} {H : Heap} {x : Ldr} {e : Int} (h : Spec P f args H fun v H' => ∃ la ll lc ka kl kc, v = .tuple #[ldrArg x la ll lc ka kl kc, i64 e] ∧ LdrAt H' x la ll ka kl) {base : Nat}
    {G : Option Addr → Nat → Nat → Int → Int → Bool → Option Addr → Nat → Nat → Int → Int → Heap → Prop} (hG : ∀ la ll lc ka kl kc H', Ext H H' → Next base H H' → LdrAt H' x la ll ka kl → G la ll lc x.now x.goal x.back ka kl kc x.nx e H') :
    Spec P f args H fun v H' => ∃ (la : Option Addr) (ll lc : Nat) (n2 n3 : Int) (b : Bool) (ka : Option Addr) (kl kc : Nat) (n6 n7 : Int), v = .tuple #[.agg #[.slice la ll lc, .int .i64 n2, .int .i64 n3, .bool b, .slice ka kl kc, .int .i64 n6], .int .i64 n7] ∧ (Next base H H' → G la ll lc n2 n3 b ka kl kc n6 n7 H') :=
  h.mono fun v H' ex hv => by
    obtain ⟨la, ll, lc, ka, kl, kc, h1, h2⟩ := hv
    exact ⟨la, ll, lc, _, _, _, ka, kl, kc, _, e, h1, fun hN => hG la ll lc ka kl kc H' ex hN h2⟩
/-- A call that yields a leader. -/
theorem Spec.ldr1 {P : Program} {f : FuncId} {args : List Value} {H : Heap} {x : Ldr} (h : Spec P f args H fun v H' => ∃ la ll lc ka kl kc, v = ldrArg x la ll lc ka kl kc ∧ LdrAt H' x la ll ka kl) {base : Nat}
    {G : Option Addr → Nat → Nat → Int → Int → Bool → Option Addr → Nat → Nat → Int → Heap → Prop} (hG : ∀ la ll lc ka kl kc H', Ext H H' → Next base H H' → LdrAt H' x la ll ka kl → G la ll lc x.now x.goal x.back ka kl kc x.nx H') :
    Spec P f args H fun v H' => ∃ (la : Option Addr) (ll lc : Nat) (n2 n3 : Int) (b : Bool) (ka : Option Addr) (kl kc : Nat) (n6 : Int), v = .agg #[.slice la ll lc, .int .i64 n2, .int .i64 n3, .bool b, .slice ka kl kc, .int .i64 n6] ∧ (Next base H H' → G la ll lc n2 n3 b ka kl kc n6 H') :=
  h.mono fun v H' ex hv => by
    obtain ⟨la, ll, lc, ka, kl, kc, h1, h2⟩ := hv
    exact ⟨la, ll, lc, _, _, _, ka, kl, kc, _, h1, fun hN => hG la ll lc ka kl kc H' ex hN h2⟩
end Go.Vg
