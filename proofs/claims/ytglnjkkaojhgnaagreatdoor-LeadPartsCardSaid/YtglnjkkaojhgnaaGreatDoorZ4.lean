/- What is proved here: records that are synced one by one. -/
import Derived.Test.YtglnjkkaojhgnaaGreatDoorD8
import Derived.Test.YtglnjkkaojhgnaaGreatDoorZ1b
set_option linter.unusedSimpArgs false
set_option linter.unusedVariables false
set_option maxRecDepth 100000
namespace Go.Vg
open Go Go.Proofs
/-! ### Errors are none of them nought -/
theorem dskPut_err {d : Dsk} {r : Recd} {e : Int} (h : dskPut d r = .error e) : e ≠ 0 := by
  unfold dskPut at h
  split at h
  · split at h
    · split at h
      · injection h with h; omega
      · cases h
    · rename_i h1; injection h with h; omega
  · rename_i h1; injection h with h; omega
theorem dskSync_err {d : Dsk} {e : Int} (h : dskSync d = .error e) : e ≠ 0 := by
  unfold dskSync at h
  split at h
  · split at h
    · cases h
    · rename_i h1; injection h with h; omega
  · rename_i h1; injection h with h; omega
/-! ### Records that are synced one by one -/
def onDsk : Dsk → List Recd → Except Int Dsk
  | d, [] => .ok d
  | d, r :: q => match dskPut d r with
    | .error e => .error e
    | .ok x => match dskSync x with
      | .error e => .error e
      | .ok y => onDsk y q
theorem onDsk_ok {d x y : Dsk} {r : Recd} {q : List Recd} (h : dskPut d r = .ok x) (h2 : dskSync x = .ok y) : onDsk d (r :: q) = onDsk y q := by
  conv => lhs; unfold onDsk
  rw [h]; dsimp only; rw [h2]
theorem onDsk_put {d : Dsk} {r : Recd} {q : List Recd} {e : Int} (h : dskPut d r = .error e) : onDsk d (r :: q) = .error e := by
  conv => lhs; unfold onDsk
  rw [h]
theorem onDsk_sync {d x : Dsk} {r : Recd} {q : List Recd} {e : Int} (h : dskPut d r = .ok x) (h2 : dskSync x = .error e) : onDsk d (r :: q) = .error e := by
  conv => lhs; unfold onDsk
  rw [h]; dsimp only; rw [h2]
theorem onDsk_all : ∀ {q ps : List Recd}, (∀ r ∈ ps, recErr r = 0) → ps.length ≤ 200 → (recsText ps).length ≤ 60000 → (∀ r ∈ q, recErr r = 0) →
    (onDsk ⟨recsText ps, []⟩ q = .ok ⟨recsText (ps ++ q), []⟩ ∧ (ps ++ q).length ≤ 200 ∧ (recsText (ps ++ q)).length ≤ 60000) ∨ onDsk ⟨recsText ps, []⟩ q = .error 2
  | [], ps, _, h2, h3, _ => .inl ⟨by rw [List.append_nil]; rfl, by simpa using h2, by simpa using h3⟩
  | r :: q, ps, h1, h2, h3, h4 => by
    have hr := h4 r (by simp)
    have e0 : dskErr ⟨recsText ps, []⟩ = 0 := dskErr_recs h1 h2 (by simpa using h3)
    have e1 : recsText ps ++ (recText r ++ [10]) = recsText (ps ++ [r]) := by rw [recsText_app]; simp [recsText]
    have hall : ∀ x ∈ ps ++ [r], recErr x = 0 := fun x hx => by
      rcases List.mem_append.1 hx with hx | hx
      · exact h1 x hx
      · simp at hx; subst hx; exact hr
    by_cases hz : 60000 < (recsText ps).length + 0 + (recText r).length + 1
    · right
      refine onDsk_put ?_
      unfold dskPut
      rw [if_pos e0, if_pos hr, if_pos (by simpa using hz)]
    · have hp : dskPut ⟨recsText ps, []⟩ r = .ok ⟨recsText ps, [] ++ (recText r ++ [10])⟩ := by
        unfold dskPut
        rw [if_pos e0, if_pos hr, if_neg (by simpa using hz)]
      have hl2 : (recsText (ps ++ [r])).length ≤ 60000 := by rw [← e1]; simp; omega
      have hx : dskErr ⟨recsText ps, [] ++ (recText r ++ [10])⟩ = 0 := dskErr_recs h1 h2 (by simp; omega)
      rcases dskErr_more hall hl2 with hm | hm
      · have hs : dskSync ⟨recsText ps, [] ++ (recText r ++ [10])⟩ = .ok ⟨recsText (ps ++ [r]), []⟩ := by
          unfold dskSync
          dsimp only
          rw [if_pos hx, List.nil_append, e1, if_pos hm]
        rw [onDsk_ok hp hs]
        have hn : (ps ++ [r]).length ≤ 200 := by
          have := (dskErr_zero hm).2.2
          rcases Nat.lt_or_ge 200 (ps ++ [r]).length with h | h
          · exfalso
            have key : ∀ (qs : List Recd) (k : Nat), (∀ r ∈ qs, recErr r = 0) → k ≤ 200 → 200 < k + qs.length → (linesF 200 k (recsText qs)).2.2 = 2 := by
              intro qs
              induction qs with
              | nil => intro k _ h1 h2; simp at h2; omega
              | cons q t ih =>
                intro k hq h1 h2
                rw [recsText_cons]
                by_cases hk : k = 200
                · subst hk
                  rw [linesF_many recText_line (recRead_text (hq q (by simp)))]
                · rw [linesF_more recText_line (recRead_text (hq q (by simp))) hk]
                  exact ih (k + 1) (fun x hx => hq x (by simp [hx])) (by omega) (by simp at h2; omega)
            rw [key _ 0 hall (by omega) (by omega)] at this; cases this
          · exact h
        have ih := onDsk_all (q := q) hall hn hl2 fun x hx => h4 x (by simp [hx])
        rw [List.append_assoc] at ih
        exact ih
      · right
        refine onDsk_sync hp ?_
        unfold dskSync
        dsimp only
        rw [if_pos hx, List.nil_append, e1, if_neg (by rw [hm]; omega), hm]
/-- What the law's function makes of them. -/
def onGot (l : List Recd) : List Recd × Bool := match onDsk dsk0 l with
  | .error e => ([], decide (¬ e = 2))
  | .ok d => (if dskErr d = 0 then dskRecs d else [], decide (dskErr d = 0))
theorem onGot_all {l : List Recd} (h : ∀ r ∈ l, recErr r = 0) (hb : (onGot l).2 = true) : (onGot l).1 = l := by
  have h0 : dsk0 = ⟨recsText [], []⟩ := rfl
  unfold onGot at hb ⊢
  rw [h0] at hb ⊢
  rcases onDsk_all (q := l) (ps := []) (by simp) (by simp) (by simp [recsText]) h with ⟨e, h1, h2⟩ | e
  · rw [e]
    dsimp only
    rw [List.nil_append] at h1 h2 ⊢
    obtain ⟨g1, g2, g3⟩ := dsk_again h h1 h2
    rw [if_pos g1, g2]
  · rw [e] at hb
    simp at hb
section
variable {H : Heap} (hL : Lb H)
include hL
theorem cOnDisk {a : Option Addr} {l c : Nat} {xs : List Recd} (hx : Recs H a l xs) : Spec Tryz.prog 24 [.slice a l c] H fun v H' => ∃ a n c, v = .tuple #[.slice a n c, .bool (onGot xs).2] ∧ Recs H' a n (onGot xs).1 := by
  refine TryzvcJ Tryz.func24 (by kernel_rfl) (by kernel_rfl) _ rfl (fun base K => vz24 a l c base H K) fun base hb => fun b => ?_
  have hl := hx.len
  have hle := hx.le
  refine ⟨fun vs H' => ∃ (k : Nat) (a1 : Option Addr) (n1 c1 : Nat) (b1 : Bool) (a2 : Option Addr) (n2 c2 : Nat) (a3 : Option Addr) (n3 c3 : Nat) (y : Dsk), vs = [.slice a1 n1 c1, .bool b1, i64 k, .agg #[.slice a2 n2 c2, .slice a3 n3 c3]] ∧ k ≤ l ∧ DskAt H' y a2 n2 c2 a3 n3 c3 ∧ onDsk dsk0 xs = onDsk y (xs.drop k),
    upTo l 2, ⟨0, none, 0, 0, false, none, 0, 0, none, 0, 0, dsk0, rfl, by omega, DskAt.zero, rfl⟩, fun a1 n1 c1 b1 n4 a2 n2 c2 a3 n3 c3 H1 hN1 hI => ?_⟩
  obtain ⟨k, a1', n1', c1', b1', a2', n2', c2', a3', n3', c3', y, hvs, hk, hy, hP⟩ := hI
  obtain ⟨⟨rfl, rfl, rfl⟩, rfl, rfl, ⟨rfl, rfl, rfl⟩, rfl, rfl, rfl⟩ : (a1 = a1' ∧ n1 = n1' ∧ c1 = c1') ∧ b1 = b1' ∧ n4 = (k : Int) ∧ (a2 = a2' ∧ n2 = n2' ∧ c2 = c2') ∧ a3 = a3' ∧ n3 = n3' ∧ c3 = c3' := by simpa using hvs
  refine ⟨fun hlt => ?_, fun hge => ?_⟩
  · refine hx.recd hN1.ext (by omega) hlt fun r ra rn rc hr hrp => fun b3 => ?_
    rw [Int.toNat_natCast] at hr
    rw [drop_at hr] at hP
    refine (cPut (hL.ext hN1.ext) hy (r := r) (rc := rc) (hrp.ext' hN1.ext)).dsk fun a4 n4 c4 a5 n5 c5 H2 e2 hN2 hD2 => fun b4 => ?_
    cases hp : dskPut y r with
    | error e =>
      have he := dskPut_err hp
      rw [onDsk_put hp] at hP
      refine ⟨fun h => absurd h he, fun _ => ⟨fun _ => ?_, fun h => absurd he h⟩⟩
      unfold onGot
      rw [hP]
      exact ⟨none, 0, 0, rfl, Sl.nil⟩
    | ok x =>
      rw [hp] at hD2
      refine ⟨fun _ => ?_, fun h => absurd rfl h⟩
      refine (cSync (hL.ext (Ext.trans hN1.ext e2)) (hD2.ext newOf_ext)).dsk fun a6 n6 c6 a7 n7 c7 H3 e3 hN3 hD3 => ?_
      rw [show dskGet (.ok x) = x from rfl] at hD3 ⊢
      cases hs : dskSync x with
      | error e =>
        have he := dskSync_err hs
        rw [onDsk_sync hp hs] at hP
        refine ⟨fun _ => ?_, fun h => absurd he h⟩
        unfold onGot
        rw [hP]
        exact ⟨none, 0, 0, rfl, Sl.nil⟩
      | ok z =>
        rw [hs] at hD3
        rw [onDsk_ok hp hs] at hP
        refine ⟨fun h => absurd rfl h, fun _ => ?_⟩
        rintro q rfl
        rw [wrap_in (by omega) (by omega)]
        exact ⟨⟨k + 1, a1, n1, c1, b1, a6, n6, c6, a7, n7, c7, z, rfl, by omega, hD3.ext newOf_ext, hP⟩, by simp [upTo]; omega⟩
  · rw [List.drop_of_length_le (by omega)] at hP
    have hP : onDsk dsk0 xs = .ok y := hP
    refine (cRecover (hL.ext hN1.ext) hy).mono fun v H2 e2 hv => ?_
    obtain ⟨a9, n9, c9, b1, m1, d1, b2, m2, d2, G, rows, hv, hD, hS⟩ := hv
    refine ⟨_, _, _, _, _, _, _, _, _, _, hv, fun hN2 => fun b => ?_⟩
    unfold onGot
    rw [hP]
    exact ⟨_, _, _, rfl, hS.sl RRec.mono (by omega) hN2⟩
end
end Go.Vg
