/- What is proved here: how a law's arguments that are configurations and leaders are read. -/
import Derived.Test.YtglnjkkaojhgnaaGreatDoorArg10
import Derived.Test.YtglnjkkaojhgnaaGreatDoorP7
set_option linter.unusedSimpArgs false
set_option linter.unusedVariables false
namespace Go.Vg
open Go Go.Proofs
open Go.ChangeShapes Go.WideShapes Go.ChangeAt Go.RowKit
section
variable {HH : Type} {enc : TypeId × Value → HH} {w : World} {base : Nat} {spare : Nat → Bool} {held : Bool}
theorem reads_kn : ReadsAs enc Tryz.prog w base spare held 110 (REnc knCells) := fun fuel cs x h => by
  have c3 : Tryz.prog.cellsOf 3 = 1 := by kernel_rfl
  have c4 : Tryz.prog.cellsOf 4 = 1 := by kernel_rfl
  have c111 : Tryz.prog.cellsOf 110 = 3 := by kernel_rfl
  have hl := structLen Tryz.underlying110 h
  rw [c111] at hl
  obtain ⟨st, h0, _⟩ := fieldInt Tryz.underlying110 h (i := 0) rfl Tryz.underlying3 c3 rfl
  obtain ⟨tr, h1, _⟩ := fieldInt Tryz.underlying110 h (i := 1) rfl Tryz.underlying3 c3 rfl
  obtain ⟨bk, h2⟩ := fieldBool Tryz.underlying110 h (i := 2) rfl Tryz.underlying4 c4 rfl
  refine ⟨⟨st, tr, bk⟩, ?_⟩
  match cs, hl with
  | [x0, x1, x2], _ =>
    simp at h0 h1 h2
    subst h0 h1 h2
    rfl
theorem reads_kns : ReadsAs enc Tryz.prog w base spare held 61 (RSl (REnc knCells) 3) := reads_slice Tryz.underlying61 (by kernel_rfl) (by omega) reads_kn (REnc.len knCells_len)
theorem reads_rl : ReadsAs enc Tryz.prog w base spare held 27 RRl := fun fuel cs x h => by
  have c3 : Tryz.prog.cellsOf 3 = 1 := by kernel_rfl
  have c40 : Tryz.prog.cellsOf 25 = 1 := by kernel_rfl
  have c59 : Tryz.prog.cellsOf 27 = 2 := by kernel_rfl
  have hl := structLen Tryz.underlying27 h
  rw [c59] at hl
  obtain ⟨i, hi, h1, h2⟩ := fieldInt Tryz.underlying27 h (i := 0) rfl Tryz.underlying3 c3 rfl
  obtain ⟨a, n, c, xs, ha, hp⟩ := fieldSl Tryz.underlying27 h (i := 1) rfl reads_pins c40 rfl
  exact ⟨⟨i, xs⟩, a, n, c, cells2 hl hi ha, hp, h1, h2⟩
theorem reads_rls : ReadsAs enc Tryz.prog w base spare held 60 (RSl RRl 2) := reads_slice Tryz.underlying60 (by kernel_rfl) (by omega) reads_rl RRl.len
def RConf : Rep Conf := fun H r x => ∃ fa fl fc ra rl rc wa wl wc, r = [i64 x.first.id, .slice fa fl fc, .slice ra rl rc, .slice wa wl wc, i64 x.bud] ∧ CfgAt H x fa fl ra rl wa wl
theorem reads_conf : ReadsAs enc Tryz.prog w base spare held 59 RConf := fun fuel cs x h => by
  have c3 : Tryz.prog.cellsOf 3 = 1 := by kernel_rfl
  have c41 : Tryz.prog.cellsOf 56 = 1 := by kernel_rfl
  have c27 : Tryz.prog.cellsOf 57 = 1 := by kernel_rfl
  have c59 : Tryz.prog.cellsOf 27 = 2 := by kernel_rfl
  have c101 : Tryz.prog.cellsOf 59 = 5 := by kernel_rfl
  have hl := structLen Tryz.underlying59 h
  rw [c101] at hl
  obtain ⟨r, fa, fl, fc, h0, hp⟩ := fieldStruct Tryz.underlying59 h (i := 0) rfl reads_rel c59 rfl
  obtain ⟨ra, rl, rc, rs, h1, hr⟩ := fieldSl Tryz.underlying59 h (i := 1) rfl reads_rules c41 rfl
  obtain ⟨wa, wl, wc, ws, h2, hw⟩ := fieldSl Tryz.underlying59 h (i := 2) rfl reads_waves c27 rfl
  obtain ⟨bd, h3, _⟩ := fieldInt Tryz.underlying59 h (i := 3) rfl Tryz.underlying3 c3 rfl
  refine ⟨⟨r, rs, ws, bd⟩, fa, fl, fc, ra, rl, rc, wa, wl, wc, ?_, hp, hr, hw⟩
  match cs, hl with
  | [x0, x1, x2, x3, x4], _ =>
    simp at h0 h1 h2 h3
    obtain ⟨rfl, rfl⟩ := h0
    subst h1 h2 h3
    rfl
def RLdr : Rep Ldr := fun H r x => ∃ la ll lc ka kl kc, r = [.slice la ll lc, i64 x.now, i64 x.goal, .bool x.back, .slice ka kl kc, i64 x.nx] ∧ LdrAt H x la ll ka kl
theorem reads_ldr : ReadsAs enc Tryz.prog w base spare held 63 RLdr := fun fuel cs x h => by
  have c3 : Tryz.prog.cellsOf 3 = 1 := by kernel_rfl
  have c4 : Tryz.prog.cellsOf 4 = 1 := by kernel_rfl
  have c102 : Tryz.prog.cellsOf 60 = 1 := by kernel_rfl
  have c103 : Tryz.prog.cellsOf 61 = 1 := by kernel_rfl
  have c105 : Tryz.prog.cellsOf 63 = 6 := by kernel_rfl
  have hl := structLen Tryz.underlying63 h
  rw [c105] at hl
  obtain ⟨la, ll, lc, rs, h0, hr⟩ := fieldSl Tryz.underlying63 h (i := 0) rfl reads_rls c102 rfl
  obtain ⟨nw, h1, _⟩ := fieldInt Tryz.underlying63 h (i := 1) rfl Tryz.underlying3 c3 rfl
  obtain ⟨gl, h2, _⟩ := fieldInt Tryz.underlying63 h (i := 2) rfl Tryz.underlying3 c3 rfl
  obtain ⟨bk, h3⟩ := fieldBool Tryz.underlying63 h (i := 3) rfl Tryz.underlying4 c4 rfl
  obtain ⟨ka, kl, kc, ks, h4, hk⟩ := fieldSl Tryz.underlying63 h (i := 4) rfl reads_kns c103 rfl
  obtain ⟨nx, h5, _⟩ := fieldInt Tryz.underlying63 h (i := 5) rfl Tryz.underlying3 c3 rfl
  refine ⟨⟨rs, nw, gl, bk, ks, nx⟩, la, ll, lc, ka, kl, kc, ?_, hr, hk⟩
  match cs, hl with
  | [x0, x1, x2, x3, x4, x5], _ =>
    simp at h0 h1 h2 h3 h4 h5
    subst h0 h1 h2 h3 h4 h5
    rfl
end
end Go.Vg
