/-
  No cell of these rows narrows 'for every input' (looked for: loops, veiled, ifaces, maps, wideKeys, modest, calm, conditions, laid).
  DERIVED. THE GIVEN ROWS OF THIS SEAT. 19 by the template 'for every input the law returns true; each argument reads behind the call as it read before'; 0 by the template 'total and deterministic' (their statements: YtonlnlkkokigiaaTotals.lean).
  GIVEN WITH THE SEED: the statements are not yours to turn. If you find one false, say at which input.
  Laid BY PROGRAM, IN A SANDBOX (cutbox-rows.mjs): the forced cells as the released guide's own fill.sh prints them over the translation b69185d42d37ad90… (all of the seat's roots in one cut). By AI agents, Wed Nov 11 2026. No macro, syntax, notation, axiom, sorry.
-/
import Derived.Test.YtonlnlkkokigiaaChecked
import GoSem.Claim
import GoSem.ClaimJoined
import GoSem.ClaimMapViews
import Derived.JoinedTies
import Derived.KernelRfl
namespace Go.Proofs.Ytonlnlkkokigiaa
/- THE CELL 'sum', in the pinned program and in every row, IS THE sha256 OF THE DUMP (.gsa) THAT YtonlnlkkokigiaaProg.lean LOADS. Nothing in Lean hashes anything: it is a label: what it is worth is what the hold of that sum in a sandbox is worth. -/
noncomputable def Try.pinned : Pinned := { name := "ytonlnlkkokigiaa", sum := "b69185d42d37ad900f5237fc5bbf0e0cbef910ff60a98a0015ef38fcfed9faf4", checked := Try.checked }
namespace Rows
def none {H : Type} : Left H := { results := [], args := [] }

/-- 'vanguardlaw.Names': WHATEVER THE INPUT: true; the input reads as it did. -/
def namesSpec : ChangeSpec := { name := "names", fn := fun _ => fun
  | [] => { results := [.lit (.bool true)], args := [] }
  | _ => none }
def namesRow : OpenClaim := { program := "ytonlnlkkokigiaa", sum := "b69185d42d37ad900f5237fc5bbf0e0cbef910ff60a98a0015ef38fcfed9faf4", func := "vanguard/vanguardlaw.Names", spec := "names", apart := false }
def NamesSaid : Prop := namesRow.holds Try.pinned (OpenSpec.ofChange namesSpec)

/-- ITS FALSE NEIGHBOUR: 'it returns false'. Refute it at one input. -/
def namesWrong : ChangeSpec := { name := "names", fn := fun _ => fun
  | [] => { results := [.lit (.bool false)], args := [] }
  | _ => none }
def NamesWrongFalsely : Prop := namesRow.holds Try.pinned (OpenSpec.ofChange namesWrong)

/-- 'vanguardlaw.WaveSays': WHATEVER THE INPUT: true; the input reads as it did. -/
def waveSaysSpec : ChangeSpec := { name := "waveSays", fn := fun _ => fun
  | [d1, d2, d3, d4] => { results := [.lit (.bool true)], args := [d1, d2, d3, d4] }
  | _ => none }
def waveSaysRow : OpenClaim := { program := "ytonlnlkkokigiaa", sum := "b69185d42d37ad900f5237fc5bbf0e0cbef910ff60a98a0015ef38fcfed9faf4", func := "vanguard/vanguardlaw.WaveSays", spec := "waveSays", unfollowed := true, recurses := true, apart := false }
def WaveSaysSaid : Prop := waveSaysRow.holds Try.pinned (OpenSpec.ofChange waveSaysSpec)

/-- ITS FALSE NEIGHBOUR: 'it returns false'. Refute it at one input. -/
def waveSaysWrong : ChangeSpec := { name := "waveSays", fn := fun _ => fun
  | [d1, d2, d3, d4] => { results := [.lit (.bool false)], args := [d1, d2, d3, d4] }
  | _ => none }
def WaveSaysWrongFalsely : Prop := waveSaysRow.holds Try.pinned (OpenSpec.ofChange waveSaysWrong)

/-- 'vanguardlaw.WaveOn': WHATEVER THE INPUT: true; the input reads as it did. -/
def waveOnSpec : ChangeSpec := { name := "waveOn", fn := fun _ => fun
  | [d1, d2, d3] => { results := [.lit (.bool true)], args := [d1, d2, d3] }
  | _ => none }
def waveOnRow : OpenClaim := { program := "ytonlnlkkokigiaa", sum := "b69185d42d37ad900f5237fc5bbf0e0cbef910ff60a98a0015ef38fcfed9faf4", func := "vanguard/vanguardlaw.WaveOn", spec := "waveOn", unfollowed := true, recurses := true, apart := false }
def WaveOnSaid : Prop := waveOnRow.holds Try.pinned (OpenSpec.ofChange waveOnSpec)

/-- ITS FALSE NEIGHBOUR: 'it returns false'. Refute it at one input. -/
def waveOnWrong : ChangeSpec := { name := "waveOn", fn := fun _ => fun
  | [d1, d2, d3] => { results := [.lit (.bool false)], args := [d1, d2, d3] }
  | _ => none }
def WaveOnWrongFalsely : Prop := waveOnRow.holds Try.pinned (OpenSpec.ofChange waveOnWrong)

/-- 'vanguardlaw.RuleSays': WHATEVER THE INPUT: true; the input reads as it did. -/
def ruleSaysSpec : ChangeSpec := { name := "ruleSays", fn := fun _ => fun
  | [d1, d2] => { results := [.lit (.bool true)], args := [d1, d2] }
  | _ => none }
def ruleSaysRow : OpenClaim := { program := "ytonlnlkkokigiaa", sum := "b69185d42d37ad900f5237fc5bbf0e0cbef910ff60a98a0015ef38fcfed9faf4", func := "vanguard/vanguardlaw.RuleSays", spec := "ruleSays", unfollowed := true, recurses := true, apart := false }
def RuleSaysSaid : Prop := ruleSaysRow.holds Try.pinned (OpenSpec.ofChange ruleSaysSpec)

/-- ITS FALSE NEIGHBOUR: 'it returns false'. Refute it at one input. -/
def ruleSaysWrong : ChangeSpec := { name := "ruleSays", fn := fun _ => fun
  | [d1, d2] => { results := [.lit (.bool false)], args := [d1, d2] }
  | _ => none }
def RuleSaysWrongFalsely : Prop := ruleSaysRow.holds Try.pinned (OpenSpec.ofChange ruleSaysWrong)

/-- 'vanguardlaw.RuleMends': WHATEVER THE INPUT: true; the input reads as it did. -/
def ruleMendsSpec : ChangeSpec := { name := "ruleMends", fn := fun _ => fun
  | [d1, d2, d3] => { results := [.lit (.bool true)], args := [d1, d2, d3] }
  | _ => none }
def ruleMendsRow : OpenClaim := { program := "ytonlnlkkokigiaa", sum := "b69185d42d37ad900f5237fc5bbf0e0cbef910ff60a98a0015ef38fcfed9faf4", func := "vanguard/vanguardlaw.RuleMends", spec := "ruleMends", unfollowed := true, recurses := true, apart := false }
def RuleMendsSaid : Prop := ruleMendsRow.holds Try.pinned (OpenSpec.ofChange ruleMendsSpec)

/-- ITS FALSE NEIGHBOUR: 'it returns false'. Refute it at one input. -/
def ruleMendsWrong : ChangeSpec := { name := "ruleMends", fn := fun _ => fun
  | [d1, d2, d3] => { results := [.lit (.bool false)], args := [d1, d2, d3] }
  | _ => none }
def RuleMendsWrongFalsely : Prop := ruleMendsRow.holds Try.pinned (OpenSpec.ofChange ruleMendsWrong)

/-- 'vanguardlaw.RuleFewer': WHATEVER THE INPUT: true; the input reads as it did. -/
def ruleFewerSpec : ChangeSpec := { name := "ruleFewer", fn := fun _ => fun
  | [d1, d2, d3] => { results := [.lit (.bool true)], args := [d1, d2, d3] }
  | _ => none }
def ruleFewerRow : OpenClaim := { program := "ytonlnlkkokigiaa", sum := "b69185d42d37ad900f5237fc5bbf0e0cbef910ff60a98a0015ef38fcfed9faf4", func := "vanguard/vanguardlaw.RuleFewer", spec := "ruleFewer", unfollowed := true, recurses := true, apart := false }
def RuleFewerSaid : Prop := ruleFewerRow.holds Try.pinned (OpenSpec.ofChange ruleFewerSpec)

/-- ITS FALSE NEIGHBOUR: 'it returns false'. Refute it at one input. -/
def ruleFewerWrong : ChangeSpec := { name := "ruleFewer", fn := fun _ => fun
  | [d1, d2, d3] => { results := [.lit (.bool false)], args := [d1, d2, d3] }
  | _ => none }
def RuleFewerWrongFalsely : Prop := ruleFewerRow.holds Try.pinned (OpenSpec.ofChange ruleFewerWrong)

/-- 'vanguardlaw.WayBack': WHATEVER THE INPUT: true; the input reads as it did. -/
def wayBackSpec : ChangeSpec := { name := "wayBack", fn := fun _ => fun
  | [d1, d2, d3] => { results := [.lit (.bool true)], args := [d1, d2, d3] }
  | _ => none }
def wayBackRow : OpenClaim := { program := "ytonlnlkkokigiaa", sum := "b69185d42d37ad900f5237fc5bbf0e0cbef910ff60a98a0015ef38fcfed9faf4", func := "vanguard/vanguardlaw.WayBack", spec := "wayBack", unfollowed := true, recurses := true, apart := false }
def WayBackSaid : Prop := wayBackRow.holds Try.pinned (OpenSpec.ofChange wayBackSpec)

/-- ITS FALSE NEIGHBOUR: 'it returns false'. Refute it at one input. -/
def wayBackWrong : ChangeSpec := { name := "wayBack", fn := fun _ => fun
  | [d1, d2, d3] => { results := [.lit (.bool false)], args := [d1, d2, d3] }
  | _ => none }
def WayBackWrongFalsely : Prop := wayBackRow.holds Try.pinned (OpenSpec.ofChange wayBackWrong)

/-- 'vanguardlaw.WaySays': WHATEVER THE INPUT: true; the input reads as it did. -/
def waySaysSpec : ChangeSpec := { name := "waySays", fn := fun _ => fun
  | [d1, d2, d3, d4, d5] => { results := [.lit (.bool true)], args := [d1, d2, d3, d4, d5] }
  | _ => none }
def waySaysRow : OpenClaim := { program := "ytonlnlkkokigiaa", sum := "b69185d42d37ad900f5237fc5bbf0e0cbef910ff60a98a0015ef38fcfed9faf4", func := "vanguard/vanguardlaw.WaySays", spec := "waySays", unfollowed := true, recurses := true, apart := false }
def WaySaysSaid : Prop := waySaysRow.holds Try.pinned (OpenSpec.ofChange waySaysSpec)

/-- ITS FALSE NEIGHBOUR: 'it returns false'. Refute it at one input. -/
def waySaysWrong : ChangeSpec := { name := "waySays", fn := fun _ => fun
  | [d1, d2, d3, d4, d5] => { results := [.lit (.bool false)], args := [d1, d2, d3, d4, d5] }
  | _ => none }
def WaySaysWrongFalsely : Prop := waySaysRow.holds Try.pinned (OpenSpec.ofChange waySaysWrong)

/-- 'vanguardlaw.DiffSays': WHATEVER THE INPUT: true; the input reads as it did. -/
def diffSaysSpec : ChangeSpec := { name := "diffSays", fn := fun _ => fun
  | [d1, d2, d3, d4] => { results := [.lit (.bool true)], args := [d1, d2, d3, d4] }
  | _ => none }
def diffSaysRow : OpenClaim := { program := "ytonlnlkkokigiaa", sum := "b69185d42d37ad900f5237fc5bbf0e0cbef910ff60a98a0015ef38fcfed9faf4", func := "vanguard/vanguardlaw.DiffSays", spec := "diffSays", inPlace := ["slices.overlaps[vanguard/api.Pin]"], unfollowed := true, recurses := true, apart := false }
def DiffSaysSaid : Prop := diffSaysRow.holds Try.pinned (OpenSpec.ofChange diffSaysSpec)

/-- ITS FALSE NEIGHBOUR: 'it returns false'. Refute it at one input. -/
def diffSaysWrong : ChangeSpec := { name := "diffSays", fn := fun _ => fun
  | [d1, d2, d3, d4] => { results := [.lit (.bool false)], args := [d1, d2, d3, d4] }
  | _ => none }
def DiffSaysWrongFalsely : Prop := diffSaysRow.holds Try.pinned (OpenSpec.ofChange diffSaysWrong)

/-- 'vanguardlaw.DiffComes': WHATEVER THE INPUT: true; the input reads as it did. -/
def diffComesSpec : ChangeSpec := { name := "diffComes", fn := fun _ => fun
  | [d1, d2] => { results := [.lit (.bool true)], args := [d1, d2] }
  | _ => none }
def diffComesRow : OpenClaim := { program := "ytonlnlkkokigiaa", sum := "b69185d42d37ad900f5237fc5bbf0e0cbef910ff60a98a0015ef38fcfed9faf4", func := "vanguard/vanguardlaw.DiffComes", spec := "diffComes", inPlace := ["slices.overlaps[vanguard/api.Pin]"], unfollowed := true, recurses := true, apart := false }
def DiffComesSaid : Prop := diffComesRow.holds Try.pinned (OpenSpec.ofChange diffComesSpec)

/-- ITS FALSE NEIGHBOUR: 'it returns false'. Refute it at one input. -/
def diffComesWrong : ChangeSpec := { name := "diffComes", fn := fun _ => fun
  | [d1, d2] => { results := [.lit (.bool false)], args := [d1, d2] }
  | _ => none }
def DiffComesWrongFalsely : Prop := diffComesRow.holds Try.pinned (OpenSpec.ofChange diffComesWrong)

/-- 'vanguardlaw.DiffUndone': WHATEVER THE INPUT: true; the input reads as it did. -/
def diffUndoneSpec : ChangeSpec := { name := "diffUndone", fn := fun _ => fun
  | [d1, d2, d3] => { results := [.lit (.bool true)], args := [d1, d2, d3] }
  | _ => none }
def diffUndoneRow : OpenClaim := { program := "ytonlnlkkokigiaa", sum := "b69185d42d37ad900f5237fc5bbf0e0cbef910ff60a98a0015ef38fcfed9faf4", func := "vanguard/vanguardlaw.DiffUndone", spec := "diffUndone", inPlace := ["slices.overlaps[vanguard/api.Pin]"], unfollowed := true, recurses := true, apart := false }
def DiffUndoneSaid : Prop := diffUndoneRow.holds Try.pinned (OpenSpec.ofChange diffUndoneSpec)

/-- ITS FALSE NEIGHBOUR: 'it returns false'. Refute it at one input. -/
def diffUndoneWrong : ChangeSpec := { name := "diffUndone", fn := fun _ => fun
  | [d1, d2, d3] => { results := [.lit (.bool false)], args := [d1, d2, d3] }
  | _ => none }
def DiffUndoneWrongFalsely : Prop := diffUndoneRow.holds Try.pinned (OpenSpec.ofChange diffUndoneWrong)

/-- 'vanguardlaw.AgentReplays': WHATEVER THE INPUT: true; the input reads as it did. -/
def agentReplaysSpec : ChangeSpec := { name := "agentReplays", fn := fun _ => fun
  | [d1, d2] => { results := [.lit (.bool true)], args := [d1, d2] }
  | _ => none }
def agentReplaysRow : OpenClaim := { program := "ytonlnlkkokigiaa", sum := "b69185d42d37ad900f5237fc5bbf0e0cbef910ff60a98a0015ef38fcfed9faf4", func := "vanguard/vanguardlaw.AgentReplays", spec := "agentReplays", inPlace := ["internal/bytealg.IndexByteString", "internal/bytealg.IndexString", "slices.overlaps[vanguard/api.Pin]"], unfollowed := true, recurses := true, named := ["internal/bytealg.MaxLen"], apart := false }
def AgentReplaysSaid : Prop := agentReplaysRow.holds Try.pinned (OpenSpec.ofChange agentReplaysSpec)

/-- ITS FALSE NEIGHBOUR: 'it returns false'. Refute it at one input. -/
def agentReplaysWrong : ChangeSpec := { name := "agentReplays", fn := fun _ => fun
  | [d1, d2] => { results := [.lit (.bool false)], args := [d1, d2] }
  | _ => none }
def AgentReplaysWrongFalsely : Prop := agentReplaysRow.holds Try.pinned (OpenSpec.ofChange agentReplaysWrong)

/-- 'vanguardlaw.AgentComes': WHATEVER THE INPUT: true; the input reads as it did. -/
def agentComesSpec : ChangeSpec := { name := "agentComes", fn := fun _ => fun
  | [d1, d2, d3, d4] => { results := [.lit (.bool true)], args := [d1, d2, d3, d4] }
  | _ => none }
def agentComesRow : OpenClaim := { program := "ytonlnlkkokigiaa", sum := "b69185d42d37ad900f5237fc5bbf0e0cbef910ff60a98a0015ef38fcfed9faf4", func := "vanguard/vanguardlaw.AgentComes", spec := "agentComes", inPlace := ["internal/bytealg.IndexByteString", "internal/bytealg.IndexString", "slices.overlaps[vanguard/api.Pin]"], unfollowed := true, recurses := true, named := ["internal/bytealg.MaxLen"], apart := false }
def AgentComesSaid : Prop := agentComesRow.holds Try.pinned (OpenSpec.ofChange agentComesSpec)

/-- ITS FALSE NEIGHBOUR: 'it returns false'. Refute it at one input. -/
def agentComesWrong : ChangeSpec := { name := "agentComes", fn := fun _ => fun
  | [d1, d2, d3, d4] => { results := [.lit (.bool false)], args := [d1, d2, d3, d4] }
  | _ => none }
def AgentComesWrongFalsely : Prop := agentComesRow.holds Try.pinned (OpenSpec.ofChange agentComesWrong)

/-- 'vanguardlaw.AgentSays': WHATEVER THE INPUT: true; the input reads as it did. -/
def agentSaysSpec : ChangeSpec := { name := "agentSays", fn := fun _ => fun
  | [d1, d2, d3] => { results := [.lit (.bool true)], args := [d1, d2, d3] }
  | _ => none }
def agentSaysRow : OpenClaim := { program := "ytonlnlkkokigiaa", sum := "b69185d42d37ad900f5237fc5bbf0e0cbef910ff60a98a0015ef38fcfed9faf4", func := "vanguard/vanguardlaw.AgentSays", spec := "agentSays", inPlace := ["internal/bytealg.IndexByteString", "internal/bytealg.IndexString", "slices.overlaps[vanguard/api.Pin]"], unfollowed := true, recurses := true, named := ["internal/bytealg.MaxLen"], apart := false }
def AgentSaysSaid : Prop := agentSaysRow.holds Try.pinned (OpenSpec.ofChange agentSaysSpec)

/-- ITS FALSE NEIGHBOUR: 'it returns false'. Refute it at one input. -/
def agentSaysWrong : ChangeSpec := { name := "agentSays", fn := fun _ => fun
  | [d1, d2, d3] => { results := [.lit (.bool false)], args := [d1, d2, d3] }
  | _ => none }
def AgentSaysWrongFalsely : Prop := agentSaysRow.holds Try.pinned (OpenSpec.ofChange agentSaysWrong)

/-- 'vanguardlaw.LeadOver': WHATEVER THE INPUT: true; the input reads as it did. -/
def leadOverSpec : ChangeSpec := { name := "leadOver", fn := fun _ => fun
  | [d1, d2] => { results := [.lit (.bool true)], args := [d1, d2] }
  | _ => none }
def leadOverRow : OpenClaim := { program := "ytonlnlkkokigiaa", sum := "b69185d42d37ad900f5237fc5bbf0e0cbef910ff60a98a0015ef38fcfed9faf4", func := "vanguard/vanguardlaw.LeadOver", spec := "leadOver", inPlace := ["internal/bytealg.IndexByteString", "internal/bytealg.IndexString"], unfollowed := true, recurses := true, named := ["internal/bytealg.MaxLen"], apart := false }
def LeadOverSaid : Prop := leadOverRow.holds Try.pinned (OpenSpec.ofChange leadOverSpec)

/-- ITS FALSE NEIGHBOUR: 'it returns false'. Refute it at one input. -/
def leadOverWrong : ChangeSpec := { name := "leadOver", fn := fun _ => fun
  | [d1, d2] => { results := [.lit (.bool false)], args := [d1, d2] }
  | _ => none }
def LeadOverWrongFalsely : Prop := leadOverRow.holds Try.pinned (OpenSpec.ofChange leadOverWrong)

/-- 'vanguardlaw.LeadWaits': WHATEVER THE INPUT: true; the input reads as it did. -/
def leadWaitsSpec : ChangeSpec := { name := "leadWaits", fn := fun _ => fun
  | [d1, d2] => { results := [.lit (.bool true)], args := [d1, d2] }
  | _ => none }
def leadWaitsRow : OpenClaim := { program := "ytonlnlkkokigiaa", sum := "b69185d42d37ad900f5237fc5bbf0e0cbef910ff60a98a0015ef38fcfed9faf4", func := "vanguard/vanguardlaw.LeadWaits", spec := "leadWaits", inPlace := ["internal/bytealg.IndexByteString", "internal/bytealg.IndexString"], unfollowed := true, recurses := true, named := ["internal/bytealg.MaxLen"], apart := false }
def LeadWaitsSaid : Prop := leadWaitsRow.holds Try.pinned (OpenSpec.ofChange leadWaitsSpec)

/-- ITS FALSE NEIGHBOUR: 'it returns false'. Refute it at one input. -/
def leadWaitsWrong : ChangeSpec := { name := "leadWaits", fn := fun _ => fun
  | [d1, d2] => { results := [.lit (.bool false)], args := [d1, d2] }
  | _ => none }
def LeadWaitsWrongFalsely : Prop := leadWaitsRow.holds Try.pinned (OpenSpec.ofChange leadWaitsWrong)

/-- 'vanguardlaw.LeadNext': WHATEVER THE INPUT: true; the input reads as it did. -/
def leadNextSpec : ChangeSpec := { name := "leadNext", fn := fun _ => fun
  | [d1, d2, d3] => { results := [.lit (.bool true)], args := [d1, d2, d3] }
  | _ => none }
def leadNextRow : OpenClaim := { program := "ytonlnlkkokigiaa", sum := "b69185d42d37ad900f5237fc5bbf0e0cbef910ff60a98a0015ef38fcfed9faf4", func := "vanguard/vanguardlaw.LeadNext", spec := "leadNext", inPlace := ["internal/bytealg.IndexByteString", "internal/bytealg.IndexString"], unfollowed := true, recurses := true, named := ["internal/bytealg.MaxLen"], apart := false }
def LeadNextSaid : Prop := leadNextRow.holds Try.pinned (OpenSpec.ofChange leadNextSpec)

/-- ITS FALSE NEIGHBOUR: 'it returns false'. Refute it at one input. -/
def leadNextWrong : ChangeSpec := { name := "leadNext", fn := fun _ => fun
  | [d1, d2, d3] => { results := [.lit (.bool false)], args := [d1, d2, d3] }
  | _ => none }
def LeadNextWrongFalsely : Prop := leadNextRow.holds Try.pinned (OpenSpec.ofChange leadNextWrong)

/-- 'vanguardlaw.LeadReplays': WHATEVER THE INPUT: true; the input reads as it did. -/
def leadReplaysSpec : ChangeSpec := { name := "leadReplays", fn := fun _ => fun
  | [d1, d2] => { results := [.lit (.bool true)], args := [d1, d2] }
  | _ => none }
def leadReplaysRow : OpenClaim := { program := "ytonlnlkkokigiaa", sum := "b69185d42d37ad900f5237fc5bbf0e0cbef910ff60a98a0015ef38fcfed9faf4", func := "vanguard/vanguardlaw.LeadReplays", spec := "leadReplays", inPlace := ["internal/bytealg.IndexByteString", "internal/bytealg.IndexString"], unfollowed := true, recurses := true, named := ["internal/bytealg.MaxLen"], apart := false }
def LeadReplaysSaid : Prop := leadReplaysRow.holds Try.pinned (OpenSpec.ofChange leadReplaysSpec)

/-- ITS FALSE NEIGHBOUR: 'it returns false'. Refute it at one input. -/
def leadReplaysWrong : ChangeSpec := { name := "leadReplays", fn := fun _ => fun
  | [d1, d2] => { results := [.lit (.bool false)], args := [d1, d2] }
  | _ => none }
def LeadReplaysWrongFalsely : Prop := leadReplaysRow.holds Try.pinned (OpenSpec.ofChange leadReplaysWrong)

/-- 'vanguardlaw.LeadSays': WHATEVER THE INPUT: true; the input reads as it did. -/
def leadSaysSpec : ChangeSpec := { name := "leadSays", fn := fun _ => fun
  | [d1, d2, d3, d4] => { results := [.lit (.bool true)], args := [d1, d2, d3, d4] }
  | _ => none }
def leadSaysRow : OpenClaim := { program := "ytonlnlkkokigiaa", sum := "b69185d42d37ad900f5237fc5bbf0e0cbef910ff60a98a0015ef38fcfed9faf4", func := "vanguard/vanguardlaw.LeadSays", spec := "leadSays", inPlace := ["internal/bytealg.IndexByteString", "internal/bytealg.IndexString"], unfollowed := true, recurses := true, named := ["internal/bytealg.MaxLen"], apart := false }
def LeadSaysSaid : Prop := leadSaysRow.holds Try.pinned (OpenSpec.ofChange leadSaysSpec)

/-- ITS FALSE NEIGHBOUR: 'it returns false'. Refute it at one input. -/
def leadSaysWrong : ChangeSpec := { name := "leadSays", fn := fun _ => fun
  | [d1, d2, d3, d4] => { results := [.lit (.bool false)], args := [d1, d2, d3, d4] }
  | _ => none }
def LeadSaysWrongFalsely : Prop := leadSaysRow.holds Try.pinned (OpenSpec.ofChange leadSaysWrong)

/- THE SECOND FORM. 'bulk': how many values and letters a reading holds, each counted each time it is reached (what is shared counts as often as it is met; a slice's spare places count too). A statement '..UptoSaid' is the law's where the arguments, and the package variables that the reading takes, are together of bulk at most 1048576: NARROWER than '..Said'. Prove '..Said' where nothing that the law and all that it calls make is longer than what came in: it says more and counts as full. Else prove '..UptoSaid'. A law counts once. -/
mutual
def uptoBulk {H : Type} : DataW H → Nat
  | .lit (.string bytes) => bytes.length + 1
  | .lit _ => 1
  | .nil => 1
  | .ptr d => uptoBulk d + 1
  | .slice elems spare => uptoBulkAll elems + uptoBulkAll spare + 1
  | .agg parts => uptoBulkAll parts + 1
  | .iface _ d => uptoBulk d + 1
  | .map entries => uptoBulkEntries entries + 1
  | .held _ => 1
def uptoBulkAll {H : Type} : List (DataW H) → Nat
  | [] => 0
  | d :: r => uptoBulk d + uptoBulkAll r
def uptoBulkEntries {H : Type} : List (Lit × DataW H) → Nat
  | [] => 0
  | x :: r => uptoBulkEntry x + uptoBulkEntries r
def uptoBulkEntry {H : Type} : Lit × DataW H → Nat
  | (.string bytes, d) => bytes.length + uptoBulk d + 1
  | (_, d) => uptoBulk d + 1
 end
def uptoSmall : (H : Type) → List (DataW H) → Bool := fun _ ds => decide (uptoBulkAll ds ≤ 1048576)
def OpenSpec.upto (s : _root_.Go.ChangeSpec) : _root_.Go.OpenSpec := { _root_.Go.OpenSpec.ofChange s with cond := some uptoSmall }

/-- 'vanguardlaw.Names', WHERE WHAT IT READS IS OF BULK AT MOST 1048576: true; the input reads as it did. -/
def namesUptoRow : OpenClaim := { program := "ytonlnlkkokigiaa", sum := "b69185d42d37ad900f5237fc5bbf0e0cbef910ff60a98a0015ef38fcfed9faf4", func := "vanguard/vanguardlaw.Names", spec := "names", apart := false, narrowed := true }
def NamesUptoSaid : Prop := namesUptoRow.holds Try.pinned (OpenSpec.upto namesSpec)

/-- 'vanguardlaw.WaveSays', WHERE WHAT IT READS IS OF BULK AT MOST 1048576: true; the input reads as it did. -/
def waveSaysUptoRow : OpenClaim := { program := "ytonlnlkkokigiaa", sum := "b69185d42d37ad900f5237fc5bbf0e0cbef910ff60a98a0015ef38fcfed9faf4", func := "vanguard/vanguardlaw.WaveSays", spec := "waveSays", unfollowed := true, recurses := true, apart := false, narrowed := true }
def WaveSaysUptoSaid : Prop := waveSaysUptoRow.holds Try.pinned (OpenSpec.upto waveSaysSpec)

/-- 'vanguardlaw.WaveOn', WHERE WHAT IT READS IS OF BULK AT MOST 1048576: true; the input reads as it did. -/
def waveOnUptoRow : OpenClaim := { program := "ytonlnlkkokigiaa", sum := "b69185d42d37ad900f5237fc5bbf0e0cbef910ff60a98a0015ef38fcfed9faf4", func := "vanguard/vanguardlaw.WaveOn", spec := "waveOn", unfollowed := true, recurses := true, apart := false, narrowed := true }
def WaveOnUptoSaid : Prop := waveOnUptoRow.holds Try.pinned (OpenSpec.upto waveOnSpec)

/-- 'vanguardlaw.RuleSays', WHERE WHAT IT READS IS OF BULK AT MOST 1048576: true; the input reads as it did. -/
def ruleSaysUptoRow : OpenClaim := { program := "ytonlnlkkokigiaa", sum := "b69185d42d37ad900f5237fc5bbf0e0cbef910ff60a98a0015ef38fcfed9faf4", func := "vanguard/vanguardlaw.RuleSays", spec := "ruleSays", unfollowed := true, recurses := true, apart := false, narrowed := true }
def RuleSaysUptoSaid : Prop := ruleSaysUptoRow.holds Try.pinned (OpenSpec.upto ruleSaysSpec)

/-- 'vanguardlaw.RuleMends', WHERE WHAT IT READS IS OF BULK AT MOST 1048576: true; the input reads as it did. -/
def ruleMendsUptoRow : OpenClaim := { program := "ytonlnlkkokigiaa", sum := "b69185d42d37ad900f5237fc5bbf0e0cbef910ff60a98a0015ef38fcfed9faf4", func := "vanguard/vanguardlaw.RuleMends", spec := "ruleMends", unfollowed := true, recurses := true, apart := false, narrowed := true }
def RuleMendsUptoSaid : Prop := ruleMendsUptoRow.holds Try.pinned (OpenSpec.upto ruleMendsSpec)

/-- 'vanguardlaw.RuleFewer', WHERE WHAT IT READS IS OF BULK AT MOST 1048576: true; the input reads as it did. -/
def ruleFewerUptoRow : OpenClaim := { program := "ytonlnlkkokigiaa", sum := "b69185d42d37ad900f5237fc5bbf0e0cbef910ff60a98a0015ef38fcfed9faf4", func := "vanguard/vanguardlaw.RuleFewer", spec := "ruleFewer", unfollowed := true, recurses := true, apart := false, narrowed := true }
def RuleFewerUptoSaid : Prop := ruleFewerUptoRow.holds Try.pinned (OpenSpec.upto ruleFewerSpec)

/-- 'vanguardlaw.WayBack', WHERE WHAT IT READS IS OF BULK AT MOST 1048576: true; the input reads as it did. -/
def wayBackUptoRow : OpenClaim := { program := "ytonlnlkkokigiaa", sum := "b69185d42d37ad900f5237fc5bbf0e0cbef910ff60a98a0015ef38fcfed9faf4", func := "vanguard/vanguardlaw.WayBack", spec := "wayBack", unfollowed := true, recurses := true, apart := false, narrowed := true }
def WayBackUptoSaid : Prop := wayBackUptoRow.holds Try.pinned (OpenSpec.upto wayBackSpec)

/-- 'vanguardlaw.WaySays', WHERE WHAT IT READS IS OF BULK AT MOST 1048576: true; the input reads as it did. -/
def waySaysUptoRow : OpenClaim := { program := "ytonlnlkkokigiaa", sum := "b69185d42d37ad900f5237fc5bbf0e0cbef910ff60a98a0015ef38fcfed9faf4", func := "vanguard/vanguardlaw.WaySays", spec := "waySays", unfollowed := true, recurses := true, apart := false, narrowed := true }
def WaySaysUptoSaid : Prop := waySaysUptoRow.holds Try.pinned (OpenSpec.upto waySaysSpec)

/-- 'vanguardlaw.DiffSays', WHERE WHAT IT READS IS OF BULK AT MOST 1048576: true; the input reads as it did. -/
def diffSaysUptoRow : OpenClaim := { program := "ytonlnlkkokigiaa", sum := "b69185d42d37ad900f5237fc5bbf0e0cbef910ff60a98a0015ef38fcfed9faf4", func := "vanguard/vanguardlaw.DiffSays", spec := "diffSays", inPlace := ["slices.overlaps[vanguard/api.Pin]"], unfollowed := true, recurses := true, apart := false, narrowed := true }
def DiffSaysUptoSaid : Prop := diffSaysUptoRow.holds Try.pinned (OpenSpec.upto diffSaysSpec)

/-- 'vanguardlaw.DiffComes', WHERE WHAT IT READS IS OF BULK AT MOST 1048576: true; the input reads as it did. -/
def diffComesUptoRow : OpenClaim := { program := "ytonlnlkkokigiaa", sum := "b69185d42d37ad900f5237fc5bbf0e0cbef910ff60a98a0015ef38fcfed9faf4", func := "vanguard/vanguardlaw.DiffComes", spec := "diffComes", inPlace := ["slices.overlaps[vanguard/api.Pin]"], unfollowed := true, recurses := true, apart := false, narrowed := true }
def DiffComesUptoSaid : Prop := diffComesUptoRow.holds Try.pinned (OpenSpec.upto diffComesSpec)

/-- 'vanguardlaw.DiffUndone', WHERE WHAT IT READS IS OF BULK AT MOST 1048576: true; the input reads as it did. -/
def diffUndoneUptoRow : OpenClaim := { program := "ytonlnlkkokigiaa", sum := "b69185d42d37ad900f5237fc5bbf0e0cbef910ff60a98a0015ef38fcfed9faf4", func := "vanguard/vanguardlaw.DiffUndone", spec := "diffUndone", inPlace := ["slices.overlaps[vanguard/api.Pin]"], unfollowed := true, recurses := true, apart := false, narrowed := true }
def DiffUndoneUptoSaid : Prop := diffUndoneUptoRow.holds Try.pinned (OpenSpec.upto diffUndoneSpec)

/-- 'vanguardlaw.AgentReplays', WHERE WHAT IT READS IS OF BULK AT MOST 1048576: true; the input reads as it did. -/
def agentReplaysUptoRow : OpenClaim := { program := "ytonlnlkkokigiaa", sum := "b69185d42d37ad900f5237fc5bbf0e0cbef910ff60a98a0015ef38fcfed9faf4", func := "vanguard/vanguardlaw.AgentReplays", spec := "agentReplays", inPlace := ["internal/bytealg.IndexByteString", "internal/bytealg.IndexString", "slices.overlaps[vanguard/api.Pin]"], unfollowed := true, recurses := true, named := ["internal/bytealg.MaxLen"], apart := false, narrowed := true }
def AgentReplaysUptoSaid : Prop := agentReplaysUptoRow.holds Try.pinned (OpenSpec.upto agentReplaysSpec)

/-- 'vanguardlaw.AgentComes', WHERE WHAT IT READS IS OF BULK AT MOST 1048576: true; the input reads as it did. -/
def agentComesUptoRow : OpenClaim := { program := "ytonlnlkkokigiaa", sum := "b69185d42d37ad900f5237fc5bbf0e0cbef910ff60a98a0015ef38fcfed9faf4", func := "vanguard/vanguardlaw.AgentComes", spec := "agentComes", inPlace := ["internal/bytealg.IndexByteString", "internal/bytealg.IndexString", "slices.overlaps[vanguard/api.Pin]"], unfollowed := true, recurses := true, named := ["internal/bytealg.MaxLen"], apart := false, narrowed := true }
def AgentComesUptoSaid : Prop := agentComesUptoRow.holds Try.pinned (OpenSpec.upto agentComesSpec)

/-- 'vanguardlaw.AgentSays', WHERE WHAT IT READS IS OF BULK AT MOST 1048576: true; the input reads as it did. -/
def agentSaysUptoRow : OpenClaim := { program := "ytonlnlkkokigiaa", sum := "b69185d42d37ad900f5237fc5bbf0e0cbef910ff60a98a0015ef38fcfed9faf4", func := "vanguard/vanguardlaw.AgentSays", spec := "agentSays", inPlace := ["internal/bytealg.IndexByteString", "internal/bytealg.IndexString", "slices.overlaps[vanguard/api.Pin]"], unfollowed := true, recurses := true, named := ["internal/bytealg.MaxLen"], apart := false, narrowed := true }
def AgentSaysUptoSaid : Prop := agentSaysUptoRow.holds Try.pinned (OpenSpec.upto agentSaysSpec)

/-- 'vanguardlaw.LeadOver', WHERE WHAT IT READS IS OF BULK AT MOST 1048576: true; the input reads as it did. -/
def leadOverUptoRow : OpenClaim := { program := "ytonlnlkkokigiaa", sum := "b69185d42d37ad900f5237fc5bbf0e0cbef910ff60a98a0015ef38fcfed9faf4", func := "vanguard/vanguardlaw.LeadOver", spec := "leadOver", inPlace := ["internal/bytealg.IndexByteString", "internal/bytealg.IndexString"], unfollowed := true, recurses := true, named := ["internal/bytealg.MaxLen"], apart := false, narrowed := true }
def LeadOverUptoSaid : Prop := leadOverUptoRow.holds Try.pinned (OpenSpec.upto leadOverSpec)

/-- 'vanguardlaw.LeadWaits', WHERE WHAT IT READS IS OF BULK AT MOST 1048576: true; the input reads as it did. -/
def leadWaitsUptoRow : OpenClaim := { program := "ytonlnlkkokigiaa", sum := "b69185d42d37ad900f5237fc5bbf0e0cbef910ff60a98a0015ef38fcfed9faf4", func := "vanguard/vanguardlaw.LeadWaits", spec := "leadWaits", inPlace := ["internal/bytealg.IndexByteString", "internal/bytealg.IndexString"], unfollowed := true, recurses := true, named := ["internal/bytealg.MaxLen"], apart := false, narrowed := true }
def LeadWaitsUptoSaid : Prop := leadWaitsUptoRow.holds Try.pinned (OpenSpec.upto leadWaitsSpec)

/-- 'vanguardlaw.LeadNext', WHERE WHAT IT READS IS OF BULK AT MOST 1048576: true; the input reads as it did. -/
def leadNextUptoRow : OpenClaim := { program := "ytonlnlkkokigiaa", sum := "b69185d42d37ad900f5237fc5bbf0e0cbef910ff60a98a0015ef38fcfed9faf4", func := "vanguard/vanguardlaw.LeadNext", spec := "leadNext", inPlace := ["internal/bytealg.IndexByteString", "internal/bytealg.IndexString"], unfollowed := true, recurses := true, named := ["internal/bytealg.MaxLen"], apart := false, narrowed := true }
def LeadNextUptoSaid : Prop := leadNextUptoRow.holds Try.pinned (OpenSpec.upto leadNextSpec)

/-- 'vanguardlaw.LeadReplays', WHERE WHAT IT READS IS OF BULK AT MOST 1048576: true; the input reads as it did. -/
def leadReplaysUptoRow : OpenClaim := { program := "ytonlnlkkokigiaa", sum := "b69185d42d37ad900f5237fc5bbf0e0cbef910ff60a98a0015ef38fcfed9faf4", func := "vanguard/vanguardlaw.LeadReplays", spec := "leadReplays", inPlace := ["internal/bytealg.IndexByteString", "internal/bytealg.IndexString"], unfollowed := true, recurses := true, named := ["internal/bytealg.MaxLen"], apart := false, narrowed := true }
def LeadReplaysUptoSaid : Prop := leadReplaysUptoRow.holds Try.pinned (OpenSpec.upto leadReplaysSpec)

/-- 'vanguardlaw.LeadSays', WHERE WHAT IT READS IS OF BULK AT MOST 1048576: true; the input reads as it did. -/
def leadSaysUptoRow : OpenClaim := { program := "ytonlnlkkokigiaa", sum := "b69185d42d37ad900f5237fc5bbf0e0cbef910ff60a98a0015ef38fcfed9faf4", func := "vanguard/vanguardlaw.LeadSays", spec := "leadSays", inPlace := ["internal/bytealg.IndexByteString", "internal/bytealg.IndexString"], unfollowed := true, recurses := true, named := ["internal/bytealg.MaxLen"], apart := false, narrowed := true }
def LeadSaysUptoSaid : Prop := leadSaysUptoRow.holds Try.pinned (OpenSpec.upto leadSaysSpec)

end Rows
end Go.Proofs.Ytonlnlkkokigiaa
