/-
  DERIVED. GIVEN WITH THE SEED: THE CARDS: each row of YtglnjkkaojhgnaaGreatDoorRows.lean that lists a variable, with what it lists TIED to the program's text (the seventh form; the later family's looks); each row that meets fmt, with fmt's text TOLD by the authors' own Lean function (tested against real Go, not proved from fmt's source: count such statements apart). THE CARD IS WHAT COUNTS. Prove the row's statement (the work); the ties are given (YtglnjkkaojhgnaaGreatDoorTie.lean); close each card by the builder's one call (the guide's Derived/Test/ToyasCard.lean, 'card_holds'). Laid BY PROGRAM, IN A SANDBOX (cutbox-door.mjs). By AI agents, Wed Nov 11 2026. No macro, syntax, notation, axiom, sorry.
-/
import Derived.Test.YtglnjkkaojhgnaaGreatDoorRows
import GoSem.ClaimSeven
namespace Go.Proofs.YtglnjkkaojhgnaaGreatDoor
namespace Rows

/-- THE TIED CARD OF 'vanguardlaw.DiskSays'. -/
def diskSaysCard : Claim7 := { stood := { row := diskSaysRow, standIns := [], harness := (true, "d79068360c490f76e928665329e74dc37396ec3a9b19be5bb4b2e4d175bc0096"), looks := true }, kinds := [], alts := [], laidByText := true, laidKinds := [.data, .data, .data, .data, .sentinel, .sentinel, .pinned], laidTests := true, laidLooks := .later }
def DiskSaysCardSaid : Prop := Claim7.holds Tryz.pinned (.plain (OpenSpec.ofChange diskSaysSpec)) diskSaysCard

/-- THE TIED CARD OF 'vanguardlaw.AgentParts'. -/
def agentPartsCard : Claim7 := { stood := { row := agentPartsRow, standIns := [], harness := (true, "d79068360c490f76e928665329e74dc37396ec3a9b19be5bb4b2e4d175bc0096"), looks := true }, kinds := [], alts := [], laidByText := true, laidKinds := [.data, .data, .data, .data, .sentinel, .sentinel, .pinned], laidTests := true, laidLooks := .later }
def AgentPartsCardSaid : Prop := Claim7.holds Tryz.pinned (.plain (OpenSpec.ofChange agentPartsSpec)) agentPartsCard

/-- THE TIED CARD OF 'vanguardlaw.LeadParts'. -/
def leadPartsCard : Claim7 := { stood := { row := leadPartsRow, standIns := [], harness := (true, "d79068360c490f76e928665329e74dc37396ec3a9b19be5bb4b2e4d175bc0096"), looks := true }, kinds := [], alts := [], laidByText := true, laidKinds := [.data, .data, .data, .data, .sentinel, .sentinel, .pinned], laidTests := true, laidLooks := .later }
def LeadPartsCardSaid : Prop := Claim7.holds Tryz.pinned (.plain (OpenSpec.ofChange leadPartsSpec)) leadPartsCard

/-- THE SECOND FORM's CARD OF 'vanguardlaw.DiskSays'. -/
def diskSaysUptoCard : Claim7 := { stood := { row := diskSaysUptoRow, standIns := [], harness := (true, "d79068360c490f76e928665329e74dc37396ec3a9b19be5bb4b2e4d175bc0096"), looks := true }, kinds := [], alts := [], laidByText := true, laidKinds := [.data, .data, .data, .data, .sentinel, .sentinel, .pinned], laidTests := true, laidLooks := .later }
def DiskSaysUptoCardSaid : Prop := Claim7.holds Tryz.pinned (.plain (OpenSpec.upto diskSaysSpec)) diskSaysUptoCard

/-- THE SECOND FORM's CARD OF 'vanguardlaw.AgentParts'. -/
def agentPartsUptoCard : Claim7 := { stood := { row := agentPartsUptoRow, standIns := [], harness := (true, "d79068360c490f76e928665329e74dc37396ec3a9b19be5bb4b2e4d175bc0096"), looks := true }, kinds := [], alts := [], laidByText := true, laidKinds := [.data, .data, .data, .data, .sentinel, .sentinel, .pinned], laidTests := true, laidLooks := .later }
def AgentPartsUptoCardSaid : Prop := Claim7.holds Tryz.pinned (.plain (OpenSpec.upto agentPartsSpec)) agentPartsUptoCard

/-- THE SECOND FORM's CARD OF 'vanguardlaw.LeadParts'. -/
def leadPartsUptoCard : Claim7 := { stood := { row := leadPartsUptoRow, standIns := [], harness := (true, "d79068360c490f76e928665329e74dc37396ec3a9b19be5bb4b2e4d175bc0096"), looks := true }, kinds := [], alts := [], laidByText := true, laidKinds := [.data, .data, .data, .data, .sentinel, .sentinel, .pinned], laidTests := true, laidLooks := .later }
def LeadPartsUptoCardSaid : Prop := Claim7.holds Tryz.pinned (.plain (OpenSpec.upto leadPartsSpec)) leadPartsUptoCard
end Rows
end Go.Proofs.YtglnjkkaojhgnaaGreatDoor
