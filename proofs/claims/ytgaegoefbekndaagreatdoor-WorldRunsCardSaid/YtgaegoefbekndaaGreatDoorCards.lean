/-
  DERIVED. GIVEN WITH THE SEED: THE CARDS: each row of YtgaegoefbekndaaGreatDoorRows.lean that lists a variable, with what it lists TIED to the program's text (the seventh form; the later family's looks); each row that meets fmt, with fmt's text TOLD by the authors' own Lean function (tested against real Go, not proved from fmt's source: count such statements apart). THE CARD IS WHAT COUNTS. Prove the row's statement (the work); the ties are given (YtgaegoefbekndaaGreatDoorTie.lean); close each card by the builder's one call (the guide's Derived/Test/ToyasCard.lean, 'card_holds'). Laid BY PROGRAM, IN A SANDBOX (cutbox-door.mjs). By AI agents, Wed Nov 11 2026. No macro, syntax, notation, axiom, sorry.
-/
import Derived.Test.YtgaegoefbekndaaGreatDoorRows
import GoSem.ClaimSeven
namespace Go.Proofs.YtgaegoefbekndaaGreatDoor
namespace Rows

/-- THE TIED CARD OF 'vanguardlaw.StorySays'. -/
def storySaysCard : Claim7 := { stood := { row := storySaysRow, standIns := [], harness := (true, "be5e83f9ab05b9e1bda620096c223104523c050b5c45c9db8c77255d20c882da"), looks := true }, kinds := [], alts := [], laidByText := true, laidKinds := [.data, .data, .data, .data, .sentinel, .sentinel, .pinned], laidTests := true, laidLooks := .later }
def StorySaysCardSaid : Prop := Claim7.holds Tryz.pinned (.plain (OpenSpec.ofChange storySaysSpec)) storySaysCard

/-- THE TIED CARD OF 'vanguardlaw.WorldDoes'. -/
def worldDoesCard : Claim7 := { stood := { row := worldDoesRow, standIns := [], harness := (true, "be5e83f9ab05b9e1bda620096c223104523c050b5c45c9db8c77255d20c882da"), looks := true }, kinds := [], alts := [], laidByText := true, laidKinds := [.data, .data, .data, .data, .sentinel, .sentinel, .pinned], laidTests := true, laidLooks := .later }
def WorldDoesCardSaid : Prop := Claim7.holds Tryz.pinned (.plain (OpenSpec.ofChange worldDoesSpec)) worldDoesCard

/-- THE TIED CARD OF 'vanguardlaw.WorldTwice'. -/
def worldTwiceCard : Claim7 := { stood := { row := worldTwiceRow, standIns := [], harness := (true, "be5e83f9ab05b9e1bda620096c223104523c050b5c45c9db8c77255d20c882da"), looks := true }, kinds := [], alts := [], laidByText := true, laidKinds := [.data, .data, .data, .data, .sentinel, .sentinel, .pinned], laidTests := true, laidLooks := .later }
def WorldTwiceCardSaid : Prop := Claim7.holds Tryz.pinned (.plain (OpenSpec.ofChange worldTwiceSpec)) worldTwiceCard

/-- THE TIED CARD OF 'vanguardlaw.WorldSilent'. -/
def worldSilentCard : Claim7 := { stood := { row := worldSilentRow, standIns := [], harness := (true, "be5e83f9ab05b9e1bda620096c223104523c050b5c45c9db8c77255d20c882da"), looks := true }, kinds := [], alts := [], laidByText := true, laidKinds := [.data, .data, .data, .data, .sentinel, .sentinel, .pinned], laidTests := true, laidLooks := .later }
def WorldSilentCardSaid : Prop := Claim7.holds Tryz.pinned (.plain (OpenSpec.ofChange worldSilentSpec)) worldSilentCard

/-- THE TIED CARD OF 'vanguardlaw.WorldParts'. -/
def worldPartsCard : Claim7 := { stood := { row := worldPartsRow, standIns := [], harness := (true, "be5e83f9ab05b9e1bda620096c223104523c050b5c45c9db8c77255d20c882da"), looks := true }, kinds := [], alts := [], laidByText := true, laidKinds := [.data, .data, .data, .data, .sentinel, .sentinel, .pinned], laidTests := true, laidLooks := .later }
def WorldPartsCardSaid : Prop := Claim7.holds Tryz.pinned (.plain (OpenSpec.ofChange worldPartsSpec)) worldPartsCard

/-- THE TIED CARD OF 'vanguardlaw.WorldKeeps'. -/
def worldKeepsCard : Claim7 := { stood := { row := worldKeepsRow, standIns := [], harness := (true, "be5e83f9ab05b9e1bda620096c223104523c050b5c45c9db8c77255d20c882da"), looks := true }, kinds := [], alts := [], laidByText := true, laidKinds := [.data, .data, .data, .data, .sentinel, .sentinel, .pinned], laidTests := true, laidLooks := .later }
def WorldKeepsCardSaid : Prop := Claim7.holds Tryz.pinned (.plain (OpenSpec.ofChange worldKeepsSpec)) worldKeepsCard

/-- THE TIED CARD OF 'vanguardlaw.WorldRuns'. -/
def worldRunsCard : Claim7 := { stood := { row := worldRunsRow, standIns := [], harness := (true, "be5e83f9ab05b9e1bda620096c223104523c050b5c45c9db8c77255d20c882da"), looks := true }, kinds := [], alts := [], laidByText := true, laidKinds := [.data, .data, .data, .data, .sentinel, .sentinel, .pinned], laidTests := true, laidLooks := .later }
def WorldRunsCardSaid : Prop := Claim7.holds Tryz.pinned (.plain (OpenSpec.ofChange worldRunsSpec)) worldRunsCard

/-- THE TIED CARD OF 'vanguardlaw.WorldStands'. -/
def worldStandsCard : Claim7 := { stood := { row := worldStandsRow, standIns := [], harness := (true, "be5e83f9ab05b9e1bda620096c223104523c050b5c45c9db8c77255d20c882da"), looks := true }, kinds := [], alts := [], laidByText := true, laidKinds := [.data, .data, .data, .data, .sentinel, .sentinel, .pinned], laidTests := true, laidLooks := .later }
def WorldStandsCardSaid : Prop := Claim7.holds Tryz.pinned (.plain (OpenSpec.ofChange worldStandsSpec)) worldStandsCard

/-- THE TIED CARD OF 'vanguardlaw.StoryRests'. -/
def storyRestsCard : Claim7 := { stood := { row := storyRestsRow, standIns := [], harness := (true, "be5e83f9ab05b9e1bda620096c223104523c050b5c45c9db8c77255d20c882da"), looks := true }, kinds := [], alts := [], laidByText := true, laidKinds := [.data, .data, .data, .data, .sentinel, .sentinel, .pinned], laidTests := true, laidLooks := .later }
def StoryRestsCardSaid : Prop := Claim7.holds Tryz.pinned (.plain (OpenSpec.ofChange storyRestsSpec)) storyRestsCard

/-- THE TIED CARD OF 'vanguardlaw.StoryWaves'. -/
def storyWavesCard : Claim7 := { stood := { row := storyWavesRow, standIns := [], harness := (true, "be5e83f9ab05b9e1bda620096c223104523c050b5c45c9db8c77255d20c882da"), looks := true }, kinds := [], alts := [], laidByText := true, laidKinds := [.data, .data, .data, .data, .sentinel, .sentinel, .pinned], laidTests := true, laidLooks := .later }
def StoryWavesCardSaid : Prop := Claim7.holds Tryz.pinned (.plain (OpenSpec.ofChange storyWavesSpec)) storyWavesCard

/-- THE TIED CARD OF 'vanguardlaw.StoryIll'. -/
def storyIllCard : Claim7 := { stood := { row := storyIllRow, standIns := [], harness := (true, "be5e83f9ab05b9e1bda620096c223104523c050b5c45c9db8c77255d20c882da"), looks := true }, kinds := [], alts := [], laidByText := true, laidKinds := [.data, .data, .data, .data, .sentinel, .sentinel, .pinned], laidTests := true, laidLooks := .later }
def StoryIllCardSaid : Prop := Claim7.holds Tryz.pinned (.plain (OpenSpec.ofChange storyIllSpec)) storyIllCard

/-- THE TIED CARD OF 'vanguardlaw.StoryPins'. -/
def storyPinsCard : Claim7 := { stood := { row := storyPinsRow, standIns := [], harness := (true, "be5e83f9ab05b9e1bda620096c223104523c050b5c45c9db8c77255d20c882da"), looks := true }, kinds := [], alts := [], laidByText := true, laidKinds := [.data, .data, .data, .data, .sentinel, .sentinel, .pinned], laidTests := true, laidLooks := .later }
def StoryPinsCardSaid : Prop := Claim7.holds Tryz.pinned (.plain (OpenSpec.ofChange storyPinsSpec)) storyPinsCard

/-- THE TIED CARD OF 'vanguardlaw.StoryTries'. -/
def storyTriesCard : Claim7 := { stood := { row := storyTriesRow, standIns := [], harness := (true, "be5e83f9ab05b9e1bda620096c223104523c050b5c45c9db8c77255d20c882da"), looks := true }, kinds := [], alts := [], laidByText := true, laidKinds := [.data, .data, .data, .data, .sentinel, .sentinel, .pinned], laidTests := true, laidLooks := .later }
def StoryTriesCardSaid : Prop := Claim7.holds Tryz.pinned (.plain (OpenSpec.ofChange storyTriesSpec)) storyTriesCard

/-- THE TIED CARD OF 'vanguardlaw.StoryEnds'. -/
def storyEndsCard : Claim7 := { stood := { row := storyEndsRow, standIns := [], harness := (true, "be5e83f9ab05b9e1bda620096c223104523c050b5c45c9db8c77255d20c882da"), looks := true }, kinds := [], alts := [], laidByText := true, laidKinds := [.data, .data, .data, .data, .sentinel, .sentinel, .pinned], laidTests := true, laidLooks := .later }
def StoryEndsCardSaid : Prop := Claim7.holds Tryz.pinned (.plain (OpenSpec.ofChange storyEndsSpec)) storyEndsCard

/-- THE SECOND FORM's CARD OF 'vanguardlaw.StorySays'. -/
def storySaysUptoCard : Claim7 := { stood := { row := storySaysUptoRow, standIns := [], harness := (true, "be5e83f9ab05b9e1bda620096c223104523c050b5c45c9db8c77255d20c882da"), looks := true }, kinds := [], alts := [], laidByText := true, laidKinds := [.data, .data, .data, .data, .sentinel, .sentinel, .pinned], laidTests := true, laidLooks := .later }
def StorySaysUptoCardSaid : Prop := Claim7.holds Tryz.pinned (.plain (OpenSpec.upto storySaysSpec)) storySaysUptoCard

/-- THE SECOND FORM's CARD OF 'vanguardlaw.WorldDoes'. -/
def worldDoesUptoCard : Claim7 := { stood := { row := worldDoesUptoRow, standIns := [], harness := (true, "be5e83f9ab05b9e1bda620096c223104523c050b5c45c9db8c77255d20c882da"), looks := true }, kinds := [], alts := [], laidByText := true, laidKinds := [.data, .data, .data, .data, .sentinel, .sentinel, .pinned], laidTests := true, laidLooks := .later }
def WorldDoesUptoCardSaid : Prop := Claim7.holds Tryz.pinned (.plain (OpenSpec.upto worldDoesSpec)) worldDoesUptoCard

/-- THE SECOND FORM's CARD OF 'vanguardlaw.WorldTwice'. -/
def worldTwiceUptoCard : Claim7 := { stood := { row := worldTwiceUptoRow, standIns := [], harness := (true, "be5e83f9ab05b9e1bda620096c223104523c050b5c45c9db8c77255d20c882da"), looks := true }, kinds := [], alts := [], laidByText := true, laidKinds := [.data, .data, .data, .data, .sentinel, .sentinel, .pinned], laidTests := true, laidLooks := .later }
def WorldTwiceUptoCardSaid : Prop := Claim7.holds Tryz.pinned (.plain (OpenSpec.upto worldTwiceSpec)) worldTwiceUptoCard

/-- THE SECOND FORM's CARD OF 'vanguardlaw.WorldSilent'. -/
def worldSilentUptoCard : Claim7 := { stood := { row := worldSilentUptoRow, standIns := [], harness := (true, "be5e83f9ab05b9e1bda620096c223104523c050b5c45c9db8c77255d20c882da"), looks := true }, kinds := [], alts := [], laidByText := true, laidKinds := [.data, .data, .data, .data, .sentinel, .sentinel, .pinned], laidTests := true, laidLooks := .later }
def WorldSilentUptoCardSaid : Prop := Claim7.holds Tryz.pinned (.plain (OpenSpec.upto worldSilentSpec)) worldSilentUptoCard

/-- THE SECOND FORM's CARD OF 'vanguardlaw.WorldParts'. -/
def worldPartsUptoCard : Claim7 := { stood := { row := worldPartsUptoRow, standIns := [], harness := (true, "be5e83f9ab05b9e1bda620096c223104523c050b5c45c9db8c77255d20c882da"), looks := true }, kinds := [], alts := [], laidByText := true, laidKinds := [.data, .data, .data, .data, .sentinel, .sentinel, .pinned], laidTests := true, laidLooks := .later }
def WorldPartsUptoCardSaid : Prop := Claim7.holds Tryz.pinned (.plain (OpenSpec.upto worldPartsSpec)) worldPartsUptoCard

/-- THE SECOND FORM's CARD OF 'vanguardlaw.WorldKeeps'. -/
def worldKeepsUptoCard : Claim7 := { stood := { row := worldKeepsUptoRow, standIns := [], harness := (true, "be5e83f9ab05b9e1bda620096c223104523c050b5c45c9db8c77255d20c882da"), looks := true }, kinds := [], alts := [], laidByText := true, laidKinds := [.data, .data, .data, .data, .sentinel, .sentinel, .pinned], laidTests := true, laidLooks := .later }
def WorldKeepsUptoCardSaid : Prop := Claim7.holds Tryz.pinned (.plain (OpenSpec.upto worldKeepsSpec)) worldKeepsUptoCard

/-- THE SECOND FORM's CARD OF 'vanguardlaw.WorldRuns'. -/
def worldRunsUptoCard : Claim7 := { stood := { row := worldRunsUptoRow, standIns := [], harness := (true, "be5e83f9ab05b9e1bda620096c223104523c050b5c45c9db8c77255d20c882da"), looks := true }, kinds := [], alts := [], laidByText := true, laidKinds := [.data, .data, .data, .data, .sentinel, .sentinel, .pinned], laidTests := true, laidLooks := .later }
def WorldRunsUptoCardSaid : Prop := Claim7.holds Tryz.pinned (.plain (OpenSpec.upto worldRunsSpec)) worldRunsUptoCard

/-- THE SECOND FORM's CARD OF 'vanguardlaw.WorldStands'. -/
def worldStandsUptoCard : Claim7 := { stood := { row := worldStandsUptoRow, standIns := [], harness := (true, "be5e83f9ab05b9e1bda620096c223104523c050b5c45c9db8c77255d20c882da"), looks := true }, kinds := [], alts := [], laidByText := true, laidKinds := [.data, .data, .data, .data, .sentinel, .sentinel, .pinned], laidTests := true, laidLooks := .later }
def WorldStandsUptoCardSaid : Prop := Claim7.holds Tryz.pinned (.plain (OpenSpec.upto worldStandsSpec)) worldStandsUptoCard

/-- THE SECOND FORM's CARD OF 'vanguardlaw.StoryRests'. -/
def storyRestsUptoCard : Claim7 := { stood := { row := storyRestsUptoRow, standIns := [], harness := (true, "be5e83f9ab05b9e1bda620096c223104523c050b5c45c9db8c77255d20c882da"), looks := true }, kinds := [], alts := [], laidByText := true, laidKinds := [.data, .data, .data, .data, .sentinel, .sentinel, .pinned], laidTests := true, laidLooks := .later }
def StoryRestsUptoCardSaid : Prop := Claim7.holds Tryz.pinned (.plain (OpenSpec.upto storyRestsSpec)) storyRestsUptoCard

/-- THE SECOND FORM's CARD OF 'vanguardlaw.StoryWaves'. -/
def storyWavesUptoCard : Claim7 := { stood := { row := storyWavesUptoRow, standIns := [], harness := (true, "be5e83f9ab05b9e1bda620096c223104523c050b5c45c9db8c77255d20c882da"), looks := true }, kinds := [], alts := [], laidByText := true, laidKinds := [.data, .data, .data, .data, .sentinel, .sentinel, .pinned], laidTests := true, laidLooks := .later }
def StoryWavesUptoCardSaid : Prop := Claim7.holds Tryz.pinned (.plain (OpenSpec.upto storyWavesSpec)) storyWavesUptoCard

/-- THE SECOND FORM's CARD OF 'vanguardlaw.StoryIll'. -/
def storyIllUptoCard : Claim7 := { stood := { row := storyIllUptoRow, standIns := [], harness := (true, "be5e83f9ab05b9e1bda620096c223104523c050b5c45c9db8c77255d20c882da"), looks := true }, kinds := [], alts := [], laidByText := true, laidKinds := [.data, .data, .data, .data, .sentinel, .sentinel, .pinned], laidTests := true, laidLooks := .later }
def StoryIllUptoCardSaid : Prop := Claim7.holds Tryz.pinned (.plain (OpenSpec.upto storyIllSpec)) storyIllUptoCard

/-- THE SECOND FORM's CARD OF 'vanguardlaw.StoryPins'. -/
def storyPinsUptoCard : Claim7 := { stood := { row := storyPinsUptoRow, standIns := [], harness := (true, "be5e83f9ab05b9e1bda620096c223104523c050b5c45c9db8c77255d20c882da"), looks := true }, kinds := [], alts := [], laidByText := true, laidKinds := [.data, .data, .data, .data, .sentinel, .sentinel, .pinned], laidTests := true, laidLooks := .later }
def StoryPinsUptoCardSaid : Prop := Claim7.holds Tryz.pinned (.plain (OpenSpec.upto storyPinsSpec)) storyPinsUptoCard

/-- THE SECOND FORM's CARD OF 'vanguardlaw.StoryTries'. -/
def storyTriesUptoCard : Claim7 := { stood := { row := storyTriesUptoRow, standIns := [], harness := (true, "be5e83f9ab05b9e1bda620096c223104523c050b5c45c9db8c77255d20c882da"), looks := true }, kinds := [], alts := [], laidByText := true, laidKinds := [.data, .data, .data, .data, .sentinel, .sentinel, .pinned], laidTests := true, laidLooks := .later }
def StoryTriesUptoCardSaid : Prop := Claim7.holds Tryz.pinned (.plain (OpenSpec.upto storyTriesSpec)) storyTriesUptoCard

/-- THE SECOND FORM's CARD OF 'vanguardlaw.StoryEnds'. -/
def storyEndsUptoCard : Claim7 := { stood := { row := storyEndsUptoRow, standIns := [], harness := (true, "be5e83f9ab05b9e1bda620096c223104523c050b5c45c9db8c77255d20c882da"), looks := true }, kinds := [], alts := [], laidByText := true, laidKinds := [.data, .data, .data, .data, .sentinel, .sentinel, .pinned], laidTests := true, laidLooks := .later }
def StoryEndsUptoCardSaid : Prop := Claim7.holds Tryz.pinned (.plain (OpenSpec.upto storyEndsSpec)) storyEndsUptoCard
end Rows
end Go.Proofs.YtgaegoefbekndaaGreatDoor
