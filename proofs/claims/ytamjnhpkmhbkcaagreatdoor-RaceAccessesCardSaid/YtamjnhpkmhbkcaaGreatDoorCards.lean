/-
  DERIVED. GIVEN WITH THE SEED: THE CARDS: each row of YtamjnhpkmhbkcaaGreatDoorRows.lean that lists a variable, with what it lists TIED to the program's text (the seventh form; the later family's looks); each row that meets fmt, with fmt's text TOLD by the authors' own Lean function (tested against real Go, not proved from fmt's source: count such statements apart). THE CARD IS WHAT COUNTS. Prove the row's statement (the work); the ties are given (YtamjnhpkmhbkcaaGreatDoorTie.lean); close each card by the builder's one call (the guide's Derived/Test/ToyasCard.lean, 'card_holds'). Laid BY PROGRAM, IN A SANDBOX (cutbox-door.mjs). By AI agents, Wed Nov 11 2026. No macro, syntax, notation, axiom, sorry.
-/
import Derived.Test.YtamjnhpkmhbkcaaGreatDoorRows
import GoSem.ClaimSeven
namespace Go.Proofs.YtamjnhpkmhbkcaaGreatDoor
namespace Rows

/-- THE TIED CARD OF 'trothlaw06.CheckTells'. -/
def checkTellsCard : Claim7 := { stood := { row := checkTellsRow, standIns := [], harness := (true, "f1df72fc7d1d84aaf1c1db728b0a2b05a0614903027501cf3cd5557d1a8633aa"), looks := true }, kinds := [], alts := [], laidByText := true, laidKinds := [.data, .data, .data, .sentinel, .sentinel, .data, .data, .data], laidTests := true, laidLooks := .later }
def CheckTellsCardSaid : Prop := Claim7.holds Tryz.pinned (.plain (OpenSpec.ofChange checkTellsSpec)) checkTellsCard

/-- THE TIED CARD OF 'trothlaw06.CheckDeep'. -/
def checkDeepCard : Claim7 := { stood := { row := checkDeepRow, standIns := [], harness := (true, "f1df72fc7d1d84aaf1c1db728b0a2b05a0614903027501cf3cd5557d1a8633aa"), looks := true }, kinds := [], alts := [], laidByText := true, laidKinds := [.data, .data, .data, .sentinel, .sentinel, .data, .data, .data], laidTests := true, laidLooks := .later }
def CheckDeepCardSaid : Prop := Claim7.holds Tryz.pinned (.plain (OpenSpec.ofChange checkDeepSpec)) checkDeepCard

/-- THE TIED CARD OF 'trothlaw05.ParseTells'. -/
def parseTellsCard : Claim7 := { stood := { row := parseTellsRow, standIns := [], harness := (true, "f1df72fc7d1d84aaf1c1db728b0a2b05a0614903027501cf3cd5557d1a8633aa"), looks := true }, kinds := [], alts := [], laidByText := true, laidKinds := [.data, .data, .data, .sentinel, .sentinel, .data, .data], laidTests := true, laidLooks := .later }
def ParseTellsCardSaid : Prop := Claim7.holds Tryz.pinned (.plain (OpenSpec.ofChange parseTellsSpec)) parseTellsCard

/-- THE TIED CARD OF 'trothlaw05.ParseBack'. -/
def parseBackCard : Claim7 := { stood := { row := parseBackRow, standIns := [], harness := (true, "f1df72fc7d1d84aaf1c1db728b0a2b05a0614903027501cf3cd5557d1a8633aa"), looks := true }, kinds := [], alts := [], laidByText := true, laidKinds := [.data, .data, .data, .sentinel, .sentinel, .data, .data], laidTests := true, laidLooks := .later }
def ParseBackCardSaid : Prop := Claim7.holds Tryz.pinned (.plain (OpenSpec.ofChange parseBackSpec)) parseBackCard

/-- THE TIED CARD OF 'trothlaw08.ThreadRuns'. -/
def threadRunsCard : Claim7 := { stood := { row := threadRunsRow, standIns := [], harness := (true, "f1df72fc7d1d84aaf1c1db728b0a2b05a0614903027501cf3cd5557d1a8633aa"), looks := true }, kinds := [], alts := [], laidByText := true, laidKinds := [.data, .data, .data, .sentinel, .sentinel, .data, .data, .data], laidTests := true, laidLooks := .later }
def ThreadRunsCardSaid : Prop := Claim7.holds Tryz.pinned (.plain (OpenSpec.ofChange threadRunsSpec)) threadRunsCard

/-- THE TIED CARD OF 'trothlaw08.ThreadModes'. -/
def threadModesCard : Claim7 := { stood := { row := threadModesRow, standIns := [], harness := (true, "f1df72fc7d1d84aaf1c1db728b0a2b05a0614903027501cf3cd5557d1a8633aa"), looks := true }, kinds := [], alts := [], laidByText := true, laidKinds := [.data, .data, .data, .sentinel, .sentinel, .data, .data, .data], laidTests := true, laidLooks := .later }
def ThreadModesCardSaid : Prop := Claim7.holds Tryz.pinned (.plain (OpenSpec.ofChange threadModesSpec)) threadModesCard

/-- THE TIED CARD OF 'trothlaw08.ThreadEnds'. -/
def threadEndsCard : Claim7 := { stood := { row := threadEndsRow, standIns := [], harness := (true, "f1df72fc7d1d84aaf1c1db728b0a2b05a0614903027501cf3cd5557d1a8633aa"), looks := true }, kinds := [], alts := [], laidByText := true, laidKinds := [.data, .data, .data, .sentinel, .sentinel, .data, .data, .data], laidTests := true, laidLooks := .later }
def ThreadEndsCardSaid : Prop := Claim7.holds Tryz.pinned (.plain (OpenSpec.ofChange threadEndsSpec)) threadEndsCard

/-- THE TIED CARD OF 'trothlaw23.RaceAccesses'. -/
def raceAccessesCard : Claim7 := { stood := { row := raceAccessesRow, standIns := [], harness := (true, "f1df72fc7d1d84aaf1c1db728b0a2b05a0614903027501cf3cd5557d1a8633aa"), looks := true }, kinds := [], alts := [], laidByText := true, laidKinds := [.data, .data, .data, .sentinel, .sentinel, .data, .data, .data], laidTests := true, laidLooks := .later }
def RaceAccessesCardSaid : Prop := Claim7.holds Tryz.pinned (.plain (OpenSpec.ofChange raceAccessesSpec)) raceAccessesCard

/-- THE TIED CARD OF 'trothlaw06.CheckParsed'. -/
def checkParsedCard : Claim7 := { stood := { row := checkParsedRow, standIns := [], harness := (true, "f1df72fc7d1d84aaf1c1db728b0a2b05a0614903027501cf3cd5557d1a8633aa"), looks := true }, kinds := [], alts := [], laidByText := true, laidKinds := [.data, .data, .data, .sentinel, .sentinel, .data, .data, .data], laidTests := true, laidLooks := .later }
def CheckParsedCardSaid : Prop := Claim7.holds Tryz.pinned (.plain (OpenSpec.ofChange checkParsedSpec)) checkParsedCard

/-- THE TIED CARD OF 'trothlaw23.RaceFinds'. -/
def raceFindsCard : Claim7 := { stood := { row := raceFindsRow, standIns := [], harness := (true, "f1df72fc7d1d84aaf1c1db728b0a2b05a0614903027501cf3cd5557d1a8633aa"), looks := true }, kinds := [], alts := [], laidByText := true, laidKinds := [.data, .data, .data, .sentinel, .sentinel, .data, .data, .data], laidTests := true, laidLooks := .later }
def RaceFindsCardSaid : Prop := Claim7.holds Tryz.pinned (.plain (OpenSpec.ofChange raceFindsSpec)) raceFindsCard

/-- THE TIED CARD OF 'trothlaw23.RaceNone'. -/
def raceNoneCard : Claim7 := { stood := { row := raceNoneRow, standIns := [], harness := (true, "f1df72fc7d1d84aaf1c1db728b0a2b05a0614903027501cf3cd5557d1a8633aa"), looks := true }, kinds := [], alts := [], laidByText := true, laidKinds := [.data, .data, .data, .sentinel, .sentinel, .data, .data, .data], laidTests := true, laidLooks := .later }
def RaceNoneCardSaid : Prop := Claim7.holds Tryz.pinned (.plain (OpenSpec.ofChange raceNoneSpec)) raceNoneCard

/-- THE TIED CARD OF 'trothlaw22.ScTurns'. -/
def scTurnsCard : Claim7 := { stood := { row := scTurnsRow, standIns := [], harness := (true, "f1df72fc7d1d84aaf1c1db728b0a2b05a0614903027501cf3cd5557d1a8633aa"), looks := true }, kinds := [], alts := [], laidByText := true, laidKinds := [.data, .data, .data, .sentinel, .sentinel, .data, .data, .data], laidTests := true, laidLooks := .later }
def ScTurnsCardSaid : Prop := Claim7.holds Tryz.pinned (.plain (OpenSpec.ofChange scTurnsSpec)) scTurnsCard

/-- THE SECOND FORM's CARD OF 'trothlaw06.CheckTells'. -/
def checkTellsUptoCard : Claim7 := { stood := { row := checkTellsUptoRow, standIns := [], harness := (true, "f1df72fc7d1d84aaf1c1db728b0a2b05a0614903027501cf3cd5557d1a8633aa"), looks := true }, kinds := [], alts := [], laidByText := true, laidKinds := [.data, .data, .data, .sentinel, .sentinel, .data, .data, .data], laidTests := true, laidLooks := .later }
def CheckTellsUptoCardSaid : Prop := Claim7.holds Tryz.pinned (.plain (OpenSpec.upto checkTellsSpec)) checkTellsUptoCard

/-- THE SECOND FORM's CARD OF 'trothlaw06.CheckDeep'. -/
def checkDeepUptoCard : Claim7 := { stood := { row := checkDeepUptoRow, standIns := [], harness := (true, "f1df72fc7d1d84aaf1c1db728b0a2b05a0614903027501cf3cd5557d1a8633aa"), looks := true }, kinds := [], alts := [], laidByText := true, laidKinds := [.data, .data, .data, .sentinel, .sentinel, .data, .data, .data], laidTests := true, laidLooks := .later }
def CheckDeepUptoCardSaid : Prop := Claim7.holds Tryz.pinned (.plain (OpenSpec.upto checkDeepSpec)) checkDeepUptoCard

/-- THE SECOND FORM's CARD OF 'trothlaw05.ParseTells'. -/
def parseTellsUptoCard : Claim7 := { stood := { row := parseTellsUptoRow, standIns := [], harness := (true, "f1df72fc7d1d84aaf1c1db728b0a2b05a0614903027501cf3cd5557d1a8633aa"), looks := true }, kinds := [], alts := [], laidByText := true, laidKinds := [.data, .data, .data, .sentinel, .sentinel, .data, .data], laidTests := true, laidLooks := .later }
def ParseTellsUptoCardSaid : Prop := Claim7.holds Tryz.pinned (.plain (OpenSpec.upto parseTellsSpec)) parseTellsUptoCard

/-- THE SECOND FORM's CARD OF 'trothlaw05.ParseBack'. -/
def parseBackUptoCard : Claim7 := { stood := { row := parseBackUptoRow, standIns := [], harness := (true, "f1df72fc7d1d84aaf1c1db728b0a2b05a0614903027501cf3cd5557d1a8633aa"), looks := true }, kinds := [], alts := [], laidByText := true, laidKinds := [.data, .data, .data, .sentinel, .sentinel, .data, .data], laidTests := true, laidLooks := .later }
def ParseBackUptoCardSaid : Prop := Claim7.holds Tryz.pinned (.plain (OpenSpec.upto parseBackSpec)) parseBackUptoCard

/-- THE SECOND FORM's CARD OF 'trothlaw08.ThreadRuns'. -/
def threadRunsUptoCard : Claim7 := { stood := { row := threadRunsUptoRow, standIns := [], harness := (true, "f1df72fc7d1d84aaf1c1db728b0a2b05a0614903027501cf3cd5557d1a8633aa"), looks := true }, kinds := [], alts := [], laidByText := true, laidKinds := [.data, .data, .data, .sentinel, .sentinel, .data, .data, .data], laidTests := true, laidLooks := .later }
def ThreadRunsUptoCardSaid : Prop := Claim7.holds Tryz.pinned (.plain (OpenSpec.upto threadRunsSpec)) threadRunsUptoCard

/-- THE SECOND FORM's CARD OF 'trothlaw08.ThreadModes'. -/
def threadModesUptoCard : Claim7 := { stood := { row := threadModesUptoRow, standIns := [], harness := (true, "f1df72fc7d1d84aaf1c1db728b0a2b05a0614903027501cf3cd5557d1a8633aa"), looks := true }, kinds := [], alts := [], laidByText := true, laidKinds := [.data, .data, .data, .sentinel, .sentinel, .data, .data, .data], laidTests := true, laidLooks := .later }
def ThreadModesUptoCardSaid : Prop := Claim7.holds Tryz.pinned (.plain (OpenSpec.upto threadModesSpec)) threadModesUptoCard

/-- THE SECOND FORM's CARD OF 'trothlaw08.ThreadEnds'. -/
def threadEndsUptoCard : Claim7 := { stood := { row := threadEndsUptoRow, standIns := [], harness := (true, "f1df72fc7d1d84aaf1c1db728b0a2b05a0614903027501cf3cd5557d1a8633aa"), looks := true }, kinds := [], alts := [], laidByText := true, laidKinds := [.data, .data, .data, .sentinel, .sentinel, .data, .data, .data], laidTests := true, laidLooks := .later }
def ThreadEndsUptoCardSaid : Prop := Claim7.holds Tryz.pinned (.plain (OpenSpec.upto threadEndsSpec)) threadEndsUptoCard

/-- THE SECOND FORM's CARD OF 'trothlaw23.RaceAccesses'. -/
def raceAccessesUptoCard : Claim7 := { stood := { row := raceAccessesUptoRow, standIns := [], harness := (true, "f1df72fc7d1d84aaf1c1db728b0a2b05a0614903027501cf3cd5557d1a8633aa"), looks := true }, kinds := [], alts := [], laidByText := true, laidKinds := [.data, .data, .data, .sentinel, .sentinel, .data, .data, .data], laidTests := true, laidLooks := .later }
def RaceAccessesUptoCardSaid : Prop := Claim7.holds Tryz.pinned (.plain (OpenSpec.upto raceAccessesSpec)) raceAccessesUptoCard

/-- THE SECOND FORM's CARD OF 'trothlaw06.CheckParsed'. -/
def checkParsedUptoCard : Claim7 := { stood := { row := checkParsedUptoRow, standIns := [], harness := (true, "f1df72fc7d1d84aaf1c1db728b0a2b05a0614903027501cf3cd5557d1a8633aa"), looks := true }, kinds := [], alts := [], laidByText := true, laidKinds := [.data, .data, .data, .sentinel, .sentinel, .data, .data, .data], laidTests := true, laidLooks := .later }
def CheckParsedUptoCardSaid : Prop := Claim7.holds Tryz.pinned (.plain (OpenSpec.upto checkParsedSpec)) checkParsedUptoCard

/-- THE SECOND FORM's CARD OF 'trothlaw23.RaceFinds'. -/
def raceFindsUptoCard : Claim7 := { stood := { row := raceFindsUptoRow, standIns := [], harness := (true, "f1df72fc7d1d84aaf1c1db728b0a2b05a0614903027501cf3cd5557d1a8633aa"), looks := true }, kinds := [], alts := [], laidByText := true, laidKinds := [.data, .data, .data, .sentinel, .sentinel, .data, .data, .data], laidTests := true, laidLooks := .later }
def RaceFindsUptoCardSaid : Prop := Claim7.holds Tryz.pinned (.plain (OpenSpec.upto raceFindsSpec)) raceFindsUptoCard

/-- THE SECOND FORM's CARD OF 'trothlaw23.RaceNone'. -/
def raceNoneUptoCard : Claim7 := { stood := { row := raceNoneUptoRow, standIns := [], harness := (true, "f1df72fc7d1d84aaf1c1db728b0a2b05a0614903027501cf3cd5557d1a8633aa"), looks := true }, kinds := [], alts := [], laidByText := true, laidKinds := [.data, .data, .data, .sentinel, .sentinel, .data, .data, .data], laidTests := true, laidLooks := .later }
def RaceNoneUptoCardSaid : Prop := Claim7.holds Tryz.pinned (.plain (OpenSpec.upto raceNoneSpec)) raceNoneUptoCard

/-- THE SECOND FORM's CARD OF 'trothlaw22.ScTurns'. -/
def scTurnsUptoCard : Claim7 := { stood := { row := scTurnsUptoRow, standIns := [], harness := (true, "f1df72fc7d1d84aaf1c1db728b0a2b05a0614903027501cf3cd5557d1a8633aa"), looks := true }, kinds := [], alts := [], laidByText := true, laidKinds := [.data, .data, .data, .sentinel, .sentinel, .data, .data, .data], laidTests := true, laidLooks := .later }
def ScTurnsUptoCardSaid : Prop := Claim7.holds Tryz.pinned (.plain (OpenSpec.upto scTurnsSpec)) scTurnsUptoCard
end Rows
end Go.Proofs.YtamjnhpkmhbkcaaGreatDoor
