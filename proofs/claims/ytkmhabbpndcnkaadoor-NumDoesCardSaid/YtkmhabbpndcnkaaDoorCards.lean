/-
  DERIVED. GIVEN WITH THE SEED: THE CARDS: each row of YtkmhabbpndcnkaaDoorRows.lean that lists a variable, with what it lists TIED to the program's text (the seventh form; the later family's looks); each row that meets fmt, with fmt's text TOLD by the authors' own Lean function (tested against real Go, not proved from fmt's source: count such statements apart). THE CARD IS WHAT COUNTS. Prove the row's statement (the work); the ties are given (YtkmhabbpndcnkaaDoorTie.lean); close each card by the builder's one call (the guide's Derived/Test/ToyasCard.lean, 'card_holds'). Laid BY PROGRAM, IN A SANDBOX (cutbox-door.mjs). By AI agents, Wed Nov 11 2026. No macro, syntax, notation, axiom, sorry.
-/
import Derived.Test.YtkmhabbpndcnkaaDoorRows
import GoSem.ClaimSeven
namespace Go.Proofs.YtkmhabbpndcnkaaDoor
namespace Rows

/-- THE TIED CARD OF 'trothlaw01.NumDoes'. -/
def numDoesCard : Claim7 := { stood := { row := numDoesRow, standIns := [], harness := (true, "130561625c54cef878b2aa8986b1c3caf16c485475fe40a583dac0c265d07ce8"), looks := false }, kinds := [], alts := [], laidByText := true, laidKinds := [.data], laidTests := true, laidLooks := .later }
def NumDoesCardSaid : Prop := Claim7.holds Tryd.pinned (.plain (OpenSpec.ofChange numDoesSpec)) numDoesCard

/-- THE TIED CARD OF 'trothlaw01.NumUndoes'. -/
def numUndoesCard : Claim7 := { stood := { row := numUndoesRow, standIns := [], harness := (true, "130561625c54cef878b2aa8986b1c3caf16c485475fe40a583dac0c265d07ce8"), looks := false }, kinds := [], alts := [], laidByText := true, laidKinds := [.data], laidTests := true, laidLooks := .later }
def NumUndoesCardSaid : Prop := Claim7.holds Tryd.pinned (.plain (OpenSpec.ofChange numUndoesSpec)) numUndoesCard

/-- THE SECOND FORM's CARD OF 'trothlaw01.NumDoes'. -/
def numDoesUptoCard : Claim7 := { stood := { row := numDoesUptoRow, standIns := [], harness := (true, "130561625c54cef878b2aa8986b1c3caf16c485475fe40a583dac0c265d07ce8"), looks := false }, kinds := [], alts := [], laidByText := true, laidKinds := [.data], laidTests := true, laidLooks := .later }
def NumDoesUptoCardSaid : Prop := Claim7.holds Tryd.pinned (.plain (OpenSpec.upto numDoesSpec)) numDoesUptoCard

/-- THE SECOND FORM's CARD OF 'trothlaw01.NumUndoes'. -/
def numUndoesUptoCard : Claim7 := { stood := { row := numUndoesUptoRow, standIns := [], harness := (true, "130561625c54cef878b2aa8986b1c3caf16c485475fe40a583dac0c265d07ce8"), looks := false }, kinds := [], alts := [], laidByText := true, laidKinds := [.data], laidTests := true, laidLooks := .later }
def NumUndoesUptoCardSaid : Prop := Claim7.holds Tryd.pinned (.plain (OpenSpec.upto numUndoesSpec)) numUndoesUptoCard
end Rows
end Go.Proofs.YtkmhabbpndcnkaaDoor
