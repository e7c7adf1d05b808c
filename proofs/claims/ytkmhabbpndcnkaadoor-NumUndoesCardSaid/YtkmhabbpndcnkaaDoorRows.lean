/-
  NARROWER THAN 'FOR EVERY INPUT', by the rows' own cells (each row's printed sentence says how): NumDoes: laid · NumUndoes: laid.
  DERIVED. THE GIVEN ROWS OF THIS SEAT. 2 by the template 'for every input the law returns true; each argument reads behind the call as it read before'; 0 by the template 'total and deterministic' (their statements: YtkmhabbpndcnkaaDoorTotals.lean).
  GIVEN WITH THE SEED: the statements are not yours to turn. If you find one false, say at which input.
  Laid BY PROGRAM, IN A SANDBOX (cutbox-rows.mjs): the forced cells as the released guide's own fill.sh prints them over the translation 451d294cec33c644… (all of the seat's roots in one cut). By AI agents, Wed Nov 11 2026. No macro, syntax, notation, axiom, sorry.
-/
import Derived.Test.YtkmhabbpndcnkaaDoorChecked
import GoSem.Claim
import GoSem.ClaimJoined
import GoSem.ClaimMapViews
import Derived.JoinedTies
import Derived.KernelRfl
namespace Go.Proofs.YtkmhabbpndcnkaaDoor
/- THE CELL 'sum', in the pinned program and in every row, IS THE sha256 OF THE DUMP (.gsa) THAT YtkmhabbpndcnkaaDoorProg.lean LOADS. Nothing in Lean hashes anything: it is a label: what it is worth is what the hold of that sum in a sandbox is worth. -/
noncomputable def Tryd.pinned : Pinned := { name := "ytkmhabbpndcnkaadoor", sum := "451d294cec33c644bd0a5c2ed4408b79aa09c93593ac27822b17e3836c3f3435", checked := Tryd.checked }
namespace Rows
def none {H : Type} : Left H := { results := [], args := [] }

/- WHAT THE LISTED PACKAGE-LEVEL VARIABLES READ AS WHEN THE CALL BEGINS. Each datum BY PROGRAM (the guide's laid-datum.mjs) off the statement by which the dump's own 'gosem.cut.vars' lays the variable. In a bare row this is a premise. The card (YtkmhabbpndcnkaaDoorCards.lean) ties it to the program's text. -/
def laid_troth_num_texts {H : Type} : DataW H := .agg [.lit (.string []), .lit (.string [61, 61]), .lit (.string [33, 61]), .lit (.string [60]), .lit (.string [60, 61]), .lit (.string [43]), .lit (.string [45]), .lit (.string [124]), .lit (.string [94]), .lit (.string [42]), .lit (.string [47]), .lit (.string [37]), .lit (.string [38]), .lit (.string [33]), .lit (.string [45])]

/-- 'trothlaw01.NumDoes': WHATEVER THE INPUT: true; the input reads as it did. -/
def numDoesSpec : ChangeSpec := { name := "numDoes", fn := fun _ => fun
  | [d1, d2, d3] => { results := [.lit (.bool true)], args := [d1, d2, d3] }
  | _ => none }
def numDoesRow : OpenClaim := { program := "ytkmhabbpndcnkaadoor", sum := "451d294cec33c644bd0a5c2ed4408b79aa09c93593ac27822b17e3836c3f3435", func := "troth/trothlaw01.NumDoes", spec := "numDoes", named := ["troth/num.texts"], apart := false, laid := [("troth/num.texts", laid_troth_num_texts)] }
def NumDoesSaid : Prop := numDoesRow.holds Tryd.pinned (OpenSpec.ofChange numDoesSpec)

/-- ITS FALSE NEIGHBOUR: 'it returns false'. Refute it at one input. -/
def numDoesWrong : ChangeSpec := { name := "numDoes", fn := fun _ => fun
  | [d1, d2, d3] => { results := [.lit (.bool false)], args := [d1, d2, d3] }
  | _ => none }
def NumDoesWrongFalsely : Prop := numDoesRow.holds Tryd.pinned (OpenSpec.ofChange numDoesWrong)

/-- 'trothlaw01.NumUndoes': WHATEVER THE INPUT: true; the input reads as it did. -/
def numUndoesSpec : ChangeSpec := { name := "numUndoes", fn := fun _ => fun
  | [d1, d2] => { results := [.lit (.bool true)], args := [d1, d2] }
  | _ => none }
def numUndoesRow : OpenClaim := { program := "ytkmhabbpndcnkaadoor", sum := "451d294cec33c644bd0a5c2ed4408b79aa09c93593ac27822b17e3836c3f3435", func := "troth/trothlaw01.NumUndoes", spec := "numUndoes", named := ["troth/num.texts"], apart := false, laid := [("troth/num.texts", laid_troth_num_texts)] }
def NumUndoesSaid : Prop := numUndoesRow.holds Tryd.pinned (OpenSpec.ofChange numUndoesSpec)

/-- ITS FALSE NEIGHBOUR: 'it returns false'. Refute it at one input. -/
def numUndoesWrong : ChangeSpec := { name := "numUndoes", fn := fun _ => fun
  | [d1, d2] => { results := [.lit (.bool false)], args := [d1, d2] }
  | _ => none }
def NumUndoesWrongFalsely : Prop := numUndoesRow.holds Tryd.pinned (OpenSpec.ofChange numUndoesWrong)

/- THE SECOND FORM. 'bulk': how many values and letters a reading holds, each counted each time it is reached (what is shared counts as often as it is met; a slice's spare places count too). A statement '..UptoSaid' is the law's where the arguments, and the package variables that the reading takes, are together of bulk at most 1048576: NARROWER than '..Said'. Prove '..Said' where nothing that the law and all that it calls make is longer than what came in: it says more and counts as full. Else prove '..UptoSaid'. A law counts once. -/
mutual
def uptoBulk {H : Type} : DataW H → Nat
  | .lit (.string bytes) => bytes.length + 1
  | .lit _ => 1
  | .nil => 1
  | .ptr d => uptoBulk d + 1
  | .slice elems spare => uptoBulkAll elems + uptoBulkAll spare + 1
  | .agg parts => uptoBulkAll parts + 1
  | .iface _ d => uptoBulk d + 1
  | .map entries => uptoBulkEntries entries + 1
  | .held _ => 1
def uptoBulkAll {H : Type} : List (DataW H) → Nat
  | [] => 0
  | d :: r => uptoBulk d + uptoBulkAll r
def uptoBulkEntries {H : Type} : List (Lit × DataW H) → Nat
  | [] => 0
  | x :: r => uptoBulkEntry x + uptoBulkEntries r
def uptoBulkEntry {H : Type} : Lit × DataW H → Nat
  | (.string bytes, d) => bytes.length + uptoBulk d + 1
  | (_, d) => uptoBulk d + 1
 end
def uptoSmall : (H : Type) → List (DataW H) → Bool := fun _ ds => decide (uptoBulkAll ds ≤ 1048576)
def OpenSpec.upto (s : _root_.Go.ChangeSpec) : _root_.Go.OpenSpec := { _root_.Go.OpenSpec.ofChange s with cond := some uptoSmall }

/-- 'trothlaw01.NumDoes', WHERE WHAT IT READS IS OF BULK AT MOST 1048576: true; the input reads as it did. -/
def numDoesUptoRow : OpenClaim := { program := "ytkmhabbpndcnkaadoor", sum := "451d294cec33c644bd0a5c2ed4408b79aa09c93593ac27822b17e3836c3f3435", func := "troth/trothlaw01.NumDoes", spec := "numDoes", named := ["troth/num.texts"], apart := false, laid := [("troth/num.texts", laid_troth_num_texts)], narrowed := true }
def NumDoesUptoSaid : Prop := numDoesUptoRow.holds Tryd.pinned (OpenSpec.upto numDoesSpec)

/-- 'trothlaw01.NumUndoes', WHERE WHAT IT READS IS OF BULK AT MOST 1048576: true; the input reads as it did. -/
def numUndoesUptoRow : OpenClaim := { program := "ytkmhabbpndcnkaadoor", sum := "451d294cec33c644bd0a5c2ed4408b79aa09c93593ac27822b17e3836c3f3435", func := "troth/trothlaw01.NumUndoes", spec := "numUndoes", named := ["troth/num.texts"], apart := false, laid := [("troth/num.texts", laid_troth_num_texts)], narrowed := true }
def NumUndoesUptoSaid : Prop := numUndoesUptoRow.holds Tryd.pinned (OpenSpec.upto numUndoesSpec)

end Rows
end Go.Proofs.YtkmhabbpndcnkaaDoor
