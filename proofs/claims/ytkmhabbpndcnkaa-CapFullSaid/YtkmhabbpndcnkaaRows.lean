/-
  No cell of these rows narrows 'for every input' (looked for: loops, veiled, ifaces, maps, wideKeys, modest, calm, conditions, laid).
  DERIVED. THE GIVEN ROWS OF THIS SEAT. 11 by the template 'for every input the law returns true; each argument reads behind the call as it read before'; 0 by the template 'total and deterministic' (their statements: YtkmhabbpndcnkaaTotals.lean).
  GIVEN WITH THE SEED: the statements are not yours to turn. If you find one false, say at which input.
  Laid BY PROGRAM, IN A SANDBOX (cutbox-rows.mjs): the forced cells as the released guide's own fill.sh prints them over the translation 1b7aeecc7eb15ba6… (all of the seat's roots in one cut). By AI agents, Wed Nov 11 2026. No macro, syntax, notation, axiom, sorry.
-/
import Derived.Test.YtkmhabbpndcnkaaChecked
import GoSem.Claim
import GoSem.ClaimJoined
import GoSem.ClaimMapViews
import Derived.JoinedTies
import Derived.KernelRfl
namespace Go.Proofs.Ytkmhabbpndcnkaa
/- THE CELL 'sum', in the pinned program and in every row, IS THE sha256 OF THE DUMP (.gsa) THAT YtkmhabbpndcnkaaProg.lean LOADS. Nothing in Lean hashes anything: it is a label: what it is worth is what the hold of that sum in a sandbox is worth. -/
noncomputable def Try.pinned : Pinned := { name := "ytkmhabbpndcnkaa", sum := "1b7aeecc7eb15ba6b51533f7b84965be5b1350187ca5703905c060df03d7e489", checked := Try.checked }
namespace Rows
def none {H : Type} : Left H := { results := [], args := [] }

/-- 'trothlaw10.ViewJoins': WHATEVER THE INPUT: true; the input reads as it did. -/
def viewJoinsSpec : ChangeSpec := { name := "viewJoins", fn := fun _ => fun
  | [d1, d2, d3] => { results := [.lit (.bool true)], args := [d1, d2, d3] }
  | _ => none }
def viewJoinsRow : OpenClaim := { program := "ytkmhabbpndcnkaa", sum := "1b7aeecc7eb15ba6b51533f7b84965be5b1350187ca5703905c060df03d7e489", func := "troth/trothlaw10.ViewJoins", spec := "viewJoins", unfollowed := true, recurses := true, apart := false }
def ViewJoinsSaid : Prop := viewJoinsRow.holds Try.pinned (OpenSpec.ofChange viewJoinsSpec)

/-- ITS FALSE NEIGHBOUR: 'it returns false'. Refute it at one input. -/
def viewJoinsWrong : ChangeSpec := { name := "viewJoins", fn := fun _ => fun
  | [d1, d2, d3] => { results := [.lit (.bool false)], args := [d1, d2, d3] }
  | _ => none }
def ViewJoinsWrongFalsely : Prop := viewJoinsRow.holds Try.pinned (OpenSpec.ofChange viewJoinsWrong)

/-- 'trothlaw10.ViewTells': WHATEVER THE INPUT: true; the input reads as it did. -/
def viewTellsSpec : ChangeSpec := { name := "viewTells", fn := fun _ => fun
  | [d1, d2, d3, d4, d5] => { results := [.lit (.bool true)], args := [d1, d2, d3, d4, d5] }
  | _ => none }
def viewTellsRow : OpenClaim := { program := "ytkmhabbpndcnkaa", sum := "1b7aeecc7eb15ba6b51533f7b84965be5b1350187ca5703905c060df03d7e489", func := "troth/trothlaw10.ViewTells", spec := "viewTells", unfollowed := true, recurses := true, apart := false }
def ViewTellsSaid : Prop := viewTellsRow.holds Try.pinned (OpenSpec.ofChange viewTellsSpec)

/-- ITS FALSE NEIGHBOUR: 'it returns false'. Refute it at one input. -/
def viewTellsWrong : ChangeSpec := { name := "viewTells", fn := fun _ => fun
  | [d1, d2, d3, d4, d5] => { results := [.lit (.bool false)], args := [d1, d2, d3, d4, d5] }
  | _ => none }
def ViewTellsWrongFalsely : Prop := viewTellsRow.holds Try.pinned (OpenSpec.ofChange viewTellsWrong)

/-- 'trothlaw13.TviewGrows': WHATEVER THE INPUT: true; the input reads as it did. -/
def tviewGrowsSpec : ChangeSpec := { name := "tviewGrows", fn := fun _ => fun
  | [d] => { results := [.lit (.bool true)], args := [d] }
  | _ => none }
def tviewGrowsRow : OpenClaim := { program := "ytkmhabbpndcnkaa", sum := "1b7aeecc7eb15ba6b51533f7b84965be5b1350187ca5703905c060df03d7e489", func := "troth/trothlaw13.TviewGrows", spec := "tviewGrows", unfollowed := true, recurses := true, apart := false }
def TviewGrowsSaid : Prop := tviewGrowsRow.holds Try.pinned (OpenSpec.ofChange tviewGrowsSpec)

/-- ITS FALSE NEIGHBOUR: 'it returns false'. Refute it at one input. -/
def tviewGrowsWrong : ChangeSpec := { name := "tviewGrows", fn := fun _ => fun
  | [d] => { results := [.lit (.bool false)], args := [d] }
  | _ => none }
def TviewGrowsWrongFalsely : Prop := tviewGrowsRow.holds Try.pinned (OpenSpec.ofChange tviewGrowsWrong)

/-- 'trothlaw13.TviewPlays': WHATEVER THE INPUT: true; the input reads as it did. -/
def tviewPlaysSpec : ChangeSpec := { name := "tviewPlays", fn := fun _ => fun
  | [d] => { results := [.lit (.bool true)], args := [d] }
  | _ => none }
def tviewPlaysRow : OpenClaim := { program := "ytkmhabbpndcnkaa", sum := "1b7aeecc7eb15ba6b51533f7b84965be5b1350187ca5703905c060df03d7e489", func := "troth/trothlaw13.TviewPlays", spec := "tviewPlays", unfollowed := true, recurses := true, apart := false }
def TviewPlaysSaid : Prop := tviewPlaysRow.holds Try.pinned (OpenSpec.ofChange tviewPlaysSpec)

/-- ITS FALSE NEIGHBOUR: 'it returns false'. Refute it at one input. -/
def tviewPlaysWrong : ChangeSpec := { name := "tviewPlays", fn := fun _ => fun
  | [d] => { results := [.lit (.bool false)], args := [d] }
  | _ => none }
def TviewPlaysWrongFalsely : Prop := tviewPlaysRow.holds Try.pinned (OpenSpec.ofChange tviewPlaysWrong)

/-- 'trothlaw09.SpanTells': WHATEVER THE INPUT: true; the input reads as it did. -/
def spanTellsSpec : ChangeSpec := { name := "spanTells", fn := fun _ => fun
  | [d1, d2] => { results := [.lit (.bool true)], args := [d1, d2] }
  | _ => none }
def spanTellsRow : OpenClaim := { program := "ytkmhabbpndcnkaa", sum := "1b7aeecc7eb15ba6b51533f7b84965be5b1350187ca5703905c060df03d7e489", func := "troth/trothlaw09.SpanTells", spec := "spanTells", inPlace := ["math.archTrunc", "math.Float64bits", "math.Float64frombits"], apart := false }
def SpanTellsSaid : Prop := spanTellsRow.holds Try.pinned (OpenSpec.ofChange spanTellsSpec)

/-- ITS FALSE NEIGHBOUR: 'it returns false'. Refute it at one input. -/
def spanTellsWrong : ChangeSpec := { name := "spanTells", fn := fun _ => fun
  | [d1, d2] => { results := [.lit (.bool false)], args := [d1, d2] }
  | _ => none }
def SpanTellsWrongFalsely : Prop := spanTellsRow.holds Try.pinned (OpenSpec.ofChange spanTellsWrong)

/-- 'trothlaw09.SpanOrder': WHATEVER THE INPUT: true; the input reads as it did. -/
def spanOrderSpec : ChangeSpec := { name := "spanOrder", fn := fun _ => fun
  | [d1, d2, d3, d4] => { results := [.lit (.bool true)], args := [d1, d2, d3, d4] }
  | _ => none }
def spanOrderRow : OpenClaim := { program := "ytkmhabbpndcnkaa", sum := "1b7aeecc7eb15ba6b51533f7b84965be5b1350187ca5703905c060df03d7e489", func := "troth/trothlaw09.SpanOrder", spec := "spanOrder", inPlace := ["math.archTrunc", "math.Float64bits", "math.Float64frombits"], apart := false }
def SpanOrderSaid : Prop := spanOrderRow.holds Try.pinned (OpenSpec.ofChange spanOrderSpec)

/-- ITS FALSE NEIGHBOUR: 'it returns false'. Refute it at one input. -/
def spanOrderWrong : ChangeSpec := { name := "spanOrder", fn := fun _ => fun
  | [d1, d2, d3, d4] => { results := [.lit (.bool false)], args := [d1, d2, d3, d4] }
  | _ => none }
def SpanOrderWrongFalsely : Prop := spanOrderRow.holds Try.pinned (OpenSpec.ofChange spanOrderWrong)

/-- 'trothlaw15.PlacesTell': WHATEVER THE INPUT: true; the input reads as it did. -/
def placesTellSpec : ChangeSpec := { name := "placesTell", fn := fun _ => fun
  | [d1, d2, d3, d4] => { results := [.lit (.bool true)], args := [d1, d2, d3, d4] }
  | _ => none }
def placesTellRow : OpenClaim := { program := "ytkmhabbpndcnkaa", sum := "1b7aeecc7eb15ba6b51533f7b84965be5b1350187ca5703905c060df03d7e489", func := "troth/trothlaw15.PlacesTell", spec := "placesTell", inPlace := ["math.archTrunc", "math.Float64bits", "math.Float64frombits"], unfollowed := true, recurses := true, apart := false }
def PlacesTellSaid : Prop := placesTellRow.holds Try.pinned (OpenSpec.ofChange placesTellSpec)

/-- ITS FALSE NEIGHBOUR: 'it returns false'. Refute it at one input. -/
def placesTellWrong : ChangeSpec := { name := "placesTell", fn := fun _ => fun
  | [d1, d2, d3, d4] => { results := [.lit (.bool false)], args := [d1, d2, d3, d4] }
  | _ => none }
def PlacesTellWrongFalsely : Prop := placesTellRow.holds Try.pinned (OpenSpec.ofChange placesTellWrong)

/-- 'trothlaw12.CapFull': WHATEVER THE INPUT: true; the input reads as it did. -/
def capFullSpec : ChangeSpec := { name := "capFull", fn := fun _ => fun
  | [d1, d2, d3] => { results := [.lit (.bool true)], args := [d1, d2, d3] }
  | _ => none }
def capFullRow : OpenClaim := { program := "ytkmhabbpndcnkaa", sum := "1b7aeecc7eb15ba6b51533f7b84965be5b1350187ca5703905c060df03d7e489", func := "troth/trothlaw12.CapFull", spec := "capFull", inPlace := ["math.archTrunc", "math.Float64bits", "math.Float64frombits"], unfollowed := true, recurses := true, apart := false }
def CapFullSaid : Prop := capFullRow.holds Try.pinned (OpenSpec.ofChange capFullSpec)

/-- ITS FALSE NEIGHBOUR: 'it returns false'. Refute it at one input. -/
def capFullWrong : ChangeSpec := { name := "capFull", fn := fun _ => fun
  | [d1, d2, d3] => { results := [.lit (.bool false)], args := [d1, d2, d3] }
  | _ => none }
def CapFullWrongFalsely : Prop := capFullRow.holds Try.pinned (OpenSpec.ofChange capFullWrong)

/-- 'trothlaw12.CapTells': WHATEVER THE INPUT: true; the input reads as it did. -/
def capTellsSpec : ChangeSpec := { name := "capTells", fn := fun _ => fun
  | [d1, d2] => { results := [.lit (.bool true)], args := [d1, d2] }
  | _ => none }
def capTellsRow : OpenClaim := { program := "ytkmhabbpndcnkaa", sum := "1b7aeecc7eb15ba6b51533f7b84965be5b1350187ca5703905c060df03d7e489", func := "troth/trothlaw12.CapTells", spec := "capTells", inPlace := ["math.archTrunc", "math.Float64bits", "math.Float64frombits"], unfollowed := true, recurses := true, apart := false }
def CapTellsSaid : Prop := capTellsRow.holds Try.pinned (OpenSpec.ofChange capTellsSpec)

/-- ITS FALSE NEIGHBOUR: 'it returns false'. Refute it at one input. -/
def capTellsWrong : ChangeSpec := { name := "capTells", fn := fun _ => fun
  | [d1, d2] => { results := [.lit (.bool false)], args := [d1, d2] }
  | _ => none }
def CapTellsWrongFalsely : Prop := capTellsRow.holds Try.pinned (OpenSpec.ofChange capTellsWrong)

/-- 'trothlaw11.MemoryPlays': WHATEVER THE INPUT: true; the input reads as it did. -/
def memoryPlaysSpec : ChangeSpec := { name := "memoryPlays", fn := fun _ => fun
  | [d1, d2, d3, d4, d5] => { results := [.lit (.bool true)], args := [d1, d2, d3, d4, d5] }
  | _ => none }
def memoryPlaysRow : OpenClaim := { program := "ytkmhabbpndcnkaa", sum := "1b7aeecc7eb15ba6b51533f7b84965be5b1350187ca5703905c060df03d7e489", func := "troth/trothlaw11.MemoryPlays", spec := "memoryPlays", inPlace := ["math.archTrunc", "math.Float64bits", "math.Float64frombits"], unfollowed := true, recurses := true, apart := false }
def MemoryPlaysSaid : Prop := memoryPlaysRow.holds Try.pinned (OpenSpec.ofChange memoryPlaysSpec)

/-- ITS FALSE NEIGHBOUR: 'it returns false'. Refute it at one input. -/
def memoryPlaysWrong : ChangeSpec := { name := "memoryPlays", fn := fun _ => fun
  | [d1, d2, d3, d4, d5] => { results := [.lit (.bool false)], args := [d1, d2, d3, d4, d5] }
  | _ => none }
def MemoryPlaysWrongFalsely : Prop := memoryPlaysRow.holds Try.pinned (OpenSpec.ofChange memoryPlaysWrong)

/-- 'trothlaw11.MemoryApart': WHATEVER THE INPUT: true; the input reads as it did. -/
def memoryApartSpec : ChangeSpec := { name := "memoryApart", fn := fun _ => fun
  | [d1, d2] => { results := [.lit (.bool true)], args := [d1, d2] }
  | _ => none }
def memoryApartRow : OpenClaim := { program := "ytkmhabbpndcnkaa", sum := "1b7aeecc7eb15ba6b51533f7b84965be5b1350187ca5703905c060df03d7e489", func := "troth/trothlaw11.MemoryApart", spec := "memoryApart", inPlace := ["math.archTrunc", "math.Float64bits", "math.Float64frombits"], unfollowed := true, recurses := true, apart := false }
def MemoryApartSaid : Prop := memoryApartRow.holds Try.pinned (OpenSpec.ofChange memoryApartSpec)

/-- ITS FALSE NEIGHBOUR: 'it returns false'. Refute it at one input. -/
def memoryApartWrong : ChangeSpec := { name := "memoryApart", fn := fun _ => fun
  | [d1, d2] => { results := [.lit (.bool false)], args := [d1, d2] }
  | _ => none }
def MemoryApartWrongFalsely : Prop := memoryApartRow.holds Try.pinned (OpenSpec.ofChange memoryApartWrong)

/- THE SECOND FORM. 'bulk': how many values and letters a reading holds, each counted each time it is reached (what is shared counts as often as it is met; a slice's spare places count too). A statement '..UptoSaid' is the law's where the arguments, and the package variables that the reading takes, are together of bulk at most 1048576: NARROWER than '..Said'. Prove '..Said' where nothing that the law and all that it calls make is longer than what came in: it says more and counts as full. Else prove '..UptoSaid'. A law counts once. -/
mutual
def uptoBulk {H : Type} : DataW H → Nat
  | .lit (.string bytes) => bytes.length + 1
  | .lit _ => 1
  | .nil => 1
  | .ptr d => uptoBulk d + 1
  | .slice elems spare => uptoBulkAll elems + uptoBulkAll spare + 1
  | .agg parts => uptoBulkAll parts + 1
  | .iface _ d => uptoBulk d + 1
  | .map entries => uptoBulkEntries entries + 1
  | .held _ => 1
def uptoBulkAll {H : Type} : List (DataW H) → Nat
  | [] => 0
  | d :: r => uptoBulk d + uptoBulkAll r
def uptoBulkEntries {H : Type} : List (Lit × DataW H) → Nat
  | [] => 0
  | x :: r => uptoBulkEntry x + uptoBulkEntries r
def uptoBulkEntry {H : Type} : Lit × DataW H → Nat
  | (.string bytes, d) => bytes.length + uptoBulk d + 1
  | (_, d) => uptoBulk d + 1
 end
def uptoSmall : (H : Type) → List (DataW H) → Bool := fun _ ds => decide (uptoBulkAll ds ≤ 1048576)
def OpenSpec.upto (s : _root_.Go.ChangeSpec) : _root_.Go.OpenSpec := { _root_.Go.OpenSpec.ofChange s with cond := some uptoSmall }

/-- 'trothlaw10.ViewJoins', WHERE WHAT IT READS IS OF BULK AT MOST 1048576: true; the input reads as it did. -/
def viewJoinsUptoRow : OpenClaim := { program := "ytkmhabbpndcnkaa", sum := "1b7aeecc7eb15ba6b51533f7b84965be5b1350187ca5703905c060df03d7e489", func := "troth/trothlaw10.ViewJoins", spec := "viewJoins", unfollowed := true, recurses := true, apart := false, narrowed := true }
def ViewJoinsUptoSaid : Prop := viewJoinsUptoRow.holds Try.pinned (OpenSpec.upto viewJoinsSpec)

/-- 'trothlaw10.ViewTells', WHERE WHAT IT READS IS OF BULK AT MOST 1048576: true; the input reads as it did. -/
def viewTellsUptoRow : OpenClaim := { program := "ytkmhabbpndcnkaa", sum := "1b7aeecc7eb15ba6b51533f7b84965be5b1350187ca5703905c060df03d7e489", func := "troth/trothlaw10.ViewTells", spec := "viewTells", unfollowed := true, recurses := true, apart := false, narrowed := true }
def ViewTellsUptoSaid : Prop := viewTellsUptoRow.holds Try.pinned (OpenSpec.upto viewTellsSpec)

/-- 'trothlaw13.TviewGrows', WHERE WHAT IT READS IS OF BULK AT MOST 1048576: true; the input reads as it did. -/
def tviewGrowsUptoRow : OpenClaim := { program := "ytkmhabbpndcnkaa", sum := "1b7aeecc7eb15ba6b51533f7b84965be5b1350187ca5703905c060df03d7e489", func := "troth/trothlaw13.TviewGrows", spec := "tviewGrows", unfollowed := true, recurses := true, apart := false, narrowed := true }
def TviewGrowsUptoSaid : Prop := tviewGrowsUptoRow.holds Try.pinned (OpenSpec.upto tviewGrowsSpec)

/-- 'trothlaw13.TviewPlays', WHERE WHAT IT READS IS OF BULK AT MOST 1048576: true; the input reads as it did. -/
def tviewPlaysUptoRow : OpenClaim := { program := "ytkmhabbpndcnkaa", sum := "1b7aeecc7eb15ba6b51533f7b84965be5b1350187ca5703905c060df03d7e489", func := "troth/trothlaw13.TviewPlays", spec := "tviewPlays", unfollowed := true, recurses := true, apart := false, narrowed := true }
def TviewPlaysUptoSaid : Prop := tviewPlaysUptoRow.holds Try.pinned (OpenSpec.upto tviewPlaysSpec)

/-- 'trothlaw09.SpanTells', WHERE WHAT IT READS IS OF BULK AT MOST 1048576: true; the input reads as it did. -/
def spanTellsUptoRow : OpenClaim := { program := "ytkmhabbpndcnkaa", sum := "1b7aeecc7eb15ba6b51533f7b84965be5b1350187ca5703905c060df03d7e489", func := "troth/trothlaw09.SpanTells", spec := "spanTells", inPlace := ["math.archTrunc", "math.Float64bits", "math.Float64frombits"], apart := false, narrowed := true }
def SpanTellsUptoSaid : Prop := spanTellsUptoRow.holds Try.pinned (OpenSpec.upto spanTellsSpec)

/-- 'trothlaw09.SpanOrder', WHERE WHAT IT READS IS OF BULK AT MOST 1048576: true; the input reads as it did. -/
def spanOrderUptoRow : OpenClaim := { program := "ytkmhabbpndcnkaa", sum := "1b7aeecc7eb15ba6b51533f7b84965be5b1350187ca5703905c060df03d7e489", func := "troth/trothlaw09.SpanOrder", spec := "spanOrder", inPlace := ["math.archTrunc", "math.Float64bits", "math.Float64frombits"], apart := false, narrowed := true }
def SpanOrderUptoSaid : Prop := spanOrderUptoRow.holds Try.pinned (OpenSpec.upto spanOrderSpec)

/-- 'trothlaw15.PlacesTell', WHERE WHAT IT READS IS OF BULK AT MOST 1048576: true; the input reads as it did. -/
def placesTellUptoRow : OpenClaim := { program := "ytkmhabbpndcnkaa", sum := "1b7aeecc7eb15ba6b51533f7b84965be5b1350187ca5703905c060df03d7e489", func := "troth/trothlaw15.PlacesTell", spec := "placesTell", inPlace := ["math.archTrunc", "math.Float64bits", "math.Float64frombits"], unfollowed := true, recurses := true, apart := false, narrowed := true }
def PlacesTellUptoSaid : Prop := placesTellUptoRow.holds Try.pinned (OpenSpec.upto placesTellSpec)

/-- 'trothlaw12.CapFull', WHERE WHAT IT READS IS OF BULK AT MOST 1048576: true; the input reads as it did. -/
def capFullUptoRow : OpenClaim := { program := "ytkmhabbpndcnkaa", sum := "1b7aeecc7eb15ba6b51533f7b84965be5b1350187ca5703905c060df03d7e489", func := "troth/trothlaw12.CapFull", spec := "capFull", inPlace := ["math.archTrunc", "math.Float64bits", "math.Float64frombits"], unfollowed := true, recurses := true, apart := false, narrowed := true }
def CapFullUptoSaid : Prop := capFullUptoRow.holds Try.pinned (OpenSpec.upto capFullSpec)

/-- 'trothlaw12.CapTells', WHERE WHAT IT READS IS OF BULK AT MOST 1048576: true; the input reads as it did. -/
def capTellsUptoRow : OpenClaim := { program := "ytkmhabbpndcnkaa", sum := "1b7aeecc7eb15ba6b51533f7b84965be5b1350187ca5703905c060df03d7e489", func := "troth/trothlaw12.CapTells", spec := "capTells", inPlace := ["math.archTrunc", "math.Float64bits", "math.Float64frombits"], unfollowed := true, recurses := true, apart := false, narrowed := true }
def CapTellsUptoSaid : Prop := capTellsUptoRow.holds Try.pinned (OpenSpec.upto capTellsSpec)

/-- 'trothlaw11.MemoryPlays', WHERE WHAT IT READS IS OF BULK AT MOST 1048576: true; the input reads as it did. -/
def memoryPlaysUptoRow : OpenClaim := { program := "ytkmhabbpndcnkaa", sum := "1b7aeecc7eb15ba6b51533f7b84965be5b1350187ca5703905c060df03d7e489", func := "troth/trothlaw11.MemoryPlays", spec := "memoryPlays", inPlace := ["math.archTrunc", "math.Float64bits", "math.Float64frombits"], unfollowed := true, recurses := true, apart := false, narrowed := true }
def MemoryPlaysUptoSaid : Prop := memoryPlaysUptoRow.holds Try.pinned (OpenSpec.upto memoryPlaysSpec)

/-- 'trothlaw11.MemoryApart', WHERE WHAT IT READS IS OF BULK AT MOST 1048576: true; the input reads as it did. -/
def memoryApartUptoRow : OpenClaim := { program := "ytkmhabbpndcnkaa", sum := "1b7aeecc7eb15ba6b51533f7b84965be5b1350187ca5703905c060df03d7e489", func := "troth/trothlaw11.MemoryApart", spec := "memoryApart", inPlace := ["math.archTrunc", "math.Float64bits", "math.Float64frombits"], unfollowed := true, recurses := true, apart := false, narrowed := true }
def MemoryApartUptoSaid : Prop := memoryApartUptoRow.holds Try.pinned (OpenSpec.upto memoryApartSpec)

end Rows
end Go.Proofs.Ytkmhabbpndcnkaa
