/-
  PART: what the package-level variables hold that are read: the words of operations.
-/
import Derived.WalkKit
import Derived.KernelRfl
namespace Go.Proofs.YtdlghljhgbakjaaDoor
open Go.RowKit
def bytesV (l : List UInt8) : Value := .string ⟨l.toArray⟩
/-- num.texts. -/
def txtsL : List (List UInt8) := [[], [61, 61], [33, 61], [60], [60, 61], [43], [45], [124], [94], [42], [47], [37], [38], [33], [45]]
/-- A variable's cells, where they are known. -/
def GM (g : Nat) : Option (Array Value) := match Nat.beq g 1 with
  | true => some (txtsL.map bytesV).toArray
  | false => none
end Go.Proofs.YtdlghljhgbakjaaDoor
