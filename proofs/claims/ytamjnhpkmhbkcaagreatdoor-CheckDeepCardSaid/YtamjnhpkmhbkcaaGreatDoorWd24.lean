/-
  PARTS, one behind the other: R9.
-/
import Derived.Test.YtamjnhpkmhbkcaaGreatDoorWd23
import Derived.Test.YtamjnhpkmhbkcaaGreatDoorRows
import Derived.JoinedOf
import Derived.KernelRfl
/-
  PART: law 6: closed facts of its row, one by one.
-/
namespace Go.Proofs.YtamjnhpkmhbkcaaGreatDoor
open Go
theorem fact27 : ((Tryz.prog.make == some Rows.checkDeepRow.make)) = true := by kernel_rfl
end Go.Proofs.YtamjnhpkmhbkcaaGreatDoor
