/-
  PARTS, one behind the other: MdR5.
-/
import Derived.Test.YtamjnhpkmhbkcaaGreatDoorWm17
import Derived.Test.YtamjnhpkmhbkcaaGreatDoorRows
import Derived.JoinedOf
import Derived.KernelRfl
/-
  PART: ThreadModes: closed facts of its row, one by one.
-/
namespace Go.Proofs.YtamjnhpkmhbkcaaGreatDoor
open Go
theorem factMd11 : ((Rows.threadModesRow.recurses == Tryz.prog.recurses 8)) = true := by kernel_rfl
end Go.Proofs.YtamjnhpkmhbkcaaGreatDoor
