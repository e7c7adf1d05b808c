/-
  PARTS, one behind the other: MdR8.
-/
import Derived.Test.YtamjnhpkmhbkcaaGreatDoorWm20
import Derived.Test.YtamjnhpkmhbkcaaGreatDoorRows
import Derived.JoinedOf
import Derived.KernelRfl
/-
  PART: ThreadModes: closed facts of its row, one by one.
-/
namespace Go.Proofs.YtamjnhpkmhbkcaaGreatDoor
open Go
theorem factMd26 : ((Rows.threadModesRow.lifted == Tryz.prog.liftsFinal)) = true := by kernel_rfl
end Go.Proofs.YtamjnhpkmhbkcaaGreatDoor
