/-
  PARTS, one behind the other: MdR9.
-/
import Derived.Test.YtamjnhpkmhbkcaaGreatDoorWm21
import Derived.Test.YtamjnhpkmhbkcaaGreatDoorRows
import Derived.JoinedOf
import Derived.KernelRfl
/-
  PART: ThreadModes: closed facts of its row, one by one.
-/
namespace Go.Proofs.YtamjnhpkmhbkcaaGreatDoor
open Go
theorem factMd27 : ((Tryz.prog.make == some Rows.threadModesRow.make)) = true := by kernel_rfl
end Go.Proofs.YtamjnhpkmhbkcaaGreatDoor
