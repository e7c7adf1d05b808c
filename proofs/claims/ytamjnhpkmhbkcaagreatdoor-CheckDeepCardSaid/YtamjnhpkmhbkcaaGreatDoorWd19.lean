/-
  PARTS, one behind the other: R4.
-/
import Derived.Test.YtamjnhpkmhbkcaaGreatDoorWd18
import Derived.Test.YtamjnhpkmhbkcaaGreatDoorRows
import Derived.JoinedOf
import Derived.KernelRfl
/-
  PART: law 6: closed facts of its row, one by one.
-/
namespace Go.Proofs.YtamjnhpkmhbkcaaGreatDoor
open Go
theorem fact10 : ((Rows.checkDeepRow.unfollowed == Tryz.prog.unfollowed 4)) = true := by kernel_rfl
end Go.Proofs.YtamjnhpkmhbkcaaGreatDoor
