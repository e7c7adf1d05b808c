/-
  PARTS, one behind the other: RcR8.
-/
import Derived.Test.YtamjnhpkmhbkcaaGreatDoorWm20
import Derived.Test.YtamjnhpkmhbkcaaGreatDoorRows
import Derived.JoinedOf
import Derived.KernelRfl
/-
  PART: RaceAccesses: closed facts of its row, one by one.
-/
namespace Go.Proofs.YtamjnhpkmhbkcaaGreatDoor
open Go
theorem factRc26 : ((Rows.raceAccessesRow.lifted == Tryz.prog.liftsFinal)) = true := by kernel_rfl
end Go.Proofs.YtamjnhpkmhbkcaaGreatDoor
