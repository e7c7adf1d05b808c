/-
  PARTS, one behind the other: RcR5.
-/
import Derived.Test.YtamjnhpkmhbkcaaGreatDoorWm17
import Derived.Test.YtamjnhpkmhbkcaaGreatDoorRows
import Derived.JoinedOf
import Derived.KernelRfl
/-
  PART: RaceAccesses: closed facts of its row, one by one.
-/
namespace Go.Proofs.YtamjnhpkmhbkcaaGreatDoor
open Go
theorem factRc11 : ((Rows.raceAccessesRow.recurses == Tryz.prog.recurses 10)) = true := by kernel_rfl
end Go.Proofs.YtamjnhpkmhbkcaaGreatDoor
