/-
  PARTS, one behind the other: RcR4.
-/
import Derived.Test.YtamjnhpkmhbkcaaGreatDoorWm16
import Derived.Test.YtamjnhpkmhbkcaaGreatDoorRows
import Derived.JoinedOf
import Derived.KernelRfl
/-
  PART: RaceAccesses: closed facts of its row, one by one.
-/
namespace Go.Proofs.YtamjnhpkmhbkcaaGreatDoor
open Go
theorem factRc10 : ((Rows.raceAccessesRow.unfollowed == Tryz.prog.unfollowed 10)) = true := by kernel_rfl
end Go.Proofs.YtamjnhpkmhbkcaaGreatDoor
