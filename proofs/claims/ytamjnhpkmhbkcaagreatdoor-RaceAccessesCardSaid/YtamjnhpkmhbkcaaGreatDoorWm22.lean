/-
  PARTS, one behind the other: RcR9.
-/
import Derived.Test.YtamjnhpkmhbkcaaGreatDoorWm21
import Derived.Test.YtamjnhpkmhbkcaaGreatDoorRows
import Derived.JoinedOf
import Derived.KernelRfl
/-
  PART: RaceAccesses: closed facts of its row, one by one.
-/
namespace Go.Proofs.YtamjnhpkmhbkcaaGreatDoor
open Go
theorem factRc27 : ((Tryz.prog.make == some Rows.raceAccessesRow.make)) = true := by kernel_rfl
end Go.Proofs.YtamjnhpkmhbkcaaGreatDoor
