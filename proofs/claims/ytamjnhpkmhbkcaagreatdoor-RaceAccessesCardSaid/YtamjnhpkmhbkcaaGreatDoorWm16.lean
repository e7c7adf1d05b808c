/-
  PARTS, one behind the other: RcR3.
-/
import Derived.Test.YtamjnhpkmhbkcaaGreatDoorWm15
import Derived.Test.YtamjnhpkmhbkcaaGreatDoorRows
import Derived.JoinedOf
import Derived.KernelRfl
/-
  PART: RaceAccesses: closed facts of its row, one by one.
-/
namespace Go.Proofs.YtamjnhpkmhbkcaaGreatDoor
open Go
theorem factRc9 : ((Rows.raceAccessesRow.inPlace == Tryz.prog.inPlace 10)) = true := by kernel_rfl
end Go.Proofs.YtamjnhpkmhbkcaaGreatDoor
