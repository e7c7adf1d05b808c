/-
  PARTS, one behind the other: RcR6.
-/
import Derived.Test.YtamjnhpkmhbkcaaGreatDoorWm18
import Derived.Test.YtamjnhpkmhbkcaaGreatDoorRows
import Derived.JoinedOf
import Derived.KernelRfl
/-
  PART: RaceAccesses: closed facts of its row, one by one.
-/
namespace Go.Proofs.YtamjnhpkmhbkcaaGreatDoor
open Go
theorem factRc12 : ((Rows.raceAccessesRow.named == Tryz.prog.varsNamed 10)) = true := by kernel_rfl
end Go.Proofs.YtamjnhpkmhbkcaaGreatDoor
