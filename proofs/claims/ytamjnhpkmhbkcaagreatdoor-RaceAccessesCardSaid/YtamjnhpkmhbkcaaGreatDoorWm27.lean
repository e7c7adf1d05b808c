/-
  PARTS, one behind the other: RcRE.
-/
import Derived.Test.YtamjnhpkmhbkcaaGreatDoorWm26
import Derived.Test.YtamjnhpkmhbkcaaGreatDoorRows
import Derived.JoinedOf
import Derived.SevenTiedAt
import Derived.KernelRfl
/-
  PART: RaceAccesses: closed facts of its card.
-/
namespace Go.Proofs.YtamjnhpkmhbkcaaGreatDoor
open Go
theorem rc_goes : false = Rows.raceAccessesRow.goesBy Tryz.prog := by kernel_rfl
end Go.Proofs.YtamjnhpkmhbkcaaGreatDoor
