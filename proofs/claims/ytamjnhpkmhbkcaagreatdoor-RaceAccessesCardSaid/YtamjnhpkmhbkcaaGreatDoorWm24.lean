/-
  PARTS, one behind the other: RcRB.
-/
import Derived.Test.YtamjnhpkmhbkcaaGreatDoorWm23
import Derived.Test.YtamjnhpkmhbkcaaGreatDoorRows
import Derived.JoinedOf
import Derived.SevenTiedAt
import Derived.KernelRfl
/-
  PART: RaceAccesses: closed facts of its card.
-/
namespace Go.Proofs.YtamjnhpkmhbkcaaGreatDoor
open Go
theorem rc_wf : Rows.raceAccessesRow.wfByText (OpenSpec.ofChange Rows.raceAccessesSpec) = true := by kernel_rfl
end Go.Proofs.YtamjnhpkmhbkcaaGreatDoor
