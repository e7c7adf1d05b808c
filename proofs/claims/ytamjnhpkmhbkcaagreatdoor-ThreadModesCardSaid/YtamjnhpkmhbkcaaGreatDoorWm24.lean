/-
  PARTS, one behind the other: MdRB.
-/
import Derived.Test.YtamjnhpkmhbkcaaGreatDoorWm23
import Derived.Test.YtamjnhpkmhbkcaaGreatDoorRows
import Derived.JoinedOf
import Derived.SevenTiedAt
import Derived.KernelRfl
/-
  PART: ThreadModes: closed facts of its card.
-/
namespace Go.Proofs.YtamjnhpkmhbkcaaGreatDoor
open Go
theorem md_wf : Rows.threadModesRow.wfByText (OpenSpec.ofChange Rows.threadModesSpec) = true := by kernel_rfl
end Go.Proofs.YtamjnhpkmhbkcaaGreatDoor
