/-
  PARTS, one behind the other: RB.
-/
import Derived.Test.YtamjnhpkmhbkcaaGreatDoorWd25
import Derived.Test.YtamjnhpkmhbkcaaGreatDoorRows
import Derived.JoinedOf
import Derived.SevenTiedAt
import Derived.KernelRfl
/-
  PART: law 6: closed facts of its card.
-/
namespace Go.Proofs.YtamjnhpkmhbkcaaGreatDoor
open Go
theorem deep_wf : Rows.checkDeepRow.wfByText (OpenSpec.ofChange Rows.checkDeepSpec) = true := by kernel_rfl
end Go.Proofs.YtamjnhpkmhbkcaaGreatDoor
