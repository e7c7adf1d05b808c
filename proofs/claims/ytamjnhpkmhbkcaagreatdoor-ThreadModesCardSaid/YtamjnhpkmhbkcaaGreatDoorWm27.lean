/-
  PARTS, one behind the other: MdRE.
-/
import Derived.Test.YtamjnhpkmhbkcaaGreatDoorWm26
import Derived.Test.YtamjnhpkmhbkcaaGreatDoorRows
import Derived.JoinedOf
import Derived.SevenTiedAt
import Derived.KernelRfl
/-
  PART: ThreadModes: closed facts of its card.
-/
namespace Go.Proofs.YtamjnhpkmhbkcaaGreatDoor
open Go
theorem md_goes : false = Rows.threadModesRow.goesBy Tryz.prog := by kernel_rfl
end Go.Proofs.YtamjnhpkmhbkcaaGreatDoor
