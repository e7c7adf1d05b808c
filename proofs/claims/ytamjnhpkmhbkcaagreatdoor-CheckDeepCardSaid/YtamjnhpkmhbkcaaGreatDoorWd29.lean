/-
  PARTS, one behind the other: RE.
-/
import Derived.Test.YtamjnhpkmhbkcaaGreatDoorWd28
import Derived.Test.YtamjnhpkmhbkcaaGreatDoorRows
import Derived.JoinedOf
import Derived.SevenTiedAt
import Derived.KernelRfl
/-
  PART: law 6: closed facts of its card.
-/
namespace Go.Proofs.YtamjnhpkmhbkcaaGreatDoor
open Go
theorem deep_goes : false = Rows.checkDeepRow.goesBy Tryz.prog := by kernel_rfl
end Go.Proofs.YtamjnhpkmhbkcaaGreatDoor
