/-
  PARTS, one behind the other: R2.
-/
import Derived.Test.YtamjnhpkmhbkcaaGreatDoorWm14
import Derived.Test.YtamjnhpkmhbkcaaGreatDoorRows
import Derived.JoinedOf
import Derived.KernelRfl
/-
  PART: law 6: closed facts of its row, one by one.
-/
namespace Go.Proofs.YtamjnhpkmhbkcaaGreatDoor
open Go
theorem fact2 : (mapsRowed Tryz.prog) = true := by kernel_rfl
end Go.Proofs.YtamjnhpkmhbkcaaGreatDoor
