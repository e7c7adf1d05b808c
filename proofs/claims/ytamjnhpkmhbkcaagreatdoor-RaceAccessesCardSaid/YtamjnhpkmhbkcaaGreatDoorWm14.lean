/-
  PARTS, one behind the other: R1.
-/
import Derived.Test.YtamjnhpkmhbkcaaGreatDoorWm13
import Derived.Test.YtamjnhpkmhbkcaaGreatDoorRows
import Derived.JoinedOf
import Derived.KernelRfl
/-
  PART: law 6: closed facts of its row, one by one.
-/
namespace Go.Proofs.YtamjnhpkmhbkcaaGreatDoor
open Go
theorem fact1 : (laidOutB Tryz.prog) = true := by kernel_rfl
end Go.Proofs.YtamjnhpkmhbkcaaGreatDoor
