/-
  PARTS, one behind the other: R7.
-/
import Derived.Test.YtamjnhpkmhbkcaaGreatDoorWm19
import Derived.Test.YtamjnhpkmhbkcaaGreatDoorRows
import Derived.JoinedOf
import Derived.KernelRfl
/-
  PART: law 6: closed facts of its row, one by one.
-/
namespace Go.Proofs.YtamjnhpkmhbkcaaGreatDoor
open Go
theorem fact25 : (Tryz.prog.mayEnter) = true := by kernel_rfl
end Go.Proofs.YtamjnhpkmhbkcaaGreatDoor
