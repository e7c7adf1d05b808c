/-
  PARTS, one behind the other: RC.
-/
import Derived.Test.YtamjnhpkmhbkcaaGreatDoorWm24
import Derived.Test.YtamjnhpkmhbkcaaGreatDoorRows
import Derived.JoinedOf
import Derived.SevenTiedAt
import Derived.KernelRfl
/-
  PART: law 6: closed facts of its card.
-/
namespace Go.Proofs.YtamjnhpkmhbkcaaGreatDoor
open Go
theorem deep_main : Tryz.prog.mainIs = some ((true, "f1df72fc7d1d84aaf1c1db728b0a2b05a0614903027501cf3cd5557d1a8633aa").1, ((true, "f1df72fc7d1d84aaf1c1db728b0a2b05a0614903027501cf3cd5557d1a8633aa") : Bool × String).2.toList) := by kernel_rfl
end Go.Proofs.YtamjnhpkmhbkcaaGreatDoor
