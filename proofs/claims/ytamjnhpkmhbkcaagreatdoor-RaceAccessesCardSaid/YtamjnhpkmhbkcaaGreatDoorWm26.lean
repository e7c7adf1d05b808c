/-
  PARTS, one behind the other: RD.
-/
import Derived.Test.YtamjnhpkmhbkcaaGreatDoorWm25
import Derived.Test.YtamjnhpkmhbkcaaGreatDoorRows
import Derived.JoinedOf
import Derived.SevenTiedAt
import Derived.KernelRfl
/-
  PART: law 6: closed facts of its card.
-/
namespace Go.Proofs.YtamjnhpkmhbkcaaGreatDoor
open Go
theorem deep_looks : true = Tryz.prog.looks [] := by kernel_rfl
end Go.Proofs.YtamjnhpkmhbkcaaGreatDoor
