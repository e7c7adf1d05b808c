/-
  PARTS, one behind the other: Q7.
-/
import Derived.Test.YtamjnhpkmhbkcaaGreatDoorWd6
/-
  PART: law 6: its ways.
-/
namespace Go.Proofs.YtamjnhpkmhbkcaaGreatDoor
open Go.RowKit
noncomputable section
theorem sa0 (z k : Int) : IsA 0 z k := show rA 0 z k = sidesL (psA 0 z) (.ret (.go .norm (some (sA (.v (.int .u8 k)) (wA 0))))) by kernel_rfl
theorem sa1 (z k : Int) : IsA 1 z k := show rA 1 z k = sidesL (psA 1 z) (.ret (.go .norm (some (sA (.v (.int .u8 k)) (wA 1))))) by kernel_rfl
theorem sa2 (z k : Int) : IsA 2 z k := show rA 2 z k = sidesL (psA 2 z) (.ret (.go .norm (some (sA (.v (.int .u8 k)) (wA 2))))) by kernel_rfl
theorem sa3 (z k : Int) : IsA 3 z k := show rA 3 z k = sidesL (psA 3 z) (.ret (.go .norm (some (sA (.v (.int .u8 k)) (wA 3))))) by kernel_rfl
end
end Go.Proofs.YtamjnhpkmhbkcaaGreatDoor
