/-
  PARTS, one behind the other: Q8.
-/
import Derived.Test.YtamjnhpkmhbkcaaGreatDoorWd7
/-
  PART: law 6: its ways.
-/
namespace Go.Proofs.YtamjnhpkmhbkcaaGreatDoor
open Go.RowKit
noncomputable section
theorem sa4 (z k : Int) : IsA 4 z k := show rA 4 z k = sidesL (psA 4 z) (.ret (.go .norm (some (sA (.v (.int .u8 k)) (wA 4))))) by kernel_rfl
theorem sa5 (z k : Int) : IsA 5 z k := show rA 5 z k = sidesL (psA 5 z) (.ret (.go .norm (some (sA (.v (.int .u8 k)) (wA 5))))) by kernel_rfl
theorem sa6 (z k : Int) : IsA 6 z k := show rA 6 z k = sidesL (psA 6 z) (.ret (.go .norm (some (sA (.v (.int .u8 k)) (wA 6))))) by kernel_rfl
theorem sa7 (z k : Int) : IsA 7 z k := show rA 7 z k = sidesL (psA 7 z) (.ret (.go .norm (some (sA (.v (.int .u8 k)) (wA 7))))) by kernel_rfl
end
end Go.Proofs.YtamjnhpkmhbkcaaGreatDoor
