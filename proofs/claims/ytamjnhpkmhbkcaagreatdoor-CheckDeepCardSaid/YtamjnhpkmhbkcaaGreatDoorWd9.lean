/-
  PARTS, one behind the other: Q9.
-/
import Derived.Test.YtamjnhpkmhbkcaaGreatDoorWd8
/-
  PART: law 6: its ways.
-/
namespace Go.Proofs.YtamjnhpkmhbkcaaGreatDoor
open Go.RowKit
noncomputable section
theorem sa8 (z k : Int) : IsA 8 z k := show rA 8 z k = sidesL (psA 8 z) (.ret (.go .norm (some (sA (.v (.int .u8 k)) (wA 8))))) by kernel_rfl
theorem sa9 (z k : Int) : IsA 9 z k := show rA 9 z k = sidesL (psA 9 z) (.ret (.go .norm (some (sA (.v (.int .u8 k)) (wA 9))))) by kernel_rfl
theorem sa10 (z k : Int) : IsA 10 z k := show rA 10 z k = sidesL (psA 10 z) (.ret (.go .norm (some (sA (.v (.int .u8 k)) (wA 10))))) by kernel_rfl
theorem sa11 (z k : Int) : IsA 11 z k := show rA 11 z k = sidesL (psA 11 z) (.ret (.go .norm (some (sA (.v (.int .u8 k)) (wA 11))))) by kernel_rfl
end
end Go.Proofs.YtamjnhpkmhbkcaaGreatDoor
