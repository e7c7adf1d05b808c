/-
  PARTS, one behind the other: QB.
-/
import Derived.Test.YtamjnhpkmhbkcaaGreatDoorWd10
/-
  PART: law 6: its ways.
-/
namespace Go.Proofs.YtamjnhpkmhbkcaaGreatDoor
open Go.RowKit
noncomputable section
theorem sa16 (z k : Int) : IsA 16 z k := show rA 16 z k = sidesL (psA 16 z) (.ret (.go .norm (some (sA (.v (.int .u8 k)) (wA 16))))) by kernel_rfl
theorem sa17 (z k : Int) : IsA 17 z k := show rA 17 z k = sidesL (psA 17 z) (.ret (.go .norm (some (sA (.v (.int .u8 k)) (wA 17))))) by kernel_rfl
theorem sa18 (z k : Int) : IsA 18 z k := show rA 18 z k = sidesL (psA 18 z) (.ret (.go .norm (some (sA (.v (.int .u8 k)) (wA 18))))) by kernel_rfl
theorem sa19 (z k : Int) : IsA 19 z k := show rA 19 z k = sidesL (psA 19 z) (.ret (.go .norm (some (sA (.v (.int .u8 k)) (wA 19))))) by kernel_rfl
end
end Go.Proofs.YtamjnhpkmhbkcaaGreatDoor
