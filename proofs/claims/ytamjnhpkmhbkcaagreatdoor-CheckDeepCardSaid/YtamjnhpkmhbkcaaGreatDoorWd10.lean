/-
  PARTS, one behind the other: QA.
-/
import Derived.Test.YtamjnhpkmhbkcaaGreatDoorWd9
/-
  PART: law 6: its ways.
-/
namespace Go.Proofs.YtamjnhpkmhbkcaaGreatDoor
open Go.RowKit
noncomputable section
theorem sa12 (z k : Int) : IsA 12 z k := show rA 12 z k = sidesL (psA 12 z) (.ret (.go .norm (some (sA (.v (.int .u8 k)) (wA 12))))) by kernel_rfl
theorem sa13 (z k : Int) : IsA 13 z k := show rA 13 z k = sidesL (psA 13 z) (.ret (.go .norm (some (sA (.v (.int .u8 k)) (wA 13))))) by kernel_rfl
theorem sa14 (z k : Int) : IsA 14 z k := show rA 14 z k = sidesL (psA 14 z) (.ret (.go .norm (some (sA (.v (.int .u8 k)) (wA 14))))) by kernel_rfl
theorem sa15 (z k : Int) : IsA 15 z k := show rA 15 z k = sidesL (psA 15 z) (.ret (.go .norm (some (sA (.v (.int .u8 k)) (wA 15))))) by kernel_rfl
end
end Go.Proofs.YtamjnhpkmhbkcaaGreatDoor
