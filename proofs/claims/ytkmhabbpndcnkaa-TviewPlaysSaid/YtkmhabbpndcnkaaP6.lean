/-
  PART: contracts of tview's functions: Fence.
-/
import Derived.Test.YtkmhabbpndcnkaaP5
namespace Go.Proofs.Ytkmhabbpndcnkaa
open Go.RowKit
def noFence (md : Int) : Bool := if decide (md < 3) = true then true else decide (md > 6)
/-- S with what is known by now. -/
def allF (s c : Nat → Int) (md : Int) : Nat → Int := fun j => joinF (fun j => s (j % 4)) (fun j => if (md != 3) = true then c (4 + j % 4) else c (4 + j % 4)) (4 + j % 4)
def fenceX (f s c : Nat → Int) (md : Int) (i : Nat) : Int :=
  if i < 8 then (if (md == 6) = true then joinF (fun j => if (md != 3) = true then c j else c j) (allF s c md) i else if (md != 3) = true then c i else c i)
  else if i < 16 then (if (md == 6) = true then joinF (fun j => if (md != 3) = true then f (8 + j) else f (8 + j)) (allF s c md) (i - 8) else if (md != 3) = true then f i else f i)
  else (if (md == 6) = true then joinF (fun j => if (md != 3) = true then joinF (part f (i / 8 * 8)) c j else f (i / 8 * 8 + j)) (allF s c md) (i % 8) else if (md != 3) = true then joinF (part f (i / 8 * 8)) c (i % 8) else f i)
def fenceE (f s : Nat → Int) (md : Int) (i : Nat) : Int := if noFence md = true then f i else if (md != 4) = true then fenceX f s (joinF (part f 0) (part f 8)) md i else fenceX f s (part f 0) md i
def fenceS (f s : Nat → Int) (md : Int) (i : Nat) : Int := if noFence md = true then s i else if (md != 4) = true then (if (md == 6) = true then allF s (joinF (part f 0) (part f 8)) md i else s i) else (if (md == 6) = true then allF s (part f 0) md i else s i)
def fenceA (f s : Nat → Int) (md : Int) : AV := .tup [.agg (ivs 48 (fenceE f s md)), .agg (ivs 4 (fenceS f s md)), .v (.bool !noFence md)]
theorem fence_pure (f s : Nat → Int) (md : Int) : PureOk Try.prog 24 [.agg (ivs 48 f), .v (.int .u8 md), .agg (ivs 4 s)] (fenceA f s md) :=
  pure_hitV (t := .ret (fenceA f s md)) (by kernel_rfl) rfl (by kernel_rfl)
end Go.Proofs.Ytkmhabbpndcnkaa
