/-
  PARTS, one behind the other: QD.
-/
import Derived.Test.YtamjnhpkmhbkcaaGreatDoorWd12
/-
  PART: law 6: its wakes.
-/
namespace Go.Proofs.YtamjnhpkmhbkcaaGreatDoor
open Go.RowKit
theorem wk19 : ((evs (cxZ (decL [])) 600).call 19 [] .nil).frz = .ret (.lit (.bool true)) := by kernel_rfl
theorem wakes19 : FrzOk Tryz.prog 19 [] (.lit (.bool true)) := frz_ev (cxZ_ok _) fitTry wk19 fun _ _ h => h
end Go.Proofs.YtamjnhpkmhbkcaaGreatDoor
