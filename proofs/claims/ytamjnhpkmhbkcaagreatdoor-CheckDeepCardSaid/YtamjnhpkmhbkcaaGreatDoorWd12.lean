/-
  PARTS, one behind the other: QC.
-/
import Derived.Test.YtamjnhpkmhbkcaaGreatDoorWd11
/-
  PART: law 6 (CheckDeep): what is behind the loop, kind by kind.
-/
namespace Go.Proofs.YtamjnhpkmhbkcaaGreatDoor
open Go.RowKit
noncomputable section
noncomputable def TBw (w : Int) : Tree Lf := .side ((w == w) = true → FrzOk Tryz.prog 19 [] (.lit (.bool true))) (.ret (.out (.v (.bool (w == w)))))
noncomputable def kOpen (k : Int) : Prop := (if decide (k < 1) = true then true else decide (IntKind.i64.wrap k ≥ 10)) = true
theorem sb1 (w : Int) : rB [] (u8L 1) w = TBw w := by kernel_rfl
theorem sb2 (w : Int) : rB [] (u8L 2) w = TBw w := by kernel_rfl
theorem sb3 (w : Int) : rB [] (u8L 3) w = TBw w := by kernel_rfl
theorem sb4 (w : Int) : rB [] (u8L 4) w = TBw w := by kernel_rfl
theorem sb5 (w : Int) : rB [] (u8L 5) w = TBw w := by kernel_rfl
theorem sb6 (w : Int) : rB [] (u8L 6) w = TBw w := by kernel_rfl
theorem sb7 (w : Int) : rB [] (u8L 7) w = TBw w := by kernel_rfl
theorem sb8 (w : Int) : rB [] (u8L 8) w = TBw w := by kernel_rfl
theorem sb9 (w : Int) : rB [] (u8L 9) w = TBw w := by kernel_rfl
theorem sbo (w k : Int) : rB [(13,true)] (.v (.int .u8 k)) w = .side (kOpen k) (.side (kOpen k) (TBw w)) := by kernel_rfl
end
end Go.Proofs.YtamjnhpkmhbkcaaGreatDoor
