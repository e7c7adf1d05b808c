/-
  PARTS, one behind the other: MdRA.
-/
import Derived.Test.YtamjnhpkmhbkcaaGreatDoorWm22
/-
  PART: ThreadModes: closed facts of its row, together.
-/
namespace Go.Proofs.YtamjnhpkmhbkcaaGreatDoor
open Go
theorem and_tMd {a b : Bool} (h : a = true) (k : b = true) : (a && b) = true := by rw [h, k]; rfl
set_option maxRecDepth 100000 in
theorem md_facts : joinedFacts Tryz.prog 8 Tryz.f8 Rows.threadModesSpec Rows.threadModesRow = true := by
  unfold joinedFacts
  exact (and_tMd (and_tMd (and_tMd (and_tMd (and_tMd (and_tMd (and_tMd (and_tMd (and_tMd (and_tMd (and_tMd (and_tMd (and_tMd (and_tMd (and_tMd (and_tMd (and_tMd (and_tMd (and_tMd (and_tMd (and_tMd (and_tMd (and_tMd (and_tMd (and_tMd (and_tMd (and_tMd (and_tMd (and_tMd (and_tMd (and_tMd factMd0 fact1) fact2) factMd3) factMd4) factMd5) factMd6) factMd7) factMd8) factMd9) factMd10) factMd11) factMd12) factMd13) factMd14) factMd15) factMd16) factMd17) factMd18) factMd19) factMd20) factMd21) factMd22) factMd23) factMd24) fact25) factMd26) factMd27) factMd28) factMd29) factMd30) factMd31)
end Go.Proofs.YtamjnhpkmhbkcaaGreatDoor
