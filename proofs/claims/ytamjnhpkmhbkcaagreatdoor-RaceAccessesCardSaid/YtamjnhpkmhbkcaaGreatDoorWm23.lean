/-
  PARTS, one behind the other: RcRA.
-/
import Derived.Test.YtamjnhpkmhbkcaaGreatDoorWm22
/-
  PART: RaceAccesses: closed facts of its row, together.
-/
namespace Go.Proofs.YtamjnhpkmhbkcaaGreatDoor
open Go
theorem and_tRc {a b : Bool} (h : a = true) (k : b = true) : (a && b) = true := by rw [h, k]; rfl
set_option maxRecDepth 100000 in
theorem rc_facts : joinedFacts Tryz.prog 10 Tryz.f10 Rows.raceAccessesSpec Rows.raceAccessesRow = true := by
  unfold joinedFacts
  exact (and_tRc (and_tRc (and_tRc (and_tRc (and_tRc (and_tRc (and_tRc (and_tRc (and_tRc (and_tRc (and_tRc (and_tRc (and_tRc (and_tRc (and_tRc (and_tRc (and_tRc (and_tRc (and_tRc (and_tRc (and_tRc (and_tRc (and_tRc (and_tRc (and_tRc (and_tRc (and_tRc (and_tRc (and_tRc (and_tRc (and_tRc factRc0 fact1) fact2) factRc3) factRc4) factRc5) factRc6) factRc7) factRc8) factRc9) factRc10) factRc11) factRc12) factRc13) factRc14) factRc15) factRc16) factRc17) factRc18) factRc19) factRc20) factRc21) factRc22) factRc23) factRc24) fact25) factRc26) factRc27) factRc28) factRc29) factRc30) factRc31)
end Go.Proofs.YtamjnhpkmhbkcaaGreatDoor
