/-
  PART: the program fits the evaluator; contracts of View's functions.
-/
import Derived.Test.YtkmhabbpndcnkaaProg
import Derived.Test.YtkmhabbpndcnkaaNV
namespace Go.Proofs.Ytkmhabbpndcnkaa
open Go.RowKit
theorem fitTry : Fit Try.prog := ⟨by kernel_rfl, by kernel_rfl⟩
end Go.Proofs.Ytkmhabbpndcnkaa
