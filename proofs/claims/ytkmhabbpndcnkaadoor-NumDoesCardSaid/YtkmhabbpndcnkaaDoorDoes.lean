/-
  PROVED: the card of NumDoes: for every operation and every two words the law's call returns true, its arguments read as before; condition: the table num.texts holds what the program's text lays there (tied).
-/
import Derived.Test.YtkmhabbpndcnkaaDoorE0
import Derived.Test.YtkmhabbpndcnkaaDoorCards
import Derived.Test.YtkmhabbpndcnkaaDoorTie
import Derived.SevenTiedAt
namespace Go.Proofs.YtkmhabbpndcnkaaDoor
open Go

theorem does_holds : Rows.NumDoesCardSaid :=
  Claim7.holds_tied_plain_at .later [] [.data] true (true, "130561625c54cef878b2aa8986b1c3caf16c485475fe40a583dac0c265d07ce8") false
    does_row (fun _ h => by cases h) (by kernel_rfl) (fun _ h => by cases h) numDoes_row_tie rfl ⟨rfl, rfl⟩ (by kernel_rfl) rfl
    (fun f fn hf hfn => by
      obtain rfl : f = 3 := Option.some.inj ((show Tryd.prog.funcNamed "troth/trothlaw01.NumDoes" = some 3 by kernel_rfl).symm.trans hf) |>.symm
      obtain rfl : fn = Tryd.f3 := (Option.some.inj (Tryd.func3.symm.trans hfn)).symm
      exact ⟨by kernel_rfl, fun j t ht => by
        rw [Tryd.params3] at ht
        have hm : t ∈ [5, 22, 22] := by simpa using Array.mem_of_getElem? ht
        have hall : ([5, 22, 22].all fun u => !Tryd.prog.wantsStandIn u) = true := by kernel_rfl
        exact (show Tryd.prog.wantsStandIn t = false by simpa using List.all_eq_true.1 hall t hm)⟩)
    (by kernel_rfl)
#print axioms does_holds
end Go.Proofs.YtkmhabbpndcnkaaDoor
