/-
  PROVED: the card of ExprTells: for every row of items and every row of numbers the law's call returns true, its arguments read as before; condition: the tables that are listed hold what the program's text lays there (tied).
-/
import Derived.Test.YtdlghljhgbakjaaDoorWt14
import Derived.Test.YtdlghljhgbakjaaDoorCards
import Derived.Test.YtdlghljhgbakjaaDoorTie
import Derived.SevenTiedAt
namespace Go.Proofs.YtdlghljhgbakjaaDoor
open Go.ChangeShapes Go.WideShapes Go.ChangeAt Go.WideMaps Go.WideElems Go.RowKit
set_option maxRecDepth 100000 in
theorem tells_lifted (os : Os) (started : os.Started) (H : Type) (enc : TypeId × Value → H) :
    ReturnsInHanded {} Tryd.checked os 5 .any (fun w args => (Rows.exprTellsSpec.pre enc Tryd.prog Tryd.f5 [] false w args ∧ laidMetH Tryd.prog laidE w) ∧ sizedMet enc Tryd.prog Tryd.f5 (OpenSpec.ofChange Rows.exprTellsSpec) false w args)
      (Rows.exprTellsSpec.post enc Tryd.prog Tryd.f5 false true false false) :=
  law_lifted_laid (C := Tryd.checked) started own (by kernel_rfl) Tryd.func5 (spec := Rows.exprTellsSpec) rfl rfl Tryd.underlying4
    (fun H ds h => by match ds, h with | [d, e], _ => exact ⟨rfl, rfl, rfl⟩) (by kernel_rfl) (by kernel_rfl) argsSh5 law5_runs (laid := laidE) (fun W h => globE h) H enc
    (ChangeSpec.witness_shaped (enc := enc) (C := Tryd.checked) (os := os) (X := fun w _ => laidMetH Tryd.prog laidE w) false (World.doorLaid Tryd.prog 400 os) #[.slice none 0 0, .slice none 0 0] 8 rfl (World.shaped_of_RefB (by kernel_rfl) (by kernel_rfl)) (by kernel_rfl) (by kernel_rfl) (by kernel_rfl) (door_met os _))
theorem tells_row : Rows.ExprTellsSaid :=
  OpenClaim.holds_of_wide 5 Tryd.f5 rfl rfl rfl rfl rfl rfl rfl ⟨rfl, rfl, rfl, rfl, rfl⟩ rfl rfl rfl rfl rfl (by kernel_rfl) Tryd.func5 (by kernel_rfl)
    (of_decide_eq_true (by kernel_rfl)) (by unfold Func.isWrapper; rw [if_neg (of_decide_eq_false (by kernel_rfl))]; exact ⟨rfl, rfl⟩)
    (fun os started H enc _ => tells_lifted os started H enc)
theorem tells_holds : Rows.ExprTellsCardSaid :=
  Claim7.holds_tied_plain_at .later [] [.data, .data, .data, .data] true (true, "13e475395e095c03297919b0a3b0d2c8a482c835a7efcddd8274336c25a48a7d") true
    tells_row (fun _ h => by cases h) (by kernel_rfl) (fun _ h => by cases h) exprTells_row_tie rfl ⟨rfl, rfl⟩ (by kernel_rfl) rfl
    (fun f fn hf hfn => by
      obtain rfl : f = 5 := Option.some.inj ((show Tryd.prog.funcNamed "troth/trothlaw03.ExprTells" = some 5 by kernel_rfl).symm.trans hf) |>.symm
      obtain rfl : fn = Tryd.f5 := (Option.some.inj (Tryd.func5.symm.trans hfn)).symm
      exact ⟨by kernel_rfl, fun j t ht => by
        rw [Tryd.params5] at ht
        have hm : t ∈ [22, 42] := by simpa using Array.mem_of_getElem? ht
        have hall : ([22, 42].all fun u => !Tryd.prog.wantsStandIn u) = true := by kernel_rfl
        exact (show Tryd.prog.wantsStandIn t = false by simpa using List.all_eq_true.1 hall t hm)⟩)
    (by kernel_rfl)
#print axioms tells_holds
end Go.Proofs.YtdlghljhgbakjaaDoor
