/-
  PROVED: the card of CheckDeep: for all two bytes the law's call returns true, its arguments read as before; condition: the tables that are listed hold what the program's text lays there (tied).
-/
import Derived.Test.YtamjnhpkmhbkcaaGreatDoorWd29
import Derived.Test.YtamjnhpkmhbkcaaGreatDoorCards
import Derived.Test.YtamjnhpkmhbkcaaGreatDoorTie
import Derived.SevenTiedAt
namespace Go.Proofs.YtamjnhpkmhbkcaaGreatDoor
open Go.ChangeShapes Go.WideShapes Go.ChangeAt Go.WideMaps Go.WideElems Go.RowKit
set_option maxRecDepth 100000 in
theorem deep_lifted (os : Os) (started : os.Started) (H : Type) (enc : TypeId × Value → H) :
    ReturnsInHanded {} Tryz.checked os 4 .any (fun w args => (Rows.checkDeepSpec.pre enc Tryz.prog Tryz.f4 [] false w args ∧ laidMetH Tryz.prog laidQ w) ∧ sizedMet enc Tryz.prog Tryz.f4 (OpenSpec.ofChange Rows.checkDeepSpec) false w args)
      (Rows.checkDeepSpec.post enc Tryz.prog Tryz.f4 false true false false) :=
  law_lifted_laid (C := Tryz.checked) started own (by kernel_rfl) Tryz.func4 (spec := Rows.checkDeepSpec) rfl rfl Tryz.underlying4
    (fun H ds h => by match ds, h with | [d, e], _ => exact ⟨rfl, rfl, rfl⟩) (by kernel_rfl) (by kernel_rfl) argsSh4 law4_runs (laid := laidQ) (fun W h hs => globQ h hs) H enc
    (ChangeSpec.witness_shaped (enc := enc) (C := Tryz.checked) (os := os) (X := fun w _ => laidMetH Tryz.prog laidQ w) false (World.doorLaid Tryz.prog 400 os) #[.int .u8 0, .int .u8 0] 8 rfl (World.shaped_of_RefB (by kernel_rfl) (by kernel_rfl)) (by kernel_rfl) (by kernel_rfl) (by kernel_rfl) (door_met os _))
theorem deep_row : Rows.CheckDeepSaid :=
  OpenClaim.holds_of_wide 4 Tryz.f4 rfl rfl rfl rfl rfl rfl rfl ⟨rfl, rfl, rfl, rfl, rfl⟩ rfl rfl rfl rfl rfl (by kernel_rfl) Tryz.func4 deep_facts
    (of_decide_eq_true (by kernel_rfl)) (by unfold Func.isWrapper; rw [if_neg (of_decide_eq_false (by kernel_rfl))]; exact ⟨rfl, rfl⟩)
    (fun os started H enc _ => deep_lifted os started H enc)
theorem deep_holds : Rows.CheckDeepCardSaid :=
  Claim7.holds_tied_plain_at .later [] [.data, .data, .data, .sentinel, .sentinel, .data, .data, .data] true (true, "f1df72fc7d1d84aaf1c1db728b0a2b05a0614903027501cf3cd5557d1a8633aa") true
    deep_row (fun _ h => by cases h) deep_wf (fun _ h => by cases h) checkDeep_row_tie rfl ⟨rfl, rfl⟩ deep_main rfl
    (fun f fn hf hfn => by
      obtain rfl : f = 4 := Option.some.inj ((show Tryz.prog.funcNamed "troth/trothlaw06.CheckDeep" = some 4 by kernel_rfl).symm.trans hf) |>.symm
      obtain rfl : fn = Tryz.f4 := (Option.some.inj (Tryz.func4.symm.trans hfn)).symm
      exact ⟨deep_looks, fun j t ht => by
        rw [Tryz.params4] at ht
        have hm : t ∈ [5, 5] := by simpa using Array.mem_of_getElem? ht
        have hall : ([5, 5].all fun u => !Tryz.prog.wantsStandIn u) = true := by kernel_rfl
        exact (show Tryz.prog.wantsStandIn t = false by simpa using List.all_eq_true.1 hall t hm)⟩)
    deep_goes
#print axioms deep_holds
end Go.Proofs.YtamjnhpkmhbkcaaGreatDoor
