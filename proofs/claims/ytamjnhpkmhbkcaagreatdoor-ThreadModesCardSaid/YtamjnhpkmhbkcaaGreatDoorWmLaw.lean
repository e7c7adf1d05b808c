/-
  PROVED: the card of ThreadModes: for all arguments the law's call returns true, its arguments read as before; condition: the tables that are listed hold what the program's text lays there (tied).
-/
import Derived.Test.YtamjnhpkmhbkcaaGreatDoorWm27
import Derived.Test.YtamjnhpkmhbkcaaGreatDoorCards
import Derived.Test.YtamjnhpkmhbkcaaGreatDoorTie
import Derived.SevenTiedAt
namespace Go.Proofs.YtamjnhpkmhbkcaaGreatDoor
open Go.ChangeShapes Go.WideShapes Go.ChangeAt Go.WideMaps Go.WideElems Go.RowKit
set_option maxRecDepth 100000 in
theorem md_lifted (os : Os) (started : os.Started) (H : Type) (enc : TypeId × Value → H) :
    ReturnsInHanded {} Tryz.checked os 8 .any (fun w args => (Rows.threadModesSpec.pre enc Tryz.prog Tryz.f8 [] false w args ∧ laidMetH Tryz.prog laidQ w) ∧ sizedMet enc Tryz.prog Tryz.f8 (OpenSpec.ofChange Rows.threadModesSpec) false w args)
      (Rows.threadModesSpec.post enc Tryz.prog Tryz.f8 false true false false) :=
  law_lifted_laid (C := Tryz.checked) started own (by kernel_rfl) Tryz.func8 (spec := Rows.threadModesSpec) rfl rfl Tryz.underlying4
    (fun H ds h => by match ds, h with | [d, e], _ => exact ⟨rfl, rfl, rfl⟩) (by kernel_rfl) (by kernel_rfl) argsSh8 law8_runs (laid := laidQ) (fun W h hs => globQ h hs) H enc
    (ChangeSpec.witness_shaped (enc := enc) (C := Tryz.checked) (os := os) (X := fun w _ => laidMetH Tryz.prog laidQ w) false (World.doorLaid Tryz.prog 400 os) #[.agg #[.int .u8 0, .int .u8 0, .int .i64 0, .int .u64 0, .int .u64 0], .int .u64 0] 8 rfl (World.shaped_of_RefB (by kernel_rfl) (by kernel_rfl)) (by kernel_rfl) (by kernel_rfl) (by kernel_rfl) (door_met os _))
theorem md_row : Rows.ThreadModesSaid :=
  OpenClaim.holds_of_wide 8 Tryz.f8 rfl rfl rfl rfl rfl rfl rfl ⟨rfl, rfl, rfl, rfl, rfl⟩ rfl rfl rfl rfl rfl (by kernel_rfl) Tryz.func8 md_facts
    (of_decide_eq_true (by kernel_rfl)) (by unfold Func.isWrapper; rw [if_neg (of_decide_eq_false (by kernel_rfl))]; exact ⟨rfl, rfl⟩)
    (fun os started H enc _ => md_lifted os started H enc)
theorem md_holds : Rows.ThreadModesCardSaid :=
  Claim7.holds_tied_plain_at .later [] [.data, .data, .data, .sentinel, .sentinel, .data, .data, .data] true (true, "f1df72fc7d1d84aaf1c1db728b0a2b05a0614903027501cf3cd5557d1a8633aa") true
    md_row (fun _ h => by cases h) md_wf (fun _ h => by cases h) threadModes_row_tie rfl ⟨rfl, rfl⟩ deep_main rfl
    (fun f fn hf hfn => by
      obtain rfl : f = 8 := Option.some.inj ((show Tryz.prog.funcNamed "troth/trothlaw08.ThreadModes" = some 8 by kernel_rfl).symm.trans hf) |>.symm
      obtain rfl : fn = Tryz.f8 := (Option.some.inj (Tryz.func8.symm.trans hfn)).symm
      exact ⟨deep_looks, fun j t ht => by
        rw [Tryz.params8] at ht
        have hm : t ∈ [81, 42] := by simpa using Array.mem_of_getElem? ht
        have hall : ([81, 42].all fun u => !Tryz.prog.wantsStandIn u) = true := by kernel_rfl
        exact (show Tryz.prog.wantsStandIn t = false by simpa using List.all_eq_true.1 hall t hm)⟩)
    md_goes
#print axioms md_holds
end Go.Proofs.YtamjnhpkmhbkcaaGreatDoor
