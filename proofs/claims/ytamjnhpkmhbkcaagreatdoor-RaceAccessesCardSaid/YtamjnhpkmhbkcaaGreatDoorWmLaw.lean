/-
  PROVED: the card of RaceAccesses: for all arguments the law's call returns true, its arguments read as before; condition: the tables that are listed hold what the program's text lays there (tied).
-/
import Derived.Test.YtamjnhpkmhbkcaaGreatDoorWm27
import Derived.Test.YtamjnhpkmhbkcaaGreatDoorCards
import Derived.Test.YtamjnhpkmhbkcaaGreatDoorTie
import Derived.SevenTiedAt
namespace Go.Proofs.YtamjnhpkmhbkcaaGreatDoor
open Go.ChangeShapes Go.WideShapes Go.ChangeAt Go.WideMaps Go.WideElems Go.RowKit
set_option maxRecDepth 100000 in
theorem rc_lifted (os : Os) (started : os.Started) (H : Type) (enc : TypeId × Value → H) :
    ReturnsInHanded {} Tryz.checked os 10 .any (fun w args => (Rows.raceAccessesSpec.pre enc Tryz.prog Tryz.f10 [] false w args ∧ laidMetH Tryz.prog laidQ w) ∧ sizedMet enc Tryz.prog Tryz.f10 (OpenSpec.ofChange Rows.raceAccessesSpec) false w args)
      (Rows.raceAccessesSpec.post enc Tryz.prog Tryz.f10 false true false false) :=
  law_lifted_laid (C := Tryz.checked) started own (by kernel_rfl) Tryz.func10 (spec := Rows.raceAccessesSpec) rfl rfl Tryz.underlying4
    (fun H ds h => by match ds, h with | [d, e], _ => exact ⟨rfl, rfl, rfl⟩) (by kernel_rfl) (by kernel_rfl) argsSh10 law10_runs (laid := laidQ) (fun W h hs => globQ h hs) H enc
    (ChangeSpec.witness_shaped (enc := enc) (C := Tryz.checked) (os := os) (X := fun w _ => laidMetH Tryz.prog laidQ w) false (World.doorLaid Tryz.prog 400 os) #[.agg #[.int .u8 0, .int .u8 0, .int .i64 0, .int .u64 0, .int .u64 0], .agg #[.int .u8 0, .int .u8 0, .int .i64 0, .int .u64 0, .int .u64 0]] 8 rfl (World.shaped_of_RefB (by kernel_rfl) (by kernel_rfl)) (by kernel_rfl) (by kernel_rfl) (by kernel_rfl) (door_met os _))
theorem rc_row : Rows.RaceAccessesSaid :=
  OpenClaim.holds_of_wide 10 Tryz.f10 rfl rfl rfl rfl rfl rfl rfl ⟨rfl, rfl, rfl, rfl, rfl⟩ rfl rfl rfl rfl rfl (by kernel_rfl) Tryz.func10 rc_facts
    (of_decide_eq_true (by kernel_rfl)) (by unfold Func.isWrapper; rw [if_neg (of_decide_eq_false (by kernel_rfl))]; exact ⟨rfl, rfl⟩)
    (fun os started H enc _ => rc_lifted os started H enc)
theorem rc_holds : Rows.RaceAccessesCardSaid :=
  Claim7.holds_tied_plain_at .later [] [.data, .data, .data, .sentinel, .sentinel, .data, .data, .data] true (true, "f1df72fc7d1d84aaf1c1db728b0a2b05a0614903027501cf3cd5557d1a8633aa") true
    rc_row (fun _ h => by cases h) rc_wf (fun _ h => by cases h) raceAccesses_row_tie rfl ⟨rfl, rfl⟩ deep_main rfl
    (fun f fn hf hfn => by
      obtain rfl : f = 10 := Option.some.inj ((show Tryz.prog.funcNamed "troth/trothlaw23.RaceAccesses" = some 10 by kernel_rfl).symm.trans hf) |>.symm
      obtain rfl : fn = Tryz.f10 := (Option.some.inj (Tryz.func10.symm.trans hfn)).symm
      exact ⟨deep_looks, fun j t ht => by
        rw [Tryz.params10] at ht
        have hm : t ∈ [78, 78] := by simpa using Array.mem_of_getElem? ht
        have hall : ([78, 78].all fun u => !Tryz.prog.wantsStandIn u) = true := by kernel_rfl
        exact (show Tryz.prog.wantsStandIn t = false by simpa using List.all_eq_true.1 hall t hm)⟩)
    rc_goes
#print axioms rc_holds
end Go.Proofs.YtamjnhpkmhbkcaaGreatDoor
