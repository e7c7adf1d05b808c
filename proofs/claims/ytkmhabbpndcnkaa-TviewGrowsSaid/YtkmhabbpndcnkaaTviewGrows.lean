/-
  PROVED: for whatever acts, the law trothlaw13.TviewGrows returns true, and its argument reads behind the call as before. No condition.
-/
import Derived.Test.YtkmhabbpndcnkaaPB
import Derived.Test.YtkmhabbpndcnkaaRows
namespace Go.Proofs.Ytkmhabbpndcnkaa
open Go.RowKit
set_option maxRecDepth 100000 in
theorem tviewGrows_lifted (os : Os) (started : os.Started) (H : Type) (enc : TypeId × Value → H) :
    ReturnsInHanded {} Try.checked os 5 .any (Rows.tviewGrowsSpec.pre6 enc Try.prog Try.f5 [] false)
      (Rows.tviewGrowsSpec.post enc Try.prog Try.f5 false true false false) :=
  law_lifted (C := Try.checked) started (by kernel_rfl) (by kernel_rfl) Try.func5 (spec := Rows.tviewGrowsSpec) rfl rfl Try.underlying4
    (fun H ds h => by match ds, h with | [d], _ => exact ⟨rfl, rfl, rfl⟩) (by kernel_rfl) (by kernel_rfl) args5 law5_runs H enc
    (ChangeSpec.witness6 (enc := enc) (C := Try.checked) false ⟨#[], #[.slice none 0 0], []⟩ 8 (by kernel_rfl) (by kernel_rfl) (by kernel_rfl) (by kernel_rfl))
theorem tviewGrows_holds : Rows.TviewGrowsSaid :=
  OpenClaim.holds_of_wide 5 Try.f5 rfl rfl rfl rfl rfl rfl rfl ⟨rfl, rfl, rfl, rfl, rfl⟩ rfl rfl rfl rfl rfl (by kernel_rfl) Try.func5 (by kernel_rfl)
    (of_decide_eq_true (by kernel_rfl)) (by unfold Func.isWrapper; rw [if_neg (of_decide_eq_false (by kernel_rfl))]; exact ⟨rfl, rfl⟩)
    (fun os started H enc _ => tviewGrows_lifted os started H enc)
#print axioms tviewGrows_holds
end Go.Proofs.Ytkmhabbpndcnkaa
