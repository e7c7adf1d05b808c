/-
  PROVED: for whatever acts, the law trothlaw13.TviewPlays returns true, and its argument reads behind the call as before. No condition.
-/
import Derived.Test.YtkmhabbpndcnkaaPG
import Derived.Test.YtkmhabbpndcnkaaRows
namespace Go.Proofs.Ytkmhabbpndcnkaa
open Go.RowKit
set_option maxRecDepth 100000 in
theorem tviewPlays_lifted (os : Os) (started : os.Started) (H : Type) (enc : TypeId × Value → H) :
    ReturnsInHanded {} Try.checked os 6 .any (Rows.tviewPlaysSpec.pre6 enc Try.prog Try.f6 [] false)
      (Rows.tviewPlaysSpec.post enc Try.prog Try.f6 false true false false) :=
  law_lifted (C := Try.checked) started (by kernel_rfl) (by kernel_rfl) Try.func6 (spec := Rows.tviewPlaysSpec) rfl rfl Try.underlying4
    (fun H ds h => by match ds, h with | [d], _ => exact ⟨rfl, rfl, rfl⟩) (by kernel_rfl) (by kernel_rfl) args6 law6_runs H enc
    (ChangeSpec.witness6 (enc := enc) (C := Try.checked) false ⟨#[], #[.slice none 0 0], []⟩ 8 (by kernel_rfl) (by kernel_rfl) (by kernel_rfl) (by kernel_rfl))
theorem tviewPlays_holds : Rows.TviewPlaysSaid :=
  OpenClaim.holds_of_wide 6 Try.f6 rfl rfl rfl rfl rfl rfl rfl ⟨rfl, rfl, rfl, rfl, rfl⟩ rfl rfl rfl rfl rfl (by kernel_rfl) Try.func6 (by kernel_rfl)
    (of_decide_eq_true (by kernel_rfl)) (by unfold Func.isWrapper; rw [if_neg (of_decide_eq_false (by kernel_rfl))]; exact ⟨rfl, rfl⟩)
    (fun os started H enc _ => tviewPlays_lifted os started H enc)
#print axioms tviewPlays_holds
end Go.Proofs.Ytkmhabbpndcnkaa
