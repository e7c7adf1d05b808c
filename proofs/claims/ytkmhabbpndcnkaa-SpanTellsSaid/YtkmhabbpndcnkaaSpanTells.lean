/-
  PROVED: for whatever two pairs of times, the law trothlaw09.SpanTells returns true, and its arguments read behind the call as before. No condition.
-/
import Derived.Test.YtkmhabbpndcnkaaQ5
import Derived.Test.YtkmhabbpndcnkaaRows
namespace Go.Proofs.Ytkmhabbpndcnkaa
open Go.RowKit
set_option maxRecDepth 100000 in
theorem spanTells_lifted (os : Os) (started : os.Started) (H : Type) (enc : TypeId × Value → H) :
    ReturnsInHanded {} Try.checked os 7 .any (Rows.spanTellsSpec.pre6 enc Try.prog Try.f7 [] false)
      (Rows.spanTellsSpec.post enc Try.prog Try.f7 false true false false) :=
  law_lifted (C := Try.checked) started (by kernel_rfl) (by kernel_rfl) Try.func7 (spec := Rows.spanTellsSpec) rfl rfl Try.underlying4
    (fun H ds h => by match ds, h with | [d, e], _ => exact ⟨rfl, rfl, rfl⟩) (by kernel_rfl) (by kernel_rfl) args7 law7_runs H enc
    (ChangeSpec.witness6 (enc := enc) (C := Try.checked) false ⟨#[], #[.agg #[.int .i64 0, .int .i64 0], .agg #[.int .i64 0, .int .i64 0]], []⟩ 8 (by kernel_rfl) (by kernel_rfl) (by kernel_rfl) (by kernel_rfl))
theorem spanTells_holds : Rows.SpanTellsSaid :=
  OpenClaim.holds_of_wide 7 Try.f7 rfl rfl rfl rfl rfl rfl rfl ⟨rfl, rfl, rfl, rfl, rfl⟩ rfl rfl rfl rfl rfl (by kernel_rfl) Try.func7 (by kernel_rfl)
    (of_decide_eq_true (by kernel_rfl)) (by unfold Func.isWrapper; rw [if_neg (of_decide_eq_false (by kernel_rfl))]; exact ⟨rfl, rfl⟩)
    (fun os started H enc _ => spanTells_lifted os started H enc)
#print axioms spanTells_holds
end Go.Proofs.Ytkmhabbpndcnkaa
