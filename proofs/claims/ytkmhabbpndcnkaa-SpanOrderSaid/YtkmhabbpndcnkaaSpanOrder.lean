/-
  PROVED: for whatever three pairs and factor, the law trothlaw09.SpanOrder returns true, and its arguments read behind the call as before. No condition.
-/
import Derived.Test.YtkmhabbpndcnkaaQ7
import Derived.Test.YtkmhabbpndcnkaaRows
namespace Go.Proofs.Ytkmhabbpndcnkaa
open Go.RowKit
set_option maxRecDepth 100000 in
theorem spanOrder_lifted (os : Os) (started : os.Started) (H : Type) (enc : TypeId × Value → H) :
    ReturnsInHanded {} Try.checked os 8 .any (Rows.spanOrderSpec.pre6 enc Try.prog Try.f8 [] false)
      (Rows.spanOrderSpec.post enc Try.prog Try.f8 false true false false) :=
  law_lifted (C := Try.checked) started (by kernel_rfl) (by kernel_rfl) Try.func8 (spec := Rows.spanOrderSpec) rfl rfl Try.underlying4
    (fun H ds h => by match ds, h with | [d, e, f, g], _ => exact ⟨rfl, rfl, rfl⟩) (by kernel_rfl) (by kernel_rfl) args8_ks law8_runs H enc
    (ChangeSpec.witness6 (enc := enc) (C := Try.checked) false ⟨#[], #[.agg #[.int .u16 0, .int .u16 0], .agg #[.int .u16 0, .int .u16 0], .agg #[.int .u16 0, .int .u16 0], .int .u8 0], []⟩ 8 (by kernel_rfl) (by kernel_rfl) (by kernel_rfl) (by kernel_rfl))
theorem spanOrder_holds : Rows.SpanOrderSaid :=
  OpenClaim.holds_of_wide 8 Try.f8 rfl rfl rfl rfl rfl rfl rfl ⟨rfl, rfl, rfl, rfl, rfl⟩ rfl rfl rfl rfl rfl (by kernel_rfl) Try.func8 (by kernel_rfl)
    (of_decide_eq_true (by kernel_rfl)) (by unfold Func.isWrapper; rw [if_neg (of_decide_eq_false (by kernel_rfl))]; exact ⟨rfl, rfl⟩)
    (fun os started H enc _ => spanOrder_lifted os started H enc)
#print axioms spanOrder_holds
end Go.Proofs.Ytkmhabbpndcnkaa
