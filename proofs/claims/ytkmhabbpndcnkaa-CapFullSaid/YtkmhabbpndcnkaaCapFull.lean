/-
  PROVED: for whatever input, the law trothlaw12.CapFull returns true, and its arguments read behind the call as before. No condition.
-/
import Derived.Test.YtkmhabbpndcnkaaWc10
import Derived.Test.YtkmhabbpndcnkaaRows
namespace Go.Proofs.Ytkmhabbpndcnkaa
open Go.RowKit
set_option maxRecDepth 100000 in
theorem capFull_lifted (os : Os) (started : os.Started) (H : Type) (enc : TypeId × Value → H) :
    ReturnsInHanded {} Try.checked os 10 .any (Rows.capFullSpec.pre6 enc Try.prog Try.f10 [] false)
      (Rows.capFullSpec.post enc Try.prog Try.f10 false true false false) :=
  law_lifted (C := Try.checked) started (by kernel_rfl) (by kernel_rfl) Try.func10 (spec := Rows.capFullSpec) rfl rfl Try.underlying4
    (fun H ds h => by match ds, h with | [d1, d2, d3], _ => exact ⟨rfl, rfl, rfl⟩) (by kernel_rfl) (by kernel_rfl) args10_eq law10_runs (fun _ => rfl) H enc
    (ChangeSpec.witness6 (enc := enc) (C := Try.checked) false ⟨#[], #[.slice none 0 0, .slice none 0 0, .agg #[.int .i64 0, .int .i64 0, .int .i64 0, .int .u64 0, .int .i64 0, .int .i64 0, .int .i64 0, .int .i64 0, .int .i64 0, .int .i64 0, .int .i64 0, .int .i64 0, .bool false, .int .i64 0]], []⟩ 8 (by kernel_rfl) (by kernel_rfl) (by kernel_rfl) (by kernel_rfl))
theorem capFull_holds : Rows.CapFullSaid :=
  OpenClaim.holds_of_wide 10 Try.f10 rfl rfl rfl rfl rfl rfl rfl ⟨rfl, rfl, rfl, rfl, rfl⟩ rfl rfl rfl rfl rfl (by kernel_rfl) Try.func10 (by kernel_rfl)
    (of_decide_eq_true (by kernel_rfl)) (by unfold Func.isWrapper; rw [if_neg (of_decide_eq_false (by kernel_rfl))]; exact ⟨rfl, rfl⟩)
    (fun os started H enc _ => capFull_lifted os started H enc)
#print axioms capFull_holds
end Go.Proofs.Ytkmhabbpndcnkaa
