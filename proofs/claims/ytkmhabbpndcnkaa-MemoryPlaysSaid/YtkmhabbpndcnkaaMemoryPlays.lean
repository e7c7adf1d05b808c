/-
  PROVED: for whatever input, the law trothlaw11.MemoryPlays returns true, and its arguments read behind the call as before. No condition.
-/
import Derived.Test.YtkmhabbpndcnkaaWm8
import Derived.Test.YtkmhabbpndcnkaaRows
namespace Go.Proofs.Ytkmhabbpndcnkaa
open Go.RowKit
set_option maxRecDepth 100000 in
theorem memoryPlays_lifted (os : Os) (started : os.Started) (H : Type) (enc : TypeId × Value → H) :
    ReturnsInHanded {} Try.checked os 12 .any (Rows.memoryPlaysSpec.pre6 enc Try.prog Try.f12 [] false)
      (Rows.memoryPlaysSpec.post enc Try.prog Try.f12 false true false false) :=
  law_lifted (C := Try.checked) started (by kernel_rfl) (by kernel_rfl) Try.func12 (spec := Rows.memoryPlaysSpec) rfl rfl Try.underlying4
    (fun H ds h => by match ds, h with | [d1, d2, d3, d4, d5], _ => exact ⟨rfl, rfl, rfl⟩) (by kernel_rfl) (by kernel_rfl) args12_eq law12_runs (fun _ => rfl) H enc
    (ChangeSpec.witness6 (enc := enc) (C := Try.checked) false ⟨#[], #[.slice none 0 0, .slice none 0 0, .int .i64 0, .int .i64 0, .agg #[.int .i64 0, .int .i64 0, .int .i64 0, .int .i64 0, .int .i64 0, .int .i64 0, .int .i64 0, .int .i64 0]], []⟩ 8 (by kernel_rfl) (by kernel_rfl) (by kernel_rfl) (by kernel_rfl))
theorem memoryPlays_holds : Rows.MemoryPlaysSaid :=
  OpenClaim.holds_of_wide 12 Try.f12 rfl rfl rfl rfl rfl rfl rfl ⟨rfl, rfl, rfl, rfl, rfl⟩ rfl rfl rfl rfl rfl (by kernel_rfl) Try.func12 (by kernel_rfl)
    (of_decide_eq_true (by kernel_rfl)) (by unfold Func.isWrapper; rw [if_neg (of_decide_eq_false (by kernel_rfl))]; exact ⟨rfl, rfl⟩)
    (fun os started H enc _ => memoryPlays_lifted os started H enc)
#print axioms memoryPlays_holds
end Go.Proofs.Ytkmhabbpndcnkaa
