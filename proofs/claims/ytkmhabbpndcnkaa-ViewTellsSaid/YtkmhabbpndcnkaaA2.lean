import Derived.Test.YtkmhabbpndcnkaaA1
import Derived.Test.YtkmhabbpndcnkaaK1
import Derived.Deep.RegionHeld3
namespace Go.Proofs.Ytkmhabbpndcnkaa
open Go.RowKit
attribute [local go_sem 3000] cell_eq frozen_eq cellOf_cells frozenOf_cells setOf_cells ba_alloc_at ba_alloc_past ba_drew ba_setCell_same ba_setCell_other hp_size_setCell

/-- No number above the other list's. -/
def vle : List Int → List Int → Bool
  | a :: l, b :: m => decide (a ≤ b) && vle l m
  | _, _ => true
theorem eqL_mx : ∀ l m : List Int, eqL (List.zipWith mx l m) m = vle l m
  | [], m => by cases m <;> rfl
  | a :: l, [] => rfl
  | a :: l, b :: m => by
    simp only [List.zipWith_cons_cons, eqL, vle, eqL_mx l m]
    congr 1
    unfold mx
    by_cases h : b > a
    · have h' : a ≤ b := by omega
      simp [h, h']
    · rw [if_neg h]
      by_cases e : a = b
      · simp [e]
      · have h' : ¬ a ≤ b := by omega
        simp [e, h']
@[local go_sem ↓ 5000] theorem run_eq24x (p0 p1 p2 p3 p4 p5 p6 p7 q0 q1 q2 q3 q4 q5 q6 q7 : Int) (w : World) : (binOp .eql 24 (.agg #[.int .i64 p0, .int .i64 p1, .int .i64 p2, .int .i64 p3, .int .i64 p4, .int .i64 p5, .int .i64 p6, .int .i64 p7]) (.agg #[.int .i64 q0, .int .i64 q1, .int .i64 q2, .int .i64 q3, .int .i64 q4, .int .i64 q5, .int .i64 q6, .int .i64 q7])).run Try.prog w = .ok (.bool (eqL [p0, p1, p2, p3, p4, p5, p6, p7] [q0, q1, q2, q3, q4, q5, q6, q7])) w :=
  run_eq24 [p0, p1, p2, p3, p4, p5, p6, p7] [q0, q1, q2, q3, q4, q5, q6, q7] rfl rfl w
@[local go_sem ↓ 5000] theorem run_ne24x (p0 p1 p2 p3 p4 p5 p6 p7 q0 q1 q2 q3 q4 q5 q6 q7 : Int) (w : World) : (binOp .neq 24 (.agg #[.int .i64 p0, .int .i64 p1, .int .i64 p2, .int .i64 p3, .int .i64 p4, .int .i64 p5, .int .i64 p6, .int .i64 p7]) (.agg #[.int .i64 q0, .int .i64 q1, .int .i64 q2, .int .i64 q3, .int .i64 q4, .int .i64 q5, .int .i64 q6, .int .i64 q7])).run Try.prog w = .ok (.bool (!eqL [p0, p1, p2, p3, p4, p5, p6, p7] [q0, q1, q2, q3, q4, q5, q6, q7])) w :=
  run_ne24 [p0, p1, p2, p3, p4, p5, p6, p7] [q0, q1, q2, q3, q4, q5, q6, q7] rfl rfl w

set_option maxRecDepth 10000 in
set_option maxHeartbeats 1000000 in
theorem within_any (p0 p1 p2 p3 p4 p5 p6 p7 q0 q1 q2 q3 q4 q5 q6 q7 : Int) (w : World) :
    Calls Try.prog 15 #[.agg #[.int .i64 p0, .int .i64 p1, .int .i64 p2, .int .i64 p3, .int .i64 p4, .int .i64 p5, .int .i64 p6, .int .i64 p7], .agg #[.int .i64 q0, .int .i64 q1, .int .i64 q2, .int .i64 q3, .int .i64 q4, .int .i64 q5, .int .i64 q6, .int .i64 q7]] w fun e w' => e = .returned (.bool (vle [p0, p1, p2, p3, p4, p5, p6, p7] [q0, q1, q2, q3, q4, q5, q6, q7])) ∧ Below w.heap.size w w' := by
  have he : Hid (vle [p0, p1, p2, p3, p4, p5, p6, p7] [q0, q1, q2, q3, q4, q5, q6, q7] = eqL [mx p0 q0, mx p1 q1, mx p2 q2, mx p3 q3, mx p4 q4, mx p5 q5, mx p6 q6, mx p7 q7] [q0, q1, q2, q3, q4, q5, q6, q7]) := (eqL_mx [p0, p1, p2, p3, p4, p5, p6, p7] [q0, q1, q2, q3, q4, q5, q6, q7]).symm
  go_enter Try.func15, Try.ntmps15
  go_wp2_with fail
  go_region_held3 (fun w' => blkAt w' w.heap.size = some (.cells #[.int .i64 p0, .int .i64 p1, .int .i64 p2, .int .i64 p3, .int .i64 p4, .int .i64 p5, .int .i64 p6, .int .i64 p7] 24 (0, 0)) ∧ blkAt w' (w.heap.size + 1) = some (.cells #[.int .i64 q0, .int .i64 q1, .int .i64 q2, .int .i64 q3, .int .i64 q4, .int .i64 q5, .int .i64 q6, .int .i64 q7] 24 (0, 0)) ∧ w.heap.size + 1 < w'.heap.size ∧ Below w.heap.size w w') ((repeat' (with_reducible refine And.intro ?_ ?_)) <;> (first | (go_simp; done) | (simp; done) | omega | (simp; omega) | ((try refine Below.trans ?_ (Below.mono hb (by simp; omega))); repeat (first | exact Below.refl _ _ | refine Below.drew ?_ | refine Below.alloc ?_ (by first | (simp; done) | (simp; omega)) _)))) (first | (go_at_call 14; refine (join_1 p0 p1 p2 p3 p4 p5 p6 p7 q0 q1 q2 q3 q4 q5 q6 q7 _ _ ?_ ?_ ?_ ?_ ?_ ?_ ?_ ?_ ?_).mono ?_ <;> (first | (go_simp; done) | (simp; done) | (rintro e w' ⟨rfl, hb⟩; have hk := ba_below hb; have hz := hb.size; simp at hz))))
  go_wp2_with fail
  go_ret
  refine ⟨by rw [he.out]; rfl, Below.trans ?_ (hb.mono (by simp; omega))⟩
  repeat (first | exact Below.refl _ _ | refine Below.drew ?_ | refine Below.alloc ?_ (by first | (simp; done) | (simp; omega)) _)
end Go.Proofs.Ytkmhabbpndcnkaa
