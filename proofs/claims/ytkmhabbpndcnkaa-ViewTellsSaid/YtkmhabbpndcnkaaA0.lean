import Derived.Test.YtkmhabbpndcnkaaProg
import Derived.WalkKit
import Derived.WalkSpells
import Derived.WalkLawsBesides
import Derived.Lib.Hide
import Derived.LoopN
namespace Go.Proofs.Ytkmhabbpndcnkaa
open Go.RowKit
/-- The greater one of two. -/
def mx (x y : Int) : Int := if y > x then y else x
@[local go_sem 2000] theorem run_mx {P : Program} (w : World) (ts : Array TypeId) (t : TypeId) (k k' : IntKind) (x y : Int) : (Builtin.max_ ts t #[.int k x, .int k' y]).run P w = .ok (.int k (mx x y)) w := by
  unfold mx; simp [Builtin.max_, Builtin.max2]

set_option maxHeartbeats 1000000 in
theorem join1_at0 (b : Nat) (w : World) (p0 p1 p2 p3 q0 q1 q2 q3 : Int)
  (c0 : w.cell? ⟨b, 0, none⟩ = some (.int .i64 p0)) (c1 : w.cell? ⟨b, 1, none⟩ = some (.int .i64 p1)) (c2 : w.cell? ⟨b, 2, none⟩ = some (.int .i64 p2)) (c3 : w.cell? ⟨b, 3, none⟩ = some (.int .i64 p3))
  (f0 : w.frozen? ⟨b, 0, none⟩ = false) (f1 : w.frozen? ⟨b, 1, none⟩ = false) (f2 : w.frozen? ⟨b, 2, none⟩ = false) (f3 : w.frozen? ⟨b, 3, none⟩ = false) (hb : b < w.heap.size) :
    Calls Try.prog 77 #[.pointer (some ⟨b, 0, none⟩), .agg #[.int .i64 q0, .int .i64 q1, .int .i64 q2, .int .i64 q3]] w fun e w' => e = .returned (.tuple #[]) ∧ (((((w.setCell ⟨b, 0, none⟩ (.int .i64 (mx p0 q0))).setCell ⟨b, 1, none⟩ (.int .i64 (mx p1 q1))).setCell ⟨b, 2, none⟩ (.int .i64 (mx p2 q2))).setCell ⟨b, 3, none⟩ (.int .i64 (mx p3 q3))).alloc (.cells #[.int .i64 q0, .int .i64 q1, .int .i64 q2, .int .i64 q3] 22)).drew.drew.drew.drew = w' := by
  have i0 : ∀ w, (Instr.index 22 (.agg #[.int .i64 q0, .int .i64 q1, .int .i64 q2, .int .i64 q3]) (.int .i64 0)).run Try.prog w = .ok (.int .i64 q0) w := fun _ => by kernel_rfl
  have i1 : ∀ w, (Instr.index 22 (.agg #[.int .i64 q0, .int .i64 q1, .int .i64 q2, .int .i64 q3]) (.int .i64 1)).run Try.prog w = .ok (.int .i64 q1) w := fun _ => by kernel_rfl
  have i2 : ∀ w, (Instr.index 22 (.agg #[.int .i64 q0, .int .i64 q1, .int .i64 q2, .int .i64 q3]) (.int .i64 2)).run Try.prog w = .ok (.int .i64 q2) w := fun _ => by kernel_rfl
  have i3 : ∀ w, (Instr.index 22 (.agg #[.int .i64 q0, .int .i64 q1, .int .i64 q2, .int .i64 q3]) (.int .i64 3)).run Try.prog w = .ok (.int .i64 q3) w := fun _ => by kernel_rfl
  go_enter Try.func77, Try.ntmps77
  go_wp2
  refine wp_loop_rounds 5 ?_
  rw [rounds_succ]
  go_wp2
  go_region
  go_wp2
  rw [rounds_succ]
  go_wp2
  go_region
  go_wp2
  rw [rounds_succ]
  go_wp2
  go_region
  go_wp2
  rw [rounds_succ]
  go_wp2
  go_region
  go_wp2
  rw [rounds_succ]
  go_wp2
  go_end0
  exact ⟨rfl, rfl⟩

set_option maxHeartbeats 1000000 in
theorem join1_at4 (b : Nat) (w : World) (p0 p1 p2 p3 q0 q1 q2 q3 : Int)
  (c0 : w.cell? ⟨b, 4, none⟩ = some (.int .i64 p0)) (c1 : w.cell? ⟨b, 5, none⟩ = some (.int .i64 p1)) (c2 : w.cell? ⟨b, 6, none⟩ = some (.int .i64 p2)) (c3 : w.cell? ⟨b, 7, none⟩ = some (.int .i64 p3))
  (f0 : w.frozen? ⟨b, 4, none⟩ = false) (f1 : w.frozen? ⟨b, 5, none⟩ = false) (f2 : w.frozen? ⟨b, 6, none⟩ = false) (f3 : w.frozen? ⟨b, 7, none⟩ = false) (hb : b < w.heap.size) :
    Calls Try.prog 77 #[.pointer (some ⟨b, 4, none⟩), .agg #[.int .i64 q0, .int .i64 q1, .int .i64 q2, .int .i64 q3]] w fun e w' => e = .returned (.tuple #[]) ∧ (((((w.setCell ⟨b, 4, none⟩ (.int .i64 (mx p0 q0))).setCell ⟨b, 5, none⟩ (.int .i64 (mx p1 q1))).setCell ⟨b, 6, none⟩ (.int .i64 (mx p2 q2))).setCell ⟨b, 7, none⟩ (.int .i64 (mx p3 q3))).alloc (.cells #[.int .i64 q0, .int .i64 q1, .int .i64 q2, .int .i64 q3] 22)).drew.drew.drew.drew = w' := by
  have i0 : ∀ w, (Instr.index 22 (.agg #[.int .i64 q0, .int .i64 q1, .int .i64 q2, .int .i64 q3]) (.int .i64 0)).run Try.prog w = .ok (.int .i64 q0) w := fun _ => by kernel_rfl
  have i1 : ∀ w, (Instr.index 22 (.agg #[.int .i64 q0, .int .i64 q1, .int .i64 q2, .int .i64 q3]) (.int .i64 1)).run Try.prog w = .ok (.int .i64 q1) w := fun _ => by kernel_rfl
  have i2 : ∀ w, (Instr.index 22 (.agg #[.int .i64 q0, .int .i64 q1, .int .i64 q2, .int .i64 q3]) (.int .i64 2)).run Try.prog w = .ok (.int .i64 q2) w := fun _ => by kernel_rfl
  have i3 : ∀ w, (Instr.index 22 (.agg #[.int .i64 q0, .int .i64 q1, .int .i64 q2, .int .i64 q3]) (.int .i64 3)).run Try.prog w = .ok (.int .i64 q3) w := fun _ => by kernel_rfl
  go_enter Try.func77, Try.ntmps77
  go_wp2
  refine wp_loop_rounds 5 ?_
  rw [rounds_succ]
  go_wp2
  go_region
  go_wp2
  rw [rounds_succ]
  go_wp2
  go_region
  go_wp2
  rw [rounds_succ]
  go_wp2
  go_region
  go_wp2
  rw [rounds_succ]
  go_wp2
  go_region
  go_wp2
  rw [rounds_succ]
  go_wp2
  go_end0
  exact ⟨rfl, rfl⟩
end Go.Proofs.Ytkmhabbpndcnkaa
