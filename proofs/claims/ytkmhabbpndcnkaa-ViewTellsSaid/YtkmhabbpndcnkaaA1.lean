import Derived.Test.YtkmhabbpndcnkaaA0
namespace Go.Proofs.Ytkmhabbpndcnkaa
open Go.RowKit

set_option maxRecDepth 10000 in
set_option maxHeartbeats 1000000 in
theorem join_0 (p0 p1 p2 p3 p4 p5 p6 p7 : Int) (w : World)  :
    Calls Try.prog 14 #[.agg #[.int .i64 p0, .int .i64 p1, .int .i64 p2, .int .i64 p3, .int .i64 p4, .int .i64 p5, .int .i64 p6, .int .i64 p7], .slice none 0 0] w fun e w' => e = .returned (.agg #[.int .i64 p0, .int .i64 p1, .int .i64 p2, .int .i64 p3, .int .i64 p4, .int .i64 p5, .int .i64 p6, .int .i64 p7]) ∧ Below w.heap.size w w' := by
  have hmf : ∀ (fn : Fn) (first cap : Array Value) (w : World), (Instr.makeFunc fn first cap).run Try.prog w = .ok (.func fn first cap) w := fun _ _ _ _ => rfl
  go_enter Try.func14, Try.ntmps14
  go_wp2_with fail
  refine wp_loop_rounds 1 ?_
  rw [rounds_succ]
  go_wp2_with fail
  refine bodyPost_ret (v := .agg #[.int .i64 p0, .int .i64 p1, .int .i64 p2, .int .i64 p3, .int .i64 p4, .int .i64 p5, .int .i64 p6, .int .i64 p7]) (by simp [results, Try.results14, go_sem]) rfl ⟨rfl, ?_⟩
  repeat (first | exact Below.refl _ _ | refine Below.drew ?_ | refine Below.alloc ?_ (by first | (simp; done) | (simp; omega)) _)

set_option maxRecDepth 10000 in
set_option maxHeartbeats 1000000 in
theorem join_1 (p0 p1 p2 p3 p4 p5 p6 p7 q0 q1 q2 q3 q4 q5 q6 q7 : Int) (w : World) (b : Nat) (hb : b < w.heap.size) (cq0 : w.cell? ⟨b, 0, none⟩ = some (.int .i64 q0)) (cq1 : w.cell? ⟨b, 1, none⟩ = some (.int .i64 q1)) (cq2 : w.cell? ⟨b, 2, none⟩ = some (.int .i64 q2)) (cq3 : w.cell? ⟨b, 3, none⟩ = some (.int .i64 q3)) (cq4 : w.cell? ⟨b, 4, none⟩ = some (.int .i64 q4)) (cq5 : w.cell? ⟨b, 5, none⟩ = some (.int .i64 q5)) (cq6 : w.cell? ⟨b, 6, none⟩ = some (.int .i64 q6)) (cq7 : w.cell? ⟨b, 7, none⟩ = some (.int .i64 q7)) :
    Calls Try.prog 14 #[.agg #[.int .i64 p0, .int .i64 p1, .int .i64 p2, .int .i64 p3, .int .i64 p4, .int .i64 p5, .int .i64 p6, .int .i64 p7], .slice (some ⟨b, 0, none⟩) 1 1] w fun e w' => e = .returned (.agg #[.int .i64 (mx p0 q0), .int .i64 (mx p1 q1), .int .i64 (mx p2 q2), .int .i64 (mx p3 q3), .int .i64 (mx p4 q4), .int .i64 (mx p5 q5), .int .i64 (mx p6 q6), .int .i64 (mx p7 q7)]) ∧ Below w.heap.size w w' := by
  have hmf : ∀ (fn : Fn) (first cap : Array Value) (w : World), (Instr.makeFunc fn first cap).run Try.prog w = .ok (.func fn first cap) w := fun _ _ _ _ => rfl
  go_enter Try.func14, Try.ntmps14
  go_wp2_with fail
  refine wp_loop_rounds 2 ?_
  rw [rounds_succ]
  go_wp2_with fail
  refine (join1_at0 _ _ p0 p1 p2 p3 _ _ _ _ ?_ ?_ ?_ ?_ ?_ ?_ ?_ ?_ ?_).mono ?_
  any_goals (first | (go_simp; done) | (simp; done))
  rintro e w' ⟨rfl, rfl⟩
  go_wp2_with fail
  refine (join1_at4 _ _ p4 p5 p6 p7 _ _ _ _ ?_ ?_ ?_ ?_ ?_ ?_ ?_ ?_ ?_).mono ?_
  any_goals (first | (go_simp; done) | (simp; done))
  rintro e w' ⟨rfl, rfl⟩
  go_wp2_with fail
  rw [rounds_succ]
  go_wp2_with fail
  refine bodyPost_ret (v := .agg #[.int .i64 (mx p0 q0), .int .i64 (mx p1 q1), .int .i64 (mx p2 q2), .int .i64 (mx p3 q3), .int .i64 (mx p4 q4), .int .i64 (mx p5 q5), .int .i64 (mx p6 q6), .int .i64 (mx p7 q7)]) (by simp [results, Try.results14, go_sem]) rfl ⟨rfl, ?_⟩
  repeat (first | exact Below.refl _ _ | refine Below.drew ?_ | refine Below.alloc ?_ (by first | (simp; done) | (simp; omega)) _)

set_option maxRecDepth 10000 in
set_option maxHeartbeats 1000000 in
theorem join_2 (p0 p1 p2 p3 p4 p5 p6 p7 q0 q1 q2 q3 q4 q5 q6 q7 s0 s1 s2 s3 s4 s5 s6 s7 : Int) (w : World) (b : Nat) (hb : b < w.heap.size) (cq0 : w.cell? ⟨b, 0, none⟩ = some (.int .i64 q0)) (cq1 : w.cell? ⟨b, 1, none⟩ = some (.int .i64 q1)) (cq2 : w.cell? ⟨b, 2, none⟩ = some (.int .i64 q2)) (cq3 : w.cell? ⟨b, 3, none⟩ = some (.int .i64 q3)) (cq4 : w.cell? ⟨b, 4, none⟩ = some (.int .i64 q4)) (cq5 : w.cell? ⟨b, 5, none⟩ = some (.int .i64 q5)) (cq6 : w.cell? ⟨b, 6, none⟩ = some (.int .i64 q6)) (cq7 : w.cell? ⟨b, 7, none⟩ = some (.int .i64 q7)) (cs0 : w.cell? ⟨b, 8, none⟩ = some (.int .i64 s0)) (cs1 : w.cell? ⟨b, 9, none⟩ = some (.int .i64 s1)) (cs2 : w.cell? ⟨b, 10, none⟩ = some (.int .i64 s2)) (cs3 : w.cell? ⟨b, 11, none⟩ = some (.int .i64 s3)) (cs4 : w.cell? ⟨b, 12, none⟩ = some (.int .i64 s4)) (cs5 : w.cell? ⟨b, 13, none⟩ = some (.int .i64 s5)) (cs6 : w.cell? ⟨b, 14, none⟩ = some (.int .i64 s6)) (cs7 : w.cell? ⟨b, 15, none⟩ = some (.int .i64 s7)) :
    Calls Try.prog 14 #[.agg #[.int .i64 p0, .int .i64 p1, .int .i64 p2, .int .i64 p3, .int .i64 p4, .int .i64 p5, .int .i64 p6, .int .i64 p7], .slice (some ⟨b, 0, none⟩) 2 2] w fun e w' => e = .returned (.agg #[.int .i64 (mx (mx p0 q0) s0), .int .i64 (mx (mx p1 q1) s1), .int .i64 (mx (mx p2 q2) s2), .int .i64 (mx (mx p3 q3) s3), .int .i64 (mx (mx p4 q4) s4), .int .i64 (mx (mx p5 q5) s5), .int .i64 (mx (mx p6 q6) s6), .int .i64 (mx (mx p7 q7) s7)]) ∧ Below w.heap.size w w' := by
  have hmf : ∀ (fn : Fn) (first cap : Array Value) (w : World), (Instr.makeFunc fn first cap).run Try.prog w = .ok (.func fn first cap) w := fun _ _ _ _ => rfl
  have hb1 : b < w.heap.size + 1 := by omega
  have hb2 : b < w.heap.size + 1 + 1 := by omega
  have hb3 : b < w.heap.size + 1 + 1 + 1 := by omega
  have hb4 : b < w.heap.size + 1 + 1 + 1 + 1 := by omega
  have hb5 : b < w.heap.size + 1 + 1 + 1 + 1 + 1 := by omega
  have hb6 : b < w.heap.size + 1 + 1 + 1 + 1 + 1 + 1 := by omega
  have hb7 : b < w.heap.size + 1 + 1 + 1 + 1 + 1 + 1 + 1 := by omega
  go_enter Try.func14, Try.ntmps14
  go_wp2_with fail
  refine wp_loop_rounds 3 ?_
  rw [rounds_succ]
  go_wp2_with fail
  refine (join1_at0 _ _ p0 p1 p2 p3 _ _ _ _ ?_ ?_ ?_ ?_ ?_ ?_ ?_ ?_ ?_).mono ?_
  any_goals (first | (go_simp; done) | (simp; done))
  rintro e w' ⟨rfl, rfl⟩
  go_wp2_with fail
  refine (join1_at4 _ _ p4 p5 p6 p7 _ _ _ _ ?_ ?_ ?_ ?_ ?_ ?_ ?_ ?_ ?_).mono ?_
  any_goals (first | (go_simp; done) | (simp; done))
  rintro e w' ⟨rfl, rfl⟩
  go_wp2_with fail
  rw [rounds_succ]
  go_wp2_with fail
  refine (join1_at0 _ _ (mx p0 q0) (mx p1 q1) (mx p2 q2) (mx p3 q3) _ _ _ _ ?_ ?_ ?_ ?_ ?_ ?_ ?_ ?_ ?_).mono ?_
  any_goals (first | (go_simp; done) | (simp; done))
  rintro e w' ⟨rfl, rfl⟩
  go_wp2_with fail
  refine (join1_at4 _ _ (mx p4 q4) (mx p5 q5) (mx p6 q6) (mx p7 q7) _ _ _ _ ?_ ?_ ?_ ?_ ?_ ?_ ?_ ?_ ?_).mono ?_
  any_goals (first | (go_simp; done) | (simp; done))
  rintro e w' ⟨rfl, rfl⟩
  go_wp2_with fail
  rw [rounds_succ]
  go_wp2_with fail
  refine bodyPost_ret (v := .agg #[.int .i64 (mx (mx p0 q0) s0), .int .i64 (mx (mx p1 q1) s1), .int .i64 (mx (mx p2 q2) s2), .int .i64 (mx (mx p3 q3) s3), .int .i64 (mx (mx p4 q4) s4), .int .i64 (mx (mx p5 q5) s5), .int .i64 (mx (mx p6 q6) s6), .int .i64 (mx (mx p7 q7) s7)]) (by simp [results, Try.results14, go_sem]) rfl ⟨rfl, ?_⟩
  repeat (first | exact Below.refl _ _ | refine Below.drew ?_ | refine Below.alloc ?_ (by first | (simp; done) | (simp; omega)) _)
end Go.Proofs.Ytkmhabbpndcnkaa
