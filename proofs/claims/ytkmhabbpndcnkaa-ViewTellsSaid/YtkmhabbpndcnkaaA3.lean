import Derived.Test.YtkmhabbpndcnkaaA2
namespace Go.Proofs.Ytkmhabbpndcnkaa
open Go.RowKit
attribute [local go_sem 3000] cell_eq frozen_eq cellOf_cells frozenOf_cells setOf_cells ba_alloc_at ba_alloc_past ba_drew ba_setCell_same ba_setCell_other hp_size_setCell

theorem join_1b {p0 p1 p2 p3 p4 p5 p6 p7 q0 q1 q2 q3 q4 q5 q6 q7 : Int} {w : World} {b : Nat} (h : blkAt w b = some (.cells #[.int .i64 q0, .int .i64 q1, .int .i64 q2, .int .i64 q3, .int .i64 q4, .int .i64 q5, .int .i64 q6, .int .i64 q7] 24 (0, 0))) :
    Calls Try.prog 14 #[.agg #[.int .i64 p0, .int .i64 p1, .int .i64 p2, .int .i64 p3, .int .i64 p4, .int .i64 p5, .int .i64 p6, .int .i64 p7], .slice (some ⟨b, 0, none⟩) 1 1] w fun e w' => e = .returned (.agg #[.int .i64 (mx p0 q0), .int .i64 (mx p1 q1), .int .i64 (mx p2 q2), .int .i64 (mx p3 q3), .int .i64 (mx p4 q4), .int .i64 (mx p5 q5), .int .i64 (mx p6 q6), .int .i64 (mx p7 q7)]) ∧ Below w.heap.size w w' := by
  have hb : b < w.heap.size := by
    unfold blkAt at h
    rcases Nat.lt_or_ge b w.heap.size with hlt | hge
    · exact hlt
    · rw [Array.getElem?_eq_none hge] at h; cases h
  refine join_1 p0 p1 p2 p3 p4 p5 p6 p7 q0 q1 q2 q3 q4 q5 q6 q7 w b hb ?_ ?_ ?_ ?_ ?_ ?_ ?_ ?_
  all_goals (rw [cell_eq, h]; rfl)

theorem join_2b {p0 p1 p2 p3 p4 p5 p6 p7 q0 q1 q2 q3 q4 q5 q6 q7 s0 s1 s2 s3 s4 s5 s6 s7 : Int} {w : World} {b : Nat} (h : blkAt w b = some (.cells #[.int .i64 q0, .int .i64 q1, .int .i64 q2, .int .i64 q3, .int .i64 q4, .int .i64 q5, .int .i64 q6, .int .i64 q7, .int .i64 s0, .int .i64 s1, .int .i64 s2, .int .i64 s3, .int .i64 s4, .int .i64 s5, .int .i64 s6, .int .i64 s7] 24 (0, 0))) :
    Calls Try.prog 14 #[.agg #[.int .i64 p0, .int .i64 p1, .int .i64 p2, .int .i64 p3, .int .i64 p4, .int .i64 p5, .int .i64 p6, .int .i64 p7], .slice (some ⟨b, 0, none⟩) 2 2] w fun e w' => e = .returned (.agg #[.int .i64 (mx (mx p0 q0) s0), .int .i64 (mx (mx p1 q1) s1), .int .i64 (mx (mx p2 q2) s2), .int .i64 (mx (mx p3 q3) s3), .int .i64 (mx (mx p4 q4) s4), .int .i64 (mx (mx p5 q5) s5), .int .i64 (mx (mx p6 q6) s6), .int .i64 (mx (mx p7 q7) s7)]) ∧ Below w.heap.size w w' := by
  have hb : b < w.heap.size := by
    unfold blkAt at h
    rcases Nat.lt_or_ge b w.heap.size with hlt | hge
    · exact hlt
    · rw [Array.getElem?_eq_none hge] at h; cases h
  refine join_2 p0 p1 p2 p3 p4 p5 p6 p7 q0 q1 q2 q3 q4 q5 q6 q7 s0 s1 s2 s3 s4 s5 s6 s7 w b hb ?_ ?_ ?_ ?_ ?_ ?_ ?_ ?_ ?_ ?_ ?_ ?_ ?_ ?_ ?_ ?_
  all_goals (rw [cell_eq, h]; rfl)

/-- A view that may be. -/
def mayV (p0 p1 p2 p3 p4 p5 p6 p7 : Int) : Bool := vle [0, 0, 0, 0, 0, 0, 0, 0] [p0, p1, p2, p3, p4, p5, p6, p7] && vle [p0, p1, p2, p3, 0, 0, 0, 0] [p4, p5, p6, p7, 0, 0, 0, 0]
set_option maxRecDepth 10000 in
set_option maxHeartbeats 1000000 in
theorem may_any (p0 p1 p2 p3 p4 p5 p6 p7 : Int) (w : World) :
    Calls Try.prog 16 #[.agg #[.int .i64 p0, .int .i64 p1, .int .i64 p2, .int .i64 p3, .int .i64 p4, .int .i64 p5, .int .i64 p6, .int .i64 p7]] w fun e w' => e = .returned (.bool (mayV p0 p1 p2 p3 p4 p5 p6 p7)) ∧ Below w.heap.size w w' := by
  cases h1 : vle [0, 0, 0, 0, 0, 0, 0, 0] [p0, p1, p2, p3, p4, p5, p6, p7]
  · have hm : Hid (mayV p0 p1 p2 p3 p4 p5 p6 p7 = false) := by unfold Hid mayV; rw [h1]; rfl
    rw [hm.out]
    go_enter Try.func16, Try.ntmps16
    go_wp2_with (go_at_call 15; refine (within_any _ _ _ _ _ _ _ _ _ _ _ _ _ _ _ _ _).mono ?_; rintro e w1 ⟨rfl, hb⟩; have hk := ba_below hb; have hz := hb.size)
    go_ret
    refine ⟨rfl, ?_⟩
    refine Below.trans ?_ (hb.mono (by simp))
    repeat (first | exact Below.refl _ _ | refine Below.drew ?_ | refine Below.alloc ?_ (by first | (simp; done) | (simp; omega)) _)
  · cases h2 : vle [p0, p1, p2, p3, 0, 0, 0, 0] [p4, p5, p6, p7, 0, 0, 0, 0]
    · have hm : Hid (mayV p0 p1 p2 p3 p4 p5 p6 p7 = false) := by unfold Hid mayV; rw [h1, h2]; rfl
      rw [hm.out]
      go_enter Try.func16, Try.ntmps16
      go_wp2_with fail
      refine (within_any _ _ _ _ _ _ _ _ _ _ _ _ _ _ _ _ _).mono ?_
      rintro e w1 ⟨rfl, hb⟩
      have hk := ba_below hb
      have hz := hb.size
      go_wp2_with fail
      refine (within_any _ _ _ _ _ _ _ _ _ _ _ _ _ _ _ _ _).mono ?_
      rintro e w2 ⟨rfl, hb2⟩
      go_wp2_with fail
      go_ret
      refine ⟨rfl, ?_⟩
      simp at hz
      refine Below.trans ?_ (hb2.mono (by omega))
      refine Below.trans ?_ (hb.mono (by simp))
      repeat (first | exact Below.refl _ _ | refine Below.drew ?_ | refine Below.alloc ?_ (by first | (simp; done) | (simp; omega)) _)
    · have hm : Hid (mayV p0 p1 p2 p3 p4 p5 p6 p7 = true) := by unfold Hid mayV; rw [h1, h2]; rfl
      rw [hm.out]
      go_enter Try.func16, Try.ntmps16
      go_wp2_with fail
      refine (within_any _ _ _ _ _ _ _ _ _ _ _ _ _ _ _ _ _).mono ?_
      rintro e w1 ⟨rfl, hb⟩
      have hk := ba_below hb
      have hz := hb.size
      go_wp2_with fail
      refine (within_any _ _ _ _ _ _ _ _ _ _ _ _ _ _ _ _ _).mono ?_
      rintro e w2 ⟨rfl, hb2⟩
      go_wp2_with fail
      go_ret
      refine ⟨rfl, ?_⟩
      simp at hz
      refine Below.trans ?_ (hb2.mono (by omega))
      refine Below.trans ?_ (hb.mono (by simp))
      repeat (first | exact Below.refl _ _ | refine Below.drew ?_ | refine Below.alloc ?_ (by first | (simp; done) | (simp; omega)) _)

theorem flat_any (t0 t1 t2 t3 : Int) (w : World) :
    Calls Try.prog 18 #[.agg #[.int .i64 t0, .int .i64 t1, .int .i64 t2, .int .i64 t3]] w fun e w' => e = .returned (.agg #[.int .i64 t0, .int .i64 t1, .int .i64 t2, .int .i64 t3, .int .i64 t0, .int .i64 t1, .int .i64 t2, .int .i64 t3]) ∧ Below w.heap.size w w' := by
  go_enter Try.func18, Try.ntmps18
  go_wp2_with fail
  refine bodyPost_ret (v := .agg #[.int .i64 t0, .int .i64 t1, .int .i64 t2, .int .i64 t3, .int .i64 t0, .int .i64 t1, .int .i64 t2, .int .i64 t3]) (by simp [results, Try.results18, go_sem]) rfl ⟨rfl, ?_⟩
  repeat (first | exact Below.refl _ _ | refine Below.drew ?_ | refine Below.alloc ?_ (by first | (simp; done) | (simp; omega)) _)

/-- What At knows: the plain and the relaxed time of location i. -/
def atP (loc t : Int) (pln : Bool) (i : Int) : Int := if pln = true ∧ 0 ≤ t ∧ loc = i then t else 0
def atR (loc t : Int) (i : Int) : Int := if 0 ≤ t ∧ loc = i then t else 0
def atV (loc t : Int) (pln : Bool) : Value := .agg #[.int .i64 (atP loc t pln 0), .int .i64 (atP loc t pln 1), .int .i64 (atP loc t pln 2), .int .i64 (atP loc t pln 3), .int .i64 (atR loc t 0), .int .i64 (atR loc t 1), .int .i64 (atR loc t 2), .int .i64 (atR loc t 3)]
set_option maxHeartbeats 1000000 in
theorem at_any (loc t : Int) (pln : Bool) (w : World) :
    Calls Try.prog 19 #[.int .i64 loc, .int .i64 t, .bool pln] w fun e w' => e = .returned (atV loc t pln) ∧ Below w.heap.size w w' := by
  by_cases hin : 0 ≤ loc ∧ loc < 4 ∧ 0 ≤ t
  · obtain ⟨h0, h4, ht⟩ := hin
    have hl : loc = 0 ∨ loc = 1 ∨ loc = 2 ∨ loc = 3 := by omega
    rcases hl with rfl | rfl | rfl | rfl <;> cases pln
    all_goals
      go_enter Try.func19, Try.ntmps19
      go_wp2_with fail
    · refine bodyPost_ret (v := .agg #[.int .i64 0, .int .i64 0, .int .i64 0, .int .i64 0, .int .i64 t, .int .i64 0, .int .i64 0, .int .i64 0]) (by simp [results, Try.results19, go_sem]) rfl ⟨?_, ?_⟩
      · simp [atV, atP, atR, ht]
      · repeat (first | exact Below.refl _ _ | refine Below.drew ?_ | refine Below.alloc ?_ (by first | (simp; done) | (simp; omega)) _)
    · refine bodyPost_ret (v := .agg #[.int .i64 t, .int .i64 0, .int .i64 0, .int .i64 0, .int .i64 t, .int .i64 0, .int .i64 0, .int .i64 0]) (by simp [results, Try.results19, go_sem]) rfl ⟨?_, ?_⟩
      · simp [atV, atP, atR, ht]
      · repeat (first | exact Below.refl _ _ | refine Below.drew ?_ | refine Below.alloc ?_ (by first | (simp; done) | (simp; omega)) _)
    · refine bodyPost_ret (v := .agg #[.int .i64 0, .int .i64 0, .int .i64 0, .int .i64 0, .int .i64 0, .int .i64 t, .int .i64 0, .int .i64 0]) (by simp [results, Try.results19, go_sem]) rfl ⟨?_, ?_⟩
      · simp [atV, atP, atR, ht]
      · repeat (first | exact Below.refl _ _ | refine Below.drew ?_ | refine Below.alloc ?_ (by first | (simp; done) | (simp; omega)) _)
    · refine bodyPost_ret (v := .agg #[.int .i64 0, .int .i64 t, .int .i64 0, .int .i64 0, .int .i64 0, .int .i64 t, .int .i64 0, .int .i64 0]) (by simp [results, Try.results19, go_sem]) rfl ⟨?_, ?_⟩
      · simp [atV, atP, atR, ht]
      · repeat (first | exact Below.refl _ _ | refine Below.drew ?_ | refine Below.alloc ?_ (by first | (simp; done) | (simp; omega)) _)
    · refine bodyPost_ret (v := .agg #[.int .i64 0, .int .i64 0, .int .i64 0, .int .i64 0, .int .i64 0, .int .i64 0, .int .i64 t, .int .i64 0]) (by simp [results, Try.results19, go_sem]) rfl ⟨?_, ?_⟩
      · simp [atV, atP, atR, ht]
      · repeat (first | exact Below.refl _ _ | refine Below.drew ?_ | refine Below.alloc ?_ (by first | (simp; done) | (simp; omega)) _)
    · refine bodyPost_ret (v := .agg #[.int .i64 0, .int .i64 0, .int .i64 t, .int .i64 0, .int .i64 0, .int .i64 0, .int .i64 t, .int .i64 0]) (by simp [results, Try.results19, go_sem]) rfl ⟨?_, ?_⟩
      · simp [atV, atP, atR, ht]
      · repeat (first | exact Below.refl _ _ | refine Below.drew ?_ | refine Below.alloc ?_ (by first | (simp; done) | (simp; omega)) _)
    · refine bodyPost_ret (v := .agg #[.int .i64 0, .int .i64 0, .int .i64 0, .int .i64 0, .int .i64 0, .int .i64 0, .int .i64 0, .int .i64 t]) (by simp [results, Try.results19, go_sem]) rfl ⟨?_, ?_⟩
      · simp [atV, atP, atR, ht]
      · repeat (first | exact Below.refl _ _ | refine Below.drew ?_ | refine Below.alloc ?_ (by first | (simp; done) | (simp; omega)) _)
    · refine bodyPost_ret (v := .agg #[.int .i64 0, .int .i64 0, .int .i64 0, .int .i64 t, .int .i64 0, .int .i64 0, .int .i64 0, .int .i64 t]) (by simp [results, Try.results19, go_sem]) rfl ⟨?_, ?_⟩
      · simp [atV, atP, atR, ht]
      · repeat (first | exact Below.refl _ _ | refine Below.drew ?_ | refine Below.alloc ?_ (by first | (simp; done) | (simp; omega)) _)
  · have hv : atV loc t pln = .agg #[.int .i64 0, .int .i64 0, .int .i64 0, .int .i64 0, .int .i64 0, .int .i64 0, .int .i64 0, .int .i64 0] := by
      have e1 : ∀ i, 0 ≤ i → i < 4 → atP loc t pln i = 0 := fun i h1 h2 => by unfold atP; rw [if_neg (by omega)]
      have e2 : ∀ i, 0 ≤ i → i < 4 → atR loc t i = 0 := fun i h1 h2 => by unfold atR; rw [if_neg (by omega)]
      unfold atV
      rw [e1 0 (by omega) (by omega), e1 1 (by omega) (by omega), e1 2 (by omega) (by omega), e1 3 (by omega) (by omega), e2 0 (by omega) (by omega), e2 1 (by omega) (by omega), e2 2 (by omega) (by omega), e2 3 (by omega) (by omega)]
    rw [hv]
    clear hv
    by_cases h0 : loc < 0
    · clear hin
      go_enter Try.func19, Try.ntmps19
      go_wp2_with fail
      refine bodyPost_ret (v := .agg #[.int .i64 0, .int .i64 0, .int .i64 0, .int .i64 0, .int .i64 0, .int .i64 0, .int .i64 0, .int .i64 0]) (by simp [results, Try.results19, go_sem]) rfl ⟨rfl, ?_⟩
      repeat (first | exact Below.refl _ _ | refine Below.drew ?_ | refine Below.alloc ?_ (by first | (simp; done) | (simp; omega)) _)
    · by_cases h4 : 4 ≤ loc
      · clear hin
        go_enter Try.func19, Try.ntmps19
        go_wp2_with fail
        refine bodyPost_ret (v := .agg #[.int .i64 0, .int .i64 0, .int .i64 0, .int .i64 0, .int .i64 0, .int .i64 0, .int .i64 0, .int .i64 0]) (by simp [results, Try.results19, go_sem]) rfl ⟨rfl, ?_⟩
        repeat (first | exact Below.refl _ _ | refine Below.drew ?_ | refine Below.alloc ?_ (by first | (simp; done) | (simp; omega)) _)
      · have ht : t < 0 := by omega
        clear hin
        go_enter Try.func19, Try.ntmps19
        go_wp2_with fail
        refine bodyPost_ret (v := .agg #[.int .i64 0, .int .i64 0, .int .i64 0, .int .i64 0, .int .i64 0, .int .i64 0, .int .i64 0, .int .i64 0]) (by simp [results, Try.results19, go_sem]) rfl ⟨rfl, ?_⟩
        repeat (first | exact Below.refl _ _ | refine Below.drew ?_ | refine Below.alloc ?_ (by first | (simp; done) | (simp; omega)) _)
end Go.Proofs.Ytkmhabbpndcnkaa
