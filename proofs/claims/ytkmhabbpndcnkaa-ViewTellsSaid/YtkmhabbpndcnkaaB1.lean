/-
  PART of ViewTells: the law's walk.
-/
import Derived.Test.YtkmhabbpndcnkaaB0
import Derived.Test.YtkmhabbpndcnkaaA4
import Derived.Deep.DeepCutAuto
import Derived.Deep.CutBlock
namespace Go.Proofs.Ytkmhabbpndcnkaa
open Go.RowKit
attribute [local go_sem 3000] cell_eq frozen_eq cellOf_cells frozenOf_cells setOf_cells ba_alloc_at ba_alloc_past ba_drew ba_setCell_same ba_setCell_other hp_size_setCell ldI_vw8 ldI_vw0 ldI_vw4 ldI_q4 ldR_some lv24 lv22 la24 la22 bx1 bx2 sa24 stI_zero stI_vw stR_some rowOf_cells ba_setRow_same ba_setRow_other setRow_alloc_at setRow_alloc_past setRow_drew size_setRow
attribute [local go_sem ↓ 5000] ldVar24 ldVar22 ldAt24 ldAt22 bsXr stAt24 stAt22 eq24f ne24f eq22f

/-- Whether there is such a place and such a time. -/
def inP (loc t : Int) : Bool := decide (loc ≥ 0) && decide (loc < 4) && decide (t ≥ 0)
def mayK (a : Nat → Int) : Nat → Bool
  | 0 => true
  | k + 1 => mayK a k && decide (a k ≥ 0) && decide (a (4 + k) ≥ 0) && decide (a k ≤ a (4 + k))
def leK (a b : Nat → Int) : Nat → Bool
  | 0 => true
  | k + 1 => leK a b k && decide (a k ≤ b k) && decide (a (4 + k) ≤ b (4 + k))
theorem mayK_mayF (a : Nat → Int) : mayK a 4 = mayF a := by
  rw [Bool.eq_iff_iff, mayF_iff]
  simp only [mayK, Bool.and_eq_true, decide_eq_true_eq, true_and]
  constructor
  · rintro ⟨⟨⟨⟨⟨⟨⟨⟨⟨⟨⟨p0, q0⟩, r0⟩, p1⟩, q1⟩, r1⟩, p2⟩, q2⟩, r2⟩, p3⟩, q3⟩, r3⟩ i hi
    have : i = 0 ∨ i = 1 ∨ i = 2 ∨ i = 3 := by omega
    rcases this with rfl | rfl | rfl | rfl
    · exact ⟨p0, r0⟩
    · exact ⟨p1, r1⟩
    · exact ⟨p2, r2⟩
    · exact ⟨p3, r3⟩
  · intro h
    have h0 := h 0 (by omega); have h1 := h 1 (by omega); have h2 := h 2 (by omega); have h3 := h 3 (by omega)
    simp only [Nat.zero_add, show 1 + 4 = 5 from rfl, show 2 + 4 = 6 from rfl, show 3 + 4 = 7 from rfl, Nat.add_zero, show 4 + 1 = 5 from rfl, show 4 + 2 = 6 from rfl, show 4 + 3 = 7 from rfl] at *
    refine ⟨⟨⟨⟨⟨⟨⟨⟨⟨⟨⟨?_, ?_⟩, ?_⟩, ?_⟩, ?_⟩, ?_⟩, ?_⟩, ?_⟩, ?_⟩, ?_⟩, ?_⟩, ?_⟩ <;> omega
theorem leK_leV (a b : Nat → Int) : leK a b 4 = leV a b := by
  rw [Bool.eq_iff_iff, leV_iff]
  simp only [leK, Bool.and_eq_true, decide_eq_true_eq, true_and]
  constructor
  · rintro ⟨⟨⟨⟨⟨⟨⟨p0, q0⟩, p1⟩, q1⟩, p2⟩, q2⟩, p3⟩, q3⟩ i hi
    have : i = 0 ∨ i = 1 ∨ i = 2 ∨ i = 3 ∨ i = 4 ∨ i = 5 ∨ i = 6 ∨ i = 7 := by omega
    rcases this with rfl | rfl | rfl | rfl | rfl | rfl | rfl | rfl <;> assumption
  · intro h
    exact ⟨⟨⟨⟨⟨⟨⟨h 0 (by omega), h 4 (by omega)⟩, h 1 (by omega)⟩, h 5 (by omega)⟩, h 2 (by omega)⟩, h 6 (by omega)⟩, h 3 (by omega)⟩, h 7 (by omega)⟩

theorem inP_iff (loc t : Int) : inP loc t = true ↔ 0 ≤ loc ∧ loc < 4 ∧ 0 ≤ t := by
  simp only [inP, Bool.and_eq_true, decide_eq_true_eq]; omega
theorem atR_yes {loc t : Int} {k : Nat} (h : (inP loc t && decide ((k : Int) = loc)) = true) : atR loc t k = t := by
  rw [Bool.and_eq_true, inP_iff, decide_eq_true_eq] at h
  unfold atR; rw [if_pos ⟨h.1.2.2, h.2.symm⟩]
theorem atR_no {loc t : Int} {k : Nat} (hk : k < 4) (h : ¬ (inP loc t && decide ((k : Int) = loc)) = true) : atR loc t k = 0 := by
  rw [Bool.and_eq_true, inP_iff, decide_eq_true_eq] at h
  unfold atR; rw [if_neg fun h1 => h ⟨⟨by omega, by omega, h1.1⟩, h1.2.symm⟩]
theorem atP_yes {loc t : Int} {pln : Bool} {k : Nat} (h : ((inP loc t && decide ((k : Int) = loc)) && pln) = true) : atP loc t pln k = t := by
  rw [Bool.and_eq_true, Bool.and_eq_true, inP_iff, decide_eq_true_eq] at h
  unfold atP; rw [if_pos ⟨h.2, h.1.1.2.2, h.1.2.symm⟩]
theorem atP_no {loc t : Int} {pln : Bool} {k : Nat} (hk : k < 4) (h : ¬ ((inP loc t && decide ((k : Int) = loc)) && pln) = true) : atP loc t pln k = 0 := by
  rw [Bool.and_eq_true, Bool.and_eq_true, inP_iff, decide_eq_true_eq] at h
  unfold atP; rw [if_neg fun h1 => h ⟨⟨⟨by omega, by omega, h1.2.1⟩, h1.2.2.symm⟩, h1.1⟩]

set_option maxRecDepth 100000 in
set_option maxHeartbeats 4000000 in
theorem tells_any (a b : Nat → Int) (loc tt : Int) (pln : Bool) (w : World) : Calls Try.prog 4 #[.agg (vw a), .agg (vw b), .int .i64 loc, .int .i64 tt, .bool pln] w fun e w' => e = .returned (.bool true) ∧ Below w.heap.size w w' := by
  go_enter Try.func4, Try.ntmps4
  go_wp2_with fail
  refine (join_1f (f := a) (g := b) ?_).mono ?_
  · go_simp
  rintro e v0 ⟨rfl, hb⟩
  obtain ⟨bj, hj⟩ : ∃ n, n = v0.heap.size := ⟨_, rfl⟩
  have hS0 : St w [(v0.heap.size, .cells (vw (jn a b)) 24 (0, 0)), (w.heap.size + 1, .cells (vw b) 24 (0, 0)), (w.heap.size, .cells (vw a) 24 (0, 0))] (v0.alloc (.cells (vw (jn a b)) 24 (0, 0))) := (((((St.refl w).newAt _ _ rfl).newAt _ _ (by simp)).alloc _).call hb).new _
  clear hb
  go_upto_region 3 with fail
  rw [← hj] at hS0 ⊢
  generalize v0.alloc (.cells (vw (jn a b)) 24 (0, 0)) = z0 at hS0 ⊢
  clear hj
  obtain ⟨hB, ⟨s_j, g_j⟩, ⟨s_b, g_b⟩, ⟨s_a, g_a⟩, hnil⟩ := id hS0
  clear hnil
  go_wp2_with fail
  clear hB s_j g_j s_b g_b s_a g_a
  refine (flat_f (sh a) _).mono ?_
  rintro e v1 ⟨rfl, hb⟩
  obtain ⟨bf, hj⟩ : ∃ n, n = v1.heap.size := ⟨_, rfl⟩
  have hS1 : St w [(v1.heap.size, .cells (vw (fl (sh a))) 24 (0, 0)), (bj, .cells (vw (jn a b)) 24 (0, 0)), (w.heap.size + 1, .cells (vw b) 24 (0, 0)), (w.heap.size, .cells (vw a) 24 (0, 0))] (v1.alloc (.cells (vw (fl (sh a))) 24 (0, 0))) := ((hS0).call hb).new _
  clear hb
  go_upto_region 4 with fail
  rw [← hj] at hS1 ⊢
  generalize v1.alloc (.cells (vw (fl (sh a))) 24 (0, 0)) = z1 at hS1 ⊢
  clear hj
  obtain ⟨hB, ⟨s_f, g_f⟩, ⟨s_j, g_j⟩, ⟨s_b, g_b⟩, ⟨s_a, g_a⟩, hnil⟩ := id hS1
  clear hnil
  go_wp2_with fail
  clear hB s_f g_f s_j g_j s_b g_b s_a g_a
  refine (at_f loc tt pln _).mono ?_
  rintro e v2 ⟨rfl, hb⟩
  obtain ⟨bx, hj⟩ : ∃ n, n = v2.heap.size := ⟨_, rfl⟩
  have hS2 : St w [(v2.heap.size, .cells (vw (atF loc tt pln)) 24 (0, 0)), (bf, .cells (vw (fl (sh a))) 24 (0, 0)), (bj, .cells (vw (jn a b)) 24 (0, 0)), (w.heap.size + 1, .cells (vw b) 24 (0, 0)), (w.heap.size, .cells (vw a) 24 (0, 0))] (v2.alloc (.cells (vw (atF loc tt pln)) 24 (0, 0))) := ((hS1).call hb).new _
  clear hb
  go_upto_region 5 with fail
  rw [← hj] at hS2 ⊢
  generalize v2.alloc (.cells (vw (atF loc tt pln)) 24 (0, 0)) = z2 at hS2 ⊢
  clear hj
  obtain ⟨hB, ⟨s_x, g_x⟩, ⟨s_f, g_f⟩, ⟨s_j, g_j⟩, ⟨s_b, g_b⟩, ⟨s_a, g_a⟩, hnil⟩ := id hS2
  clear hnil
  go_wp2_with fail
  clear hB s_x g_x s_f g_f s_j g_j s_b g_b s_a g_a
  refine (map_f a _).mono ?_
  rintro e v3 ⟨rfl, hb⟩
  obtain ⟨bm, hj⟩ : ∃ n, n = v3.heap.size := ⟨_, rfl⟩
  have hS3 : St w [(v3.heap.size, .cells (vw (mpK a 4)) 24 (0, 0)), (bx, .cells (vw (atF loc tt pln)) 24 (0, 0)), (bf, .cells (vw (fl (sh a))) 24 (0, 0)), (bj, .cells (vw (jn a b)) 24 (0, 0)), (w.heap.size + 1, .cells (vw b) 24 (0, 0)), (w.heap.size, .cells (vw a) 24 (0, 0))] (v3.alloc (.cells (vw (mpK a 4)) 24 (0, 0))) := ((hS2).call hb).new _
  clear hb
  go_upto_region 6 with fail
  rw [← hj] at hS3 ⊢
  generalize v3.alloc (.cells (vw (mpK a 4)) 24 (0, 0)) = z3 at hS3 ⊢
  clear hj
  obtain ⟨hB, ⟨s_m, g_m⟩, ⟨s_x, g_x⟩, ⟨s_f, g_f⟩, ⟨s_j, g_j⟩, ⟨s_b, g_b⟩, ⟨s_a, g_a⟩, hnil⟩ := id hS3
  clear hnil
  rename_i K1 hK1
  clear hS0 hS1 hS2 hS3
  refine wp_frame (fun t => t.size = 240 ∧ t.getD 2 undef = .int .i64 loc ∧ t.getD 3 undef = .int .i64 tt ∧ t.getD 4 undef = .bool pln ∧ t.getD 5 undef = .pointer (some ⟨w.heap.size, 0, none⟩) ∧ t.getD 6 undef = .pointer (some ⟨w.heap.size + 1, 0, none⟩) ∧ t.getD 11 undef = .bool true ∧ t.getD 12 undef = .bool true ∧ t.getD 13 undef = .pointer (some ⟨bj, 0, none⟩) ∧ t.getD 14 undef = .pointer (some ⟨bf, 0, none⟩) ∧ t.getD 15 undef = .pointer (some ⟨bx, 0, none⟩) ∧ t.getD 16 undef = .pointer (some ⟨bm, 0, none⟩)) ⟨rfl, rfl, rfl, rfl, rfl, rfl, rfl, rfl, rfl, rfl, rfl, rfl⟩ ?_
  rintro t0 ⟨hN, h2, h3, h4, h5, h6, h11, h12, h13, h14, h15, h16⟩
  refine wp_seqr [(36, .val (.int .i64 loc)), (37, .val (.bool (decide (loc ≥ 0)))), (38, .val (.bool (decide (loc ≥ 0)))), (39, .opt (decide (loc ≥ 0)) (.int .i64 loc)), (40, .opt (decide (loc ≥ 0)) (.bool (decide (loc < 4)))), (41, .val (.bool ((decide (loc ≥ 0)) && (decide (loc < 4))))), (42, .val (.bool ((decide (loc ≥ 0)) && (decide (loc < 4))))), (43, .opt ((decide (loc ≥ 0)) && (decide (loc < 4))) (.int .i64 tt)), (44, .opt ((decide (loc ≥ 0)) && (decide (loc < 4))) (.bool (decide (tt ≥ 0)))), (45, .val (.bool (((decide (loc ≥ 0)) && (decide (loc < 4))) && (decide (tt ≥ 0))))), (17, .val (.bool (((decide (loc ≥ 0)) && (decide (loc < 4))) && (decide (tt ≥ 0)))))] [] [] [⟨none, [2], [], [], none⟩, ⟨none, [], [36], [], none⟩, ⟨none, [], [37], [], none⟩, ⟨some (38, true), [2], [38], [], none⟩, ⟨some (38, true), [], [38, 39], [], none⟩, ⟨none, [], [38, 40], [], none⟩, ⟨none, [], [41], [], none⟩, ⟨some (42, true), [3], [42], [], none⟩, ⟨some (42, true), [], [42, 43], [], none⟩, ⟨none, [], [42, 44], [], none⟩, ⟨none, [], [45], [], none⟩] hN (by kernel_rfl) (by kernel_rfl) rfl rfl List.nodup_nil _ (fun x hx => by cases hx) ?_ ?_
  refine ⟨?_, ?_, ?_, ?_, ?_, ?_, ?_, ?_, ?_, ?_, ?_, trivial⟩
  · refine Oo.is (.int .i64 loc) (fun d hd w => by cases hd; exact rfl) fun ac wd hc hp hu hr => ?_
    have f2 := (hp 2 (by decide)).trans h2
    go_simp
  · refine Oo.is (.bool (decide (loc ≥ 0))) (fun d hd w => by cases hd; exact rfl) fun ac wd hc hp hu hr => ?_
    have f36 : ac.tmps.getD 36 undef = .int .i64 loc := hu 36 (by decide)
    go_simp
  · refine Oo.is (.bool (decide (loc ≥ 0))) (fun d hd w => by cases hd; exact rfl) fun ac wd hc hp hu hr => ?_
    have f37 : ac.tmps.getD 37 undef = .bool (decide (loc ≥ 0)) := hu 37 (by decide)
    go_simp
  · refine Oo.maybe (c := decide (loc ≥ 0)) (by decide) (fun v w h => h) (fun hG => Oo.is (.int .i64 loc) (fun d hd w => by cases hd; exact fun _ => rfl) fun ac wd hc hp hu hr => ?_) (fun hne e he w => by cases he; exact fun hh => absurd hh hne)
    have f2 := (hp 2 (by decide)).trans h2
    have f38 : ac.tmps.getD 38 undef = .bool (decide (loc ≥ 0)) := hu 38 (by decide)
    go_simp
  · refine Oo.maybe (c := decide (loc ≥ 0)) (by decide) (fun v w h => h) (fun hG => Oo.is (.bool (decide (loc < 4))) (fun d hd w => by cases hd; exact fun _ => rfl) fun ac wd hc hp hu hr => ?_) (fun hne e he w => by cases he; exact fun hh => absurd hh hne)
    have f38 : ac.tmps.getD 38 undef = .bool (decide (loc ≥ 0)) := hu 38 (by decide)
    have f39 : ac.tmps.getD 39 undef = .int .i64 loc := hu 39 (by decide) hG
    go_simp
  · refine Oo.is (.bool ((decide (loc ≥ 0)) && (decide (loc < 4)))) (fun d hd w => by cases hd; exact rfl) fun ac wd hc hp hu hr => ?_
    have f38 : ac.tmps.getD 38 undef = .bool (decide (loc ≥ 0)) := hu 38 (by decide)
    have f40 : (decide (loc ≥ 0)) = true → ac.tmps.getD 40 undef = .bool (decide (loc < 4)) := hu 40 (by decide)
    rcases Bool.eq_false_or_eq_true (decide (loc ≥ 0)) with hG | hG
    · have f40 := f40 hG; rw [hG] at f38 ⊢; go_simp
    · rw [hG] at f38 ⊢; go_simp
  · refine Oo.is (.bool ((decide (loc ≥ 0)) && (decide (loc < 4)))) (fun d hd w => by cases hd; exact rfl) fun ac wd hc hp hu hr => ?_
    have f41 : ac.tmps.getD 41 undef = .bool ((decide (loc ≥ 0)) && (decide (loc < 4))) := hu 41 (by decide)
    go_simp
  · refine Oo.maybe (c := (decide (loc ≥ 0)) && (decide (loc < 4))) (by decide) (fun v w h => h) (fun hG => Oo.is (.int .i64 tt) (fun d hd w => by cases hd; exact fun _ => rfl) fun ac wd hc hp hu hr => ?_) (fun hne e he w => by cases he; exact fun hh => absurd hh hne)
    have f3 := (hp 3 (by decide)).trans h3
    have f42 : ac.tmps.getD 42 undef = .bool ((decide (loc ≥ 0)) && (decide (loc < 4))) := hu 42 (by decide)
    go_simp
  · refine Oo.maybe (c := (decide (loc ≥ 0)) && (decide (loc < 4))) (by decide) (fun v w h => h) (fun hG => Oo.is (.bool (decide (tt ≥ 0))) (fun d hd w => by cases hd; exact fun _ => rfl) fun ac wd hc hp hu hr => ?_) (fun hne e he w => by cases he; exact fun hh => absurd hh hne)
    have f42 : ac.tmps.getD 42 undef = .bool ((decide (loc ≥ 0)) && (decide (loc < 4))) := hu 42 (by decide)
    have f43 : ac.tmps.getD 43 undef = .int .i64 tt := hu 43 (by decide) hG
    go_simp
  · refine Oo.is (.bool (((decide (loc ≥ 0)) && (decide (loc < 4))) && (decide (tt ≥ 0)))) (fun d hd w => by cases hd; exact rfl) fun ac wd hc hp hu hr => ?_
    have f42 : ac.tmps.getD 42 undef = .bool ((decide (loc ≥ 0)) && (decide (loc < 4))) := hu 42 (by decide)
    have f44 : ((decide (loc ≥ 0)) && (decide (loc < 4))) = true → ac.tmps.getD 44 undef = .bool (decide (tt ≥ 0)) := hu 44 (by decide)
    rcases Bool.eq_false_or_eq_true ((decide (loc ≥ 0)) && (decide (loc < 4))) with hG | hG
    · have f44 := f44 hG; rw [hG] at f42 ⊢; go_simp
    · rw [hG] at f42 ⊢; go_simp
  · refine Oo.is (.bool (((decide (loc ≥ 0)) && (decide (loc < 4))) && (decide (tt ≥ 0)))) (fun d hd w => by cases hd; exact rfl) fun ac wd hc hp hu hr => ?_
    have f45 : ac.tmps.getD 45 undef = .bool (((decide (loc ≥ 0)) && (decide (loc < 4))) && (decide (tt ≥ 0))) := hu 45 (by decide)
    go_simp
  intro t1 w1 P1
  replace hN := P1.size.trans hN
  replace h2 := (P1.kept 2 (by kernel_rfl)).trans h2
  replace h3 := (P1.kept 3 (by kernel_rfl)).trans h3
  replace h4 := (P1.kept 4 (by kernel_rfl)).trans h4
  replace h5 := (P1.kept 5 (by kernel_rfl)).trans h5
  replace h6 := (P1.kept 6 (by kernel_rfl)).trans h6
  replace h11 := (P1.kept 11 (by kernel_rfl)).trans h11
  replace h12 := (P1.kept 12 (by kernel_rfl)).trans h12
  replace h13 := (P1.kept 13 (by kernel_rfl)).trans h13
  replace h14 := (P1.kept 14 (by kernel_rfl)).trans h14
  replace h15 := (P1.kept 15 (by kernel_rfl)).trans h15
  replace h16 := (P1.kept 16 (by kernel_rfl)).trans h16
  have h17 : t1.getD 17 undef = .bool (((decide (loc ≥ 0)) && (decide (loc < 4))) && (decide (tt ≥ 0))) := P1.tab 17
  replace g_a := (P1.ch.block _ s_a List.not_mem_nil).trans g_a
  replace g_b := (P1.ch.block _ s_b List.not_mem_nil).trans g_b
  replace g_j := (P1.ch.block _ s_j List.not_mem_nil).trans g_j
  replace g_f := (P1.ch.block _ s_f List.not_mem_nil).trans g_f
  replace g_x := (P1.ch.block _ s_x List.not_mem_nil).trans g_x
  replace g_m := (P1.ch.block _ s_m List.not_mem_nil).trans g_m
  replace s_a := Nat.lt_of_lt_of_le s_a P1.ch.size
  replace s_b := Nat.lt_of_lt_of_le s_b P1.ch.size
  replace s_j := Nat.lt_of_lt_of_le s_j P1.ch.size
  replace s_f := Nat.lt_of_lt_of_le s_f P1.ch.size
  replace s_x := Nat.lt_of_lt_of_le s_x P1.ch.size
  replace s_m := Nat.lt_of_lt_of_le s_m P1.ch.size
  replace hB := P1.ch.below hB hB.size (fun b hb => by cases hb)
  clear P1
  refine hK1 _ _ ?_
  clear hK1
  refine wp_seq ?_
  refine wp_seq ?_
  change _ = Value.bool (inP loc tt) at h17
  rw [show Value.bool true = .bool (mayK a 0) from rfl] at h11
  rw [show Value.bool true = .bool (leK a b 0) from rfl] at h12
  refine wp_seqr [(18, .val (.int .i64 0))] [] [] [⟨none, [], [], [], none⟩] hN (by kernel_rfl) (by kernel_rfl) rfl rfl List.nodup_nil _ (fun x hx => by cases hx) ?_ ?_
  refine ⟨?_, trivial⟩
  · refine Oo.is (.int .i64 0) (fun d hd w => by cases hd; exact rfl) fun ac wd hc hp hu hr => ?_
    go_simp
  intro t2 w2 P2
  replace hN := P2.size.trans hN
  replace h2 := (P2.kept 2 (by kernel_rfl)).trans h2
  replace h3 := (P2.kept 3 (by kernel_rfl)).trans h3
  replace h4 := (P2.kept 4 (by kernel_rfl)).trans h4
  replace h5 := (P2.kept 5 (by kernel_rfl)).trans h5
  replace h6 := (P2.kept 6 (by kernel_rfl)).trans h6
  replace h11 := (P2.kept 11 (by kernel_rfl)).trans h11
  replace h12 := (P2.kept 12 (by kernel_rfl)).trans h12
  replace h13 := (P2.kept 13 (by kernel_rfl)).trans h13
  replace h14 := (P2.kept 14 (by kernel_rfl)).trans h14
  replace h15 := (P2.kept 15 (by kernel_rfl)).trans h15
  replace h16 := (P2.kept 16 (by kernel_rfl)).trans h16
  replace h17 := (P2.kept 17 (by kernel_rfl)).trans h17
  have h18 : t2.getD 18 undef = .int .i64 0 := P2.tab 18
  replace g_a := (P2.ch.block _ s_a List.not_mem_nil).trans g_a
  replace g_b := (P2.ch.block _ s_b List.not_mem_nil).trans g_b
  replace g_j := (P2.ch.block _ s_j List.not_mem_nil).trans g_j
  replace g_f := (P2.ch.block _ s_f List.not_mem_nil).trans g_f
  replace g_x := (P2.ch.block _ s_x List.not_mem_nil).trans g_x
  replace g_m := (P2.ch.block _ s_m List.not_mem_nil).trans g_m
  replace s_a := Nat.lt_of_lt_of_le s_a P2.ch.size
  replace s_b := Nat.lt_of_lt_of_le s_b P2.ch.size
  replace s_j := Nat.lt_of_lt_of_le s_j P2.ch.size
  replace s_f := Nat.lt_of_lt_of_le s_f P2.ch.size
  replace s_x := Nat.lt_of_lt_of_le s_x P2.ch.size
  replace s_m := Nat.lt_of_lt_of_le s_m P2.ch.size
  replace hB := P2.ch.below hB hB.size (fun b hb => by cases hb)
  clear P2
  refine wp_block ?_
  refine wp_loop (fun ac w' => ∃ (k : Nat) (t : Array Value), ac = ⟨t, []⟩ ∧ t.size = 240 ∧ t.getD 2 undef = .int .i64 loc ∧ t.getD 3 undef = .int .i64 tt ∧ t.getD 4 undef = .bool pln ∧ t.getD 5 undef = .pointer (some ⟨w.heap.size, 0, none⟩) ∧ t.getD 6 undef = .pointer (some ⟨w.heap.size + 1, 0, none⟩) ∧ t.getD 11 undef = .bool (mayK a k) ∧ t.getD 12 undef = .bool (leK a b k) ∧ t.getD 13 undef = .pointer (some ⟨bj, 0, none⟩) ∧ t.getD 14 undef = .pointer (some ⟨bf, 0, none⟩) ∧ t.getD 15 undef = .pointer (some ⟨bx, 0, none⟩) ∧ t.getD 16 undef = .pointer (some ⟨bm, 0, none⟩) ∧ t.getD 17 undef = .bool (inP loc tt) ∧ t.getD 18 undef = .int .i64 (k : Int) ∧ Below w.heap.size w w' ∧ blkAt w' w.heap.size = some (.cells (vw a) 24 (0, 0)) ∧ w.heap.size < w'.heap.size ∧ blkAt w' (w.heap.size + 1) = some (.cells (vw b) 24 (0, 0)) ∧ w.heap.size + 1 < w'.heap.size ∧ blkAt w' bj = some (.cells (vw (jn a b)) 24 (0, 0)) ∧ bj < w'.heap.size ∧ blkAt w' bf = some (.cells (vw (fl (sh a))) 24 (0, 0)) ∧ bf < w'.heap.size ∧ blkAt w' bx = some (.cells (vw (atF loc tt pln)) 24 (0, 0)) ∧ bx < w'.heap.size ∧ blkAt w' bm = some (.cells (vw (mpK a 4)) 24 (0, 0)) ∧ bm < w'.heap.size ∧ k ≤ 4) (fun ac _ => 4 - (match ac.tmps.getD 18 undef with | .int _ k => k.toNat | _ => 0)) ⟨0, _, rfl, hN, h2, h3, h4, h5, h6, h11, h12, h13, h14, h15, h16, h17, h18, hB, g_a, s_a, g_b, s_b, g_j, s_j, g_f, s_f, g_x, s_x, g_m, s_m, by omega⟩ ?_
  clear h2 h3 h4 h5 h6 h11 h12 h13 h14 h15 h16 h17 h18 hN hB g_a s_a g_b s_b g_j s_j g_f s_f g_x s_x g_m s_m
  rintro ac w3 ⟨k, t3, rfl, hN, h2, h3, h4, h5, h6, h11, h12, h13, h14, h15, h16, h17, h18, hB, g_a, s_a, g_b, s_b, g_j, s_j, g_f, s_f, g_x, s_x, g_m, s_m, hk⟩
  have i18 := h18
  refine wp_seq ?_
  refine wp_seq ?_
  refine wp_seqr [(46, .val (.int .i64 (k : Int))), (47, .val (.bool (decide ((k : Int) < 4))))] [] [] [⟨none, [18], [], [], none⟩, ⟨none, [], [46], [], none⟩] hN (by kernel_rfl) (by kernel_rfl) rfl rfl List.nodup_nil _ (fun x hx => by cases hx) ?_ ?_
  refine ⟨?_, ?_, trivial⟩
  · refine Oo.is (.int .i64 (k : Int)) (fun d hd w => by cases hd; exact rfl) fun ac wd hc hp hu hr => ?_
    have f18 := (hp 18 (by decide)).trans h18
    go_simp
  · refine Oo.is (.bool (decide ((k : Int) < 4))) (fun d hd w => by cases hd; exact rfl) fun ac wd hc hp hu hr => ?_
    have f46 : ac.tmps.getD 46 undef = .int .i64 (k : Int) := hu 46 (by decide)
    go_simp
  intro t4 w4 P4
  replace hN := P4.size.trans hN
  replace h2 := (P4.kept 2 (by kernel_rfl)).trans h2
  replace h3 := (P4.kept 3 (by kernel_rfl)).trans h3
  replace h4 := (P4.kept 4 (by kernel_rfl)).trans h4
  replace h5 := (P4.kept 5 (by kernel_rfl)).trans h5
  replace h6 := (P4.kept 6 (by kernel_rfl)).trans h6
  replace h11 := (P4.kept 11 (by kernel_rfl)).trans h11
  replace h12 := (P4.kept 12 (by kernel_rfl)).trans h12
  replace h13 := (P4.kept 13 (by kernel_rfl)).trans h13
  replace h14 := (P4.kept 14 (by kernel_rfl)).trans h14
  replace h15 := (P4.kept 15 (by kernel_rfl)).trans h15
  replace h16 := (P4.kept 16 (by kernel_rfl)).trans h16
  replace h17 := (P4.kept 17 (by kernel_rfl)).trans h17
  replace h18 := (P4.kept 18 (by kernel_rfl)).trans h18
  have h47 : t4.getD 47 undef = .bool (decide ((k : Int) < 4)) := P4.tab 47
  replace g_a := (P4.ch.block _ s_a List.not_mem_nil).trans g_a
  replace g_b := (P4.ch.block _ s_b List.not_mem_nil).trans g_b
  replace g_j := (P4.ch.block _ s_j List.not_mem_nil).trans g_j
  replace g_f := (P4.ch.block _ s_f List.not_mem_nil).trans g_f
  replace g_x := (P4.ch.block _ s_x List.not_mem_nil).trans g_x
  replace g_m := (P4.ch.block _ s_m List.not_mem_nil).trans g_m
  replace s_a := Nat.lt_of_lt_of_le s_a P4.ch.size
  replace s_b := Nat.lt_of_lt_of_le s_b P4.ch.size
  replace s_j := Nat.lt_of_lt_of_le s_j P4.ch.size
  replace s_f := Nat.lt_of_lt_of_le s_f P4.ch.size
  replace s_x := Nat.lt_of_lt_of_le s_x P4.ch.size
  replace s_m := Nat.lt_of_lt_of_le s_m P4.ch.size
  replace hB := P4.ch.below hB hB.size (fun b hb => by cases hb)
  clear P4
  by_cases hkb : k < 4
  · rw [show (decide ((k : Int) < 4)) = true from decide_eq_true (by omega)] at h47
    refine wp_cond_true h47 ?_
    clear h47
    refine wp_skip ?_
    have hk1 : (k : Int) < 4 := by omega
    have hk2 : ¬ (k : Int) < 0 := by omega
    have hwr : IntKind.wrap .i64 ((k : Int) + 1) = (((k + 1) : Nat) : Int) := by simp [IntKind.wrap, IntKind.signed, IntKind.bits]; omega
    refine wp_seq ?_
    refine wp_block ?_
    refine wp_seq ?_
    refine wp_draw [(50, .val (.bool (mayK a k))), (51, .val (.bool (mayK a k))), (52, .opt (mayK a k) (.int .i64 (k : Int))), (53, .opt (mayK a k) (.pointer (some ⟨w.heap.size, 0, none⟩))), (54, .opt (mayK a k) (.pointer (some ⟨w.heap.size, k, none⟩))), (55, .opt (mayK a k) (.int .i64 (a (k)))), (56, .opt (mayK a k) (.bool (decide (a (k) ≥ 0)))), (57, .val (.bool ((mayK a k) && (decide (a (k) ≥ 0))))), (58, .val (.bool ((mayK a k) && (decide (a (k) ≥ 0))))), (59, .opt ((mayK a k) && (decide (a (k) ≥ 0))) (.int .i64 (k : Int))), (60, .opt ((mayK a k) && (decide (a (k) ≥ 0))) (.pointer (some ⟨w.heap.size, 4, none⟩))), (61, .opt ((mayK a k) && (decide (a (k) ≥ 0))) (.pointer (some ⟨w.heap.size, 4 + k, none⟩))), (62, .opt ((mayK a k) && (decide (a (k) ≥ 0))) (.int .i64 (a (4 + k)))), (63, .opt ((mayK a k) && (decide (a (k) ≥ 0))) (.bool (decide (a (4 + k) ≥ 0)))), (64, .val (.bool (((mayK a k) && (decide (a (k) ≥ 0))) && (decide (a (4 + k) ≥ 0))))), (65, .val (.bool (((mayK a k) && (decide (a (k) ≥ 0))) && (decide (a (4 + k) ≥ 0))))), (66, .opt (((mayK a k) && (decide (a (k) ≥ 0))) && (decide (a (4 + k) ≥ 0))) (.int .i64 (k : Int))), (67, .opt (((mayK a k) && (decide (a (k) ≥ 0))) && (decide (a (4 + k) ≥ 0))) (.pointer (some ⟨w.heap.size, 0, none⟩))), (68, .opt (((mayK a k) && (decide (a (k) ≥ 0))) && (decide (a (4 + k) ≥ 0))) (.pointer (some ⟨w.heap.size, k, none⟩))), (69, .opt (((mayK a k) && (decide (a (k) ≥ 0))) && (decide (a (4 + k) ≥ 0))) (.int .i64 (a (k)))), (70, .opt (((mayK a k) && (decide (a (k) ≥ 0))) && (decide (a (4 + k) ≥ 0))) (.int .i64 (k : Int))), (71, .opt (((mayK a k) && (decide (a (k) ≥ 0))) && (decide (a (4 + k) ≥ 0))) (.pointer (some ⟨w.heap.size, 4, none⟩))), (72, .opt (((mayK a k) && (decide (a (k) ≥ 0))) && (decide (a (4 + k) ≥ 0))) (.pointer (some ⟨w.heap.size, 4 + k, none⟩))), (73, .opt (((mayK a k) && (decide (a (k) ≥ 0))) && (decide (a (4 + k) ≥ 0))) (.int .i64 (a (4 + k)))), (74, .opt (((mayK a k) && (decide (a (k) ≥ 0))) && (decide (a (4 + k) ≥ 0))) (.bool (decide (a (k) ≤ a (4 + k))))), (75, .val (.bool ((((mayK a k) && (decide (a (k) ≥ 0))) && (decide (a (4 + k) ≥ 0))) && (decide (a (k) ≤ a (4 + k)))))), (11, .val (.bool ((((mayK a k) && (decide (a (k) ≥ 0))) && (decide (a (4 + k) ≥ 0))) && (decide (a (k) ≤ a (4 + k))))))] [] [] [⟨none, [11], [], [], none⟩, ⟨none, [], [50], [], none⟩, ⟨some (51, true), [18], [51], [], none⟩, ⟨some (51, true), [5], [51], [], none⟩, ⟨some (51, true), [], [51, 52, 53], [], none⟩, ⟨some (51, true), [], [51, 54], [], none⟩, ⟨some (51, true), [], [51, 55], [], none⟩, ⟨none, [], [51, 56], [], none⟩, ⟨none, [], [57], [], none⟩, ⟨some (58, true), [18], [58], [], none⟩, ⟨some (58, true), [5], [58], [], none⟩, ⟨some (58, true), [], [58, 59, 60], [], none⟩, ⟨some (58, true), [], [58, 61], [], none⟩, ⟨some (58, true), [], [58, 62], [], none⟩, ⟨none, [], [58, 63], [], none⟩, ⟨none, [], [64], [], none⟩, ⟨some (65, true), [18], [65], [], none⟩, ⟨some (65, true), [5], [65], [], none⟩, ⟨some (65, true), [], [65, 66, 67], [], none⟩, ⟨some (65, true), [], [65, 68], [], none⟩, ⟨some (65, true), [18], [65], [], none⟩, ⟨some (65, true), [5], [65], [], none⟩, ⟨some (65, true), [], [65, 70, 71], [], none⟩, ⟨some (65, true), [], [65, 72], [], none⟩, ⟨some (65, true), [], [65, 69, 73], [], none⟩, ⟨none, [], [65, 74], [], none⟩, ⟨none, [], [75], [], none⟩] hN (by kernel_rfl) (by kernel_rfl) (by kernel_rfl) rfl rfl List.nodup_nil _ (fun x hx => by cases hx) ?_ ?_
    refine ⟨?_, ?_, ?_, ?_, ?_, ?_, ?_, ?_, ?_, ?_, ?_, ?_, ?_, ?_, ?_, ?_, ?_, ?_, ?_, ?_, ?_, ?_, ?_, ?_, ?_, ?_, ?_, trivial⟩
    · refine Oo.is (.bool (mayK a k)) (fun d hd w => by cases hd; exact rfl) fun ac wd hc hp hu hr => ?_
      have f11 := (hp 11 (by decide)).trans h11
      go_simp
    · refine Oo.is (.bool (mayK a k)) (fun d hd w => by cases hd; exact rfl) fun ac wd hc hp hu hr => ?_
      have f50 : ac.tmps.getD 50 undef = .bool (mayK a k) := hu 50 (by decide)
      go_simp
    · refine Oo.maybe (c := mayK a k) (by decide) (fun v w h => h) (fun hG => Oo.is (.int .i64 (k : Int)) (fun d hd w => by cases hd; exact fun _ => rfl) fun ac wd hc hp hu hr => ?_) (fun hne e he w => by cases he; exact fun hh => absurd hh hne)
      have f18 := (hp 18 (by decide)).trans h18
      have f51 : ac.tmps.getD 51 undef = .bool (mayK a k) := hu 51 (by decide)
      go_simp
    · refine Oo.maybe (c := mayK a k) (by decide) (fun v w h => h) (fun hG => Oo.is (.pointer (some ⟨w.heap.size, 0, none⟩)) (fun d hd w => by cases hd; exact fun _ => rfl) fun ac wd hc hp hu hr => ?_) (fun hne e he w => by cases he; exact fun hh => absurd hh hne)
      have f5 := (hp 5 (by decide)).trans h5
      have f51 : ac.tmps.getD 51 undef = .bool (mayK a k) := hu 51 (by decide)
      go_simp
    · refine Oo.maybe (c := mayK a k) (by decide) (fun v w h => h) (fun hG => Oo.is (.pointer (some ⟨w.heap.size, k, none⟩)) (fun d hd w => by cases hd; exact fun _ => rfl) fun ac wd hc hp hu hr => ?_) (fun hne e he w => by cases he; exact fun hh => absurd hh hne)
      have f51 : ac.tmps.getD 51 undef = .bool (mayK a k) := hu 51 (by decide)
      have f52 : ac.tmps.getD 52 undef = .int .i64 (k : Int) := hu 52 (by decide) hG
      have f53 : ac.tmps.getD 53 undef = .pointer (some ⟨w.heap.size, 0, none⟩) := hu 53 (by decide) hG
      go_simp
    · refine Oo.maybe (c := mayK a k) (by decide) (fun v w h => h) (fun hG => Oo.is (.int .i64 (a (k))) (fun d hd w => by cases hd; exact fun _ => rfl) fun ac wd hc hp hu hr => ?_) (fun hne e he w => by cases he; exact fun hh => absurd hh hne)
      have f51 : ac.tmps.getD 51 undef = .bool (mayK a k) := hu 51 (by decide)
      have f54 : ac.tmps.getD 54 undef = .pointer (some ⟨w.heap.size, k, none⟩) := hu 54 (by decide) hG
      have qa := (hc.block _ s_a List.not_mem_nil).trans g_a
      have gX := vw_get a (k := k) (by omega)
      go_simp
    · refine Oo.maybe (c := mayK a k) (by decide) (fun v w h => h) (fun hG => Oo.is (.bool (decide (a (k) ≥ 0))) (fun d hd w => by cases hd; exact fun _ => rfl) fun ac wd hc hp hu hr => ?_) (fun hne e he w => by cases he; exact fun hh => absurd hh hne)
      have f51 : ac.tmps.getD 51 undef = .bool (mayK a k) := hu 51 (by decide)
      have f55 : ac.tmps.getD 55 undef = .int .i64 (a (k)) := hu 55 (by decide) hG
      go_simp
    · refine Oo.is (.bool ((mayK a k) && (decide (a (k) ≥ 0)))) (fun d hd w => by cases hd; exact rfl) fun ac wd hc hp hu hr => ?_
      have f51 : ac.tmps.getD 51 undef = .bool (mayK a k) := hu 51 (by decide)
      have f56 : (mayK a k) = true → ac.tmps.getD 56 undef = .bool (decide (a (k) ≥ 0)) := hu 56 (by decide)
      rcases Bool.eq_false_or_eq_true (mayK a k) with hG | hG
      · have f56 := f56 hG; rw [hG] at f51 ⊢; go_simp
      · rw [hG] at f51 ⊢; go_simp
    · refine Oo.is (.bool ((mayK a k) && (decide (a (k) ≥ 0)))) (fun d hd w => by cases hd; exact rfl) fun ac wd hc hp hu hr => ?_
      have f57 : ac.tmps.getD 57 undef = .bool ((mayK a k) && (decide (a (k) ≥ 0))) := hu 57 (by decide)
      go_simp
    · refine Oo.maybe (c := (mayK a k) && (decide (a (k) ≥ 0))) (by decide) (fun v w h => h) (fun hG => Oo.is (.int .i64 (k : Int)) (fun d hd w => by cases hd; exact fun _ => rfl) fun ac wd hc hp hu hr => ?_) (fun hne e he w => by cases he; exact fun hh => absurd hh hne)
      have f18 := (hp 18 (by decide)).trans h18
      have f58 : ac.tmps.getD 58 undef = .bool ((mayK a k) && (decide (a (k) ≥ 0))) := hu 58 (by decide)
      go_simp
    · refine Oo.maybe (c := (mayK a k) && (decide (a (k) ≥ 0))) (by decide) (fun v w h => h) (fun hG => Oo.is (.pointer (some ⟨w.heap.size, 4, none⟩)) (fun d hd w => by cases hd; exact fun _ => rfl) fun ac wd hc hp hu hr => ?_) (fun hne e he w => by cases he; exact fun hh => absurd hh hne)
      have f5 := (hp 5 (by decide)).trans h5
      have f58 : ac.tmps.getD 58 undef = .bool ((mayK a k) && (decide (a (k) ≥ 0))) := hu 58 (by decide)
      go_simp
    · refine Oo.maybe (c := (mayK a k) && (decide (a (k) ≥ 0))) (by decide) (fun v w h => h) (fun hG => Oo.is (.pointer (some ⟨w.heap.size, 4 + k, none⟩)) (fun d hd w => by cases hd; exact fun _ => rfl) fun ac wd hc hp hu hr => ?_) (fun hne e he w => by cases he; exact fun hh => absurd hh hne)
      have f58 : ac.tmps.getD 58 undef = .bool ((mayK a k) && (decide (a (k) ≥ 0))) := hu 58 (by decide)
      have f59 : ac.tmps.getD 59 undef = .int .i64 (k : Int) := hu 59 (by decide) hG
      have f60 : ac.tmps.getD 60 undef = .pointer (some ⟨w.heap.size, 4, none⟩) := hu 60 (by decide) hG
      go_simp
    · refine Oo.maybe (c := (mayK a k) && (decide (a (k) ≥ 0))) (by decide) (fun v w h => h) (fun hG => Oo.is (.int .i64 (a (4 + k))) (fun d hd w => by cases hd; exact fun _ => rfl) fun ac wd hc hp hu hr => ?_) (fun hne e he w => by cases he; exact fun hh => absurd hh hne)
      have f58 : ac.tmps.getD 58 undef = .bool ((mayK a k) && (decide (a (k) ≥ 0))) := hu 58 (by decide)
      have f61 : ac.tmps.getD 61 undef = .pointer (some ⟨w.heap.size, 4 + k, none⟩) := hu 61 (by decide) hG
      have qa := (hc.block _ s_a List.not_mem_nil).trans g_a
      have gX := vw_get a (k := 4 + k) (by omega)
      go_simp
    · refine Oo.maybe (c := (mayK a k) && (decide (a (k) ≥ 0))) (by decide) (fun v w h => h) (fun hG => Oo.is (.bool (decide (a (4 + k) ≥ 0))) (fun d hd w => by cases hd; exact fun _ => rfl) fun ac wd hc hp hu hr => ?_) (fun hne e he w => by cases he; exact fun hh => absurd hh hne)
      have f58 : ac.tmps.getD 58 undef = .bool ((mayK a k) && (decide (a (k) ≥ 0))) := hu 58 (by decide)
      have f62 : ac.tmps.getD 62 undef = .int .i64 (a (4 + k)) := hu 62 (by decide) hG
      go_simp
    · refine Oo.is (.bool (((mayK a k) && (decide (a (k) ≥ 0))) && (decide (a (4 + k) ≥ 0)))) (fun d hd w => by cases hd; exact rfl) fun ac wd hc hp hu hr => ?_
      have f58 : ac.tmps.getD 58 undef = .bool ((mayK a k) && (decide (a (k) ≥ 0))) := hu 58 (by decide)
      have f63 : ((mayK a k) && (decide (a (k) ≥ 0))) = true → ac.tmps.getD 63 undef = .bool (decide (a (4 + k) ≥ 0)) := hu 63 (by decide)
      rcases Bool.eq_false_or_eq_true ((mayK a k) && (decide (a (k) ≥ 0))) with hG | hG
      · have f63 := f63 hG; rw [hG] at f58 ⊢; go_simp
      · rw [hG] at f58 ⊢; go_simp
    · refine Oo.is (.bool (((mayK a k) && (decide (a (k) ≥ 0))) && (decide (a (4 + k) ≥ 0)))) (fun d hd w => by cases hd; exact rfl) fun ac wd hc hp hu hr => ?_
      have f64 : ac.tmps.getD 64 undef = .bool (((mayK a k) && (decide (a (k) ≥ 0))) && (decide (a (4 + k) ≥ 0))) := hu 64 (by decide)
      go_simp
    · refine Oo.maybe (c := ((mayK a k) && (decide (a (k) ≥ 0))) && (decide (a (4 + k) ≥ 0))) (by decide) (fun v w h => h) (fun hG => Oo.is (.int .i64 (k : Int)) (fun d hd w => by cases hd; exact fun _ => rfl) fun ac wd hc hp hu hr => ?_) (fun hne e he w => by cases he; exact fun hh => absurd hh hne)
      have f18 := (hp 18 (by decide)).trans h18
      have f65 : ac.tmps.getD 65 undef = .bool (((mayK a k) && (decide (a (k) ≥ 0))) && (decide (a (4 + k) ≥ 0))) := hu 65 (by decide)
      go_simp
    · refine Oo.maybe (c := ((mayK a k) && (decide (a (k) ≥ 0))) && (decide (a (4 + k) ≥ 0))) (by decide) (fun v w h => h) (fun hG => Oo.is (.pointer (some ⟨w.heap.size, 0, none⟩)) (fun d hd w => by cases hd; exact fun _ => rfl) fun ac wd hc hp hu hr => ?_) (fun hne e he w => by cases he; exact fun hh => absurd hh hne)
      have f5 := (hp 5 (by decide)).trans h5
      have f65 : ac.tmps.getD 65 undef = .bool (((mayK a k) && (decide (a (k) ≥ 0))) && (decide (a (4 + k) ≥ 0))) := hu 65 (by decide)
      go_simp
    · refine Oo.maybe (c := ((mayK a k) && (decide (a (k) ≥ 0))) && (decide (a (4 + k) ≥ 0))) (by decide) (fun v w h => h) (fun hG => Oo.is (.pointer (some ⟨w.heap.size, k, none⟩)) (fun d hd w => by cases hd; exact fun _ => rfl) fun ac wd hc hp hu hr => ?_) (fun hne e he w => by cases he; exact fun hh => absurd hh hne)
      have f65 : ac.tmps.getD 65 undef = .bool (((mayK a k) && (decide (a (k) ≥ 0))) && (decide (a (4 + k) ≥ 0))) := hu 65 (by decide)
      have f66 : ac.tmps.getD 66 undef = .int .i64 (k : Int) := hu 66 (by decide) hG
      have f67 : ac.tmps.getD 67 undef = .pointer (some ⟨w.heap.size, 0, none⟩) := hu 67 (by decide) hG
      go_simp
    · refine Oo.maybe (c := ((mayK a k) && (decide (a (k) ≥ 0))) && (decide (a (4 + k) ≥ 0))) (by decide) (fun v w h => h) (fun hG => Oo.is (.int .i64 (a (k))) (fun d hd w => by cases hd; exact fun _ => rfl) fun ac wd hc hp hu hr => ?_) (fun hne e he w => by cases he; exact fun hh => absurd hh hne)
      have f65 : ac.tmps.getD 65 undef = .bool (((mayK a k) && (decide (a (k) ≥ 0))) && (decide (a (4 + k) ≥ 0))) := hu 65 (by decide)
      have f68 : ac.tmps.getD 68 undef = .pointer (some ⟨w.heap.size, k, none⟩) := hu 68 (by decide) hG
      have qa := (hc.block _ s_a List.not_mem_nil).trans g_a
      have gX := vw_get a (k := k) (by omega)
      go_simp
    · refine Oo.maybe (c := ((mayK a k) && (decide (a (k) ≥ 0))) && (decide (a (4 + k) ≥ 0))) (by decide) (fun v w h => h) (fun hG => Oo.is (.int .i64 (k : Int)) (fun d hd w => by cases hd; exact fun _ => rfl) fun ac wd hc hp hu hr => ?_) (fun hne e he w => by cases he; exact fun hh => absurd hh hne)
      have f18 := (hp 18 (by decide)).trans h18
      have f65 : ac.tmps.getD 65 undef = .bool (((mayK a k) && (decide (a (k) ≥ 0))) && (decide (a (4 + k) ≥ 0))) := hu 65 (by decide)
      go_simp
    · refine Oo.maybe (c := ((mayK a k) && (decide (a (k) ≥ 0))) && (decide (a (4 + k) ≥ 0))) (by decide) (fun v w h => h) (fun hG => Oo.is (.pointer (some ⟨w.heap.size, 4, none⟩)) (fun d hd w => by cases hd; exact fun _ => rfl) fun ac wd hc hp hu hr => ?_) (fun hne e he w => by cases he; exact fun hh => absurd hh hne)
      have f5 := (hp 5 (by decide)).trans h5
      have f65 : ac.tmps.getD 65 undef = .bool (((mayK a k) && (decide (a (k) ≥ 0))) && (decide (a (4 + k) ≥ 0))) := hu 65 (by decide)
      go_simp
    · refine Oo.maybe (c := ((mayK a k) && (decide (a (k) ≥ 0))) && (decide (a (4 + k) ≥ 0))) (by decide) (fun v w h => h) (fun hG => Oo.is (.pointer (some ⟨w.heap.size, 4 + k, none⟩)) (fun d hd w => by cases hd; exact fun _ => rfl) fun ac wd hc hp hu hr => ?_) (fun hne e he w => by cases he; exact fun hh => absurd hh hne)
      have f65 : ac.tmps.getD 65 undef = .bool (((mayK a k) && (decide (a (k) ≥ 0))) && (decide (a (4 + k) ≥ 0))) := hu 65 (by decide)
      have f70 : ac.tmps.getD 70 undef = .int .i64 (k : Int) := hu 70 (by decide) hG
      have f71 : ac.tmps.getD 71 undef = .pointer (some ⟨w.heap.size, 4, none⟩) := hu 71 (by decide) hG
      go_simp
    · refine Oo.maybe (c := ((mayK a k) && (decide (a (k) ≥ 0))) && (decide (a (4 + k) ≥ 0))) (by decide) (fun v w h => h) (fun hG => Oo.is (.int .i64 (a (4 + k))) (fun d hd w => by cases hd; exact fun _ => rfl) fun ac wd hc hp hu hr => ?_) (fun hne e he w => by cases he; exact fun hh => absurd hh hne)
      have f65 : ac.tmps.getD 65 undef = .bool (((mayK a k) && (decide (a (k) ≥ 0))) && (decide (a (4 + k) ≥ 0))) := hu 65 (by decide)
      have f72 : ac.tmps.getD 72 undef = .pointer (some ⟨w.heap.size, 4 + k, none⟩) := hu 72 (by decide) hG
      have qa := (hc.block _ s_a List.not_mem_nil).trans g_a
      have gX := vw_get a (k := 4 + k) (by omega)
      go_simp
    · refine Oo.maybe (c := ((mayK a k) && (decide (a (k) ≥ 0))) && (decide (a (4 + k) ≥ 0))) (by decide) (fun v w h => h) (fun hG => Oo.is (.bool (decide (a (k) ≤ a (4 + k)))) (fun d hd w => by cases hd; exact fun _ => rfl) fun ac wd hc hp hu hr => ?_) (fun hne e he w => by cases he; exact fun hh => absurd hh hne)
      have f65 : ac.tmps.getD 65 undef = .bool (((mayK a k) && (decide (a (k) ≥ 0))) && (decide (a (4 + k) ≥ 0))) := hu 65 (by decide)
      have f69 : ac.tmps.getD 69 undef = .int .i64 (a (k)) := hu 69 (by decide) hG
      have f73 : ac.tmps.getD 73 undef = .int .i64 (a (4 + k)) := hu 73 (by decide) hG
      go_simp
    · refine Oo.is (.bool ((((mayK a k) && (decide (a (k) ≥ 0))) && (decide (a (4 + k) ≥ 0))) && (decide (a (k) ≤ a (4 + k))))) (fun d hd w => by cases hd; exact rfl) fun ac wd hc hp hu hr => ?_
      have f65 : ac.tmps.getD 65 undef = .bool (((mayK a k) && (decide (a (k) ≥ 0))) && (decide (a (4 + k) ≥ 0))) := hu 65 (by decide)
      have f74 : (((mayK a k) && (decide (a (k) ≥ 0))) && (decide (a (4 + k) ≥ 0))) = true → ac.tmps.getD 74 undef = .bool (decide (a (k) ≤ a (4 + k))) := hu 74 (by decide)
      rcases Bool.eq_false_or_eq_true (((mayK a k) && (decide (a (k) ≥ 0))) && (decide (a (4 + k) ≥ 0))) with hG | hG
      · have f74 := f74 hG; rw [hG] at f65 ⊢; go_simp
      · rw [hG] at f65 ⊢; go_simp
    · refine Oo.is (.bool ((((mayK a k) && (decide (a (k) ≥ 0))) && (decide (a (4 + k) ≥ 0))) && (decide (a (k) ≤ a (4 + k))))) (fun d hd w => by cases hd; exact rfl) fun ac wd hc hp hu hr => ?_
      have f75 : ac.tmps.getD 75 undef = .bool ((((mayK a k) && (decide (a (k) ≥ 0))) && (decide (a (4 + k) ≥ 0))) && (decide (a (k) ≤ a (4 + k)))) := hu 75 (by decide)
      go_simp
    intro t5 w5 P5
    replace hN := P5.size.trans hN
    replace h2 := (P5.kept 2 (by kernel_rfl)).trans h2
    replace h3 := (P5.kept 3 (by kernel_rfl)).trans h3
    replace h4 := (P5.kept 4 (by kernel_rfl)).trans h4
    replace h5 := (P5.kept 5 (by kernel_rfl)).trans h5
    replace h6 := (P5.kept 6 (by kernel_rfl)).trans h6
    replace h12 := (P5.kept 12 (by kernel_rfl)).trans h12
    replace h13 := (P5.kept 13 (by kernel_rfl)).trans h13
    replace h14 := (P5.kept 14 (by kernel_rfl)).trans h14
    replace h15 := (P5.kept 15 (by kernel_rfl)).trans h15
    replace h16 := (P5.kept 16 (by kernel_rfl)).trans h16
    replace h17 := (P5.kept 17 (by kernel_rfl)).trans h17
    replace h18 := (P5.kept 18 (by kernel_rfl)).trans h18
    have h11 : t5.getD 11 undef = .bool ((((mayK a k) && (decide (a (k) ≥ 0))) && (decide (a (4 + k) ≥ 0))) && (decide (a (k) ≤ a (4 + k)))) := P5.tab 11
    replace g_a := (P5.ch.block _ s_a List.not_mem_nil).trans g_a
    replace g_b := (P5.ch.block _ s_b List.not_mem_nil).trans g_b
    replace g_j := (P5.ch.block _ s_j List.not_mem_nil).trans g_j
    replace g_f := (P5.ch.block _ s_f List.not_mem_nil).trans g_f
    replace g_x := (P5.ch.block _ s_x List.not_mem_nil).trans g_x
    replace g_m := (P5.ch.block _ s_m List.not_mem_nil).trans g_m
    replace s_a := Nat.lt_of_lt_of_le s_a P5.ch.size
    replace s_b := Nat.lt_of_lt_of_le s_b P5.ch.size
    replace s_j := Nat.lt_of_lt_of_le s_j P5.ch.size
    replace s_f := Nat.lt_of_lt_of_le s_f P5.ch.size
    replace s_x := Nat.lt_of_lt_of_le s_x P5.ch.size
    replace s_m := Nat.lt_of_lt_of_le s_m P5.ch.size
    replace hB := P5.ch.below hB.drew hB.size (fun b hb => by cases hb)
    clear P5
    refine wp_seq ?_
    refine wp_draw [(76, .val (.bool (leK a b k))), (77, .val (.bool (leK a b k))), (78, .opt (leK a b k) (.int .i64 (k : Int))), (79, .opt (leK a b k) (.pointer (some ⟨w.heap.size, 0, none⟩))), (80, .opt (leK a b k) (.pointer (some ⟨w.heap.size, k, none⟩))), (81, .opt (leK a b k) (.int .i64 (a (k)))), (82, .opt (leK a b k) (.int .i64 (k : Int))), (83, .opt (leK a b k) (.pointer (some ⟨w.heap.size + 1, 0, none⟩))), (84, .opt (leK a b k) (.pointer (some ⟨w.heap.size + 1, k, none⟩))), (85, .opt (leK a b k) (.int .i64 (b (k)))), (86, .opt (leK a b k) (.bool (decide (a (k) ≤ b (k))))), (87, .val (.bool ((leK a b k) && (decide (a (k) ≤ b (k)))))), (88, .val (.bool ((leK a b k) && (decide (a (k) ≤ b (k)))))), (89, .opt ((leK a b k) && (decide (a (k) ≤ b (k)))) (.int .i64 (k : Int))), (90, .opt ((leK a b k) && (decide (a (k) ≤ b (k)))) (.pointer (some ⟨w.heap.size, 4, none⟩))), (91, .opt ((leK a b k) && (decide (a (k) ≤ b (k)))) (.pointer (some ⟨w.heap.size, 4 + k, none⟩))), (92, .opt ((leK a b k) && (decide (a (k) ≤ b (k)))) (.int .i64 (a (4 + k)))), (93, .opt ((leK a b k) && (decide (a (k) ≤ b (k)))) (.int .i64 (k : Int))), (94, .opt ((leK a b k) && (decide (a (k) ≤ b (k)))) (.pointer (some ⟨w.heap.size + 1, 4, none⟩))), (95, .opt ((leK a b k) && (decide (a (k) ≤ b (k)))) (.pointer (some ⟨w.heap.size + 1, 4 + k, none⟩))), (96, .opt ((leK a b k) && (decide (a (k) ≤ b (k)))) (.int .i64 (b (4 + k)))), (97, .opt ((leK a b k) && (decide (a (k) ≤ b (k)))) (.bool (decide (a (4 + k) ≤ b (4 + k))))), (98, .val (.bool (((leK a b k) && (decide (a (k) ≤ b (k)))) && (decide (a (4 + k) ≤ b (4 + k)))))), (12, .val (.bool (((leK a b k) && (decide (a (k) ≤ b (k)))) && (decide (a (4 + k) ≤ b (4 + k))))))] [] [] [⟨none, [12], [], [], none⟩, ⟨none, [], [76], [], none⟩, ⟨some (77, true), [18], [77], [], none⟩, ⟨some (77, true), [5], [77], [], none⟩, ⟨some (77, true), [], [77, 78, 79], [], none⟩, ⟨some (77, true), [], [77, 80], [], none⟩, ⟨some (77, true), [18], [77], [], none⟩, ⟨some (77, true), [6], [77], [], none⟩, ⟨some (77, true), [], [77, 82, 83], [], none⟩, ⟨some (77, true), [], [77, 84], [], none⟩, ⟨some (77, true), [], [77, 81, 85], [], none⟩, ⟨none, [], [77, 86], [], none⟩, ⟨none, [], [87], [], none⟩, ⟨some (88, true), [18], [88], [], none⟩, ⟨some (88, true), [5], [88], [], none⟩, ⟨some (88, true), [], [88, 89, 90], [], none⟩, ⟨some (88, true), [], [88, 91], [], none⟩, ⟨some (88, true), [18], [88], [], none⟩, ⟨some (88, true), [6], [88], [], none⟩, ⟨some (88, true), [], [88, 93, 94], [], none⟩, ⟨some (88, true), [], [88, 95], [], none⟩, ⟨some (88, true), [], [88, 92, 96], [], none⟩, ⟨none, [], [88, 97], [], none⟩, ⟨none, [], [98], [], none⟩] hN (by kernel_rfl) (by kernel_rfl) (by kernel_rfl) rfl rfl List.nodup_nil _ (fun x hx => by cases hx) ?_ ?_
    refine ⟨?_, ?_, ?_, ?_, ?_, ?_, ?_, ?_, ?_, ?_, ?_, ?_, ?_, ?_, ?_, ?_, ?_, ?_, ?_, ?_, ?_, ?_, ?_, ?_, trivial⟩
    · refine Oo.is (.bool (leK a b k)) (fun d hd w => by cases hd; exact rfl) fun ac wd hc hp hu hr => ?_
      have f12 := (hp 12 (by decide)).trans h12
      go_simp
    · refine Oo.is (.bool (leK a b k)) (fun d hd w => by cases hd; exact rfl) fun ac wd hc hp hu hr => ?_
      have f76 : ac.tmps.getD 76 undef = .bool (leK a b k) := hu 76 (by decide)
      go_simp
    · refine Oo.maybe (c := leK a b k) (by decide) (fun v w h => h) (fun hG => Oo.is (.int .i64 (k : Int)) (fun d hd w => by cases hd; exact fun _ => rfl) fun ac wd hc hp hu hr => ?_) (fun hne e he w => by cases he; exact fun hh => absurd hh hne)
      have f18 := (hp 18 (by decide)).trans h18
      have f77 : ac.tmps.getD 77 undef = .bool (leK a b k) := hu 77 (by decide)
      go_simp
    · refine Oo.maybe (c := leK a b k) (by decide) (fun v w h => h) (fun hG => Oo.is (.pointer (some ⟨w.heap.size, 0, none⟩)) (fun d hd w => by cases hd; exact fun _ => rfl) fun ac wd hc hp hu hr => ?_) (fun hne e he w => by cases he; exact fun hh => absurd hh hne)
      have f5 := (hp 5 (by decide)).trans h5
      have f77 : ac.tmps.getD 77 undef = .bool (leK a b k) := hu 77 (by decide)
      go_simp
    · refine Oo.maybe (c := leK a b k) (by decide) (fun v w h => h) (fun hG => Oo.is (.pointer (some ⟨w.heap.size, k, none⟩)) (fun d hd w => by cases hd; exact fun _ => rfl) fun ac wd hc hp hu hr => ?_) (fun hne e he w => by cases he; exact fun hh => absurd hh hne)
      have f77 : ac.tmps.getD 77 undef = .bool (leK a b k) := hu 77 (by decide)
      have f78 : ac.tmps.getD 78 undef = .int .i64 (k : Int) := hu 78 (by decide) hG
      have f79 : ac.tmps.getD 79 undef = .pointer (some ⟨w.heap.size, 0, none⟩) := hu 79 (by decide) hG
      go_simp
    · refine Oo.maybe (c := leK a b k) (by decide) (fun v w h => h) (fun hG => Oo.is (.int .i64 (a (k))) (fun d hd w => by cases hd; exact fun _ => rfl) fun ac wd hc hp hu hr => ?_) (fun hne e he w => by cases he; exact fun hh => absurd hh hne)
      have f77 : ac.tmps.getD 77 undef = .bool (leK a b k) := hu 77 (by decide)
      have f80 : ac.tmps.getD 80 undef = .pointer (some ⟨w.heap.size, k, none⟩) := hu 80 (by decide) hG
      have qa := (hc.block _ s_a List.not_mem_nil).trans g_a
      have gX := vw_get a (k := k) (by omega)
      go_simp
    · refine Oo.maybe (c := leK a b k) (by decide) (fun v w h => h) (fun hG => Oo.is (.int .i64 (k : Int)) (fun d hd w => by cases hd; exact fun _ => rfl) fun ac wd hc hp hu hr => ?_) (fun hne e he w => by cases he; exact fun hh => absurd hh hne)
      have f18 := (hp 18 (by decide)).trans h18
      have f77 : ac.tmps.getD 77 undef = .bool (leK a b k) := hu 77 (by decide)
      go_simp
    · refine Oo.maybe (c := leK a b k) (by decide) (fun v w h => h) (fun hG => Oo.is (.pointer (some ⟨w.heap.size + 1, 0, none⟩)) (fun d hd w => by cases hd; exact fun _ => rfl) fun ac wd hc hp hu hr => ?_) (fun hne e he w => by cases he; exact fun hh => absurd hh hne)
      have f6 := (hp 6 (by decide)).trans h6
      have f77 : ac.tmps.getD 77 undef = .bool (leK a b k) := hu 77 (by decide)
      go_simp
    · refine Oo.maybe (c := leK a b k) (by decide) (fun v w h => h) (fun hG => Oo.is (.pointer (some ⟨w.heap.size + 1, k, none⟩)) (fun d hd w => by cases hd; exact fun _ => rfl) fun ac wd hc hp hu hr => ?_) (fun hne e he w => by cases he; exact fun hh => absurd hh hne)
      have f77 : ac.tmps.getD 77 undef = .bool (leK a b k) := hu 77 (by decide)
      have f82 : ac.tmps.getD 82 undef = .int .i64 (k : Int) := hu 82 (by decide) hG
      have f83 : ac.tmps.getD 83 undef = .pointer (some ⟨w.heap.size + 1, 0, none⟩) := hu 83 (by decide) hG
      go_simp
    · refine Oo.maybe (c := leK a b k) (by decide) (fun v w h => h) (fun hG => Oo.is (.int .i64 (b (k))) (fun d hd w => by cases hd; exact fun _ => rfl) fun ac wd hc hp hu hr => ?_) (fun hne e he w => by cases he; exact fun hh => absurd hh hne)
      have f77 : ac.tmps.getD 77 undef = .bool (leK a b k) := hu 77 (by decide)
      have f84 : ac.tmps.getD 84 undef = .pointer (some ⟨w.heap.size + 1, k, none⟩) := hu 84 (by decide) hG
      have qb := (hc.block _ s_b List.not_mem_nil).trans g_b
      have gX := vw_get b (k := k) (by omega)
      go_simp
    · refine Oo.maybe (c := leK a b k) (by decide) (fun v w h => h) (fun hG => Oo.is (.bool (decide (a (k) ≤ b (k)))) (fun d hd w => by cases hd; exact fun _ => rfl) fun ac wd hc hp hu hr => ?_) (fun hne e he w => by cases he; exact fun hh => absurd hh hne)
      have f77 : ac.tmps.getD 77 undef = .bool (leK a b k) := hu 77 (by decide)
      have f81 : ac.tmps.getD 81 undef = .int .i64 (a (k)) := hu 81 (by decide) hG
      have f85 : ac.tmps.getD 85 undef = .int .i64 (b (k)) := hu 85 (by decide) hG
      go_simp
    · refine Oo.is (.bool ((leK a b k) && (decide (a (k) ≤ b (k))))) (fun d hd w => by cases hd; exact rfl) fun ac wd hc hp hu hr => ?_
      have f77 : ac.tmps.getD 77 undef = .bool (leK a b k) := hu 77 (by decide)
      have f86 : (leK a b k) = true → ac.tmps.getD 86 undef = .bool (decide (a (k) ≤ b (k))) := hu 86 (by decide)
      rcases Bool.eq_false_or_eq_true (leK a b k) with hG | hG
      · have f86 := f86 hG; rw [hG] at f77 ⊢; go_simp
      · rw [hG] at f77 ⊢; go_simp
    · refine Oo.is (.bool ((leK a b k) && (decide (a (k) ≤ b (k))))) (fun d hd w => by cases hd; exact rfl) fun ac wd hc hp hu hr => ?_
      have f87 : ac.tmps.getD 87 undef = .bool ((leK a b k) && (decide (a (k) ≤ b (k)))) := hu 87 (by decide)
      go_simp
    · refine Oo.maybe (c := (leK a b k) && (decide (a (k) ≤ b (k)))) (by decide) (fun v w h => h) (fun hG => Oo.is (.int .i64 (k : Int)) (fun d hd w => by cases hd; exact fun _ => rfl) fun ac wd hc hp hu hr => ?_) (fun hne e he w => by cases he; exact fun hh => absurd hh hne)
      have f18 := (hp 18 (by decide)).trans h18
      have f88 : ac.tmps.getD 88 undef = .bool ((leK a b k) && (decide (a (k) ≤ b (k)))) := hu 88 (by decide)
      go_simp
    · refine Oo.maybe (c := (leK a b k) && (decide (a (k) ≤ b (k)))) (by decide) (fun v w h => h) (fun hG => Oo.is (.pointer (some ⟨w.heap.size, 4, none⟩)) (fun d hd w => by cases hd; exact fun _ => rfl) fun ac wd hc hp hu hr => ?_) (fun hne e he w => by cases he; exact fun hh => absurd hh hne)
      have f5 := (hp 5 (by decide)).trans h5
      have f88 : ac.tmps.getD 88 undef = .bool ((leK a b k) && (decide (a (k) ≤ b (k)))) := hu 88 (by decide)
      go_simp
    · refine Oo.maybe (c := (leK a b k) && (decide (a (k) ≤ b (k)))) (by decide) (fun v w h => h) (fun hG => Oo.is (.pointer (some ⟨w.heap.size, 4 + k, none⟩)) (fun d hd w => by cases hd; exact fun _ => rfl) fun ac wd hc hp hu hr => ?_) (fun hne e he w => by cases he; exact fun hh => absurd hh hne)
      have f88 : ac.tmps.getD 88 undef = .bool ((leK a b k) && (decide (a (k) ≤ b (k)))) := hu 88 (by decide)
      have f89 : ac.tmps.getD 89 undef = .int .i64 (k : Int) := hu 89 (by decide) hG
      have f90 : ac.tmps.getD 90 undef = .pointer (some ⟨w.heap.size, 4, none⟩) := hu 90 (by decide) hG
      go_simp
    · refine Oo.maybe (c := (leK a b k) && (decide (a (k) ≤ b (k)))) (by decide) (fun v w h => h) (fun hG => Oo.is (.int .i64 (a (4 + k))) (fun d hd w => by cases hd; exact fun _ => rfl) fun ac wd hc hp hu hr => ?_) (fun hne e he w => by cases he; exact fun hh => absurd hh hne)
      have f88 : ac.tmps.getD 88 undef = .bool ((leK a b k) && (decide (a (k) ≤ b (k)))) := hu 88 (by decide)
      have f91 : ac.tmps.getD 91 undef = .pointer (some ⟨w.heap.size, 4 + k, none⟩) := hu 91 (by decide) hG
      have qa := (hc.block _ s_a List.not_mem_nil).trans g_a
      have gX := vw_get a (k := 4 + k) (by omega)
      go_simp
    · refine Oo.maybe (c := (leK a b k) && (decide (a (k) ≤ b (k)))) (by decide) (fun v w h => h) (fun hG => Oo.is (.int .i64 (k : Int)) (fun d hd w => by cases hd; exact fun _ => rfl) fun ac wd hc hp hu hr => ?_) (fun hne e he w => by cases he; exact fun hh => absurd hh hne)
      have f18 := (hp 18 (by decide)).trans h18
      have f88 : ac.tmps.getD 88 undef = .bool ((leK a b k) && (decide (a (k) ≤ b (k)))) := hu 88 (by decide)
      go_simp
    · refine Oo.maybe (c := (leK a b k) && (decide (a (k) ≤ b (k)))) (by decide) (fun v w h => h) (fun hG => Oo.is (.pointer (some ⟨w.heap.size + 1, 4, none⟩)) (fun d hd w => by cases hd; exact fun _ => rfl) fun ac wd hc hp hu hr => ?_) (fun hne e he w => by cases he; exact fun hh => absurd hh hne)
      have f6 := (hp 6 (by decide)).trans h6
      have f88 : ac.tmps.getD 88 undef = .bool ((leK a b k) && (decide (a (k) ≤ b (k)))) := hu 88 (by decide)
      go_simp
    · refine Oo.maybe (c := (leK a b k) && (decide (a (k) ≤ b (k)))) (by decide) (fun v w h => h) (fun hG => Oo.is (.pointer (some ⟨w.heap.size + 1, 4 + k, none⟩)) (fun d hd w => by cases hd; exact fun _ => rfl) fun ac wd hc hp hu hr => ?_) (fun hne e he w => by cases he; exact fun hh => absurd hh hne)
      have f88 : ac.tmps.getD 88 undef = .bool ((leK a b k) && (decide (a (k) ≤ b (k)))) := hu 88 (by decide)
      have f93 : ac.tmps.getD 93 undef = .int .i64 (k : Int) := hu 93 (by decide) hG
      have f94 : ac.tmps.getD 94 undef = .pointer (some ⟨w.heap.size + 1, 4, none⟩) := hu 94 (by decide) hG
      go_simp
    · refine Oo.maybe (c := (leK a b k) && (decide (a (k) ≤ b (k)))) (by decide) (fun v w h => h) (fun hG => Oo.is (.int .i64 (b (4 + k))) (fun d hd w => by cases hd; exact fun _ => rfl) fun ac wd hc hp hu hr => ?_) (fun hne e he w => by cases he; exact fun hh => absurd hh hne)
      have f88 : ac.tmps.getD 88 undef = .bool ((leK a b k) && (decide (a (k) ≤ b (k)))) := hu 88 (by decide)
      have f95 : ac.tmps.getD 95 undef = .pointer (some ⟨w.heap.size + 1, 4 + k, none⟩) := hu 95 (by decide) hG
      have qb := (hc.block _ s_b List.not_mem_nil).trans g_b
      have gX := vw_get b (k := 4 + k) (by omega)
      go_simp
    · refine Oo.maybe (c := (leK a b k) && (decide (a (k) ≤ b (k)))) (by decide) (fun v w h => h) (fun hG => Oo.is (.bool (decide (a (4 + k) ≤ b (4 + k)))) (fun d hd w => by cases hd; exact fun _ => rfl) fun ac wd hc hp hu hr => ?_) (fun hne e he w => by cases he; exact fun hh => absurd hh hne)
      have f88 : ac.tmps.getD 88 undef = .bool ((leK a b k) && (decide (a (k) ≤ b (k)))) := hu 88 (by decide)
      have f92 : ac.tmps.getD 92 undef = .int .i64 (a (4 + k)) := hu 92 (by decide) hG
      have f96 : ac.tmps.getD 96 undef = .int .i64 (b (4 + k)) := hu 96 (by decide) hG
      go_simp
    · refine Oo.is (.bool (((leK a b k) && (decide (a (k) ≤ b (k)))) && (decide (a (4 + k) ≤ b (4 + k))))) (fun d hd w => by cases hd; exact rfl) fun ac wd hc hp hu hr => ?_
      have f88 : ac.tmps.getD 88 undef = .bool ((leK a b k) && (decide (a (k) ≤ b (k)))) := hu 88 (by decide)
      have f97 : ((leK a b k) && (decide (a (k) ≤ b (k)))) = true → ac.tmps.getD 97 undef = .bool (decide (a (4 + k) ≤ b (4 + k))) := hu 97 (by decide)
      rcases Bool.eq_false_or_eq_true ((leK a b k) && (decide (a (k) ≤ b (k)))) with hG | hG
      · have f97 := f97 hG; rw [hG] at f88 ⊢; go_simp
      · rw [hG] at f88 ⊢; go_simp
    · refine Oo.is (.bool (((leK a b k) && (decide (a (k) ≤ b (k)))) && (decide (a (4 + k) ≤ b (4 + k))))) (fun d hd w => by cases hd; exact rfl) fun ac wd hc hp hu hr => ?_
      have f98 : ac.tmps.getD 98 undef = .bool (((leK a b k) && (decide (a (k) ≤ b (k)))) && (decide (a (4 + k) ≤ b (4 + k)))) := hu 98 (by decide)
      go_simp
    intro t6 w6 P6
    replace hN := P6.size.trans hN
    replace h2 := (P6.kept 2 (by kernel_rfl)).trans h2
    replace h3 := (P6.kept 3 (by kernel_rfl)).trans h3
    replace h4 := (P6.kept 4 (by kernel_rfl)).trans h4
    replace h5 := (P6.kept 5 (by kernel_rfl)).trans h5
    replace h6 := (P6.kept 6 (by kernel_rfl)).trans h6
    replace h11 := (P6.kept 11 (by kernel_rfl)).trans h11
    replace h13 := (P6.kept 13 (by kernel_rfl)).trans h13
    replace h14 := (P6.kept 14 (by kernel_rfl)).trans h14
    replace h15 := (P6.kept 15 (by kernel_rfl)).trans h15
    replace h16 := (P6.kept 16 (by kernel_rfl)).trans h16
    replace h17 := (P6.kept 17 (by kernel_rfl)).trans h17
    replace h18 := (P6.kept 18 (by kernel_rfl)).trans h18
    have h12 : t6.getD 12 undef = .bool (((leK a b k) && (decide (a (k) ≤ b (k)))) && (decide (a (4 + k) ≤ b (4 + k)))) := P6.tab 12
    replace g_a := (P6.ch.block _ s_a List.not_mem_nil).trans g_a
    replace g_b := (P6.ch.block _ s_b List.not_mem_nil).trans g_b
    replace g_j := (P6.ch.block _ s_j List.not_mem_nil).trans g_j
    replace g_f := (P6.ch.block _ s_f List.not_mem_nil).trans g_f
    replace g_x := (P6.ch.block _ s_x List.not_mem_nil).trans g_x
    replace g_m := (P6.ch.block _ s_m List.not_mem_nil).trans g_m
    replace s_a := Nat.lt_of_lt_of_le s_a P6.ch.size
    replace s_b := Nat.lt_of_lt_of_le s_b P6.ch.size
    replace s_j := Nat.lt_of_lt_of_le s_j P6.ch.size
    replace s_f := Nat.lt_of_lt_of_le s_f P6.ch.size
    replace s_x := Nat.lt_of_lt_of_le s_x P6.ch.size
    replace s_m := Nat.lt_of_lt_of_le s_m P6.ch.size
    replace hB := P6.ch.below hB.drew hB.size (fun b hb => by cases hb)
    clear P6
    refine wp_seq ?_
    refine wp_draw [(99, .val (.int .i64 (k : Int))), (100, .val (.pointer (some ⟨w.heap.size, 0, none⟩))), (101, .val (.pointer (some ⟨w.heap.size, k, none⟩))), (102, .val (.int .i64 (a (k)))), (103, .val (.int .i64 (k : Int))), (104, .val (.pointer (some ⟨w.heap.size, 4, none⟩))), (105, .val (.pointer (some ⟨w.heap.size, 4 + k, none⟩))), (106, .val (.int .i64 (a (4 + k)))), (19, .val (.int .i64 (a (k)))), (20, .val (.int .i64 (a (4 + k))))] [] [] [⟨none, [18], [], [], none⟩, ⟨none, [5], [], [], none⟩, ⟨none, [], [99, 100], [], none⟩, ⟨none, [], [101], [], none⟩, ⟨none, [18], [], [], none⟩, ⟨none, [5], [], [], none⟩, ⟨none, [], [103, 104], [], none⟩, ⟨none, [], [105], [], none⟩, ⟨none, [], [102], [], none⟩, ⟨none, [], [106], [], none⟩] hN (by kernel_rfl) (by kernel_rfl) (by kernel_rfl) rfl rfl List.nodup_nil _ (fun x hx => by cases hx) ?_ ?_
    refine ⟨?_, ?_, ?_, ?_, ?_, ?_, ?_, ?_, ?_, ?_, trivial⟩
    · refine Oo.is (.int .i64 (k : Int)) (fun d hd w => by cases hd; exact rfl) fun ac wd hc hp hu hr => ?_
      have f18 := (hp 18 (by decide)).trans h18
      go_simp
    · refine Oo.is (.pointer (some ⟨w.heap.size, 0, none⟩)) (fun d hd w => by cases hd; exact rfl) fun ac wd hc hp hu hr => ?_
      have f5 := (hp 5 (by decide)).trans h5
      go_simp
    · refine Oo.is (.pointer (some ⟨w.heap.size, k, none⟩)) (fun d hd w => by cases hd; exact rfl) fun ac wd hc hp hu hr => ?_
      have f99 : ac.tmps.getD 99 undef = .int .i64 (k : Int) := hu 99 (by decide)
      have f100 : ac.tmps.getD 100 undef = .pointer (some ⟨w.heap.size, 0, none⟩) := hu 100 (by decide)
      go_simp
    · refine Oo.is (.int .i64 (a (k))) (fun d hd w => by cases hd; exact rfl) fun ac wd hc hp hu hr => ?_
      have f101 : ac.tmps.getD 101 undef = .pointer (some ⟨w.heap.size, k, none⟩) := hu 101 (by decide)
      have qa := (hc.block _ s_a List.not_mem_nil).trans g_a
      have gX := vw_get a (k := k) (by omega)
      go_simp
    · refine Oo.is (.int .i64 (k : Int)) (fun d hd w => by cases hd; exact rfl) fun ac wd hc hp hu hr => ?_
      have f18 := (hp 18 (by decide)).trans h18
      go_simp
    · refine Oo.is (.pointer (some ⟨w.heap.size, 4, none⟩)) (fun d hd w => by cases hd; exact rfl) fun ac wd hc hp hu hr => ?_
      have f5 := (hp 5 (by decide)).trans h5
      go_simp
    · refine Oo.is (.pointer (some ⟨w.heap.size, 4 + k, none⟩)) (fun d hd w => by cases hd; exact rfl) fun ac wd hc hp hu hr => ?_
      have f103 : ac.tmps.getD 103 undef = .int .i64 (k : Int) := hu 103 (by decide)
      have f104 : ac.tmps.getD 104 undef = .pointer (some ⟨w.heap.size, 4, none⟩) := hu 104 (by decide)
      go_simp
    · refine Oo.is (.int .i64 (a (4 + k))) (fun d hd w => by cases hd; exact rfl) fun ac wd hc hp hu hr => ?_
      have f105 : ac.tmps.getD 105 undef = .pointer (some ⟨w.heap.size, 4 + k, none⟩) := hu 105 (by decide)
      have qa := (hc.block _ s_a List.not_mem_nil).trans g_a
      have gX := vw_get a (k := 4 + k) (by omega)
      go_simp
    · refine Oo.is (.int .i64 (a (k))) (fun d hd w => by cases hd; exact rfl) fun ac wd hc hp hu hr => ?_
      have f102 : ac.tmps.getD 102 undef = .int .i64 (a (k)) := hu 102 (by decide)
      go_simp
    · refine Oo.is (.int .i64 (a (4 + k))) (fun d hd w => by cases hd; exact rfl) fun ac wd hc hp hu hr => ?_
      have f106 : ac.tmps.getD 106 undef = .int .i64 (a (4 + k)) := hu 106 (by decide)
      go_simp
    intro t7 w7 P7
    replace hN := P7.size.trans hN
    replace h2 := (P7.kept 2 (by kernel_rfl)).trans h2
    replace h3 := (P7.kept 3 (by kernel_rfl)).trans h3
    replace h4 := (P7.kept 4 (by kernel_rfl)).trans h4
    replace h5 := (P7.kept 5 (by kernel_rfl)).trans h5
    replace h6 := (P7.kept 6 (by kernel_rfl)).trans h6
    replace h11 := (P7.kept 11 (by kernel_rfl)).trans h11
    replace h12 := (P7.kept 12 (by kernel_rfl)).trans h12
    replace h13 := (P7.kept 13 (by kernel_rfl)).trans h13
    replace h14 := (P7.kept 14 (by kernel_rfl)).trans h14
    replace h15 := (P7.kept 15 (by kernel_rfl)).trans h15
    replace h16 := (P7.kept 16 (by kernel_rfl)).trans h16
    replace h17 := (P7.kept 17 (by kernel_rfl)).trans h17
    replace h18 := (P7.kept 18 (by kernel_rfl)).trans h18
    have h19 : t7.getD 19 undef = .int .i64 (a (k)) := P7.tab 19
    have h20 : t7.getD 20 undef = .int .i64 (a (4 + k)) := P7.tab 20
    replace g_a := (P7.ch.block _ s_a List.not_mem_nil).trans g_a
    replace g_b := (P7.ch.block _ s_b List.not_mem_nil).trans g_b
    replace g_j := (P7.ch.block _ s_j List.not_mem_nil).trans g_j
    replace g_f := (P7.ch.block _ s_f List.not_mem_nil).trans g_f
    replace g_x := (P7.ch.block _ s_x List.not_mem_nil).trans g_x
    replace g_m := (P7.ch.block _ s_m List.not_mem_nil).trans g_m
    replace s_a := Nat.lt_of_lt_of_le s_a P7.ch.size
    replace s_b := Nat.lt_of_lt_of_le s_b P7.ch.size
    replace s_j := Nat.lt_of_lt_of_le s_j P7.ch.size
    replace s_f := Nat.lt_of_lt_of_le s_f P7.ch.size
    replace s_x := Nat.lt_of_lt_of_le s_x P7.ch.size
    replace s_m := Nat.lt_of_lt_of_le s_m P7.ch.size
    replace hB := P7.ch.below hB.drew hB.size (fun b hb => by cases hb)
    clear P7
    refine wp_seq ?_
    refine wp_seq ?_
    refine wp_seqr [(107, .val (.int .i64 (k : Int))), (108, .val (.pointer (some ⟨w.heap.size + 1, 0, none⟩))), (109, .val (.pointer (some ⟨w.heap.size + 1, k, none⟩))), (110, .val (.int .i64 (b (k)))), (111, .val (.int .i64 (a (k)))), (112, .val (.bool (decide (b (k) > a (k)))))] [] [] [⟨none, [18], [], [], none⟩, ⟨none, [6], [], [], none⟩, ⟨none, [], [107, 108], [], none⟩, ⟨none, [], [109], [], none⟩, ⟨none, [19], [], [], none⟩, ⟨none, [], [110, 111], [], none⟩] hN (by kernel_rfl) (by kernel_rfl) rfl rfl List.nodup_nil _ (fun x hx => by cases hx) ?_ ?_
    refine ⟨?_, ?_, ?_, ?_, ?_, ?_, trivial⟩
    · refine Oo.is (.int .i64 (k : Int)) (fun d hd w => by cases hd; exact rfl) fun ac wd hc hp hu hr => ?_
      have f18 := (hp 18 (by decide)).trans h18
      go_simp
    · refine Oo.is (.pointer (some ⟨w.heap.size + 1, 0, none⟩)) (fun d hd w => by cases hd; exact rfl) fun ac wd hc hp hu hr => ?_
      have f6 := (hp 6 (by decide)).trans h6
      go_simp
    · refine Oo.is (.pointer (some ⟨w.heap.size + 1, k, none⟩)) (fun d hd w => by cases hd; exact rfl) fun ac wd hc hp hu hr => ?_
      have f107 : ac.tmps.getD 107 undef = .int .i64 (k : Int) := hu 107 (by decide)
      have f108 : ac.tmps.getD 108 undef = .pointer (some ⟨w.heap.size + 1, 0, none⟩) := hu 108 (by decide)
      go_simp
    · refine Oo.is (.int .i64 (b (k))) (fun d hd w => by cases hd; exact rfl) fun ac wd hc hp hu hr => ?_
      have f109 : ac.tmps.getD 109 undef = .pointer (some ⟨w.heap.size + 1, k, none⟩) := hu 109 (by decide)
      have qb := (hc.block _ s_b List.not_mem_nil).trans g_b
      have gX := vw_get b (k := k) (by omega)
      go_simp
    · refine Oo.is (.int .i64 (a (k))) (fun d hd w => by cases hd; exact rfl) fun ac wd hc hp hu hr => ?_
      have f19 := (hp 19 (by decide)).trans h19
      go_simp
    · refine Oo.is (.bool (decide (b (k) > a (k)))) (fun d hd w => by cases hd; exact rfl) fun ac wd hc hp hu hr => ?_
      have f110 : ac.tmps.getD 110 undef = .int .i64 (b (k)) := hu 110 (by decide)
      have f111 : ac.tmps.getD 111 undef = .int .i64 (a (k)) := hu 111 (by decide)
      go_simp
    intro t8 w8 P8
    replace hN := P8.size.trans hN
    replace h2 := (P8.kept 2 (by kernel_rfl)).trans h2
    replace h3 := (P8.kept 3 (by kernel_rfl)).trans h3
    replace h4 := (P8.kept 4 (by kernel_rfl)).trans h4
    replace h5 := (P8.kept 5 (by kernel_rfl)).trans h5
    replace h6 := (P8.kept 6 (by kernel_rfl)).trans h6
    replace h11 := (P8.kept 11 (by kernel_rfl)).trans h11
    replace h12 := (P8.kept 12 (by kernel_rfl)).trans h12
    replace h13 := (P8.kept 13 (by kernel_rfl)).trans h13
    replace h14 := (P8.kept 14 (by kernel_rfl)).trans h14
    replace h15 := (P8.kept 15 (by kernel_rfl)).trans h15
    replace h16 := (P8.kept 16 (by kernel_rfl)).trans h16
    replace h17 := (P8.kept 17 (by kernel_rfl)).trans h17
    replace h18 := (P8.kept 18 (by kernel_rfl)).trans h18
    replace h19 := (P8.kept 19 (by kernel_rfl)).trans h19
    replace h20 := (P8.kept 20 (by kernel_rfl)).trans h20
    have h112 : t8.getD 112 undef = .bool (decide (b (k) > a (k))) := P8.tab 112
    replace g_a := (P8.ch.block _ s_a List.not_mem_nil).trans g_a
    replace g_b := (P8.ch.block _ s_b List.not_mem_nil).trans g_b
    replace g_j := (P8.ch.block _ s_j List.not_mem_nil).trans g_j
    replace g_f := (P8.ch.block _ s_f List.not_mem_nil).trans g_f
    replace g_x := (P8.ch.block _ s_x List.not_mem_nil).trans g_x
    replace g_m := (P8.ch.block _ s_m List.not_mem_nil).trans g_m
    replace s_a := Nat.lt_of_lt_of_le s_a P8.ch.size
    replace s_b := Nat.lt_of_lt_of_le s_b P8.ch.size
    replace s_j := Nat.lt_of_lt_of_le s_j P8.ch.size
    replace s_f := Nat.lt_of_lt_of_le s_f P8.ch.size
    replace s_x := Nat.lt_of_lt_of_le s_x P8.ch.size
    replace s_m := Nat.lt_of_lt_of_le s_m P8.ch.size
    replace hB := P8.ch.below hB hB.size (fun b hb => by cases hb)
    clear P8
    refine wp_mono (Q := fun e ac w' => e = .normal ∧ ∃ (t : Array Value), ac = ⟨t, []⟩ ∧ t.size = 240 ∧ t.getD 2 undef = .int .i64 loc ∧ t.getD 3 undef = .int .i64 tt ∧ t.getD 4 undef = .bool pln ∧ t.getD 5 undef = .pointer (some ⟨w.heap.size, 0, none⟩) ∧ t.getD 6 undef = .pointer (some ⟨w.heap.size + 1, 0, none⟩) ∧ t.getD 11 undef = .bool ((((mayK a k) && (decide (a (k) ≥ 0))) && (decide (a (4 + k) ≥ 0))) && (decide (a (k) ≤ a (4 + k)))) ∧ t.getD 12 undef = .bool (((leK a b k) && (decide (a (k) ≤ b (k)))) && (decide (a (4 + k) ≤ b (4 + k)))) ∧ t.getD 13 undef = .pointer (some ⟨bj, 0, none⟩) ∧ t.getD 14 undef = .pointer (some ⟨bf, 0, none⟩) ∧ t.getD 15 undef = .pointer (some ⟨bx, 0, none⟩) ∧ t.getD 16 undef = .pointer (some ⟨bm, 0, none⟩) ∧ t.getD 17 undef = .bool (inP loc tt) ∧ t.getD 18 undef = .int .i64 (k : Int) ∧ t.getD 19 undef = .int .i64 (mx (a k) (b k)) ∧ t.getD 20 undef = .int .i64 (a (4 + k)) ∧ Below w.heap.size w w' ∧ blkAt w' w.heap.size = some (.cells (vw a) 24 (0, 0)) ∧ w.heap.size < w'.heap.size ∧ blkAt w' (w.heap.size + 1) = some (.cells (vw b) 24 (0, 0)) ∧ w.heap.size + 1 < w'.heap.size ∧ blkAt w' bj = some (.cells (vw (jn a b)) 24 (0, 0)) ∧ bj < w'.heap.size ∧ blkAt w' bf = some (.cells (vw (fl (sh a))) 24 (0, 0)) ∧ bf < w'.heap.size ∧ blkAt w' bx = some (.cells (vw (atF loc tt pln)) 24 (0, 0)) ∧ bx < w'.heap.size ∧ blkAt w' bm = some (.cells (vw (mpK a 4)) 24 (0, 0)) ∧ bm < w'.heap.size) ?_ ?_
    · by_cases hc : b k > a k
      · rw [show (decide (b (k) > a (k))) = true from decide_eq_true hc] at h112
        refine wp_cond_true h112 ?_
        refine wp_seqr [(113, .val (.int .i64 (k : Int))), (114, .val (.pointer (some ⟨w.heap.size + 1, 0, none⟩))), (115, .val (.pointer (some ⟨w.heap.size + 1, k, none⟩))), (116, .val (.int .i64 (b (k)))), (19, .val (.int .i64 (b (k))))] [] [] [⟨none, [18], [], [], none⟩, ⟨none, [6], [], [], none⟩, ⟨none, [], [113, 114], [], none⟩, ⟨none, [], [115], [], none⟩, ⟨none, [], [116], [], none⟩] hN (by kernel_rfl) (by kernel_rfl) rfl rfl List.nodup_nil _ (fun x hx => by cases hx) ?_ ?_
        refine ⟨?_, ?_, ?_, ?_, ?_, trivial⟩
        · refine Oo.is (.int .i64 (k : Int)) (fun d hd w => by cases hd; exact rfl) fun ac wd hc hp hu hr => ?_
          have f18 := (hp 18 (by decide)).trans h18
          go_simp
        · refine Oo.is (.pointer (some ⟨w.heap.size + 1, 0, none⟩)) (fun d hd w => by cases hd; exact rfl) fun ac wd hc hp hu hr => ?_
          have f6 := (hp 6 (by decide)).trans h6
          go_simp
        · refine Oo.is (.pointer (some ⟨w.heap.size + 1, k, none⟩)) (fun d hd w => by cases hd; exact rfl) fun ac wd hc hp hu hr => ?_
          have f113 : ac.tmps.getD 113 undef = .int .i64 (k : Int) := hu 113 (by decide)
          have f114 : ac.tmps.getD 114 undef = .pointer (some ⟨w.heap.size + 1, 0, none⟩) := hu 114 (by decide)
          go_simp
        · refine Oo.is (.int .i64 (b (k))) (fun d hd w => by cases hd; exact rfl) fun ac wd hc hp hu hr => ?_
          have f115 : ac.tmps.getD 115 undef = .pointer (some ⟨w.heap.size + 1, k, none⟩) := hu 115 (by decide)
          have qb := (hc.block _ s_b List.not_mem_nil).trans g_b
          have gX := vw_get b (k := k) (by omega)
          go_simp
        · refine Oo.is (.int .i64 (b (k))) (fun d hd w => by cases hd; exact rfl) fun ac wd hc hp hu hr => ?_
          have f116 : ac.tmps.getD 116 undef = .int .i64 (b (k)) := hu 116 (by decide)
          go_simp
        intro t9 w9 P9
        replace hN := P9.size.trans hN
        replace h2 := (P9.kept 2 (by kernel_rfl)).trans h2
        replace h3 := (P9.kept 3 (by kernel_rfl)).trans h3
        replace h4 := (P9.kept 4 (by kernel_rfl)).trans h4
        replace h5 := (P9.kept 5 (by kernel_rfl)).trans h5
        replace h6 := (P9.kept 6 (by kernel_rfl)).trans h6
        replace h11 := (P9.kept 11 (by kernel_rfl)).trans h11
        replace h12 := (P9.kept 12 (by kernel_rfl)).trans h12
        replace h13 := (P9.kept 13 (by kernel_rfl)).trans h13
        replace h14 := (P9.kept 14 (by kernel_rfl)).trans h14
        replace h15 := (P9.kept 15 (by kernel_rfl)).trans h15
        replace h16 := (P9.kept 16 (by kernel_rfl)).trans h16
        replace h17 := (P9.kept 17 (by kernel_rfl)).trans h17
        replace h18 := (P9.kept 18 (by kernel_rfl)).trans h18
        replace h20 := (P9.kept 20 (by kernel_rfl)).trans h20
        have h19 : t9.getD 19 undef = .int .i64 (b (k)) := P9.tab 19
        replace g_a := (P9.ch.block _ s_a List.not_mem_nil).trans g_a
        replace g_b := (P9.ch.block _ s_b List.not_mem_nil).trans g_b
        replace g_j := (P9.ch.block _ s_j List.not_mem_nil).trans g_j
        replace g_f := (P9.ch.block _ s_f List.not_mem_nil).trans g_f
        replace g_x := (P9.ch.block _ s_x List.not_mem_nil).trans g_x
        replace g_m := (P9.ch.block _ s_m List.not_mem_nil).trans g_m
        replace s_a := Nat.lt_of_lt_of_le s_a P9.ch.size
        replace s_b := Nat.lt_of_lt_of_le s_b P9.ch.size
        replace s_j := Nat.lt_of_lt_of_le s_j P9.ch.size
        replace s_f := Nat.lt_of_lt_of_le s_f P9.ch.size
        replace s_x := Nat.lt_of_lt_of_le s_x P9.ch.size
        replace s_m := Nat.lt_of_lt_of_le s_m P9.ch.size
        replace hB := P9.ch.below hB hB.size (fun b hb => by cases hb)
        clear P9
        exact ⟨rfl, _, rfl, hN, h2, h3, h4, h5, h6, h11, h12, h13, h14, h15, h16, h17, h18, (h19.trans (by rw [show mx (a k) (b k) = b k by unfold mx; rw [if_pos hc]])), h20, hB, g_a, s_a, g_b, s_b, g_j, s_j, g_f, s_f, g_x, s_x, g_m, s_m⟩
      · rw [show (decide (b (k) > a (k))) = false from decide_eq_false hc] at h112
        refine wp_cond_false h112 ?_
        refine wp_skip ?_
        exact ⟨rfl, _, rfl, hN, h2, h3, h4, h5, h6, h11, h12, h13, h14, h15, h16, h17, h18, (h19.trans (by rw [show mx (a k) (b k) = a k by unfold mx; rw [if_neg hc]])), h20, hB, g_a, s_a, g_b, s_b, g_j, s_j, g_f, s_f, g_x, s_x, g_m, s_m⟩
    clear h2 h3 h4 h5 h6 h11 h12 h13 h14 h15 h16 h17 h18 h19 h20 hN hB g_a s_a g_b s_b g_j s_j g_f s_f g_x s_x g_m s_m h112
    rintro e ac w10 ⟨rfl, t10, rfl, hN, h2, h3, h4, h5, h6, h11, h12, h13, h14, h15, h16, h17, h18, h19, h20, hB, g_a, s_a, g_b, s_b, g_j, s_j, g_f, s_f, g_x, s_x, g_m, s_m⟩
    refine wp_seq ?_
    refine wp_seq ?_
    refine wp_seqr [(117, .val (.int .i64 (k : Int))), (118, .val (.pointer (some ⟨w.heap.size + 1, 4, none⟩))), (119, .val (.pointer (some ⟨w.heap.size + 1, 4 + k, none⟩))), (120, .val (.int .i64 (b (4 + k)))), (121, .val (.int .i64 (a (4 + k)))), (122, .val (.bool (decide (b (4 + k) > a (4 + k)))))] [] [] [⟨none, [18], [], [], none⟩, ⟨none, [6], [], [], none⟩, ⟨none, [], [117, 118], [], none⟩, ⟨none, [], [119], [], none⟩, ⟨none, [20], [], [], none⟩, ⟨none, [], [120, 121], [], none⟩] hN (by kernel_rfl) (by kernel_rfl) rfl rfl List.nodup_nil _ (fun x hx => by cases hx) ?_ ?_
    refine ⟨?_, ?_, ?_, ?_, ?_, ?_, trivial⟩
    · refine Oo.is (.int .i64 (k : Int)) (fun d hd w => by cases hd; exact rfl) fun ac wd hc hp hu hr => ?_
      have f18 := (hp 18 (by decide)).trans h18
      go_simp
    · refine Oo.is (.pointer (some ⟨w.heap.size + 1, 4, none⟩)) (fun d hd w => by cases hd; exact rfl) fun ac wd hc hp hu hr => ?_
      have f6 := (hp 6 (by decide)).trans h6
      go_simp
    · refine Oo.is (.pointer (some ⟨w.heap.size + 1, 4 + k, none⟩)) (fun d hd w => by cases hd; exact rfl) fun ac wd hc hp hu hr => ?_
      have f117 : ac.tmps.getD 117 undef = .int .i64 (k : Int) := hu 117 (by decide)
      have f118 : ac.tmps.getD 118 undef = .pointer (some ⟨w.heap.size + 1, 4, none⟩) := hu 118 (by decide)
      go_simp
    · refine Oo.is (.int .i64 (b (4 + k))) (fun d hd w => by cases hd; exact rfl) fun ac wd hc hp hu hr => ?_
      have f119 : ac.tmps.getD 119 undef = .pointer (some ⟨w.heap.size + 1, 4 + k, none⟩) := hu 119 (by decide)
      have qb := (hc.block _ s_b List.not_mem_nil).trans g_b
      have gX := vw_get b (k := 4 + k) (by omega)
      go_simp
    · refine Oo.is (.int .i64 (a (4 + k))) (fun d hd w => by cases hd; exact rfl) fun ac wd hc hp hu hr => ?_
      have f20 := (hp 20 (by decide)).trans h20
      go_simp
    · refine Oo.is (.bool (decide (b (4 + k) > a (4 + k)))) (fun d hd w => by cases hd; exact rfl) fun ac wd hc hp hu hr => ?_
      have f120 : ac.tmps.getD 120 undef = .int .i64 (b (4 + k)) := hu 120 (by decide)
      have f121 : ac.tmps.getD 121 undef = .int .i64 (a (4 + k)) := hu 121 (by decide)
      go_simp
    intro t11 w11 P11
    replace hN := P11.size.trans hN
    replace h2 := (P11.kept 2 (by kernel_rfl)).trans h2
    replace h3 := (P11.kept 3 (by kernel_rfl)).trans h3
    replace h4 := (P11.kept 4 (by kernel_rfl)).trans h4
    replace h5 := (P11.kept 5 (by kernel_rfl)).trans h5
    replace h6 := (P11.kept 6 (by kernel_rfl)).trans h6
    replace h11 := (P11.kept 11 (by kernel_rfl)).trans h11
    replace h12 := (P11.kept 12 (by kernel_rfl)).trans h12
    replace h13 := (P11.kept 13 (by kernel_rfl)).trans h13
    replace h14 := (P11.kept 14 (by kernel_rfl)).trans h14
    replace h15 := (P11.kept 15 (by kernel_rfl)).trans h15
    replace h16 := (P11.kept 16 (by kernel_rfl)).trans h16
    replace h17 := (P11.kept 17 (by kernel_rfl)).trans h17
    replace h18 := (P11.kept 18 (by kernel_rfl)).trans h18
    replace h19 := (P11.kept 19 (by kernel_rfl)).trans h19
    replace h20 := (P11.kept 20 (by kernel_rfl)).trans h20
    have h122 : t11.getD 122 undef = .bool (decide (b (4 + k) > a (4 + k))) := P11.tab 122
    replace g_a := (P11.ch.block _ s_a List.not_mem_nil).trans g_a
    replace g_b := (P11.ch.block _ s_b List.not_mem_nil).trans g_b
    replace g_j := (P11.ch.block _ s_j List.not_mem_nil).trans g_j
    replace g_f := (P11.ch.block _ s_f List.not_mem_nil).trans g_f
    replace g_x := (P11.ch.block _ s_x List.not_mem_nil).trans g_x
    replace g_m := (P11.ch.block _ s_m List.not_mem_nil).trans g_m
    replace s_a := Nat.lt_of_lt_of_le s_a P11.ch.size
    replace s_b := Nat.lt_of_lt_of_le s_b P11.ch.size
    replace s_j := Nat.lt_of_lt_of_le s_j P11.ch.size
    replace s_f := Nat.lt_of_lt_of_le s_f P11.ch.size
    replace s_x := Nat.lt_of_lt_of_le s_x P11.ch.size
    replace s_m := Nat.lt_of_lt_of_le s_m P11.ch.size
    replace hB := P11.ch.below hB hB.size (fun b hb => by cases hb)
    clear P11
    refine wp_mono (Q := fun e ac w' => e = .normal ∧ ∃ (t : Array Value), ac = ⟨t, []⟩ ∧ t.size = 240 ∧ t.getD 2 undef = .int .i64 loc ∧ t.getD 3 undef = .int .i64 tt ∧ t.getD 4 undef = .bool pln ∧ t.getD 5 undef = .pointer (some ⟨w.heap.size, 0, none⟩) ∧ t.getD 6 undef = .pointer (some ⟨w.heap.size + 1, 0, none⟩) ∧ t.getD 11 undef = .bool ((((mayK a k) && (decide (a (k) ≥ 0))) && (decide (a (4 + k) ≥ 0))) && (decide (a (k) ≤ a (4 + k)))) ∧ t.getD 12 undef = .bool (((leK a b k) && (decide (a (k) ≤ b (k)))) && (decide (a (4 + k) ≤ b (4 + k)))) ∧ t.getD 13 undef = .pointer (some ⟨bj, 0, none⟩) ∧ t.getD 14 undef = .pointer (some ⟨bf, 0, none⟩) ∧ t.getD 15 undef = .pointer (some ⟨bx, 0, none⟩) ∧ t.getD 16 undef = .pointer (some ⟨bm, 0, none⟩) ∧ t.getD 17 undef = .bool (inP loc tt) ∧ t.getD 18 undef = .int .i64 (k : Int) ∧ t.getD 19 undef = .int .i64 (mx (a k) (b k)) ∧ t.getD 20 undef = .int .i64 (mx (a (4 + k)) (b (4 + k))) ∧ Below w.heap.size w w' ∧ blkAt w' w.heap.size = some (.cells (vw a) 24 (0, 0)) ∧ w.heap.size < w'.heap.size ∧ blkAt w' (w.heap.size + 1) = some (.cells (vw b) 24 (0, 0)) ∧ w.heap.size + 1 < w'.heap.size ∧ blkAt w' bj = some (.cells (vw (jn a b)) 24 (0, 0)) ∧ bj < w'.heap.size ∧ blkAt w' bf = some (.cells (vw (fl (sh a))) 24 (0, 0)) ∧ bf < w'.heap.size ∧ blkAt w' bx = some (.cells (vw (atF loc tt pln)) 24 (0, 0)) ∧ bx < w'.heap.size ∧ blkAt w' bm = some (.cells (vw (mpK a 4)) 24 (0, 0)) ∧ bm < w'.heap.size) ?_ ?_
    · by_cases hc : b (4 + k) > a (4 + k)
      · rw [show (decide (b (4 + k) > a (4 + k))) = true from decide_eq_true hc] at h122
        refine wp_cond_true h122 ?_
        refine wp_seqr [(123, .val (.int .i64 (k : Int))), (124, .val (.pointer (some ⟨w.heap.size + 1, 4, none⟩))), (125, .val (.pointer (some ⟨w.heap.size + 1, 4 + k, none⟩))), (126, .val (.int .i64 (b (4 + k)))), (20, .val (.int .i64 (b (4 + k))))] [] [] [⟨none, [18], [], [], none⟩, ⟨none, [6], [], [], none⟩, ⟨none, [], [123, 124], [], none⟩, ⟨none, [], [125], [], none⟩, ⟨none, [], [126], [], none⟩] hN (by kernel_rfl) (by kernel_rfl) rfl rfl List.nodup_nil _ (fun x hx => by cases hx) ?_ ?_
        refine ⟨?_, ?_, ?_, ?_, ?_, trivial⟩
        · refine Oo.is (.int .i64 (k : Int)) (fun d hd w => by cases hd; exact rfl) fun ac wd hc hp hu hr => ?_
          have f18 := (hp 18 (by decide)).trans h18
          go_simp
        · refine Oo.is (.pointer (some ⟨w.heap.size + 1, 4, none⟩)) (fun d hd w => by cases hd; exact rfl) fun ac wd hc hp hu hr => ?_
          have f6 := (hp 6 (by decide)).trans h6
          go_simp
        · refine Oo.is (.pointer (some ⟨w.heap.size + 1, 4 + k, none⟩)) (fun d hd w => by cases hd; exact rfl) fun ac wd hc hp hu hr => ?_
          have f123 : ac.tmps.getD 123 undef = .int .i64 (k : Int) := hu 123 (by decide)
          have f124 : ac.tmps.getD 124 undef = .pointer (some ⟨w.heap.size + 1, 4, none⟩) := hu 124 (by decide)
          go_simp
        · refine Oo.is (.int .i64 (b (4 + k))) (fun d hd w => by cases hd; exact rfl) fun ac wd hc hp hu hr => ?_
          have f125 : ac.tmps.getD 125 undef = .pointer (some ⟨w.heap.size + 1, 4 + k, none⟩) := hu 125 (by decide)
          have qb := (hc.block _ s_b List.not_mem_nil).trans g_b
          have gX := vw_get b (k := 4 + k) (by omega)
          go_simp
        · refine Oo.is (.int .i64 (b (4 + k))) (fun d hd w => by cases hd; exact rfl) fun ac wd hc hp hu hr => ?_
          have f126 : ac.tmps.getD 126 undef = .int .i64 (b (4 + k)) := hu 126 (by decide)
          go_simp
        intro t12 w12 P12
        replace hN := P12.size.trans hN
        replace h2 := (P12.kept 2 (by kernel_rfl)).trans h2
        replace h3 := (P12.kept 3 (by kernel_rfl)).trans h3
        replace h4 := (P12.kept 4 (by kernel_rfl)).trans h4
        replace h5 := (P12.kept 5 (by kernel_rfl)).trans h5
        replace h6 := (P12.kept 6 (by kernel_rfl)).trans h6
        replace h11 := (P12.kept 11 (by kernel_rfl)).trans h11
        replace h12 := (P12.kept 12 (by kernel_rfl)).trans h12
        replace h13 := (P12.kept 13 (by kernel_rfl)).trans h13
        replace h14 := (P12.kept 14 (by kernel_rfl)).trans h14
        replace h15 := (P12.kept 15 (by kernel_rfl)).trans h15
        replace h16 := (P12.kept 16 (by kernel_rfl)).trans h16
        replace h17 := (P12.kept 17 (by kernel_rfl)).trans h17
        replace h18 := (P12.kept 18 (by kernel_rfl)).trans h18
        replace h19 := (P12.kept 19 (by kernel_rfl)).trans h19
        have h20 : t12.getD 20 undef = .int .i64 (b (4 + k)) := P12.tab 20
        replace g_a := (P12.ch.block _ s_a List.not_mem_nil).trans g_a
        replace g_b := (P12.ch.block _ s_b List.not_mem_nil).trans g_b
        replace g_j := (P12.ch.block _ s_j List.not_mem_nil).trans g_j
        replace g_f := (P12.ch.block _ s_f List.not_mem_nil).trans g_f
        replace g_x := (P12.ch.block _ s_x List.not_mem_nil).trans g_x
        replace g_m := (P12.ch.block _ s_m List.not_mem_nil).trans g_m
        replace s_a := Nat.lt_of_lt_of_le s_a P12.ch.size
        replace s_b := Nat.lt_of_lt_of_le s_b P12.ch.size
        replace s_j := Nat.lt_of_lt_of_le s_j P12.ch.size
        replace s_f := Nat.lt_of_lt_of_le s_f P12.ch.size
        replace s_x := Nat.lt_of_lt_of_le s_x P12.ch.size
        replace s_m := Nat.lt_of_lt_of_le s_m P12.ch.size
        replace hB := P12.ch.below hB hB.size (fun b hb => by cases hb)
        clear P12
        exact ⟨rfl, _, rfl, hN, h2, h3, h4, h5, h6, h11, h12, h13, h14, h15, h16, h17, h18, h19, (h20.trans (by rw [show mx (a (4 + k)) (b (4 + k)) = b (4 + k) by unfold mx; rw [if_pos hc]])), hB, g_a, s_a, g_b, s_b, g_j, s_j, g_f, s_f, g_x, s_x, g_m, s_m⟩
      · rw [show (decide (b (4 + k) > a (4 + k))) = false from decide_eq_false hc] at h122
        refine wp_cond_false h122 ?_
        refine wp_skip ?_
        exact ⟨rfl, _, rfl, hN, h2, h3, h4, h5, h6, h11, h12, h13, h14, h15, h16, h17, h18, h19, (h20.trans (by rw [show mx (a (4 + k)) (b (4 + k)) = a (4 + k) by unfold mx; rw [if_neg hc]])), hB, g_a, s_a, g_b, s_b, g_j, s_j, g_f, s_f, g_x, s_x, g_m, s_m⟩
    clear h2 h3 h4 h5 h6 h11 h12 h13 h14 h15 h16 h17 h18 h19 h20 hN hB g_a s_a g_b s_b g_j s_j g_f s_f g_x s_x g_m s_m h122
    rintro e ac w13 ⟨rfl, t13, rfl, hN, h2, h3, h4, h5, h6, h11, h12, h13, h14, h15, h16, h17, h18, h19, h20, hB, g_a, s_a, g_b, s_b, g_j, s_j, g_f, s_f, g_x, s_x, g_m, s_m⟩
    refine wp_seq ?_
    refine wp_seq ?_
    have e0 : jn a b k = mx (a k) (b k) := rfl
    have e1 : jn a b (4 + k) = mx (a (4 + k)) (b (4 + k)) := rfl
    have e2 : fl (sh a) k = a (4 + k) := by unfold fl sh; congr 1; omega
    have e3 : fl (sh a) (4 + k) = a (4 + k) := by unfold fl sh; congr 1; omega
    have e4 : mpK a 4 k = bits .xor .i64 (a k) (k : Int) := by unfold mpK; rw [if_pos (by omega), show k % 4 = k by omega]; rfl
    have e5 : mpK a 4 (4 + k) = bits .xor .i64 (a (4 + k)) (k : Int) := by unfold mpK; rw [if_pos (by omega), show (4 + k) % 4 = k by omega]; rfl
    refine wp_draw [(127, .val (.int .i64 (k : Int))), (128, .val (.pointer (some ⟨bj, 0, none⟩))), (129, .val (.pointer (some ⟨bj, k, none⟩))), (130, .val (.int .i64 ((jn a b) (k)))), (131, .val (.int .i64 (mx (a k) (b k)))), (132, .val (.bool false)), (133, .val (.bool false)), (134, .val (.int .i64 (k : Int))), (135, .val (.pointer (some ⟨bj, 4, none⟩))), (136, .val (.pointer (some ⟨bj, 4 + k, none⟩))), (137, .val (.int .i64 ((jn a b) (4 + k)))), (138, .val (.int .i64 (mx (a (4 + k)) (b (4 + k))))), (139, .val (.bool false)), (140, .val (.bool false)), (141, .val (.bool false)), (142, .val (.int .i64 (k : Int))), (143, .val (.pointer (some ⟨bf, 0, none⟩))), (144, .val (.pointer (some ⟨bf, k, none⟩))), (145, .val (.int .i64 ((fl (sh a)) (k)))), (146, .val (.int .i64 (k : Int))), (147, .val (.pointer (some ⟨w.heap.size, 4, none⟩))), (148, .val (.pointer (some ⟨w.heap.size, 4 + k, none⟩))), (149, .val (.int .i64 (a (4 + k)))), (150, .val (.bool false)), (151, .val (.bool false)), (152, .val (.bool false)), (153, .val (.int .i64 (k : Int))), (154, .val (.pointer (some ⟨bf, 4, none⟩))), (155, .val (.pointer (some ⟨bf, 4 + k, none⟩))), (156, .val (.int .i64 ((fl (sh a)) (4 + k)))), (157, .val (.int .i64 (k : Int))), (158, .val (.pointer (some ⟨w.heap.size, 4, none⟩))), (159, .val (.pointer (some ⟨w.heap.size, 4 + k, none⟩))), (160, .val (.int .i64 (a (4 + k)))), (161, .val (.bool false)), (162, .val (.bool false)), (163, .val (.bool false)), (164, .val (.int .i64 (k : Int))), (165, .val (.pointer (some ⟨bm, 0, none⟩))), (166, .val (.pointer (some ⟨bm, k, none⟩))), (167, .val (.int .i64 ((mpK a 4) (k)))), (168, .val (.int .i64 (k : Int))), (169, .val (.pointer (some ⟨w.heap.size, 0, none⟩))), (170, .val (.pointer (some ⟨w.heap.size, k, none⟩))), (171, .val (.int .i64 (a (k)))), (172, .val (.int .i64 (k : Int))), (173, .val (.int .i64 (bits .xor .i64 (a (k)) ((k : Int))))), (174, .val (.bool false)), (175, .val (.bool false)), (176, .val (.bool false)), (177, .val (.int .i64 (k : Int))), (178, .val (.pointer (some ⟨bm, 4, none⟩))), (179, .val (.pointer (some ⟨bm, 4 + k, none⟩))), (180, .val (.int .i64 ((mpK a 4) (4 + k)))), (181, .val (.int .i64 (k : Int))), (182, .val (.pointer (some ⟨w.heap.size, 4, none⟩))), (183, .val (.pointer (some ⟨w.heap.size, 4 + k, none⟩))), (184, .val (.int .i64 (a (4 + k)))), (185, .val (.int .i64 (k : Int))), (186, .val (.int .i64 (bits .xor .i64 (a (4 + k)) ((k : Int))))), (187, .val (.bool false)), (188, .val (.bool false))] [] [] [⟨none, [18], [], [], none⟩, ⟨none, [13], [], [], none⟩, ⟨none, [], [127, 128], [], none⟩, ⟨none, [], [129], [], none⟩, ⟨none, [19], [], [], none⟩, ⟨none, [], [130, 131], [], none⟩, ⟨none, [], [132], [], none⟩, ⟨some (133, false), [18], [133], [], none⟩, ⟨some (133, false), [13], [133], [], none⟩, ⟨some (133, false), [], [133, 134, 135], [], none⟩, ⟨some (133, false), [], [133, 136], [], none⟩, ⟨some (133, false), [20], [133], [], none⟩, ⟨some (133, false), [], [133, 137, 138], [], none⟩, ⟨none, [], [133, 139], [], none⟩, ⟨none, [], [140], [], none⟩, ⟨some (141, false), [18], [141], [], none⟩, ⟨some (141, false), [14], [141], [], none⟩, ⟨some (141, false), [], [141, 142, 143], [], none⟩, ⟨some (141, false), [], [141, 144], [], none⟩, ⟨some (141, false), [18], [141], [], none⟩, ⟨some (141, false), [5], [141], [], none⟩, ⟨some (141, false), [], [141, 146, 147], [], none⟩, ⟨some (141, false), [], [141, 148], [], none⟩, ⟨some (141, false), [], [141, 145, 149], [], none⟩, ⟨none, [], [141, 150], [], none⟩, ⟨none, [], [151], [], none⟩, ⟨some (152, false), [18], [152], [], none⟩, ⟨some (152, false), [14], [152], [], none⟩, ⟨some (152, false), [], [152, 153, 154], [], none⟩, ⟨some (152, false), [], [152, 155], [], none⟩, ⟨some (152, false), [18], [152], [], none⟩, ⟨some (152, false), [5], [152], [], none⟩, ⟨some (152, false), [], [152, 157, 158], [], none⟩, ⟨some (152, false), [], [152, 159], [], none⟩, ⟨some (152, false), [], [152, 156, 160], [], none⟩, ⟨none, [], [152, 161], [], none⟩, ⟨none, [], [162], [], none⟩, ⟨some (163, false), [18], [163], [], none⟩, ⟨some (163, false), [16], [163], [], none⟩, ⟨some (163, false), [], [163, 164, 165], [], none⟩, ⟨some (163, false), [], [163, 166], [], none⟩, ⟨some (163, false), [18], [163], [], none⟩, ⟨some (163, false), [5], [163], [], none⟩, ⟨some (163, false), [], [163, 168, 169], [], none⟩, ⟨some (163, false), [], [163, 170], [], none⟩, ⟨some (163, false), [18], [163], [], none⟩, ⟨some (163, false), [], [163, 171, 172], [], none⟩, ⟨some (163, false), [], [163, 167, 173], [], none⟩, ⟨none, [], [163, 174], [], none⟩, ⟨none, [], [175], [], none⟩, ⟨some (176, false), [18], [176], [], none⟩, ⟨some (176, false), [16], [176], [], none⟩, ⟨some (176, false), [], [176, 177, 178], [], none⟩, ⟨some (176, false), [], [176, 179], [], none⟩, ⟨some (176, false), [18], [176], [], none⟩, ⟨some (176, false), [5], [176], [], none⟩, ⟨some (176, false), [], [176, 181, 182], [], none⟩, ⟨some (176, false), [], [176, 183], [], none⟩, ⟨some (176, false), [18], [176], [], none⟩, ⟨some (176, false), [], [176, 184, 185], [], none⟩, ⟨some (176, false), [], [176, 180, 186], [], none⟩, ⟨none, [], [176, 187], [], none⟩] hN (by kernel_rfl) (by kernel_rfl) (by kernel_rfl) rfl rfl List.nodup_nil _ (fun x hx => by cases hx) ?_ ?_
    refine ⟨?_, ?_, ?_, ?_, ?_, ?_, ?_, ?_, ?_, ?_, ?_, ?_, ?_, ?_, ?_, ?_, ?_, ?_, ?_, ?_, ?_, ?_, ?_, ?_, ?_, ?_, ?_, ?_, ?_, ?_, ?_, ?_, ?_, ?_, ?_, ?_, ?_, ?_, ?_, ?_, ?_, ?_, ?_, ?_, ?_, ?_, ?_, ?_, ?_, ?_, ?_, ?_, ?_, ?_, ?_, ?_, ?_, ?_, ?_, ?_, ?_, ?_, trivial⟩
    · refine Oo.is (.int .i64 (k : Int)) (fun d hd w => by cases hd; exact rfl) fun ac wd hc hp hu hr => ?_
      have f18 := (hp 18 (by decide)).trans h18
      go_simp
    · refine Oo.is (.pointer (some ⟨bj, 0, none⟩)) (fun d hd w => by cases hd; exact rfl) fun ac wd hc hp hu hr => ?_
      have f13 := (hp 13 (by decide)).trans h13
      go_simp
    · refine Oo.is (.pointer (some ⟨bj, k, none⟩)) (fun d hd w => by cases hd; exact rfl) fun ac wd hc hp hu hr => ?_
      have f127 : ac.tmps.getD 127 undef = .int .i64 (k : Int) := hu 127 (by decide)
      have f128 : ac.tmps.getD 128 undef = .pointer (some ⟨bj, 0, none⟩) := hu 128 (by decide)
      go_simp
    · refine Oo.is (.int .i64 ((jn a b) (k))) (fun d hd w => by cases hd; exact rfl) fun ac wd hc hp hu hr => ?_
      have f129 : ac.tmps.getD 129 undef = .pointer (some ⟨bj, k, none⟩) := hu 129 (by decide)
      have qj := (hc.block _ s_j List.not_mem_nil).trans g_j
      have gX := vw_get (jn a b) (k := k) (by omega)
      go_simp
    · refine Oo.is (.int .i64 (mx (a k) (b k))) (fun d hd w => by cases hd; exact rfl) fun ac wd hc hp hu hr => ?_
      have f19 := (hp 19 (by decide)).trans h19
      go_simp
    · refine Oo.is (.bool false) (fun d hd w => by cases hd; exact rfl) fun ac wd hc hp hu hr => ?_
      have f130 : ac.tmps.getD 130 undef = .int .i64 ((jn a b) (k)) := hu 130 (by decide)
      have f131 : ac.tmps.getD 131 undef = .int .i64 (mx (a k) (b k)) := hu 131 (by decide)
      go_simp
    · refine Oo.is (.bool false) (fun d hd w => by cases hd; exact rfl) fun ac wd hc hp hu hr => ?_
      have f132 : ac.tmps.getD 132 undef = .bool false := hu 132 (by decide)
      go_simp
    · refine Oo.on (by decide) (fun v w h => h) (Oo.is (.int .i64 (k : Int)) (fun d hd w => by cases hd; exact rfl) fun ac wd hc hp hu hr => ?_)
      have f18 := (hp 18 (by decide)).trans h18
      have f133 : ac.tmps.getD 133 undef = .bool false := hu 133 (by decide)
      go_simp
    · refine Oo.on (by decide) (fun v w h => h) (Oo.is (.pointer (some ⟨bj, 4, none⟩)) (fun d hd w => by cases hd; exact rfl) fun ac wd hc hp hu hr => ?_)
      have f13 := (hp 13 (by decide)).trans h13
      have f133 : ac.tmps.getD 133 undef = .bool false := hu 133 (by decide)
      go_simp
    · refine Oo.on (by decide) (fun v w h => h) (Oo.is (.pointer (some ⟨bj, 4 + k, none⟩)) (fun d hd w => by cases hd; exact rfl) fun ac wd hc hp hu hr => ?_)
      have f133 : ac.tmps.getD 133 undef = .bool false := hu 133 (by decide)
      have f134 : ac.tmps.getD 134 undef = .int .i64 (k : Int) := hu 134 (by decide)
      have f135 : ac.tmps.getD 135 undef = .pointer (some ⟨bj, 4, none⟩) := hu 135 (by decide)
      go_simp
    · refine Oo.on (by decide) (fun v w h => h) (Oo.is (.int .i64 ((jn a b) (4 + k))) (fun d hd w => by cases hd; exact rfl) fun ac wd hc hp hu hr => ?_)
      have f133 : ac.tmps.getD 133 undef = .bool false := hu 133 (by decide)
      have f136 : ac.tmps.getD 136 undef = .pointer (some ⟨bj, 4 + k, none⟩) := hu 136 (by decide)
      have qj := (hc.block _ s_j List.not_mem_nil).trans g_j
      have gX := vw_get (jn a b) (k := 4 + k) (by omega)
      go_simp
    · refine Oo.on (by decide) (fun v w h => h) (Oo.is (.int .i64 (mx (a (4 + k)) (b (4 + k)))) (fun d hd w => by cases hd; exact rfl) fun ac wd hc hp hu hr => ?_)
      have f20 := (hp 20 (by decide)).trans h20
      have f133 : ac.tmps.getD 133 undef = .bool false := hu 133 (by decide)
      go_simp
    · refine Oo.on (by decide) (fun v w h => h) (Oo.is (.bool false) (fun d hd w => by cases hd; exact rfl) fun ac wd hc hp hu hr => ?_)
      have f133 : ac.tmps.getD 133 undef = .bool false := hu 133 (by decide)
      have f137 : ac.tmps.getD 137 undef = .int .i64 ((jn a b) (4 + k)) := hu 137 (by decide)
      have f138 : ac.tmps.getD 138 undef = .int .i64 (mx (a (4 + k)) (b (4 + k))) := hu 138 (by decide)
      go_simp
    · refine Oo.is (.bool false) (fun d hd w => by cases hd; exact rfl) fun ac wd hc hp hu hr => ?_
      have f133 : ac.tmps.getD 133 undef = .bool false := hu 133 (by decide)
      have f139 : ac.tmps.getD 139 undef = .bool false := hu 139 (by decide)
      go_simp
    · refine Oo.is (.bool false) (fun d hd w => by cases hd; exact rfl) fun ac wd hc hp hu hr => ?_
      have f140 : ac.tmps.getD 140 undef = .bool false := hu 140 (by decide)
      go_simp
    · refine Oo.on (by decide) (fun v w h => h) (Oo.is (.int .i64 (k : Int)) (fun d hd w => by cases hd; exact rfl) fun ac wd hc hp hu hr => ?_)
      have f18 := (hp 18 (by decide)).trans h18
      have f141 : ac.tmps.getD 141 undef = .bool false := hu 141 (by decide)
      go_simp
    · refine Oo.on (by decide) (fun v w h => h) (Oo.is (.pointer (some ⟨bf, 0, none⟩)) (fun d hd w => by cases hd; exact rfl) fun ac wd hc hp hu hr => ?_)
      have f14 := (hp 14 (by decide)).trans h14
      have f141 : ac.tmps.getD 141 undef = .bool false := hu 141 (by decide)
      go_simp
    · refine Oo.on (by decide) (fun v w h => h) (Oo.is (.pointer (some ⟨bf, k, none⟩)) (fun d hd w => by cases hd; exact rfl) fun ac wd hc hp hu hr => ?_)
      have f141 : ac.tmps.getD 141 undef = .bool false := hu 141 (by decide)
      have f142 : ac.tmps.getD 142 undef = .int .i64 (k : Int) := hu 142 (by decide)
      have f143 : ac.tmps.getD 143 undef = .pointer (some ⟨bf, 0, none⟩) := hu 143 (by decide)
      go_simp
    · refine Oo.on (by decide) (fun v w h => h) (Oo.is (.int .i64 ((fl (sh a)) (k))) (fun d hd w => by cases hd; exact rfl) fun ac wd hc hp hu hr => ?_)
      have f141 : ac.tmps.getD 141 undef = .bool false := hu 141 (by decide)
      have f144 : ac.tmps.getD 144 undef = .pointer (some ⟨bf, k, none⟩) := hu 144 (by decide)
      have qf := (hc.block _ s_f List.not_mem_nil).trans g_f
      have gX := vw_get (fl (sh a)) (k := k) (by omega)
      go_simp
    · refine Oo.on (by decide) (fun v w h => h) (Oo.is (.int .i64 (k : Int)) (fun d hd w => by cases hd; exact rfl) fun ac wd hc hp hu hr => ?_)
      have f18 := (hp 18 (by decide)).trans h18
      have f141 : ac.tmps.getD 141 undef = .bool false := hu 141 (by decide)
      go_simp
    · refine Oo.on (by decide) (fun v w h => h) (Oo.is (.pointer (some ⟨w.heap.size, 4, none⟩)) (fun d hd w => by cases hd; exact rfl) fun ac wd hc hp hu hr => ?_)
      have f5 := (hp 5 (by decide)).trans h5
      have f141 : ac.tmps.getD 141 undef = .bool false := hu 141 (by decide)
      go_simp
    · refine Oo.on (by decide) (fun v w h => h) (Oo.is (.pointer (some ⟨w.heap.size, 4 + k, none⟩)) (fun d hd w => by cases hd; exact rfl) fun ac wd hc hp hu hr => ?_)
      have f141 : ac.tmps.getD 141 undef = .bool false := hu 141 (by decide)
      have f146 : ac.tmps.getD 146 undef = .int .i64 (k : Int) := hu 146 (by decide)
      have f147 : ac.tmps.getD 147 undef = .pointer (some ⟨w.heap.size, 4, none⟩) := hu 147 (by decide)
      go_simp
    · refine Oo.on (by decide) (fun v w h => h) (Oo.is (.int .i64 (a (4 + k))) (fun d hd w => by cases hd; exact rfl) fun ac wd hc hp hu hr => ?_)
      have f141 : ac.tmps.getD 141 undef = .bool false := hu 141 (by decide)
      have f148 : ac.tmps.getD 148 undef = .pointer (some ⟨w.heap.size, 4 + k, none⟩) := hu 148 (by decide)
      have qa := (hc.block _ s_a List.not_mem_nil).trans g_a
      have gX := vw_get a (k := 4 + k) (by omega)
      go_simp
    · refine Oo.on (by decide) (fun v w h => h) (Oo.is (.bool false) (fun d hd w => by cases hd; exact rfl) fun ac wd hc hp hu hr => ?_)
      have f141 : ac.tmps.getD 141 undef = .bool false := hu 141 (by decide)
      have f145 : ac.tmps.getD 145 undef = .int .i64 ((fl (sh a)) (k)) := hu 145 (by decide)
      have f149 : ac.tmps.getD 149 undef = .int .i64 (a (4 + k)) := hu 149 (by decide)
      go_simp
    · refine Oo.is (.bool false) (fun d hd w => by cases hd; exact rfl) fun ac wd hc hp hu hr => ?_
      have f141 : ac.tmps.getD 141 undef = .bool false := hu 141 (by decide)
      have f150 : ac.tmps.getD 150 undef = .bool false := hu 150 (by decide)
      go_simp
    · refine Oo.is (.bool false) (fun d hd w => by cases hd; exact rfl) fun ac wd hc hp hu hr => ?_
      have f151 : ac.tmps.getD 151 undef = .bool false := hu 151 (by decide)
      go_simp
    · refine Oo.on (by decide) (fun v w h => h) (Oo.is (.int .i64 (k : Int)) (fun d hd w => by cases hd; exact rfl) fun ac wd hc hp hu hr => ?_)
      have f18 := (hp 18 (by decide)).trans h18
      have f152 : ac.tmps.getD 152 undef = .bool false := hu 152 (by decide)
      go_simp
    · refine Oo.on (by decide) (fun v w h => h) (Oo.is (.pointer (some ⟨bf, 4, none⟩)) (fun d hd w => by cases hd; exact rfl) fun ac wd hc hp hu hr => ?_)
      have f14 := (hp 14 (by decide)).trans h14
      have f152 : ac.tmps.getD 152 undef = .bool false := hu 152 (by decide)
      go_simp
    · refine Oo.on (by decide) (fun v w h => h) (Oo.is (.pointer (some ⟨bf, 4 + k, none⟩)) (fun d hd w => by cases hd; exact rfl) fun ac wd hc hp hu hr => ?_)
      have f152 : ac.tmps.getD 152 undef = .bool false := hu 152 (by decide)
      have f153 : ac.tmps.getD 153 undef = .int .i64 (k : Int) := hu 153 (by decide)
      have f154 : ac.tmps.getD 154 undef = .pointer (some ⟨bf, 4, none⟩) := hu 154 (by decide)
      go_simp
    · refine Oo.on (by decide) (fun v w h => h) (Oo.is (.int .i64 ((fl (sh a)) (4 + k))) (fun d hd w => by cases hd; exact rfl) fun ac wd hc hp hu hr => ?_)
      have f152 : ac.tmps.getD 152 undef = .bool false := hu 152 (by decide)
      have f155 : ac.tmps.getD 155 undef = .pointer (some ⟨bf, 4 + k, none⟩) := hu 155 (by decide)
      have qf := (hc.block _ s_f List.not_mem_nil).trans g_f
      have gX := vw_get (fl (sh a)) (k := 4 + k) (by omega)
      go_simp
    · refine Oo.on (by decide) (fun v w h => h) (Oo.is (.int .i64 (k : Int)) (fun d hd w => by cases hd; exact rfl) fun ac wd hc hp hu hr => ?_)
      have f18 := (hp 18 (by decide)).trans h18
      have f152 : ac.tmps.getD 152 undef = .bool false := hu 152 (by decide)
      go_simp
    · refine Oo.on (by decide) (fun v w h => h) (Oo.is (.pointer (some ⟨w.heap.size, 4, none⟩)) (fun d hd w => by cases hd; exact rfl) fun ac wd hc hp hu hr => ?_)
      have f5 := (hp 5 (by decide)).trans h5
      have f152 : ac.tmps.getD 152 undef = .bool false := hu 152 (by decide)
      go_simp
    · refine Oo.on (by decide) (fun v w h => h) (Oo.is (.pointer (some ⟨w.heap.size, 4 + k, none⟩)) (fun d hd w => by cases hd; exact rfl) fun ac wd hc hp hu hr => ?_)
      have f152 : ac.tmps.getD 152 undef = .bool false := hu 152 (by decide)
      have f157 : ac.tmps.getD 157 undef = .int .i64 (k : Int) := hu 157 (by decide)
      have f158 : ac.tmps.getD 158 undef = .pointer (some ⟨w.heap.size, 4, none⟩) := hu 158 (by decide)
      go_simp
    · refine Oo.on (by decide) (fun v w h => h) (Oo.is (.int .i64 (a (4 + k))) (fun d hd w => by cases hd; exact rfl) fun ac wd hc hp hu hr => ?_)
      have f152 : ac.tmps.getD 152 undef = .bool false := hu 152 (by decide)
      have f159 : ac.tmps.getD 159 undef = .pointer (some ⟨w.heap.size, 4 + k, none⟩) := hu 159 (by decide)
      have qa := (hc.block _ s_a List.not_mem_nil).trans g_a
      have gX := vw_get a (k := 4 + k) (by omega)
      go_simp
    · refine Oo.on (by decide) (fun v w h => h) (Oo.is (.bool false) (fun d hd w => by cases hd; exact rfl) fun ac wd hc hp hu hr => ?_)
      have f152 : ac.tmps.getD 152 undef = .bool false := hu 152 (by decide)
      have f156 : ac.tmps.getD 156 undef = .int .i64 ((fl (sh a)) (4 + k)) := hu 156 (by decide)
      have f160 : ac.tmps.getD 160 undef = .int .i64 (a (4 + k)) := hu 160 (by decide)
      go_simp
    · refine Oo.is (.bool false) (fun d hd w => by cases hd; exact rfl) fun ac wd hc hp hu hr => ?_
      have f152 : ac.tmps.getD 152 undef = .bool false := hu 152 (by decide)
      have f161 : ac.tmps.getD 161 undef = .bool false := hu 161 (by decide)
      go_simp
    · refine Oo.is (.bool false) (fun d hd w => by cases hd; exact rfl) fun ac wd hc hp hu hr => ?_
      have f162 : ac.tmps.getD 162 undef = .bool false := hu 162 (by decide)
      go_simp
    · refine Oo.on (by decide) (fun v w h => h) (Oo.is (.int .i64 (k : Int)) (fun d hd w => by cases hd; exact rfl) fun ac wd hc hp hu hr => ?_)
      have f18 := (hp 18 (by decide)).trans h18
      have f163 : ac.tmps.getD 163 undef = .bool false := hu 163 (by decide)
      go_simp
    · refine Oo.on (by decide) (fun v w h => h) (Oo.is (.pointer (some ⟨bm, 0, none⟩)) (fun d hd w => by cases hd; exact rfl) fun ac wd hc hp hu hr => ?_)
      have f16 := (hp 16 (by decide)).trans h16
      have f163 : ac.tmps.getD 163 undef = .bool false := hu 163 (by decide)
      go_simp
    · refine Oo.on (by decide) (fun v w h => h) (Oo.is (.pointer (some ⟨bm, k, none⟩)) (fun d hd w => by cases hd; exact rfl) fun ac wd hc hp hu hr => ?_)
      have f163 : ac.tmps.getD 163 undef = .bool false := hu 163 (by decide)
      have f164 : ac.tmps.getD 164 undef = .int .i64 (k : Int) := hu 164 (by decide)
      have f165 : ac.tmps.getD 165 undef = .pointer (some ⟨bm, 0, none⟩) := hu 165 (by decide)
      go_simp
    · refine Oo.on (by decide) (fun v w h => h) (Oo.is (.int .i64 ((mpK a 4) (k))) (fun d hd w => by cases hd; exact rfl) fun ac wd hc hp hu hr => ?_)
      have f163 : ac.tmps.getD 163 undef = .bool false := hu 163 (by decide)
      have f166 : ac.tmps.getD 166 undef = .pointer (some ⟨bm, k, none⟩) := hu 166 (by decide)
      have qm := (hc.block _ s_m List.not_mem_nil).trans g_m
      have gX := vw_get (mpK a 4) (k := k) (by omega)
      go_simp
    · refine Oo.on (by decide) (fun v w h => h) (Oo.is (.int .i64 (k : Int)) (fun d hd w => by cases hd; exact rfl) fun ac wd hc hp hu hr => ?_)
      have f18 := (hp 18 (by decide)).trans h18
      have f163 : ac.tmps.getD 163 undef = .bool false := hu 163 (by decide)
      go_simp
    · refine Oo.on (by decide) (fun v w h => h) (Oo.is (.pointer (some ⟨w.heap.size, 0, none⟩)) (fun d hd w => by cases hd; exact rfl) fun ac wd hc hp hu hr => ?_)
      have f5 := (hp 5 (by decide)).trans h5
      have f163 : ac.tmps.getD 163 undef = .bool false := hu 163 (by decide)
      go_simp
    · refine Oo.on (by decide) (fun v w h => h) (Oo.is (.pointer (some ⟨w.heap.size, k, none⟩)) (fun d hd w => by cases hd; exact rfl) fun ac wd hc hp hu hr => ?_)
      have f163 : ac.tmps.getD 163 undef = .bool false := hu 163 (by decide)
      have f168 : ac.tmps.getD 168 undef = .int .i64 (k : Int) := hu 168 (by decide)
      have f169 : ac.tmps.getD 169 undef = .pointer (some ⟨w.heap.size, 0, none⟩) := hu 169 (by decide)
      go_simp
    · refine Oo.on (by decide) (fun v w h => h) (Oo.is (.int .i64 (a (k))) (fun d hd w => by cases hd; exact rfl) fun ac wd hc hp hu hr => ?_)
      have f163 : ac.tmps.getD 163 undef = .bool false := hu 163 (by decide)
      have f170 : ac.tmps.getD 170 undef = .pointer (some ⟨w.heap.size, k, none⟩) := hu 170 (by decide)
      have qa := (hc.block _ s_a List.not_mem_nil).trans g_a
      have gX := vw_get a (k := k) (by omega)
      go_simp
    · refine Oo.on (by decide) (fun v w h => h) (Oo.is (.int .i64 (k : Int)) (fun d hd w => by cases hd; exact rfl) fun ac wd hc hp hu hr => ?_)
      have f18 := (hp 18 (by decide)).trans h18
      have f163 : ac.tmps.getD 163 undef = .bool false := hu 163 (by decide)
      go_simp
    · refine Oo.on (by decide) (fun v w h => h) (Oo.is (.int .i64 (bits .xor .i64 (a (k)) ((k : Int)))) (fun d hd w => by cases hd; exact rfl) fun ac wd hc hp hu hr => ?_)
      have f163 : ac.tmps.getD 163 undef = .bool false := hu 163 (by decide)
      have f171 : ac.tmps.getD 171 undef = .int .i64 (a (k)) := hu 171 (by decide)
      have f172 : ac.tmps.getD 172 undef = .int .i64 (k : Int) := hu 172 (by decide)
      go_simp
    · refine Oo.on (by decide) (fun v w h => h) (Oo.is (.bool false) (fun d hd w => by cases hd; exact rfl) fun ac wd hc hp hu hr => ?_)
      have f163 : ac.tmps.getD 163 undef = .bool false := hu 163 (by decide)
      have f167 : ac.tmps.getD 167 undef = .int .i64 ((mpK a 4) (k)) := hu 167 (by decide)
      have f173 : ac.tmps.getD 173 undef = .int .i64 (bits .xor .i64 (a (k)) ((k : Int))) := hu 173 (by decide)
      go_simp
    · refine Oo.is (.bool false) (fun d hd w => by cases hd; exact rfl) fun ac wd hc hp hu hr => ?_
      have f163 : ac.tmps.getD 163 undef = .bool false := hu 163 (by decide)
      have f174 : ac.tmps.getD 174 undef = .bool false := hu 174 (by decide)
      go_simp
    · refine Oo.is (.bool false) (fun d hd w => by cases hd; exact rfl) fun ac wd hc hp hu hr => ?_
      have f175 : ac.tmps.getD 175 undef = .bool false := hu 175 (by decide)
      go_simp
    · refine Oo.on (by decide) (fun v w h => h) (Oo.is (.int .i64 (k : Int)) (fun d hd w => by cases hd; exact rfl) fun ac wd hc hp hu hr => ?_)
      have f18 := (hp 18 (by decide)).trans h18
      have f176 : ac.tmps.getD 176 undef = .bool false := hu 176 (by decide)
      go_simp
    · refine Oo.on (by decide) (fun v w h => h) (Oo.is (.pointer (some ⟨bm, 4, none⟩)) (fun d hd w => by cases hd; exact rfl) fun ac wd hc hp hu hr => ?_)
      have f16 := (hp 16 (by decide)).trans h16
      have f176 : ac.tmps.getD 176 undef = .bool false := hu 176 (by decide)
      go_simp
    · refine Oo.on (by decide) (fun v w h => h) (Oo.is (.pointer (some ⟨bm, 4 + k, none⟩)) (fun d hd w => by cases hd; exact rfl) fun ac wd hc hp hu hr => ?_)
      have f176 : ac.tmps.getD 176 undef = .bool false := hu 176 (by decide)
      have f177 : ac.tmps.getD 177 undef = .int .i64 (k : Int) := hu 177 (by decide)
      have f178 : ac.tmps.getD 178 undef = .pointer (some ⟨bm, 4, none⟩) := hu 178 (by decide)
      go_simp
    · refine Oo.on (by decide) (fun v w h => h) (Oo.is (.int .i64 ((mpK a 4) (4 + k))) (fun d hd w => by cases hd; exact rfl) fun ac wd hc hp hu hr => ?_)
      have f176 : ac.tmps.getD 176 undef = .bool false := hu 176 (by decide)
      have f179 : ac.tmps.getD 179 undef = .pointer (some ⟨bm, 4 + k, none⟩) := hu 179 (by decide)
      have qm := (hc.block _ s_m List.not_mem_nil).trans g_m
      have gX := vw_get (mpK a 4) (k := 4 + k) (by omega)
      go_simp
    · refine Oo.on (by decide) (fun v w h => h) (Oo.is (.int .i64 (k : Int)) (fun d hd w => by cases hd; exact rfl) fun ac wd hc hp hu hr => ?_)
      have f18 := (hp 18 (by decide)).trans h18
      have f176 : ac.tmps.getD 176 undef = .bool false := hu 176 (by decide)
      go_simp
    · refine Oo.on (by decide) (fun v w h => h) (Oo.is (.pointer (some ⟨w.heap.size, 4, none⟩)) (fun d hd w => by cases hd; exact rfl) fun ac wd hc hp hu hr => ?_)
      have f5 := (hp 5 (by decide)).trans h5
      have f176 : ac.tmps.getD 176 undef = .bool false := hu 176 (by decide)
      go_simp
    · refine Oo.on (by decide) (fun v w h => h) (Oo.is (.pointer (some ⟨w.heap.size, 4 + k, none⟩)) (fun d hd w => by cases hd; exact rfl) fun ac wd hc hp hu hr => ?_)
      have f176 : ac.tmps.getD 176 undef = .bool false := hu 176 (by decide)
      have f181 : ac.tmps.getD 181 undef = .int .i64 (k : Int) := hu 181 (by decide)
      have f182 : ac.tmps.getD 182 undef = .pointer (some ⟨w.heap.size, 4, none⟩) := hu 182 (by decide)
      go_simp
    · refine Oo.on (by decide) (fun v w h => h) (Oo.is (.int .i64 (a (4 + k))) (fun d hd w => by cases hd; exact rfl) fun ac wd hc hp hu hr => ?_)
      have f176 : ac.tmps.getD 176 undef = .bool false := hu 176 (by decide)
      have f183 : ac.tmps.getD 183 undef = .pointer (some ⟨w.heap.size, 4 + k, none⟩) := hu 183 (by decide)
      have qa := (hc.block _ s_a List.not_mem_nil).trans g_a
      have gX := vw_get a (k := 4 + k) (by omega)
      go_simp
    · refine Oo.on (by decide) (fun v w h => h) (Oo.is (.int .i64 (k : Int)) (fun d hd w => by cases hd; exact rfl) fun ac wd hc hp hu hr => ?_)
      have f18 := (hp 18 (by decide)).trans h18
      have f176 : ac.tmps.getD 176 undef = .bool false := hu 176 (by decide)
      go_simp
    · refine Oo.on (by decide) (fun v w h => h) (Oo.is (.int .i64 (bits .xor .i64 (a (4 + k)) ((k : Int)))) (fun d hd w => by cases hd; exact rfl) fun ac wd hc hp hu hr => ?_)
      have f176 : ac.tmps.getD 176 undef = .bool false := hu 176 (by decide)
      have f184 : ac.tmps.getD 184 undef = .int .i64 (a (4 + k)) := hu 184 (by decide)
      have f185 : ac.tmps.getD 185 undef = .int .i64 (k : Int) := hu 185 (by decide)
      go_simp
    · refine Oo.on (by decide) (fun v w h => h) (Oo.is (.bool false) (fun d hd w => by cases hd; exact rfl) fun ac wd hc hp hu hr => ?_)
      have f176 : ac.tmps.getD 176 undef = .bool false := hu 176 (by decide)
      have f180 : ac.tmps.getD 180 undef = .int .i64 ((mpK a 4) (4 + k)) := hu 180 (by decide)
      have f186 : ac.tmps.getD 186 undef = .int .i64 (bits .xor .i64 (a (4 + k)) ((k : Int))) := hu 186 (by decide)
      go_simp
    · refine Oo.is (.bool false) (fun d hd w => by cases hd; exact rfl) fun ac wd hc hp hu hr => ?_
      have f176 : ac.tmps.getD 176 undef = .bool false := hu 176 (by decide)
      have f187 : ac.tmps.getD 187 undef = .bool false := hu 187 (by decide)
      go_simp
    intro t14 w14 P14
    replace hN := P14.size.trans hN
    replace h2 := (P14.kept 2 (by kernel_rfl)).trans h2
    replace h3 := (P14.kept 3 (by kernel_rfl)).trans h3
    replace h4 := (P14.kept 4 (by kernel_rfl)).trans h4
    replace h5 := (P14.kept 5 (by kernel_rfl)).trans h5
    replace h6 := (P14.kept 6 (by kernel_rfl)).trans h6
    replace h11 := (P14.kept 11 (by kernel_rfl)).trans h11
    replace h12 := (P14.kept 12 (by kernel_rfl)).trans h12
    replace h13 := (P14.kept 13 (by kernel_rfl)).trans h13
    replace h14 := (P14.kept 14 (by kernel_rfl)).trans h14
    replace h15 := (P14.kept 15 (by kernel_rfl)).trans h15
    replace h16 := (P14.kept 16 (by kernel_rfl)).trans h16
    replace h17 := (P14.kept 17 (by kernel_rfl)).trans h17
    replace h18 := (P14.kept 18 (by kernel_rfl)).trans h18
    replace h19 := (P14.kept 19 (by kernel_rfl)).trans h19
    replace h20 := (P14.kept 20 (by kernel_rfl)).trans h20
    have h188 : t14.getD 188 undef = .bool false := P14.tab 188
    replace g_a := (P14.ch.block _ s_a List.not_mem_nil).trans g_a
    replace g_b := (P14.ch.block _ s_b List.not_mem_nil).trans g_b
    replace g_j := (P14.ch.block _ s_j List.not_mem_nil).trans g_j
    replace g_f := (P14.ch.block _ s_f List.not_mem_nil).trans g_f
    replace g_x := (P14.ch.block _ s_x List.not_mem_nil).trans g_x
    replace g_m := (P14.ch.block _ s_m List.not_mem_nil).trans g_m
    replace s_a := Nat.lt_of_lt_of_le s_a P14.ch.size
    replace s_b := Nat.lt_of_lt_of_le s_b P14.ch.size
    replace s_j := Nat.lt_of_lt_of_le s_j P14.ch.size
    replace s_f := Nat.lt_of_lt_of_le s_f P14.ch.size
    replace s_x := Nat.lt_of_lt_of_le s_x P14.ch.size
    replace s_m := Nat.lt_of_lt_of_le s_m P14.ch.size
    replace hB := P14.ch.below hB.drew hB.size (fun b hb => by cases hb)
    clear P14
    clear e0 e1 e2 e3 e4 e5
    refine wp_cond_false h188 ?_
    clear h188
    refine wp_skip ?_
    refine wp_seq ?_
    refine wp_seqr [(21, .val (.int .i64 0)), (22, .val (.int .i64 0))] [] [] [⟨none, [], [], [], none⟩, ⟨none, [], [], [], none⟩] hN (by kernel_rfl) (by kernel_rfl) rfl rfl List.nodup_nil _ (fun x hx => by cases hx) ?_ ?_
    refine ⟨?_, ?_, trivial⟩
    · refine Oo.is (.int .i64 0) (fun d hd w => by cases hd; exact rfl) fun ac wd hc hp hu hr => ?_
      go_simp
    · refine Oo.is (.int .i64 0) (fun d hd w => by cases hd; exact rfl) fun ac wd hc hp hu hr => ?_
      go_simp
    intro t15 w15 P15
    replace hN := P15.size.trans hN
    replace h2 := (P15.kept 2 (by kernel_rfl)).trans h2
    replace h3 := (P15.kept 3 (by kernel_rfl)).trans h3
    replace h4 := (P15.kept 4 (by kernel_rfl)).trans h4
    replace h5 := (P15.kept 5 (by kernel_rfl)).trans h5
    replace h6 := (P15.kept 6 (by kernel_rfl)).trans h6
    replace h11 := (P15.kept 11 (by kernel_rfl)).trans h11
    replace h12 := (P15.kept 12 (by kernel_rfl)).trans h12
    replace h13 := (P15.kept 13 (by kernel_rfl)).trans h13
    replace h14 := (P15.kept 14 (by kernel_rfl)).trans h14
    replace h15 := (P15.kept 15 (by kernel_rfl)).trans h15
    replace h16 := (P15.kept 16 (by kernel_rfl)).trans h16
    replace h17 := (P15.kept 17 (by kernel_rfl)).trans h17
    replace h18 := (P15.kept 18 (by kernel_rfl)).trans h18
    replace h19 := (P15.kept 19 (by kernel_rfl)).trans h19
    replace h20 := (P15.kept 20 (by kernel_rfl)).trans h20
    have h21 : t15.getD 21 undef = .int .i64 0 := P15.tab 21
    have h22 : t15.getD 22 undef = .int .i64 0 := P15.tab 22
    replace g_a := (P15.ch.block _ s_a List.not_mem_nil).trans g_a
    replace g_b := (P15.ch.block _ s_b List.not_mem_nil).trans g_b
    replace g_j := (P15.ch.block _ s_j List.not_mem_nil).trans g_j
    replace g_f := (P15.ch.block _ s_f List.not_mem_nil).trans g_f
    replace g_x := (P15.ch.block _ s_x List.not_mem_nil).trans g_x
    replace g_m := (P15.ch.block _ s_m List.not_mem_nil).trans g_m
    replace s_a := Nat.lt_of_lt_of_le s_a P15.ch.size
    replace s_b := Nat.lt_of_lt_of_le s_b P15.ch.size
    replace s_j := Nat.lt_of_lt_of_le s_j P15.ch.size
    replace s_f := Nat.lt_of_lt_of_le s_f P15.ch.size
    replace s_x := Nat.lt_of_lt_of_le s_x P15.ch.size
    replace s_m := Nat.lt_of_lt_of_le s_m P15.ch.size
    replace hB := P15.ch.below hB hB.size (fun b hb => by cases hb)
    clear P15
    refine wp_seq ?_
    refine wp_seq ?_
    refine wp_seqr [(189, .val (.bool (inP loc tt))), (190, .val (.bool (inP loc tt))), (191, .opt (inP loc tt) (.int .i64 (k : Int))), (192, .opt (inP loc tt) (.int .i64 loc)), (193, .opt (inP loc tt) (.bool (decide ((k : Int) = loc)))), (194, .val (.bool ((inP loc tt) && (decide ((k : Int) = loc)))))] [] [] [⟨none, [17], [], [], none⟩, ⟨none, [], [189], [], none⟩, ⟨some (190, true), [18], [190], [], none⟩, ⟨some (190, true), [2], [190], [], none⟩, ⟨some (190, true), [], [190, 191, 192], [], none⟩, ⟨none, [], [190, 193], [], none⟩] hN (by kernel_rfl) (by kernel_rfl) rfl rfl List.nodup_nil _ (fun x hx => by cases hx) ?_ ?_
    refine ⟨?_, ?_, ?_, ?_, ?_, ?_, trivial⟩
    · refine Oo.is (.bool (inP loc tt)) (fun d hd w => by cases hd; exact rfl) fun ac wd hc hp hu hr => ?_
      have f17 := (hp 17 (by decide)).trans h17
      go_simp
    · refine Oo.is (.bool (inP loc tt)) (fun d hd w => by cases hd; exact rfl) fun ac wd hc hp hu hr => ?_
      have f189 : ac.tmps.getD 189 undef = .bool (inP loc tt) := hu 189 (by decide)
      go_simp
    · refine Oo.maybe (c := inP loc tt) (by decide) (fun v w h => h) (fun hG => Oo.is (.int .i64 (k : Int)) (fun d hd w => by cases hd; exact fun _ => rfl) fun ac wd hc hp hu hr => ?_) (fun hne e he w => by cases he; exact fun hh => absurd hh hne)
      have f18 := (hp 18 (by decide)).trans h18
      have f190 : ac.tmps.getD 190 undef = .bool (inP loc tt) := hu 190 (by decide)
      go_simp
    · refine Oo.maybe (c := inP loc tt) (by decide) (fun v w h => h) (fun hG => Oo.is (.int .i64 loc) (fun d hd w => by cases hd; exact fun _ => rfl) fun ac wd hc hp hu hr => ?_) (fun hne e he w => by cases he; exact fun hh => absurd hh hne)
      have f2 := (hp 2 (by decide)).trans h2
      have f190 : ac.tmps.getD 190 undef = .bool (inP loc tt) := hu 190 (by decide)
      go_simp
    · refine Oo.maybe (c := inP loc tt) (by decide) (fun v w h => h) (fun hG => Oo.is (.bool (decide ((k : Int) = loc))) (fun d hd w => by cases hd; exact fun _ => rfl) fun ac wd hc hp hu hr => ?_) (fun hne e he w => by cases he; exact fun hh => absurd hh hne)
      have f190 : ac.tmps.getD 190 undef = .bool (inP loc tt) := hu 190 (by decide)
      have f191 : ac.tmps.getD 191 undef = .int .i64 (k : Int) := hu 191 (by decide) hG
      have f192 : ac.tmps.getD 192 undef = .int .i64 loc := hu 192 (by decide) hG
      go_simp
      try rfl
    · refine Oo.is (.bool ((inP loc tt) && (decide ((k : Int) = loc)))) (fun d hd w => by cases hd; exact rfl) fun ac wd hc hp hu hr => ?_
      have f190 : ac.tmps.getD 190 undef = .bool (inP loc tt) := hu 190 (by decide)
      have f193 : (inP loc tt) = true → ac.tmps.getD 193 undef = .bool (decide ((k : Int) = loc)) := hu 193 (by decide)
      rcases Bool.eq_false_or_eq_true (inP loc tt) with hG | hG
      · have f193 := f193 hG; rw [hG] at f190 ⊢; go_simp
      · rw [hG] at f190 ⊢; go_simp
    intro t16 w16 P16
    replace hN := P16.size.trans hN
    replace h2 := (P16.kept 2 (by kernel_rfl)).trans h2
    replace h3 := (P16.kept 3 (by kernel_rfl)).trans h3
    replace h4 := (P16.kept 4 (by kernel_rfl)).trans h4
    replace h5 := (P16.kept 5 (by kernel_rfl)).trans h5
    replace h6 := (P16.kept 6 (by kernel_rfl)).trans h6
    replace h11 := (P16.kept 11 (by kernel_rfl)).trans h11
    replace h12 := (P16.kept 12 (by kernel_rfl)).trans h12
    replace h13 := (P16.kept 13 (by kernel_rfl)).trans h13
    replace h14 := (P16.kept 14 (by kernel_rfl)).trans h14
    replace h15 := (P16.kept 15 (by kernel_rfl)).trans h15
    replace h16 := (P16.kept 16 (by kernel_rfl)).trans h16
    replace h17 := (P16.kept 17 (by kernel_rfl)).trans h17
    replace h18 := (P16.kept 18 (by kernel_rfl)).trans h18
    replace h19 := (P16.kept 19 (by kernel_rfl)).trans h19
    replace h20 := (P16.kept 20 (by kernel_rfl)).trans h20
    replace h21 := (P16.kept 21 (by kernel_rfl)).trans h21
    replace h22 := (P16.kept 22 (by kernel_rfl)).trans h22
    have h194 : t16.getD 194 undef = .bool ((inP loc tt) && (decide ((k : Int) = loc))) := P16.tab 194
    replace g_a := (P16.ch.block _ s_a List.not_mem_nil).trans g_a
    replace g_b := (P16.ch.block _ s_b List.not_mem_nil).trans g_b
    replace g_j := (P16.ch.block _ s_j List.not_mem_nil).trans g_j
    replace g_f := (P16.ch.block _ s_f List.not_mem_nil).trans g_f
    replace g_x := (P16.ch.block _ s_x List.not_mem_nil).trans g_x
    replace g_m := (P16.ch.block _ s_m List.not_mem_nil).trans g_m
    replace s_a := Nat.lt_of_lt_of_le s_a P16.ch.size
    replace s_b := Nat.lt_of_lt_of_le s_b P16.ch.size
    replace s_j := Nat.lt_of_lt_of_le s_j P16.ch.size
    replace s_f := Nat.lt_of_lt_of_le s_f P16.ch.size
    replace s_x := Nat.lt_of_lt_of_le s_x P16.ch.size
    replace s_m := Nat.lt_of_lt_of_le s_m P16.ch.size
    replace hB := P16.ch.below hB hB.size (fun b hb => by cases hb)
    clear P16
    refine wp_mono (Q := fun e ac w' => e = .normal ∧ ∃ (t : Array Value), ac = ⟨t, []⟩ ∧ t.size = 240 ∧ t.getD 2 undef = .int .i64 loc ∧ t.getD 3 undef = .int .i64 tt ∧ t.getD 4 undef = .bool pln ∧ t.getD 5 undef = .pointer (some ⟨w.heap.size, 0, none⟩) ∧ t.getD 6 undef = .pointer (some ⟨w.heap.size + 1, 0, none⟩) ∧ t.getD 11 undef = .bool ((((mayK a k) && (decide (a (k) ≥ 0))) && (decide (a (4 + k) ≥ 0))) && (decide (a (k) ≤ a (4 + k)))) ∧ t.getD 12 undef = .bool (((leK a b k) && (decide (a (k) ≤ b (k)))) && (decide (a (4 + k) ≤ b (4 + k)))) ∧ t.getD 13 undef = .pointer (some ⟨bj, 0, none⟩) ∧ t.getD 14 undef = .pointer (some ⟨bf, 0, none⟩) ∧ t.getD 15 undef = .pointer (some ⟨bx, 0, none⟩) ∧ t.getD 16 undef = .pointer (some ⟨bm, 0, none⟩) ∧ t.getD 17 undef = .bool (inP loc tt) ∧ t.getD 18 undef = .int .i64 (k : Int) ∧ t.getD 19 undef = .int .i64 (mx (a k) (b k)) ∧ t.getD 20 undef = .int .i64 (mx (a (4 + k)) (b (4 + k))) ∧ t.getD 21 undef = .int .i64 0 ∧ t.getD 22 undef = .int .i64 (atR loc tt (k : Int)) ∧ Below w.heap.size w w' ∧ blkAt w' w.heap.size = some (.cells (vw a) 24 (0, 0)) ∧ w.heap.size < w'.heap.size ∧ blkAt w' (w.heap.size + 1) = some (.cells (vw b) 24 (0, 0)) ∧ w.heap.size + 1 < w'.heap.size ∧ blkAt w' bj = some (.cells (vw (jn a b)) 24 (0, 0)) ∧ bj < w'.heap.size ∧ blkAt w' bf = some (.cells (vw (fl (sh a))) 24 (0, 0)) ∧ bf < w'.heap.size ∧ blkAt w' bx = some (.cells (vw (atF loc tt pln)) 24 (0, 0)) ∧ bx < w'.heap.size ∧ blkAt w' bm = some (.cells (vw (mpK a 4)) 24 (0, 0)) ∧ bm < w'.heap.size) ?_ ?_
    · by_cases hc : (inP loc tt && decide ((k : Int) = loc)) = true
      · rw [show ((inP loc tt) && (decide ((k : Int) = loc))) = true from hc] at h194
        refine wp_cond_true h194 ?_
        refine wp_seqr [(195, .val (.int .i64 tt)), (22, .val (.int .i64 tt))] [] [] [⟨none, [3], [], [], none⟩, ⟨none, [], [195], [], none⟩] hN (by kernel_rfl) (by kernel_rfl) rfl rfl List.nodup_nil _ (fun x hx => by cases hx) ?_ ?_
        refine ⟨?_, ?_, trivial⟩
        · refine Oo.is (.int .i64 tt) (fun d hd w => by cases hd; exact rfl) fun ac wd hc hp hu hr => ?_
          have f3 := (hp 3 (by decide)).trans h3
          go_simp
        · refine Oo.is (.int .i64 tt) (fun d hd w => by cases hd; exact rfl) fun ac wd hc hp hu hr => ?_
          have f195 : ac.tmps.getD 195 undef = .int .i64 tt := hu 195 (by decide)
          go_simp
        intro t17 w17 P17
        replace hN := P17.size.trans hN
        replace h2 := (P17.kept 2 (by kernel_rfl)).trans h2
        replace h3 := (P17.kept 3 (by kernel_rfl)).trans h3
        replace h4 := (P17.kept 4 (by kernel_rfl)).trans h4
        replace h5 := (P17.kept 5 (by kernel_rfl)).trans h5
        replace h6 := (P17.kept 6 (by kernel_rfl)).trans h6
        replace h11 := (P17.kept 11 (by kernel_rfl)).trans h11
        replace h12 := (P17.kept 12 (by kernel_rfl)).trans h12
        replace h13 := (P17.kept 13 (by kernel_rfl)).trans h13
        replace h14 := (P17.kept 14 (by kernel_rfl)).trans h14
        replace h15 := (P17.kept 15 (by kernel_rfl)).trans h15
        replace h16 := (P17.kept 16 (by kernel_rfl)).trans h16
        replace h17 := (P17.kept 17 (by kernel_rfl)).trans h17
        replace h18 := (P17.kept 18 (by kernel_rfl)).trans h18
        replace h19 := (P17.kept 19 (by kernel_rfl)).trans h19
        replace h20 := (P17.kept 20 (by kernel_rfl)).trans h20
        replace h21 := (P17.kept 21 (by kernel_rfl)).trans h21
        have h22 : t17.getD 22 undef = .int .i64 tt := P17.tab 22
        replace g_a := (P17.ch.block _ s_a List.not_mem_nil).trans g_a
        replace g_b := (P17.ch.block _ s_b List.not_mem_nil).trans g_b
        replace g_j := (P17.ch.block _ s_j List.not_mem_nil).trans g_j
        replace g_f := (P17.ch.block _ s_f List.not_mem_nil).trans g_f
        replace g_x := (P17.ch.block _ s_x List.not_mem_nil).trans g_x
        replace g_m := (P17.ch.block _ s_m List.not_mem_nil).trans g_m
        replace s_a := Nat.lt_of_lt_of_le s_a P17.ch.size
        replace s_b := Nat.lt_of_lt_of_le s_b P17.ch.size
        replace s_j := Nat.lt_of_lt_of_le s_j P17.ch.size
        replace s_f := Nat.lt_of_lt_of_le s_f P17.ch.size
        replace s_x := Nat.lt_of_lt_of_le s_x P17.ch.size
        replace s_m := Nat.lt_of_lt_of_le s_m P17.ch.size
        replace hB := P17.ch.below hB hB.size (fun b hb => by cases hb)
        clear P17
        exact ⟨rfl, _, rfl, hN, h2, h3, h4, h5, h6, h11, h12, h13, h14, h15, h16, h17, h18, h19, h20, h21, (h22.trans (by rw [atR_yes hc])), hB, g_a, s_a, g_b, s_b, g_j, s_j, g_f, s_f, g_x, s_x, g_m, s_m⟩
      · rw [show ((inP loc tt) && (decide ((k : Int) = loc))) = false from Bool.eq_false_iff.2 hc] at h194
        refine wp_cond_false h194 ?_
        refine wp_skip ?_
        exact ⟨rfl, _, rfl, hN, h2, h3, h4, h5, h6, h11, h12, h13, h14, h15, h16, h17, h18, h19, h20, h21, (h22.trans (by rw [atR_no hkb hc])), hB, g_a, s_a, g_b, s_b, g_j, s_j, g_f, s_f, g_x, s_x, g_m, s_m⟩
    clear h2 h3 h4 h5 h6 h11 h12 h13 h14 h15 h16 h17 h18 h19 h20 h21 h22 hN hB g_a s_a g_b s_b g_j s_j g_f s_f g_x s_x g_m s_m h194
    rintro e ac w18 ⟨rfl, t18, rfl, hN, h2, h3, h4, h5, h6, h11, h12, h13, h14, h15, h16, h17, h18, h19, h20, h21, h22, hB, g_a, s_a, g_b, s_b, g_j, s_j, g_f, s_f, g_x, s_x, g_m, s_m⟩
    refine wp_seq ?_
    refine wp_seq ?_
    refine wp_seqr [(196, .val (.bool (inP loc tt))), (197, .val (.bool (inP loc tt))), (198, .opt (inP loc tt) (.int .i64 (k : Int))), (199, .opt (inP loc tt) (.int .i64 loc)), (200, .opt (inP loc tt) (.bool (decide ((k : Int) = loc)))), (201, .val (.bool ((inP loc tt) && (decide ((k : Int) = loc))))), (202, .val (.bool ((inP loc tt) && (decide ((k : Int) = loc))))), (203, .opt ((inP loc tt) && (decide ((k : Int) = loc))) (.bool pln)), (204, .val (.bool (((inP loc tt) && (decide ((k : Int) = loc))) && pln)))] [] [] [⟨none, [17], [], [], none⟩, ⟨none, [], [196], [], none⟩, ⟨some (197, true), [18], [197], [], none⟩, ⟨some (197, true), [2], [197], [], none⟩, ⟨some (197, true), [], [197, 198, 199], [], none⟩, ⟨none, [], [197, 200], [], none⟩, ⟨none, [], [201], [], none⟩, ⟨some (202, true), [4], [202], [], none⟩, ⟨none, [], [202, 203], [], none⟩] hN (by kernel_rfl) (by kernel_rfl) rfl rfl List.nodup_nil _ (fun x hx => by cases hx) ?_ ?_
    refine ⟨?_, ?_, ?_, ?_, ?_, ?_, ?_, ?_, ?_, trivial⟩
    · refine Oo.is (.bool (inP loc tt)) (fun d hd w => by cases hd; exact rfl) fun ac wd hc hp hu hr => ?_
      have f17 := (hp 17 (by decide)).trans h17
      go_simp
    · refine Oo.is (.bool (inP loc tt)) (fun d hd w => by cases hd; exact rfl) fun ac wd hc hp hu hr => ?_
      have f196 : ac.tmps.getD 196 undef = .bool (inP loc tt) := hu 196 (by decide)
      go_simp
    · refine Oo.maybe (c := inP loc tt) (by decide) (fun v w h => h) (fun hG => Oo.is (.int .i64 (k : Int)) (fun d hd w => by cases hd; exact fun _ => rfl) fun ac wd hc hp hu hr => ?_) (fun hne e he w => by cases he; exact fun hh => absurd hh hne)
      have f18 := (hp 18 (by decide)).trans h18
      have f197 : ac.tmps.getD 197 undef = .bool (inP loc tt) := hu 197 (by decide)
      go_simp
    · refine Oo.maybe (c := inP loc tt) (by decide) (fun v w h => h) (fun hG => Oo.is (.int .i64 loc) (fun d hd w => by cases hd; exact fun _ => rfl) fun ac wd hc hp hu hr => ?_) (fun hne e he w => by cases he; exact fun hh => absurd hh hne)
      have f2 := (hp 2 (by decide)).trans h2
      have f197 : ac.tmps.getD 197 undef = .bool (inP loc tt) := hu 197 (by decide)
      go_simp
    · refine Oo.maybe (c := inP loc tt) (by decide) (fun v w h => h) (fun hG => Oo.is (.bool (decide ((k : Int) = loc))) (fun d hd w => by cases hd; exact fun _ => rfl) fun ac wd hc hp hu hr => ?_) (fun hne e he w => by cases he; exact fun hh => absurd hh hne)
      have f197 : ac.tmps.getD 197 undef = .bool (inP loc tt) := hu 197 (by decide)
      have f198 : ac.tmps.getD 198 undef = .int .i64 (k : Int) := hu 198 (by decide) hG
      have f199 : ac.tmps.getD 199 undef = .int .i64 loc := hu 199 (by decide) hG
      go_simp
      try rfl
    · refine Oo.is (.bool ((inP loc tt) && (decide ((k : Int) = loc)))) (fun d hd w => by cases hd; exact rfl) fun ac wd hc hp hu hr => ?_
      have f197 : ac.tmps.getD 197 undef = .bool (inP loc tt) := hu 197 (by decide)
      have f200 : (inP loc tt) = true → ac.tmps.getD 200 undef = .bool (decide ((k : Int) = loc)) := hu 200 (by decide)
      rcases Bool.eq_false_or_eq_true (inP loc tt) with hG | hG
      · have f200 := f200 hG; rw [hG] at f197 ⊢; go_simp
      · rw [hG] at f197 ⊢; go_simp
    · refine Oo.is (.bool ((inP loc tt) && (decide ((k : Int) = loc)))) (fun d hd w => by cases hd; exact rfl) fun ac wd hc hp hu hr => ?_
      have f201 : ac.tmps.getD 201 undef = .bool ((inP loc tt) && (decide ((k : Int) = loc))) := hu 201 (by decide)
      go_simp
    · refine Oo.maybe (c := (inP loc tt) && (decide ((k : Int) = loc))) (by decide) (fun v w h => h) (fun hG => Oo.is (.bool pln) (fun d hd w => by cases hd; exact fun _ => rfl) fun ac wd hc hp hu hr => ?_) (fun hne e he w => by cases he; exact fun hh => absurd hh hne)
      have f4 := (hp 4 (by decide)).trans h4
      have f202 : ac.tmps.getD 202 undef = .bool ((inP loc tt) && (decide ((k : Int) = loc))) := hu 202 (by decide)
      go_simp
    · refine Oo.is (.bool (((inP loc tt) && (decide ((k : Int) = loc))) && pln)) (fun d hd w => by cases hd; exact rfl) fun ac wd hc hp hu hr => ?_
      have f202 : ac.tmps.getD 202 undef = .bool ((inP loc tt) && (decide ((k : Int) = loc))) := hu 202 (by decide)
      have f203 : ((inP loc tt) && (decide ((k : Int) = loc))) = true → ac.tmps.getD 203 undef = .bool pln := hu 203 (by decide)
      rcases Bool.eq_false_or_eq_true ((inP loc tt) && (decide ((k : Int) = loc))) with hG | hG
      · have f203 := f203 hG; rw [hG] at f202 ⊢; go_simp
      · rw [hG] at f202 ⊢; go_simp
    intro t19 w19 P19
    replace hN := P19.size.trans hN
    replace h2 := (P19.kept 2 (by kernel_rfl)).trans h2
    replace h3 := (P19.kept 3 (by kernel_rfl)).trans h3
    replace h4 := (P19.kept 4 (by kernel_rfl)).trans h4
    replace h5 := (P19.kept 5 (by kernel_rfl)).trans h5
    replace h6 := (P19.kept 6 (by kernel_rfl)).trans h6
    replace h11 := (P19.kept 11 (by kernel_rfl)).trans h11
    replace h12 := (P19.kept 12 (by kernel_rfl)).trans h12
    replace h13 := (P19.kept 13 (by kernel_rfl)).trans h13
    replace h14 := (P19.kept 14 (by kernel_rfl)).trans h14
    replace h15 := (P19.kept 15 (by kernel_rfl)).trans h15
    replace h16 := (P19.kept 16 (by kernel_rfl)).trans h16
    replace h17 := (P19.kept 17 (by kernel_rfl)).trans h17
    replace h18 := (P19.kept 18 (by kernel_rfl)).trans h18
    replace h19 := (P19.kept 19 (by kernel_rfl)).trans h19
    replace h20 := (P19.kept 20 (by kernel_rfl)).trans h20
    replace h21 := (P19.kept 21 (by kernel_rfl)).trans h21
    replace h22 := (P19.kept 22 (by kernel_rfl)).trans h22
    have h204 : t19.getD 204 undef = .bool (((inP loc tt) && (decide ((k : Int) = loc))) && pln) := P19.tab 204
    replace g_a := (P19.ch.block _ s_a List.not_mem_nil).trans g_a
    replace g_b := (P19.ch.block _ s_b List.not_mem_nil).trans g_b
    replace g_j := (P19.ch.block _ s_j List.not_mem_nil).trans g_j
    replace g_f := (P19.ch.block _ s_f List.not_mem_nil).trans g_f
    replace g_x := (P19.ch.block _ s_x List.not_mem_nil).trans g_x
    replace g_m := (P19.ch.block _ s_m List.not_mem_nil).trans g_m
    replace s_a := Nat.lt_of_lt_of_le s_a P19.ch.size
    replace s_b := Nat.lt_of_lt_of_le s_b P19.ch.size
    replace s_j := Nat.lt_of_lt_of_le s_j P19.ch.size
    replace s_f := Nat.lt_of_lt_of_le s_f P19.ch.size
    replace s_x := Nat.lt_of_lt_of_le s_x P19.ch.size
    replace s_m := Nat.lt_of_lt_of_le s_m P19.ch.size
    replace hB := P19.ch.below hB hB.size (fun b hb => by cases hb)
    clear P19
    refine wp_mono (Q := fun e ac w' => e = .normal ∧ ∃ (t : Array Value), ac = ⟨t, []⟩ ∧ t.size = 240 ∧ t.getD 2 undef = .int .i64 loc ∧ t.getD 3 undef = .int .i64 tt ∧ t.getD 4 undef = .bool pln ∧ t.getD 5 undef = .pointer (some ⟨w.heap.size, 0, none⟩) ∧ t.getD 6 undef = .pointer (some ⟨w.heap.size + 1, 0, none⟩) ∧ t.getD 11 undef = .bool ((((mayK a k) && (decide (a (k) ≥ 0))) && (decide (a (4 + k) ≥ 0))) && (decide (a (k) ≤ a (4 + k)))) ∧ t.getD 12 undef = .bool (((leK a b k) && (decide (a (k) ≤ b (k)))) && (decide (a (4 + k) ≤ b (4 + k)))) ∧ t.getD 13 undef = .pointer (some ⟨bj, 0, none⟩) ∧ t.getD 14 undef = .pointer (some ⟨bf, 0, none⟩) ∧ t.getD 15 undef = .pointer (some ⟨bx, 0, none⟩) ∧ t.getD 16 undef = .pointer (some ⟨bm, 0, none⟩) ∧ t.getD 17 undef = .bool (inP loc tt) ∧ t.getD 18 undef = .int .i64 (k : Int) ∧ t.getD 19 undef = .int .i64 (mx (a k) (b k)) ∧ t.getD 20 undef = .int .i64 (mx (a (4 + k)) (b (4 + k))) ∧ t.getD 21 undef = .int .i64 (atP loc tt pln (k : Int)) ∧ t.getD 22 undef = .int .i64 (atR loc tt (k : Int)) ∧ Below w.heap.size w w' ∧ blkAt w' w.heap.size = some (.cells (vw a) 24 (0, 0)) ∧ w.heap.size < w'.heap.size ∧ blkAt w' (w.heap.size + 1) = some (.cells (vw b) 24 (0, 0)) ∧ w.heap.size + 1 < w'.heap.size ∧ blkAt w' bj = some (.cells (vw (jn a b)) 24 (0, 0)) ∧ bj < w'.heap.size ∧ blkAt w' bf = some (.cells (vw (fl (sh a))) 24 (0, 0)) ∧ bf < w'.heap.size ∧ blkAt w' bx = some (.cells (vw (atF loc tt pln)) 24 (0, 0)) ∧ bx < w'.heap.size ∧ blkAt w' bm = some (.cells (vw (mpK a 4)) 24 (0, 0)) ∧ bm < w'.heap.size) ?_ ?_
    · by_cases hc : ((inP loc tt && decide ((k : Int) = loc)) && pln) = true
      · rw [show (((inP loc tt) && (decide ((k : Int) = loc))) && pln) = true from hc] at h204
        refine wp_cond_true h204 ?_
        refine wp_seqr [(205, .val (.int .i64 tt)), (21, .val (.int .i64 tt))] [] [] [⟨none, [3], [], [], none⟩, ⟨none, [], [205], [], none⟩] hN (by kernel_rfl) (by kernel_rfl) rfl rfl List.nodup_nil _ (fun x hx => by cases hx) ?_ ?_
        refine ⟨?_, ?_, trivial⟩
        · refine Oo.is (.int .i64 tt) (fun d hd w => by cases hd; exact rfl) fun ac wd hc hp hu hr => ?_
          have f3 := (hp 3 (by decide)).trans h3
          go_simp
        · refine Oo.is (.int .i64 tt) (fun d hd w => by cases hd; exact rfl) fun ac wd hc hp hu hr => ?_
          have f205 : ac.tmps.getD 205 undef = .int .i64 tt := hu 205 (by decide)
          go_simp
        intro t20 w20 P20
        replace hN := P20.size.trans hN
        replace h2 := (P20.kept 2 (by kernel_rfl)).trans h2
        replace h3 := (P20.kept 3 (by kernel_rfl)).trans h3
        replace h4 := (P20.kept 4 (by kernel_rfl)).trans h4
        replace h5 := (P20.kept 5 (by kernel_rfl)).trans h5
        replace h6 := (P20.kept 6 (by kernel_rfl)).trans h6
        replace h11 := (P20.kept 11 (by kernel_rfl)).trans h11
        replace h12 := (P20.kept 12 (by kernel_rfl)).trans h12
        replace h13 := (P20.kept 13 (by kernel_rfl)).trans h13
        replace h14 := (P20.kept 14 (by kernel_rfl)).trans h14
        replace h15 := (P20.kept 15 (by kernel_rfl)).trans h15
        replace h16 := (P20.kept 16 (by kernel_rfl)).trans h16
        replace h17 := (P20.kept 17 (by kernel_rfl)).trans h17
        replace h18 := (P20.kept 18 (by kernel_rfl)).trans h18
        replace h19 := (P20.kept 19 (by kernel_rfl)).trans h19
        replace h20 := (P20.kept 20 (by kernel_rfl)).trans h20
        replace h22 := (P20.kept 22 (by kernel_rfl)).trans h22
        have h21 : t20.getD 21 undef = .int .i64 tt := P20.tab 21
        replace g_a := (P20.ch.block _ s_a List.not_mem_nil).trans g_a
        replace g_b := (P20.ch.block _ s_b List.not_mem_nil).trans g_b
        replace g_j := (P20.ch.block _ s_j List.not_mem_nil).trans g_j
        replace g_f := (P20.ch.block _ s_f List.not_mem_nil).trans g_f
        replace g_x := (P20.ch.block _ s_x List.not_mem_nil).trans g_x
        replace g_m := (P20.ch.block _ s_m List.not_mem_nil).trans g_m
        replace s_a := Nat.lt_of_lt_of_le s_a P20.ch.size
        replace s_b := Nat.lt_of_lt_of_le s_b P20.ch.size
        replace s_j := Nat.lt_of_lt_of_le s_j P20.ch.size
        replace s_f := Nat.lt_of_lt_of_le s_f P20.ch.size
        replace s_x := Nat.lt_of_lt_of_le s_x P20.ch.size
        replace s_m := Nat.lt_of_lt_of_le s_m P20.ch.size
        replace hB := P20.ch.below hB hB.size (fun b hb => by cases hb)
        clear P20
        exact ⟨rfl, _, rfl, hN, h2, h3, h4, h5, h6, h11, h12, h13, h14, h15, h16, h17, h18, h19, h20, (h21.trans (by rw [atP_yes hc])), h22, hB, g_a, s_a, g_b, s_b, g_j, s_j, g_f, s_f, g_x, s_x, g_m, s_m⟩
      · rw [show (((inP loc tt) && (decide ((k : Int) = loc))) && pln) = false from Bool.eq_false_iff.2 hc] at h204
        refine wp_cond_false h204 ?_
        refine wp_skip ?_
        exact ⟨rfl, _, rfl, hN, h2, h3, h4, h5, h6, h11, h12, h13, h14, h15, h16, h17, h18, h19, h20, (h21.trans (by rw [atP_no hkb hc])), h22, hB, g_a, s_a, g_b, s_b, g_j, s_j, g_f, s_f, g_x, s_x, g_m, s_m⟩
    clear h2 h3 h4 h5 h6 h11 h12 h13 h14 h15 h16 h17 h18 h19 h20 h21 h22 hN hB g_a s_a g_b s_b g_j s_j g_f s_f g_x s_x g_m s_m h204
    rintro e ac w21 ⟨rfl, t21, rfl, hN, h2, h3, h4, h5, h6, h11, h12, h13, h14, h15, h16, h17, h18, h19, h20, h21, h22, hB, g_a, s_a, g_b, s_b, g_j, s_j, g_f, s_f, g_x, s_x, g_m, s_m⟩
    refine wp_seq ?_
    have e0 : atF loc tt pln k = atP loc tt pln (k : Int) := by unfold atF; rw [if_pos hkb]
    have e1 : atF loc tt pln (4 + k) = atR loc tt (k : Int) := by unfold atF; rw [if_neg (by omega), show 4 + k - 4 = k by omega]
    refine wp_seqr [(206, .val (.int .i64 (k : Int))), (207, .val (.pointer (some ⟨bx, 0, none⟩))), (208, .val (.pointer (some ⟨bx, k, none⟩))), (209, .val (.int .i64 ((atF loc tt pln) (k)))), (210, .val (.int .i64 (atP loc tt pln (k : Int)))), (211, .val (.bool false)), (212, .val (.bool false)), (213, .val (.int .i64 (k : Int))), (214, .val (.pointer (some ⟨bx, 4, none⟩))), (215, .val (.pointer (some ⟨bx, 4 + k, none⟩))), (216, .val (.int .i64 ((atF loc tt pln) (4 + k)))), (217, .val (.int .i64 (atR loc tt (k : Int)))), (218, .val (.bool false)), (219, .val (.bool false))] [] [] [⟨none, [18], [], [], none⟩, ⟨none, [15], [], [], none⟩, ⟨none, [], [206, 207], [], none⟩, ⟨none, [], [208], [], none⟩, ⟨none, [21], [], [], none⟩, ⟨none, [], [209, 210], [], none⟩, ⟨none, [], [211], [], none⟩, ⟨some (212, false), [18], [212], [], none⟩, ⟨some (212, false), [15], [212], [], none⟩, ⟨some (212, false), [], [212, 213, 214], [], none⟩, ⟨some (212, false), [], [212, 215], [], none⟩, ⟨some (212, false), [22], [212], [], none⟩, ⟨some (212, false), [], [212, 216, 217], [], none⟩, ⟨none, [], [212, 218], [], none⟩] hN (by kernel_rfl) (by kernel_rfl) rfl rfl List.nodup_nil _ (fun x hx => by cases hx) ?_ ?_
    refine ⟨?_, ?_, ?_, ?_, ?_, ?_, ?_, ?_, ?_, ?_, ?_, ?_, ?_, ?_, trivial⟩
    · refine Oo.is (.int .i64 (k : Int)) (fun d hd w => by cases hd; exact rfl) fun ac wd hc hp hu hr => ?_
      have f18 := (hp 18 (by decide)).trans h18
      go_simp
    · refine Oo.is (.pointer (some ⟨bx, 0, none⟩)) (fun d hd w => by cases hd; exact rfl) fun ac wd hc hp hu hr => ?_
      have f15 := (hp 15 (by decide)).trans h15
      go_simp
    · refine Oo.is (.pointer (some ⟨bx, k, none⟩)) (fun d hd w => by cases hd; exact rfl) fun ac wd hc hp hu hr => ?_
      have f206 : ac.tmps.getD 206 undef = .int .i64 (k : Int) := hu 206 (by decide)
      have f207 : ac.tmps.getD 207 undef = .pointer (some ⟨bx, 0, none⟩) := hu 207 (by decide)
      go_simp
    · refine Oo.is (.int .i64 ((atF loc tt pln) (k))) (fun d hd w => by cases hd; exact rfl) fun ac wd hc hp hu hr => ?_
      have f208 : ac.tmps.getD 208 undef = .pointer (some ⟨bx, k, none⟩) := hu 208 (by decide)
      have qx := (hc.block _ s_x List.not_mem_nil).trans g_x
      have gX := vw_get (atF loc tt pln) (k := k) (by omega)
      go_simp
    · refine Oo.is (.int .i64 (atP loc tt pln (k : Int))) (fun d hd w => by cases hd; exact rfl) fun ac wd hc hp hu hr => ?_
      have f21 := (hp 21 (by decide)).trans h21
      go_simp
    · refine Oo.is (.bool false) (fun d hd w => by cases hd; exact rfl) fun ac wd hc hp hu hr => ?_
      have f209 : ac.tmps.getD 209 undef = .int .i64 ((atF loc tt pln) (k)) := hu 209 (by decide)
      have f210 : ac.tmps.getD 210 undef = .int .i64 (atP loc tt pln (k : Int)) := hu 210 (by decide)
      go_simp
    · refine Oo.is (.bool false) (fun d hd w => by cases hd; exact rfl) fun ac wd hc hp hu hr => ?_
      have f211 : ac.tmps.getD 211 undef = .bool false := hu 211 (by decide)
      go_simp
    · refine Oo.on (by decide) (fun v w h => h) (Oo.is (.int .i64 (k : Int)) (fun d hd w => by cases hd; exact rfl) fun ac wd hc hp hu hr => ?_)
      have f18 := (hp 18 (by decide)).trans h18
      have f212 : ac.tmps.getD 212 undef = .bool false := hu 212 (by decide)
      go_simp
    · refine Oo.on (by decide) (fun v w h => h) (Oo.is (.pointer (some ⟨bx, 4, none⟩)) (fun d hd w => by cases hd; exact rfl) fun ac wd hc hp hu hr => ?_)
      have f15 := (hp 15 (by decide)).trans h15
      have f212 : ac.tmps.getD 212 undef = .bool false := hu 212 (by decide)
      go_simp
    · refine Oo.on (by decide) (fun v w h => h) (Oo.is (.pointer (some ⟨bx, 4 + k, none⟩)) (fun d hd w => by cases hd; exact rfl) fun ac wd hc hp hu hr => ?_)
      have f212 : ac.tmps.getD 212 undef = .bool false := hu 212 (by decide)
      have f213 : ac.tmps.getD 213 undef = .int .i64 (k : Int) := hu 213 (by decide)
      have f214 : ac.tmps.getD 214 undef = .pointer (some ⟨bx, 4, none⟩) := hu 214 (by decide)
      go_simp
    · refine Oo.on (by decide) (fun v w h => h) (Oo.is (.int .i64 ((atF loc tt pln) (4 + k))) (fun d hd w => by cases hd; exact rfl) fun ac wd hc hp hu hr => ?_)
      have f212 : ac.tmps.getD 212 undef = .bool false := hu 212 (by decide)
      have f215 : ac.tmps.getD 215 undef = .pointer (some ⟨bx, 4 + k, none⟩) := hu 215 (by decide)
      have qx := (hc.block _ s_x List.not_mem_nil).trans g_x
      have gX := vw_get (atF loc tt pln) (k := 4 + k) (by omega)
      go_simp
    · refine Oo.on (by decide) (fun v w h => h) (Oo.is (.int .i64 (atR loc tt (k : Int))) (fun d hd w => by cases hd; exact rfl) fun ac wd hc hp hu hr => ?_)
      have f22 := (hp 22 (by decide)).trans h22
      have f212 : ac.tmps.getD 212 undef = .bool false := hu 212 (by decide)
      go_simp
    · refine Oo.on (by decide) (fun v w h => h) (Oo.is (.bool false) (fun d hd w => by cases hd; exact rfl) fun ac wd hc hp hu hr => ?_)
      have f212 : ac.tmps.getD 212 undef = .bool false := hu 212 (by decide)
      have f216 : ac.tmps.getD 216 undef = .int .i64 ((atF loc tt pln) (4 + k)) := hu 216 (by decide)
      have f217 : ac.tmps.getD 217 undef = .int .i64 (atR loc tt (k : Int)) := hu 217 (by decide)
      go_simp
    · refine Oo.is (.bool false) (fun d hd w => by cases hd; exact rfl) fun ac wd hc hp hu hr => ?_
      have f212 : ac.tmps.getD 212 undef = .bool false := hu 212 (by decide)
      have f218 : ac.tmps.getD 218 undef = .bool false := hu 218 (by decide)
      go_simp
    intro t22 w22 P22
    replace hN := P22.size.trans hN
    replace h2 := (P22.kept 2 (by kernel_rfl)).trans h2
    replace h3 := (P22.kept 3 (by kernel_rfl)).trans h3
    replace h4 := (P22.kept 4 (by kernel_rfl)).trans h4
    replace h5 := (P22.kept 5 (by kernel_rfl)).trans h5
    replace h6 := (P22.kept 6 (by kernel_rfl)).trans h6
    replace h11 := (P22.kept 11 (by kernel_rfl)).trans h11
    replace h12 := (P22.kept 12 (by kernel_rfl)).trans h12
    replace h13 := (P22.kept 13 (by kernel_rfl)).trans h13
    replace h14 := (P22.kept 14 (by kernel_rfl)).trans h14
    replace h15 := (P22.kept 15 (by kernel_rfl)).trans h15
    replace h16 := (P22.kept 16 (by kernel_rfl)).trans h16
    replace h17 := (P22.kept 17 (by kernel_rfl)).trans h17
    replace h18 := (P22.kept 18 (by kernel_rfl)).trans h18
    replace h19 := (P22.kept 19 (by kernel_rfl)).trans h19
    replace h20 := (P22.kept 20 (by kernel_rfl)).trans h20
    replace h21 := (P22.kept 21 (by kernel_rfl)).trans h21
    replace h22 := (P22.kept 22 (by kernel_rfl)).trans h22
    have h219 : t22.getD 219 undef = .bool false := P22.tab 219
    replace g_a := (P22.ch.block _ s_a List.not_mem_nil).trans g_a
    replace g_b := (P22.ch.block _ s_b List.not_mem_nil).trans g_b
    replace g_j := (P22.ch.block _ s_j List.not_mem_nil).trans g_j
    replace g_f := (P22.ch.block _ s_f List.not_mem_nil).trans g_f
    replace g_x := (P22.ch.block _ s_x List.not_mem_nil).trans g_x
    replace g_m := (P22.ch.block _ s_m List.not_mem_nil).trans g_m
    replace s_a := Nat.lt_of_lt_of_le s_a P22.ch.size
    replace s_b := Nat.lt_of_lt_of_le s_b P22.ch.size
    replace s_j := Nat.lt_of_lt_of_le s_j P22.ch.size
    replace s_f := Nat.lt_of_lt_of_le s_f P22.ch.size
    replace s_x := Nat.lt_of_lt_of_le s_x P22.ch.size
    replace s_m := Nat.lt_of_lt_of_le s_m P22.ch.size
    replace hB := P22.ch.below hB hB.size (fun b hb => by cases hb)
    clear P22
    clear e0 e1
    refine wp_cond_false h219 ?_
    clear h219
    refine wp_skip ?_
    refine wp_seqr [(48, .val (.int .i64 (k : Int))), (49, .val (.int .i64 (((k + 1) : Nat) : Int))), (18, .val (.int .i64 (((k + 1) : Nat) : Int)))] [] [] [⟨none, [18], [], [], none⟩, ⟨none, [], [48], [], none⟩, ⟨none, [], [49], [], none⟩] hN (by kernel_rfl) (by kernel_rfl) rfl rfl List.nodup_nil _ (fun x hx => by cases hx) ?_ ?_
    refine ⟨?_, ?_, ?_, trivial⟩
    · refine Oo.is (.int .i64 (k : Int)) (fun d hd w => by cases hd; exact rfl) fun ac wd hc hp hu hr => ?_
      have f18 := (hp 18 (by decide)).trans h18
      go_simp
    · refine Oo.is (.int .i64 (((k + 1) : Nat) : Int)) (fun d hd w => by cases hd; exact rfl) fun ac wd hc hp hu hr => ?_
      have f48 : ac.tmps.getD 48 undef = .int .i64 (k : Int) := hu 48 (by decide)
      go_simp
    · refine Oo.is (.int .i64 (((k + 1) : Nat) : Int)) (fun d hd w => by cases hd; exact rfl) fun ac wd hc hp hu hr => ?_
      have f49 : ac.tmps.getD 49 undef = .int .i64 (((k + 1) : Nat) : Int) := hu 49 (by decide)
      go_simp
    intro t23 w23 P23
    replace hN := P23.size.trans hN
    replace h2 := (P23.kept 2 (by kernel_rfl)).trans h2
    replace h3 := (P23.kept 3 (by kernel_rfl)).trans h3
    replace h4 := (P23.kept 4 (by kernel_rfl)).trans h4
    replace h5 := (P23.kept 5 (by kernel_rfl)).trans h5
    replace h6 := (P23.kept 6 (by kernel_rfl)).trans h6
    replace h11 := (P23.kept 11 (by kernel_rfl)).trans h11
    replace h12 := (P23.kept 12 (by kernel_rfl)).trans h12
    replace h13 := (P23.kept 13 (by kernel_rfl)).trans h13
    replace h14 := (P23.kept 14 (by kernel_rfl)).trans h14
    replace h15 := (P23.kept 15 (by kernel_rfl)).trans h15
    replace h16 := (P23.kept 16 (by kernel_rfl)).trans h16
    replace h17 := (P23.kept 17 (by kernel_rfl)).trans h17
    replace h19 := (P23.kept 19 (by kernel_rfl)).trans h19
    replace h20 := (P23.kept 20 (by kernel_rfl)).trans h20
    replace h21 := (P23.kept 21 (by kernel_rfl)).trans h21
    replace h22 := (P23.kept 22 (by kernel_rfl)).trans h22
    have h18 : t23.getD 18 undef = .int .i64 (((k + 1) : Nat) : Int) := P23.tab 18
    replace g_a := (P23.ch.block _ s_a List.not_mem_nil).trans g_a
    replace g_b := (P23.ch.block _ s_b List.not_mem_nil).trans g_b
    replace g_j := (P23.ch.block _ s_j List.not_mem_nil).trans g_j
    replace g_f := (P23.ch.block _ s_f List.not_mem_nil).trans g_f
    replace g_x := (P23.ch.block _ s_x List.not_mem_nil).trans g_x
    replace g_m := (P23.ch.block _ s_m List.not_mem_nil).trans g_m
    replace s_a := Nat.lt_of_lt_of_le s_a P23.ch.size
    replace s_b := Nat.lt_of_lt_of_le s_b P23.ch.size
    replace s_j := Nat.lt_of_lt_of_le s_j P23.ch.size
    replace s_f := Nat.lt_of_lt_of_le s_f P23.ch.size
    replace s_x := Nat.lt_of_lt_of_le s_x P23.ch.size
    replace s_m := Nat.lt_of_lt_of_le s_m P23.ch.size
    replace hB := P23.ch.below hB hB.size (fun b hb => by cases hb)
    clear P23
    refine ⟨⟨k + 1, _, rfl, hN, h2, h3, h4, h5, h6, h11, h12, h13, h14, h15, h16, h17, h18, hB, g_a, s_a, g_b, s_b, g_j, s_j, g_f, s_f, g_x, s_x, g_m, s_m, by omega⟩, ?_⟩
    have e6 : (4 - (match t23.getD 18 undef with | .int _ k => k.toNat | _ => 0)) < 4 - (match t3.getD 18 undef with | .int _ k => k.toNat | _ => 0) := by rw [h18, i18]; simp only [Int.toNat_natCast]; omega
    exact e6
  rw [show (decide ((k : Int) < 4)) = false from decide_eq_false (by omega)] at h47
  refine wp_cond_false h47 ?_
  clear h47
  refine wp_exit ?_
  obtain rfl : k = 4 := by omega
  rw [mayK_mayF] at h11
  rw [leK_leV] at h12
  have ev : eqV a a = true := (eqV_iff _ _).2 fun _ _ => rfl
  refine wp_seq ?_
  refine wp_draw [(220, .val (.agg (vw a))), (221, .val (.bool (mayF a))), (222, .val (.bool (mayF a))), (223, .val (.bool true)), (224, .val (.bool true)), (225, .val (.agg (vw a))), (226, .val (.agg (vw b))), (227, .val (.bool (leV a b))), (228, .val (.bool (leV a b))), (229, .val (.bool true)), (230, .val (.bool true)), (231, .val (.bool true)), (232, .val (.agg (vw a))), (233, .val (.agg (vw a))), (234, .val (.agg (vw a))), (235, .val (.bool true)), (236, .val (.bool true)), (237, .val (.bool true)), (238, .val (.bool true)), (239, .val (.bool true)), (10, .val (.bool true))] [] [] [⟨none, [5], [], [], none⟩, ⟨none, [], [220], [], none⟩, ⟨none, [11], [], [], none⟩, ⟨none, [], [221, 222], [], none⟩, ⟨none, [], [223], [], none⟩, ⟨some (224, true), [5], [224], [], none⟩, ⟨some (224, true), [6], [224], [], none⟩, ⟨some (224, true), [], [224, 225, 226], [], none⟩, ⟨some (224, true), [12], [224], [], none⟩, ⟨some (224, true), [], [224, 227, 228], [], none⟩, ⟨none, [], [224, 229], [], none⟩, ⟨none, [], [230], [], none⟩, ⟨some (231, true), [5], [231], [], none⟩, ⟨some (231, true), [], [231, 232], [], none⟩, ⟨some (231, true), [5], [231], [], none⟩, ⟨some (231, true), [], [231, 233, 234], [], none⟩, ⟨none, [], [231, 235], [], none⟩, ⟨none, [], [236], [], none⟩, ⟨some (237, true), [], [237], [], none⟩, ⟨none, [], [237, 238], [], none⟩, ⟨none, [], [239], [], none⟩] hN (by kernel_rfl) (by kernel_rfl) (by kernel_rfl) rfl rfl List.nodup_nil _ (fun x hx => by cases hx) ?_ ?_
  refine ⟨?_, ?_, ?_, ?_, ?_, ?_, ?_, ?_, ?_, ?_, ?_, ?_, ?_, ?_, ?_, ?_, ?_, ?_, ?_, ?_, ?_, trivial⟩
  · refine Oo.is (.agg (vw a)) (fun d hd w => by cases hd; exact rfl) fun ac wd hc hp hu hr => ?_
    have f5 := (hp 5 (by decide)).trans h5
    have qa := (hc.block _ s_a List.not_mem_nil).trans g_a
    go_simp
  · refine Oo.run fun ac wd hc hp hu hr => ?_
    have f220 : ac.tmps.getD 220 undef = .agg (vw a) := hu 220 (by decide)
    refine Run.call (f := 16) (args := #[.agg (vw a)]) ?_ ?_
    · go_simp
    · exact (may_f a wd).mono fun e w' ⟨he, hb⟩ => ⟨.bool (mayF a), by rw [he], hb, fun d hd => by cases hd; exact rfl⟩
  · refine Oo.is (.bool (mayF a)) (fun d hd w => by cases hd; exact rfl) fun ac wd hc hp hu hr => ?_
    have f11 := (hp 11 (by decide)).trans h11
    go_simp
  · refine Oo.is (.bool true) (fun d hd w => by cases hd; exact rfl) fun ac wd hc hp hu hr => ?_
    have f221 : ac.tmps.getD 221 undef = .bool (mayF a) := hu 221 (by decide)
    have f222 : ac.tmps.getD 222 undef = .bool (mayF a) := hu 222 (by decide)
    go_simp
  · refine Oo.is (.bool true) (fun d hd w => by cases hd; exact rfl) fun ac wd hc hp hu hr => ?_
    have f223 : ac.tmps.getD 223 undef = .bool true := hu 223 (by decide)
    go_simp
  · refine Oo.on (by decide) (fun v w h => h) (Oo.is (.agg (vw a)) (fun d hd w => by cases hd; exact rfl) fun ac wd hc hp hu hr => ?_)
    have f5 := (hp 5 (by decide)).trans h5
    have f224 : ac.tmps.getD 224 undef = .bool true := hu 224 (by decide)
    have qa := (hc.block _ s_a List.not_mem_nil).trans g_a
    go_simp
  · refine Oo.on (by decide) (fun v w h => h) (Oo.is (.agg (vw b)) (fun d hd w => by cases hd; exact rfl) fun ac wd hc hp hu hr => ?_)
    have f6 := (hp 6 (by decide)).trans h6
    have f224 : ac.tmps.getD 224 undef = .bool true := hu 224 (by decide)
    have qb := (hc.block _ s_b List.not_mem_nil).trans g_b
    go_simp
  · refine Oo.on (by decide) (fun v w h => h) (Oo.run fun ac wd hc hp hu hr => ?_)
    have f224 : ac.tmps.getD 224 undef = .bool true := hu 224 (by decide)
    have f225 : ac.tmps.getD 225 undef = .agg (vw a) := hu 225 (by decide)
    have f226 : ac.tmps.getD 226 undef = .agg (vw b) := hu 226 (by decide)
    refine Run.call (f := 15) (args := #[.agg (vw a), .agg (vw b)]) ?_ ?_
    · go_simp
    · exact (within_f a b wd).mono fun e w' ⟨he, hb⟩ => ⟨.bool (leV a b), by rw [he], hb, fun d hd => by cases hd; exact rfl⟩
  · refine Oo.on (by decide) (fun v w h => h) (Oo.is (.bool (leV a b)) (fun d hd w => by cases hd; exact rfl) fun ac wd hc hp hu hr => ?_)
    have f12 := (hp 12 (by decide)).trans h12
    have f224 : ac.tmps.getD 224 undef = .bool true := hu 224 (by decide)
    go_simp
  · refine Oo.on (by decide) (fun v w h => h) (Oo.is (.bool true) (fun d hd w => by cases hd; exact rfl) fun ac wd hc hp hu hr => ?_)
    have f224 : ac.tmps.getD 224 undef = .bool true := hu 224 (by decide)
    have f227 : ac.tmps.getD 227 undef = .bool (leV a b) := hu 227 (by decide)
    have f228 : ac.tmps.getD 228 undef = .bool (leV a b) := hu 228 (by decide)
    go_simp
  · refine Oo.is (.bool true) (fun d hd w => by cases hd; exact rfl) fun ac wd hc hp hu hr => ?_
    have f224 : ac.tmps.getD 224 undef = .bool true := hu 224 (by decide)
    have f229 : ac.tmps.getD 229 undef = .bool true := hu 229 (by decide)
    go_simp
  · refine Oo.is (.bool true) (fun d hd w => by cases hd; exact rfl) fun ac wd hc hp hu hr => ?_
    have f230 : ac.tmps.getD 230 undef = .bool true := hu 230 (by decide)
    go_simp
  · refine Oo.on (by decide) (fun v w h => h) (Oo.is (.agg (vw a)) (fun d hd w => by cases hd; exact rfl) fun ac wd hc hp hu hr => ?_)
    have f5 := (hp 5 (by decide)).trans h5
    have f231 : ac.tmps.getD 231 undef = .bool true := hu 231 (by decide)
    have qa := (hc.block _ s_a List.not_mem_nil).trans g_a
    go_simp
  · refine Oo.on (by decide) (fun v w h => h) (Oo.run fun ac wd hc hp hu hr => ?_)
    have f231 : ac.tmps.getD 231 undef = .bool true := hu 231 (by decide)
    have f232 : ac.tmps.getD 232 undef = .agg (vw a) := hu 232 (by decide)
    refine Run.call (f := 14) (args := #[.agg (vw a), .slice none 0 0]) ?_ ?_
    · go_simp
    · exact (join_0f a wd).mono fun e w' ⟨he, hb⟩ => ⟨.agg (vw a), by rw [he], hb, fun d hd => by cases hd; exact rfl⟩
  · refine Oo.on (by decide) (fun v w h => h) (Oo.is (.agg (vw a)) (fun d hd w => by cases hd; exact rfl) fun ac wd hc hp hu hr => ?_)
    have f5 := (hp 5 (by decide)).trans h5
    have f231 : ac.tmps.getD 231 undef = .bool true := hu 231 (by decide)
    have qa := (hc.block _ s_a List.not_mem_nil).trans g_a
    go_simp
  · refine Oo.on (by decide) (fun v w h => h) (Oo.is (.bool true) (fun d hd w => by cases hd; exact rfl) fun ac wd hc hp hu hr => ?_)
    have f231 : ac.tmps.getD 231 undef = .bool true := hu 231 (by decide)
    have f233 : ac.tmps.getD 233 undef = .agg (vw a) := hu 233 (by decide)
    have f234 : ac.tmps.getD 234 undef = .agg (vw a) := hu 234 (by decide)
    go_simp
  · refine Oo.is (.bool true) (fun d hd w => by cases hd; exact rfl) fun ac wd hc hp hu hr => ?_
    have f231 : ac.tmps.getD 231 undef = .bool true := hu 231 (by decide)
    have f235 : ac.tmps.getD 235 undef = .bool true := hu 235 (by decide)
    go_simp
  · refine Oo.is (.bool true) (fun d hd w => by cases hd; exact rfl) fun ac wd hc hp hu hr => ?_
    have f236 : ac.tmps.getD 236 undef = .bool true := hu 236 (by decide)
    go_simp
  · refine Oo.on (by decide) (fun v w h => h) (Oo.run fun ac wd hc hp hu hr => ?_)
    have f237 : ac.tmps.getD 237 undef = .bool true := hu 237 (by decide)
    refine Run.call (f := 17) (args := #[]) ?_ ?_
    · go_simp
    · exact (wakes10 wd).mono fun e w' ⟨he, hb⟩ => ⟨.bool true, by rw [he], hb, fun d hd => by cases hd; exact rfl⟩
  · refine Oo.is (.bool true) (fun d hd w => by cases hd; exact rfl) fun ac wd hc hp hu hr => ?_
    have f237 : ac.tmps.getD 237 undef = .bool true := hu 237 (by decide)
    have f238 : ac.tmps.getD 238 undef = .bool true := hu 238 (by decide)
    go_simp
  · refine Oo.is (.bool true) (fun d hd w => by cases hd; exact rfl) fun ac wd hc hp hu hr => ?_
    have f239 : ac.tmps.getD 239 undef = .bool true := hu 239 (by decide)
    go_simp
  intro t24 w24 P24
  replace hN := P24.size.trans hN
  replace h2 := (P24.kept 2 (by kernel_rfl)).trans h2
  replace h3 := (P24.kept 3 (by kernel_rfl)).trans h3
  replace h4 := (P24.kept 4 (by kernel_rfl)).trans h4
  replace h5 := (P24.kept 5 (by kernel_rfl)).trans h5
  replace h6 := (P24.kept 6 (by kernel_rfl)).trans h6
  replace h11 := (P24.kept 11 (by kernel_rfl)).trans h11
  replace h12 := (P24.kept 12 (by kernel_rfl)).trans h12
  replace h13 := (P24.kept 13 (by kernel_rfl)).trans h13
  replace h14 := (P24.kept 14 (by kernel_rfl)).trans h14
  replace h15 := (P24.kept 15 (by kernel_rfl)).trans h15
  replace h16 := (P24.kept 16 (by kernel_rfl)).trans h16
  replace h17 := (P24.kept 17 (by kernel_rfl)).trans h17
  replace h18 := (P24.kept 18 (by kernel_rfl)).trans h18
  have h10 : t24.getD 10 undef = .bool true := P24.tab 10
  replace g_a := (P24.ch.block _ s_a List.not_mem_nil).trans g_a
  replace g_b := (P24.ch.block _ s_b List.not_mem_nil).trans g_b
  replace g_j := (P24.ch.block _ s_j List.not_mem_nil).trans g_j
  replace g_f := (P24.ch.block _ s_f List.not_mem_nil).trans g_f
  replace g_x := (P24.ch.block _ s_x List.not_mem_nil).trans g_x
  replace g_m := (P24.ch.block _ s_m List.not_mem_nil).trans g_m
  replace s_a := Nat.lt_of_lt_of_le s_a P24.ch.size
  replace s_b := Nat.lt_of_lt_of_le s_b P24.ch.size
  replace s_j := Nat.lt_of_lt_of_le s_j P24.ch.size
  replace s_f := Nat.lt_of_lt_of_le s_f P24.ch.size
  replace s_x := Nat.lt_of_lt_of_le s_x P24.ch.size
  replace s_m := Nat.lt_of_lt_of_le s_m P24.ch.size
  replace hB := P24.ch.below hB.drew hB.size (fun b hb => by cases hb)
  clear P24
  refine wp_ret ?_
  have n10 := h10
  simp only [Array.getD_eq_getD_getElem?] at n10
  exact bodyPost_ret (v := .bool true) (by simp [results, Try.results4, n10]) rfl ⟨rfl, hB⟩
end Go.Proofs.Ytkmhabbpndcnkaa
