import Derived.Test.YtkmhabbpndcnkaaK3
import Derived.Test.YtkmhabbpndcnkaaF1
import Derived.Deep.RegionHeld3
import Derived.Deep.DeepCutAuto
import Derived.Deep.CutBlock
namespace Go.Proofs.Ytkmhabbpndcnkaa
open Go.RowKit
attribute [local go_sem 3000] cell_eq frozen_eq cellOf_cells frozenOf_cells setOf_cells ba_alloc_at ba_alloc_past ba_drew ba_setCell_same ba_setCell_other hp_size_setCell ldI_vw8 ldI_vw0 ldI_vw4 ldI_q4 ldR_some lv24 lv22 la24 la22 bx1 bx2 sa24 stI_zero stI_vw stR_some rowOf_cells ba_setRow_same ba_setRow_other setRow_alloc_at setRow_alloc_past setRow_drew size_setRow
attribute [local go_sem ↓ 5000] ldVar24 ldVar22 ldAt24 ldAt22 bsXr stAt24 stAt22 eq24f ne24f eq22f

def kf (l : List Int) : Nat → Int := fun i => l.getD i 0
def baseW (nj : Nat) : List (Nat × Sp) := [(1, .val (.pointer (some ⟨nj, 0, none⟩)))]
def tabW : List (Nat × Sp) := [(7, .val (.agg (vw (jn (jn (atF 1 5 true) (atF 0 2 false)) (atF 1 3 true))))), (8, .val (.agg (q4 (kf [0, 5, 0, 0])))), (9, .val (.agg (q4 (kf [2, 5, 0, 0])))), (10, .val (.agg (vw (kf [0, 5, 0, 0, 2, 5, 0, 0])))), (11, .val (.bool true)), (12, .val (.bool true)), (13, .val (.agg (vw (atF 1 5 false)))), (14, .val (.agg (vw (jn (jn (atF 1 5 true) (atF 0 2 false)) (atF 1 3 true))))), (15, .val (.bool true)), (16, .val (.bool true)), (17, .val (.bool true)), (18, .val (.agg (vw (jn (jn (atF 1 5 true) (atF 0 2 false)) (atF 1 3 true))))), (19, .val (.agg (vw (atF 1 5 true)))), (20, .val (.bool false)), (21, .val (.bool true)), (22, .val (.bool true)), (23, .val (.bool true)), (24, .val (.agg (vw (jn (jn (atF 1 5 true) (atF 0 2 false)) (atF 1 3 true))))), (25, .val (.bool true)), (26, .val (.bool true)), (27, .val (.bool true)), (28, .val (.agg (q4 (kf [1, 0, 0, 0])))), (29, .val (.agg (vw (kf [1, 0, 0, 0, 0, 0, 0, 0])))), (30, .val (.bool false)), (31, .val (.bool true)), (32, .val (.bool true)), (33, .val (.bool true)), (34, .val (.agg (q4 (kf [1, 2, 3, 4])))), (35, .val (.agg (vw (fl (kf [1, 2, 3, 4]))))), (36, .val (.agg (q4 (sh (fl (kf [1, 2, 3, 4])))))), (37, .val (.int .i64 4)), (38, .val (.bool true)), (39, .val (.bool true)), (0, .val (.bool true))]
def ussW : List (List Nat) := [[1], [], [], [8, 9], [7, 10], [11], [12], [1, 12], [12, 13, 14], [12, 15], [16], [1, 17], [17], [17, 18, 19], [17, 20], [17, 21], [22], [1, 23], [23, 24], [23, 25], [26], [27], [27, 28], [27, 29], [27, 30], [27, 31], [32], [33], [33, 34], [33, 35], [33, 36], [33, 37], [33, 38], [39]]
set_option maxRecDepth 100000 in
set_option maxHeartbeats 4000000 in
theorem wakes10 (w : World) : Calls Try.prog 17 #[] w fun e w' => e = .returned (.bool true) ∧ Below w.heap.size w w' := by
  go_enter Try.func17, Try.ntmps17
  go_wp2_with fail
  refine (at_f 1 5 true _).mono ?_
  rintro e w1 ⟨rfl, hb⟩
  have hS1 := (St.refl w).call hb
  clear hb
  go_wp2_with fail
  refine (at_f 0 2 false _).mono ?_
  rintro e w2 ⟨rfl, hb⟩
  have hS2 := hS1.call hb
  clear hb hS1
  go_wp2_with fail
  refine (at_f 1 3 true _).mono ?_
  rintro e w3 ⟨rfl, hb⟩
  have hS3 := hS2.call hb
  clear hb hS2
  go_wp2_with fail
  refine (join_2f (f := atF 1 5 true) (g := atF 0 2 false) (k := atF 1 3 true) ?_).mono ?_
  · go_simp
  rintro e w4 ⟨rfl, hb⟩
  have hS4 := (hS3.alloc _).call hb
  clear hb hS3
  obtain ⟨nj, hnj⟩ : ∃ nj, nj = w4.heap.size := ⟨_, rfl⟩
  have hS := hS4.new (.cells (vw (jn (jn (atF 1 5 true) (atF 0 2 false)) (atF 1 3 true))) 24 (0, 0))
  go_upto_region 2 with fail
  rw [← hnj] at hS ⊢
  generalize w4.alloc (.cells (vw (jn (jn (atF 1 5 true) (atF 0 2 false)) (atF 1 3 true))) 24 (0, 0)) = w5 at hS ⊢
  clear hnj hS4
  obtain ⟨gB, ⟨s0, g0⟩, _⟩ := hS.drew
  refine wp_region_tab (baseW nj) tabW ussW 34 rfl (by kernel_rfl) (by kernel_rfl) (by kernel_rfl) _ (by kernel_rfl) (by kernel_rfl) _ ?_ ?_ ?_
  · intro p hp
    simp only [baseW, List.mem_cons, List.not_mem_nil, or_false] at hp
    subst hp; exact rfl
  · refine ⟨⟨⟨⟨⟨⟨⟨⟨⟨⟨⟨⟨⟨⟨⟨⟨⟨⟨⟨⟨⟨⟨⟨⟨⟨⟨⟨⟨⟨⟨⟨⟨⟨⟨trivial, ?_⟩, ?_⟩, ?_⟩, ?_⟩, ?_⟩, ?_⟩, ?_⟩, ?_⟩, ?_⟩, ?_⟩, ?_⟩, ?_⟩, ?_⟩, ?_⟩, ?_⟩, ?_⟩, ?_⟩, ?_⟩, ?_⟩, ?_⟩, ?_⟩, ?_⟩, ?_⟩, ?_⟩, ?_⟩, ?_⟩, ?_⟩, ?_⟩, ?_⟩, ?_⟩, ?_⟩, ?_⟩, ?_⟩, ?_⟩
    · refine Ob.value rfl (fun ac wd hg hu => ?_)
      have f1 : ac.tmps.getD 1 undef = .pointer (some ⟨nj, 0, none⟩) := hu 1 (by decide)
      have gg := blk_grow hg s0 g0
      refine ⟨rfl, .agg (vw (jn (jn (atF 1 5 true) (atF 0 2 false)) (atF 1 3 true))), ?_, fun d hd => by cases hd; exact rfl⟩
      first | (go_simp; done) | (go_simp; rfl)
    · refine Ob.value rfl (fun ac wd hg hu => ?_)
      refine ⟨rfl, .agg (q4 (kf [0, 5, 0, 0])), ?_, fun d hd => by cases hd; exact rfl⟩
      first | (go_simp; done) | (go_simp; rfl)
    · refine Ob.value rfl (fun ac wd hg hu => ?_)
      refine ⟨rfl, .agg (q4 (kf [2, 5, 0, 0])), ?_, fun d hd => by cases hd; exact rfl⟩
      first | (go_simp; done) | (go_simp; rfl)
    · refine Ob.value rfl (fun ac wd hg hu => ?_)
      have f8 : ac.tmps.getD 8 undef = .agg (q4 (kf [0, 5, 0, 0])) := hu 8 (by decide)
      have f9 : ac.tmps.getD 9 undef = .agg (q4 (kf [2, 5, 0, 0])) := hu 9 (by decide)
      have n8 : ac.tmps[8]?.getD undef = .agg #[.int .i64 0, .int .i64 5, .int .i64 0, .int .i64 0] := by
        have hx := f8
        simp only [Array.getD_eq_getD_getElem?] at hx
        exact hx
      have n9 : ac.tmps[9]?.getD undef = .agg #[.int .i64 2, .int .i64 5, .int .i64 0, .int .i64 0] := by
        have hx := f9
        simp only [Array.getD_eq_getD_getElem?] at hx
        exact hx
      refine ⟨rfl, .agg (vw (kf [0, 5, 0, 0, 2, 5, 0, 0])), ?_, fun d hd => by cases hd; exact rfl⟩
      first | (go_simp; done) | (go_simp; rfl)
    · refine Ob.value rfl (fun ac wd hg hu => ?_)
      have f7 : ac.tmps.getD 7 undef = .agg (vw (jn (jn (atF 1 5 true) (atF 0 2 false)) (atF 1 3 true))) := hu 7 (by decide)
      have f10 : ac.tmps.getD 10 undef = .agg (vw (kf [0, 5, 0, 0, 2, 5, 0, 0])) := hu 10 (by decide)
      have ff : eqV (jn (jn (atF 1 5 true) (atF 0 2 false)) (atF 1 3 true)) (kf [0, 5, 0, 0, 2, 5, 0, 0]) = true := by decide
      refine ⟨rfl, .bool true, ?_, fun d hd => by cases hd; exact rfl⟩
      first | (go_simp; done) | (go_simp; rfl)
    · refine Ob.value rfl (fun ac wd hg hu => ?_)
      have f11 : ac.tmps.getD 11 undef = .bool true := hu 11 (by decide)
      refine ⟨rfl, .bool true, ?_, fun d hd => by cases hd; exact rfl⟩
      first | (go_simp; done) | (go_simp; rfl)
    · refine Ob.call rfl (fun ac wd hg hu => ?_)
      have f12 : ac.tmps.getD 12 undef = .bool true := hu 12 (by decide)
      refine ⟨wanted_yes rfl rfl (f12), 19, #[.int .i64 1, .int .i64 5, .bool false], ?_, ?_⟩
      · go_simp
      · exact (at_f 1 5 false wd).mono fun e w' ⟨he, hb⟩ => ⟨.agg (vw (atF 1 5 false)), he, hb, fun d hd => by cases hd; exact rfl⟩
    · refine Ob.value rfl (fun ac wd hg hu => ?_)
      have f1 : ac.tmps.getD 1 undef = .pointer (some ⟨nj, 0, none⟩) := hu 1 (by decide)
      have f12 : ac.tmps.getD 12 undef = .bool true := hu 12 (by decide)
      have gg := blk_grow hg s0 g0
      refine ⟨wanted_yes rfl rfl (f12), .agg (vw (jn (jn (atF 1 5 true) (atF 0 2 false)) (atF 1 3 true))), ?_, fun d hd => by cases hd; exact rfl⟩
      first | (go_simp; done) | (go_simp; rfl)
    · refine Ob.call rfl (fun ac wd hg hu => ?_)
      have f12 : ac.tmps.getD 12 undef = .bool true := hu 12 (by decide)
      have f13 : ac.tmps.getD 13 undef = .agg (vw (atF 1 5 false)) := hu 13 (by decide)
      have f14 : ac.tmps.getD 14 undef = .agg (vw (jn (jn (atF 1 5 true) (atF 0 2 false)) (atF 1 3 true))) := hu 14 (by decide)
      refine ⟨wanted_yes rfl rfl (f12), 15, #[.agg (vw (atF 1 5 false)), .agg (vw (jn (jn (atF 1 5 true) (atF 0 2 false)) (atF 1 3 true)))], ?_, ?_⟩
      · go_simp
      · exact (within_f (atF 1 5 false) (jn (jn (atF 1 5 true) (atF 0 2 false)) (atF 1 3 true)) wd).mono fun e w' ⟨he, hb⟩ => ⟨.bool true, by rw [he]; rfl, hb, fun d hd => by cases hd; exact rfl⟩
    · refine Ob.value rfl (fun ac wd hg hu => ?_)
      have f12 : ac.tmps.getD 12 undef = .bool true := hu 12 (by decide)
      have f15 : ac.tmps.getD 15 undef = .bool true := hu 15 (by decide)
      refine ⟨rfl, .bool true, ?_, fun d hd => by cases hd; exact rfl⟩
      first | (go_simp; done) | (go_simp; rfl)
    · refine Ob.value rfl (fun ac wd hg hu => ?_)
      have f16 : ac.tmps.getD 16 undef = .bool true := hu 16 (by decide)
      refine ⟨rfl, .bool true, ?_, fun d hd => by cases hd; exact rfl⟩
      first | (go_simp; done) | (go_simp; rfl)
    · refine Ob.value rfl (fun ac wd hg hu => ?_)
      have f1 : ac.tmps.getD 1 undef = .pointer (some ⟨nj, 0, none⟩) := hu 1 (by decide)
      have f17 : ac.tmps.getD 17 undef = .bool true := hu 17 (by decide)
      have gg := blk_grow hg s0 g0
      refine ⟨wanted_yes rfl rfl (f17), .agg (vw (jn (jn (atF 1 5 true) (atF 0 2 false)) (atF 1 3 true))), ?_, fun d hd => by cases hd; exact rfl⟩
      first | (go_simp; done) | (go_simp; rfl)
    · refine Ob.call rfl (fun ac wd hg hu => ?_)
      have f17 : ac.tmps.getD 17 undef = .bool true := hu 17 (by decide)
      refine ⟨wanted_yes rfl rfl (f17), 19, #[.int .i64 1, .int .i64 5, .bool true], ?_, ?_⟩
      · go_simp
      · exact (at_f 1 5 true wd).mono fun e w' ⟨he, hb⟩ => ⟨.agg (vw (atF 1 5 true)), he, hb, fun d hd => by cases hd; exact rfl⟩
    · refine Ob.call rfl (fun ac wd hg hu => ?_)
      have f17 : ac.tmps.getD 17 undef = .bool true := hu 17 (by decide)
      have f18 : ac.tmps.getD 18 undef = .agg (vw (jn (jn (atF 1 5 true) (atF 0 2 false)) (atF 1 3 true))) := hu 18 (by decide)
      have f19 : ac.tmps.getD 19 undef = .agg (vw (atF 1 5 true)) := hu 19 (by decide)
      refine ⟨wanted_yes rfl rfl (f17), 15, #[.agg (vw (jn (jn (atF 1 5 true) (atF 0 2 false)) (atF 1 3 true))), .agg (vw (atF 1 5 true))], ?_, ?_⟩
      · go_simp
      · exact (within_f (jn (jn (atF 1 5 true) (atF 0 2 false)) (atF 1 3 true)) (atF 1 5 true) wd).mono fun e w' ⟨he, hb⟩ => ⟨.bool false, by rw [he]; rfl, hb, fun d hd => by cases hd; exact rfl⟩
    · refine Ob.value rfl (fun ac wd hg hu => ?_)
      have f17 : ac.tmps.getD 17 undef = .bool true := hu 17 (by decide)
      have f20 : ac.tmps.getD 20 undef = .bool false := hu 20 (by decide)
      refine ⟨wanted_yes rfl rfl (f17), .bool true, ?_, fun d hd => by cases hd; exact rfl⟩
      first | (go_simp; done) | (go_simp; rfl)
    · refine Ob.value rfl (fun ac wd hg hu => ?_)
      have f17 : ac.tmps.getD 17 undef = .bool true := hu 17 (by decide)
      have f21 : ac.tmps.getD 21 undef = .bool true := hu 21 (by decide)
      refine ⟨rfl, .bool true, ?_, fun d hd => by cases hd; exact rfl⟩
      first | (go_simp; done) | (go_simp; rfl)
    · refine Ob.value rfl (fun ac wd hg hu => ?_)
      have f22 : ac.tmps.getD 22 undef = .bool true := hu 22 (by decide)
      refine ⟨rfl, .bool true, ?_, fun d hd => by cases hd; exact rfl⟩
      first | (go_simp; done) | (go_simp; rfl)
    · refine Ob.value rfl (fun ac wd hg hu => ?_)
      have f1 : ac.tmps.getD 1 undef = .pointer (some ⟨nj, 0, none⟩) := hu 1 (by decide)
      have f23 : ac.tmps.getD 23 undef = .bool true := hu 23 (by decide)
      have gg := blk_grow hg s0 g0
      refine ⟨wanted_yes rfl rfl (f23), .agg (vw (jn (jn (atF 1 5 true) (atF 0 2 false)) (atF 1 3 true))), ?_, fun d hd => by cases hd; exact rfl⟩
      first | (go_simp; done) | (go_simp; rfl)
    · refine Ob.call rfl (fun ac wd hg hu => ?_)
      have f23 : ac.tmps.getD 23 undef = .bool true := hu 23 (by decide)
      have f24 : ac.tmps.getD 24 undef = .agg (vw (jn (jn (atF 1 5 true) (atF 0 2 false)) (atF 1 3 true))) := hu 24 (by decide)
      refine ⟨wanted_yes rfl rfl (f23), 16, #[.agg (vw (jn (jn (atF 1 5 true) (atF 0 2 false)) (atF 1 3 true)))], ?_, ?_⟩
      · go_simp
      · exact (may_f (jn (jn (atF 1 5 true) (atF 0 2 false)) (atF 1 3 true)) wd).mono fun e w' ⟨he, hb⟩ => ⟨.bool true, by rw [he]; rfl, hb, fun d hd => by cases hd; exact rfl⟩
    · refine Ob.value rfl (fun ac wd hg hu => ?_)
      have f23 : ac.tmps.getD 23 undef = .bool true := hu 23 (by decide)
      have f25 : ac.tmps.getD 25 undef = .bool true := hu 25 (by decide)
      refine ⟨rfl, .bool true, ?_, fun d hd => by cases hd; exact rfl⟩
      first | (go_simp; done) | (go_simp; rfl)
    · refine Ob.value rfl (fun ac wd hg hu => ?_)
      have f26 : ac.tmps.getD 26 undef = .bool true := hu 26 (by decide)
      refine ⟨rfl, .bool true, ?_, fun d hd => by cases hd; exact rfl⟩
      first | (go_simp; done) | (go_simp; rfl)
    · refine Ob.value rfl (fun ac wd hg hu => ?_)
      have f27 : ac.tmps.getD 27 undef = .bool true := hu 27 (by decide)
      refine ⟨wanted_yes rfl rfl (f27), .agg (q4 (kf [1, 0, 0, 0])), ?_, fun d hd => by cases hd; exact rfl⟩
      first | (go_simp; done) | (go_simp; rfl)
    · refine Ob.value rfl (fun ac wd hg hu => ?_)
      have f27 : ac.tmps.getD 27 undef = .bool true := hu 27 (by decide)
      have f28 : ac.tmps.getD 28 undef = .agg (q4 (kf [1, 0, 0, 0])) := hu 28 (by decide)
      have n28 : ac.tmps[28]?.getD undef = .agg #[.int .i64 1, .int .i64 0, .int .i64 0, .int .i64 0] := by
        have hx := f28
        simp only [Array.getD_eq_getD_getElem?] at hx
        exact hx
      refine ⟨wanted_yes rfl rfl (f27), .agg (vw (kf [1, 0, 0, 0, 0, 0, 0, 0])), ?_, fun d hd => by cases hd; exact rfl⟩
      first | (go_simp; done) | (go_simp; rfl)
    · refine Ob.call rfl (fun ac wd hg hu => ?_)
      have f27 : ac.tmps.getD 27 undef = .bool true := hu 27 (by decide)
      have f29 : ac.tmps.getD 29 undef = .agg (vw (kf [1, 0, 0, 0, 0, 0, 0, 0])) := hu 29 (by decide)
      refine ⟨wanted_yes rfl rfl (f27), 16, #[.agg (vw (kf [1, 0, 0, 0, 0, 0, 0, 0]))], ?_, ?_⟩
      · go_simp
      · exact (may_f (kf [1, 0, 0, 0, 0, 0, 0, 0]) wd).mono fun e w' ⟨he, hb⟩ => ⟨.bool false, by rw [he]; rfl, hb, fun d hd => by cases hd; exact rfl⟩
    · refine Ob.value rfl (fun ac wd hg hu => ?_)
      have f27 : ac.tmps.getD 27 undef = .bool true := hu 27 (by decide)
      have f30 : ac.tmps.getD 30 undef = .bool false := hu 30 (by decide)
      refine ⟨wanted_yes rfl rfl (f27), .bool true, ?_, fun d hd => by cases hd; exact rfl⟩
      first | (go_simp; done) | (go_simp; rfl)
    · refine Ob.value rfl (fun ac wd hg hu => ?_)
      have f27 : ac.tmps.getD 27 undef = .bool true := hu 27 (by decide)
      have f31 : ac.tmps.getD 31 undef = .bool true := hu 31 (by decide)
      refine ⟨rfl, .bool true, ?_, fun d hd => by cases hd; exact rfl⟩
      first | (go_simp; done) | (go_simp; rfl)
    · refine Ob.value rfl (fun ac wd hg hu => ?_)
      have f32 : ac.tmps.getD 32 undef = .bool true := hu 32 (by decide)
      refine ⟨rfl, .bool true, ?_, fun d hd => by cases hd; exact rfl⟩
      first | (go_simp; done) | (go_simp; rfl)
    · refine Ob.value rfl (fun ac wd hg hu => ?_)
      have f33 : ac.tmps.getD 33 undef = .bool true := hu 33 (by decide)
      refine ⟨wanted_yes rfl rfl (f33), .agg (q4 (kf [1, 2, 3, 4])), ?_, fun d hd => by cases hd; exact rfl⟩
      first | (go_simp; done) | (go_simp; rfl)
    · refine Ob.call rfl (fun ac wd hg hu => ?_)
      have f33 : ac.tmps.getD 33 undef = .bool true := hu 33 (by decide)
      have f34 : ac.tmps.getD 34 undef = .agg (q4 (kf [1, 2, 3, 4])) := hu 34 (by decide)
      refine ⟨wanted_yes rfl rfl (f33), 18, #[.agg (q4 (kf [1, 2, 3, 4]))], ?_, ?_⟩
      · go_simp
      · exact (flat_f (kf [1, 2, 3, 4]) wd).mono fun e w' ⟨he, hb⟩ => ⟨.agg (vw (fl (kf [1, 2, 3, 4]))), he, hb, fun d hd => by cases hd; exact rfl⟩
    · refine Ob.value rfl (fun ac wd hg hu => ?_)
      have f33 : ac.tmps.getD 33 undef = .bool true := hu 33 (by decide)
      have f35 : ac.tmps.getD 35 undef = .agg (vw (fl (kf [1, 2, 3, 4]))) := hu 35 (by decide)
      refine ⟨wanted_yes rfl rfl (f33), .agg (q4 (sh (fl (kf [1, 2, 3, 4])))), ?_, fun d hd => by cases hd; exact rfl⟩
      first | (go_simp; done) | (go_simp; rfl)
    · refine Ob.value rfl (fun ac wd hg hu => ?_)
      have f33 : ac.tmps.getD 33 undef = .bool true := hu 33 (by decide)
      have f36 : ac.tmps.getD 36 undef = .agg (q4 (sh (fl (kf [1, 2, 3, 4])))) := hu 36 (by decide)
      refine ⟨wanted_yes rfl rfl (f33), .int .i64 4, ?_, fun d hd => by cases hd; exact rfl⟩
      first | (go_simp; done) | (go_simp; rfl)
    · refine Ob.value rfl (fun ac wd hg hu => ?_)
      have f33 : ac.tmps.getD 33 undef = .bool true := hu 33 (by decide)
      have f37 : ac.tmps.getD 37 undef = .int .i64 4 := hu 37 (by decide)
      refine ⟨wanted_yes rfl rfl (f33), .bool true, ?_, fun d hd => by cases hd; exact rfl⟩
      first | (go_simp; done) | (go_simp; rfl)
    · refine Ob.value rfl (fun ac wd hg hu => ?_)
      have f33 : ac.tmps.getD 33 undef = .bool true := hu 33 (by decide)
      have f38 : ac.tmps.getD 38 undef = .bool true := hu 38 (by decide)
      refine ⟨rfl, .bool true, ?_, fun d hd => by cases hd; exact rfl⟩
      first | (go_simp; done) | (go_simp; rfl)
    · refine Ob.value rfl (fun ac wd hg hu => ?_)
      have f39 : ac.tmps.getD 39 undef = .bool true := hu 39 (by decide)
      refine ⟨rfl, .bool true, ?_, fun d hd => by cases hd; exact rfl⟩
      first | (go_simp; done) | (go_simp; rfl)

  · intro t w' hs hg hR hun
    have e := frame_lit t 40 hs
    have h0 : t.getD 0 undef = .bool true := hR 0
    simp only [List.range, List.range.loop, List.map_cons, List.map_nil, h0] at e
    rw [e]
    have hS' := hS.drew.call hg
    clear e hR hun h0 hS hg hs s0 g0 gB
    go_wp2_with fail
    go_ret
    exact ⟨rfl, hS'.1⟩
end Go.Proofs.Ytkmhabbpndcnkaa
