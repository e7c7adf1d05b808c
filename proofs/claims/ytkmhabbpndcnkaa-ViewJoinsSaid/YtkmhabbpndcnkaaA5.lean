import Derived.Test.YtkmhabbpndcnkaaK3
import Derived.Test.YtkmhabbpndcnkaaF1
import Derived.Deep.RegionHeld3
import Derived.Deep.DeepCutAuto
import Derived.Deep.CutBlock
namespace Go.Proofs.Ytkmhabbpndcnkaa
open Go.RowKit
attribute [local go_sem 3000] cell_eq frozen_eq cellOf_cells frozenOf_cells setOf_cells ba_alloc_at ba_alloc_past ba_drew ba_setCell_same ba_setCell_other hp_size_setCell ldI_vw8 ldI_vw0 ldI_vw4 ldI_q4 ldR_some lv24 lv22 la24 la22 bx1 bx2 sa24 stI_zero stI_vw stR_some rowOf_cells ba_setRow_same ba_setRow_other setRow_alloc_at setRow_alloc_past setRow_drew size_setRow
attribute [local go_sem ↓ 5000] ldVar24 ldVar22 ldAt24 ldAt22 bsXr stAt24 stAt22 eq24f ne24f eq22f

theorem mx_self (x : Int) : mx x x = x := by unfold mx; simp
theorem mx_comm (x y : Int) : mx x y = mx y x := by unfold mx; repeat (first | omega | split)
theorem mx_assoc (x y z : Int) : mx (mx x y) z = mx x (mx y z) := by unfold mx; repeat (first | omega | split)
theorem mx_le_l (x y : Int) : x ≤ mx x y := by unfold mx; split <;> omega
theorem mx_le_r (x y : Int) : y ≤ mx x y := by unfold mx; split <;> omega
theorem mx_le (x y z : Int) : mx x y ≤ z ↔ x ≤ z ∧ y ≤ z := by unfold mx; split <;> omega
theorem mx_absorb (x y : Int) : mx (mx x y) x = mx x y := by unfold mx; repeat (first | omega | split)

theorem mx_mono {a b c d : Int} (h1 : a ≤ c) (h2 : b ≤ d) : mx a b ≤ mx c d := by unfold mx; repeat (first | omega | split)
theorem may_jn {f g : Nat → Int} (hf : mayF f = true) (hg : mayF g = true) : mayF (jn f g) = true := by
  rw [mayF_iff] at *
  intro i hi
  have h1 := hf i hi
  have h2 := hg i hi
  exact ⟨Int.le_trans h1.1 (mx_le_l _ _), mx_mono h1.2 h2.2⟩

def base3 (w : World) (nj : Nat) : List (Nat × Sp) := [(3, .val (.pointer (some ⟨w.heap.size, 0, none⟩))), (4, .val (.pointer (some ⟨w.heap.size + 1, 0, none⟩))), (5, .val (.pointer (some ⟨w.heap.size + 1 + 1, 0, none⟩))), (7, .val (.pointer (some ⟨nj, 0, none⟩)))]
def tab3 (a b c : Nat → Int) : List (Nat × Sp) := [(12, .val (.agg (vw a))), (13, .val (.agg (vw (jn a b)))), (14, .val (.bool true)), (15, .val (.bool false)), (16, .val (.bool false)), (17, .val (.agg (vw b))), (18, .val (.agg (vw (jn a b)))), (19, .val (.bool true)), (20, .val (.bool false)), (21, .val (.bool false)), (22, .val (.bool false)), (23, .val (.agg (vw (jn a b)))), (24, .val (.agg (vw b))), (25, .val (.agg (vw a))), (26, .slc (vw a) 1 24), (27, .val (.agg (vw (jn b a)))), (28, .val (.bool false)), (29, .val (.bool false)), (30, .val (.bool false)), (31, .val (.agg (vw (jn a b)))), (32, .val (.agg (vw a))), (33, .slc (vw a) 1 24), (34, .val (.agg (vw (jn (jn a b) a)))), (35, .val (.agg (vw (jn a b)))), (36, .val (.bool false)), (37, .val (.bool false)), (38, .val (.bool false)), (39, .val (.agg (vw a))), (40, .val (.agg (vw a))), (41, .slc (vw a) 1 24), (42, .val (.agg (vw (jn a a)))), (43, .val (.agg (vw a))), (44, .val (.bool false)), (45, .val (.bool false)), (46, .val (.bool false)), (47, .val (.agg (vw a))), (48, .val (.agg (vw b))), (49, .val (.agg (vw c))), (50, .slc (vw2 b c) 2 24), (51, .val (.agg (vw (jn (jn a b) c)))), (52, .val (.agg (vw (jn a b)))), (53, .val (.agg (vw c))), (54, .slc (vw c) 1 24), (55, .val (.agg (vw (jn (jn a b) c)))), (56, .val (.bool false)), (57, .val (.bool false)), (58, .val (.bool false)), (59, .val (.agg (vw (jn a b)))), (60, .val (.agg (vw c))), (61, .slc (vw c) 1 24), (62, .val (.agg (vw (jn (jn a b) c)))), (63, .val (.agg (vw a))), (64, .val (.agg (vw b))), (65, .val (.agg (vw c))), (66, .slc (vw c) 1 24), (67, .val (.agg (vw (jn b c)))), (68, .slc (vw (jn b c)) 1 24), (69, .val (.agg (vw (jn a (jn b c))))), (70, .val (.bool false)), (71, .val (.bool false))]
def uss3 : List (List Nat) := [[3], [7], [12, 13], [14], [15], [4, 16], [7, 16], [16, 17, 18], [16, 19], [16, 20], [21], [7, 22], [4, 22], [3, 22], [22, 25], [22, 24, 26], [22, 23, 27], [22, 28], [29], [7, 30], [3, 30], [30, 32], [30, 31, 33], [7, 30], [30, 34, 35], [30, 36], [37], [3, 38], [3, 38], [38, 40], [38, 39, 41], [3, 38], [38, 42, 43], [38, 44], [45], [3, 46], [4, 46], [5, 46], [46, 48, 49], [46, 47, 50], [7, 46], [5, 46], [46, 53], [46, 52, 54], [46, 51, 55], [46, 56], [57], [7, 58], [5, 58], [58, 60], [58, 59, 61], [3, 58], [4, 58], [5, 58], [58, 65], [58, 64, 66], [58, 67], [58, 63, 68], [58, 62, 69], [58, 70]]
set_option maxRecDepth 100000 in
set_option maxHeartbeats 4000000 in
theorem joins_any (a b c : Nat → Int) (w : World) (hwk : ∀ w, Calls Try.prog 17 #[] w fun e w' => e = .returned (.bool true) ∧ Below w.heap.size w w') :
    Calls Try.prog 3 #[.agg (vw a), .agg (vw b), .agg (vw c)] w fun e w' => e = .returned (.bool true) ∧ Below w.heap.size w w' := by
  have f1 : leV a (jn a b) = true := (leV_iff _ _).2 fun i _ => mx_le_l _ _
  have f2 : leV b (jn a b) = true := (leV_iff _ _).2 fun i _ => mx_le_r _ _
  have f3 : eqV (jn a b) (jn b a) = true := (eqV_iff _ _).2 fun i _ => mx_comm _ _
  have f4 : eqV (jn (jn a b) a) (jn a b) = true := (eqV_iff _ _).2 fun i _ => mx_absorb _ _
  have f5 : eqV (jn a a) a = true := (eqV_iff _ _).2 fun i _ => mx_self _
  have f6 : eqV (jn (jn a b) c) (jn (jn a b) c) = true := (eqV_iff _ _).2 fun i _ => rfl
  have f7 : eqV (jn (jn a b) c) (jn a (jn b c)) = true := (eqV_iff _ _).2 fun i _ => mx_assoc _ _ _
  go_enter Try.func3, Try.ntmps3
  go_wp2_with fail
  refine (join_1f (f := a) (g := b) ?_).mono ?_
  · go_simp
  rintro e w1 ⟨rfl, hb⟩
  obtain ⟨nj, hnj⟩ : ∃ nj, nj = w1.heap.size := ⟨_, rfl⟩
  have hS : St w [(w1.heap.size, .cells (vw (jn a b)) 24 (0, 0)), (w.heap.size + 1 + 1, .cells (vw c) 24 (0, 0)), (w.heap.size + 1, .cells (vw b) 24 (0, 0)), (w.heap.size, .cells (vw a) 24 (0, 0))] (w1.alloc (.cells (vw (jn a b)) 24 (0, 0))) :=
    ((((((St.refl w).newAt _ _ rfl).newAt _ _ (by simp)).newAt _ _ (by simp)).alloc _).call hb).new _
  clear hb
  go_upto_region 2 with fail
  rw [← hnj] at hS ⊢
  generalize w1.alloc (.cells (vw (jn a b)) 24 (0, 0)) = w2 at hS ⊢
  clear hnj
  obtain ⟨gB, ⟨s3, g3⟩, ⟨s2, g2⟩, ⟨s1, g1⟩, ⟨s0, g0⟩, _⟩ := hS.drew
  refine wp_region_tab (base3 w nj) (tab3 a b c) uss3 60 rfl (by kernel_rfl) (by kernel_rfl) (by kernel_rfl) _ (by kernel_rfl) (by kernel_rfl) _ ?_ ?_ ?_
  · intro p hp
    simp only [base3, List.mem_cons, List.not_mem_nil, or_false] at hp
    rcases hp with rfl | rfl | rfl | rfl <;> exact rfl
  · refine ⟨⟨⟨⟨⟨⟨⟨⟨⟨⟨⟨⟨⟨⟨⟨⟨⟨⟨⟨⟨⟨⟨⟨⟨⟨⟨⟨⟨⟨⟨⟨⟨⟨⟨⟨⟨⟨⟨⟨⟨⟨⟨⟨⟨⟨⟨⟨⟨⟨⟨⟨⟨⟨⟨⟨⟨⟨⟨⟨⟨trivial, ?_⟩, ?_⟩, ?_⟩, ?_⟩, ?_⟩, ?_⟩, ?_⟩, ?_⟩, ?_⟩, ?_⟩, ?_⟩, ?_⟩, ?_⟩, ?_⟩, ?_⟩, ?_⟩, ?_⟩, ?_⟩, ?_⟩, ?_⟩, ?_⟩, ?_⟩, ?_⟩, ?_⟩, ?_⟩, ?_⟩, ?_⟩, ?_⟩, ?_⟩, ?_⟩, ?_⟩, ?_⟩, ?_⟩, ?_⟩, ?_⟩, ?_⟩, ?_⟩, ?_⟩, ?_⟩, ?_⟩, ?_⟩, ?_⟩, ?_⟩, ?_⟩, ?_⟩, ?_⟩, ?_⟩, ?_⟩, ?_⟩, ?_⟩, ?_⟩, ?_⟩, ?_⟩, ?_⟩, ?_⟩, ?_⟩, ?_⟩, ?_⟩, ?_⟩, ?_⟩
    · refine Ob.value rfl (fun ac wd hg hu => ?_)
      have f3 : ac.tmps.getD 3 undef = .pointer (some ⟨w.heap.size, 0, none⟩) := hu 3 (by decide)
      have gg := blk_grow hg s0 g0
      refine ⟨rfl, .agg (vw a), ?_, fun d hd => by cases hd; exact rfl⟩
      go_simp
    · refine Ob.value rfl (fun ac wd hg hu => ?_)
      have f7 : ac.tmps.getD 7 undef = .pointer (some ⟨nj, 0, none⟩) := hu 7 (by decide)
      have gg := blk_grow hg s3 g3
      refine ⟨rfl, .agg (vw (jn a b)), ?_, fun d hd => by cases hd; exact rfl⟩
      go_simp
    · refine Ob.call rfl (fun ac wd hg hu => ?_)
      have f12 : ac.tmps.getD 12 undef = .agg (vw a) := hu 12 (by decide)
      have f13 : ac.tmps.getD 13 undef = .agg (vw (jn a b)) := hu 13 (by decide)
      refine ⟨rfl, 15, #[.agg (vw a), .agg (vw (jn a b))], ?_, ?_⟩
      · go_simp
      · exact (within_f a (jn a b) wd).mono fun e w' ⟨he, hb⟩ => ⟨.bool true, by rw [he, f1], hb, fun d hd => by cases hd; exact rfl⟩
    · refine Ob.value rfl (fun ac wd hg hu => ?_)
      have f14 : ac.tmps.getD 14 undef = .bool true := hu 14 (by decide)
      refine ⟨rfl, .bool false, ?_, fun d hd => by cases hd; exact rfl⟩
      go_simp
    · refine Ob.value rfl (fun ac wd hg hu => ?_)
      have f15 : ac.tmps.getD 15 undef = .bool false := hu 15 (by decide)
      refine ⟨rfl, .bool false, ?_, fun d hd => by cases hd; exact rfl⟩
      go_simp
    · refine Ob.value rfl (fun ac wd hg hu => ?_)
      have f4 : ac.tmps.getD 4 undef = .pointer (some ⟨w.heap.size + 1, 0, none⟩) := hu 4 (by decide)
      have f16 : ac.tmps.getD 16 undef = .bool false := hu 16 (by decide)
      have gg := blk_grow hg s1 g1
      refine ⟨wanted_yes rfl rfl (f16), .agg (vw b), ?_, fun d hd => by cases hd; exact rfl⟩
      go_simp
    · refine Ob.value rfl (fun ac wd hg hu => ?_)
      have f7 : ac.tmps.getD 7 undef = .pointer (some ⟨nj, 0, none⟩) := hu 7 (by decide)
      have f16 : ac.tmps.getD 16 undef = .bool false := hu 16 (by decide)
      have gg := blk_grow hg s3 g3
      refine ⟨wanted_yes rfl rfl (f16), .agg (vw (jn a b)), ?_, fun d hd => by cases hd; exact rfl⟩
      go_simp
    · refine Ob.call rfl (fun ac wd hg hu => ?_)
      have f16 : ac.tmps.getD 16 undef = .bool false := hu 16 (by decide)
      have f17 : ac.tmps.getD 17 undef = .agg (vw b) := hu 17 (by decide)
      have f18 : ac.tmps.getD 18 undef = .agg (vw (jn a b)) := hu 18 (by decide)
      refine ⟨wanted_yes rfl rfl (f16), 15, #[.agg (vw b), .agg (vw (jn a b))], ?_, ?_⟩
      · go_simp
      · exact (within_f b (jn a b) wd).mono fun e w' ⟨he, hb⟩ => ⟨.bool true, by rw [he, f2], hb, fun d hd => by cases hd; exact rfl⟩
    · refine Ob.value rfl (fun ac wd hg hu => ?_)
      have f16 : ac.tmps.getD 16 undef = .bool false := hu 16 (by decide)
      have f19 : ac.tmps.getD 19 undef = .bool true := hu 19 (by decide)
      refine ⟨wanted_yes rfl rfl (f16), .bool false, ?_, fun d hd => by cases hd; exact rfl⟩
      go_simp
    · refine Ob.value rfl (fun ac wd hg hu => ?_)
      have f16 : ac.tmps.getD 16 undef = .bool false := hu 16 (by decide)
      have f20 : ac.tmps.getD 20 undef = .bool false := hu 20 (by decide)
      refine ⟨rfl, .bool false, ?_, fun d hd => by cases hd; exact rfl⟩
      go_simp
    · refine Ob.value rfl (fun ac wd hg hu => ?_)
      have f21 : ac.tmps.getD 21 undef = .bool false := hu 21 (by decide)
      refine ⟨rfl, .bool false, ?_, fun d hd => by cases hd; exact rfl⟩
      go_simp
    · refine Ob.value rfl (fun ac wd hg hu => ?_)
      have f7 : ac.tmps.getD 7 undef = .pointer (some ⟨nj, 0, none⟩) := hu 7 (by decide)
      have f22 : ac.tmps.getD 22 undef = .bool false := hu 22 (by decide)
      have gg := blk_grow hg s3 g3
      refine ⟨wanted_yes rfl rfl (f22), .agg (vw (jn a b)), ?_, fun d hd => by cases hd; exact rfl⟩
      go_simp
    · refine Ob.value rfl (fun ac wd hg hu => ?_)
      have f4 : ac.tmps.getD 4 undef = .pointer (some ⟨w.heap.size + 1, 0, none⟩) := hu 4 (by decide)
      have f22 : ac.tmps.getD 22 undef = .bool false := hu 22 (by decide)
      have gg := blk_grow hg s1 g1
      refine ⟨wanted_yes rfl rfl (f22), .agg (vw b), ?_, fun d hd => by cases hd; exact rfl⟩
      go_simp
    · refine Ob.value rfl (fun ac wd hg hu => ?_)
      have f3 : ac.tmps.getD 3 undef = .pointer (some ⟨w.heap.size, 0, none⟩) := hu 3 (by decide)
      have f22 : ac.tmps.getD 22 undef = .bool false := hu 22 (by decide)
      have gg := blk_grow hg s0 g0
      refine ⟨wanted_yes rfl rfl (f22), .agg (vw a), ?_, fun d hd => by cases hd; exact rfl⟩
      go_simp
    · refine Ob.grows rfl (fun ac wd hg hu => ?_)
      have f22 : ac.tmps.getD 22 undef = .bool false := hu 22 (by decide)
      have f25 : ac.tmps.getD 25 undef = .agg (vw a) := hu 25 (by decide)
      have n22 := f22
      simp only [Array.getD_eq_getD_getElem?] at n22
      have n25 := f25
      simp only [Array.getD_eq_getD_getElem?] at n25
      refine ⟨wanted_yes rfl rfl (f22), .slice (some ⟨wd.heap.size, 0, none⟩) 1 1, wd.alloc (.cells (vw a) 24), ?_, (Below.refl _ _).alloc (Nat.le_refl _) _, fun d hd => by cases hd; exact ⟨_, rfl, by simp, ba_alloc_at _ _ _ rfl⟩⟩
      go_simp
    · refine Ob.call rfl (fun ac wd hg hu => ?_)
      have f22 : ac.tmps.getD 22 undef = .bool false := hu 22 (by decide)
      have f24 : ac.tmps.getD 24 undef = .agg (vw b) := hu 24 (by decide)
      obtain ⟨b26, f26, l26, m26⟩ := hu 26 (by decide)
      refine ⟨wanted_yes rfl rfl (f22), 14, #[.agg (vw b), .slice (some ⟨b26, 0, none⟩) 1 1], ?_, ?_⟩
      · go_simp
      · exact (join_1f (f := b) m26).mono fun e w' ⟨he, hb⟩ => ⟨.agg (vw (jn b a)), he, hb, fun d hd => by cases hd; exact rfl⟩
    · refine Ob.value rfl (fun ac wd hg hu => ?_)
      have f22 : ac.tmps.getD 22 undef = .bool false := hu 22 (by decide)
      have f23 : ac.tmps.getD 23 undef = .agg (vw (jn a b)) := hu 23 (by decide)
      have f27 : ac.tmps.getD 27 undef = .agg (vw (jn b a)) := hu 27 (by decide)
      have ff := f3
      refine ⟨wanted_yes rfl rfl (f22), .bool false, ?_, fun d hd => by cases hd; exact rfl⟩
      go_simp
    · refine Ob.value rfl (fun ac wd hg hu => ?_)
      have f22 : ac.tmps.getD 22 undef = .bool false := hu 22 (by decide)
      have f28 : ac.tmps.getD 28 undef = .bool false := hu 28 (by decide)
      refine ⟨rfl, .bool false, ?_, fun d hd => by cases hd; exact rfl⟩
      go_simp
    · refine Ob.value rfl (fun ac wd hg hu => ?_)
      have f29 : ac.tmps.getD 29 undef = .bool false := hu 29 (by decide)
      refine ⟨rfl, .bool false, ?_, fun d hd => by cases hd; exact rfl⟩
      go_simp
    · refine Ob.value rfl (fun ac wd hg hu => ?_)
      have f7 : ac.tmps.getD 7 undef = .pointer (some ⟨nj, 0, none⟩) := hu 7 (by decide)
      have f30 : ac.tmps.getD 30 undef = .bool false := hu 30 (by decide)
      have gg := blk_grow hg s3 g3
      refine ⟨wanted_yes rfl rfl (f30), .agg (vw (jn a b)), ?_, fun d hd => by cases hd; exact rfl⟩
      go_simp
    · refine Ob.value rfl (fun ac wd hg hu => ?_)
      have f3 : ac.tmps.getD 3 undef = .pointer (some ⟨w.heap.size, 0, none⟩) := hu 3 (by decide)
      have f30 : ac.tmps.getD 30 undef = .bool false := hu 30 (by decide)
      have gg := blk_grow hg s0 g0
      refine ⟨wanted_yes rfl rfl (f30), .agg (vw a), ?_, fun d hd => by cases hd; exact rfl⟩
      go_simp
    · refine Ob.grows rfl (fun ac wd hg hu => ?_)
      have f30 : ac.tmps.getD 30 undef = .bool false := hu 30 (by decide)
      have f32 : ac.tmps.getD 32 undef = .agg (vw a) := hu 32 (by decide)
      have n30 := f30
      simp only [Array.getD_eq_getD_getElem?] at n30
      have n32 := f32
      simp only [Array.getD_eq_getD_getElem?] at n32
      refine ⟨wanted_yes rfl rfl (f30), .slice (some ⟨wd.heap.size, 0, none⟩) 1 1, wd.alloc (.cells (vw a) 24), ?_, (Below.refl _ _).alloc (Nat.le_refl _) _, fun d hd => by cases hd; exact ⟨_, rfl, by simp, ba_alloc_at _ _ _ rfl⟩⟩
      go_simp
    · refine Ob.call rfl (fun ac wd hg hu => ?_)
      have f30 : ac.tmps.getD 30 undef = .bool false := hu 30 (by decide)
      have f31 : ac.tmps.getD 31 undef = .agg (vw (jn a b)) := hu 31 (by decide)
      obtain ⟨b33, f33, l33, m33⟩ := hu 33 (by decide)
      refine ⟨wanted_yes rfl rfl (f30), 14, #[.agg (vw (jn a b)), .slice (some ⟨b33, 0, none⟩) 1 1], ?_, ?_⟩
      · go_simp
      · exact (join_1f (f := (jn a b)) m33).mono fun e w' ⟨he, hb⟩ => ⟨.agg (vw (jn (jn a b) a)), he, hb, fun d hd => by cases hd; exact rfl⟩
    · refine Ob.value rfl (fun ac wd hg hu => ?_)
      have f7 : ac.tmps.getD 7 undef = .pointer (some ⟨nj, 0, none⟩) := hu 7 (by decide)
      have f30 : ac.tmps.getD 30 undef = .bool false := hu 30 (by decide)
      have gg := blk_grow hg s3 g3
      refine ⟨wanted_yes rfl rfl (f30), .agg (vw (jn a b)), ?_, fun d hd => by cases hd; exact rfl⟩
      go_simp
    · refine Ob.value rfl (fun ac wd hg hu => ?_)
      have f30 : ac.tmps.getD 30 undef = .bool false := hu 30 (by decide)
      have f34 : ac.tmps.getD 34 undef = .agg (vw (jn (jn a b) a)) := hu 34 (by decide)
      have f35 : ac.tmps.getD 35 undef = .agg (vw (jn a b)) := hu 35 (by decide)
      have ff := f4
      refine ⟨wanted_yes rfl rfl (f30), .bool false, ?_, fun d hd => by cases hd; exact rfl⟩
      go_simp
    · refine Ob.value rfl (fun ac wd hg hu => ?_)
      have f30 : ac.tmps.getD 30 undef = .bool false := hu 30 (by decide)
      have f36 : ac.tmps.getD 36 undef = .bool false := hu 36 (by decide)
      refine ⟨rfl, .bool false, ?_, fun d hd => by cases hd; exact rfl⟩
      go_simp
    · refine Ob.value rfl (fun ac wd hg hu => ?_)
      have f37 : ac.tmps.getD 37 undef = .bool false := hu 37 (by decide)
      refine ⟨rfl, .bool false, ?_, fun d hd => by cases hd; exact rfl⟩
      go_simp
    · refine Ob.value rfl (fun ac wd hg hu => ?_)
      have f3 : ac.tmps.getD 3 undef = .pointer (some ⟨w.heap.size, 0, none⟩) := hu 3 (by decide)
      have f38 : ac.tmps.getD 38 undef = .bool false := hu 38 (by decide)
      have gg := blk_grow hg s0 g0
      refine ⟨wanted_yes rfl rfl (f38), .agg (vw a), ?_, fun d hd => by cases hd; exact rfl⟩
      go_simp
    · refine Ob.value rfl (fun ac wd hg hu => ?_)
      have f3 : ac.tmps.getD 3 undef = .pointer (some ⟨w.heap.size, 0, none⟩) := hu 3 (by decide)
      have f38 : ac.tmps.getD 38 undef = .bool false := hu 38 (by decide)
      have gg := blk_grow hg s0 g0
      refine ⟨wanted_yes rfl rfl (f38), .agg (vw a), ?_, fun d hd => by cases hd; exact rfl⟩
      go_simp
    · refine Ob.grows rfl (fun ac wd hg hu => ?_)
      have f38 : ac.tmps.getD 38 undef = .bool false := hu 38 (by decide)
      have f40 : ac.tmps.getD 40 undef = .agg (vw a) := hu 40 (by decide)
      have n38 := f38
      simp only [Array.getD_eq_getD_getElem?] at n38
      have n40 := f40
      simp only [Array.getD_eq_getD_getElem?] at n40
      refine ⟨wanted_yes rfl rfl (f38), .slice (some ⟨wd.heap.size, 0, none⟩) 1 1, wd.alloc (.cells (vw a) 24), ?_, (Below.refl _ _).alloc (Nat.le_refl _) _, fun d hd => by cases hd; exact ⟨_, rfl, by simp, ba_alloc_at _ _ _ rfl⟩⟩
      go_simp
    · refine Ob.call rfl (fun ac wd hg hu => ?_)
      have f38 : ac.tmps.getD 38 undef = .bool false := hu 38 (by decide)
      have f39 : ac.tmps.getD 39 undef = .agg (vw a) := hu 39 (by decide)
      obtain ⟨b41, f41, l41, m41⟩ := hu 41 (by decide)
      refine ⟨wanted_yes rfl rfl (f38), 14, #[.agg (vw a), .slice (some ⟨b41, 0, none⟩) 1 1], ?_, ?_⟩
      · go_simp
      · exact (join_1f (f := a) m41).mono fun e w' ⟨he, hb⟩ => ⟨.agg (vw (jn a a)), he, hb, fun d hd => by cases hd; exact rfl⟩
    · refine Ob.value rfl (fun ac wd hg hu => ?_)
      have f3 : ac.tmps.getD 3 undef = .pointer (some ⟨w.heap.size, 0, none⟩) := hu 3 (by decide)
      have f38 : ac.tmps.getD 38 undef = .bool false := hu 38 (by decide)
      have gg := blk_grow hg s0 g0
      refine ⟨wanted_yes rfl rfl (f38), .agg (vw a), ?_, fun d hd => by cases hd; exact rfl⟩
      go_simp
    · refine Ob.value rfl (fun ac wd hg hu => ?_)
      have f38 : ac.tmps.getD 38 undef = .bool false := hu 38 (by decide)
      have f42 : ac.tmps.getD 42 undef = .agg (vw (jn a a)) := hu 42 (by decide)
      have f43 : ac.tmps.getD 43 undef = .agg (vw a) := hu 43 (by decide)
      have ff := f5
      refine ⟨wanted_yes rfl rfl (f38), .bool false, ?_, fun d hd => by cases hd; exact rfl⟩
      go_simp
    · refine Ob.value rfl (fun ac wd hg hu => ?_)
      have f38 : ac.tmps.getD 38 undef = .bool false := hu 38 (by decide)
      have f44 : ac.tmps.getD 44 undef = .bool false := hu 44 (by decide)
      refine ⟨rfl, .bool false, ?_, fun d hd => by cases hd; exact rfl⟩
      go_simp
    · refine Ob.value rfl (fun ac wd hg hu => ?_)
      have f45 : ac.tmps.getD 45 undef = .bool false := hu 45 (by decide)
      refine ⟨rfl, .bool false, ?_, fun d hd => by cases hd; exact rfl⟩
      go_simp
    · refine Ob.value rfl (fun ac wd hg hu => ?_)
      have f3 : ac.tmps.getD 3 undef = .pointer (some ⟨w.heap.size, 0, none⟩) := hu 3 (by decide)
      have f46 : ac.tmps.getD 46 undef = .bool false := hu 46 (by decide)
      have gg := blk_grow hg s0 g0
      refine ⟨wanted_yes rfl rfl (f46), .agg (vw a), ?_, fun d hd => by cases hd; exact rfl⟩
      go_simp
    · refine Ob.value rfl (fun ac wd hg hu => ?_)
      have f4 : ac.tmps.getD 4 undef = .pointer (some ⟨w.heap.size + 1, 0, none⟩) := hu 4 (by decide)
      have f46 : ac.tmps.getD 46 undef = .bool false := hu 46 (by decide)
      have gg := blk_grow hg s1 g1
      refine ⟨wanted_yes rfl rfl (f46), .agg (vw b), ?_, fun d hd => by cases hd; exact rfl⟩
      go_simp
    · refine Ob.value rfl (fun ac wd hg hu => ?_)
      have f5 : ac.tmps.getD 5 undef = .pointer (some ⟨w.heap.size + 1 + 1, 0, none⟩) := hu 5 (by decide)
      have f46 : ac.tmps.getD 46 undef = .bool false := hu 46 (by decide)
      have gg := blk_grow hg s2 g2
      refine ⟨wanted_yes rfl rfl (f46), .agg (vw c), ?_, fun d hd => by cases hd; exact rfl⟩
      go_simp
    · refine Ob.grows rfl (fun ac wd hg hu => ?_)
      have f46 : ac.tmps.getD 46 undef = .bool false := hu 46 (by decide)
      have f48 : ac.tmps.getD 48 undef = .agg (vw b) := hu 48 (by decide)
      have f49 : ac.tmps.getD 49 undef = .agg (vw c) := hu 49 (by decide)
      have n46 := f46
      simp only [Array.getD_eq_getD_getElem?] at n46
      have n48 := f48
      simp only [Array.getD_eq_getD_getElem?] at n48
      have n49 := f49
      simp only [Array.getD_eq_getD_getElem?] at n49
      refine ⟨wanted_yes rfl rfl (f46), .slice (some ⟨wd.heap.size, 0, none⟩) 2 2, wd.alloc (.cells (vw2 b c) 24), ?_, (Below.refl _ _).alloc (Nat.le_refl _) _, fun d hd => by cases hd; exact ⟨_, rfl, by simp, ba_alloc_at _ _ _ rfl⟩⟩
      go_simp
    · refine Ob.call rfl (fun ac wd hg hu => ?_)
      have f46 : ac.tmps.getD 46 undef = .bool false := hu 46 (by decide)
      have f47 : ac.tmps.getD 47 undef = .agg (vw a) := hu 47 (by decide)
      obtain ⟨b50, f50, l50, m50⟩ := hu 50 (by decide)
      refine ⟨wanted_yes rfl rfl (f46), 14, #[.agg (vw a), .slice (some ⟨b50, 0, none⟩) 2 2], ?_, ?_⟩
      · go_simp
      · exact (join_2f (f := a) m50).mono fun e w' ⟨he, hb⟩ => ⟨.agg (vw (jn (jn a b) c)), he, hb, fun d hd => by cases hd; exact rfl⟩
    · refine Ob.value rfl (fun ac wd hg hu => ?_)
      have f7 : ac.tmps.getD 7 undef = .pointer (some ⟨nj, 0, none⟩) := hu 7 (by decide)
      have f46 : ac.tmps.getD 46 undef = .bool false := hu 46 (by decide)
      have gg := blk_grow hg s3 g3
      refine ⟨wanted_yes rfl rfl (f46), .agg (vw (jn a b)), ?_, fun d hd => by cases hd; exact rfl⟩
      go_simp
    · refine Ob.value rfl (fun ac wd hg hu => ?_)
      have f5 : ac.tmps.getD 5 undef = .pointer (some ⟨w.heap.size + 1 + 1, 0, none⟩) := hu 5 (by decide)
      have f46 : ac.tmps.getD 46 undef = .bool false := hu 46 (by decide)
      have gg := blk_grow hg s2 g2
      refine ⟨wanted_yes rfl rfl (f46), .agg (vw c), ?_, fun d hd => by cases hd; exact rfl⟩
      go_simp
    · refine Ob.grows rfl (fun ac wd hg hu => ?_)
      have f46 : ac.tmps.getD 46 undef = .bool false := hu 46 (by decide)
      have f53 : ac.tmps.getD 53 undef = .agg (vw c) := hu 53 (by decide)
      have n46 := f46
      simp only [Array.getD_eq_getD_getElem?] at n46
      have n53 := f53
      simp only [Array.getD_eq_getD_getElem?] at n53
      refine ⟨wanted_yes rfl rfl (f46), .slice (some ⟨wd.heap.size, 0, none⟩) 1 1, wd.alloc (.cells (vw c) 24), ?_, (Below.refl _ _).alloc (Nat.le_refl _) _, fun d hd => by cases hd; exact ⟨_, rfl, by simp, ba_alloc_at _ _ _ rfl⟩⟩
      go_simp
    · refine Ob.call rfl (fun ac wd hg hu => ?_)
      have f46 : ac.tmps.getD 46 undef = .bool false := hu 46 (by decide)
      have f52 : ac.tmps.getD 52 undef = .agg (vw (jn a b)) := hu 52 (by decide)
      obtain ⟨b54, f54, l54, m54⟩ := hu 54 (by decide)
      refine ⟨wanted_yes rfl rfl (f46), 14, #[.agg (vw (jn a b)), .slice (some ⟨b54, 0, none⟩) 1 1], ?_, ?_⟩
      · go_simp
      · exact (join_1f (f := (jn a b)) m54).mono fun e w' ⟨he, hb⟩ => ⟨.agg (vw (jn (jn a b) c)), he, hb, fun d hd => by cases hd; exact rfl⟩
    · refine Ob.value rfl (fun ac wd hg hu => ?_)
      have f46 : ac.tmps.getD 46 undef = .bool false := hu 46 (by decide)
      have f51 : ac.tmps.getD 51 undef = .agg (vw (jn (jn a b) c)) := hu 51 (by decide)
      have f55 : ac.tmps.getD 55 undef = .agg (vw (jn (jn a b) c)) := hu 55 (by decide)
      have ff := f6
      refine ⟨wanted_yes rfl rfl (f46), .bool false, ?_, fun d hd => by cases hd; exact rfl⟩
      go_simp
    · refine Ob.value rfl (fun ac wd hg hu => ?_)
      have f46 : ac.tmps.getD 46 undef = .bool false := hu 46 (by decide)
      have f56 : ac.tmps.getD 56 undef = .bool false := hu 56 (by decide)
      refine ⟨rfl, .bool false, ?_, fun d hd => by cases hd; exact rfl⟩
      go_simp
    · refine Ob.value rfl (fun ac wd hg hu => ?_)
      have f57 : ac.tmps.getD 57 undef = .bool false := hu 57 (by decide)
      refine ⟨rfl, .bool false, ?_, fun d hd => by cases hd; exact rfl⟩
      go_simp
    · refine Ob.value rfl (fun ac wd hg hu => ?_)
      have f7 : ac.tmps.getD 7 undef = .pointer (some ⟨nj, 0, none⟩) := hu 7 (by decide)
      have f58 : ac.tmps.getD 58 undef = .bool false := hu 58 (by decide)
      have gg := blk_grow hg s3 g3
      refine ⟨wanted_yes rfl rfl (f58), .agg (vw (jn a b)), ?_, fun d hd => by cases hd; exact rfl⟩
      go_simp
    · refine Ob.value rfl (fun ac wd hg hu => ?_)
      have f5 : ac.tmps.getD 5 undef = .pointer (some ⟨w.heap.size + 1 + 1, 0, none⟩) := hu 5 (by decide)
      have f58 : ac.tmps.getD 58 undef = .bool false := hu 58 (by decide)
      have gg := blk_grow hg s2 g2
      refine ⟨wanted_yes rfl rfl (f58), .agg (vw c), ?_, fun d hd => by cases hd; exact rfl⟩
      go_simp
    · refine Ob.grows rfl (fun ac wd hg hu => ?_)
      have f58 : ac.tmps.getD 58 undef = .bool false := hu 58 (by decide)
      have f60 : ac.tmps.getD 60 undef = .agg (vw c) := hu 60 (by decide)
      have n58 := f58
      simp only [Array.getD_eq_getD_getElem?] at n58
      have n60 := f60
      simp only [Array.getD_eq_getD_getElem?] at n60
      refine ⟨wanted_yes rfl rfl (f58), .slice (some ⟨wd.heap.size, 0, none⟩) 1 1, wd.alloc (.cells (vw c) 24), ?_, (Below.refl _ _).alloc (Nat.le_refl _) _, fun d hd => by cases hd; exact ⟨_, rfl, by simp, ba_alloc_at _ _ _ rfl⟩⟩
      go_simp
    · refine Ob.call rfl (fun ac wd hg hu => ?_)
      have f58 : ac.tmps.getD 58 undef = .bool false := hu 58 (by decide)
      have f59 : ac.tmps.getD 59 undef = .agg (vw (jn a b)) := hu 59 (by decide)
      obtain ⟨b61, f61, l61, m61⟩ := hu 61 (by decide)
      refine ⟨wanted_yes rfl rfl (f58), 14, #[.agg (vw (jn a b)), .slice (some ⟨b61, 0, none⟩) 1 1], ?_, ?_⟩
      · go_simp
      · exact (join_1f (f := (jn a b)) m61).mono fun e w' ⟨he, hb⟩ => ⟨.agg (vw (jn (jn a b) c)), he, hb, fun d hd => by cases hd; exact rfl⟩
    · refine Ob.value rfl (fun ac wd hg hu => ?_)
      have f3 : ac.tmps.getD 3 undef = .pointer (some ⟨w.heap.size, 0, none⟩) := hu 3 (by decide)
      have f58 : ac.tmps.getD 58 undef = .bool false := hu 58 (by decide)
      have gg := blk_grow hg s0 g0
      refine ⟨wanted_yes rfl rfl (f58), .agg (vw a), ?_, fun d hd => by cases hd; exact rfl⟩
      go_simp
    · refine Ob.value rfl (fun ac wd hg hu => ?_)
      have f4 : ac.tmps.getD 4 undef = .pointer (some ⟨w.heap.size + 1, 0, none⟩) := hu 4 (by decide)
      have f58 : ac.tmps.getD 58 undef = .bool false := hu 58 (by decide)
      have gg := blk_grow hg s1 g1
      refine ⟨wanted_yes rfl rfl (f58), .agg (vw b), ?_, fun d hd => by cases hd; exact rfl⟩
      go_simp
    · refine Ob.value rfl (fun ac wd hg hu => ?_)
      have f5 : ac.tmps.getD 5 undef = .pointer (some ⟨w.heap.size + 1 + 1, 0, none⟩) := hu 5 (by decide)
      have f58 : ac.tmps.getD 58 undef = .bool false := hu 58 (by decide)
      have gg := blk_grow hg s2 g2
      refine ⟨wanted_yes rfl rfl (f58), .agg (vw c), ?_, fun d hd => by cases hd; exact rfl⟩
      go_simp
    · refine Ob.grows rfl (fun ac wd hg hu => ?_)
      have f58 : ac.tmps.getD 58 undef = .bool false := hu 58 (by decide)
      have f65 : ac.tmps.getD 65 undef = .agg (vw c) := hu 65 (by decide)
      have n58 := f58
      simp only [Array.getD_eq_getD_getElem?] at n58
      have n65 := f65
      simp only [Array.getD_eq_getD_getElem?] at n65
      refine ⟨wanted_yes rfl rfl (f58), .slice (some ⟨wd.heap.size, 0, none⟩) 1 1, wd.alloc (.cells (vw c) 24), ?_, (Below.refl _ _).alloc (Nat.le_refl _) _, fun d hd => by cases hd; exact ⟨_, rfl, by simp, ba_alloc_at _ _ _ rfl⟩⟩
      go_simp
    · refine Ob.call rfl (fun ac wd hg hu => ?_)
      have f58 : ac.tmps.getD 58 undef = .bool false := hu 58 (by decide)
      have f64 : ac.tmps.getD 64 undef = .agg (vw b) := hu 64 (by decide)
      obtain ⟨b66, f66, l66, m66⟩ := hu 66 (by decide)
      refine ⟨wanted_yes rfl rfl (f58), 14, #[.agg (vw b), .slice (some ⟨b66, 0, none⟩) 1 1], ?_, ?_⟩
      · go_simp
      · exact (join_1f (f := b) m66).mono fun e w' ⟨he, hb⟩ => ⟨.agg (vw (jn b c)), he, hb, fun d hd => by cases hd; exact rfl⟩
    · refine Ob.grows rfl (fun ac wd hg hu => ?_)
      have f58 : ac.tmps.getD 58 undef = .bool false := hu 58 (by decide)
      have f67 : ac.tmps.getD 67 undef = .agg (vw (jn b c)) := hu 67 (by decide)
      have n58 := f58
      simp only [Array.getD_eq_getD_getElem?] at n58
      have n67 := f67
      simp only [Array.getD_eq_getD_getElem?] at n67
      refine ⟨wanted_yes rfl rfl (f58), .slice (some ⟨wd.heap.size, 0, none⟩) 1 1, wd.alloc (.cells (vw (jn b c)) 24), ?_, (Below.refl _ _).alloc (Nat.le_refl _) _, fun d hd => by cases hd; exact ⟨_, rfl, by simp, ba_alloc_at _ _ _ rfl⟩⟩
      go_simp
    · refine Ob.call rfl (fun ac wd hg hu => ?_)
      have f58 : ac.tmps.getD 58 undef = .bool false := hu 58 (by decide)
      have f63 : ac.tmps.getD 63 undef = .agg (vw a) := hu 63 (by decide)
      obtain ⟨b68, f68, l68, m68⟩ := hu 68 (by decide)
      refine ⟨wanted_yes rfl rfl (f58), 14, #[.agg (vw a), .slice (some ⟨b68, 0, none⟩) 1 1], ?_, ?_⟩
      · go_simp
      · exact (join_1f (f := a) m68).mono fun e w' ⟨he, hb⟩ => ⟨.agg (vw (jn a (jn b c))), he, hb, fun d hd => by cases hd; exact rfl⟩
    · refine Ob.value rfl (fun ac wd hg hu => ?_)
      have f58 : ac.tmps.getD 58 undef = .bool false := hu 58 (by decide)
      have f62 : ac.tmps.getD 62 undef = .agg (vw (jn (jn a b) c)) := hu 62 (by decide)
      have f69 : ac.tmps.getD 69 undef = .agg (vw (jn a (jn b c))) := hu 69 (by decide)
      have ff := f7
      refine ⟨wanted_yes rfl rfl (f58), .bool false, ?_, fun d hd => by cases hd; exact rfl⟩
      go_simp
    · refine Ob.value rfl (fun ac wd hg hu => ?_)
      have f58 : ac.tmps.getD 58 undef = .bool false := hu 58 (by decide)
      have f70 : ac.tmps.getD 70 undef = .bool false := hu 70 (by decide)
      refine ⟨rfl, .bool false, ?_, fun d hd => by cases hd; exact rfl⟩
      go_simp
  · intro t w' hs hg hR hun
    have e := frame_lit t 116 hs
    have h3 : t.getD 3 undef = .pointer (some ⟨w.heap.size, 0, none⟩) := hun 3 (by kernel_rfl)
    have h4 : t.getD 4 undef = .pointer (some ⟨w.heap.size + 1, 0, none⟩) := hun 4 (by kernel_rfl)
    have h5 : t.getD 5 undef = .pointer (some ⟨w.heap.size + 1 + 1, 0, none⟩) := hun 5 (by kernel_rfl)
    have h6 : t.getD 6 undef = .bool false := hun 6 (by kernel_rfl)
    have h7 : t.getD 7 undef = .pointer (some ⟨nj, 0, none⟩) := hun 7 (by kernel_rfl)
    have h71 : t.getD 71 undef = .bool false := hR 71
    simp only [List.range, List.range.loop, List.map_cons, List.map_nil, h3, h4, h5, h6, h7, h71] at e
    generalize t.getD 0 undef = x0 at e
    generalize t.getD 1 undef = x1 at e
    generalize t.getD 2 undef = x2 at e
    generalize t.getD 8 undef = x8 at e
    generalize t.getD 9 undef = x9 at e
    generalize t.getD 10 undef = x10 at e
    generalize t.getD 11 undef = x11 at e
    generalize t.getD 12 undef = x12 at e
    generalize t.getD 13 undef = x13 at e
    generalize t.getD 14 undef = x14 at e
    generalize t.getD 15 undef = x15 at e
    generalize t.getD 16 undef = x16 at e
    generalize t.getD 17 undef = x17 at e
    generalize t.getD 18 undef = x18 at e
    generalize t.getD 19 undef = x19 at e
    generalize t.getD 20 undef = x20 at e
    generalize t.getD 21 undef = x21 at e
    generalize t.getD 22 undef = x22 at e
    generalize t.getD 23 undef = x23 at e
    generalize t.getD 24 undef = x24 at e
    generalize t.getD 25 undef = x25 at e
    generalize t.getD 26 undef = x26 at e
    generalize t.getD 27 undef = x27 at e
    generalize t.getD 28 undef = x28 at e
    generalize t.getD 29 undef = x29 at e
    generalize t.getD 30 undef = x30 at e
    generalize t.getD 31 undef = x31 at e
    generalize t.getD 32 undef = x32 at e
    generalize t.getD 33 undef = x33 at e
    generalize t.getD 34 undef = x34 at e
    generalize t.getD 35 undef = x35 at e
    generalize t.getD 36 undef = x36 at e
    generalize t.getD 37 undef = x37 at e
    generalize t.getD 38 undef = x38 at e
    generalize t.getD 39 undef = x39 at e
    generalize t.getD 40 undef = x40 at e
    generalize t.getD 41 undef = x41 at e
    generalize t.getD 42 undef = x42 at e
    generalize t.getD 43 undef = x43 at e
    generalize t.getD 44 undef = x44 at e
    generalize t.getD 45 undef = x45 at e
    generalize t.getD 46 undef = x46 at e
    generalize t.getD 47 undef = x47 at e
    generalize t.getD 48 undef = x48 at e
    generalize t.getD 49 undef = x49 at e
    generalize t.getD 50 undef = x50 at e
    generalize t.getD 51 undef = x51 at e
    generalize t.getD 52 undef = x52 at e
    generalize t.getD 53 undef = x53 at e
    generalize t.getD 54 undef = x54 at e
    generalize t.getD 55 undef = x55 at e
    generalize t.getD 56 undef = x56 at e
    generalize t.getD 57 undef = x57 at e
    generalize t.getD 58 undef = x58 at e
    generalize t.getD 59 undef = x59 at e
    generalize t.getD 60 undef = x60 at e
    generalize t.getD 61 undef = x61 at e
    generalize t.getD 62 undef = x62 at e
    generalize t.getD 63 undef = x63 at e
    generalize t.getD 64 undef = x64 at e
    generalize t.getD 65 undef = x65 at e
    generalize t.getD 66 undef = x66 at e
    generalize t.getD 67 undef = x67 at e
    generalize t.getD 68 undef = x68 at e
    generalize t.getD 69 undef = x69 at e
    generalize t.getD 70 undef = x70 at e
    generalize t.getD 72 undef = x72 at e
    generalize t.getD 73 undef = x73 at e
    generalize t.getD 74 undef = x74 at e
    generalize t.getD 75 undef = x75 at e
    generalize t.getD 76 undef = x76 at e
    generalize t.getD 77 undef = x77 at e
    generalize t.getD 78 undef = x78 at e
    generalize t.getD 79 undef = x79 at e
    generalize t.getD 80 undef = x80 at e
    generalize t.getD 81 undef = x81 at e
    generalize t.getD 82 undef = x82 at e
    generalize t.getD 83 undef = x83 at e
    generalize t.getD 84 undef = x84 at e
    generalize t.getD 85 undef = x85 at e
    generalize t.getD 86 undef = x86 at e
    generalize t.getD 87 undef = x87 at e
    generalize t.getD 88 undef = x88 at e
    generalize t.getD 89 undef = x89 at e
    generalize t.getD 90 undef = x90 at e
    generalize t.getD 91 undef = x91 at e
    generalize t.getD 92 undef = x92 at e
    generalize t.getD 93 undef = x93 at e
    generalize t.getD 94 undef = x94 at e
    generalize t.getD 95 undef = x95 at e
    generalize t.getD 96 undef = x96 at e
    generalize t.getD 97 undef = x97 at e
    generalize t.getD 98 undef = x98 at e
    generalize t.getD 99 undef = x99 at e
    generalize t.getD 100 undef = x100 at e
    generalize t.getD 101 undef = x101 at e
    generalize t.getD 102 undef = x102 at e
    generalize t.getD 103 undef = x103 at e
    generalize t.getD 104 undef = x104 at e
    generalize t.getD 105 undef = x105 at e
    generalize t.getD 106 undef = x106 at e
    generalize t.getD 107 undef = x107 at e
    generalize t.getD 108 undef = x108 at e
    generalize t.getD 109 undef = x109 at e
    generalize t.getD 110 undef = x110 at e
    generalize t.getD 111 undef = x111 at e
    generalize t.getD 112 undef = x112 at e
    generalize t.getD 113 undef = x113 at e
    generalize t.getD 114 undef = x114 at e
    generalize t.getD 115 undef = x115 at e
    rw [e]
    have hS' := hS.drew.call hg
    clear e hR hun h3 h4 h5 h6 h7 h71 hS hg hs s0 s1 s2 s3 g0 g1 g2 g3 gB
    have hS := hS'
    obtain ⟨gB, ⟨s3, g3⟩, ⟨s2, g2⟩, ⟨s1, g1⟩, ⟨s0, g0⟩, _⟩ := hS'
    go_upto_region 4 with fail
    go_cut [100] from 72 to 100 (fun s wx => s = .bool false ∧ St w [(nj, .cells (vw (jn a b)) 24 (0, 0)), (w.heap.size + 1 + 1, .cells (vw c) 24 (0, 0)), (w.heap.size + 1, .cells (vw b) 24 (0, 0)), (w.heap.size, .cells (vw a) 24 (0, 0))] wx)
    case first =>
      cases hac : leV a c
      · cases hab : leV a b
        · go_wp2_with (first | (go_at_call 15; (with_reducible refine (within_f _ _ _).mono ?_); rintro e w' ⟨rfl, hb⟩; have hS' := St.call (l := [(nj, .cells (vw (jn a b)) 24 (0, 0)), (w.heap.size + 1 + 1, .cells (vw c) 24 (0, 0)), (w.heap.size + 1, .cells (vw b) 24 (0, 0)), (w.heap.size, .cells (vw a) 24 (0, 0))]) (w0 := w) (by repeat (first | assumption | (with_reducible refine St.drew ?_) | (with_reducible refine St.alloc ?_ _))) hb; clear hb gB s0 s1 s2 s3 g0 g1 g2 g3 hS; have hS := hS'; obtain ⟨gB, ⟨s3, g3⟩, ⟨s2, g2⟩, ⟨s1, g1⟩, ⟨s0, g0⟩, _⟩ := hS'))
          go_meet
          exact ⟨rfl, hS⟩
        · cases hba : leV b a
          · go_wp2_with (first | (go_at_call 15; (with_reducible refine (within_f _ _ _).mono ?_); rintro e w' ⟨rfl, hb⟩; have hS' := St.call (l := [(nj, .cells (vw (jn a b)) 24 (0, 0)), (w.heap.size + 1 + 1, .cells (vw c) 24 (0, 0)), (w.heap.size + 1, .cells (vw b) 24 (0, 0)), (w.heap.size, .cells (vw a) 24 (0, 0))]) (w0 := w) (by repeat (first | assumption | (with_reducible refine St.drew ?_) | (with_reducible refine St.alloc ?_ _))) hb; clear hb gB s0 s1 s2 s3 g0 g1 g2 g3 hS; have hS := hS'; obtain ⟨gB, ⟨s3, g3⟩, ⟨s2, g2⟩, ⟨s1, g1⟩, ⟨s0, g0⟩, _⟩ := hS'))
            go_meet
            exact ⟨rfl, hS⟩
          · have heq : eqV a b = true := (eqV_iff _ _).2 fun i hi => Int.le_antisymm ((leV_iff _ _).1 hab i hi) ((leV_iff _ _).1 hba i hi)
            go_wp2_with (first | (go_at_call 15; (with_reducible refine (within_f _ _ _).mono ?_); rintro e w' ⟨rfl, hb⟩; have hS' := St.call (l := [(nj, .cells (vw (jn a b)) 24 (0, 0)), (w.heap.size + 1 + 1, .cells (vw c) 24 (0, 0)), (w.heap.size + 1, .cells (vw b) 24 (0, 0)), (w.heap.size, .cells (vw a) 24 (0, 0))]) (w0 := w) (by repeat (first | assumption | (with_reducible refine St.drew ?_) | (with_reducible refine St.alloc ?_ _))) hb; clear hb gB s0 s1 s2 s3 g0 g1 g2 g3 hS; have hS := hS'; obtain ⟨gB, ⟨s3, g3⟩, ⟨s2, g2⟩, ⟨s1, g1⟩, ⟨s0, g0⟩, _⟩ := hS'))
            go_meet
            exact ⟨rfl, hS⟩
      · cases hbc : leV b c
        · cases hab : leV a b
          · go_wp2_with (first | (go_at_call 15; (with_reducible refine (within_f _ _ _).mono ?_); rintro e w' ⟨rfl, hb⟩; have hS' := St.call (l := [(nj, .cells (vw (jn a b)) 24 (0, 0)), (w.heap.size + 1 + 1, .cells (vw c) 24 (0, 0)), (w.heap.size + 1, .cells (vw b) 24 (0, 0)), (w.heap.size, .cells (vw a) 24 (0, 0))]) (w0 := w) (by repeat (first | assumption | (with_reducible refine St.drew ?_) | (with_reducible refine St.alloc ?_ _))) hb; clear hb gB s0 s1 s2 s3 g0 g1 g2 g3 hS; have hS := hS'; obtain ⟨gB, ⟨s3, g3⟩, ⟨s2, g2⟩, ⟨s1, g1⟩, ⟨s0, g0⟩, _⟩ := hS'))
            go_meet
            exact ⟨rfl, hS⟩
          · cases hba : leV b a
            · go_wp2_with (first | (go_at_call 15; (with_reducible refine (within_f _ _ _).mono ?_); rintro e w' ⟨rfl, hb⟩; have hS' := St.call (l := [(nj, .cells (vw (jn a b)) 24 (0, 0)), (w.heap.size + 1 + 1, .cells (vw c) 24 (0, 0)), (w.heap.size + 1, .cells (vw b) 24 (0, 0)), (w.heap.size, .cells (vw a) 24 (0, 0))]) (w0 := w) (by repeat (first | assumption | (with_reducible refine St.drew ?_) | (with_reducible refine St.alloc ?_ _))) hb; clear hb gB s0 s1 s2 s3 g0 g1 g2 g3 hS; have hS := hS'; obtain ⟨gB, ⟨s3, g3⟩, ⟨s2, g2⟩, ⟨s1, g1⟩, ⟨s0, g0⟩, _⟩ := hS'))
              go_meet
              exact ⟨rfl, hS⟩
            · have heq : eqV a b = true := (eqV_iff _ _).2 fun i hi => Int.le_antisymm ((leV_iff _ _).1 hab i hi) ((leV_iff _ _).1 hba i hi)
              go_wp2_with (first | (go_at_call 15; (with_reducible refine (within_f _ _ _).mono ?_); rintro e w' ⟨rfl, hb⟩; have hS' := St.call (l := [(nj, .cells (vw (jn a b)) 24 (0, 0)), (w.heap.size + 1 + 1, .cells (vw c) 24 (0, 0)), (w.heap.size + 1, .cells (vw b) 24 (0, 0)), (w.heap.size, .cells (vw a) 24 (0, 0))]) (w0 := w) (by repeat (first | assumption | (with_reducible refine St.drew ?_) | (with_reducible refine St.alloc ?_ _))) hb; clear hb gB s0 s1 s2 s3 g0 g1 g2 g3 hS; have hS := hS'; obtain ⟨gB, ⟨s3, g3⟩, ⟨s2, g2⟩, ⟨s1, g1⟩, ⟨s0, g0⟩, _⟩ := hS'))
              go_meet
              exact ⟨rfl, hS⟩
        · have hjc : leV (jn a b) c = true := (leV_iff _ _).2 fun i hi => (mx_le _ _ _).2 ⟨(leV_iff _ _).1 hac i hi, (leV_iff _ _).1 hbc i hi⟩
          cases hab : leV a b
          · go_wp2_with (first | (go_at_call 15; (with_reducible refine (within_f _ _ _).mono ?_); rintro e w' ⟨rfl, hb⟩; have hS' := St.call (l := [(nj, .cells (vw (jn a b)) 24 (0, 0)), (w.heap.size + 1 + 1, .cells (vw c) 24 (0, 0)), (w.heap.size + 1, .cells (vw b) 24 (0, 0)), (w.heap.size, .cells (vw a) 24 (0, 0))]) (w0 := w) (by repeat (first | assumption | (with_reducible refine St.drew ?_) | (with_reducible refine St.alloc ?_ _))) hb; clear hb gB s0 s1 s2 s3 g0 g1 g2 g3 hS; have hS := hS'; obtain ⟨gB, ⟨s3, g3⟩, ⟨s2, g2⟩, ⟨s1, g1⟩, ⟨s0, g0⟩, _⟩ := hS'))
            go_meet
            exact ⟨rfl, hS⟩
          · cases hba : leV b a
            · go_wp2_with (first | (go_at_call 15; (with_reducible refine (within_f _ _ _).mono ?_); rintro e w' ⟨rfl, hb⟩; have hS' := St.call (l := [(nj, .cells (vw (jn a b)) 24 (0, 0)), (w.heap.size + 1 + 1, .cells (vw c) 24 (0, 0)), (w.heap.size + 1, .cells (vw b) 24 (0, 0)), (w.heap.size, .cells (vw a) 24 (0, 0))]) (w0 := w) (by repeat (first | assumption | (with_reducible refine St.drew ?_) | (with_reducible refine St.alloc ?_ _))) hb; clear hb gB s0 s1 s2 s3 g0 g1 g2 g3 hS; have hS := hS'; obtain ⟨gB, ⟨s3, g3⟩, ⟨s2, g2⟩, ⟨s1, g1⟩, ⟨s0, g0⟩, _⟩ := hS'))
              go_meet
              exact ⟨rfl, hS⟩
            · have heq : eqV a b = true := (eqV_iff _ _).2 fun i hi => Int.le_antisymm ((leV_iff _ _).1 hab i hi) ((leV_iff _ _).1 hba i hi)
              go_wp2_with (first | (go_at_call 15; (with_reducible refine (within_f _ _ _).mono ?_); rintro e w' ⟨rfl, hb⟩; have hS' := St.call (l := [(nj, .cells (vw (jn a b)) 24 (0, 0)), (w.heap.size + 1 + 1, .cells (vw c) 24 (0, 0)), (w.heap.size + 1, .cells (vw b) 24 (0, 0)), (w.heap.size, .cells (vw a) 24 (0, 0))]) (w0 := w) (by repeat (first | assumption | (with_reducible refine St.drew ?_) | (with_reducible refine St.alloc ?_ _))) hb; clear hb gB s0 s1 s2 s3 g0 g1 g2 g3 hS; have hS := hS'; obtain ⟨gB, ⟨s3, g3⟩, ⟨s2, g2⟩, ⟨s1, g1⟩, ⟨s0, g0⟩, _⟩ := hS'))
              go_meet
              exact ⟨rfl, hS⟩
    case rest =>
      obtain ⟨rfl, hS'⟩ := hcut
      clear gB s0 s1 s2 s3 g0 g1 g2 g3 hS
      have hS := hS'
      obtain ⟨gB, ⟨s3, g3⟩, ⟨s2, g2⟩, ⟨s1, g1⟩, ⟨s0, g0⟩, _⟩ := hS'
      cases hma : mayF a
      · go_wp2_with (first | (go_at_call 16; (with_reducible refine (may_f _ _).mono ?_); rintro e w' ⟨rfl, hb⟩; have hS' := St.call (l := [(nj, .cells (vw (jn a b)) 24 (0, 0)), (w.heap.size + 1 + 1, .cells (vw c) 24 (0, 0)), (w.heap.size + 1, .cells (vw b) 24 (0, 0)), (w.heap.size, .cells (vw a) 24 (0, 0))]) (w0 := w) (by repeat (first | assumption | (with_reducible refine St.drew ?_) | (with_reducible refine St.alloc ?_ _))) hb; clear hb gB s0 s1 s2 s3 g0 g1 g2 g3 hS; have hS := hS'; obtain ⟨gB, ⟨s3, g3⟩, ⟨s2, g2⟩, ⟨s1, g1⟩, ⟨s0, g0⟩, _⟩ := hS') | (go_at_call 17; (with_reducible refine (hwk _).mono ?_); rintro e w' ⟨rfl, hb⟩; have hS' := St.call (l := [(nj, .cells (vw (jn a b)) 24 (0, 0)), (w.heap.size + 1 + 1, .cells (vw c) 24 (0, 0)), (w.heap.size + 1, .cells (vw b) 24 (0, 0)), (w.heap.size, .cells (vw a) 24 (0, 0))]) (w0 := w) (by repeat (first | assumption | (with_reducible refine St.drew ?_) | (with_reducible refine St.alloc ?_ _))) hb; clear hb gB s0 s1 s2 s3 g0 g1 g2 g3 hS; have hS := hS'; obtain ⟨gB, ⟨s3, g3⟩, ⟨s2, g2⟩, ⟨s1, g1⟩, ⟨s0, g0⟩, _⟩ := hS'))
        go_ret
        exact ⟨rfl, gB⟩
      · cases hmb : mayF b
        · go_wp2_with (first | (go_at_call 16; (with_reducible refine (may_f _ _).mono ?_); rintro e w' ⟨rfl, hb⟩; have hS' := St.call (l := [(nj, .cells (vw (jn a b)) 24 (0, 0)), (w.heap.size + 1 + 1, .cells (vw c) 24 (0, 0)), (w.heap.size + 1, .cells (vw b) 24 (0, 0)), (w.heap.size, .cells (vw a) 24 (0, 0))]) (w0 := w) (by repeat (first | assumption | (with_reducible refine St.drew ?_) | (with_reducible refine St.alloc ?_ _))) hb; clear hb gB s0 s1 s2 s3 g0 g1 g2 g3 hS; have hS := hS'; obtain ⟨gB, ⟨s3, g3⟩, ⟨s2, g2⟩, ⟨s1, g1⟩, ⟨s0, g0⟩, _⟩ := hS') | (go_at_call 17; (with_reducible refine (hwk _).mono ?_); rintro e w' ⟨rfl, hb⟩; have hS' := St.call (l := [(nj, .cells (vw (jn a b)) 24 (0, 0)), (w.heap.size + 1 + 1, .cells (vw c) 24 (0, 0)), (w.heap.size + 1, .cells (vw b) 24 (0, 0)), (w.heap.size, .cells (vw a) 24 (0, 0))]) (w0 := w) (by repeat (first | assumption | (with_reducible refine St.drew ?_) | (with_reducible refine St.alloc ?_ _))) hb; clear hb gB s0 s1 s2 s3 g0 g1 g2 g3 hS; have hS := hS'; obtain ⟨gB, ⟨s3, g3⟩, ⟨s2, g2⟩, ⟨s1, g1⟩, ⟨s0, g0⟩, _⟩ := hS'))
          go_ret
          exact ⟨rfl, gB⟩
        · have hmj : mayF (jn a b) = true := may_jn hma hmb
          go_wp2_with (first | (go_at_call 16; (with_reducible refine (may_f _ _).mono ?_); rintro e w' ⟨rfl, hb⟩; have hS' := St.call (l := [(nj, .cells (vw (jn a b)) 24 (0, 0)), (w.heap.size + 1 + 1, .cells (vw c) 24 (0, 0)), (w.heap.size + 1, .cells (vw b) 24 (0, 0)), (w.heap.size, .cells (vw a) 24 (0, 0))]) (w0 := w) (by repeat (first | assumption | (with_reducible refine St.drew ?_) | (with_reducible refine St.alloc ?_ _))) hb; clear hb gB s0 s1 s2 s3 g0 g1 g2 g3 hS; have hS := hS'; obtain ⟨gB, ⟨s3, g3⟩, ⟨s2, g2⟩, ⟨s1, g1⟩, ⟨s0, g0⟩, _⟩ := hS') | (go_at_call 17; (with_reducible refine (hwk _).mono ?_); rintro e w' ⟨rfl, hb⟩; have hS' := St.call (l := [(nj, .cells (vw (jn a b)) 24 (0, 0)), (w.heap.size + 1 + 1, .cells (vw c) 24 (0, 0)), (w.heap.size + 1, .cells (vw b) 24 (0, 0)), (w.heap.size, .cells (vw a) 24 (0, 0))]) (w0 := w) (by repeat (first | assumption | (with_reducible refine St.drew ?_) | (with_reducible refine St.alloc ?_ _))) hb; clear hb gB s0 s1 s2 s3 g0 g1 g2 g3 hS; have hS := hS'; obtain ⟨gB, ⟨s3, g3⟩, ⟨s2, g2⟩, ⟨s1, g1⟩, ⟨s0, g0⟩, _⟩ := hS'))
          go_ret
          exact ⟨rfl, gB⟩
end Go.Proofs.Ytkmhabbpndcnkaa
