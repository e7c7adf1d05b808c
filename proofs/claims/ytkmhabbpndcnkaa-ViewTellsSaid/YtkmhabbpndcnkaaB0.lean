/-
  PART of ViewTells: View.Map by the law's own function (t ^ i).
-/
import Derived.Test.YtkmhabbpndcnkaaF3
namespace Go.Proofs.Ytkmhabbpndcnkaa
open Go.RowKit
attribute [local go_sem 3000] cell_eq frozen_eq cellOf_cells frozenOf_cells setOf_cells ba_alloc_at ba_alloc_past ba_drew ba_setCell_same ba_setCell_other hp_size_setCell ldI_vw8 ldI_vw0 ldI_vw4 ldI_q4 ldR_some lv24 lv22 la24 la22 bx1 bx2 sa24 stI_zero stI_vw stR_some rowOf_cells ba_setRow_same ba_setRow_other setRow_alloc_at setRow_alloc_past setRow_drew size_setRow
attribute [local go_sem ↓ 5000] ldVar24 ldVar22 ldAt24 ldAt22 bsXr stAt24 stAt22 eq24f ne24f eq22f

def xr (n i : Int) : Int := bits .xor .i64 n i
theorem xor_g (i n : Int) (w : World) : Calls Try.prog 21 #[.int .i64 i, .int .i64 n] w fun e w' => e = .returned (.int .i64 (xr n i)) ∧ Grow w w' := by
  go_enter Try.func21, Try.ntmps21
  go_wp2_with fail
  go_ret
  exact ⟨rfl, Grow.refl _⟩
/-- What Map knows, once k places are turned. -/
def mpK (f : Nat → Int) (k : Nat) : Nat → Int := fun i => if i % 4 < k then xr (f i) ((i % 4 : Nat) : Int) else f i
theorem mpK_step (f g : Nat → Int) (k : Nat) (hk : k < 4) (hg : vw g = vw (mpK f k)) : vw (up (up g k (xr (g k) k)) (4 + k) (xr (g (4 + k)) k)) = vw (mpK f (k + 1)) := by
  have key : ∀ i, i < 8 → g i = mpK f k i := by
    intro i hi
    have h1 := vw_get g hi
    rw [hg, vw_get _ hi] at h1
    exact ((Value.int.inj (Option.some.inj h1)).2).symm
  refine vw_ext fun i hi => ?_
  have hgi := key i hi
  have h1 := key k (by omega)
  have h2 := key (4 + k) (by omega)
  unfold up
  simp only [mpK] at h1 h2 hgi ⊢
  by_cases e1 : i = 4 + k
  · subst e1
    simp only [if_true]
    rw [h2]
    simp [show (4 + k) % 4 = k by omega]
  · rw [if_neg e1]
    by_cases e2 : i = k
    · subst e2
      simp only [if_true]
      rw [h1]
      simp [show i % 4 = i by omega]
    · rw [if_neg e2, hgi]
      by_cases e3 : i % 4 < k
      · rw [if_pos e3, if_pos (by omega)]
      · rw [if_neg e3, if_neg (by omega)]

set_option maxRecDepth 100000 in
set_option maxHeartbeats 4000000 in
theorem map_f (f : Nat → Int) (w : World) : Calls Try.prog 20 #[.agg (vw f), .func (.func 21) #[] #[]] w fun e w' => e = .returned (.agg (vw (mpK f 4))) ∧ Grow w w' := by
  go_enter Try.func20, Try.ntmps20
  go_wp2_with fail
  rename_i K hK
  refine wp_loop (fun a w' => ∃ (t0 : Array Value) (k : Nat) (fk z : Nat → Int) (bv br : Nat), a = ⟨t0, []⟩ ∧ t0.size = 31 ∧ bv < br ∧ w.heap.size ≤ bv ∧ t0.getD 1 undef = .func (.func 21) #[] #[] ∧ t0.getD 2 undef = .pointer (some ⟨bv, 0, none⟩) ∧ t0.getD 4 undef = .pointer (some ⟨br, 0, none⟩) ∧
      t0.getD 6 undef = .int .i64 (k : Int) ∧ k ≤ 4 ∧ Below w.heap.size w w' ∧ blkAt w' bv = some (.cells (vw fk) 24 (0, 0)) ∧ bv < w'.heap.size ∧ blkAt w' br = some (.cells (vw z) 24 (0, 0)) ∧ br < w'.heap.size ∧ Hid (vw fk = vw (mpK f k)))
    (fun a _ => 4 - (match a.tmps.getD 6 undef with | .int _ k => k.toNat | _ => 0)) ?_ ?_
  · refine ⟨_, 0, f, fun _ => 0, w.heap.size, w.heap.size + 1, rfl, rfl, by omega, by omega, rfl, rfl, rfl, rfl, by omega, ?_, ?_, ?_, ?_, ?_, ?_⟩
    · exact ((Below.refl _ _).alloc (Nat.le_refl _) _).alloc (by simp) _
    · exact (ba_alloc_past _ _ _ (by simp)).trans (ba_alloc_at _ _ _ rfl)
    · simp; omega
    · exact ba_alloc_at _ _ _ (by simp)
    · simp
    · exact vw_ext fun i _ => by simp [mpK]
  rintro a w1 ⟨t0, k, fk, z, bv, br, rfl, hN, hvr, hwv, h1, h2, h4, h6, hk, hB, g_v, s_v, g_r, s_r, hf⟩
  have i6 := h6
  refine wp_seq ?_
  refine wp_seqr [(7, .val (.bool (decide ((k : Int) < 4))))] [] [] [⟨none, [6], [], [], none⟩] hN (by kernel_rfl) (by kernel_rfl) rfl rfl List.nodup_nil _ (fun x hx => by cases hx) ?_ ?_
  refine ⟨?_, trivial⟩
  · refine Oo.is (.bool (decide ((k : Int) < 4))) (fun d hd w => by cases hd; exact rfl) fun ac wd hc hp hu hr => ?_
    have f6 := (hp 6 (by decide)).trans h6
    go_simp
  intro t1 w1 P1
  replace hN := P1.size.trans hN
  replace h1 := (P1.kept 1 (by kernel_rfl)).trans h1
  replace h2 := (P1.kept 2 (by kernel_rfl)).trans h2
  replace h4 := (P1.kept 4 (by kernel_rfl)).trans h4
  replace h6 := (P1.kept 6 (by kernel_rfl)).trans h6
  have h7 : t1.getD 7 undef = .bool (decide ((k : Int) < 4)) := P1.tab 7
  replace g_v := (P1.ch.block _ s_v List.not_mem_nil).trans g_v
  replace g_r := (P1.ch.block _ s_r List.not_mem_nil).trans g_r
  replace s_v := Nat.lt_of_lt_of_le s_v P1.ch.size
  replace s_r := Nat.lt_of_lt_of_le s_r P1.ch.size
  replace hB := P1.ch.below hB hB.size (fun b hb => by cases hb)
  clear P1
  refine wp_seq ?_
  by_cases hk4 : k < 4
  · have hk1 : (k : Int) < 4 := by omega
    have hk2 : ¬ (k : Int) < 0 := by omega
    have hwr : IntKind.wrap .i64 ((k : Int) + 1) = ((k + 1 : Nat) : Int) := by simp [IntKind.wrap, IntKind.signed, IntKind.bits]; omega
    rw [show decide ((k : Int) < 4) = true from decide_eq_true hk1] at h7
    refine wp_cond_true h7 (wp_skip ?_)
    refine wp_seq (wp_block ?_)
    refine wp_seq ?_
    refine wp_seqr [(8, .val (.int .i64 (k : Int))), (5, .val (.int .i64 (k : Int)))] [] [] [⟨none, [6], [], [], none⟩, ⟨none, [], [8], [], none⟩] hN (by kernel_rfl) (by kernel_rfl) rfl rfl List.nodup_nil _ (fun x hx => by cases hx) ?_ ?_
    refine ⟨?_, ?_, trivial⟩
    · refine Oo.is (.int .i64 (k : Int)) (fun d hd w => by cases hd; exact rfl) fun ac wd hc hp hu hr => ?_
      have f6 := (hp 6 (by decide)).trans h6
      go_simp
    · refine Oo.is (.int .i64 (k : Int)) (fun d hd w => by cases hd; exact rfl) fun ac wd hc hp hu hr => ?_
      have f8 : ac.tmps.getD 8 undef = .int .i64 (k : Int) := hu 8 (by decide)
      go_simp
    intro t2 w2 P2
    replace hN := P2.size.trans hN
    replace h1 := (P2.kept 1 (by kernel_rfl)).trans h1
    replace h2 := (P2.kept 2 (by kernel_rfl)).trans h2
    replace h4 := (P2.kept 4 (by kernel_rfl)).trans h4
    replace h6 := (P2.kept 6 (by kernel_rfl)).trans h6
    replace h7 := (P2.kept 7 (by kernel_rfl)).trans h7
    have h5 : t2.getD 5 undef = .int .i64 (k : Int) := P2.tab 5
    replace g_v := (P2.ch.block _ s_v List.not_mem_nil).trans g_v
    replace g_r := (P2.ch.block _ s_r List.not_mem_nil).trans g_r
    replace s_v := Nat.lt_of_lt_of_le s_v P2.ch.size
    replace s_r := Nat.lt_of_lt_of_le s_r P2.ch.size
    replace hB := P2.ch.below hB hB.size (fun b hb => by cases hb)
    clear P2
    refine wp_draw [(9, .val (.int .i64 (k : Int))), (10, .val (.int .i64 (k : Int))), (11, .val (.func (.func 21) #[] #[])), (12, .val (.int .i64 (k : Int))), (13, .val (.int .i64 (k : Int))), (14, .val (.pointer (some ⟨bv, 0, none⟩))), (15, .val (.pointer (some ⟨bv, k, none⟩))), (16, .val (.int .i64 (fk (k)))), (17, .val (.int .i64 (xr (fk (k)) (k : Int)))), (18, .val (.func (.func 21) #[] #[])), (19, .val (.int .i64 (k : Int))), (20, .val (.int .i64 (k : Int))), (21, .val (.pointer (some ⟨bv, 4, none⟩))), (22, .val (.pointer (some ⟨bv, 4 + k, none⟩))), (23, .val (.int .i64 (fk (4 + k)))), (24, .val (.int .i64 (xr (fk (4 + k)) (k : Int)))), (25, .val (.pointer (some ⟨bv, 0, none⟩))), (26, .val (.pointer (some ⟨bv, k, none⟩))), (27, .val (.pointer (some ⟨bv, 4, none⟩))), (28, .val (.pointer (some ⟨bv, 4 + k, none⟩)))] [⟨bv, 24, vw fk, [(18, vw (up fk (k) (xr (fk (k)) (k : Int)))), (21, vw (up (up fk (k) (xr (fk (k)) (k : Int))) (4 + k) (xr (fk (4 + k)) (k : Int))))]⟩] [[18, 21]] [⟨none, [5], [], [], none⟩, ⟨none, [5], [], [], none⟩, ⟨none, [1], [], [], none⟩, ⟨none, [5], [], [], none⟩, ⟨none, [5], [], [], none⟩, ⟨none, [2], [], [], none⟩, ⟨none, [], [13, 14], [], none⟩, ⟨none, [], [15], [(0, 0)], none⟩, ⟨none, [], [11, 12, 16], [], none⟩, ⟨none, [1], [], [], none⟩, ⟨none, [5], [], [], none⟩, ⟨none, [5], [], [], none⟩, ⟨none, [2], [], [], none⟩, ⟨none, [], [20, 21], [], none⟩, ⟨none, [], [22], [(0, 0)], none⟩, ⟨none, [], [18, 19, 23], [], none⟩, ⟨none, [2], [], [], none⟩, ⟨none, [], [9, 25], [], none⟩, ⟨none, [], [17, 26], [(0, 0)], some (0, 0)⟩, ⟨none, [2], [], [], none⟩, ⟨none, [], [10, 27], [], none⟩, ⟨none, [], [24, 28], [(0, 1)], some (0, 1)⟩] hN (by kernel_rfl) (by kernel_rfl) (by kernel_rfl) rfl rfl (by simp; try omega) _ (fun x hx => by
        simp only [List.mem_cons, List.not_mem_nil, or_false] at hx
        subst hx; exact ⟨s_v, g_v⟩) ?_ ?_
    refine ⟨?_, ?_, ?_, ?_, ?_, ?_, ?_, ?_, ?_, ?_, ?_, ?_, ?_, ?_, ?_, ?_, ?_, ?_, ?_, ?_, ?_, ?_, trivial⟩
    · refine Oo.is (.int .i64 (k : Int)) (fun d hd w => by cases hd; exact rfl) fun ac wd hc hp hu hr => ?_
      have f5 := (hp 5 (by decide)).trans h5
      go_simp
    · refine Oo.is (.int .i64 (k : Int)) (fun d hd w => by cases hd; exact rfl) fun ac wd hc hp hu hr => ?_
      have f5 := (hp 5 (by decide)).trans h5
      go_simp
    · refine Oo.is (.func (.func 21) #[] #[]) (fun d hd w => by cases hd; exact rfl) fun ac wd hc hp hu hr => ?_
      have f1 := (hp 1 (by decide)).trans h1
      go_simp
    · refine Oo.is (.int .i64 (k : Int)) (fun d hd w => by cases hd; exact rfl) fun ac wd hc hp hu hr => ?_
      have f5 := (hp 5 (by decide)).trans h5
      go_simp
    · refine Oo.is (.int .i64 (k : Int)) (fun d hd w => by cases hd; exact rfl) fun ac wd hc hp hu hr => ?_
      have f5 := (hp 5 (by decide)).trans h5
      go_simp
    · refine Oo.is (.pointer (some ⟨bv, 0, none⟩)) (fun d hd w => by cases hd; exact rfl) fun ac wd hc hp hu hr => ?_
      have f2 := (hp 2 (by decide)).trans h2
      go_simp
    · refine Oo.is (.pointer (some ⟨bv, k, none⟩)) (fun d hd w => by cases hd; exact rfl) fun ac wd hc hp hu hr => ?_
      have f13 : ac.tmps.getD 13 undef = .int .i64 (k : Int) := hu 13 (by decide)
      have f14 : ac.tmps.getD 14 undef = .pointer (some ⟨bv, 0, none⟩) := hu 14 (by decide)
      go_simp
    · refine Oo.is (.int .i64 (fk (k))) (fun d hd w => by cases hd; exact rfl) fun ac wd hc hp hu hr => ?_
      have f15 : ac.tmps.getD 15 undef = .pointer (some ⟨bv, k, none⟩) := hu 15 (by decide)
      have qv : blkAt wd bv = some (.cells (vw fk) 24 (0, 0)) := hr (0, 0) (by decide)
      have gX := vw_get fk (k := k) (by omega)
      go_simp
    · refine Oo.run fun ac wd hc hp hu hr => ?_
      have f11 : ac.tmps.getD 11 undef = .func (.func 21) #[] #[] := hu 11 (by decide)
      have f12 : ac.tmps.getD 12 undef = .int .i64 (k : Int) := hu 12 (by decide)
      have f16 : ac.tmps.getD 16 undef = .int .i64 (fk (k)) := hu 16 (by decide)
      refine Run.call (f := 21) (args := #[.int .i64 (k : Int), .int .i64 (fk (k))]) ?_ ?_
      · go_simp
      · exact (xor_g _ _ _).mono fun e w' ⟨he, hb⟩ => ⟨.int .i64 (xr (fk (k)) (k : Int)), by rw [he], hb, fun d hd => by cases hd; exact rfl⟩
    · refine Oo.is (.func (.func 21) #[] #[]) (fun d hd w => by cases hd; exact rfl) fun ac wd hc hp hu hr => ?_
      have f1 := (hp 1 (by decide)).trans h1
      go_simp
    · refine Oo.is (.int .i64 (k : Int)) (fun d hd w => by cases hd; exact rfl) fun ac wd hc hp hu hr => ?_
      have f5 := (hp 5 (by decide)).trans h5
      go_simp
    · refine Oo.is (.int .i64 (k : Int)) (fun d hd w => by cases hd; exact rfl) fun ac wd hc hp hu hr => ?_
      have f5 := (hp 5 (by decide)).trans h5
      go_simp
    · refine Oo.is (.pointer (some ⟨bv, 4, none⟩)) (fun d hd w => by cases hd; exact rfl) fun ac wd hc hp hu hr => ?_
      have f2 := (hp 2 (by decide)).trans h2
      go_simp
    · refine Oo.is (.pointer (some ⟨bv, 4 + k, none⟩)) (fun d hd w => by cases hd; exact rfl) fun ac wd hc hp hu hr => ?_
      have f20 : ac.tmps.getD 20 undef = .int .i64 (k : Int) := hu 20 (by decide)
      have f21 : ac.tmps.getD 21 undef = .pointer (some ⟨bv, 4, none⟩) := hu 21 (by decide)
      go_simp
    · refine Oo.is (.int .i64 (fk (4 + k))) (fun d hd w => by cases hd; exact rfl) fun ac wd hc hp hu hr => ?_
      have f22 : ac.tmps.getD 22 undef = .pointer (some ⟨bv, 4 + k, none⟩) := hu 22 (by decide)
      have qv : blkAt wd bv = some (.cells (vw fk) 24 (0, 0)) := hr (0, 0) (by decide)
      have gX := vw_get fk (k := 4 + k) (by omega)
      go_simp
    · refine Oo.run fun ac wd hc hp hu hr => ?_
      have f18 : ac.tmps.getD 18 undef = .func (.func 21) #[] #[] := hu 18 (by decide)
      have f19 : ac.tmps.getD 19 undef = .int .i64 (k : Int) := hu 19 (by decide)
      have f23 : ac.tmps.getD 23 undef = .int .i64 (fk (4 + k)) := hu 23 (by decide)
      refine Run.call (f := 21) (args := #[.int .i64 (k : Int), .int .i64 (fk (4 + k))]) ?_ ?_
      · go_simp
      · exact (xor_g _ _ _).mono fun e w' ⟨he, hb⟩ => ⟨.int .i64 (xr (fk (4 + k)) (k : Int)), by rw [he], hb, fun d hd => by cases hd; exact rfl⟩
    · refine Oo.is (.pointer (some ⟨bv, 0, none⟩)) (fun d hd w => by cases hd; exact rfl) fun ac wd hc hp hu hr => ?_
      have f2 := (hp 2 (by decide)).trans h2
      go_simp
    · refine Oo.is (.pointer (some ⟨bv, k, none⟩)) (fun d hd w => by cases hd; exact rfl) fun ac wd hc hp hu hr => ?_
      have f9 : ac.tmps.getD 9 undef = .int .i64 (k : Int) := hu 9 (by decide)
      have f25 : ac.tmps.getD 25 undef = .pointer (some ⟨bv, 0, none⟩) := hu 25 (by decide)
      go_simp
    · refine Oo.run fun ac wd hc hp hu hr => ?_
      have f17 : ac.tmps.getD 17 undef = .int .i64 (xr (fk (k)) (k : Int)) := hu 17 (by decide)
      have f26 : ac.tmps.getD 26 undef = .pointer (some ⟨bv, k, none⟩) := hu 26 (by decide)
      have qv : blkAt wd bv = some (.cells (vw fk) 24 (0, 0)) := hr (0, 0) (by decide)
      have gX := vw_get fk (k := k) (by omega)
      refine Run.skips (w' := wd.setCell ⟨bv, k, none⟩ (.int .i64 (xr (fk (k)) (k : Int)))) ?_ ⟨only_setCell _ _ _ _, by have z := blk_setCell (i := k) (v := .int .i64 (xr (fk (k)) (k : Int))) qv; rw [vw_set fk (by omega)] at z; exact z⟩ (fun d hd => by cases hd)
      go_simp
    · refine Oo.is (.pointer (some ⟨bv, 4, none⟩)) (fun d hd w => by cases hd; exact rfl) fun ac wd hc hp hu hr => ?_
      have f2 := (hp 2 (by decide)).trans h2
      go_simp
    · refine Oo.is (.pointer (some ⟨bv, 4 + k, none⟩)) (fun d hd w => by cases hd; exact rfl) fun ac wd hc hp hu hr => ?_
      have f10 : ac.tmps.getD 10 undef = .int .i64 (k : Int) := hu 10 (by decide)
      have f27 : ac.tmps.getD 27 undef = .pointer (some ⟨bv, 4, none⟩) := hu 27 (by decide)
      go_simp
    · refine Oo.run fun ac wd hc hp hu hr => ?_
      have f24 : ac.tmps.getD 24 undef = .int .i64 (xr (fk (4 + k)) (k : Int)) := hu 24 (by decide)
      have f28 : ac.tmps.getD 28 undef = .pointer (some ⟨bv, 4 + k, none⟩) := hu 28 (by decide)
      have qv : blkAt wd bv = some (.cells (vw (up fk (k) (xr (fk (k)) (k : Int)))) 24 (0, 0)) := hr (0, 1) (by decide)
      have gX := vw_get (up fk (k) (xr (fk (k)) (k : Int))) (k := 4 + k) (by omega)
      refine Run.skips (w' := wd.setCell ⟨bv, 4 + k, none⟩ (.int .i64 (xr (fk (4 + k)) (k : Int)))) ?_ ⟨only_setCell _ _ _ _, by have z := blk_setCell (i := 4 + k) (v := .int .i64 (xr (fk (4 + k)) (k : Int))) qv; rw [vw_set (up fk (k) (xr (fk (k)) (k : Int))) (by omega)] at z; exact z⟩ (fun d hd => by cases hd)
      go_simp
    intro t3 w3 P3
    replace hN := P3.size.trans hN
    replace h1 := (P3.kept 1 (by kernel_rfl)).trans h1
    replace h2 := (P3.kept 2 (by kernel_rfl)).trans h2
    replace h4 := (P3.kept 4 (by kernel_rfl)).trans h4
    replace h5 := (P3.kept 5 (by kernel_rfl)).trans h5
    replace h6 := (P3.kept 6 (by kernel_rfl)).trans h6
    replace h7 := (P3.kept 7 (by kernel_rfl)).trans h7
    replace g_v : blkAt w3 bv = some (.cells (vw (up (up fk (k) (xr (fk (k)) (k : Int))) (4 + k) (xr (fk (4 + k)) (k : Int)))) 24 (0, 0)) := (P3.volAt (i := 0) rfl).2
    replace g_r := (P3.ch.block _ s_r (by simp; omega)).trans g_r
    replace s_v := Nat.lt_of_lt_of_le s_v P3.ch.size
    replace s_r := Nat.lt_of_lt_of_le s_r P3.ch.size
    replace hB := P3.ch.below hB.drew hB.size (by intro b hb; simp only [List.mem_cons, List.not_mem_nil, or_false, List.map_cons, List.map_nil] at hb; subst hb; omega)
    clear P3
    refine wp_seqr [(29, .val (.int .i64 ((k + 1 : Nat) : Int))), (6, .val (.int .i64 ((k + 1 : Nat) : Int)))] [] [] [⟨none, [6], [], [], none⟩, ⟨none, [], [29], [], none⟩] hN (by kernel_rfl) (by kernel_rfl) rfl rfl List.nodup_nil _ (fun x hx => by cases hx) ?_ ?_
    refine ⟨?_, ?_, trivial⟩
    · refine Oo.is (.int .i64 ((k + 1 : Nat) : Int)) (fun d hd w => by cases hd; exact rfl) fun ac wd hc hp hu hr => ?_
      have f6 := (hp 6 (by decide)).trans h6
      go_simp
    · refine Oo.is (.int .i64 ((k + 1 : Nat) : Int)) (fun d hd w => by cases hd; exact rfl) fun ac wd hc hp hu hr => ?_
      have f29 : ac.tmps.getD 29 undef = .int .i64 ((k + 1 : Nat) : Int) := hu 29 (by decide)
      go_simp
    intro t4 w4 P4
    replace hN := P4.size.trans hN
    replace h1 := (P4.kept 1 (by kernel_rfl)).trans h1
    replace h2 := (P4.kept 2 (by kernel_rfl)).trans h2
    replace h4 := (P4.kept 4 (by kernel_rfl)).trans h4
    replace h5 := (P4.kept 5 (by kernel_rfl)).trans h5
    replace h7 := (P4.kept 7 (by kernel_rfl)).trans h7
    have h6 : t4.getD 6 undef = .int .i64 ((k + 1 : Nat) : Int) := P4.tab 6
    replace g_v := (P4.ch.block _ s_v List.not_mem_nil).trans g_v
    replace g_r := (P4.ch.block _ s_r List.not_mem_nil).trans g_r
    replace s_v := Nat.lt_of_lt_of_le s_v P4.ch.size
    replace s_r := Nat.lt_of_lt_of_le s_r P4.ch.size
    replace hB := P4.ch.below hB hB.size (fun b hb => by cases hb)
    clear P4
    refine ⟨⟨t4, k + 1, _, z, bv, br, rfl, hN, hvr, hwv, h1, h2, h4, h6, by omega, hB, g_v, s_v, g_r, s_r, mpK_step f fk k hk4 hf.out⟩, ?_⟩
    have e6 : (4 - (match t4.getD 6 undef with | .int _ k => k.toNat | _ => 0)) < 4 - (match t0.getD 6 undef with | .int _ k => k.toNat | _ => 0) := by rw [h6, i6]; simp only [Int.toNat_natCast]; omega
    exact e6
  · have hk1 : ¬ (k : Int) < 4 := by omega
    rw [show decide ((k : Int) < 4) = false from decide_eq_false hk1] at h7
    refine wp_cond_false h7 (wp_exit ?_)
    refine hK _ _ ?_
    refine wp_seq ?_
    refine wp_seqr [(30, .val (.agg (vw fk)))] [⟨br, 24, vw z, [(1, vw fk)]⟩] [[1]] [⟨none, [2], [], [], none⟩, ⟨none, [4], [30], [(0, 0)], some (0, 0)⟩] hN (by kernel_rfl) (by kernel_rfl) rfl rfl (by simp; try omega) _ (fun x hx => by
        simp only [List.mem_cons, List.not_mem_nil, or_false] at hx
        subst hx; exact ⟨s_r, g_r⟩) ?_ ?_
    refine ⟨?_, ?_, trivial⟩
    · refine Oo.is (.agg (vw fk)) (fun d hd w => by cases hd; exact rfl) fun ac wd hc hp hu hr => ?_
      have f2 := (hp 2 (by decide)).trans h2
      have qv := (hc.block _ s_v (by simp; omega)).trans g_v
      go_simp
    · refine Oo.run fun ac wd hc hp hu hr => ?_
      have f4 := (hp 4 (by decide)).trans h4
      have f30 : ac.tmps.getD 30 undef = .agg (vw fk) := hu 30 (by decide)
      have qr : blkAt wd br = some (.cells (vw z) 24 (0, 0)) := hr (0, 0) (by decide)
      refine Run.skips (w' := wd.setRow br (vw fk)) ?_ ⟨only_setRow _ _ _, by show blkAt _ _ = _; rw [ba_setRow_same, qr]; rfl⟩ (fun d hd => by cases hd)
      go_simp
    intro t5 w5 P5
    replace hN := P5.size.trans hN
    replace h1 := (P5.kept 1 (by kernel_rfl)).trans h1
    replace h2 := (P5.kept 2 (by kernel_rfl)).trans h2
    replace h4 := (P5.kept 4 (by kernel_rfl)).trans h4
    replace h6 := (P5.kept 6 (by kernel_rfl)).trans h6
    replace h7 := (P5.kept 7 (by kernel_rfl)).trans h7
    replace g_v := (P5.ch.block _ s_v (by simp; omega)).trans g_v
    replace g_r : blkAt w5 br = some (.cells (vw fk) 24 (0, 0)) := (P5.volAt (i := 0) rfl).2
    replace s_v := Nat.lt_of_lt_of_le s_v P5.ch.size
    replace s_r := Nat.lt_of_lt_of_le s_r P5.ch.size
    replace hB := P5.ch.below hB hB.size (by intro b hb; simp only [List.mem_cons, List.not_mem_nil, or_false, List.map_cons, List.map_nil] at hb; subst hb; omega)
    clear P5
    refine wp_ret ?_
    refine bodyPost_ret (v := .agg (vw fk)) ?_ rfl ⟨?_, hB⟩
    · have n4 := h4
      simp only [Array.getD_eq_getD_getElem?] at n4
      simp [results, Try.results20, n4]
      show Sem.run Try.prog (loadVar 24 ⟨br, 0, none⟩) w5 = _
      rw [ld24, g_r]; rfl
    · rw [hf.out]; have : k = 4 := by omega
      rw [this]
end Go.Proofs.Ytkmhabbpndcnkaa
