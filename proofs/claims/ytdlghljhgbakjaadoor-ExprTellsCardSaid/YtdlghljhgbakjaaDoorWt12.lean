/-
  PARTS, one behind the other: EE.
-/
import Derived.Test.YtdlghljhgbakjaaDoorWt11
/-
  PART: how many digits a number has; numbers as they are written.
-/
namespace Go.Proofs.YtdlghljhgbakjaaDoor
open Go.RowKit
def l8L : List UInt8 := [0, 1, 2, 2, 3, 3, 3, 3, 4, 4, 4, 4, 4, 4, 4, 4, 5, 5, 5, 5, 5, 5, 5, 5, 5, 5, 5, 5, 5, 5, 5, 5, 6, 6, 6, 6, 6, 6, 6, 6, 6, 6, 6, 6, 6, 6, 6, 6, 6, 6, 6, 6, 6, 6, 6, 6, 6, 6, 6, 6, 6, 6, 6, 6, 7, 7, 7, 7, 7, 7, 7, 7, 7, 7, 7, 7, 7, 7, 7, 7, 7, 7, 7, 7, 7, 7, 7, 7, 7, 7, 7, 7, 7, 7, 7, 7, 7, 7, 7, 7, 7, 7, 7, 7, 7, 7, 7, 7, 7, 7, 7, 7, 7, 7, 7, 7, 7, 7, 7, 7, 7, 7, 7, 7, 7, 7, 7, 7, 8, 8, 8, 8, 8, 8, 8, 8, 8, 8, 8, 8, 8, 8, 8, 8, 8, 8, 8, 8, 8, 8, 8, 8, 8, 8, 8, 8, 8, 8, 8, 8, 8, 8, 8, 8, 8, 8, 8, 8, 8, 8, 8, 8, 8, 8, 8, 8, 8, 8, 8, 8, 8, 8, 8, 8, 8, 8, 8, 8, 8, 8, 8, 8, 8, 8, 8, 8, 8, 8, 8, 8, 8, 8, 8, 8, 8, 8, 8, 8, 8, 8, 8, 8, 8, 8, 8, 8, 8, 8, 8, 8, 8, 8, 8, 8, 8, 8, 8, 8, 8, 8, 8, 8, 8, 8, 8, 8, 8, 8, 8, 8, 8, 8, 8, 8, 8, 8, 8, 8, 8, 8, 8, 8, 8, 8, 8, 8]
def L8 : ByteArray := ⟨l8L.toArray⟩
def tb8 (x : Int) : Int := wr ((L8.data.getD (IntKind.u8.wrap x).toNat 0).toNat : Nat)
def ok8 (x : Int) : Prop := 0 ≤ IntKind.u8.wrap x ∧ IntKind.u8.wrap x < (L8.size : Int)
set_option maxRecDepth 100000 in
theorem tb8_fin : ∀ (s : Fin 8) (x : Fin 256), 2 ^ s.val ≤ x.val → x.val < 2 ^ (s.val + 1) → tb8 (x.val : Int) = (s.val : Int) + 1 := by decide +kernel
theorem L8_size : L8.size = 256 := by kernel_rfl
theorem tb8_ok {x : Int} (s : Nat) (hs : s < 8) (h0 : 0 ≤ x) (h256 : x < 256) (h1 : (2 ^ s : Nat) ≤ x.toNat) (h2 : x.toNat < 2 ^ (s + 1)) : ok8 x ∧ tb8 x = (s : Int) + 1 := by
  have := tb8_fin ⟨s, hs⟩ ⟨x.toNat, by omega⟩ h1 h2
  have e : ((x.toNat : Nat) : Int) = x := by omega
  simp only [e] at this
  refine ⟨?_, this⟩
  unfold ok8
  rw [IntWalk.u8_in _ ⟨h0, by omega⟩, L8_size]
  exact ⟨h0, by omega⟩
theorem fdiv_lit {n : Int} {k : Int} (hk : 0 ≤ k) : n.fdiv k = n / k := Int.fdiv_eq_ediv_of_nonneg n hk
noncomputable section
def tabL (L : Int) (f : Nat) (args : List AV) : Option (Tree AV) := match f, args with
  | 138, [n] => some (ctrT 138 [n] (.lit (.int .i64 L)))
  | _, _ => none
theorem tabL_ok (d : Int) : TabOk Tryd.prog (tabL d) := by
  intro f args t a ht hh
  unfold tabL at ht
  split at ht
  · cases ht
    obtain ⟨h1, h2⟩ := hh
    cases h2
    exact h1
  · cases ht
noncomputable def cxL (d : Int) (dec : Nat → St → Option Bool) : Cx := ⟨Tryd.prog, ctrOf (tabL d), dec⟩
theorem cxL_ok (d : Int) (dec : Nat → St → Option Bool) : CtrOk (cxL d dec) := (ctrOf_ok (tabL_ok d)).withDec dec
end
theorem v_lit {f : Nat} {args : List AV} {k : IntKind} {z y : Int} (h : PureOk Tryd.prog f args (.v (.int k z))) (e : z = y) : PureOk Tryd.prog f args (.lit (.int k y)) :=
  h.imp fun u hu E => by
    cases hu E with
    | v v h => rw [e] at *; exact .lit _ h
theorem ev138_000 (n : Int) : ((evs (cx0 (decL [(4, false), (8, false), (14, false)])) 60).call 138 [.v (.int .u64 n)] .nil).ans = .side (decide (n ≥ 4294967296) = false) (.side (decide (n ≥ 65536) = false) (.side (decide (n ≥ 256) = false) (.side (ok8 n) (.ret (.v (.int .i64 (wr (0 + tb8 n)))))))) := by kernel_rfl
theorem len_000 (n : Int) (s : Nat) (hs : s < 8) (h0 : 0 ≤ n) (h1 : (2 ^ s : Nat) ≤ (n / 1).toNat) (h2 : (n / 1).toNat < 2 ^ (s + 1)) (g0 : n < 18446744073709551616)
    (c0 : ¬ (n ≥ 4294967296))
    (c1 : ¬ (n ≥ 65536))
    (c2 : ¬ (n ≥ 256))
    : PureOk Tryd.prog 138 [.v (.int .u64 n)] (.lit (.int .i64 (0 + ((s : Int) + 1)))) := by
  have h1 : (2 ^ s : Nat) ≤ n.toNat := by simpa using h1
  have h2 : n.toNat < 2 ^ (s + 1) := by simpa using h2
  obtain ⟨t1, t2⟩ := tb8_ok (x := n) s hs (by omega) (by omega) h1 h2
  refine v_lit (pure_hitX (cx0_ok _) rfl (ev138_000 n) ⟨by exact decide_eq_false (by omega), by exact decide_eq_false (by omega), by exact decide_eq_false (by omega), t1, rfl⟩ (by kernel_rfl)) ?_
  rw [t2, wr_in (by omega) (by omega)]
theorem ev138_001 (n : Int) : ((evs (cx0 (decL [(4, false), (8, false), (14, true)])) 60).call 138 [.v (.int .u64 n)] .nil).ans = .side (decide (n ≥ 4294967296) = false) (.side (decide (n ≥ 65536) = false) (.side (decide (n ≥ 256) = true) (.side ((0 : Int) ≤ 8) (.side (ok8 (n.fdiv 256)) (.ret (.v (.int .i64 (wr (8 + tb8 (n.fdiv 256)))))))))) := by kernel_rfl
theorem len_001 (n : Int) (s : Nat) (hs : s < 8) (h0 : 0 ≤ n) (h1 : (2 ^ s : Nat) ≤ (n / 256).toNat) (h2 : (n / 256).toNat < 2 ^ (s + 1)) (g0 : n < 18446744073709551616)
    (c0 : ¬ (n ≥ 4294967296))
    (c1 : ¬ (n ≥ 65536))
    (c2 : (n ≥ 256))
    : PureOk Tryd.prog 138 [.v (.int .u64 n)] (.lit (.int .i64 (8 + ((s : Int) + 1)))) := by
  have x0 : (n.fdiv 256) = n / 256 := by rw [fdiv_lit (by omega)]
  obtain ⟨t1, t2⟩ := tb8_ok (x := n / 256) s hs (by omega) (by omega) h1 h2
  rw [← x0] at t1 t2
  refine v_lit (pure_hitX (cx0_ok _) rfl (ev138_001 n) ⟨by exact decide_eq_false (by omega), by exact decide_eq_false (by omega), by exact decide_eq_true (by omega), by decide, t1, rfl⟩ (by kernel_rfl)) ?_
  rw [t2, wr_in (by omega) (by omega)]
theorem ev138_010 (n : Int) : ((evs (cx0 (decL [(4, false), (8, true), (14, false)])) 60).call 138 [.v (.int .u64 n)] .nil).ans = .side (decide (n ≥ 4294967296) = false) (.side (decide (n ≥ 65536) = true) (.side ((0 : Int) ≤ 16) (.side (decide ((n.fdiv 65536) ≥ 256) = false) (.side (ok8 (n.fdiv 65536)) (.ret (.v (.int .i64 (wr (16 + tb8 (n.fdiv 65536)))))))))) := by kernel_rfl
theorem len_010 (n : Int) (s : Nat) (hs : s < 8) (h0 : 0 ≤ n) (h1 : (2 ^ s : Nat) ≤ (n / 65536).toNat) (h2 : (n / 65536).toNat < 2 ^ (s + 1)) (g0 : n < 18446744073709551616)
    (c0 : ¬ (n ≥ 4294967296))
    (c1 : (n ≥ 65536))
    (c2 : ¬ (n / 65536 ≥ 256))
    : PureOk Tryd.prog 138 [.v (.int .u64 n)] (.lit (.int .i64 (16 + ((s : Int) + 1)))) := by
  have x0 : (n.fdiv 65536) = n / 65536 := by rw [fdiv_lit (by omega)]
  obtain ⟨t1, t2⟩ := tb8_ok (x := n / 65536) s hs (by omega) (by omega) h1 h2
  rw [← x0] at t1 t2
  refine v_lit (pure_hitX (cx0_ok _) rfl (ev138_010 n) ⟨by exact decide_eq_false (by omega), by exact decide_eq_true (by omega), by decide, by rw [x0]; exact decide_eq_false (by omega), t1, rfl⟩ (by kernel_rfl)) ?_
  rw [t2, wr_in (by omega) (by omega)]
theorem ev138_011 (n : Int) : ((evs (cx0 (decL [(4, false), (8, true), (14, true)])) 60).call 138 [.v (.int .u64 n)] .nil).ans = .side (decide (n ≥ 4294967296) = false) (.side (decide (n ≥ 65536) = true) (.side ((0 : Int) ≤ 16) (.side (decide ((n.fdiv 65536) ≥ 256) = true) (.side ((0 : Int) ≤ 8) (.side (ok8 ((n.fdiv 65536).fdiv 256)) (.ret (.v (.int .i64 (wr (24 + tb8 ((n.fdiv 65536).fdiv 256))))))))))) := by kernel_rfl
theorem len_011 (n : Int) (s : Nat) (hs : s < 8) (h0 : 0 ≤ n) (h1 : (2 ^ s : Nat) ≤ (n / 16777216).toNat) (h2 : (n / 16777216).toNat < 2 ^ (s + 1)) (g0 : n < 18446744073709551616)
    (c0 : ¬ (n ≥ 4294967296))
    (c1 : (n ≥ 65536))
    (c2 : (n / 65536 ≥ 256))
    : PureOk Tryd.prog 138 [.v (.int .u64 n)] (.lit (.int .i64 (24 + ((s : Int) + 1)))) := by
  have x0 : (n.fdiv 65536) = n / 65536 := by rw [fdiv_lit (by omega)]
  have x1 : ((n.fdiv 65536).fdiv 256) = n / 16777216 := by rw [fdiv_lit (by omega), x0]; omega
  obtain ⟨t1, t2⟩ := tb8_ok (x := n / 16777216) s hs (by omega) (by omega) h1 h2
  rw [← x1] at t1 t2
  refine v_lit (pure_hitX (cx0_ok _) rfl (ev138_011 n) ⟨by exact decide_eq_false (by omega), by exact decide_eq_true (by omega), by decide, by rw [x0]; exact decide_eq_true (by omega), by decide, t1, rfl⟩ (by kernel_rfl)) ?_
  rw [t2, wr_in (by omega) (by omega)]
theorem ev138_100 (n : Int) : ((evs (cx0 (decL [(4, true), (8, false), (14, false)])) 60).call 138 [.v (.int .u64 n)] .nil).ans = .side (decide (n ≥ 4294967296) = true) (.side ((0 : Int) ≤ 32) (.side (decide ((n.fdiv 4294967296) ≥ 65536) = false) (.side (decide ((n.fdiv 4294967296) ≥ 256) = false) (.side (ok8 (n.fdiv 4294967296)) (.ret (.v (.int .i64 (wr (32 + tb8 (n.fdiv 4294967296)))))))))) := by kernel_rfl
theorem len_100 (n : Int) (s : Nat) (hs : s < 8) (h0 : 0 ≤ n) (h1 : (2 ^ s : Nat) ≤ (n / 4294967296).toNat) (h2 : (n / 4294967296).toNat < 2 ^ (s + 1)) (g0 : n < 18446744073709551616)
    (c0 : (n ≥ 4294967296))
    (c1 : ¬ (n / 4294967296 ≥ 65536))
    (c2 : ¬ (n / 4294967296 ≥ 256))
    : PureOk Tryd.prog 138 [.v (.int .u64 n)] (.lit (.int .i64 (32 + ((s : Int) + 1)))) := by
  have x0 : (n.fdiv 4294967296) = n / 4294967296 := by rw [fdiv_lit (by omega)]
  obtain ⟨t1, t2⟩ := tb8_ok (x := n / 4294967296) s hs (by omega) (by omega) h1 h2
  rw [← x0] at t1 t2
  refine v_lit (pure_hitX (cx0_ok _) rfl (ev138_100 n) ⟨by exact decide_eq_true (by omega), by decide, by rw [x0]; exact decide_eq_false (by omega), by rw [x0]; exact decide_eq_false (by omega), t1, rfl⟩ (by kernel_rfl)) ?_
  rw [t2, wr_in (by omega) (by omega)]
theorem ev138_101 (n : Int) : ((evs (cx0 (decL [(4, true), (8, false), (14, true)])) 60).call 138 [.v (.int .u64 n)] .nil).ans = .side (decide (n ≥ 4294967296) = true) (.side ((0 : Int) ≤ 32) (.side (decide ((n.fdiv 4294967296) ≥ 65536) = false) (.side (decide ((n.fdiv 4294967296) ≥ 256) = true) (.side ((0 : Int) ≤ 8) (.side (ok8 ((n.fdiv 4294967296).fdiv 256)) (.ret (.v (.int .i64 (wr (40 + tb8 ((n.fdiv 4294967296).fdiv 256))))))))))) := by kernel_rfl
theorem len_101 (n : Int) (s : Nat) (hs : s < 8) (h0 : 0 ≤ n) (h1 : (2 ^ s : Nat) ≤ (n / 1099511627776).toNat) (h2 : (n / 1099511627776).toNat < 2 ^ (s + 1)) (g0 : n < 18446744073709551616)
    (c0 : (n ≥ 4294967296))
    (c1 : ¬ (n / 4294967296 ≥ 65536))
    (c2 : (n / 4294967296 ≥ 256))
    : PureOk Tryd.prog 138 [.v (.int .u64 n)] (.lit (.int .i64 (40 + ((s : Int) + 1)))) := by
  have x0 : (n.fdiv 4294967296) = n / 4294967296 := by rw [fdiv_lit (by omega)]
  have x1 : ((n.fdiv 4294967296).fdiv 256) = n / 1099511627776 := by rw [fdiv_lit (by omega), x0]; omega
  obtain ⟨t1, t2⟩ := tb8_ok (x := n / 1099511627776) s hs (by omega) (by omega) h1 h2
  rw [← x1] at t1 t2
  refine v_lit (pure_hitX (cx0_ok _) rfl (ev138_101 n) ⟨by exact decide_eq_true (by omega), by decide, by rw [x0]; exact decide_eq_false (by omega), by rw [x0]; exact decide_eq_true (by omega), by decide, t1, rfl⟩ (by kernel_rfl)) ?_
  rw [t2, wr_in (by omega) (by omega)]
theorem ev138_110 (n : Int) : ((evs (cx0 (decL [(4, true), (8, true), (14, false)])) 60).call 138 [.v (.int .u64 n)] .nil).ans = .side (decide (n ≥ 4294967296) = true) (.side ((0 : Int) ≤ 32) (.side (decide ((n.fdiv 4294967296) ≥ 65536) = true) (.side ((0 : Int) ≤ 16) (.side (decide (((n.fdiv 4294967296).fdiv 65536) ≥ 256) = false) (.side (ok8 ((n.fdiv 4294967296).fdiv 65536)) (.ret (.v (.int .i64 (wr (48 + tb8 ((n.fdiv 4294967296).fdiv 65536))))))))))) := by kernel_rfl
theorem len_110 (n : Int) (s : Nat) (hs : s < 8) (h0 : 0 ≤ n) (h1 : (2 ^ s : Nat) ≤ (n / 281474976710656).toNat) (h2 : (n / 281474976710656).toNat < 2 ^ (s + 1)) (g0 : n < 18446744073709551616)
    (c0 : (n ≥ 4294967296))
    (c1 : (n / 4294967296 ≥ 65536))
    (c2 : ¬ (n / 281474976710656 ≥ 256))
    : PureOk Tryd.prog 138 [.v (.int .u64 n)] (.lit (.int .i64 (48 + ((s : Int) + 1)))) := by
  have x0 : (n.fdiv 4294967296) = n / 4294967296 := by rw [fdiv_lit (by omega)]
  have x1 : ((n.fdiv 4294967296).fdiv 65536) = n / 281474976710656 := by rw [fdiv_lit (by omega), x0]; omega
  obtain ⟨t1, t2⟩ := tb8_ok (x := n / 281474976710656) s hs (by omega) (by omega) h1 h2
  rw [← x1] at t1 t2
  refine v_lit (pure_hitX (cx0_ok _) rfl (ev138_110 n) ⟨by exact decide_eq_true (by omega), by decide, by rw [x0]; exact decide_eq_true (by omega), by decide, by rw [x1]; exact decide_eq_false (by omega), t1, rfl⟩ (by kernel_rfl)) ?_
  rw [t2, wr_in (by omega) (by omega)]
theorem ev138_111 (n : Int) : ((evs (cx0 (decL [(4, true), (8, true), (14, true)])) 60).call 138 [.v (.int .u64 n)] .nil).ans = .side (decide (n ≥ 4294967296) = true) (.side ((0 : Int) ≤ 32) (.side (decide ((n.fdiv 4294967296) ≥ 65536) = true) (.side ((0 : Int) ≤ 16) (.side (decide (((n.fdiv 4294967296).fdiv 65536) ≥ 256) = true) (.side ((0 : Int) ≤ 8) (.side (ok8 (((n.fdiv 4294967296).fdiv 65536).fdiv 256)) (.ret (.v (.int .i64 (wr (56 + tb8 (((n.fdiv 4294967296).fdiv 65536).fdiv 256)))))))))))) := by kernel_rfl
theorem len_111 (n : Int) (s : Nat) (hs : s < 8) (h0 : 0 ≤ n) (h1 : (2 ^ s : Nat) ≤ (n / 72057594037927936).toNat) (h2 : (n / 72057594037927936).toNat < 2 ^ (s + 1)) (g0 : n < 18446744073709551616)
    (c0 : (n ≥ 4294967296))
    (c1 : (n / 4294967296 ≥ 65536))
    (c2 : (n / 281474976710656 ≥ 256))
    : PureOk Tryd.prog 138 [.v (.int .u64 n)] (.lit (.int .i64 (56 + ((s : Int) + 1)))) := by
  have x0 : (n.fdiv 4294967296) = n / 4294967296 := by rw [fdiv_lit (by omega)]
  have x1 : ((n.fdiv 4294967296).fdiv 65536) = n / 281474976710656 := by rw [fdiv_lit (by omega), x0]; omega
  have x2 : (((n.fdiv 4294967296).fdiv 65536).fdiv 256) = n / 72057594037927936 := by rw [fdiv_lit (by omega), x1]; omega
  obtain ⟨t1, t2⟩ := tb8_ok (x := n / 72057594037927936) s hs (by omega) (by omega) h1 h2
  rw [← x2] at t1 t2
  refine v_lit (pure_hitX (cx0_ok _) rfl (ev138_111 n) ⟨by exact decide_eq_true (by omega), by decide, by rw [x0]; exact decide_eq_true (by omega), by decide, by rw [x1]; exact decide_eq_true (by omega), by decide, t1, rfl⟩ (by kernel_rfl)) ?_
  rw [t2, wr_in (by omega) (by omega)]
theorem ev128_7_1 (n : Int) : ((evs (cxL 7 (decL [(3, true)])) 60).call 128 [.v (.int .u64 n)] .nil).ans = .side (PureOk Tryd.prog 138 [.v (.int .u64 n)] (.lit (.int .i64 7))) (.side (decide (n ≥ 100) = true) (.ret (.lit (.int .i64 3)))) := by kernel_rfl
theorem ev128_8_1 (n : Int) : ((evs (cxL 8 (decL [(3, true)])) 60).call 128 [.v (.int .u64 n)] .nil).ans = .side (PureOk Tryd.prog 138 [.v (.int .u64 n)] (.lit (.int .i64 8))) (.side (decide (n ≥ 100) = true) (.ret (.lit (.int .i64 3)))) := by kernel_rfl
theorem ev128_9_1 (n : Int) : ((evs (cxL 9 (decL [(3, true)])) 60).call 128 [.v (.int .u64 n)] .nil).ans = .side (PureOk Tryd.prog 138 [.v (.int .u64 n)] (.lit (.int .i64 9))) (.side (decide (n ≥ 100) = true) (.ret (.lit (.int .i64 3)))) := by kernel_rfl
theorem ev128_10_0 (n : Int) : ((evs (cxL 10 (decL [(3, false)])) 60).call 128 [.v (.int .u64 n)] .nil).ans = .side (PureOk Tryd.prog 138 [.v (.int .u64 n)] (.lit (.int .i64 10))) (.side (decide (n ≥ 1000) = false) (.ret (.lit (.int .i64 3)))) := by kernel_rfl
theorem ev128_10_1 (n : Int) : ((evs (cxL 10 (decL [(3, true)])) 60).call 128 [.v (.int .u64 n)] .nil).ans = .side (PureOk Tryd.prog 138 [.v (.int .u64 n)] (.lit (.int .i64 10))) (.side (decide (n ≥ 1000) = true) (.ret (.lit (.int .i64 4)))) := by kernel_rfl
theorem ev128_11_0 (n : Int) : ((evs (cxL 11 (decL [(3, false)])) 60).call 128 [.v (.int .u64 n)] .nil).ans = .side (PureOk Tryd.prog 138 [.v (.int .u64 n)] (.lit (.int .i64 11))) (.side (decide (n ≥ 1000) = false) (.ret (.lit (.int .i64 3)))) := by kernel_rfl
theorem ev128_11_1 (n : Int) : ((evs (cxL 11 (decL [(3, true)])) 60).call 128 [.v (.int .u64 n)] .nil).ans = .side (PureOk Tryd.prog 138 [.v (.int .u64 n)] (.lit (.int .i64 11))) (.side (decide (n ≥ 1000) = true) (.ret (.lit (.int .i64 4)))) := by kernel_rfl
theorem ev128_12_0 (n : Int) : ((evs (cxL 12 (decL [(3, false)])) 60).call 128 [.v (.int .u64 n)] .nil).ans = .side (PureOk Tryd.prog 138 [.v (.int .u64 n)] (.lit (.int .i64 12))) (.side (decide (n ≥ 1000) = false) (.ret (.lit (.int .i64 3)))) := by kernel_rfl
theorem ev128_12_1 (n : Int) : ((evs (cxL 12 (decL [(3, true)])) 60).call 128 [.v (.int .u64 n)] .nil).ans = .side (PureOk Tryd.prog 138 [.v (.int .u64 n)] (.lit (.int .i64 12))) (.side (decide (n ≥ 1000) = true) (.ret (.lit (.int .i64 4)))) := by kernel_rfl
theorem ev128_13_0 (n : Int) : ((evs (cxL 13 (decL [(3, false)])) 60).call 128 [.v (.int .u64 n)] .nil).ans = .side (PureOk Tryd.prog 138 [.v (.int .u64 n)] (.lit (.int .i64 13))) (.side (decide (n ≥ 1000) = false) (.ret (.lit (.int .i64 3)))) := by kernel_rfl
theorem ev128_13_1 (n : Int) : ((evs (cxL 13 (decL [(3, true)])) 60).call 128 [.v (.int .u64 n)] .nil).ans = .side (PureOk Tryd.prog 138 [.v (.int .u64 n)] (.lit (.int .i64 13))) (.side (decide (n ≥ 1000) = true) (.ret (.lit (.int .i64 4)))) := by kernel_rfl
theorem ev128_14_0 (n : Int) : ((evs (cxL 14 (decL [(3, false)])) 60).call 128 [.v (.int .u64 n)] .nil).ans = .side (PureOk Tryd.prog 138 [.v (.int .u64 n)] (.lit (.int .i64 14))) (.side (decide (n ≥ 10000) = false) (.ret (.lit (.int .i64 4)))) := by kernel_rfl
theorem ev128_14_1 (n : Int) : ((evs (cxL 14 (decL [(3, true)])) 60).call 128 [.v (.int .u64 n)] .nil).ans = .side (PureOk Tryd.prog 138 [.v (.int .u64 n)] (.lit (.int .i64 14))) (.side (decide (n ≥ 10000) = true) (.ret (.lit (.int .i64 5)))) := by kernel_rfl
theorem ev128_15_0 (n : Int) : ((evs (cxL 15 (decL [(3, false)])) 60).call 128 [.v (.int .u64 n)] .nil).ans = .side (PureOk Tryd.prog 138 [.v (.int .u64 n)] (.lit (.int .i64 15))) (.side (decide (n ≥ 10000) = false) (.ret (.lit (.int .i64 4)))) := by kernel_rfl
theorem ev128_15_1 (n : Int) : ((evs (cxL 15 (decL [(3, true)])) 60).call 128 [.v (.int .u64 n)] .nil).ans = .side (PureOk Tryd.prog 138 [.v (.int .u64 n)] (.lit (.int .i64 15))) (.side (decide (n ≥ 10000) = true) (.ret (.lit (.int .i64 5)))) := by kernel_rfl
theorem ev128_16_0 (n : Int) : ((evs (cxL 16 (decL [(3, false)])) 60).call 128 [.v (.int .u64 n)] .nil).ans = .side (PureOk Tryd.prog 138 [.v (.int .u64 n)] (.lit (.int .i64 16))) (.side (decide (n ≥ 10000) = false) (.ret (.lit (.int .i64 4)))) := by kernel_rfl
theorem ev128_16_1 (n : Int) : ((evs (cxL 16 (decL [(3, true)])) 60).call 128 [.v (.int .u64 n)] .nil).ans = .side (PureOk Tryd.prog 138 [.v (.int .u64 n)] (.lit (.int .i64 16))) (.side (decide (n ≥ 10000) = true) (.ret (.lit (.int .i64 5)))) := by kernel_rfl
theorem ev128_17_0 (n : Int) : ((evs (cxL 17 (decL [(3, false)])) 60).call 128 [.v (.int .u64 n)] .nil).ans = .side (PureOk Tryd.prog 138 [.v (.int .u64 n)] (.lit (.int .i64 17))) (.side (decide (n ≥ 100000) = false) (.ret (.lit (.int .i64 5)))) := by kernel_rfl
theorem ev128_17_1 (n : Int) : ((evs (cxL 17 (decL [(3, true)])) 60).call 128 [.v (.int .u64 n)] .nil).ans = .side (PureOk Tryd.prog 138 [.v (.int .u64 n)] (.lit (.int .i64 17))) (.side (decide (n ≥ 100000) = true) (.ret (.lit (.int .i64 6)))) := by kernel_rfl
theorem ev128_18_0 (n : Int) : ((evs (cxL 18 (decL [(3, false)])) 60).call 128 [.v (.int .u64 n)] .nil).ans = .side (PureOk Tryd.prog 138 [.v (.int .u64 n)] (.lit (.int .i64 18))) (.side (decide (n ≥ 100000) = false) (.ret (.lit (.int .i64 5)))) := by kernel_rfl
theorem ev128_18_1 (n : Int) : ((evs (cxL 18 (decL [(3, true)])) 60).call 128 [.v (.int .u64 n)] .nil).ans = .side (PureOk Tryd.prog 138 [.v (.int .u64 n)] (.lit (.int .i64 18))) (.side (decide (n ≥ 100000) = true) (.ret (.lit (.int .i64 6)))) := by kernel_rfl
theorem ev128_19_0 (n : Int) : ((evs (cxL 19 (decL [(3, false)])) 60).call 128 [.v (.int .u64 n)] .nil).ans = .side (PureOk Tryd.prog 138 [.v (.int .u64 n)] (.lit (.int .i64 19))) (.side (decide (n ≥ 100000) = false) (.ret (.lit (.int .i64 5)))) := by kernel_rfl
theorem ev128_19_1 (n : Int) : ((evs (cxL 19 (decL [(3, true)])) 60).call 128 [.v (.int .u64 n)] .nil).ans = .side (PureOk Tryd.prog 138 [.v (.int .u64 n)] (.lit (.int .i64 19))) (.side (decide (n ≥ 100000) = true) (.ret (.lit (.int .i64 6)))) := by kernel_rfl
theorem ev128_20_0 (n : Int) : ((evs (cxL 20 (decL [(3, false)])) 60).call 128 [.v (.int .u64 n)] .nil).ans = .side (PureOk Tryd.prog 138 [.v (.int .u64 n)] (.lit (.int .i64 20))) (.side (decide (n ≥ 1000000) = false) (.ret (.lit (.int .i64 6)))) := by kernel_rfl
theorem ev128_20_1 (n : Int) : ((evs (cxL 20 (decL [(3, true)])) 60).call 128 [.v (.int .u64 n)] .nil).ans = .side (PureOk Tryd.prog 138 [.v (.int .u64 n)] (.lit (.int .i64 20))) (.side (decide (n ≥ 1000000) = true) (.ret (.lit (.int .i64 7)))) := by kernel_rfl
theorem ev128_21_0 (n : Int) : ((evs (cxL 21 (decL [(3, false)])) 60).call 128 [.v (.int .u64 n)] .nil).ans = .side (PureOk Tryd.prog 138 [.v (.int .u64 n)] (.lit (.int .i64 21))) (.side (decide (n ≥ 1000000) = false) (.ret (.lit (.int .i64 6)))) := by kernel_rfl
theorem ev128_21_1 (n : Int) : ((evs (cxL 21 (decL [(3, true)])) 60).call 128 [.v (.int .u64 n)] .nil).ans = .side (PureOk Tryd.prog 138 [.v (.int .u64 n)] (.lit (.int .i64 21))) (.side (decide (n ≥ 1000000) = true) (.ret (.lit (.int .i64 7)))) := by kernel_rfl
theorem ev128_22_0 (n : Int) : ((evs (cxL 22 (decL [(3, false)])) 60).call 128 [.v (.int .u64 n)] .nil).ans = .side (PureOk Tryd.prog 138 [.v (.int .u64 n)] (.lit (.int .i64 22))) (.side (decide (n ≥ 1000000) = false) (.ret (.lit (.int .i64 6)))) := by kernel_rfl
theorem ev128_22_1 (n : Int) : ((evs (cxL 22 (decL [(3, true)])) 60).call 128 [.v (.int .u64 n)] .nil).ans = .side (PureOk Tryd.prog 138 [.v (.int .u64 n)] (.lit (.int .i64 22))) (.side (decide (n ≥ 1000000) = true) (.ret (.lit (.int .i64 7)))) := by kernel_rfl
theorem ev128_23_0 (n : Int) : ((evs (cxL 23 (decL [(3, false)])) 60).call 128 [.v (.int .u64 n)] .nil).ans = .side (PureOk Tryd.prog 138 [.v (.int .u64 n)] (.lit (.int .i64 23))) (.side (decide (n ≥ 1000000) = false) (.ret (.lit (.int .i64 6)))) := by kernel_rfl
theorem ev128_23_1 (n : Int) : ((evs (cxL 23 (decL [(3, true)])) 60).call 128 [.v (.int .u64 n)] .nil).ans = .side (PureOk Tryd.prog 138 [.v (.int .u64 n)] (.lit (.int .i64 23))) (.side (decide (n ≥ 1000000) = true) (.ret (.lit (.int .i64 7)))) := by kernel_rfl
theorem ev128_24_0 (n : Int) : ((evs (cxL 24 (decL [(3, false)])) 60).call 128 [.v (.int .u64 n)] .nil).ans = .side (PureOk Tryd.prog 138 [.v (.int .u64 n)] (.lit (.int .i64 24))) (.side (decide (n ≥ 10000000) = false) (.ret (.lit (.int .i64 7)))) := by kernel_rfl
theorem ev128_24_1 (n : Int) : ((evs (cxL 24 (decL [(3, true)])) 60).call 128 [.v (.int .u64 n)] .nil).ans = .side (PureOk Tryd.prog 138 [.v (.int .u64 n)] (.lit (.int .i64 24))) (.side (decide (n ≥ 10000000) = true) (.ret (.lit (.int .i64 8)))) := by kernel_rfl
theorem ev128_25_0 (n : Int) : ((evs (cxL 25 (decL [(3, false)])) 60).call 128 [.v (.int .u64 n)] .nil).ans = .side (PureOk Tryd.prog 138 [.v (.int .u64 n)] (.lit (.int .i64 25))) (.side (decide (n ≥ 10000000) = false) (.ret (.lit (.int .i64 7)))) := by kernel_rfl
theorem ev128_25_1 (n : Int) : ((evs (cxL 25 (decL [(3, true)])) 60).call 128 [.v (.int .u64 n)] .nil).ans = .side (PureOk Tryd.prog 138 [.v (.int .u64 n)] (.lit (.int .i64 25))) (.side (decide (n ≥ 10000000) = true) (.ret (.lit (.int .i64 8)))) := by kernel_rfl
theorem ev128_26_0 (n : Int) : ((evs (cxL 26 (decL [(3, false)])) 60).call 128 [.v (.int .u64 n)] .nil).ans = .side (PureOk Tryd.prog 138 [.v (.int .u64 n)] (.lit (.int .i64 26))) (.side (decide (n ≥ 10000000) = false) (.ret (.lit (.int .i64 7)))) := by kernel_rfl
theorem ev128_26_1 (n : Int) : ((evs (cxL 26 (decL [(3, true)])) 60).call 128 [.v (.int .u64 n)] .nil).ans = .side (PureOk Tryd.prog 138 [.v (.int .u64 n)] (.lit (.int .i64 26))) (.side (decide (n ≥ 10000000) = true) (.ret (.lit (.int .i64 8)))) := by kernel_rfl
theorem ev128_27_0 (n : Int) : ((evs (cxL 27 (decL [(3, false)])) 60).call 128 [.v (.int .u64 n)] .nil).ans = .side (PureOk Tryd.prog 138 [.v (.int .u64 n)] (.lit (.int .i64 27))) (.side (decide (n ≥ 100000000) = false) (.ret (.lit (.int .i64 8)))) := by kernel_rfl
theorem ev128_27_1 (n : Int) : ((evs (cxL 27 (decL [(3, true)])) 60).call 128 [.v (.int .u64 n)] .nil).ans = .side (PureOk Tryd.prog 138 [.v (.int .u64 n)] (.lit (.int .i64 27))) (.side (decide (n ≥ 100000000) = true) (.ret (.lit (.int .i64 9)))) := by kernel_rfl
theorem ev128_28_0 (n : Int) : ((evs (cxL 28 (decL [(3, false)])) 60).call 128 [.v (.int .u64 n)] .nil).ans = .side (PureOk Tryd.prog 138 [.v (.int .u64 n)] (.lit (.int .i64 28))) (.side (decide (n ≥ 100000000) = false) (.ret (.lit (.int .i64 8)))) := by kernel_rfl
theorem ev128_28_1 (n : Int) : ((evs (cxL 28 (decL [(3, true)])) 60).call 128 [.v (.int .u64 n)] .nil).ans = .side (PureOk Tryd.prog 138 [.v (.int .u64 n)] (.lit (.int .i64 28))) (.side (decide (n ≥ 100000000) = true) (.ret (.lit (.int .i64 9)))) := by kernel_rfl
theorem ev128_29_0 (n : Int) : ((evs (cxL 29 (decL [(3, false)])) 60).call 128 [.v (.int .u64 n)] .nil).ans = .side (PureOk Tryd.prog 138 [.v (.int .u64 n)] (.lit (.int .i64 29))) (.side (decide (n ≥ 100000000) = false) (.ret (.lit (.int .i64 8)))) := by kernel_rfl
theorem ev128_29_1 (n : Int) : ((evs (cxL 29 (decL [(3, true)])) 60).call 128 [.v (.int .u64 n)] .nil).ans = .side (PureOk Tryd.prog 138 [.v (.int .u64 n)] (.lit (.int .i64 29))) (.side (decide (n ≥ 100000000) = true) (.ret (.lit (.int .i64 9)))) := by kernel_rfl
theorem ev128_30_0 (n : Int) : ((evs (cxL 30 (decL [(3, false)])) 60).call 128 [.v (.int .u64 n)] .nil).ans = .side (PureOk Tryd.prog 138 [.v (.int .u64 n)] (.lit (.int .i64 30))) (.side (decide (n ≥ 1000000000) = false) (.ret (.lit (.int .i64 9)))) := by kernel_rfl
theorem ev128_30_1 (n : Int) : ((evs (cxL 30 (decL [(3, true)])) 60).call 128 [.v (.int .u64 n)] .nil).ans = .side (PureOk Tryd.prog 138 [.v (.int .u64 n)] (.lit (.int .i64 30))) (.side (decide (n ≥ 1000000000) = true) (.ret (.lit (.int .i64 10)))) := by kernel_rfl
theorem ev128_31_0 (n : Int) : ((evs (cxL 31 (decL [(3, false)])) 60).call 128 [.v (.int .u64 n)] .nil).ans = .side (PureOk Tryd.prog 138 [.v (.int .u64 n)] (.lit (.int .i64 31))) (.side (decide (n ≥ 1000000000) = false) (.ret (.lit (.int .i64 9)))) := by kernel_rfl
theorem ev128_31_1 (n : Int) : ((evs (cxL 31 (decL [(3, true)])) 60).call 128 [.v (.int .u64 n)] .nil).ans = .side (PureOk Tryd.prog 138 [.v (.int .u64 n)] (.lit (.int .i64 31))) (.side (decide (n ≥ 1000000000) = true) (.ret (.lit (.int .i64 10)))) := by kernel_rfl
theorem ev128_32_0 (n : Int) : ((evs (cxL 32 (decL [(3, false)])) 60).call 128 [.v (.int .u64 n)] .nil).ans = .side (PureOk Tryd.prog 138 [.v (.int .u64 n)] (.lit (.int .i64 32))) (.side (decide (n ≥ 1000000000) = false) (.ret (.lit (.int .i64 9)))) := by kernel_rfl
theorem ev128_32_1 (n : Int) : ((evs (cxL 32 (decL [(3, true)])) 60).call 128 [.v (.int .u64 n)] .nil).ans = .side (PureOk Tryd.prog 138 [.v (.int .u64 n)] (.lit (.int .i64 32))) (.side (decide (n ≥ 1000000000) = true) (.ret (.lit (.int .i64 10)))) := by kernel_rfl
theorem ev128_33_0 (n : Int) : ((evs (cxL 33 (decL [(3, false)])) 60).call 128 [.v (.int .u64 n)] .nil).ans = .side (PureOk Tryd.prog 138 [.v (.int .u64 n)] (.lit (.int .i64 33))) (.side (decide (n ≥ 1000000000) = false) (.ret (.lit (.int .i64 9)))) := by kernel_rfl
theorem ev128_33_1 (n : Int) : ((evs (cxL 33 (decL [(3, true)])) 60).call 128 [.v (.int .u64 n)] .nil).ans = .side (PureOk Tryd.prog 138 [.v (.int .u64 n)] (.lit (.int .i64 33))) (.side (decide (n ≥ 1000000000) = true) (.ret (.lit (.int .i64 10)))) := by kernel_rfl
theorem ev128_34_0 (n : Int) : ((evs (cxL 34 (decL [(3, false)])) 60).call 128 [.v (.int .u64 n)] .nil).ans = .side (PureOk Tryd.prog 138 [.v (.int .u64 n)] (.lit (.int .i64 34))) (.side (decide (n ≥ 10000000000) = false) (.ret (.lit (.int .i64 10)))) := by kernel_rfl
theorem ev128_34_1 (n : Int) : ((evs (cxL 34 (decL [(3, true)])) 60).call 128 [.v (.int .u64 n)] .nil).ans = .side (PureOk Tryd.prog 138 [.v (.int .u64 n)] (.lit (.int .i64 34))) (.side (decide (n ≥ 10000000000) = true) (.ret (.lit (.int .i64 11)))) := by kernel_rfl
theorem ev128_35_0 (n : Int) : ((evs (cxL 35 (decL [(3, false)])) 60).call 128 [.v (.int .u64 n)] .nil).ans = .side (PureOk Tryd.prog 138 [.v (.int .u64 n)] (.lit (.int .i64 35))) (.side (decide (n ≥ 10000000000) = false) (.ret (.lit (.int .i64 10)))) := by kernel_rfl
theorem ev128_35_1 (n : Int) : ((evs (cxL 35 (decL [(3, true)])) 60).call 128 [.v (.int .u64 n)] .nil).ans = .side (PureOk Tryd.prog 138 [.v (.int .u64 n)] (.lit (.int .i64 35))) (.side (decide (n ≥ 10000000000) = true) (.ret (.lit (.int .i64 11)))) := by kernel_rfl
theorem ev128_36_0 (n : Int) : ((evs (cxL 36 (decL [(3, false)])) 60).call 128 [.v (.int .u64 n)] .nil).ans = .side (PureOk Tryd.prog 138 [.v (.int .u64 n)] (.lit (.int .i64 36))) (.side (decide (n ≥ 10000000000) = false) (.ret (.lit (.int .i64 10)))) := by kernel_rfl
theorem ev128_36_1 (n : Int) : ((evs (cxL 36 (decL [(3, true)])) 60).call 128 [.v (.int .u64 n)] .nil).ans = .side (PureOk Tryd.prog 138 [.v (.int .u64 n)] (.lit (.int .i64 36))) (.side (decide (n ≥ 10000000000) = true) (.ret (.lit (.int .i64 11)))) := by kernel_rfl
theorem ev128_37_0 (n : Int) : ((evs (cxL 37 (decL [(3, false)])) 60).call 128 [.v (.int .u64 n)] .nil).ans = .side (PureOk Tryd.prog 138 [.v (.int .u64 n)] (.lit (.int .i64 37))) (.side (decide (n ≥ 100000000000) = false) (.ret (.lit (.int .i64 11)))) := by kernel_rfl
theorem ev128_37_1 (n : Int) : ((evs (cxL 37 (decL [(3, true)])) 60).call 128 [.v (.int .u64 n)] .nil).ans = .side (PureOk Tryd.prog 138 [.v (.int .u64 n)] (.lit (.int .i64 37))) (.side (decide (n ≥ 100000000000) = true) (.ret (.lit (.int .i64 12)))) := by kernel_rfl
theorem ev128_38_0 (n : Int) : ((evs (cxL 38 (decL [(3, false)])) 60).call 128 [.v (.int .u64 n)] .nil).ans = .side (PureOk Tryd.prog 138 [.v (.int .u64 n)] (.lit (.int .i64 38))) (.side (decide (n ≥ 100000000000) = false) (.ret (.lit (.int .i64 11)))) := by kernel_rfl
theorem ev128_38_1 (n : Int) : ((evs (cxL 38 (decL [(3, true)])) 60).call 128 [.v (.int .u64 n)] .nil).ans = .side (PureOk Tryd.prog 138 [.v (.int .u64 n)] (.lit (.int .i64 38))) (.side (decide (n ≥ 100000000000) = true) (.ret (.lit (.int .i64 12)))) := by kernel_rfl
theorem ev128_39_0 (n : Int) : ((evs (cxL 39 (decL [(3, false)])) 60).call 128 [.v (.int .u64 n)] .nil).ans = .side (PureOk Tryd.prog 138 [.v (.int .u64 n)] (.lit (.int .i64 39))) (.side (decide (n ≥ 100000000000) = false) (.ret (.lit (.int .i64 11)))) := by kernel_rfl
theorem ev128_39_1 (n : Int) : ((evs (cxL 39 (decL [(3, true)])) 60).call 128 [.v (.int .u64 n)] .nil).ans = .side (PureOk Tryd.prog 138 [.v (.int .u64 n)] (.lit (.int .i64 39))) (.side (decide (n ≥ 100000000000) = true) (.ret (.lit (.int .i64 12)))) := by kernel_rfl
theorem ev128_40_0 (n : Int) : ((evs (cxL 40 (decL [(3, false)])) 60).call 128 [.v (.int .u64 n)] .nil).ans = .side (PureOk Tryd.prog 138 [.v (.int .u64 n)] (.lit (.int .i64 40))) (.side (decide (n ≥ 1000000000000) = false) (.ret (.lit (.int .i64 12)))) := by kernel_rfl
theorem ev128_40_1 (n : Int) : ((evs (cxL 40 (decL [(3, true)])) 60).call 128 [.v (.int .u64 n)] .nil).ans = .side (PureOk Tryd.prog 138 [.v (.int .u64 n)] (.lit (.int .i64 40))) (.side (decide (n ≥ 1000000000000) = true) (.ret (.lit (.int .i64 13)))) := by kernel_rfl
theorem ev128_41_0 (n : Int) : ((evs (cxL 41 (decL [(3, false)])) 60).call 128 [.v (.int .u64 n)] .nil).ans = .side (PureOk Tryd.prog 138 [.v (.int .u64 n)] (.lit (.int .i64 41))) (.side (decide (n ≥ 1000000000000) = false) (.ret (.lit (.int .i64 12)))) := by kernel_rfl
theorem ev128_41_1 (n : Int) : ((evs (cxL 41 (decL [(3, true)])) 60).call 128 [.v (.int .u64 n)] .nil).ans = .side (PureOk Tryd.prog 138 [.v (.int .u64 n)] (.lit (.int .i64 41))) (.side (decide (n ≥ 1000000000000) = true) (.ret (.lit (.int .i64 13)))) := by kernel_rfl
theorem ev128_42_0 (n : Int) : ((evs (cxL 42 (decL [(3, false)])) 60).call 128 [.v (.int .u64 n)] .nil).ans = .side (PureOk Tryd.prog 138 [.v (.int .u64 n)] (.lit (.int .i64 42))) (.side (decide (n ≥ 1000000000000) = false) (.ret (.lit (.int .i64 12)))) := by kernel_rfl
theorem ev128_42_1 (n : Int) : ((evs (cxL 42 (decL [(3, true)])) 60).call 128 [.v (.int .u64 n)] .nil).ans = .side (PureOk Tryd.prog 138 [.v (.int .u64 n)] (.lit (.int .i64 42))) (.side (decide (n ≥ 1000000000000) = true) (.ret (.lit (.int .i64 13)))) := by kernel_rfl
theorem ev128_43_0 (n : Int) : ((evs (cxL 43 (decL [(3, false)])) 60).call 128 [.v (.int .u64 n)] .nil).ans = .side (PureOk Tryd.prog 138 [.v (.int .u64 n)] (.lit (.int .i64 43))) (.side (decide (n ≥ 1000000000000) = false) (.ret (.lit (.int .i64 12)))) := by kernel_rfl
theorem ev128_43_1 (n : Int) : ((evs (cxL 43 (decL [(3, true)])) 60).call 128 [.v (.int .u64 n)] .nil).ans = .side (PureOk Tryd.prog 138 [.v (.int .u64 n)] (.lit (.int .i64 43))) (.side (decide (n ≥ 1000000000000) = true) (.ret (.lit (.int .i64 13)))) := by kernel_rfl
theorem ev128_44_0 (n : Int) : ((evs (cxL 44 (decL [(3, false)])) 60).call 128 [.v (.int .u64 n)] .nil).ans = .side (PureOk Tryd.prog 138 [.v (.int .u64 n)] (.lit (.int .i64 44))) (.side (decide (n ≥ 10000000000000) = false) (.ret (.lit (.int .i64 13)))) := by kernel_rfl
theorem ev128_44_1 (n : Int) : ((evs (cxL 44 (decL [(3, true)])) 60).call 128 [.v (.int .u64 n)] .nil).ans = .side (PureOk Tryd.prog 138 [.v (.int .u64 n)] (.lit (.int .i64 44))) (.side (decide (n ≥ 10000000000000) = true) (.ret (.lit (.int .i64 14)))) := by kernel_rfl
theorem ev128_45_0 (n : Int) : ((evs (cxL 45 (decL [(3, false)])) 60).call 128 [.v (.int .u64 n)] .nil).ans = .side (PureOk Tryd.prog 138 [.v (.int .u64 n)] (.lit (.int .i64 45))) (.side (decide (n ≥ 10000000000000) = false) (.ret (.lit (.int .i64 13)))) := by kernel_rfl
theorem ev128_45_1 (n : Int) : ((evs (cxL 45 (decL [(3, true)])) 60).call 128 [.v (.int .u64 n)] .nil).ans = .side (PureOk Tryd.prog 138 [.v (.int .u64 n)] (.lit (.int .i64 45))) (.side (decide (n ≥ 10000000000000) = true) (.ret (.lit (.int .i64 14)))) := by kernel_rfl
theorem ev128_46_0 (n : Int) : ((evs (cxL 46 (decL [(3, false)])) 60).call 128 [.v (.int .u64 n)] .nil).ans = .side (PureOk Tryd.prog 138 [.v (.int .u64 n)] (.lit (.int .i64 46))) (.side (decide (n ≥ 10000000000000) = false) (.ret (.lit (.int .i64 13)))) := by kernel_rfl
theorem ev128_46_1 (n : Int) : ((evs (cxL 46 (decL [(3, true)])) 60).call 128 [.v (.int .u64 n)] .nil).ans = .side (PureOk Tryd.prog 138 [.v (.int .u64 n)] (.lit (.int .i64 46))) (.side (decide (n ≥ 10000000000000) = true) (.ret (.lit (.int .i64 14)))) := by kernel_rfl
theorem ev128_47_0 (n : Int) : ((evs (cxL 47 (decL [(3, false)])) 60).call 128 [.v (.int .u64 n)] .nil).ans = .side (PureOk Tryd.prog 138 [.v (.int .u64 n)] (.lit (.int .i64 47))) (.side (decide (n ≥ 100000000000000) = false) (.ret (.lit (.int .i64 14)))) := by kernel_rfl
theorem ev128_47_1 (n : Int) : ((evs (cxL 47 (decL [(3, true)])) 60).call 128 [.v (.int .u64 n)] .nil).ans = .side (PureOk Tryd.prog 138 [.v (.int .u64 n)] (.lit (.int .i64 47))) (.side (decide (n ≥ 100000000000000) = true) (.ret (.lit (.int .i64 15)))) := by kernel_rfl
theorem ev128_48_0 (n : Int) : ((evs (cxL 48 (decL [(3, false)])) 60).call 128 [.v (.int .u64 n)] .nil).ans = .side (PureOk Tryd.prog 138 [.v (.int .u64 n)] (.lit (.int .i64 48))) (.side (decide (n ≥ 100000000000000) = false) (.ret (.lit (.int .i64 14)))) := by kernel_rfl
theorem ev128_48_1 (n : Int) : ((evs (cxL 48 (decL [(3, true)])) 60).call 128 [.v (.int .u64 n)] .nil).ans = .side (PureOk Tryd.prog 138 [.v (.int .u64 n)] (.lit (.int .i64 48))) (.side (decide (n ≥ 100000000000000) = true) (.ret (.lit (.int .i64 15)))) := by kernel_rfl
theorem ev128_49_0 (n : Int) : ((evs (cxL 49 (decL [(3, false)])) 60).call 128 [.v (.int .u64 n)] .nil).ans = .side (PureOk Tryd.prog 138 [.v (.int .u64 n)] (.lit (.int .i64 49))) (.side (decide (n ≥ 100000000000000) = false) (.ret (.lit (.int .i64 14)))) := by kernel_rfl
theorem ev128_49_1 (n : Int) : ((evs (cxL 49 (decL [(3, true)])) 60).call 128 [.v (.int .u64 n)] .nil).ans = .side (PureOk Tryd.prog 138 [.v (.int .u64 n)] (.lit (.int .i64 49))) (.side (decide (n ≥ 100000000000000) = true) (.ret (.lit (.int .i64 15)))) := by kernel_rfl
theorem ev128_50_0 (n : Int) : ((evs (cxL 50 (decL [(3, false)])) 60).call 128 [.v (.int .u64 n)] .nil).ans = .side (PureOk Tryd.prog 138 [.v (.int .u64 n)] (.lit (.int .i64 50))) (.side (decide (n ≥ 1000000000000000) = false) (.ret (.lit (.int .i64 15)))) := by kernel_rfl
theorem ev128_50_1 (n : Int) : ((evs (cxL 50 (decL [(3, true)])) 60).call 128 [.v (.int .u64 n)] .nil).ans = .side (PureOk Tryd.prog 138 [.v (.int .u64 n)] (.lit (.int .i64 50))) (.side (decide (n ≥ 1000000000000000) = true) (.ret (.lit (.int .i64 16)))) := by kernel_rfl
theorem ev128_51_0 (n : Int) : ((evs (cxL 51 (decL [(3, false)])) 60).call 128 [.v (.int .u64 n)] .nil).ans = .side (PureOk Tryd.prog 138 [.v (.int .u64 n)] (.lit (.int .i64 51))) (.side (decide (n ≥ 1000000000000000) = false) (.ret (.lit (.int .i64 15)))) := by kernel_rfl
theorem ev128_51_1 (n : Int) : ((evs (cxL 51 (decL [(3, true)])) 60).call 128 [.v (.int .u64 n)] .nil).ans = .side (PureOk Tryd.prog 138 [.v (.int .u64 n)] (.lit (.int .i64 51))) (.side (decide (n ≥ 1000000000000000) = true) (.ret (.lit (.int .i64 16)))) := by kernel_rfl
theorem ev128_52_0 (n : Int) : ((evs (cxL 52 (decL [(3, false)])) 60).call 128 [.v (.int .u64 n)] .nil).ans = .side (PureOk Tryd.prog 138 [.v (.int .u64 n)] (.lit (.int .i64 52))) (.side (decide (n ≥ 1000000000000000) = false) (.ret (.lit (.int .i64 15)))) := by kernel_rfl
theorem ev128_52_1 (n : Int) : ((evs (cxL 52 (decL [(3, true)])) 60).call 128 [.v (.int .u64 n)] .nil).ans = .side (PureOk Tryd.prog 138 [.v (.int .u64 n)] (.lit (.int .i64 52))) (.side (decide (n ≥ 1000000000000000) = true) (.ret (.lit (.int .i64 16)))) := by kernel_rfl
theorem ev128_53_0 (n : Int) : ((evs (cxL 53 (decL [(3, false)])) 60).call 128 [.v (.int .u64 n)] .nil).ans = .side (PureOk Tryd.prog 138 [.v (.int .u64 n)] (.lit (.int .i64 53))) (.side (decide (n ≥ 1000000000000000) = false) (.ret (.lit (.int .i64 15)))) := by kernel_rfl
theorem ev128_53_1 (n : Int) : ((evs (cxL 53 (decL [(3, true)])) 60).call 128 [.v (.int .u64 n)] .nil).ans = .side (PureOk Tryd.prog 138 [.v (.int .u64 n)] (.lit (.int .i64 53))) (.side (decide (n ≥ 1000000000000000) = true) (.ret (.lit (.int .i64 16)))) := by kernel_rfl
theorem ev128_54_0 (n : Int) : ((evs (cxL 54 (decL [(3, false)])) 60).call 128 [.v (.int .u64 n)] .nil).ans = .side (PureOk Tryd.prog 138 [.v (.int .u64 n)] (.lit (.int .i64 54))) (.side (decide (n ≥ 10000000000000000) = false) (.ret (.lit (.int .i64 16)))) := by kernel_rfl
theorem ev128_54_1 (n : Int) : ((evs (cxL 54 (decL [(3, true)])) 60).call 128 [.v (.int .u64 n)] .nil).ans = .side (PureOk Tryd.prog 138 [.v (.int .u64 n)] (.lit (.int .i64 54))) (.side (decide (n ≥ 10000000000000000) = true) (.ret (.lit (.int .i64 17)))) := by kernel_rfl
theorem ev128_55_0 (n : Int) : ((evs (cxL 55 (decL [(3, false)])) 60).call 128 [.v (.int .u64 n)] .nil).ans = .side (PureOk Tryd.prog 138 [.v (.int .u64 n)] (.lit (.int .i64 55))) (.side (decide (n ≥ 10000000000000000) = false) (.ret (.lit (.int .i64 16)))) := by kernel_rfl
theorem ev128_55_1 (n : Int) : ((evs (cxL 55 (decL [(3, true)])) 60).call 128 [.v (.int .u64 n)] .nil).ans = .side (PureOk Tryd.prog 138 [.v (.int .u64 n)] (.lit (.int .i64 55))) (.side (decide (n ≥ 10000000000000000) = true) (.ret (.lit (.int .i64 17)))) := by kernel_rfl
theorem ev128_56_0 (n : Int) : ((evs (cxL 56 (decL [(3, false)])) 60).call 128 [.v (.int .u64 n)] .nil).ans = .side (PureOk Tryd.prog 138 [.v (.int .u64 n)] (.lit (.int .i64 56))) (.side (decide (n ≥ 10000000000000000) = false) (.ret (.lit (.int .i64 16)))) := by kernel_rfl
theorem ev128_56_1 (n : Int) : ((evs (cxL 56 (decL [(3, true)])) 60).call 128 [.v (.int .u64 n)] .nil).ans = .side (PureOk Tryd.prog 138 [.v (.int .u64 n)] (.lit (.int .i64 56))) (.side (decide (n ≥ 10000000000000000) = true) (.ret (.lit (.int .i64 17)))) := by kernel_rfl
theorem ev128_57_0 (n : Int) : ((evs (cxL 57 (decL [(3, false)])) 60).call 128 [.v (.int .u64 n)] .nil).ans = .side (PureOk Tryd.prog 138 [.v (.int .u64 n)] (.lit (.int .i64 57))) (.side (decide (n ≥ 100000000000000000) = false) (.ret (.lit (.int .i64 17)))) := by kernel_rfl
theorem ev128_57_1 (n : Int) : ((evs (cxL 57 (decL [(3, true)])) 60).call 128 [.v (.int .u64 n)] .nil).ans = .side (PureOk Tryd.prog 138 [.v (.int .u64 n)] (.lit (.int .i64 57))) (.side (decide (n ≥ 100000000000000000) = true) (.ret (.lit (.int .i64 18)))) := by kernel_rfl
theorem ev128_58_0 (n : Int) : ((evs (cxL 58 (decL [(3, false)])) 60).call 128 [.v (.int .u64 n)] .nil).ans = .side (PureOk Tryd.prog 138 [.v (.int .u64 n)] (.lit (.int .i64 58))) (.side (decide (n ≥ 100000000000000000) = false) (.ret (.lit (.int .i64 17)))) := by kernel_rfl
theorem ev128_58_1 (n : Int) : ((evs (cxL 58 (decL [(3, true)])) 60).call 128 [.v (.int .u64 n)] .nil).ans = .side (PureOk Tryd.prog 138 [.v (.int .u64 n)] (.lit (.int .i64 58))) (.side (decide (n ≥ 100000000000000000) = true) (.ret (.lit (.int .i64 18)))) := by kernel_rfl
theorem ev128_59_0 (n : Int) : ((evs (cxL 59 (decL [(3, false)])) 60).call 128 [.v (.int .u64 n)] .nil).ans = .side (PureOk Tryd.prog 138 [.v (.int .u64 n)] (.lit (.int .i64 59))) (.side (decide (n ≥ 100000000000000000) = false) (.ret (.lit (.int .i64 17)))) := by kernel_rfl
theorem ev128_59_1 (n : Int) : ((evs (cxL 59 (decL [(3, true)])) 60).call 128 [.v (.int .u64 n)] .nil).ans = .side (PureOk Tryd.prog 138 [.v (.int .u64 n)] (.lit (.int .i64 59))) (.side (decide (n ≥ 100000000000000000) = true) (.ret (.lit (.int .i64 18)))) := by kernel_rfl
theorem ev128_60_0 (n : Int) : ((evs (cxL 60 (decL [(3, false)])) 60).call 128 [.v (.int .u64 n)] .nil).ans = .side (PureOk Tryd.prog 138 [.v (.int .u64 n)] (.lit (.int .i64 60))) (.side (decide (n ≥ 1000000000000000000) = false) (.ret (.lit (.int .i64 18)))) := by kernel_rfl
theorem ev128_60_1 (n : Int) : ((evs (cxL 60 (decL [(3, true)])) 60).call 128 [.v (.int .u64 n)] .nil).ans = .side (PureOk Tryd.prog 138 [.v (.int .u64 n)] (.lit (.int .i64 60))) (.side (decide (n ≥ 1000000000000000000) = true) (.ret (.lit (.int .i64 19)))) := by kernel_rfl
theorem ev128_61_0 (n : Int) : ((evs (cxL 61 (decL [(3, false)])) 60).call 128 [.v (.int .u64 n)] .nil).ans = .side (PureOk Tryd.prog 138 [.v (.int .u64 n)] (.lit (.int .i64 61))) (.side (decide (n ≥ 1000000000000000000) = false) (.ret (.lit (.int .i64 18)))) := by kernel_rfl
theorem ev128_61_1 (n : Int) : ((evs (cxL 61 (decL [(3, true)])) 60).call 128 [.v (.int .u64 n)] .nil).ans = .side (PureOk Tryd.prog 138 [.v (.int .u64 n)] (.lit (.int .i64 61))) (.side (decide (n ≥ 1000000000000000000) = true) (.ret (.lit (.int .i64 19)))) := by kernel_rfl
theorem ev128_62_0 (n : Int) : ((evs (cxL 62 (decL [(3, false)])) 60).call 128 [.v (.int .u64 n)] .nil).ans = .side (PureOk Tryd.prog 138 [.v (.int .u64 n)] (.lit (.int .i64 62))) (.side (decide (n ≥ 1000000000000000000) = false) (.ret (.lit (.int .i64 18)))) := by kernel_rfl
theorem ev128_62_1 (n : Int) : ((evs (cxL 62 (decL [(3, true)])) 60).call 128 [.v (.int .u64 n)] .nil).ans = .side (PureOk Tryd.prog 138 [.v (.int .u64 n)] (.lit (.int .i64 62))) (.side (decide (n ≥ 1000000000000000000) = true) (.ret (.lit (.int .i64 19)))) := by kernel_rfl
theorem ev128_63_0 (n : Int) : ((evs (cxL 63 (decL [(3, false)])) 60).call 128 [.v (.int .u64 n)] .nil).ans = .side (PureOk Tryd.prog 138 [.v (.int .u64 n)] (.lit (.int .i64 63))) (.side (decide (n ≥ 1000000000000000000) = false) (.ret (.lit (.int .i64 18)))) := by kernel_rfl
theorem ev128_63_1 (n : Int) : ((evs (cxL 63 (decL [(3, true)])) 60).call 128 [.v (.int .u64 n)] .nil).ans = .side (PureOk Tryd.prog 138 [.v (.int .u64 n)] (.lit (.int .i64 63))) (.side (decide (n ≥ 1000000000000000000) = true) (.ret (.lit (.int .i64 19)))) := by kernel_rfl
theorem ev128_64_0 (n : Int) : ((evs (cxL 64 (decL [(3, false)])) 60).call 128 [.v (.int .u64 n)] .nil).ans = .side (PureOk Tryd.prog 138 [.v (.int .u64 n)] (.lit (.int .i64 64))) (.side (decide (n ≥ 10000000000000000000) = false) (.ret (.lit (.int .i64 19)))) := by kernel_rfl
theorem ev128_64_1 (n : Int) : ((evs (cxL 64 (decL [(3, true)])) 60).call 128 [.v (.int .u64 n)] .nil).ans = .side (PureOk Tryd.prog 138 [.v (.int .u64 n)] (.lit (.int .i64 64))) (.side (decide (n ≥ 10000000000000000000) = true) (.ret (.lit (.int .i64 20)))) := by kernel_rfl
theorem fmtL_7 (n : Int) (h1 : 64 ≤ n) (h2 : n < 128) (h : 100 ≤ n) : PureOk Tryd.prog 87 [.v (.int .u64 n), .lit (.int .i64 10)] (.v (bytesV (dig n.toNat))) := by
  have hl : PureOk Tryd.prog 138 [.v (.int .u64 n)] (.lit (.int .i64 7)) := len_000 n 6 (by omega) (by omega) (by omega) (by omega) (by omega) (by omega) (by omega) (by omega)
  exact fmt_3 n (by omega) (by omega) (by omega) (pure_hitX (cxL_ok _ _) rfl (ev128_7_1 n) ⟨hl, decide_eq_true (by omega), rfl⟩ (by kernel_rfl))
theorem fmtL_8 (n : Int) (h1 : 128 ≤ n) (h2 : n < 256) (h : 100 ≤ n) : PureOk Tryd.prog 87 [.v (.int .u64 n), .lit (.int .i64 10)] (.v (bytesV (dig n.toNat))) := by
  have hl : PureOk Tryd.prog 138 [.v (.int .u64 n)] (.lit (.int .i64 8)) := len_000 n 7 (by omega) (by omega) (by omega) (by omega) (by omega) (by omega) (by omega) (by omega)
  exact fmt_3 n (by omega) (by omega) (by omega) (pure_hitX (cxL_ok _ _) rfl (ev128_8_1 n) ⟨hl, decide_eq_true (by omega), rfl⟩ (by kernel_rfl))
theorem fmtL_9 (n : Int) (h1 : 256 ≤ n) (h2 : n < 512) (h : 100 ≤ n) : PureOk Tryd.prog 87 [.v (.int .u64 n), .lit (.int .i64 10)] (.v (bytesV (dig n.toNat))) := by
  have hl : PureOk Tryd.prog 138 [.v (.int .u64 n)] (.lit (.int .i64 9)) := len_001 n 0 (by omega) (by omega) (by omega) (by omega) (by omega) (by omega) (by omega) (by omega)
  exact fmt_3 n (by omega) (by omega) (by omega) (pure_hitX (cxL_ok _ _) rfl (ev128_9_1 n) ⟨hl, decide_eq_true (by omega), rfl⟩ (by kernel_rfl))
theorem fmtL_10 (n : Int) (h1 : 512 ≤ n) (h2 : n < 1024) (h : 100 ≤ n) : PureOk Tryd.prog 87 [.v (.int .u64 n), .lit (.int .i64 10)] (.v (bytesV (dig n.toNat))) := by
  have hl : PureOk Tryd.prog 138 [.v (.int .u64 n)] (.lit (.int .i64 10)) := len_001 n 1 (by omega) (by omega) (by omega) (by omega) (by omega) (by omega) (by omega) (by omega)
  by_cases hc : n ≥ 1000
  · exact fmt_4 n (by omega) (by omega) (by omega) (pure_hitX (cxL_ok _ _) rfl (ev128_10_1 n) ⟨hl, decide_eq_true (by omega), rfl⟩ (by kernel_rfl))
  · exact fmt_3 n (by omega) (by omega) (by omega) (pure_hitX (cxL_ok _ _) rfl (ev128_10_0 n) ⟨hl, decide_eq_false (by omega), rfl⟩ (by kernel_rfl))
theorem fmtL_11 (n : Int) (h1 : 1024 ≤ n) (h2 : n < 2048) (h : 100 ≤ n) : PureOk Tryd.prog 87 [.v (.int .u64 n), .lit (.int .i64 10)] (.v (bytesV (dig n.toNat))) := by
  have hl : PureOk Tryd.prog 138 [.v (.int .u64 n)] (.lit (.int .i64 11)) := len_001 n 2 (by omega) (by omega) (by omega) (by omega) (by omega) (by omega) (by omega) (by omega)
  exact fmt_4 n (by omega) (by omega) (by omega) (pure_hitX (cxL_ok _ _) rfl (ev128_11_1 n) ⟨hl, decide_eq_true (by omega), rfl⟩ (by kernel_rfl))
theorem fmtL_12 (n : Int) (h1 : 2048 ≤ n) (h2 : n < 4096) (h : 100 ≤ n) : PureOk Tryd.prog 87 [.v (.int .u64 n), .lit (.int .i64 10)] (.v (bytesV (dig n.toNat))) := by
  have hl : PureOk Tryd.prog 138 [.v (.int .u64 n)] (.lit (.int .i64 12)) := len_001 n 3 (by omega) (by omega) (by omega) (by omega) (by omega) (by omega) (by omega) (by omega)
  exact fmt_4 n (by omega) (by omega) (by omega) (pure_hitX (cxL_ok _ _) rfl (ev128_12_1 n) ⟨hl, decide_eq_true (by omega), rfl⟩ (by kernel_rfl))
theorem fmtL_13 (n : Int) (h1 : 4096 ≤ n) (h2 : n < 8192) (h : 100 ≤ n) : PureOk Tryd.prog 87 [.v (.int .u64 n), .lit (.int .i64 10)] (.v (bytesV (dig n.toNat))) := by
  have hl : PureOk Tryd.prog 138 [.v (.int .u64 n)] (.lit (.int .i64 13)) := len_001 n 4 (by omega) (by omega) (by omega) (by omega) (by omega) (by omega) (by omega) (by omega)
  exact fmt_4 n (by omega) (by omega) (by omega) (pure_hitX (cxL_ok _ _) rfl (ev128_13_1 n) ⟨hl, decide_eq_true (by omega), rfl⟩ (by kernel_rfl))
theorem fmtL_14 (n : Int) (h1 : 8192 ≤ n) (h2 : n < 16384) (h : 100 ≤ n) : PureOk Tryd.prog 87 [.v (.int .u64 n), .lit (.int .i64 10)] (.v (bytesV (dig n.toNat))) := by
  have hl : PureOk Tryd.prog 138 [.v (.int .u64 n)] (.lit (.int .i64 14)) := len_001 n 5 (by omega) (by omega) (by omega) (by omega) (by omega) (by omega) (by omega) (by omega)
  by_cases hc : n ≥ 10000
  · exact fmt_5 n (by omega) (by omega) (by omega) (pure_hitX (cxL_ok _ _) rfl (ev128_14_1 n) ⟨hl, decide_eq_true (by omega), rfl⟩ (by kernel_rfl))
  · exact fmt_4 n (by omega) (by omega) (by omega) (pure_hitX (cxL_ok _ _) rfl (ev128_14_0 n) ⟨hl, decide_eq_false (by omega), rfl⟩ (by kernel_rfl))
theorem fmtL_15 (n : Int) (h1 : 16384 ≤ n) (h2 : n < 32768) (h : 100 ≤ n) : PureOk Tryd.prog 87 [.v (.int .u64 n), .lit (.int .i64 10)] (.v (bytesV (dig n.toNat))) := by
  have hl : PureOk Tryd.prog 138 [.v (.int .u64 n)] (.lit (.int .i64 15)) := len_001 n 6 (by omega) (by omega) (by omega) (by omega) (by omega) (by omega) (by omega) (by omega)
  exact fmt_5 n (by omega) (by omega) (by omega) (pure_hitX (cxL_ok _ _) rfl (ev128_15_1 n) ⟨hl, decide_eq_true (by omega), rfl⟩ (by kernel_rfl))
theorem fmtL_16 (n : Int) (h1 : 32768 ≤ n) (h2 : n < 65536) (h : 100 ≤ n) : PureOk Tryd.prog 87 [.v (.int .u64 n), .lit (.int .i64 10)] (.v (bytesV (dig n.toNat))) := by
  have hl : PureOk Tryd.prog 138 [.v (.int .u64 n)] (.lit (.int .i64 16)) := len_001 n 7 (by omega) (by omega) (by omega) (by omega) (by omega) (by omega) (by omega) (by omega)
  exact fmt_5 n (by omega) (by omega) (by omega) (pure_hitX (cxL_ok _ _) rfl (ev128_16_1 n) ⟨hl, decide_eq_true (by omega), rfl⟩ (by kernel_rfl))
theorem fmtL_17 (n : Int) (h1 : 65536 ≤ n) (h2 : n < 131072) (h : 100 ≤ n) : PureOk Tryd.prog 87 [.v (.int .u64 n), .lit (.int .i64 10)] (.v (bytesV (dig n.toNat))) := by
  have hl : PureOk Tryd.prog 138 [.v (.int .u64 n)] (.lit (.int .i64 17)) := len_010 n 0 (by omega) (by omega) (by omega) (by omega) (by omega) (by omega) (by omega) (by omega)
  by_cases hc : n ≥ 100000
  · exact fmt_6 n (by omega) (by omega) (by omega) (pure_hitX (cxL_ok _ _) rfl (ev128_17_1 n) ⟨hl, decide_eq_true (by omega), rfl⟩ (by kernel_rfl))
  · exact fmt_5 n (by omega) (by omega) (by omega) (pure_hitX (cxL_ok _ _) rfl (ev128_17_0 n) ⟨hl, decide_eq_false (by omega), rfl⟩ (by kernel_rfl))
theorem fmtL_18 (n : Int) (h1 : 131072 ≤ n) (h2 : n < 262144) (h : 100 ≤ n) : PureOk Tryd.prog 87 [.v (.int .u64 n), .lit (.int .i64 10)] (.v (bytesV (dig n.toNat))) := by
  have hl : PureOk Tryd.prog 138 [.v (.int .u64 n)] (.lit (.int .i64 18)) := len_010 n 1 (by omega) (by omega) (by omega) (by omega) (by omega) (by omega) (by omega) (by omega)
  exact fmt_6 n (by omega) (by omega) (by omega) (pure_hitX (cxL_ok _ _) rfl (ev128_18_1 n) ⟨hl, decide_eq_true (by omega), rfl⟩ (by kernel_rfl))
theorem fmtL_19 (n : Int) (h1 : 262144 ≤ n) (h2 : n < 524288) (h : 100 ≤ n) : PureOk Tryd.prog 87 [.v (.int .u64 n), .lit (.int .i64 10)] (.v (bytesV (dig n.toNat))) := by
  have hl : PureOk Tryd.prog 138 [.v (.int .u64 n)] (.lit (.int .i64 19)) := len_010 n 2 (by omega) (by omega) (by omega) (by omega) (by omega) (by omega) (by omega) (by omega)
  exact fmt_6 n (by omega) (by omega) (by omega) (pure_hitX (cxL_ok _ _) rfl (ev128_19_1 n) ⟨hl, decide_eq_true (by omega), rfl⟩ (by kernel_rfl))
theorem fmtL_20 (n : Int) (h1 : 524288 ≤ n) (h2 : n < 1048576) (h : 100 ≤ n) : PureOk Tryd.prog 87 [.v (.int .u64 n), .lit (.int .i64 10)] (.v (bytesV (dig n.toNat))) := by
  have hl : PureOk Tryd.prog 138 [.v (.int .u64 n)] (.lit (.int .i64 20)) := len_010 n 3 (by omega) (by omega) (by omega) (by omega) (by omega) (by omega) (by omega) (by omega)
  by_cases hc : n ≥ 1000000
  · exact fmt_7 n (by omega) (by omega) (by omega) (pure_hitX (cxL_ok _ _) rfl (ev128_20_1 n) ⟨hl, decide_eq_true (by omega), rfl⟩ (by kernel_rfl))
  · exact fmt_6 n (by omega) (by omega) (by omega) (pure_hitX (cxL_ok _ _) rfl (ev128_20_0 n) ⟨hl, decide_eq_false (by omega), rfl⟩ (by kernel_rfl))
theorem fmtL_21 (n : Int) (h1 : 1048576 ≤ n) (h2 : n < 2097152) (h : 100 ≤ n) : PureOk Tryd.prog 87 [.v (.int .u64 n), .lit (.int .i64 10)] (.v (bytesV (dig n.toNat))) := by
  have hl : PureOk Tryd.prog 138 [.v (.int .u64 n)] (.lit (.int .i64 21)) := len_010 n 4 (by omega) (by omega) (by omega) (by omega) (by omega) (by omega) (by omega) (by omega)
  exact fmt_7 n (by omega) (by omega) (by omega) (pure_hitX (cxL_ok _ _) rfl (ev128_21_1 n) ⟨hl, decide_eq_true (by omega), rfl⟩ (by kernel_rfl))
theorem fmtL_22 (n : Int) (h1 : 2097152 ≤ n) (h2 : n < 4194304) (h : 100 ≤ n) : PureOk Tryd.prog 87 [.v (.int .u64 n), .lit (.int .i64 10)] (.v (bytesV (dig n.toNat))) := by
  have hl : PureOk Tryd.prog 138 [.v (.int .u64 n)] (.lit (.int .i64 22)) := len_010 n 5 (by omega) (by omega) (by omega) (by omega) (by omega) (by omega) (by omega) (by omega)
  exact fmt_7 n (by omega) (by omega) (by omega) (pure_hitX (cxL_ok _ _) rfl (ev128_22_1 n) ⟨hl, decide_eq_true (by omega), rfl⟩ (by kernel_rfl))
theorem fmtL_23 (n : Int) (h1 : 4194304 ≤ n) (h2 : n < 8388608) (h : 100 ≤ n) : PureOk Tryd.prog 87 [.v (.int .u64 n), .lit (.int .i64 10)] (.v (bytesV (dig n.toNat))) := by
  have hl : PureOk Tryd.prog 138 [.v (.int .u64 n)] (.lit (.int .i64 23)) := len_010 n 6 (by omega) (by omega) (by omega) (by omega) (by omega) (by omega) (by omega) (by omega)
  exact fmt_7 n (by omega) (by omega) (by omega) (pure_hitX (cxL_ok _ _) rfl (ev128_23_1 n) ⟨hl, decide_eq_true (by omega), rfl⟩ (by kernel_rfl))
theorem fmtL_24 (n : Int) (h1 : 8388608 ≤ n) (h2 : n < 16777216) (h : 100 ≤ n) : PureOk Tryd.prog 87 [.v (.int .u64 n), .lit (.int .i64 10)] (.v (bytesV (dig n.toNat))) := by
  have hl : PureOk Tryd.prog 138 [.v (.int .u64 n)] (.lit (.int .i64 24)) := len_010 n 7 (by omega) (by omega) (by omega) (by omega) (by omega) (by omega) (by omega) (by omega)
  by_cases hc : n ≥ 10000000
  · exact fmt_8 n (by omega) (by omega) (by omega) (pure_hitX (cxL_ok _ _) rfl (ev128_24_1 n) ⟨hl, decide_eq_true (by omega), rfl⟩ (by kernel_rfl))
  · exact fmt_7 n (by omega) (by omega) (by omega) (pure_hitX (cxL_ok _ _) rfl (ev128_24_0 n) ⟨hl, decide_eq_false (by omega), rfl⟩ (by kernel_rfl))
theorem fmtL_25 (n : Int) (h1 : 16777216 ≤ n) (h2 : n < 33554432) (h : 100 ≤ n) : PureOk Tryd.prog 87 [.v (.int .u64 n), .lit (.int .i64 10)] (.v (bytesV (dig n.toNat))) := by
  have hl : PureOk Tryd.prog 138 [.v (.int .u64 n)] (.lit (.int .i64 25)) := len_011 n 0 (by omega) (by omega) (by omega) (by omega) (by omega) (by omega) (by omega) (by omega)
  exact fmt_8 n (by omega) (by omega) (by omega) (pure_hitX (cxL_ok _ _) rfl (ev128_25_1 n) ⟨hl, decide_eq_true (by omega), rfl⟩ (by kernel_rfl))
theorem fmtL_26 (n : Int) (h1 : 33554432 ≤ n) (h2 : n < 67108864) (h : 100 ≤ n) : PureOk Tryd.prog 87 [.v (.int .u64 n), .lit (.int .i64 10)] (.v (bytesV (dig n.toNat))) := by
  have hl : PureOk Tryd.prog 138 [.v (.int .u64 n)] (.lit (.int .i64 26)) := len_011 n 1 (by omega) (by omega) (by omega) (by omega) (by omega) (by omega) (by omega) (by omega)
  exact fmt_8 n (by omega) (by omega) (by omega) (pure_hitX (cxL_ok _ _) rfl (ev128_26_1 n) ⟨hl, decide_eq_true (by omega), rfl⟩ (by kernel_rfl))
theorem fmtL_27 (n : Int) (h1 : 67108864 ≤ n) (h2 : n < 134217728) (h : 100 ≤ n) : PureOk Tryd.prog 87 [.v (.int .u64 n), .lit (.int .i64 10)] (.v (bytesV (dig n.toNat))) := by
  have hl : PureOk Tryd.prog 138 [.v (.int .u64 n)] (.lit (.int .i64 27)) := len_011 n 2 (by omega) (by omega) (by omega) (by omega) (by omega) (by omega) (by omega) (by omega)
  by_cases hc : n ≥ 100000000
  · exact fmt_9 n (by omega) (by omega) (by omega) (pure_hitX (cxL_ok _ _) rfl (ev128_27_1 n) ⟨hl, decide_eq_true (by omega), rfl⟩ (by kernel_rfl))
  · exact fmt_8 n (by omega) (by omega) (by omega) (pure_hitX (cxL_ok _ _) rfl (ev128_27_0 n) ⟨hl, decide_eq_false (by omega), rfl⟩ (by kernel_rfl))
theorem fmtL_28 (n : Int) (h1 : 134217728 ≤ n) (h2 : n < 268435456) (h : 100 ≤ n) : PureOk Tryd.prog 87 [.v (.int .u64 n), .lit (.int .i64 10)] (.v (bytesV (dig n.toNat))) := by
  have hl : PureOk Tryd.prog 138 [.v (.int .u64 n)] (.lit (.int .i64 28)) := len_011 n 3 (by omega) (by omega) (by omega) (by omega) (by omega) (by omega) (by omega) (by omega)
  exact fmt_9 n (by omega) (by omega) (by omega) (pure_hitX (cxL_ok _ _) rfl (ev128_28_1 n) ⟨hl, decide_eq_true (by omega), rfl⟩ (by kernel_rfl))
theorem fmtL_29 (n : Int) (h1 : 268435456 ≤ n) (h2 : n < 536870912) (h : 100 ≤ n) : PureOk Tryd.prog 87 [.v (.int .u64 n), .lit (.int .i64 10)] (.v (bytesV (dig n.toNat))) := by
  have hl : PureOk Tryd.prog 138 [.v (.int .u64 n)] (.lit (.int .i64 29)) := len_011 n 4 (by omega) (by omega) (by omega) (by omega) (by omega) (by omega) (by omega) (by omega)
  exact fmt_9 n (by omega) (by omega) (by omega) (pure_hitX (cxL_ok _ _) rfl (ev128_29_1 n) ⟨hl, decide_eq_true (by omega), rfl⟩ (by kernel_rfl))
theorem fmtL_30 (n : Int) (h1 : 536870912 ≤ n) (h2 : n < 1073741824) (h : 100 ≤ n) : PureOk Tryd.prog 87 [.v (.int .u64 n), .lit (.int .i64 10)] (.v (bytesV (dig n.toNat))) := by
  have hl : PureOk Tryd.prog 138 [.v (.int .u64 n)] (.lit (.int .i64 30)) := len_011 n 5 (by omega) (by omega) (by omega) (by omega) (by omega) (by omega) (by omega) (by omega)
  by_cases hc : n ≥ 1000000000
  · exact fmt_10 n (by omega) (by omega) (by omega) (pure_hitX (cxL_ok _ _) rfl (ev128_30_1 n) ⟨hl, decide_eq_true (by omega), rfl⟩ (by kernel_rfl))
  · exact fmt_9 n (by omega) (by omega) (by omega) (pure_hitX (cxL_ok _ _) rfl (ev128_30_0 n) ⟨hl, decide_eq_false (by omega), rfl⟩ (by kernel_rfl))
theorem fmtL_31 (n : Int) (h1 : 1073741824 ≤ n) (h2 : n < 2147483648) (h : 100 ≤ n) : PureOk Tryd.prog 87 [.v (.int .u64 n), .lit (.int .i64 10)] (.v (bytesV (dig n.toNat))) := by
  have hl : PureOk Tryd.prog 138 [.v (.int .u64 n)] (.lit (.int .i64 31)) := len_011 n 6 (by omega) (by omega) (by omega) (by omega) (by omega) (by omega) (by omega) (by omega)
  exact fmt_10 n (by omega) (by omega) (by omega) (pure_hitX (cxL_ok _ _) rfl (ev128_31_1 n) ⟨hl, decide_eq_true (by omega), rfl⟩ (by kernel_rfl))
theorem fmtL_32 (n : Int) (h1 : 2147483648 ≤ n) (h2 : n < 4294967296) (h : 100 ≤ n) : PureOk Tryd.prog 87 [.v (.int .u64 n), .lit (.int .i64 10)] (.v (bytesV (dig n.toNat))) := by
  have hl : PureOk Tryd.prog 138 [.v (.int .u64 n)] (.lit (.int .i64 32)) := len_011 n 7 (by omega) (by omega) (by omega) (by omega) (by omega) (by omega) (by omega) (by omega)
  exact fmt_10 n (by omega) (by omega) (by omega) (pure_hitX (cxL_ok _ _) rfl (ev128_32_1 n) ⟨hl, decide_eq_true (by omega), rfl⟩ (by kernel_rfl))
theorem fmtL_33 (n : Int) (h1 : 4294967296 ≤ n) (h2 : n < 8589934592) (h : 100 ≤ n) : PureOk Tryd.prog 87 [.v (.int .u64 n), .lit (.int .i64 10)] (.v (bytesV (dig n.toNat))) := by
  have hl : PureOk Tryd.prog 138 [.v (.int .u64 n)] (.lit (.int .i64 33)) := len_100 n 0 (by omega) (by omega) (by omega) (by omega) (by omega) (by omega) (by omega) (by omega)
  exact fmt_10 n (by omega) (by omega) (by omega) (pure_hitX (cxL_ok _ _) rfl (ev128_33_1 n) ⟨hl, decide_eq_true (by omega), rfl⟩ (by kernel_rfl))
theorem fmtL_34 (n : Int) (h1 : 8589934592 ≤ n) (h2 : n < 17179869184) (h : 100 ≤ n) : PureOk Tryd.prog 87 [.v (.int .u64 n), .lit (.int .i64 10)] (.v (bytesV (dig n.toNat))) := by
  have hl : PureOk Tryd.prog 138 [.v (.int .u64 n)] (.lit (.int .i64 34)) := len_100 n 1 (by omega) (by omega) (by omega) (by omega) (by omega) (by omega) (by omega) (by omega)
  by_cases hc : n ≥ 10000000000
  · exact fmt_11 n (by omega) (by omega) (by omega) (pure_hitX (cxL_ok _ _) rfl (ev128_34_1 n) ⟨hl, decide_eq_true (by omega), rfl⟩ (by kernel_rfl))
  · exact fmt_10 n (by omega) (by omega) (by omega) (pure_hitX (cxL_ok _ _) rfl (ev128_34_0 n) ⟨hl, decide_eq_false (by omega), rfl⟩ (by kernel_rfl))
theorem fmtL_35 (n : Int) (h1 : 17179869184 ≤ n) (h2 : n < 34359738368) (h : 100 ≤ n) : PureOk Tryd.prog 87 [.v (.int .u64 n), .lit (.int .i64 10)] (.v (bytesV (dig n.toNat))) := by
  have hl : PureOk Tryd.prog 138 [.v (.int .u64 n)] (.lit (.int .i64 35)) := len_100 n 2 (by omega) (by omega) (by omega) (by omega) (by omega) (by omega) (by omega) (by omega)
  exact fmt_11 n (by omega) (by omega) (by omega) (pure_hitX (cxL_ok _ _) rfl (ev128_35_1 n) ⟨hl, decide_eq_true (by omega), rfl⟩ (by kernel_rfl))
theorem fmtL_36 (n : Int) (h1 : 34359738368 ≤ n) (h2 : n < 68719476736) (h : 100 ≤ n) : PureOk Tryd.prog 87 [.v (.int .u64 n), .lit (.int .i64 10)] (.v (bytesV (dig n.toNat))) := by
  have hl : PureOk Tryd.prog 138 [.v (.int .u64 n)] (.lit (.int .i64 36)) := len_100 n 3 (by omega) (by omega) (by omega) (by omega) (by omega) (by omega) (by omega) (by omega)
  exact fmt_11 n (by omega) (by omega) (by omega) (pure_hitX (cxL_ok _ _) rfl (ev128_36_1 n) ⟨hl, decide_eq_true (by omega), rfl⟩ (by kernel_rfl))
theorem fmtL_37 (n : Int) (h1 : 68719476736 ≤ n) (h2 : n < 137438953472) (h : 100 ≤ n) : PureOk Tryd.prog 87 [.v (.int .u64 n), .lit (.int .i64 10)] (.v (bytesV (dig n.toNat))) := by
  have hl : PureOk Tryd.prog 138 [.v (.int .u64 n)] (.lit (.int .i64 37)) := len_100 n 4 (by omega) (by omega) (by omega) (by omega) (by omega) (by omega) (by omega) (by omega)
  by_cases hc : n ≥ 100000000000
  · exact fmt_12 n (by omega) (by omega) (by omega) (pure_hitX (cxL_ok _ _) rfl (ev128_37_1 n) ⟨hl, decide_eq_true (by omega), rfl⟩ (by kernel_rfl))
  · exact fmt_11 n (by omega) (by omega) (by omega) (pure_hitX (cxL_ok _ _) rfl (ev128_37_0 n) ⟨hl, decide_eq_false (by omega), rfl⟩ (by kernel_rfl))
theorem fmtL_38 (n : Int) (h1 : 137438953472 ≤ n) (h2 : n < 274877906944) (h : 100 ≤ n) : PureOk Tryd.prog 87 [.v (.int .u64 n), .lit (.int .i64 10)] (.v (bytesV (dig n.toNat))) := by
  have hl : PureOk Tryd.prog 138 [.v (.int .u64 n)] (.lit (.int .i64 38)) := len_100 n 5 (by omega) (by omega) (by omega) (by omega) (by omega) (by omega) (by omega) (by omega)
  exact fmt_12 n (by omega) (by omega) (by omega) (pure_hitX (cxL_ok _ _) rfl (ev128_38_1 n) ⟨hl, decide_eq_true (by omega), rfl⟩ (by kernel_rfl))
theorem fmtL_39 (n : Int) (h1 : 274877906944 ≤ n) (h2 : n < 549755813888) (h : 100 ≤ n) : PureOk Tryd.prog 87 [.v (.int .u64 n), .lit (.int .i64 10)] (.v (bytesV (dig n.toNat))) := by
  have hl : PureOk Tryd.prog 138 [.v (.int .u64 n)] (.lit (.int .i64 39)) := len_100 n 6 (by omega) (by omega) (by omega) (by omega) (by omega) (by omega) (by omega) (by omega)
  exact fmt_12 n (by omega) (by omega) (by omega) (pure_hitX (cxL_ok _ _) rfl (ev128_39_1 n) ⟨hl, decide_eq_true (by omega), rfl⟩ (by kernel_rfl))
theorem fmtL_40 (n : Int) (h1 : 549755813888 ≤ n) (h2 : n < 1099511627776) (h : 100 ≤ n) : PureOk Tryd.prog 87 [.v (.int .u64 n), .lit (.int .i64 10)] (.v (bytesV (dig n.toNat))) := by
  have hl : PureOk Tryd.prog 138 [.v (.int .u64 n)] (.lit (.int .i64 40)) := len_100 n 7 (by omega) (by omega) (by omega) (by omega) (by omega) (by omega) (by omega) (by omega)
  by_cases hc : n ≥ 1000000000000
  · exact fmt_13 n (by omega) (by omega) (by omega) (pure_hitX (cxL_ok _ _) rfl (ev128_40_1 n) ⟨hl, decide_eq_true (by omega), rfl⟩ (by kernel_rfl))
  · exact fmt_12 n (by omega) (by omega) (by omega) (pure_hitX (cxL_ok _ _) rfl (ev128_40_0 n) ⟨hl, decide_eq_false (by omega), rfl⟩ (by kernel_rfl))
theorem fmtL_41 (n : Int) (h1 : 1099511627776 ≤ n) (h2 : n < 2199023255552) (h : 100 ≤ n) : PureOk Tryd.prog 87 [.v (.int .u64 n), .lit (.int .i64 10)] (.v (bytesV (dig n.toNat))) := by
  have hl : PureOk Tryd.prog 138 [.v (.int .u64 n)] (.lit (.int .i64 41)) := len_101 n 0 (by omega) (by omega) (by omega) (by omega) (by omega) (by omega) (by omega) (by omega)
  exact fmt_13 n (by omega) (by omega) (by omega) (pure_hitX (cxL_ok _ _) rfl (ev128_41_1 n) ⟨hl, decide_eq_true (by omega), rfl⟩ (by kernel_rfl))
theorem fmtL_42 (n : Int) (h1 : 2199023255552 ≤ n) (h2 : n < 4398046511104) (h : 100 ≤ n) : PureOk Tryd.prog 87 [.v (.int .u64 n), .lit (.int .i64 10)] (.v (bytesV (dig n.toNat))) := by
  have hl : PureOk Tryd.prog 138 [.v (.int .u64 n)] (.lit (.int .i64 42)) := len_101 n 1 (by omega) (by omega) (by omega) (by omega) (by omega) (by omega) (by omega) (by omega)
  exact fmt_13 n (by omega) (by omega) (by omega) (pure_hitX (cxL_ok _ _) rfl (ev128_42_1 n) ⟨hl, decide_eq_true (by omega), rfl⟩ (by kernel_rfl))
theorem fmtL_43 (n : Int) (h1 : 4398046511104 ≤ n) (h2 : n < 8796093022208) (h : 100 ≤ n) : PureOk Tryd.prog 87 [.v (.int .u64 n), .lit (.int .i64 10)] (.v (bytesV (dig n.toNat))) := by
  have hl : PureOk Tryd.prog 138 [.v (.int .u64 n)] (.lit (.int .i64 43)) := len_101 n 2 (by omega) (by omega) (by omega) (by omega) (by omega) (by omega) (by omega) (by omega)
  exact fmt_13 n (by omega) (by omega) (by omega) (pure_hitX (cxL_ok _ _) rfl (ev128_43_1 n) ⟨hl, decide_eq_true (by omega), rfl⟩ (by kernel_rfl))
theorem fmtL_44 (n : Int) (h1 : 8796093022208 ≤ n) (h2 : n < 17592186044416) (h : 100 ≤ n) : PureOk Tryd.prog 87 [.v (.int .u64 n), .lit (.int .i64 10)] (.v (bytesV (dig n.toNat))) := by
  have hl : PureOk Tryd.prog 138 [.v (.int .u64 n)] (.lit (.int .i64 44)) := len_101 n 3 (by omega) (by omega) (by omega) (by omega) (by omega) (by omega) (by omega) (by omega)
  by_cases hc : n ≥ 10000000000000
  · exact fmt_14 n (by omega) (by omega) (by omega) (pure_hitX (cxL_ok _ _) rfl (ev128_44_1 n) ⟨hl, decide_eq_true (by omega), rfl⟩ (by kernel_rfl))
  · exact fmt_13 n (by omega) (by omega) (by omega) (pure_hitX (cxL_ok _ _) rfl (ev128_44_0 n) ⟨hl, decide_eq_false (by omega), rfl⟩ (by kernel_rfl))
theorem fmtL_45 (n : Int) (h1 : 17592186044416 ≤ n) (h2 : n < 35184372088832) (h : 100 ≤ n) : PureOk Tryd.prog 87 [.v (.int .u64 n), .lit (.int .i64 10)] (.v (bytesV (dig n.toNat))) := by
  have hl : PureOk Tryd.prog 138 [.v (.int .u64 n)] (.lit (.int .i64 45)) := len_101 n 4 (by omega) (by omega) (by omega) (by omega) (by omega) (by omega) (by omega) (by omega)
  exact fmt_14 n (by omega) (by omega) (by omega) (pure_hitX (cxL_ok _ _) rfl (ev128_45_1 n) ⟨hl, decide_eq_true (by omega), rfl⟩ (by kernel_rfl))
theorem fmtL_46 (n : Int) (h1 : 35184372088832 ≤ n) (h2 : n < 70368744177664) (h : 100 ≤ n) : PureOk Tryd.prog 87 [.v (.int .u64 n), .lit (.int .i64 10)] (.v (bytesV (dig n.toNat))) := by
  have hl : PureOk Tryd.prog 138 [.v (.int .u64 n)] (.lit (.int .i64 46)) := len_101 n 5 (by omega) (by omega) (by omega) (by omega) (by omega) (by omega) (by omega) (by omega)
  exact fmt_14 n (by omega) (by omega) (by omega) (pure_hitX (cxL_ok _ _) rfl (ev128_46_1 n) ⟨hl, decide_eq_true (by omega), rfl⟩ (by kernel_rfl))
theorem fmtL_47 (n : Int) (h1 : 70368744177664 ≤ n) (h2 : n < 140737488355328) (h : 100 ≤ n) : PureOk Tryd.prog 87 [.v (.int .u64 n), .lit (.int .i64 10)] (.v (bytesV (dig n.toNat))) := by
  have hl : PureOk Tryd.prog 138 [.v (.int .u64 n)] (.lit (.int .i64 47)) := len_101 n 6 (by omega) (by omega) (by omega) (by omega) (by omega) (by omega) (by omega) (by omega)
  by_cases hc : n ≥ 100000000000000
  · exact fmt_15 n (by omega) (by omega) (by omega) (pure_hitX (cxL_ok _ _) rfl (ev128_47_1 n) ⟨hl, decide_eq_true (by omega), rfl⟩ (by kernel_rfl))
  · exact fmt_14 n (by omega) (by omega) (by omega) (pure_hitX (cxL_ok _ _) rfl (ev128_47_0 n) ⟨hl, decide_eq_false (by omega), rfl⟩ (by kernel_rfl))
theorem fmtL_48 (n : Int) (h1 : 140737488355328 ≤ n) (h2 : n < 281474976710656) (h : 100 ≤ n) : PureOk Tryd.prog 87 [.v (.int .u64 n), .lit (.int .i64 10)] (.v (bytesV (dig n.toNat))) := by
  have hl : PureOk Tryd.prog 138 [.v (.int .u64 n)] (.lit (.int .i64 48)) := len_101 n 7 (by omega) (by omega) (by omega) (by omega) (by omega) (by omega) (by omega) (by omega)
  exact fmt_15 n (by omega) (by omega) (by omega) (pure_hitX (cxL_ok _ _) rfl (ev128_48_1 n) ⟨hl, decide_eq_true (by omega), rfl⟩ (by kernel_rfl))
theorem fmtL_49 (n : Int) (h1 : 281474976710656 ≤ n) (h2 : n < 562949953421312) (h : 100 ≤ n) : PureOk Tryd.prog 87 [.v (.int .u64 n), .lit (.int .i64 10)] (.v (bytesV (dig n.toNat))) := by
  have hl : PureOk Tryd.prog 138 [.v (.int .u64 n)] (.lit (.int .i64 49)) := len_110 n 0 (by omega) (by omega) (by omega) (by omega) (by omega) (by omega) (by omega) (by omega)
  exact fmt_15 n (by omega) (by omega) (by omega) (pure_hitX (cxL_ok _ _) rfl (ev128_49_1 n) ⟨hl, decide_eq_true (by omega), rfl⟩ (by kernel_rfl))
theorem fmtL_50 (n : Int) (h1 : 562949953421312 ≤ n) (h2 : n < 1125899906842624) (h : 100 ≤ n) : PureOk Tryd.prog 87 [.v (.int .u64 n), .lit (.int .i64 10)] (.v (bytesV (dig n.toNat))) := by
  have hl : PureOk Tryd.prog 138 [.v (.int .u64 n)] (.lit (.int .i64 50)) := len_110 n 1 (by omega) (by omega) (by omega) (by omega) (by omega) (by omega) (by omega) (by omega)
  by_cases hc : n ≥ 1000000000000000
  · exact fmt_16 n (by omega) (by omega) (by omega) (pure_hitX (cxL_ok _ _) rfl (ev128_50_1 n) ⟨hl, decide_eq_true (by omega), rfl⟩ (by kernel_rfl))
  · exact fmt_15 n (by omega) (by omega) (by omega) (pure_hitX (cxL_ok _ _) rfl (ev128_50_0 n) ⟨hl, decide_eq_false (by omega), rfl⟩ (by kernel_rfl))
theorem fmtL_51 (n : Int) (h1 : 1125899906842624 ≤ n) (h2 : n < 2251799813685248) (h : 100 ≤ n) : PureOk Tryd.prog 87 [.v (.int .u64 n), .lit (.int .i64 10)] (.v (bytesV (dig n.toNat))) := by
  have hl : PureOk Tryd.prog 138 [.v (.int .u64 n)] (.lit (.int .i64 51)) := len_110 n 2 (by omega) (by omega) (by omega) (by omega) (by omega) (by omega) (by omega) (by omega)
  exact fmt_16 n (by omega) (by omega) (by omega) (pure_hitX (cxL_ok _ _) rfl (ev128_51_1 n) ⟨hl, decide_eq_true (by omega), rfl⟩ (by kernel_rfl))
theorem fmtL_52 (n : Int) (h1 : 2251799813685248 ≤ n) (h2 : n < 4503599627370496) (h : 100 ≤ n) : PureOk Tryd.prog 87 [.v (.int .u64 n), .lit (.int .i64 10)] (.v (bytesV (dig n.toNat))) := by
  have hl : PureOk Tryd.prog 138 [.v (.int .u64 n)] (.lit (.int .i64 52)) := len_110 n 3 (by omega) (by omega) (by omega) (by omega) (by omega) (by omega) (by omega) (by omega)
  exact fmt_16 n (by omega) (by omega) (by omega) (pure_hitX (cxL_ok _ _) rfl (ev128_52_1 n) ⟨hl, decide_eq_true (by omega), rfl⟩ (by kernel_rfl))
theorem fmtL_53 (n : Int) (h1 : 4503599627370496 ≤ n) (h2 : n < 9007199254740992) (h : 100 ≤ n) : PureOk Tryd.prog 87 [.v (.int .u64 n), .lit (.int .i64 10)] (.v (bytesV (dig n.toNat))) := by
  have hl : PureOk Tryd.prog 138 [.v (.int .u64 n)] (.lit (.int .i64 53)) := len_110 n 4 (by omega) (by omega) (by omega) (by omega) (by omega) (by omega) (by omega) (by omega)
  exact fmt_16 n (by omega) (by omega) (by omega) (pure_hitX (cxL_ok _ _) rfl (ev128_53_1 n) ⟨hl, decide_eq_true (by omega), rfl⟩ (by kernel_rfl))
theorem fmtL_54 (n : Int) (h1 : 9007199254740992 ≤ n) (h2 : n < 18014398509481984) (h : 100 ≤ n) : PureOk Tryd.prog 87 [.v (.int .u64 n), .lit (.int .i64 10)] (.v (bytesV (dig n.toNat))) := by
  have hl : PureOk Tryd.prog 138 [.v (.int .u64 n)] (.lit (.int .i64 54)) := len_110 n 5 (by omega) (by omega) (by omega) (by omega) (by omega) (by omega) (by omega) (by omega)
  by_cases hc : n ≥ 10000000000000000
  · exact fmt_17 n (by omega) (by omega) (by omega) (pure_hitX (cxL_ok _ _) rfl (ev128_54_1 n) ⟨hl, decide_eq_true (by omega), rfl⟩ (by kernel_rfl))
  · exact fmt_16 n (by omega) (by omega) (by omega) (pure_hitX (cxL_ok _ _) rfl (ev128_54_0 n) ⟨hl, decide_eq_false (by omega), rfl⟩ (by kernel_rfl))
theorem fmtL_55 (n : Int) (h1 : 18014398509481984 ≤ n) (h2 : n < 36028797018963968) (h : 100 ≤ n) : PureOk Tryd.prog 87 [.v (.int .u64 n), .lit (.int .i64 10)] (.v (bytesV (dig n.toNat))) := by
  have hl : PureOk Tryd.prog 138 [.v (.int .u64 n)] (.lit (.int .i64 55)) := len_110 n 6 (by omega) (by omega) (by omega) (by omega) (by omega) (by omega) (by omega) (by omega)
  exact fmt_17 n (by omega) (by omega) (by omega) (pure_hitX (cxL_ok _ _) rfl (ev128_55_1 n) ⟨hl, decide_eq_true (by omega), rfl⟩ (by kernel_rfl))
theorem fmtL_56 (n : Int) (h1 : 36028797018963968 ≤ n) (h2 : n < 72057594037927936) (h : 100 ≤ n) : PureOk Tryd.prog 87 [.v (.int .u64 n), .lit (.int .i64 10)] (.v (bytesV (dig n.toNat))) := by
  have hl : PureOk Tryd.prog 138 [.v (.int .u64 n)] (.lit (.int .i64 56)) := len_110 n 7 (by omega) (by omega) (by omega) (by omega) (by omega) (by omega) (by omega) (by omega)
  exact fmt_17 n (by omega) (by omega) (by omega) (pure_hitX (cxL_ok _ _) rfl (ev128_56_1 n) ⟨hl, decide_eq_true (by omega), rfl⟩ (by kernel_rfl))
theorem fmtL_57 (n : Int) (h1 : 72057594037927936 ≤ n) (h2 : n < 144115188075855872) (h : 100 ≤ n) : PureOk Tryd.prog 87 [.v (.int .u64 n), .lit (.int .i64 10)] (.v (bytesV (dig n.toNat))) := by
  have hl : PureOk Tryd.prog 138 [.v (.int .u64 n)] (.lit (.int .i64 57)) := len_111 n 0 (by omega) (by omega) (by omega) (by omega) (by omega) (by omega) (by omega) (by omega)
  by_cases hc : n ≥ 100000000000000000
  · exact fmt_18 n (by omega) (by omega) (by omega) (pure_hitX (cxL_ok _ _) rfl (ev128_57_1 n) ⟨hl, decide_eq_true (by omega), rfl⟩ (by kernel_rfl))
  · exact fmt_17 n (by omega) (by omega) (by omega) (pure_hitX (cxL_ok _ _) rfl (ev128_57_0 n) ⟨hl, decide_eq_false (by omega), rfl⟩ (by kernel_rfl))
theorem fmtL_58 (n : Int) (h1 : 144115188075855872 ≤ n) (h2 : n < 288230376151711744) (h : 100 ≤ n) : PureOk Tryd.prog 87 [.v (.int .u64 n), .lit (.int .i64 10)] (.v (bytesV (dig n.toNat))) := by
  have hl : PureOk Tryd.prog 138 [.v (.int .u64 n)] (.lit (.int .i64 58)) := len_111 n 1 (by omega) (by omega) (by omega) (by omega) (by omega) (by omega) (by omega) (by omega)
  exact fmt_18 n (by omega) (by omega) (by omega) (pure_hitX (cxL_ok _ _) rfl (ev128_58_1 n) ⟨hl, decide_eq_true (by omega), rfl⟩ (by kernel_rfl))
theorem fmtL_59 (n : Int) (h1 : 288230376151711744 ≤ n) (h2 : n < 576460752303423488) (h : 100 ≤ n) : PureOk Tryd.prog 87 [.v (.int .u64 n), .lit (.int .i64 10)] (.v (bytesV (dig n.toNat))) := by
  have hl : PureOk Tryd.prog 138 [.v (.int .u64 n)] (.lit (.int .i64 59)) := len_111 n 2 (by omega) (by omega) (by omega) (by omega) (by omega) (by omega) (by omega) (by omega)
  exact fmt_18 n (by omega) (by omega) (by omega) (pure_hitX (cxL_ok _ _) rfl (ev128_59_1 n) ⟨hl, decide_eq_true (by omega), rfl⟩ (by kernel_rfl))
theorem fmtL_60 (n : Int) (h1 : 576460752303423488 ≤ n) (h2 : n < 1152921504606846976) (h : 100 ≤ n) : PureOk Tryd.prog 87 [.v (.int .u64 n), .lit (.int .i64 10)] (.v (bytesV (dig n.toNat))) := by
  have hl : PureOk Tryd.prog 138 [.v (.int .u64 n)] (.lit (.int .i64 60)) := len_111 n 3 (by omega) (by omega) (by omega) (by omega) (by omega) (by omega) (by omega) (by omega)
  by_cases hc : n ≥ 1000000000000000000
  · exact fmt_19 n (by omega) (by omega) (by omega) (pure_hitX (cxL_ok _ _) rfl (ev128_60_1 n) ⟨hl, decide_eq_true (by omega), rfl⟩ (by kernel_rfl))
  · exact fmt_18 n (by omega) (by omega) (by omega) (pure_hitX (cxL_ok _ _) rfl (ev128_60_0 n) ⟨hl, decide_eq_false (by omega), rfl⟩ (by kernel_rfl))
theorem fmtL_61 (n : Int) (h1 : 1152921504606846976 ≤ n) (h2 : n < 2305843009213693952) (h : 100 ≤ n) : PureOk Tryd.prog 87 [.v (.int .u64 n), .lit (.int .i64 10)] (.v (bytesV (dig n.toNat))) := by
  have hl : PureOk Tryd.prog 138 [.v (.int .u64 n)] (.lit (.int .i64 61)) := len_111 n 4 (by omega) (by omega) (by omega) (by omega) (by omega) (by omega) (by omega) (by omega)
  exact fmt_19 n (by omega) (by omega) (by omega) (pure_hitX (cxL_ok _ _) rfl (ev128_61_1 n) ⟨hl, decide_eq_true (by omega), rfl⟩ (by kernel_rfl))
theorem fmtL_62 (n : Int) (h1 : 2305843009213693952 ≤ n) (h2 : n < 4611686018427387904) (h : 100 ≤ n) : PureOk Tryd.prog 87 [.v (.int .u64 n), .lit (.int .i64 10)] (.v (bytesV (dig n.toNat))) := by
  have hl : PureOk Tryd.prog 138 [.v (.int .u64 n)] (.lit (.int .i64 62)) := len_111 n 5 (by omega) (by omega) (by omega) (by omega) (by omega) (by omega) (by omega) (by omega)
  exact fmt_19 n (by omega) (by omega) (by omega) (pure_hitX (cxL_ok _ _) rfl (ev128_62_1 n) ⟨hl, decide_eq_true (by omega), rfl⟩ (by kernel_rfl))
theorem fmtL_63 (n : Int) (h1 : 4611686018427387904 ≤ n) (h2 : n < 9223372036854775808) (h : 100 ≤ n) : PureOk Tryd.prog 87 [.v (.int .u64 n), .lit (.int .i64 10)] (.v (bytesV (dig n.toNat))) := by
  have hl : PureOk Tryd.prog 138 [.v (.int .u64 n)] (.lit (.int .i64 63)) := len_111 n 6 (by omega) (by omega) (by omega) (by omega) (by omega) (by omega) (by omega) (by omega)
  exact fmt_19 n (by omega) (by omega) (by omega) (pure_hitX (cxL_ok _ _) rfl (ev128_63_1 n) ⟨hl, decide_eq_true (by omega), rfl⟩ (by kernel_rfl))
theorem fmtL_64 (n : Int) (h1 : 9223372036854775808 ≤ n) (h2 : n < 18446744073709551616) (h : 100 ≤ n) : PureOk Tryd.prog 87 [.v (.int .u64 n), .lit (.int .i64 10)] (.v (bytesV (dig n.toNat))) := by
  have hl : PureOk Tryd.prog 138 [.v (.int .u64 n)] (.lit (.int .i64 64)) := len_111 n 7 (by omega) (by omega) (by omega) (by omega) (by omega) (by omega) (by omega) (by omega)
  by_cases hc : n ≥ 10000000000000000000
  · exact fmt_20 n (by omega) (by omega) (by omega) (pure_hitX (cxL_ok _ _) rfl (ev128_64_1 n) ⟨hl, decide_eq_true (by omega), rfl⟩ (by kernel_rfl))
  · exact fmt_19 n (by omega) (by omega) (by omega) (pure_hitX (cxL_ok _ _) rfl (ev128_64_0 n) ⟨hl, decide_eq_false (by omega), rfl⟩ (by kernel_rfl))
def sgL : List UInt8 := [48, 49, 50, 51, 52, 53, 54, 55, 56, 57, 97, 98, 99, 100, 101, 102, 103, 104, 105, 106, 107, 108, 109, 110, 111, 112, 113, 114, 115, 116, 117, 118, 119, 120, 121, 122]
theorem ev87_1 (n : Int) : ((evs (cx0 (decL [(12, true), (4, true)])) 60).call 87 [.v (.int .u64 n), .lit (.int .i64 10)] .nil).ans = .side (decide (n < 100) = true) (.side (decide (wr n < 10) = true) (.side (0 ≤ wr n ∧ wr n ≤ wr (wr n + 1) ∧ wr (wr n + 1) ≤ (sgL.length : Int)) (.ret (.v (.string ((B sgL).extract (wr n).toNat (wr (wr n + 1)).toNat)))))) := by kernel_rfl
theorem ev87_2 (n : Int) : ((evs (cx0 (decL [(12, true), (4, false)])) 60).call 87 [.v (.int .u64 n), .lit (.int .i64 10)] .nil).ans = .side (decide (n < 100) = true) (.side (decide (wr n < 10) = false) (.side (0 ≤ wr (wr n * 2) ∧ wr (wr n * 2) ≤ wr (wr (wr n * 2) + 2) ∧ wr (wr (wr n * 2) + 2) ≤ (SM.size : Int)) (.ret (.v (.string (SM.extract (wr (wr n * 2)).toNat (wr (wr (wr n * 2) + 2)).toNat)))))) := by kernel_rfl
theorem ev90_1 (n : Int) : ((evs (cx0 (decL [(17, true), (4, true)])) 60).call 90 [.v (.int .i64 n)] .nil).ans = .side ((if decide (0 ≤ n) = true then decide (n < 100) else false) = true) (.side (decide (n < 10) = true) (.side (0 ≤ n ∧ n ≤ wr (n + 1) ∧ wr (n + 1) ≤ (sgL.length : Int)) (.ret (.v (.string ((B sgL).extract n.toNat (wr (n + 1)).toNat)))))) := by kernel_rfl
theorem ex1_fin : ∀ k : Fin 10, (B sgL).extract k.val (k.val + 1) = B [dch k.val] := by decide +kernel
theorem ex2_fin : ∀ k : Fin 100, SM.extract (2 * k.val) (2 * k.val + 2) = B [dch (k.val / 10), dch (k.val % 10)] := by decide +kernel
theorem fmt_small (n : Int) (h0 : 0 ≤ n) (h : n < 100) : PureOk Tryd.prog 87 [.v (.int .u64 n), .lit (.int .i64 10)] (.v (bytesV (dig n.toNat))) := by
  have e1 : wr n = n := wr_in (by omega) (by omega)
  by_cases hc : n < 10
  · have e2 : wr (n + 1) = n + 1 := wr_in (by omega) (by omega)
    refine s_ok (pure_hitX (cx0_ok _) rfl (ev87_1 n) ⟨decide_eq_true h, by rw [e1]; exact decide_eq_true hc, ?_, rfl⟩ (by kernel_rfl)) ?_
    · rw [e1, e2]; exact ⟨h0, by omega, by show n + 1 ≤ 36; omega⟩
    · rw [e1, e2, dig_lt (n := n.toNat) (by omega)]
      have := ex1_fin ⟨n.toNat, by omega⟩
      have e : (n + 1).toNat = n.toNat + 1 := by omega
      rw [e]; exact this
  · have e2 : wr (n * 2) = n * 2 := wr_in (by omega) (by omega)
    have e3 : wr (n * 2 + 2) = n * 2 + 2 := wr_in (by omega) (by omega)
    refine s_ok (pure_hitX (cx0_ok _) rfl (ev87_2 n) ⟨decide_eq_true h, by rw [e1]; exact decide_eq_false hc, ?_, rfl⟩ (by kernel_rfl)) ?_
    · rw [e1, e2, e3]; exact ⟨by omega, by omega, by show n * 2 + 2 ≤ 200; omega⟩
    · rw [e1, e2, e3, dig_ge (n := n.toNat) (by omega), dig_lt (n := n.toNat / 10) (by omega)]
      have := ex2_fin ⟨n.toNat, by omega⟩
      have e4 : (n * 2).toNat = 2 * n.toNat := by omega
      have e5 : (n * 2 + 2).toNat = 2 * n.toNat + 2 := by omega
      rw [e4, e5]; exact this
theorem itoa_ok (n : Int) (h0 : 0 ≤ n) (h : n < 8) : PureOk Tryd.prog 90 [.v (.int .i64 n)] (.v (bytesV (dig n.toNat))) := by
  have e2 : wr (n + 1) = n + 1 := wr_in (by omega) (by omega)
  refine s_ok (pure_hitX (cx0_ok _) rfl (ev90_1 n) ⟨?_, decide_eq_true (by omega), ?_, rfl⟩ (by kernel_rfl)) ?_
  · rw [if_pos (decide_eq_true h0)]; exact decide_eq_true (by omega)
  · rw [e2]; exact ⟨h0, by omega, by show n + 1 ≤ 36; omega⟩
  · rw [e2, dig_lt (n := n.toNat) (by omega)]
    have := ex1_fin ⟨n.toNat, by omega⟩
    have e : (n + 1).toNat = n.toNat + 1 := by omega
    rw [e]; exact this
theorem fmtOk : FmtOk := by
  refine ⟨fun n h0 h1 => ?_, itoa_ok⟩
  by_cases c100 : n < 100
  · exact fmt_small n h0 c100
  by_cases c7 : n < 128
  · exact fmtL_7 n (by omega) c7 (by omega)
  by_cases c8 : n < 256
  · exact fmtL_8 n (by omega) c8 (by omega)
  by_cases c9 : n < 512
  · exact fmtL_9 n (by omega) c9 (by omega)
  by_cases c10 : n < 1024
  · exact fmtL_10 n (by omega) c10 (by omega)
  by_cases c11 : n < 2048
  · exact fmtL_11 n (by omega) c11 (by omega)
  by_cases c12 : n < 4096
  · exact fmtL_12 n (by omega) c12 (by omega)
  by_cases c13 : n < 8192
  · exact fmtL_13 n (by omega) c13 (by omega)
  by_cases c14 : n < 16384
  · exact fmtL_14 n (by omega) c14 (by omega)
  by_cases c15 : n < 32768
  · exact fmtL_15 n (by omega) c15 (by omega)
  by_cases c16 : n < 65536
  · exact fmtL_16 n (by omega) c16 (by omega)
  by_cases c17 : n < 131072
  · exact fmtL_17 n (by omega) c17 (by omega)
  by_cases c18 : n < 262144
  · exact fmtL_18 n (by omega) c18 (by omega)
  by_cases c19 : n < 524288
  · exact fmtL_19 n (by omega) c19 (by omega)
  by_cases c20 : n < 1048576
  · exact fmtL_20 n (by omega) c20 (by omega)
  by_cases c21 : n < 2097152
  · exact fmtL_21 n (by omega) c21 (by omega)
  by_cases c22 : n < 4194304
  · exact fmtL_22 n (by omega) c22 (by omega)
  by_cases c23 : n < 8388608
  · exact fmtL_23 n (by omega) c23 (by omega)
  by_cases c24 : n < 16777216
  · exact fmtL_24 n (by omega) c24 (by omega)
  by_cases c25 : n < 33554432
  · exact fmtL_25 n (by omega) c25 (by omega)
  by_cases c26 : n < 67108864
  · exact fmtL_26 n (by omega) c26 (by omega)
  by_cases c27 : n < 134217728
  · exact fmtL_27 n (by omega) c27 (by omega)
  by_cases c28 : n < 268435456
  · exact fmtL_28 n (by omega) c28 (by omega)
  by_cases c29 : n < 536870912
  · exact fmtL_29 n (by omega) c29 (by omega)
  by_cases c30 : n < 1073741824
  · exact fmtL_30 n (by omega) c30 (by omega)
  by_cases c31 : n < 2147483648
  · exact fmtL_31 n (by omega) c31 (by omega)
  by_cases c32 : n < 4294967296
  · exact fmtL_32 n (by omega) c32 (by omega)
  by_cases c33 : n < 8589934592
  · exact fmtL_33 n (by omega) c33 (by omega)
  by_cases c34 : n < 17179869184
  · exact fmtL_34 n (by omega) c34 (by omega)
  by_cases c35 : n < 34359738368
  · exact fmtL_35 n (by omega) c35 (by omega)
  by_cases c36 : n < 68719476736
  · exact fmtL_36 n (by omega) c36 (by omega)
  by_cases c37 : n < 137438953472
  · exact fmtL_37 n (by omega) c37 (by omega)
  by_cases c38 : n < 274877906944
  · exact fmtL_38 n (by omega) c38 (by omega)
  by_cases c39 : n < 549755813888
  · exact fmtL_39 n (by omega) c39 (by omega)
  by_cases c40 : n < 1099511627776
  · exact fmtL_40 n (by omega) c40 (by omega)
  by_cases c41 : n < 2199023255552
  · exact fmtL_41 n (by omega) c41 (by omega)
  by_cases c42 : n < 4398046511104
  · exact fmtL_42 n (by omega) c42 (by omega)
  by_cases c43 : n < 8796093022208
  · exact fmtL_43 n (by omega) c43 (by omega)
  by_cases c44 : n < 17592186044416
  · exact fmtL_44 n (by omega) c44 (by omega)
  by_cases c45 : n < 35184372088832
  · exact fmtL_45 n (by omega) c45 (by omega)
  by_cases c46 : n < 70368744177664
  · exact fmtL_46 n (by omega) c46 (by omega)
  by_cases c47 : n < 140737488355328
  · exact fmtL_47 n (by omega) c47 (by omega)
  by_cases c48 : n < 281474976710656
  · exact fmtL_48 n (by omega) c48 (by omega)
  by_cases c49 : n < 562949953421312
  · exact fmtL_49 n (by omega) c49 (by omega)
  by_cases c50 : n < 1125899906842624
  · exact fmtL_50 n (by omega) c50 (by omega)
  by_cases c51 : n < 2251799813685248
  · exact fmtL_51 n (by omega) c51 (by omega)
  by_cases c52 : n < 4503599627370496
  · exact fmtL_52 n (by omega) c52 (by omega)
  by_cases c53 : n < 9007199254740992
  · exact fmtL_53 n (by omega) c53 (by omega)
  by_cases c54 : n < 18014398509481984
  · exact fmtL_54 n (by omega) c54 (by omega)
  by_cases c55 : n < 36028797018963968
  · exact fmtL_55 n (by omega) c55 (by omega)
  by_cases c56 : n < 72057594037927936
  · exact fmtL_56 n (by omega) c56 (by omega)
  by_cases c57 : n < 144115188075855872
  · exact fmtL_57 n (by omega) c57 (by omega)
  by_cases c58 : n < 288230376151711744
  · exact fmtL_58 n (by omega) c58 (by omega)
  by_cases c59 : n < 576460752303423488
  · exact fmtL_59 n (by omega) c59 (by omega)
  by_cases c60 : n < 1152921504606846976
  · exact fmtL_60 n (by omega) c60 (by omega)
  by_cases c61 : n < 2305843009213693952
  · exact fmtL_61 n (by omega) c61 (by omega)
  by_cases c62 : n < 4611686018427387904
  · exact fmtL_62 n (by omega) c62 (by omega)
  by_cases c63 : n < 9223372036854775808
  · exact fmtL_63 n (by omega) c63 (by omega)
  exact fmtL_64 n (by omega) (by omega) (by omega)
end Go.Proofs.YtdlghljhgbakjaaDoor
