/-
  PARTS, one behind the other: EH.
-/
import Derived.Test.YtdlghljhgbakjaaDoorWt8
/-
  PART: numbers of so many digits as they are written.
-/
namespace Go.Proofs.YtdlghljhgbakjaaDoor
open Go.RowKit
set_option maxRecDepth 100000 in
theorem ev87_12 (n : Int) : ((evs (cxN 12 (decL [(12, false)])) 60).call 87 [.v (.int .u64 n), .lit (.int .i64 10)] .nil).ans = .side (decide (n < 100) = false) (.side (PureOk Tryd.prog 128 [.v (.int .u64 n)] (.lit (.int .i64 12))) (.side ((100000000 : Int) ≠ 0) (.side ((100000000 : Int) ≠ 0) (.side ((10000 : Int) ≠ 0) (.side ((10000 : Int) ≠ 0) (.side ((100 : Int) ≠ 0) (.side ((100 : Int) ≠ 0) (.side ((100 : Int) ≠ 0) (.side ((100 : Int) ≠ 0) (.side (okI (up1 (lo2 (L4 (E8 n))))) (.side (okI (lo2 (L4 (E8 n)))) (.side (okI (up1 (hi2 (L4 (E8 n))))) (.side (okI (hi2 (L4 (E8 n)))) (.side (okI (up1 (lo2 (H4 (E8 n))))) (.side (okI (lo2 (H4 (E8 n)))) (.side (okI (up1 (hi2 (H4 (E8 n))))) (.side (okI (hi2 (H4 (E8 n)))) (.side ((10000 : Int) ≠ 0) (.side ((10000 : Int) ≠ 0) (.side ((100 : Int) ≠ 0) (.side ((100 : Int) ≠ 0) (.side (okI (up1 (lo2 (L4 (W (Q8 n)))))) (.side (okI (lo2 (L4 (W (Q8 n))))) (.side (okI (up1 (hi2 (L4 (W (Q8 n)))))) (.side (okI (hi2 (L4 (W (Q8 n))))) (.ret (.v (.string ⟨(List.map (fun z : Int => UInt8.ofNat z.toNat) [smI (hi2 (L4 (W (Q8 n)))), smI (up1 (hi2 (L4 (W (Q8 n))))), smI (lo2 (L4 (W (Q8 n)))), smI (up1 (lo2 (L4 (W (Q8 n))))), smI (hi2 (H4 (E8 n))), smI (up1 (hi2 (H4 (E8 n)))), smI (lo2 (H4 (E8 n))), smI (up1 (lo2 (H4 (E8 n)))), smI (hi2 (L4 (E8 n))), smI (up1 (hi2 (L4 (E8 n)))), smI (lo2 (L4 (E8 n))), smI (up1 (lo2 (L4 (E8 n))))]).toArray⟩)))))))))))))))))))))))))))) := by kernel_rfl
set_option maxHeartbeats 4000000 in
theorem fmt_12 (n : Int) (h1 : 100000000000 ≤ n) (h2 : n < 1000000000000) (h3 : n ≤ 18446744073709551615) (hd : PureOk Tryd.prog 128 [.v (.int .u64 n)] (.lit (.int .i64 12))) : PureOk Tryd.prog 87 [.v (.int .u64 n), .lit (.int .i64 10)] (.v (bytesV (dig n.toNat))) := by
  have e0 : E8 n = n % 100000000 := E8_eq (by omega)
  have l0 : L4 (E8 n) = n % 100000000 % 10000 := by rw [L4_eq (by rw [e0]; omega), e0]
  have h0 : H4 (E8 n) = n % 100000000 / 10000 := by rw [H4_eq (by rw [e0]; omega) (by rw [e0]; omega), e0]
  have q0 : Q8 n = n / 100000000 := Q8_eq (by omega) (by omega)
  have m0 : W (Q8 n) = (n / 100000000) := by rw [q0, W_in (by omega) (by omega)]
  have f0 : L4 (W (Q8 n)) = (n / 100000000) % 10000 := by rw [L4_eq (by rw [m0]; omega), m0]
  have m1 : H4 (W (Q8 n)) = (n / 100000000) / 10000 := by rw [H4_eq (by rw [m0]; omega) (by rw [m0]; omega), m0]
  obtain ⟨p0, r0, a0, b0⟩ := pair_ok (x := (lo2 (L4 (E8 n)))) (n % 100000000 % 10000 % 100) (by omega) (by omega) (by rw [lo2_eq (by rw [l0]; omega), l0])
  obtain ⟨p1, r1, a1, b1⟩ := pair_ok (x := (hi2 (L4 (E8 n)))) (n % 100000000 % 10000 / 100) (by omega) (by omega) (by rw [hi2_eq (by rw [l0]; omega) (by rw [l0]; omega), l0])
  obtain ⟨p2, r2, a2, b2⟩ := pair_ok (x := (lo2 (H4 (E8 n)))) (n % 100000000 / 10000 % 100) (by omega) (by omega) (by rw [lo2_eq (by rw [h0]; omega), h0])
  obtain ⟨p3, r3, a3, b3⟩ := pair_ok (x := (hi2 (H4 (E8 n)))) (n % 100000000 / 10000 / 100) (by omega) (by omega) (by rw [hi2_eq (by rw [h0]; omega) (by rw [h0]; omega), h0])
  obtain ⟨p4, r4, a4, b4⟩ := pair_ok (x := (lo2 (L4 (W (Q8 n))))) ((n / 100000000) % 10000 % 100) (by omega) (by omega) (by rw [lo2_eq (by rw [f0]; omega), f0])
  obtain ⟨p5, r5, a5, b5⟩ := pair_ok (x := (hi2 (L4 (W (Q8 n))))) ((n / 100000000) % 10000 / 100) (by omega) (by omega) (by rw [hi2_eq (by rw [f0]; omega) (by rw [f0]; omega), f0])
  refine s_ok (pure_hitX (cxN_ok _ _) rfl (ev87_12 n) ⟨decide_eq_false (by omega), hd, by decide, by decide, by decide, by decide, by decide, by decide, by decide, by decide, r0, p0, r1, p1, r2, p2, r3, p3, by decide, by decide, by decide, by decide, r4, p4, r5, p5, rfl⟩ (by kernel_rfl)) ?_
  unfold B
  congr 2
  rw [dig_ge (n := n.toNat) (by omega), dig_ge (n := (n.toNat / 10)) (by omega), dig_ge (n := ((n.toNat / 10) / 10)) (by omega), dig_ge (n := (((n.toNat / 10) / 10) / 10)) (by omega), dig_ge (n := ((((n.toNat / 10) / 10) / 10) / 10)) (by omega), dig_ge (n := (((((n.toNat / 10) / 10) / 10) / 10) / 10)) (by omega), dig_ge (n := ((((((n.toNat / 10) / 10) / 10) / 10) / 10) / 10)) (by omega), dig_ge (n := (((((((n.toNat / 10) / 10) / 10) / 10) / 10) / 10) / 10)) (by omega), dig_ge (n := ((((((((n.toNat / 10) / 10) / 10) / 10) / 10) / 10) / 10) / 10)) (by omega), dig_ge (n := (((((((((n.toNat / 10) / 10) / 10) / 10) / 10) / 10) / 10) / 10) / 10)) (by omega), dig_ge (n := ((((((((((n.toNat / 10) / 10) / 10) / 10) / 10) / 10) / 10) / 10) / 10) / 10)) (by omega), dig_lt (n := (((((((((((n.toNat / 10) / 10) / 10) / 10) / 10) / 10) / 10) / 10) / 10) / 10) / 10)) (by omega)]
  simp only [List.map_cons, List.map_nil, List.cons_append, List.nil_append]
  rw [a0, b0, a1, b1, a2, b2, a3, b3, a4, b4, a5, b5]
  refine congr (congrArg List.cons (dch_eq (by omega))) ?_
  refine congr (congrArg List.cons (dch_eq (by omega))) ?_
  refine congr (congrArg List.cons (dch_eq (by omega))) ?_
  refine congr (congrArg List.cons (dch_eq (by omega))) ?_
  refine congr (congrArg List.cons (dch_eq (by omega))) ?_
  refine congr (congrArg List.cons (dch_eq (by omega))) ?_
  refine congr (congrArg List.cons (dch_eq (by omega))) ?_
  refine congr (congrArg List.cons (dch_eq (by omega))) ?_
  refine congr (congrArg List.cons (dch_eq (by omega))) ?_
  refine congr (congrArg List.cons (dch_eq (by omega))) ?_
  refine congr (congrArg List.cons (dch_eq (by omega))) ?_
  refine congr (congrArg List.cons (dch_eq (by omega))) ?_
  rfl
set_option maxRecDepth 100000 in
theorem ev87_13 (n : Int) : ((evs (cxN 13 (decL [(12, false)])) 60).call 87 [.v (.int .u64 n), .lit (.int .i64 10)] .nil).ans = .side (decide (n < 100) = false) (.side (PureOk Tryd.prog 128 [.v (.int .u64 n)] (.lit (.int .i64 13))) (.side ((100000000 : Int) ≠ 0) (.side ((100000000 : Int) ≠ 0) (.side ((10000 : Int) ≠ 0) (.side ((10000 : Int) ≠ 0) (.side ((100 : Int) ≠ 0) (.side ((100 : Int) ≠ 0) (.side ((100 : Int) ≠ 0) (.side ((100 : Int) ≠ 0) (.side (okI (up1 (lo2 (L4 (E8 n))))) (.side (okI (lo2 (L4 (E8 n)))) (.side (okI (up1 (hi2 (L4 (E8 n))))) (.side (okI (hi2 (L4 (E8 n)))) (.side (okI (up1 (lo2 (H4 (E8 n))))) (.side (okI (lo2 (H4 (E8 n)))) (.side (okI (up1 (hi2 (H4 (E8 n))))) (.side (okI (hi2 (H4 (E8 n)))) (.side ((10000 : Int) ≠ 0) (.side ((10000 : Int) ≠ 0) (.side ((100 : Int) ≠ 0) (.side ((100 : Int) ≠ 0) (.side (okI (up1 (lo2 (L4 (W (Q8 n)))))) (.side (okI (lo2 (L4 (W (Q8 n))))) (.side (okI (up1 (hi2 (L4 (W (Q8 n)))))) (.side (okI (hi2 (L4 (W (Q8 n))))) (.ret (.v (.string ⟨(List.map (fun z : Int => UInt8.ofNat z.toNat) [lst (H4 (W (Q8 n))), smI (hi2 (L4 (W (Q8 n)))), smI (up1 (hi2 (L4 (W (Q8 n))))), smI (lo2 (L4 (W (Q8 n)))), smI (up1 (lo2 (L4 (W (Q8 n))))), smI (hi2 (H4 (E8 n))), smI (up1 (hi2 (H4 (E8 n)))), smI (lo2 (H4 (E8 n))), smI (up1 (lo2 (H4 (E8 n)))), smI (hi2 (L4 (E8 n))), smI (up1 (hi2 (L4 (E8 n)))), smI (lo2 (L4 (E8 n))), smI (up1 (lo2 (L4 (E8 n))))]).toArray⟩)))))))))))))))))))))))))))) := by kernel_rfl
set_option maxHeartbeats 4000000 in
theorem fmt_13 (n : Int) (h1 : 1000000000000 ≤ n) (h2 : n < 10000000000000) (h3 : n ≤ 18446744073709551615) (hd : PureOk Tryd.prog 128 [.v (.int .u64 n)] (.lit (.int .i64 13))) : PureOk Tryd.prog 87 [.v (.int .u64 n), .lit (.int .i64 10)] (.v (bytesV (dig n.toNat))) := by
  have e0 : E8 n = n % 100000000 := E8_eq (by omega)
  have l0 : L4 (E8 n) = n % 100000000 % 10000 := by rw [L4_eq (by rw [e0]; omega), e0]
  have h0 : H4 (E8 n) = n % 100000000 / 10000 := by rw [H4_eq (by rw [e0]; omega) (by rw [e0]; omega), e0]
  have q0 : Q8 n = n / 100000000 := Q8_eq (by omega) (by omega)
  have m0 : W (Q8 n) = (n / 100000000) := by rw [q0, W_in (by omega) (by omega)]
  have f0 : L4 (W (Q8 n)) = (n / 100000000) % 10000 := by rw [L4_eq (by rw [m0]; omega), m0]
  have m1 : H4 (W (Q8 n)) = (n / 100000000) / 10000 := by rw [H4_eq (by rw [m0]; omega) (by rw [m0]; omega), m0]
  obtain ⟨p0, r0, a0, b0⟩ := pair_ok (x := (lo2 (L4 (E8 n)))) (n % 100000000 % 10000 % 100) (by omega) (by omega) (by rw [lo2_eq (by rw [l0]; omega), l0])
  obtain ⟨p1, r1, a1, b1⟩ := pair_ok (x := (hi2 (L4 (E8 n)))) (n % 100000000 % 10000 / 100) (by omega) (by omega) (by rw [hi2_eq (by rw [l0]; omega) (by rw [l0]; omega), l0])
  obtain ⟨p2, r2, a2, b2⟩ := pair_ok (x := (lo2 (H4 (E8 n)))) (n % 100000000 / 10000 % 100) (by omega) (by omega) (by rw [lo2_eq (by rw [h0]; omega), h0])
  obtain ⟨p3, r3, a3, b3⟩ := pair_ok (x := (hi2 (H4 (E8 n)))) (n % 100000000 / 10000 / 100) (by omega) (by omega) (by rw [hi2_eq (by rw [h0]; omega) (by rw [h0]; omega), h0])
  obtain ⟨p4, r4, a4, b4⟩ := pair_ok (x := (lo2 (L4 (W (Q8 n))))) ((n / 100000000) % 10000 % 100) (by omega) (by omega) (by rw [lo2_eq (by rw [f0]; omega), f0])
  obtain ⟨p5, r5, a5, b5⟩ := pair_ok (x := (hi2 (L4 (W (Q8 n))))) ((n / 100000000) % 10000 / 100) (by omega) (by omega) (by rw [hi2_eq (by rw [f0]; omega) (by rw [f0]; omega), f0])
  refine s_ok (pure_hitX (cxN_ok _ _) rfl (ev87_13 n) ⟨decide_eq_false (by omega), hd, by decide, by decide, by decide, by decide, by decide, by decide, by decide, by decide, r0, p0, r1, p1, r2, p2, r3, p3, by decide, by decide, by decide, by decide, r4, p4, r5, p5, rfl⟩ (by kernel_rfl)) ?_
  unfold B
  congr 2
  rw [dig_ge (n := n.toNat) (by omega), dig_ge (n := (n.toNat / 10)) (by omega), dig_ge (n := ((n.toNat / 10) / 10)) (by omega), dig_ge (n := (((n.toNat / 10) / 10) / 10)) (by omega), dig_ge (n := ((((n.toNat / 10) / 10) / 10) / 10)) (by omega), dig_ge (n := (((((n.toNat / 10) / 10) / 10) / 10) / 10)) (by omega), dig_ge (n := ((((((n.toNat / 10) / 10) / 10) / 10) / 10) / 10)) (by omega), dig_ge (n := (((((((n.toNat / 10) / 10) / 10) / 10) / 10) / 10) / 10)) (by omega), dig_ge (n := ((((((((n.toNat / 10) / 10) / 10) / 10) / 10) / 10) / 10) / 10)) (by omega), dig_ge (n := (((((((((n.toNat / 10) / 10) / 10) / 10) / 10) / 10) / 10) / 10) / 10)) (by omega), dig_ge (n := ((((((((((n.toNat / 10) / 10) / 10) / 10) / 10) / 10) / 10) / 10) / 10) / 10)) (by omega), dig_ge (n := (((((((((((n.toNat / 10) / 10) / 10) / 10) / 10) / 10) / 10) / 10) / 10) / 10) / 10)) (by omega), dig_lt (n := ((((((((((((n.toNat / 10) / 10) / 10) / 10) / 10) / 10) / 10) / 10) / 10) / 10) / 10) / 10)) (by omega)]
  simp only [List.map_cons, List.map_nil, List.cons_append, List.nil_append]
  rw [lst_eq (by rw [m1]; omega) (by rw [m1]; omega), m1]
  rw [a0, b0, a1, b1, a2, b2, a3, b3, a4, b4, a5, b5]
  refine congr (congrArg List.cons (dch_eq (by omega))) ?_
  refine congr (congrArg List.cons (dch_eq (by omega))) ?_
  refine congr (congrArg List.cons (dch_eq (by omega))) ?_
  refine congr (congrArg List.cons (dch_eq (by omega))) ?_
  refine congr (congrArg List.cons (dch_eq (by omega))) ?_
  refine congr (congrArg List.cons (dch_eq (by omega))) ?_
  refine congr (congrArg List.cons (dch_eq (by omega))) ?_
  refine congr (congrArg List.cons (dch_eq (by omega))) ?_
  refine congr (congrArg List.cons (dch_eq (by omega))) ?_
  refine congr (congrArg List.cons (dch_eq (by omega))) ?_
  refine congr (congrArg List.cons (dch_eq (by omega))) ?_
  refine congr (congrArg List.cons (dch_eq (by omega))) ?_
  refine congr (congrArg List.cons (dch_eq (by omega))) ?_
  rfl
set_option maxRecDepth 100000 in
theorem ev87_14 (n : Int) : ((evs (cxN 14 (decL [(12, false)])) 60).call 87 [.v (.int .u64 n), .lit (.int .i64 10)] .nil).ans = .side (decide (n < 100) = false) (.side (PureOk Tryd.prog 128 [.v (.int .u64 n)] (.lit (.int .i64 14))) (.side ((100000000 : Int) ≠ 0) (.side ((100000000 : Int) ≠ 0) (.side ((10000 : Int) ≠ 0) (.side ((10000 : Int) ≠ 0) (.side ((100 : Int) ≠ 0) (.side ((100 : Int) ≠ 0) (.side ((100 : Int) ≠ 0) (.side ((100 : Int) ≠ 0) (.side (okI (up1 (lo2 (L4 (E8 n))))) (.side (okI (lo2 (L4 (E8 n)))) (.side (okI (up1 (hi2 (L4 (E8 n))))) (.side (okI (hi2 (L4 (E8 n)))) (.side (okI (up1 (lo2 (H4 (E8 n))))) (.side (okI (lo2 (H4 (E8 n)))) (.side (okI (up1 (hi2 (H4 (E8 n))))) (.side (okI (hi2 (H4 (E8 n)))) (.side ((10000 : Int) ≠ 0) (.side ((10000 : Int) ≠ 0) (.side ((100 : Int) ≠ 0) (.side ((100 : Int) ≠ 0) (.side (okI (up1 (lo2 (L4 (W (Q8 n)))))) (.side (okI (lo2 (L4 (W (Q8 n))))) (.side (okI (up1 (hi2 (L4 (W (Q8 n)))))) (.side (okI (hi2 (L4 (W (Q8 n))))) (.side ((100 : Int) ≠ 0) (.side ((100 : Int) ≠ 0) (.side (okI (up1 (lo2 (H4 (W (Q8 n)))))) (.side (okI (lo2 (H4 (W (Q8 n))))) (.ret (.v (.string ⟨(List.map (fun z : Int => UInt8.ofNat z.toNat) [smI (lo2 (H4 (W (Q8 n)))), smI (up1 (lo2 (H4 (W (Q8 n))))), smI (hi2 (L4 (W (Q8 n)))), smI (up1 (hi2 (L4 (W (Q8 n))))), smI (lo2 (L4 (W (Q8 n)))), smI (up1 (lo2 (L4 (W (Q8 n))))), smI (hi2 (H4 (E8 n))), smI (up1 (hi2 (H4 (E8 n)))), smI (lo2 (H4 (E8 n))), smI (up1 (lo2 (H4 (E8 n)))), smI (hi2 (L4 (E8 n))), smI (up1 (hi2 (L4 (E8 n)))), smI (lo2 (L4 (E8 n))), smI (up1 (lo2 (L4 (E8 n))))]).toArray⟩)))))))))))))))))))))))))))))))) := by kernel_rfl
set_option maxHeartbeats 4000000 in
theorem fmt_14 (n : Int) (h1 : 10000000000000 ≤ n) (h2 : n < 100000000000000) (h3 : n ≤ 18446744073709551615) (hd : PureOk Tryd.prog 128 [.v (.int .u64 n)] (.lit (.int .i64 14))) : PureOk Tryd.prog 87 [.v (.int .u64 n), .lit (.int .i64 10)] (.v (bytesV (dig n.toNat))) := by
  have e0 : E8 n = n % 100000000 := E8_eq (by omega)
  have l0 : L4 (E8 n) = n % 100000000 % 10000 := by rw [L4_eq (by rw [e0]; omega), e0]
  have h0 : H4 (E8 n) = n % 100000000 / 10000 := by rw [H4_eq (by rw [e0]; omega) (by rw [e0]; omega), e0]
  have q0 : Q8 n = n / 100000000 := Q8_eq (by omega) (by omega)
  have m0 : W (Q8 n) = (n / 100000000) := by rw [q0, W_in (by omega) (by omega)]
  have f0 : L4 (W (Q8 n)) = (n / 100000000) % 10000 := by rw [L4_eq (by rw [m0]; omega), m0]
  have m1 : H4 (W (Q8 n)) = (n / 100000000) / 10000 := by rw [H4_eq (by rw [m0]; omega) (by rw [m0]; omega), m0]
  have m2 : H2 (H4 (W (Q8 n))) = ((n / 100000000) / 10000) / 100 := by rw [H2_eq (by rw [m1]; omega) (by rw [m1]; omega), m1]
  obtain ⟨p0, r0, a0, b0⟩ := pair_ok (x := (lo2 (L4 (E8 n)))) (n % 100000000 % 10000 % 100) (by omega) (by omega) (by rw [lo2_eq (by rw [l0]; omega), l0])
  obtain ⟨p1, r1, a1, b1⟩ := pair_ok (x := (hi2 (L4 (E8 n)))) (n % 100000000 % 10000 / 100) (by omega) (by omega) (by rw [hi2_eq (by rw [l0]; omega) (by rw [l0]; omega), l0])
  obtain ⟨p2, r2, a2, b2⟩ := pair_ok (x := (lo2 (H4 (E8 n)))) (n % 100000000 / 10000 % 100) (by omega) (by omega) (by rw [lo2_eq (by rw [h0]; omega), h0])
  obtain ⟨p3, r3, a3, b3⟩ := pair_ok (x := (hi2 (H4 (E8 n)))) (n % 100000000 / 10000 / 100) (by omega) (by omega) (by rw [hi2_eq (by rw [h0]; omega) (by rw [h0]; omega), h0])
  obtain ⟨p4, r4, a4, b4⟩ := pair_ok (x := (lo2 (L4 (W (Q8 n))))) ((n / 100000000) % 10000 % 100) (by omega) (by omega) (by rw [lo2_eq (by rw [f0]; omega), f0])
  obtain ⟨p5, r5, a5, b5⟩ := pair_ok (x := (hi2 (L4 (W (Q8 n))))) ((n / 100000000) % 10000 / 100) (by omega) (by omega) (by rw [hi2_eq (by rw [f0]; omega) (by rw [f0]; omega), f0])
  obtain ⟨p6, r6, a6, b6⟩ := pair_ok (x := (lo2 (H4 (W (Q8 n))))) (((n / 100000000) / 10000) % 100) (by omega) (by omega) (by rw [lo2_eq (by rw [m1]; omega), m1])
  refine s_ok (pure_hitX (cxN_ok _ _) rfl (ev87_14 n) ⟨decide_eq_false (by omega), hd, by decide, by decide, by decide, by decide, by decide, by decide, by decide, by decide, r0, p0, r1, p1, r2, p2, r3, p3, by decide, by decide, by decide, by decide, r4, p4, r5, p5, by decide, by decide, r6, p6, rfl⟩ (by kernel_rfl)) ?_
  unfold B
  congr 2
  rw [dig_ge (n := n.toNat) (by omega), dig_ge (n := (n.toNat / 10)) (by omega), dig_ge (n := ((n.toNat / 10) / 10)) (by omega), dig_ge (n := (((n.toNat / 10) / 10) / 10)) (by omega), dig_ge (n := ((((n.toNat / 10) / 10) / 10) / 10)) (by omega), dig_ge (n := (((((n.toNat / 10) / 10) / 10) / 10) / 10)) (by omega), dig_ge (n := ((((((n.toNat / 10) / 10) / 10) / 10) / 10) / 10)) (by omega), dig_ge (n := (((((((n.toNat / 10) / 10) / 10) / 10) / 10) / 10) / 10)) (by omega), dig_ge (n := ((((((((n.toNat / 10) / 10) / 10) / 10) / 10) / 10) / 10) / 10)) (by omega), dig_ge (n := (((((((((n.toNat / 10) / 10) / 10) / 10) / 10) / 10) / 10) / 10) / 10)) (by omega), dig_ge (n := ((((((((((n.toNat / 10) / 10) / 10) / 10) / 10) / 10) / 10) / 10) / 10) / 10)) (by omega), dig_ge (n := (((((((((((n.toNat / 10) / 10) / 10) / 10) / 10) / 10) / 10) / 10) / 10) / 10) / 10)) (by omega), dig_ge (n := ((((((((((((n.toNat / 10) / 10) / 10) / 10) / 10) / 10) / 10) / 10) / 10) / 10) / 10) / 10)) (by omega), dig_lt (n := (((((((((((((n.toNat / 10) / 10) / 10) / 10) / 10) / 10) / 10) / 10) / 10) / 10) / 10) / 10) / 10)) (by omega)]
  simp only [List.map_cons, List.map_nil, List.cons_append, List.nil_append]
  rw [a0, b0, a1, b1, a2, b2, a3, b3, a4, b4, a5, b5, a6, b6]
  refine congr (congrArg List.cons (dch_eq (by omega))) ?_
  refine congr (congrArg List.cons (dch_eq (by omega))) ?_
  refine congr (congrArg List.cons (dch_eq (by omega))) ?_
  refine congr (congrArg List.cons (dch_eq (by omega))) ?_
  refine congr (congrArg List.cons (dch_eq (by omega))) ?_
  refine congr (congrArg List.cons (dch_eq (by omega))) ?_
  refine congr (congrArg List.cons (dch_eq (by omega))) ?_
  refine congr (congrArg List.cons (dch_eq (by omega))) ?_
  refine congr (congrArg List.cons (dch_eq (by omega))) ?_
  refine congr (congrArg List.cons (dch_eq (by omega))) ?_
  refine congr (congrArg List.cons (dch_eq (by omega))) ?_
  refine congr (congrArg List.cons (dch_eq (by omega))) ?_
  refine congr (congrArg List.cons (dch_eq (by omega))) ?_
  refine congr (congrArg List.cons (dch_eq (by omega))) ?_
  rfl
set_option maxRecDepth 100000 in
theorem ev87_15 (n : Int) : ((evs (cxN 15 (decL [(12, false)])) 60).call 87 [.v (.int .u64 n), .lit (.int .i64 10)] .nil).ans = .side (decide (n < 100) = false) (.side (PureOk Tryd.prog 128 [.v (.int .u64 n)] (.lit (.int .i64 15))) (.side ((100000000 : Int) ≠ 0) (.side ((100000000 : Int) ≠ 0) (.side ((10000 : Int) ≠ 0) (.side ((10000 : Int) ≠ 0) (.side ((100 : Int) ≠ 0) (.side ((100 : Int) ≠ 0) (.side ((100 : Int) ≠ 0) (.side ((100 : Int) ≠ 0) (.side (okI (up1 (lo2 (L4 (E8 n))))) (.side (okI (lo2 (L4 (E8 n)))) (.side (okI (up1 (hi2 (L4 (E8 n))))) (.side (okI (hi2 (L4 (E8 n)))) (.side (okI (up1 (lo2 (H4 (E8 n))))) (.side (okI (lo2 (H4 (E8 n)))) (.side (okI (up1 (hi2 (H4 (E8 n))))) (.side (okI (hi2 (H4 (E8 n)))) (.side ((10000 : Int) ≠ 0) (.side ((10000 : Int) ≠ 0) (.side ((100 : Int) ≠ 0) (.side ((100 : Int) ≠ 0) (.side (okI (up1 (lo2 (L4 (W (Q8 n)))))) (.side (okI (lo2 (L4 (W (Q8 n))))) (.side (okI (up1 (hi2 (L4 (W (Q8 n)))))) (.side (okI (hi2 (L4 (W (Q8 n))))) (.side ((100 : Int) ≠ 0) (.side ((100 : Int) ≠ 0) (.side (okI (up1 (lo2 (H4 (W (Q8 n)))))) (.side (okI (lo2 (H4 (W (Q8 n))))) (.ret (.v (.string ⟨(List.map (fun z : Int => UInt8.ofNat z.toNat) [lst (H2 (H4 (W (Q8 n)))), smI (lo2 (H4 (W (Q8 n)))), smI (up1 (lo2 (H4 (W (Q8 n))))), smI (hi2 (L4 (W (Q8 n)))), smI (up1 (hi2 (L4 (W (Q8 n))))), smI (lo2 (L4 (W (Q8 n)))), smI (up1 (lo2 (L4 (W (Q8 n))))), smI (hi2 (H4 (E8 n))), smI (up1 (hi2 (H4 (E8 n)))), smI (lo2 (H4 (E8 n))), smI (up1 (lo2 (H4 (E8 n)))), smI (hi2 (L4 (E8 n))), smI (up1 (hi2 (L4 (E8 n)))), smI (lo2 (L4 (E8 n))), smI (up1 (lo2 (L4 (E8 n))))]).toArray⟩)))))))))))))))))))))))))))))))) := by kernel_rfl
set_option maxHeartbeats 4000000 in
theorem fmt_15 (n : Int) (h1 : 100000000000000 ≤ n) (h2 : n < 1000000000000000) (h3 : n ≤ 18446744073709551615) (hd : PureOk Tryd.prog 128 [.v (.int .u64 n)] (.lit (.int .i64 15))) : PureOk Tryd.prog 87 [.v (.int .u64 n), .lit (.int .i64 10)] (.v (bytesV (dig n.toNat))) := by
  have e0 : E8 n = n % 100000000 := E8_eq (by omega)
  have l0 : L4 (E8 n) = n % 100000000 % 10000 := by rw [L4_eq (by rw [e0]; omega), e0]
  have h0 : H4 (E8 n) = n % 100000000 / 10000 := by rw [H4_eq (by rw [e0]; omega) (by rw [e0]; omega), e0]
  have q0 : Q8 n = n / 100000000 := Q8_eq (by omega) (by omega)
  have m0 : W (Q8 n) = (n / 100000000) := by rw [q0, W_in (by omega) (by omega)]
  have f0 : L4 (W (Q8 n)) = (n / 100000000) % 10000 := by rw [L4_eq (by rw [m0]; omega), m0]
  have m1 : H4 (W (Q8 n)) = (n / 100000000) / 10000 := by rw [H4_eq (by rw [m0]; omega) (by rw [m0]; omega), m0]
  have m2 : H2 (H4 (W (Q8 n))) = ((n / 100000000) / 10000) / 100 := by rw [H2_eq (by rw [m1]; omega) (by rw [m1]; omega), m1]
  obtain ⟨p0, r0, a0, b0⟩ := pair_ok (x := (lo2 (L4 (E8 n)))) (n % 100000000 % 10000 % 100) (by omega) (by omega) (by rw [lo2_eq (by rw [l0]; omega), l0])
  obtain ⟨p1, r1, a1, b1⟩ := pair_ok (x := (hi2 (L4 (E8 n)))) (n % 100000000 % 10000 / 100) (by omega) (by omega) (by rw [hi2_eq (by rw [l0]; omega) (by rw [l0]; omega), l0])
  obtain ⟨p2, r2, a2, b2⟩ := pair_ok (x := (lo2 (H4 (E8 n)))) (n % 100000000 / 10000 % 100) (by omega) (by omega) (by rw [lo2_eq (by rw [h0]; omega), h0])
  obtain ⟨p3, r3, a3, b3⟩ := pair_ok (x := (hi2 (H4 (E8 n)))) (n % 100000000 / 10000 / 100) (by omega) (by omega) (by rw [hi2_eq (by rw [h0]; omega) (by rw [h0]; omega), h0])
  obtain ⟨p4, r4, a4, b4⟩ := pair_ok (x := (lo2 (L4 (W (Q8 n))))) ((n / 100000000) % 10000 % 100) (by omega) (by omega) (by rw [lo2_eq (by rw [f0]; omega), f0])
  obtain ⟨p5, r5, a5, b5⟩ := pair_ok (x := (hi2 (L4 (W (Q8 n))))) ((n / 100000000) % 10000 / 100) (by omega) (by omega) (by rw [hi2_eq (by rw [f0]; omega) (by rw [f0]; omega), f0])
  obtain ⟨p6, r6, a6, b6⟩ := pair_ok (x := (lo2 (H4 (W (Q8 n))))) (((n / 100000000) / 10000) % 100) (by omega) (by omega) (by rw [lo2_eq (by rw [m1]; omega), m1])
  refine s_ok (pure_hitX (cxN_ok _ _) rfl (ev87_15 n) ⟨decide_eq_false (by omega), hd, by decide, by decide, by decide, by decide, by decide, by decide, by decide, by decide, r0, p0, r1, p1, r2, p2, r3, p3, by decide, by decide, by decide, by decide, r4, p4, r5, p5, by decide, by decide, r6, p6, rfl⟩ (by kernel_rfl)) ?_
  unfold B
  congr 2
  rw [dig_ge (n := n.toNat) (by omega), dig_ge (n := (n.toNat / 10)) (by omega), dig_ge (n := ((n.toNat / 10) / 10)) (by omega), dig_ge (n := (((n.toNat / 10) / 10) / 10)) (by omega), dig_ge (n := ((((n.toNat / 10) / 10) / 10) / 10)) (by omega), dig_ge (n := (((((n.toNat / 10) / 10) / 10) / 10) / 10)) (by omega), dig_ge (n := ((((((n.toNat / 10) / 10) / 10) / 10) / 10) / 10)) (by omega), dig_ge (n := (((((((n.toNat / 10) / 10) / 10) / 10) / 10) / 10) / 10)) (by omega), dig_ge (n := ((((((((n.toNat / 10) / 10) / 10) / 10) / 10) / 10) / 10) / 10)) (by omega), dig_ge (n := (((((((((n.toNat / 10) / 10) / 10) / 10) / 10) / 10) / 10) / 10) / 10)) (by omega), dig_ge (n := ((((((((((n.toNat / 10) / 10) / 10) / 10) / 10) / 10) / 10) / 10) / 10) / 10)) (by omega), dig_ge (n := (((((((((((n.toNat / 10) / 10) / 10) / 10) / 10) / 10) / 10) / 10) / 10) / 10) / 10)) (by omega), dig_ge (n := ((((((((((((n.toNat / 10) / 10) / 10) / 10) / 10) / 10) / 10) / 10) / 10) / 10) / 10) / 10)) (by omega), dig_ge (n := (((((((((((((n.toNat / 10) / 10) / 10) / 10) / 10) / 10) / 10) / 10) / 10) / 10) / 10) / 10) / 10)) (by omega), dig_lt (n := ((((((((((((((n.toNat / 10) / 10) / 10) / 10) / 10) / 10) / 10) / 10) / 10) / 10) / 10) / 10) / 10) / 10)) (by omega)]
  simp only [List.map_cons, List.map_nil, List.cons_append, List.nil_append]
  rw [lst_eq (by rw [m2]; omega) (by rw [m2]; omega), m2]
  rw [a0, b0, a1, b1, a2, b2, a3, b3, a4, b4, a5, b5, a6, b6]
  refine congr (congrArg List.cons (dch_eq (by omega))) ?_
  refine congr (congrArg List.cons (dch_eq (by omega))) ?_
  refine congr (congrArg List.cons (dch_eq (by omega))) ?_
  refine congr (congrArg List.cons (dch_eq (by omega))) ?_
  refine congr (congrArg List.cons (dch_eq (by omega))) ?_
  refine congr (congrArg List.cons (dch_eq (by omega))) ?_
  refine congr (congrArg List.cons (dch_eq (by omega))) ?_
  refine congr (congrArg List.cons (dch_eq (by omega))) ?_
  refine congr (congrArg List.cons (dch_eq (by omega))) ?_
  refine congr (congrArg List.cons (dch_eq (by omega))) ?_
  refine congr (congrArg List.cons (dch_eq (by omega))) ?_
  refine congr (congrArg List.cons (dch_eq (by omega))) ?_
  refine congr (congrArg List.cons (dch_eq (by omega))) ?_
  refine congr (congrArg List.cons (dch_eq (by omega))) ?_
  refine congr (congrArg List.cons (dch_eq (by omega))) ?_
  rfl
end Go.Proofs.YtdlghljhgbakjaaDoor
