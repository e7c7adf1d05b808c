/-
  PART: law 9 (SpanOrder): the plain law; the law's run.
-/
import Derived.Test.YtkmhabbpndcnkaaQ6
namespace Go.Proofs.Ytkmhabbpndcnkaa
open Go.RowKit
theorem i2 {a b : Nat} (ha : a ≤ 2 ^ 40) (hb : b ≤ 2 ^ 40) : I2 (F a) (F b) := ⟨isF a ha, isF b hb⟩
theorem apartS_may {a b c d : Nat} (h1 : mayS a b = true) (h2 : mayS c d = true) : apartS a b c d = decide ((a = 0 ∧ b = 0) ∨ (c = 0 ∧ d = 0) ∨ b ≤ c ∨ d ≤ a) := by simp [apartS, h1, h2]
theorem touchS_may {a b c d : Nat} (h1 : mayS a b = true) (h2 : mayS c d = true) : touchS a b c d = decide (b = c) := by simp [touchS, h1, h2]
theorem endS_may {a b r : Nat} (h : mayS a b = true) : endS a b r = r := by simp [endS, h]
section
variable {a b c d e f : Nat} (hx : mayS a b = true) (hy : mayS c d = true) (hz : mayS e f = true)
include hx hy in
theorem c93_ok : c93 (F a) (F b) (F c) (F d) = false := by
  have ⟨x1, x2⟩ := mayS_le hx
  have ⟨y1, y2⟩ := mayS_le hy
  have mx := ((mayS_iff a b).1 hx).2.2
  have my := ((mayS_iff c d).1 hy).2.2
  unfold c93 apF coF neg
  rw [unF_F (M_le x1), unF_F (M_le x2), unF_F (M_le y1), unF_F (M_le y2), apartS_may hx hy, apartS_may hy hx, compS_eq hx hy, compS_eq hy hx, eqF_eq (M_le x1) (M_le y1), eqF_eq (M_le x2) (M_le y2)]
  have e1 : decide ((a = 0 ∧ b = 0) ∨ (c = 0 ∧ d = 0) ∨ b ≤ c ∨ d ≤ a) = decide ((c = 0 ∧ d = 0) ∨ (a = 0 ∧ b = 0) ∨ d ≤ a ∨ b ≤ c) := by
    apply decide_eq_decide.2; omega
  rw [e1]
  have e2 : (if b < d then (-1 : Int) else if d < b then 1 else if a < c then -1 else if c < a then 1 else 0) = IntKind.i64.wrap (0 - (if d < b then (-1 : Int) else if b < d then 1 else if c < a then -1 else if a < c then 1 else 0)) := by
    rw [IntWalk.i64_in _ (by repeat' split
                             all_goals omega)]
    repeat' split
    all_goals omega
  have e3 : ((if b < d then (-1 : Int) else if d < b then 1 else if a < c then -1 else if c < a then 1 else 0) == 0) = (decide (a = c) && decide (b = d)) := by
    rw [Bool.eq_iff_iff, beq_iff_eq, Bool.and_eq_true, decide_eq_true_eq, decide_eq_true_eq]
    repeat' split
    all_goals omega
  rw [← e2, e3]
  simp
include hx hy in
theorem c117_ok : c117 (F a) (F b) (F c) (F d) = false := by
  have ⟨x1, x2⟩ := mayS_le hx
  have ⟨y1, y2⟩ := mayS_le hy
  unfold c117 apF enF zeq
  rw [unF_F (M_le x1), unF_F (M_le x2), unF_F (M_le y1), unF_F (M_le y2), apartS_may hx hy, endS_may hx, endS_may hy, endS_may hx, endS_may hy, eqF_zero (M_le x1), eqF_zero (M_le x2), eqF_zero (M_le y1), eqF_zero (M_le y2)]
  by_cases h1 : a = 0 ∧ b = 0
  · simp [h1]
  · by_cases h2 : c = 0 ∧ d = 0
    · simp [h2]
    · have e1 : (!(decide (a = 0) && decide (b = 0))) = true := by
        rw [← Bool.decide_and]; simp only [h1, decide_false]; rfl
      have e2 : (!(decide (c = 0) && decide (d = 0))) = true := by
        rw [← Bool.decide_and]; simp only [h2, decide_false]; rfl
      rw [e1, e2]
      simp only [h1, h2, false_or, if_true, Int.ofNat_le]
      by_cases h3 : b ≤ c
      · simp [h3]
      · simp [h3]
include hx hy hz in
theorem c133_ok : c133 (F a) (F b) (F c) (F d) (F e) (F f) = false := by
  have ⟨x1, x2⟩ := mayS_le hx
  have ⟨y1, y2⟩ := mayS_le hy
  have ⟨z1, z2⟩ := mayS_le hz
  unfold c133 coF
  rw [unF_F (M_le x1), unF_F (M_le x2), unF_F (M_le y1), unF_F (M_le y2), unF_F (M_le z1), unF_F (M_le z2), compS_eq hx hy, compS_eq hy hz, compS_eq hx hz]
  have k1 : ((if b < d then (-1 : Int) else if d < b then 1 else if a < c then -1 else if c < a then 1 else 0) < 0) ↔ (b < d ∨ (b = d ∧ a < c)) := by
    repeat' split
    all_goals omega
  have k2 : ((if d < f then (-1 : Int) else if f < d then 1 else if c < e then -1 else if e < c then 1 else 0) < 0) ↔ (d < f ∨ (d = f ∧ c < e)) := by
    repeat' split
    all_goals omega
  have k3 : ((if b < f then (-1 : Int) else if f < b then 1 else if a < e then -1 else if e < a then 1 else 0) ≥ 0) ↔ ¬ (b < f ∨ (b = f ∧ a < e)) := by
    repeat' split
    all_goals omega
  simp only [k1, k2, k3, decide_eq_true_eq]
  split
  · split
    · apply decide_eq_false
      omega
    · rfl
  · rfl
end
section
variable {a b c d : Nat} {k : Int} (hx : mayS a b = true) (hy : mayS c d = true) (h1 : 1 ≤ k) (h2 : k ≤ 256) (ha : b < 1000) (hb : d < 1000)
include hx h1 h2 ha in
theorem times_ok : timesB a b k = true ∧ mayS (a * k.toNat) (b * k.toNat) = true ∧ a * k.toNat ≤ 2 ^ 40 ∧ b * k.toNat ≤ 2 ^ 40 := by
  have mx := ((mayS_iff a b).1 hx).2.2
  have hk : k.toNat ≤ 256 := by omega
  have hk1 : 0 < k.toNat := by omega
  have l1 : a * k.toNat ≤ 1000 * 256 := Nat.mul_le_mul (by omega) hk
  have l2 : b * k.toNat ≤ 1000 * 256 := Nat.mul_le_mul (by omega) hk
  have hm : mayS (a * k.toNat) (b * k.toNat) = true := by
    rw [mayS_iff]
    refine ⟨by omega, by omega, ?_⟩
    rcases mx with h | ⟨rfl, rfl⟩
    · exact .inl (Nat.mul_lt_mul_of_pos_right h hk1)
    · exact .inr ⟨Nat.zero_mul _, Nat.zero_mul _⟩
  refine ⟨?_, hm, M_le (by omega), M_le (by omega)⟩
  simp only [timesB, decide_eq_true_eq]
  exact ⟨h1, by omega, hx, hm⟩
include hx h1 h2 ha in
theorem u_eq : u0F (F a) (F b) k = F (a * k.toNat) ∧ u1F (F a) (F b) k = F (b * k.toNat) := by
  have ⟨x1, x2⟩ := mayS_le hx
  unfold u0F u1F timesS
  rw [unF_F (M_le x1), unF_F (M_le x2), (times_ok hx h1 h2 ha).1]
  exact ⟨rfl, rfl⟩
include hx hy h1 h2 ha hb in
theorem bLast_ok : bLast (F a) (F b) (F c) (F d) k = true := by
  have ⟨x1, x2⟩ := mayS_le hx
  have ⟨y1, y2⟩ := mayS_le hy
  obtain ⟨t1, t2, t3, t4⟩ := times_ok hx h1 h2 ha
  obtain ⟨v1, v2, v3, v4⟩ := times_ok hy h1 h2 hb
  obtain ⟨u1, u2⟩ := u_eq hx h1 h2 ha
  obtain ⟨w1, w2⟩ := u_eq hy h1 h2 hb
  have hk1 : 0 < k.toNat := by omega
  have mx := ((mayS_iff a b).1 hx).2.2
  have my := ((mayS_iff c d).1 hy).2.2
  unfold bLast tB e0 e1 eA eT eC apF toF coF enF
  rw [u1, u2, w1, w2, unF_F (M_le x1), unF_F (M_le x2), unF_F (M_le y1), unF_F (M_le y2), unF_F t3, unF_F t4, unF_F v3, unF_F v4, t1, v1]
  rw [endS_may t2, endS_may hx, endS_may t2, endS_may hx, apartS_may t2 v2, apartS_may hx hy, touchS_may t2 v2, touchS_may hx hy, compS_eq t2 v2, compS_eq hx hy]
  have ek : k = (k.toNat : Int) := by omega
  generalize k.toNat = m at *
  subst ek
  have hm : m ≤ 256 := by omega
  have w : ∀ r : Nat, r < 1000 → IntKind.i64.wrap ((m : Int) * (r : Int)) = ((r * m : Nat) : Int) := fun r hr => by
    have l1 : r * m ≤ 1000 * 256 := Nat.mul_le_mul (by omega) hm
    have e : (m : Int) * (r : Int) = ((r * m : Nat) : Int) := by rw [Nat.mul_comm]; rfl
    rw [e, IntWalk.i64_in _ (by omega)]
  rw [w a (by omega), w b ha]
  have lt : ∀ i j : Nat, (i * m < j * m) ↔ i < j := fun i j => Nat.mul_lt_mul_right hk1
  have le : ∀ i j : Nat, (i * m ≤ j * m) ↔ i ≤ j := fun i j => Nat.mul_le_mul_right_iff hk1
  have eq : ∀ i j : Nat, (i * m = j * m) ↔ i = j := fun i j => Nat.mul_left_inj (by omega)
  have z : ∀ i : Nat, (i * m = 0) ↔ i = 0 := fun i => ⟨fun h => (Nat.mul_eq_zero.1 h).resolve_right (by omega), fun h => by rw [h, Nat.zero_mul]⟩
  simp only [lt, le, eq, z]
  simp
end
section
variable (a0 a1 b0 b1 c0 c1 n : Int)
theorem rm_lt (z : Int) : rm z < 1000 := by
  unfold rm
  have := Int.tmod_lt_of_pos (IntKind.i64.wrap z) (show (0 : Int) < 1000 by decide)
  exact this
theorem part_lt (p q : Int) (hq : q < 1000) : partS p q q < 1000 := by
  unfold partS
  split <;> omega
theorem kk_ok (h0 : 0 ≤ n) (h1 : n ≤ 255) : 1 ≤ kk n ∧ kk n ≤ 256 := by
  unfold kk
  rw [IntWalk.i64_in n (by omega), IntWalk.i64_in _ (by omega)]
  omega
theorem law8_pure (h0 : 0 ≤ n) (h1 : n ≤ 255) : ∃ b, PureOk Try.prog 8 (args8 a0 a1 b0 b1 c0 c1 n) b ∧ IsTrue b := by
  have th : (1000 : Int) ≠ 0 := by decide
  cases h : c65 a0 a1 b0 b1 c0 c1 with
  | true => exact ⟨_, pure_hitS (eval8w a0 a1 b0 b1 c0 c1 n) ⟨th, th, th, th, th, th, h, rfl⟩ (by kernel_rfl), isTrue_lit⟩
  | false =>
    obtain ⟨x1, x2, x3⟩ := part_le (rm a0) (rm a1)
    obtain ⟨y1, y2, y3⟩ := part_le (rm b0) (rm b1)
    obtain ⟨z1, z2, z3⟩ := part_le (rm c0) (rm c1)
    have xl := part_lt (rm a0) (rm a1) (rm_lt a1)
    have yl := part_lt (rm b0) (rm b1) (rm_lt b1)
    obtain ⟨k1, k2⟩ := kk_ok n h0 h1
    have X : I2 (p0 a0 a1) (p1 a0 a1) := i2 (M_le x1) (M_le x2)
    have Y : I2 (p0 b0 b1) (p1 b0 b1) := i2 (M_le y1) (M_le y2)
    have Z : I2 (p0 c0 c1) (p1 c0 c1) := i2 (M_le z1) (M_le z2)
    obtain ⟨t1, t2, t3, t4⟩ := times_ok x3 k1 k2 xl
    obtain ⟨v1, v2, v3, v4⟩ := times_ok y3 k1 k2 yl
    have U : I2 (u0F (p0 a0 a1) (p1 a0 a1) (kk n)) (u1F (p0 a0 a1) (p1 a0 a1) (kk n)) := by
      unfold p0 p1
      rw [(u_eq x3 k1 k2 xl).1, (u_eq x3 k1 k2 xl).2]; exact i2 t3 t4
    have V : I2 (u0F (p0 b0 b1) (p1 b0 b1) (kk n)) (u1F (p0 b0 b1) (p1 b0 b1) (kk n)) := by
      unfold p0 p1
      rw [(u_eq y3 k1 k2 yl).1, (u_eq y3 k1 k2 yl).2]; exact i2 v3 v4
    refine ⟨_, pure_hitS (eval8 a0 a1 b0 b1 c0 c1 n) ⟨th, th, th, th, th, th, h, ⟨X, Y⟩, ⟨Y, X⟩, fun _ => ⟨⟨X, Y⟩, ⟨Y, X⟩, fun _ => ⟨X, Y⟩⟩, c93_ok x3 y3, fun _ _ => ⟨⟨X, Y⟩, X, Y, fun _ => ⟨Y, X⟩⟩, c117_ok x3 y3, ⟨X, Y⟩, fun _ => ⟨⟨Y, Z⟩, fun _ => ⟨X, Z⟩⟩, c133_ok x3 y3 z3, X, Y,
      fun _ _ => ⟨U, X, fun _ => ⟨U, X, fun _ => ⟨⟨U, V⟩, ⟨X, Y⟩, fun _ => ⟨⟨U, V⟩, ⟨X, Y⟩, fun _ => ⟨⟨U, V⟩, ⟨X, Y⟩⟩⟩⟩⟩⟩, rfl⟩ (by kernel_rfl), isTrue_v (bLast_ok x3 y3 k1 k2 xl yl)⟩
end
def ksU : List Ck := [.int .u16, .int .u16]
theorem u2_of {a : AV} (h : ArgOk (true, ksU) a) : ∃ p q, a = .agg [.v (.int .u16 p), .v (.int .u16 q)] := by
  obtain ⟨l, rfl, h⟩ := h
  cases h with | cons h1 t => cases t with | cons h2 t => cases t with | nil =>
  cases h1; cases h2
  exact ⟨_, _, rfl⟩
theorem args8_ks : argShs Try.prog 6 Try.f8.params.toList = some [(true, ksU), (true, ksU), (true, ksU), (false, [.int .u8])] := by kernel_rfl
theorem law8_runs : LawRuns Try.prog 8 [(true, ksU), (true, ksU), (true, ksU), (false, [.int .u8])] :=
  lawRuns_of_pure Try.func8 (c := codeOf Try.f8) (by kernel_rfl) fun al hok => by
    cases hok with | cons h1 t => cases t with | cons h2 t => cases t with | cons h3 t => cases t with | cons h4 t => cases t with | nil =>
    obtain ⟨a0, a1, rfl⟩ := u2_of h1
    obtain ⟨b0, b1, rfl⟩ := u2_of h2
    obtain ⟨c0, c1, rfl⟩ := u2_of h3
    cases h4 with | cons h4 t => cases t with | nil =>
    cases h4 with
    | int _ n hw =>
      have hn : 0 ≤ n ∧ n ≤ 255 := by
        have : IntKind.u8.min ≤ n ∧ n ≤ IntKind.u8.max := by simpa [Lit.wf] using hw
        have e1 : IntKind.u8.min = 0 := by decide
        have e2 : IntKind.u8.max = 255 := by decide
        omega
      obtain ⟨b, h5, h6⟩ := law8_pure a0 a1 b0 b1 c0 c1 n hn.1 hn.2
      exact ⟨_, b, fun E vs h => h, h5, h6⟩
end Go.Proofs.Ytkmhabbpndcnkaa
