/-
  PART: floats that are whole numbers.
-/
import Derived.Laws.ComplexArith
namespace Go.Proofs.Ytkmhabbpndcnkaa
open Ieee
/-- A whole number as a float. -/
def F (n : Nat) : Nat := FloatKind.f64.nearest (n : Int)
theorem F_eq (n : Nat) : F n = double.nearest false n 0 := by
  unfold F FloatKind.nearest FloatKind.encode
  have : decide ((n : Int) < 0) = false := by simp
  rw [this, Int.natAbs_natCast]
  rfl
theorem F_zero : F 0 = 0 := by rw [F_eq]; decide
theorem log2_mul_pow (n k : Nat) (h : n ≠ 0) : (n * 2 ^ k).log2 = n.log2 + k := by
  refine (Nat.log2_eq_iff (Nat.mul_ne_zero h (Nat.pos_iff_ne_zero.1 (Nat.two_pow_pos k)))).2 ⟨?_, ?_⟩
  · rw [Nat.pow_add]; exact Nat.mul_le_mul_right _ (Nat.log2_self_le h)
  · rw [show n.log2 + k + 1 = n.log2 + 1 + k by omega, Nat.pow_add]
    exact Nat.mul_lt_mul_of_pos_right Nat.lt_log2_self (Nat.two_pow_pos k)
theorem log2_le (n : Nat) (hn : n < 2 ^ 53) : n.log2 ≤ 52 := by
  by_cases h : n = 0
  · subst h; decide
  · have := (Nat.log2_lt h).2 hn; omega
theorem cut_exact (way : Toward) (m d : Nat) (hd : m = 0 ∨ d ≤ (m * 2 ^ d).log2) (hw : way = .even ∨ way = .zero) : way.cut false (m * 2 ^ d) d = m := by
  unfold Toward.cut
  by_cases h0 : m = 0
  · subst h0
    rcases hw with rfl | rfl
    · simp
    · simp
  · have hd := hd.resolve_left h0
    rw [Nat.min_eq_left (by omega)]
    have hg : 1 <<< d = 2 ^ d := by rw [Nat.one_shiftLeft]
    rw [hg]
    have e1 : m * 2 ^ d / 2 ^ d = m := Nat.mul_div_cancel _ (Nat.two_pow_pos d)
    have e2 : m * 2 ^ d % 2 ^ d = 0 := Nat.mul_mod_left _ _
    have hp := Nat.two_pow_pos d
    rcases hw with rfl | rfl
    · simp only [e1, e2]
      have h2 : (2 ^ d == 2 * 0) = false := by simp
      simp [h2]
    · simp [e1]
/-- The rung of a whole number. -/
def rungF (n : Nat) : Nat := (n.log2 + 1022) * 2 ^ 52 + n * 2 ^ (52 - n.log2)
set_option maxRecDepth 20000
theorem mant_lt (n : Nat) (h : n ≠ 0) (hn : n < 2 ^ 53) : 2 ^ 52 ≤ n * 2 ^ (52 - n.log2) ∧ n * 2 ^ (52 - n.log2) < 2 ^ 53 := by
  have hl := log2_le n hn
  constructor
  · calc 2 ^ 52 = 2 ^ n.log2 * 2 ^ (52 - n.log2) := by rw [← Nat.pow_add]; congr 1; omega
      _ ≤ n * 2 ^ (52 - n.log2) := Nat.mul_le_mul_right _ (Nat.log2_self_le h)
  · calc n * 2 ^ (52 - n.log2) < 2 ^ (n.log2 + 1) * 2 ^ (52 - n.log2) := Nat.mul_lt_mul_of_pos_right Nat.lt_log2_self (Nat.two_pow_pos _)
      _ = 2 ^ 53 := by rw [← Nat.pow_add]; congr 1; omega
/-- What is written of a whole number, however it is told. -/
theorem nearest_shift (n k : Nat) (h : n ≠ 0) (hn : n < 2 ^ 53) : double.nearest false (n * 2 ^ k) (-(k : Int)) = rungF n := by
  have hl := log2_le n hn
  have hm : n * 2 ^ k ≠ 0 := Nat.mul_ne_zero h (Nat.pos_iff_ne_zero.1 (Nat.two_pow_pos k))
  obtain ⟨m1, m2⟩ := mant_lt n h hn
  unfold Format.nearest
  rw [if_neg hm, log2_mul_pow n k h]
  have hlast : max (-(k : Int) + ((n.log2 + k : Nat) : Int) - ((double.fractionBits : Nat) : Int)) double.leastPlace = (n.log2 : Int) - 52 := by
    have h1 : double.leastPlace = -1074 := by decide
    have h2 : double.fractionBits = 52 := rfl
    rw [h1, h2]; omega
  simp only [hlast]
  have hkept : Toward.even.cut false ((n * 2 ^ k) <<< (-(k : Int) - ((n.log2 : Int) - 52)).toNat) ((n.log2 : Int) - 52 - -(k : Int)).toNat = n * 2 ^ (52 - n.log2) := by
    by_cases hk : k + n.log2 ≤ 52
    · rw [show (-(k : Int) - ((n.log2 : Int) - 52)).toNat = 52 - n.log2 - k by omega, show ((n.log2 : Int) - 52 - -(k : Int)).toNat = 0 by omega]
      rw [Nat.shiftLeft_eq, Nat.mul_assoc, ← Nat.pow_add, show k + (52 - n.log2 - k) = 52 - n.log2 by omega]
      have := cut_exact .even (n * 2 ^ (52 - n.log2)) 0 (.inr (Nat.zero_le _)) (.inl rfl)
      simpa using this
    · rw [show (-(k : Int) - ((n.log2 : Int) - 52)).toNat = 0 by omega]
      obtain ⟨d, hd⟩ : ∃ d, d = ((n.log2 : Int) - 52 - -(k : Int)).toNat := ⟨_, rfl⟩
      rw [← hd, Nat.shiftLeft_zero]
      have e : n * 2 ^ k = n * 2 ^ (52 - n.log2) * 2 ^ d := by
        rw [Nat.mul_assoc, ← Nat.pow_add]; congr 2; omega
      rw [e]
      refine cut_exact .even _ d (.inr ?_) (.inl rfl)
      rw [← e, log2_mul_pow n k h]; omega
  rw [hkept]
  have h3 : ((n.log2 : Int) - 52 - double.leastPlace).toNat = n.log2 + 1022 := by
    have h1 : double.leastPlace = -1074 := by decide
    rw [h1]; omega
  have h4 : double.binade = 2 ^ 52 := rfl
  have h5 : double.infRung = 2047 * 2 ^ 52 := by decide
  rw [h3, h4, h5]
  have : (n.log2 + 1022) * 2 ^ 52 + n * 2 ^ (52 - n.log2) ≤ 2047 * 2 ^ 52 := by
    have h6 : (n.log2 + 1022) * 2 ^ 52 ≤ 1074 * 2 ^ 52 := Nat.mul_le_mul_right _ (by omega)
    have h7 := Nat.le_of_lt m2
    exact Nat.le_trans (Nat.add_le_add h6 h7) (by decide)
  rw [Nat.min_eq_left this]
  simp only [Format.word, rungF, Bool.false_eq_true, if_false]
theorem nearest_any (n k : Nat) (hn : n < 2 ^ 53) : double.nearest false (n * 2 ^ k) (-(k : Int)) = F n := by
  by_cases h : n = 0
  · subst h; rw [Nat.zero_mul, F_zero]; rfl
  · rw [nearest_shift n k h hn, F_eq]
    have := nearest_shift n 0 h hn
    simp only [Nat.pow_zero, Nat.mul_one] at this
    exact this.symm
/-- A datum that is a whole number. -/
def Is (d : Datum) (n : Nat) : Prop := ∃ p : Nat, d = .number false (n * 2 ^ p) (-(p : Int))
theorem read_F (n : Nat) (hn : n < 2 ^ 53) : Is (double.read (F n)) n := by
  by_cases h : n = 0
  · subst h
    obtain ⟨p, hp⟩ : ∃ p : Nat, (p : Int) = 1074 := ⟨1074, rfl⟩
    refine ⟨p, ?_⟩
    rw [F_zero, Nat.zero_mul, hp]
    decide
  · have hl := log2_le n hn
    obtain ⟨m1, m2⟩ := mant_lt n h hn
    refine ⟨52 - n.log2, ?_⟩
    have hF : F n = rungF n := by
      have := nearest_shift n 0 h hn
      simp only [Nat.pow_zero, Nat.mul_one] at this
      rw [F_eq]; exact this
    rw [hF]
    unfold Format.read
    have hw : double.signWeight = 2 ^ 63 := rfl
    have hb : double.binade = 2 ^ 52 := rfl
    have hi : double.infRung = 2047 * 2 ^ 52 := by decide
    have hle : (n.log2 + 1022) * 2 ^ 52 ≤ 1074 * 2 ^ 52 := Nat.mul_le_mul_right _ (by omega)
    have hge : 1022 * 2 ^ 52 ≤ (n.log2 + 1022) * 2 ^ 52 := Nat.mul_le_mul_right _ (by omega)
    have hlt : rungF n < 2047 * 2 ^ 52 := by unfold rungF; omega
    have hnb : ¬ rungF n < 2 ^ 52 := by unfold rungF; omega
    have e1 : rungF n / 2 ^ 63 = 0 := Nat.div_eq_of_lt (by omega)
    have e2 : rungF n % 2 ^ 63 = rungF n := Nat.mod_eq_of_lt (by omega)
    obtain ⟨x, hx⟩ : ∃ x, n * 2 ^ (52 - n.log2) = 2 ^ 52 + x := ⟨n * 2 ^ (52 - n.log2) - 2 ^ 52, by omega⟩
    have e3 : rungF n = (n.log2 + 1023) * 2 ^ 52 + x := by unfold rungF; rw [hx]; omega
    have hx2 : x < 2 ^ 52 := by omega
    have e4 : rungF n % 2 ^ 52 = x := by rw [e3, Nat.add_comm, Nat.add_mul_mod_self_right]; exact Nat.mod_eq_of_lt hx2
    have e5 : rungF n / 2 ^ 52 = n.log2 + 1023 := by
      rw [e3, Nat.add_comm, Nat.add_mul_div_right _ _ (Nat.two_pow_pos 52), Nat.div_eq_of_lt hx2]; omega
    rw [hw, hb, hi]
    simp only [e1, e2, e4, e5, if_neg hnb, if_pos hlt, ← hx]
    have h1 : double.leastPlace = -1074 := by decide
    rw [h1]
    congr 1
    omega
theorem signed_is {n p M : Nat} (h : p ≤ M) : signed false (n * 2 ^ p) (-(p : Int) - -(M : Int)).toNat = ((n * 2 ^ M : Nat) : Int) := by
  unfold signed
  rw [if_neg (by simp), Nat.shiftLeft_eq, Nat.mul_assoc, ← Nat.pow_add, show p + (-(p : Int) - -(M : Int)).toNat = M by omega]
theorem min_neg (p q : Nat) : min (-(p : Int)) (-(q : Int)) = -((max p q : Nat) : Int) := by omega
/-- How two stand to each other. -/
theorem order_F (a b : Nat) (ha : a < 2 ^ 53) (hb : b < 2 ^ 53) : double.order (F a) (F b) = some (compare a b) := by
  obtain ⟨p, hp⟩ := read_F a ha
  obtain ⟨q, hq⟩ := read_F b hb
  unfold Format.order
  rw [hp, hq]
  unfold Datum.order
  simp only [min_neg]
  rw [signed_is (Nat.le_max_left p q), signed_is (Nat.le_max_right p q)]
  have hpos := Nat.two_pow_pos (max p q)
  congr 1
  rcases Nat.lt_trichotomy a b with h | h | h
  · have h1 : a * 2 ^ max p q < b * 2 ^ max p q := Nat.mul_lt_mul_of_pos_right h hpos
    rw [Nat.compare_eq_lt.2 h]
    exact Int.compare_eq_lt.2 (by exact_mod_cast h1)
  · subst h
    rw [Nat.compare_eq_eq.2 rfl]
    exact Int.compare_eq_eq.2 rfl
  · have h1 : b * 2 ^ max p q < a * 2 ^ max p q := Nat.mul_lt_mul_of_pos_right h hpos
    rw [Nat.compare_eq_gt.2 h]
    exact Int.compare_eq_gt.2 (by exact_mod_cast h1)
theorem mul_F (a b : Nat) (ha : a < 2 ^ 53) (hb : b < 2 ^ 53) (hab : a * b < 2 ^ 53) : double.mul (F a) (F b) = some (F (a * b)) := by
  obtain ⟨p, hp⟩ := read_F a ha
  obtain ⟨q, hq⟩ := read_F b hb
  unfold Format.mul
  rw [hp, hq]
  simp only [Datum.product, Option.map_some, Format.write]
  rw [show a * 2 ^ p * (b * 2 ^ q) = a * b * 2 ^ (p + q) by rw [Nat.pow_add]; ac_rfl, show -(p : Int) + -(q : Int) = -((p + q : Nat) : Int) by omega]
  rw [show (false ^^ false) = false from rfl, nearest_any _ _ hab]
theorem add_F (a b : Nat) (ha : a < 2 ^ 53) (hb : b < 2 ^ 53) (hab : a + b < 2 ^ 53) : double.add (F a) (F b) = some (F (a + b)) := by
  obtain ⟨p, hp⟩ := read_F a ha
  obtain ⟨q, hq⟩ := read_F b hb
  unfold Format.add
  rw [hp, hq]
  simp only [Datum.sum, Option.map_some, Format.write, min_neg]
  rw [signed_is (Nat.le_max_left p q), signed_is (Nat.le_max_right p q)]
  have e : ((a * 2 ^ max p q : Nat) : Int) + ((b * 2 ^ max p q : Nat) : Int) = (((a + b) * 2 ^ max p q : Nat) : Int) := by rw [Nat.add_mul]; rfl
  rw [e, Int.natAbs_natCast]
  have hs : (if (((a + b) * 2 ^ max p q : Nat) : Int) = 0 then (false && false) else decide ((((a + b) * 2 ^ max p q : Nat) : Int) < 0)) = false := by
    split
    · rfl
    · exact decide_eq_false (Int.not_lt.2 (Int.natCast_nonneg _))
  rw [hs, nearest_any _ _ hab]
theorem sub_F0 (a : Nat) (ha : a < 2 ^ 53) : double.sub (F a) (F 0) = some (F a) := by
  obtain ⟨p, hp⟩ := read_F a ha
  obtain ⟨q, hq⟩ := read_F 0 (by decide)
  unfold Format.sub
  rw [hp, hq]
  simp only [Datum.opposite, Datum.sum, Option.map_some, Format.write, min_neg, Bool.not_false]
  rw [signed_is (Nat.le_max_left p q)]
  have e2 : signed true (0 * 2 ^ q) (-(q : Int) - -((max p q : Nat) : Int)).toNat = 0 := by unfold signed; simp
  rw [e2, Int.add_zero, Int.natAbs_natCast]
  have hs : (if ((a * 2 ^ max p q : Nat) : Int) = 0 then (false && true) else decide (((a * 2 ^ max p q : Nat) : Int) < 0)) = false := by
    split
    · rfl
    · exact decide_eq_false (Int.not_lt.2 (Int.natCast_nonneg _))
  rw [hs, nearest_any _ _ ha]
theorem integral_F (n : Nat) (hn : n < 2 ^ 53) : (double.read (F n)).integral .zero = .number false n 0 := by
  obtain ⟨p, hp⟩ := read_F n hn
  rw [hp]
  show Datum.number false (Toward.zero.cut false ((n * 2 ^ p) <<< (-(p : Int)).toNat) (- -(p : Int)).toNat) 0 = _
  rw [show (-(p : Int)).toNat = 0 by omega, show (- -(p : Int)).toNat = p by omega, Nat.shiftLeft_zero]
  congr 1
  refine cut_exact .zero n p ?_ (.inr rfl)
  by_cases h : n = 0
  · exact .inl h
  · exact .inr (by rw [log2_mul_pow n p h]; omega)
theorem toInt_F (n : Nat) (hn : n < 2 ^ 53) : (double.read (F n)).toInt .zero = some (n : Int) := by
  unfold Datum.toInt
  rw [integral_F n hn]
  simp [signed]
theorem val_F (n : Nat) (hn : n < 2 ^ 53) : floatToIntVal .f64 (F n) .i64 = some (n : Int) := by
  unfold floatToIntVal
  have : (FloatKind.f64.decode (F n)).toInt .zero = some (n : Int) := toInt_F n hn
  rw [this]
  have h1 : IntKind.i64.min ≤ (n : Int) ∧ (n : Int) ≤ IntKind.i64.max := by
    have a : IntKind.i64.min = -9223372036854775808 := by decide
    have b : IntKind.i64.max = 9223372036854775807 := by decide
    rw [a, b]; omega
  simp only [if_pos h1]
/-- A span, so many times as great. -/
theorem cmul_F (a b n : Nat) (hn : n < 2 ^ 53) (ha : a < 2 ^ 53) (hb : b < 2 ^ 53) (han : a * n < 2 ^ 53) (hbn : b * n < 2 ^ 53) : cMulBits (F a) (F b) (F n) (F 0) = some (F (a * n), F (b * n)) := by
  unfold cMulBits floatBits
  have z : (0 : Nat) < 2 ^ 53 := by decide
  have e1 : FloatKind.f64.format = double := rfl
  simp only [e1, mul_F a n ha hn han, mul_F b 0 hb z (by rw [Nat.mul_zero]; exact z), Option.bind_some, Nat.mul_zero, sub_F0 _ han, mul_F a 0 ha z (by rw [Nat.mul_zero]; exact z), mul_F b n hb hn hbn, add_F 0 (b * n) z hbn (by omega), Nat.zero_add]
theorem F_inj {a b : Nat} (ha : a < 2 ^ 53) (hb : b < 2 ^ 53) (h : F a = F b) : a = b := by
  have := toInt_F a ha
  rw [h, toInt_F b hb] at this
  have := Option.some.inj this
  omega
end Go.Proofs.Ytkmhabbpndcnkaa
