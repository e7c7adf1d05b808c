/-
  PARTS, one behind the other: FL P0 P1 P2 P3 Q0 Q1 Q2 Q3 Q4 M0 M1 M2 M3 R0 R1 R2 R3 R4 M4 M5 M6.
-/
import Derived.Test.YtkmhabbpndcnkaaWc4
import Derived.Laws.ComplexArith
import Derived.Test.YtkmhabbpndcnkaaProg
import Derived.IntWalk
/-
  PART: floats that are whole numbers.
-/
namespace Go.Proofs.Ytkmhabbpndcnkaa
open Ieee
/-- A whole number as a float. -/
theorem F_ex : ∃ f : Nat → Nat, ∀ n : Nat, f n = FloatKind.f64.nearest (n : Int) := ⟨_, fun _ => rfl⟩
noncomputable def F : Nat → Nat := Classical.choose F_ex
theorem F_def (n : Nat) : F n = FloatKind.f64.nearest (n : Int) := Classical.choose_spec F_ex n
theorem F_eq (n : Nat) : F n = double.nearest false n 0 := by
  rw [F_def]
  unfold FloatKind.nearest FloatKind.encode
  have : decide ((n : Int) < 0) = false := by simp
  rw [this, Int.natAbs_natCast]
  rfl
theorem F_zero : F 0 = 0 := by rw [F_eq]; decide
theorem log2_mul_pow (n k : Nat) (h : n ≠ 0) : (n * 2 ^ k).log2 = n.log2 + k := by
  refine (Nat.log2_eq_iff (Nat.mul_ne_zero h (Nat.pos_iff_ne_zero.1 (Nat.two_pow_pos k)))).2 ⟨?_, ?_⟩
  · rw [Nat.pow_add]; exact Nat.mul_le_mul_right _ (Nat.log2_self_le h)
  · rw [show n.log2 + k + 1 = n.log2 + 1 + k by omega, Nat.pow_add]
    exact Nat.mul_lt_mul_of_pos_right Nat.lt_log2_self (Nat.two_pow_pos k)
theorem log2_le (n : Nat) (hn : n < 2 ^ 53) : n.log2 ≤ 52 := by
  by_cases h : n = 0
  · subst h; decide
  · have := (Nat.log2_lt h).2 hn; omega
theorem cut_exact (way : Toward) (m d : Nat) (hd : m = 0 ∨ d ≤ (m * 2 ^ d).log2) (hw : way = .even ∨ way = .zero) : way.cut false (m * 2 ^ d) d = m := by
  unfold Toward.cut
  by_cases h0 : m = 0
  · subst h0
    rcases hw with rfl | rfl
    · simp
    · simp
  · have hd := hd.resolve_left h0
    rw [Nat.min_eq_left (by omega)]
    have hg : 1 <<< d = 2 ^ d := by rw [Nat.one_shiftLeft]
    rw [hg]
    have e1 : m * 2 ^ d / 2 ^ d = m := Nat.mul_div_cancel _ (Nat.two_pow_pos d)
    have e2 : m * 2 ^ d % 2 ^ d = 0 := Nat.mul_mod_left _ _
    have hp := Nat.two_pow_pos d
    rcases hw with rfl | rfl
    · simp only [e1, e2]
      have h2 : (2 ^ d == 2 * 0) = false := by simp
      simp [h2]
    · simp [e1]
/-- The rung of a whole number. -/
def rungF (n : Nat) : Nat := (n.log2 + 1022) * 2 ^ 52 + n * 2 ^ (52 - n.log2)
set_option maxRecDepth 20000
theorem mant_lt (n : Nat) (h : n ≠ 0) (hn : n < 2 ^ 53) : 2 ^ 52 ≤ n * 2 ^ (52 - n.log2) ∧ n * 2 ^ (52 - n.log2) < 2 ^ 53 := by
  have hl := log2_le n hn
  constructor
  · calc 2 ^ 52 = 2 ^ n.log2 * 2 ^ (52 - n.log2) := by rw [← Nat.pow_add]; congr 1; omega
      _ ≤ n * 2 ^ (52 - n.log2) := Nat.mul_le_mul_right _ (Nat.log2_self_le h)
  · calc n * 2 ^ (52 - n.log2) < 2 ^ (n.log2 + 1) * 2 ^ (52 - n.log2) := Nat.mul_lt_mul_of_pos_right Nat.lt_log2_self (Nat.two_pow_pos _)
      _ = 2 ^ 53 := by rw [← Nat.pow_add]; congr 1; omega
/-- What is written of a whole number, however it is told. -/
theorem nearest_shift (n k : Nat) (h : n ≠ 0) (hn : n < 2 ^ 53) : double.nearest false (n * 2 ^ k) (-(k : Int)) = rungF n := by
  have hl := log2_le n hn
  have hm : n * 2 ^ k ≠ 0 := Nat.mul_ne_zero h (Nat.pos_iff_ne_zero.1 (Nat.two_pow_pos k))
  obtain ⟨m1, m2⟩ := mant_lt n h hn
  unfold Format.nearest
  rw [if_neg hm, log2_mul_pow n k h]
  have hlast : max (-(k : Int) + ((n.log2 + k : Nat) : Int) - ((double.fractionBits : Nat) : Int)) double.leastPlace = (n.log2 : Int) - 52 := by
    have h1 : double.leastPlace = -1074 := by decide
    have h2 : double.fractionBits = 52 := rfl
    rw [h1, h2]; omega
  simp only [hlast]
  have hkept : Toward.even.cut false ((n * 2 ^ k) <<< (-(k : Int) - ((n.log2 : Int) - 52)).toNat) ((n.log2 : Int) - 52 - -(k : Int)).toNat = n * 2 ^ (52 - n.log2) := by
    by_cases hk : k + n.log2 ≤ 52
    · rw [show (-(k : Int) - ((n.log2 : Int) - 52)).toNat = 52 - n.log2 - k by omega, show ((n.log2 : Int) - 52 - -(k : Int)).toNat = 0 by omega]
      rw [Nat.shiftLeft_eq, Nat.mul_assoc, ← Nat.pow_add, show k + (52 - n.log2 - k) = 52 - n.log2 by omega]
      have := cut_exact .even (n * 2 ^ (52 - n.log2)) 0 (.inr (Nat.zero_le _)) (.inl rfl)
      simpa using this
    · rw [show (-(k : Int) - ((n.log2 : Int) - 52)).toNat = 0 by omega]
      obtain ⟨d, hd⟩ : ∃ d, d = ((n.log2 : Int) - 52 - -(k : Int)).toNat := ⟨_, rfl⟩
      rw [← hd, Nat.shiftLeft_zero]
      have e : n * 2 ^ k = n * 2 ^ (52 - n.log2) * 2 ^ d := by
        rw [Nat.mul_assoc, ← Nat.pow_add]; congr 2; omega
      rw [e]
      refine cut_exact .even _ d (.inr ?_) (.inl rfl)
      rw [← e, log2_mul_pow n k h]; omega
  rw [hkept]
  have h3 : ((n.log2 : Int) - 52 - double.leastPlace).toNat = n.log2 + 1022 := by
    have h1 : double.leastPlace = -1074 := by decide
    rw [h1]; omega
  have h4 : double.binade = 2 ^ 52 := rfl
  have h5 : double.infRung = 2047 * 2 ^ 52 := by decide
  rw [h3, h4, h5]
  have : (n.log2 + 1022) * 2 ^ 52 + n * 2 ^ (52 - n.log2) ≤ 2047 * 2 ^ 52 := by
    have h6 : (n.log2 + 1022) * 2 ^ 52 ≤ 1074 * 2 ^ 52 := Nat.mul_le_mul_right _ (by omega)
    have h7 := Nat.le_of_lt m2
    exact Nat.le_trans (Nat.add_le_add h6 h7) (by decide)
  rw [Nat.min_eq_left this]
  simp only [Format.word, rungF, Bool.false_eq_true, if_false]
theorem nearest_any (n k : Nat) (hn : n < 2 ^ 53) : double.nearest false (n * 2 ^ k) (-(k : Int)) = F n := by
  by_cases h : n = 0
  · subst h; rw [Nat.zero_mul, F_zero]; rfl
  · rw [nearest_shift n k h hn, F_eq]
    have := nearest_shift n 0 h hn
    simp only [Nat.pow_zero, Nat.mul_one] at this
    exact this.symm
/-- A datum that is a whole number. -/
def Is (d : Datum) (n : Nat) : Prop := ∃ p : Nat, d = .number false (n * 2 ^ p) (-(p : Int))
theorem read_F (n : Nat) (hn : n < 2 ^ 53) : Is (double.read (F n)) n := by
  by_cases h : n = 0
  · subst h
    obtain ⟨p, hp⟩ : ∃ p : Nat, (p : Int) = 1074 := ⟨1074, rfl⟩
    refine ⟨p, ?_⟩
    rw [F_zero, Nat.zero_mul, hp]
    decide
  · have hl := log2_le n hn
    obtain ⟨m1, m2⟩ := mant_lt n h hn
    refine ⟨52 - n.log2, ?_⟩
    have hF : F n = rungF n := by
      have := nearest_shift n 0 h hn
      simp only [Nat.pow_zero, Nat.mul_one] at this
      rw [F_eq]; exact this
    rw [hF]
    unfold Format.read
    have hw : double.signWeight = 2 ^ 63 := rfl
    have hb : double.binade = 2 ^ 52 := rfl
    have hi : double.infRung = 2047 * 2 ^ 52 := by decide
    have hle : (n.log2 + 1022) * 2 ^ 52 ≤ 1074 * 2 ^ 52 := Nat.mul_le_mul_right _ (by omega)
    have hge : 1022 * 2 ^ 52 ≤ (n.log2 + 1022) * 2 ^ 52 := Nat.mul_le_mul_right _ (by omega)
    have hlt : rungF n < 2047 * 2 ^ 52 := by unfold rungF; omega
    have hnb : ¬ rungF n < 2 ^ 52 := by unfold rungF; omega
    have e1 : rungF n / 2 ^ 63 = 0 := Nat.div_eq_of_lt (by omega)
    have e2 : rungF n % 2 ^ 63 = rungF n := Nat.mod_eq_of_lt (by omega)
    obtain ⟨x, hx⟩ : ∃ x, n * 2 ^ (52 - n.log2) = 2 ^ 52 + x := ⟨n * 2 ^ (52 - n.log2) - 2 ^ 52, by omega⟩
    have e3 : rungF n = (n.log2 + 1023) * 2 ^ 52 + x := by unfold rungF; rw [hx]; omega
    have hx2 : x < 2 ^ 52 := by omega
    have e4 : rungF n % 2 ^ 52 = x := by rw [e3, Nat.add_comm, Nat.add_mul_mod_self_right]; exact Nat.mod_eq_of_lt hx2
    have e5 : rungF n / 2 ^ 52 = n.log2 + 1023 := by
      rw [e3, Nat.add_comm, Nat.add_mul_div_right _ _ (Nat.two_pow_pos 52), Nat.div_eq_of_lt hx2]; omega
    rw [hw, hb, hi]
    simp only [e1, e2, e4, e5, if_neg hnb, if_pos hlt, ← hx]
    have h1 : double.leastPlace = -1074 := by decide
    rw [h1]
    congr 1
    omega
theorem signed_is {n p M : Nat} (h : p ≤ M) : signed false (n * 2 ^ p) (-(p : Int) - -(M : Int)).toNat = ((n * 2 ^ M : Nat) : Int) := by
  unfold signed
  rw [if_neg (by simp), Nat.shiftLeft_eq, Nat.mul_assoc, ← Nat.pow_add, show p + (-(p : Int) - -(M : Int)).toNat = M by omega]
theorem min_neg (p q : Nat) : min (-(p : Int)) (-(q : Int)) = -((max p q : Nat) : Int) := by omega
/-- How two stand to each other. -/
theorem order_F (a b : Nat) (ha : a < 2 ^ 53) (hb : b < 2 ^ 53) : double.order (F a) (F b) = some (compare a b) := by
  obtain ⟨p, hp⟩ := read_F a ha
  obtain ⟨q, hq⟩ := read_F b hb
  unfold Format.order
  rw [hp, hq]
  unfold Datum.order
  simp only [min_neg]
  rw [signed_is (Nat.le_max_left p q), signed_is (Nat.le_max_right p q)]
  have hpos := Nat.two_pow_pos (max p q)
  congr 1
  rcases Nat.lt_trichotomy a b with h | h | h
  · have h1 : a * 2 ^ max p q < b * 2 ^ max p q := Nat.mul_lt_mul_of_pos_right h hpos
    rw [Nat.compare_eq_lt.2 h]
    exact Int.compare_eq_lt.2 (by exact_mod_cast h1)
  · subst h
    rw [Nat.compare_eq_eq.2 rfl]
    exact Int.compare_eq_eq.2 rfl
  · have h1 : b * 2 ^ max p q < a * 2 ^ max p q := Nat.mul_lt_mul_of_pos_right h hpos
    rw [Nat.compare_eq_gt.2 h]
    exact Int.compare_eq_gt.2 (by exact_mod_cast h1)
theorem mul_F (a b : Nat) (ha : a < 2 ^ 53) (hb : b < 2 ^ 53) (hab : a * b < 2 ^ 53) : double.mul (F a) (F b) = some (F (a * b)) := by
  obtain ⟨p, hp⟩ := read_F a ha
  obtain ⟨q, hq⟩ := read_F b hb
  unfold Format.mul
  rw [hp, hq]
  simp only [Datum.product, Option.map_some, Format.write]
  rw [show a * 2 ^ p * (b * 2 ^ q) = a * b * 2 ^ (p + q) by rw [Nat.pow_add]; ac_rfl, show -(p : Int) + -(q : Int) = -((p + q : Nat) : Int) by omega]
  rw [show (false ^^ false) = false from rfl, nearest_any _ _ hab]
theorem add_F (a b : Nat) (ha : a < 2 ^ 53) (hb : b < 2 ^ 53) (hab : a + b < 2 ^ 53) : double.add (F a) (F b) = some (F (a + b)) := by
  obtain ⟨p, hp⟩ := read_F a ha
  obtain ⟨q, hq⟩ := read_F b hb
  unfold Format.add
  rw [hp, hq]
  simp only [Datum.sum, Option.map_some, Format.write, min_neg]
  rw [signed_is (Nat.le_max_left p q), signed_is (Nat.le_max_right p q)]
  have e : ((a * 2 ^ max p q : Nat) : Int) + ((b * 2 ^ max p q : Nat) : Int) = (((a + b) * 2 ^ max p q : Nat) : Int) := by rw [Nat.add_mul]; rfl
  rw [e, Int.natAbs_natCast]
  have hs : (if (((a + b) * 2 ^ max p q : Nat) : Int) = 0 then (false && false) else decide ((((a + b) * 2 ^ max p q : Nat) : Int) < 0)) = false := by
    split
    · rfl
    · exact decide_eq_false (Int.not_lt.2 (Int.natCast_nonneg _))
  rw [hs, nearest_any _ _ hab]
theorem sub_F0 (a : Nat) (ha : a < 2 ^ 53) : double.sub (F a) (F 0) = some (F a) := by
  obtain ⟨p, hp⟩ := read_F a ha
  obtain ⟨q, hq⟩ := read_F 0 (by decide)
  unfold Format.sub
  rw [hp, hq]
  simp only [Datum.opposite, Datum.sum, Option.map_some, Format.write, min_neg, Bool.not_false]
  rw [signed_is (Nat.le_max_left p q)]
  have e2 : signed true (0 * 2 ^ q) (-(q : Int) - -((max p q : Nat) : Int)).toNat = 0 := by unfold signed; simp
  rw [e2, Int.add_zero, Int.natAbs_natCast]
  have hs : (if ((a * 2 ^ max p q : Nat) : Int) = 0 then (false && true) else decide (((a * 2 ^ max p q : Nat) : Int) < 0)) = false := by
    split
    · rfl
    · exact decide_eq_false (Int.not_lt.2 (Int.natCast_nonneg _))
  rw [hs, nearest_any _ _ ha]
theorem integral_F (n : Nat) (hn : n < 2 ^ 53) : (double.read (F n)).integral .zero = .number false n 0 := by
  obtain ⟨p, hp⟩ := read_F n hn
  rw [hp]
  show Datum.number false (Toward.zero.cut false ((n * 2 ^ p) <<< (-(p : Int)).toNat) (- -(p : Int)).toNat) 0 = _
  rw [show (-(p : Int)).toNat = 0 by omega, show (- -(p : Int)).toNat = p by omega, Nat.shiftLeft_zero]
  congr 1
  refine cut_exact .zero n p ?_ (.inr rfl)
  by_cases h : n = 0
  · exact .inl h
  · exact .inr (by rw [log2_mul_pow n p h]; omega)
theorem toInt_F (n : Nat) (hn : n < 2 ^ 53) : (double.read (F n)).toInt .zero = some (n : Int) := by
  unfold Datum.toInt
  rw [integral_F n hn]
  simp [signed]
theorem val_F (n : Nat) (hn : n < 2 ^ 53) : floatToIntVal .f64 (F n) .i64 = some (n : Int) := by
  unfold floatToIntVal
  have : (FloatKind.f64.decode (F n)).toInt .zero = some (n : Int) := toInt_F n hn
  rw [this]
  have h1 : IntKind.i64.min ≤ (n : Int) ∧ (n : Int) ≤ IntKind.i64.max := by
    have a : IntKind.i64.min = -9223372036854775808 := by decide
    have b : IntKind.i64.max = 9223372036854775807 := by decide
    rw [a, b]; omega
  simp only [if_pos h1]
/-- A span, so many times as great. -/
theorem cmul_F (a b n : Nat) (hn : n < 2 ^ 53) (ha : a < 2 ^ 53) (hb : b < 2 ^ 53) (han : a * n < 2 ^ 53) (hbn : b * n < 2 ^ 53) : cMulBits (F a) (F b) (F n) (F 0) = some (F (a * n), F (b * n)) := by
  unfold cMulBits floatBits
  have z : (0 : Nat) < 2 ^ 53 := by decide
  have e1 : FloatKind.f64.format = double := rfl
  simp only [e1, mul_F a n ha hn han, mul_F b 0 hb z (by rw [Nat.mul_zero]; exact z), Option.bind_some, Nat.mul_zero, sub_F0 _ han, mul_F a 0 ha z (by rw [Nat.mul_zero]; exact z), mul_F b n hb hn hbn, add_F 0 (b * n) z hbn (by omega), Nat.zero_add]
theorem F_inj {a b : Nat} (ha : a < 2 ^ 53) (hb : b < 2 ^ 53) (h : F a = F b) : a = b := by
  have := toInt_F a ha
  rw [h, toInt_F b hb] at this
  have := Option.some.inj this
  omega
end Go.Proofs.Ytkmhabbpndcnkaa

/-
  PART: the program fits the evaluator; contracts of View's functions.
-/
namespace Go.Proofs.Ytkmhabbpndcnkaa
open Go.RowKit
theorem fitTry : Fit Try.prog := ⟨by kernel_rfl, by kernel_rfl⟩
end Go.Proofs.Ytkmhabbpndcnkaa

/-
  PART: contracts of View's functions, as functions of times.
-/
namespace Go.Proofs.Ytkmhabbpndcnkaa
open Go.RowKit
/-- The answers alone. -/
def Tree.ans : Tree (AV × St) → Tree AV
  | .ret b => .ret b.1
  | .br c t e => .br c t.ans e.ans
  | .side p t => .side p t.ans
  | .fail => .fail
theorem Tree.ans_hit : ∀ {t : Tree (AV × St)} {a : AV}, t.ans.hit a → ∃ s, t.hit (a, s)
  | .ret b, a, h => by cases h; exact ⟨b.2, rfl⟩
  | .br _ _ _, a, h => by
    rcases h with ⟨h1, h2⟩ | ⟨h1, h2⟩
    · obtain ⟨s, k⟩ := Tree.ans_hit h2; exact ⟨s, .inl ⟨h1, k⟩⟩
    · obtain ⟨s, k⟩ := Tree.ans_hit h2; exact ⟨s, .inr ⟨h1, k⟩⟩
  | .side _ t, a, h => by
    obtain ⟨s, k⟩ := Tree.ans_hit (t := t) h.2; exact ⟨s, h.1, k⟩
  | .fail, a, h => h.elim
theorem pure_ans {cx : Cx} (hc : CtrOk cx) (hfit : Fit cx.P) {n f : Nat} {args : List AV} {a : AV} (h : ((evs cx n).call f args .nil).ans.hit a) {d : Nat} (hp : plainA d a = true) : PureOk cx.P f args a :=
  let ⟨_, k⟩ := Tree.ans_hit h
  pure_of (evs_ok hc hfit n).calls k hp
theorem PureOk.pre {P : Program} {f : Nat} {args args' : List AV} {a : AV} (h : PureOk P f args' a) (ha : ∀ E vs, Reps E args vs → Reps E args' vs) : PureOk P f args a :=
  fun rr E w vals K hd hf hargs hK => h rr E w vals K hd hf (ha E _ hargs) hK
def iv (z : Int) : AV := .v (.int .i64 z)
def ivs (n : Nat) (f : Nat → Int) : List AV := (List.range n).map fun i => iv (f i)
def intC : AV → Option Int
  | .v (.int .i64 z) => some z
  | .lit (.int .i64 z) => some z
  | _ => none
def intsC : List AV → Option (List Int)
  | [] => some []
  | a :: l => match intC a, intsC l with
    | some z, some zs => some (z :: zs)
    | _, _ => none
/-- So many times. -/
def timesC (n : Nat) (l : List AV) : Option (Nat → Int) := match intsC l with
  | some zs => match Nat.beq zs.length n with
    | true => some fun i => zs.getD i 0
    | false => none
  | none => none
section
variable {E : Env}
theorem intC_ok {a : AV} {z : Int} (h : intC a = some z) {v : Value} (hv : Rep E a v) : Rep E (iv z) v := by
  unfold intC at h
  split at h
  · cases h; exact hv
  · cases h; cases hv; exact .v _ rfl
  · cases h
theorem intsC_ok : ∀ {l : List AV} {zs : List Int}, intsC l = some zs → ∀ {vs : List Value}, Reps E l vs → Reps E (zs.map iv) vs
  | [], zs, h, vs, hv => by cases h; cases hv; exact .nil
  | a :: l, zs, h, vs, hv => by
    unfold intsC at h
    split at h
    · rename_i z zs' h1 h2
      cases h
      cases hv with
      | cons hv ht => exact .cons (intC_ok h1 hv) (intsC_ok h2 ht)
    · cases h
theorem timesC_ok {n : Nat} {l : List AV} {f : Nat → Int} (h : timesC n l = some f) {vs : List Value} (hv : Reps E l vs) : Reps E (ivs n f) vs := by
  unfold timesC at h
  split at h
  · rename_i zs hz
    split at h
    · rename_i hb
      cases h
      have hn := Nat.eq_of_beq_eq_true hb
      subst hn
      have := intsC_ok hz hv
      have he : zs.map iv = ivs zs.length fun i => zs.getD i 0 := by
        apply List.ext_getElem
        · simp [ivs]
        · intro i h1 h2
          simp only [List.length_map] at h1
          simp [ivs, List.getD, h1]
      rwa [he] at this
    · cases h
  · cases h
end
noncomputable def cx0 : Cx := ⟨Try.prog, fun _ _ _ => none, fun _ _ => none⟩
theorem cx0_ok : CtrOk cx0 := ⟨fun _ _ _ _ h => (by cases h), fun _ _ _ _ _ _ h => (by cases h)⟩
def joinF (f g : Nat → Int) : Nat → Int := fun i => if g i > f i then g i else f i
theorem pure_hit {f : Nat} {args : List AV} {t : Tree AV} {a : AV} (h : ((evs cx0 60).call f args .nil).ans = t) (ha : t.hit a) (hp : plainA 4 a = true) : PureOk Try.prog f args a :=
  pure_ans (cx := cx0) cx0_ok fitTry (n := 60) (by rw [h]; exact ha) hp
theorem join_pure (f g : Nat → Int) : PureOk Try.prog 14 [.agg (ivs 8 f), .sl 1 8 (fun _ => ivs 8 g) true false] (.agg (ivs 8 (joinF f g))) :=
  pure_hit (t := .ret (.agg (ivs 8 (joinF f g)))) (by kernel_rfl) rfl (by kernel_rfl)
theorem Rep.tup_inv {E : Env} {l : List AV} {v : Value} (h : Rep E (.tup l) v) : ∃ vs : List Value, v = .tuple vs.toArray ∧ Reps E l vs := by
  cases h with | @tup _ cs h => exact ⟨cs.toList, by simp, h⟩
theorem Rep.agg_inv {E : Env} {l : List AV} {v : Value} (h : Rep E (.agg l) v) : ∃ vs : List Value, v = .agg vs.toArray ∧ Reps E l vs ∧ One vs := by
  cases h with | @agg _ cs h ho => exact ⟨cs.toList, by simp, h, ho⟩
theorem Rep.tup_mk {E : Env} {l : List AV} {vs : List Value} (h : Reps E l vs) : Rep E (.tup l) (.tuple vs.toArray) := .tup (by simpa using h)
theorem Rep.agg_mk {E : Env} {l : List AV} {vs : List Value} (h : Reps E l vs) (ho : One vs) : Rep E (.agg l) (.agg vs.toArray) := .agg (by simpa using h) (by simpa using ho)
def decL : List (Nat × Bool) → Nat → Option Bool
  | [], _ => none
  | (t, b) :: l, d => match Nat.beq t d with
    | true => some b
    | false => decL l d
end Go.Proofs.Ytkmhabbpndcnkaa

/-
  PART: contracts of View.Within, May, At, Flat.
-/
namespace Go.Proofs.Ytkmhabbpndcnkaa
open Go.RowKit
theorem joinF_max (f g : Nat → Int) (i : Nat) : joinF f g i = max (f i) (g i) := by unfold joinF; split <;> omega
def eq4 (f g : Nat → Int) (o : Nat) : Bool := f o == g o && f (o + 1) == g (o + 1) && f (o + 2) == g (o + 2) && f (o + 3) == g (o + 3)
theorem within_pure0 (f g : Nat → Int) : PureOk Try.prog 15 [.agg (ivs 8 f), .agg (ivs 8 g)] (.v (.bool (eq4 (joinF f g) g 0 && eq4 (joinF f g) g 4))) :=
  pure_hit (t := .ret (.v (.bool (eq4 (joinF f g) g 0 && eq4 (joinF f g) g 4)))) (by kernel_rfl) rfl (by kernel_rfl)
def withinB (f g : Nat → Int) : Bool := (List.range 8).all fun i => decide (f i ≤ g i)
theorem within_eq (f g : Nat → Int) : (eq4 (joinF f g) g 0 && eq4 (joinF f g) g 4) = withinB f g := by
  rw [Bool.eq_iff_iff]
  unfold eq4 withinB
  simp only [Bool.and_eq_true, beq_iff_eq, decide_eq_true_eq, joinF_max, Nat.zero_add, Nat.reduceAdd, List.all_eq_true, List.mem_range]
  constructor
  · intro h i hi
    match i, hi with
    | 0, _ => omega
    | 1, _ => omega
    | 2, _ => omega
    | 3, _ => omega
    | 4, _ => omega
    | 5, _ => omega
    | 6, _ => omega
    | 7, _ => omega
  · intro h
    have h0 := h 0 (by omega)
    have h1 := h 1 (by omega)
    have h2 := h 2 (by omega)
    have h3 := h 3 (by omega)
    have h4 := h 4 (by omega)
    have h5 := h 5 (by omega)
    have h6 := h 6 (by omega)
    have h7 := h 7 (by omega)
    omega
theorem within_pure (f g : Nat → Int) : PureOk Try.prog 15 [.agg (ivs 8 f), .agg (ivs 8 g)] (.v (.bool (withinB f g))) := within_eq f g ▸ within_pure0 f g
def mayB (f : Nat → Int) : Bool := (List.range 4).all fun i => decide (0 ≤ f i ∧ f i ≤ f (i + 4))
def mayE (f : Nat → Int) : Bool := if (eq4 (joinF (fun _ => 0) f) f 0 && eq4 (joinF (fun _ => 0) f) f 4) = true then eq4 (fun i => if f (i + 4) > f i then f (i + 4) else f i) (fun i => f (i + 4)) 0 else false
theorem may_pure0 (f : Nat → Int) : PureOk Try.prog 16 [.agg (ivs 8 f)] (.v (.bool (mayE f))) :=
  pure_hit (t := .ret (.v (.bool (mayE f)))) (by kernel_rfl) rfl (by kernel_rfl)
theorem may_eq (f : Nat → Int) : mayE f = mayB f := by
  rw [Bool.eq_iff_iff]
  unfold mayE
  rw [within_eq]
  unfold withinB mayB eq4
  simp only [List.all_eq_true, List.mem_range, decide_eq_true_eq]
  constructor
  · intro h i hi
    split at h
    · rename_i h1
      simp only [Bool.and_eq_true, beq_iff_eq, Nat.zero_add, Nat.reduceAdd] at h
      have := h1 i (by omega)
      match i, hi with
      | 0, _ => simp only [Nat.zero_add]; omega
      | 1, _ => simp only [Nat.reduceAdd]; omega
      | 2, _ => simp only [Nat.reduceAdd]; omega
      | 3, _ => simp only [Nat.reduceAdd]; omega
    · cases h
  · intro h
    have h0 := h 0 (by omega)
    have h1 := h 1 (by omega)
    have h2 := h 2 (by omega)
    have h3 := h 3 (by omega)
    simp only [Nat.zero_add, Nat.reduceAdd] at h0 h1 h2 h3
    rw [if_pos]
    · simp only [Bool.and_eq_true, beq_iff_eq, Nat.zero_add, Nat.reduceAdd]; omega
    · intro i hi
      match i, hi with
      | 0, _ => omega
      | 1, _ => omega
      | 2, _ => omega
      | 3, _ => omega
      | 4, _ => omega
      | 5, _ => omega
      | 6, _ => omega
      | 7, _ => omega
theorem may_pure (f : Nat → Int) : PureOk Try.prog 16 [.agg (ivs 8 f)] (.v (.bool (mayB f))) := may_eq f ▸ may_pure0 f
/-- No such location or time. -/
def awayB (l t : Int) : Bool := if decide (l < 0) = true then true else if decide (l ≥ 4) = true then true else decide (t < 0)
def atE (l t : Int) (b : Bool) : Nat → Int := fun i => if awayB l t = true then 0 else if i < 4 then (if b = true then (if decide (l = ((i : Nat) : Int)) = true then t else 0) else 0) else if b = true then (if decide (l = ((i - 4 : Nat) : Int)) = true then t else 0) else if decide (l = ((i - 4 : Nat) : Int)) = true then t else 0
theorem at_pure0 (l t : Int) (b : Bool) : PureOk Try.prog 19 [iv l, iv t, .v (.bool b)] (.agg (ivs 8 (atE l t b))) :=
  pure_hit (t := .side (awayB l t = false → (0 ≤ l ∧ l < 4) ∧ (b = true → 0 ≤ l ∧ l < 4)) (.ret (.agg (ivs 8 (atE l t b))))) (by kernel_rfl)
    ⟨fun h => by
      unfold awayB at h
      have : 0 ≤ l ∧ l < 4 := by
        split at h
        · cases h
        · split at h
          · cases h
          · simp_all
      exact ⟨this, fun _ => this⟩, rfl⟩ (by kernel_rfl)
end Go.Proofs.Ytkmhabbpndcnkaa

/-
  PART: the table of View's contracts.
-/
namespace Go.Proofs.Ytkmhabbpndcnkaa
open Go.RowKit
def boolC : AV → Option Bool
  | .v (.bool b) => some b
  | .lit (.bool b) => some b
  | _ => none
def viewC : AV → Option (Nat → Int)
  | .agg l => timesC 8 l
  | _ => none
def tabV (f : Nat) (args : List AV) : Option (Tree AV) := match f, args with
  | 14, [a, .sl n k get _ _] => match Nat.beq n 1 && Nat.beq k 8 with
    | true => match viewC a, timesC 8 (get 0) with
      | some x, some y => some (.ret (.agg (ivs 8 (joinF x y))))
      | _, _ => none
    | false => none
  | 15, [a, b] => match viewC a, viewC b with
    | some x, some y => some (.ret (.v (.bool (withinB x y))))
    | _, _ => none
  | 16, [a] => match viewC a with
    | some x => some (.ret (.v (.bool (mayB x))))
    | none => none
  | 19, [a, b, c] => match intC a, intC b, boolC c with
    | some l, some t, some p => some (.ret (.agg (ivs 8 (atE l t p))))
    | _, _, _ => none
  | _, _ => none
theorem boolC_ok {E : Env} {a : AV} {b : Bool} (h : boolC a = some b) {v : Value} (hv : Rep E a v) : Rep E (.v (.bool b)) v := by
  unfold boolC at h
  split at h
  · cases h; exact hv
  · cases h; cases hv; exact .v _ rfl
  · cases h
theorem viewC_ok {E : Env} {a : AV} {f : Nat → Int} (h : viewC a = some f) {v : Value} (hv : Rep E a v) : Rep E (.agg (ivs 8 f)) v := by
  unfold viewC at h
  split at h
  · cases hv with
    | agg hr ho => exact .agg (timesC_ok h hr) ho
  · cases h
theorem tabV_ok : TabOk Try.prog tabV := by
  intro f args t a ht hh
  unfold tabV at ht
  split at ht
  · rename_i a0 n k get nl full
    split at ht
    · rename_i hb
      simp only [Bool.and_eq_true] at hb
      obtain rfl := Nat.eq_of_beq_eq_true hb.1
      obtain rfl := Nat.eq_of_beq_eq_true hb.2
      split at ht
      · rename_i x y hx hy
        cases ht; cases hh
        refine (join_pure x y).pre fun E vs h => ?_
        cases h with | cons h t => cases t with | cons h2 t => cases t with | nil =>
        refine .cons (viewC_ok hx h) (.cons ?_ .nil)
        cases h2 with
        | slNil hn => cases hn
        | slEmp hn _ => cases hn
        | sl q1 q2 q3 q4 q5 q6 => exact .sl q1 q2 (fun h => by cases h) q4 (fun i hi => by
            obtain rfl : i = 0 := by omega
            exact timesC_ok hy (q5 0 hi)) q6
      · cases ht
    · cases ht
  · rename_i a0 b0
    split at ht
    · rename_i x y hx hy
      cases ht; cases hh
      refine (within_pure x y).pre fun E vs h => ?_
      cases h with | cons h t => cases t with | cons h2 t => cases t with | nil =>
      exact .cons (viewC_ok hx h) (.cons (viewC_ok hy h2) .nil)
    · cases ht
  · rename_i a0
    split at ht
    · rename_i x hx
      cases ht; cases hh
      refine (may_pure x).pre fun E vs h => ?_
      cases h with | cons h t => cases t with | nil =>
      exact .cons (viewC_ok hx h) .nil
    · cases ht
  · rename_i a0 b0 c0
    split at ht
    · rename_i l t' p hl ht' hp
      cases ht; cases hh
      refine (at_pure0 l t' p).pre fun E vs h => ?_
      cases h with | cons h t => cases t with | cons h2 t => cases t with | cons h3 t => cases t with | nil =>
      exact .cons (intC_ok hl h) (.cons (intC_ok ht' h2) (.cons (boolC_ok hp h3) .nil))
    · cases ht
  · cases ht
noncomputable def cxV : Cx := ⟨Try.prog, ctrOf tabV, fun _ _ => none⟩
theorem cxV_ok : CtrOk cxV := ctrOf_ok tabV_ok
end Go.Proofs.Ytkmhabbpndcnkaa

/-
  PART: spans: times as floats; contracts of Trunc and time.
-/
namespace Go.Proofs.Ytkmhabbpndcnkaa
open Go.RowKit
noncomputable section
def IsF (x : Nat) : Prop := ∃ n : Nat, n ≤ 2 ^ 40 ∧ x = F n
/-- The whole number of a float. -/
def unF (x : Nat) : Nat := (((Ieee.double.read x).toInt .zero).getD 0).toNat
theorem lt53 {n : Nat} (h : n ≤ 2 ^ 40) : n < 2 ^ 53 := Nat.lt_of_le_of_lt h (by decide)
theorem unF_F {n : Nat} (h : n ≤ 2 ^ 40) : unF (F n) = n := by
  unfold unF
  rw [toInt_F n (lt53 h)]
  rfl
theorem toIntegral_F (x : Nat) (s : Bool) (m : Nat) (e : Int) (h : FloatKind.f64.decode x = .number s m e) : Extern.MathFloor.toIntegral "math.archTrunc" .zero #[.float .f64 x] = pure (.float .f64 (FloatKind.f64.encode ((Ieee.Datum.number s m e).integral .zero))) := by
  show Extern.MathFloor.toIntegral.match_1 (motive := fun _ => Sem Value) (FloatKind.f64.decode x) _ _ = _
  rw [h]
theorem trunc_ext (n : Nat) (h : n ≤ 2 ^ 40) : semVal Try.prog (callFunc 112 #[.float .f64 (F n)]) = some (.value (.float .f64 (F n))) := by
  have e : semVal Try.prog (callFunc 112 #[.float .f64 (F n)]) = semVal Try.prog (do let v ← Extern.MathFloor.toIntegral "math.archTrunc" .zero #[.float .f64 (F n)]; pure (.value v)) := by kernel_rfl
  rw [e]
  have hi := integral_F n (lt53 h)
  obtain ⟨p, hp⟩ := read_F n (lt53 h)
  rw [hp] at hi
  rw [toIntegral_F (F n) _ _ _ hp, hi]
  have : FloatKind.f64.encode (.number false n 0) = F n := by rw [F_eq]; rfl
  rw [this]
  rfl
theorem ext_pure {f : Nat} {args : List Value} {v : Value} (hone : One args) (h : semVal Try.prog (callFunc f args.toArray) = some (.value v)) (hv : one1 v = true) : PureOk Try.prog f (args.map .v) (.v v) := by
  intro rr E w vals K hd hf hargs hK
  have e : vals = args.toArray := by
    have key : ∀ (l : List Value) (vs : List Value), Reps E (l.map .v) vs → vs = l := by
      intro l
      induction l with
      | nil => intro vs h; cases h; rfl
      | cons a l ih => intro vs h; cases h with | cons h1 h2 => cases h1; rw [ih _ h2]
    have := key args vals.toList hargs
    rw [← this]
  subst e
  exact .inl ⟨v, semVal_run h w, hK v w (fun E2 => .v _ hv) ⟨fun _ _ => rfl, Nat.le_refl _, rfl, rfl, rfl⟩⟩
theorem archTrunc_pure (n : Nat) (h : n ≤ 2 ^ 40) : PureOk Try.prog 112 [.v (.float .f64 (F n))] (.v (.float .f64 (F n))) :=
  ext_pure (args := [.float .f64 (F n)]) (fun v hv => by simp at hv; subst hv; rfl) (trunc_ext n h) rfl
def fltC : AV → Option Nat
  | .v (.float .f64 x) => some x
  | .lit (.float .f64 x) => some x
  | _ => none
theorem fltC_ok {E : Env} {a : AV} {x : Nat} (h : fltC a = some x) {v : Value} (hv : Rep E a v) : Rep E (.v (.float .f64 x)) v := by
  unfold fltC at h
  split at h
  · cases h; exact hv
  · cases h; cases hv; exact .v _ rfl
  · cases h
def tabF0 (f : Nat) (args : List AV) : Option (Tree AV) := match f, args with
  | 112, [a] => match fltC a with
    | some x => some (.side (IsF x) (.ret (.v (.float .f64 x))))
    | none => none
  | _, _ => none
theorem tabF0_ok : TabOk Try.prog tabF0 := by
  intro f args t a ht hh
  unfold tabF0 at ht
  split at ht
  · split at ht
    · rename_i x h1
      cases ht
      obtain ⟨⟨n, hn, rfl⟩, hh⟩ := hh
      cases hh
      refine (archTrunc_pure n hn).pre fun E vs h => ?_
      cases h with | cons q1 h => cases h with | nil =>
      exact .cons (fltC_ok h1 q1) .nil
    · cases ht
  · cases ht
noncomputable def cxF0 : Cx := ⟨Try.prog, ctrOf tabF0, fun _ _ => none⟩
theorem cxF0_ok : CtrOk cxF0 := ctrOf_ok tabF0_ok
theorem pure_hitX {cx : Cx} (hc : CtrOk cx) (hP : cx.P = Try.prog) {f : Nat} {args : List AV} {t : Tree AV} {a : AV} (h : ((evs cx 60).call f args .nil).ans = t) (ha : t.hit a) (hp : plainA 4 a = true) : PureOk Try.prog f args a := by
  have := pure_ans (cx := cx) hc (by rw [hP]; exact fitTry) (n := 60) (f := f) (args := args) (a := a) (by rw [h]; exact ha) hp
  rwa [hP] at this
end
end Go.Proofs.Ytkmhabbpndcnkaa

/-
  PART: spans: contracts of time, May, From, To.
-/
namespace Go.Proofs.Ytkmhabbpndcnkaa
open Go.RowKit
noncomputable section
theorem order_le {a b : Nat} (ha : a ≤ 2 ^ 40) (hb : b ≤ 2 ^ 40) : FloatKind.f64.format.order (F a) (F b) = some (compare a b) := order_F a b (lt53 ha) (lt53 hb)
theorem max_F : F 1048576 = 4697254411347427328 := by rw [F_def]; kernel_rfl
theorem cmp_lt (a b : Nat) : (some (compare a b) == some Ordering.lt) = decide (a < b) := by
  rw [Bool.eq_iff_iff]; simp [Nat.compare_eq_lt]
theorem cmp_eq (a b : Nat) : (some (compare a b) == some Ordering.eq) = decide (a = b) := by
  rw [Bool.eq_iff_iff]; simp [Nat.compare_eq_eq]
theorem cmp_gt (a b : Nat) : (some (compare a b) == some Ordering.gt) = decide (b < a) := by
  rw [Bool.eq_iff_iff]; simp [Nat.compare_eq_gt]
/-- Comparisons of floats that are whole numbers. -/
def ltF (x y : Nat) : Bool := FloatKind.f64.format.order x y == some .lt
def eqF (x y : Nat) : Bool := FloatKind.f64.format.order x y == some .eq
def gtF (x y : Nat) : Bool := FloatKind.f64.format.order x y == some .gt
theorem ltF_eq {a b : Nat} (ha : a ≤ 2 ^ 40) (hb : b ≤ 2 ^ 40) : ltF (F a) (F b) = decide (a < b) := by unfold ltF; rw [order_le ha hb, cmp_lt]
theorem eqF_eq {a b : Nat} (ha : a ≤ 2 ^ 40) (hb : b ≤ 2 ^ 40) : eqF (F a) (F b) = decide (a = b) := by unfold eqF; rw [order_le ha hb, cmp_eq]
theorem gtF_eq {a b : Nat} (ha : a ≤ 2 ^ 40) (hb : b ≤ 2 ^ 40) : gtF (F a) (F b) = decide (b < a) := by unfold gtF; rw [order_le ha hb, cmp_gt]
theorem eqF_zero {a : Nat} (ha : a ≤ 2 ^ 40) : eqF (F a) 0 = decide (a = 0) := by have := eqF_eq ha (b := 0) (by decide); rwa [F_zero] at this
theorem gtF_zero {a : Nat} (ha : a ≤ 2 ^ 40) : gtF (F a) 0 = decide (0 < a) := by have := gtF_eq ha (b := 0) (by decide); rwa [F_zero] at this
def timeB (x : Nat) : Bool := if (gtF x 0 || eqF x 0) = true then (if (ltF x 4697254411347427328 || eqF x 4697254411347427328) = true then eqF x x else false) else false
theorem timeB_eq {n : Nat} (h : n ≤ 2 ^ 40) : timeB (F n) = decide (n ≤ 1048576) := by
  unfold timeB
  rw [← max_F, gtF_zero h, eqF_zero h, ltF_eq h (by decide), eqF_eq h (by decide), eqF_eq h h]
  rw [Bool.eq_iff_iff]
  by_cases h0 : n ≤ 1048576
  · have : n < 1048576 ∨ n = 1048576 := by omega
    have : 0 < n ∨ n = 0 := by omega
    simp [h0]; omega
  · have h1 : ¬ n < 1048576 := by omega
    have h2 : ¬ n = 1048576 := by omega
    simp [h0, h1, h2]
theorem time_pure {n : Nat} (h : n ≤ 2 ^ 40) : PureOk Try.prog 83 [.v (.float .f64 (F n))] (.v (.bool (decide (n ≤ 1048576)))) := by
  rw [← timeB_eq h]
  exact pure_hitX (cx := cxF0) cxF0_ok rfl (t := .side ((gtF (F n) 0 || eqF (F n) 0) = true → (ltF (F n) 4697254411347427328 || eqF (F n) 4697254411347427328) = true → IsF (F n)) (.ret (.v (.bool (timeB (F n)))))) (by kernel_rfl) ⟨fun _ _ => ⟨n, h, rfl⟩, rfl⟩ (by kernel_rfl)
def cplxC : AV → Option (Nat × Nat)
  | .v (.complex .f64 x y) => some (x, y)
  | .lit (.complex .f64 x y) => some (x, y)
  | _ => none
theorem cplxC_ok {E : Env} {a : AV} {x y : Nat} (h : cplxC a = some (x, y)) {v : Value} (hv : Rep E a v) : Rep E (.v (.complex .f64 x y)) v := by
  unfold cplxC at h
  split at h
  · cases h; exact hv
  · cases h; cases hv; exact .v _ rfl
  · cases h
def tabF1 (f : Nat) (args : List AV) : Option (Tree AV) := match f, args with
  | 83, [a] => match fltC a with
    | some x => some (.side (IsF x) (.ret (.v (.bool (decide (unF x ≤ 1048576))))))
    | none => none
  | _, _ => none
theorem tabF1_ok : TabOk Try.prog tabF1 := by
  intro f args t a ht hh
  unfold tabF1 at ht
  split at ht
  · split at ht
    · rename_i x h1
      cases ht
      obtain ⟨⟨n, hn, rfl⟩, hh⟩ := hh
      cases hh
      rw [unF_F hn]
      refine (time_pure hn).pre fun E vs h => ?_
      cases h with | cons q1 h => cases h with | nil =>
      exact .cons (fltC_ok h1 q1) .nil
    · cases ht
  · cases ht
noncomputable def cxF1 : Cx := ⟨Try.prog, ctrOf tabF1, fun _ _ => none⟩
theorem cxF1_ok : CtrOk cxF1 := ctrOf_ok tabF1_ok
end
end Go.Proofs.Ytkmhabbpndcnkaa

/-
  PART: spans: contracts of May; the table for the others.
-/
namespace Go.Proofs.Ytkmhabbpndcnkaa
open Go.RowKit
noncomputable section
def mayS (a b : Nat) : Bool := decide (a ≤ 1048576 ∧ b ≤ 1048576 ∧ (a < b ∨ (a = 0 ∧ b = 0)))
def mayX (x y : Nat) : Bool := if decide (unF x ≤ 1048576) = true then (if decide (unF y ≤ 1048576) = true then (if ltF x y = true then true else (eqF x 0 && eqF y 0)) else false) else false
theorem mayX_eq {a b : Nat} (ha : a ≤ 2 ^ 40) (hb : b ≤ 2 ^ 40) : mayX (F a) (F b) = mayS a b := by
  unfold mayX mayS
  rw [unF_F ha, unF_F hb, ltF_eq ha hb, eqF_zero ha, eqF_zero hb, Bool.eq_iff_iff]
  by_cases h1 : a ≤ 1048576 <;> by_cases h2 : b ≤ 1048576 <;> by_cases h3 : a < b <;> simp [h1, h2, h3]
theorem isF (n : Nat) (h : n ≤ 2 ^ 40) : IsF (F n) := ⟨n, h, rfl⟩
def spv (a b : Nat) : AV := .v (.complex .f64 (F a) (F b))
theorem mayS_pure {a b : Nat} (ha : a ≤ 2 ^ 40) (hb : b ≤ 2 ^ 40) : PureOk Try.prog 36 [spv a b] (.v (.bool (mayS a b))) := by
  rw [← mayX_eq ha hb]
  exact pure_hitX (cx := cxF1) cxF1_ok rfl (t := .side (IsF (F a)) (.side (decide (unF (F a) ≤ 1048576) = true → IsF (F b)) (.ret (.v (.bool (mayX (F a) (F b))))))) (by kernel_rfl) ⟨isF a ha, fun _ => isF b hb, rfl⟩ (by kernel_rfl)
def cmpX (x y : Nat) : Int :=
  if (FloatKind.f64.format.order x x != some Ordering.eq) = true then (if (FloatKind.f64.format.order y y != some Ordering.eq) = true then 0 else -1)
  else if (FloatKind.f64.format.order y y != some Ordering.eq) = true then 1 else if ltF x y = true then -1 else if gtF x y = true then 1 else 0
def cmpS (a b : Nat) : Int := if a < b then -1 else if b < a then 1 else 0
theorem cmpX_eq {a b : Nat} (ha : a ≤ 2 ^ 40) (hb : b ≤ 2 ^ 40) : cmpX (F a) (F b) = cmpS a b := by
  unfold cmpX cmpS
  have h1 : (FloatKind.f64.format.order (F a) (F a) != some Ordering.eq) = false := by
    rw [order_le ha ha]; simp [Nat.compare_eq_eq.2 rfl]
  have h2 : (FloatKind.f64.format.order (F b) (F b) != some Ordering.eq) = false := by
    rw [order_le hb hb]; simp [Nat.compare_eq_eq.2 rfl]
  rw [h1, h2, ltF_eq ha hb, gtF_eq ha hb]
  simp
theorem cmp_pure {a b : Nat} (ha : a ≤ 2 ^ 40) (hb : b ≤ 2 ^ 40) : PureOk Try.prog 85 [.v (.float .f64 (F a)), .v (.float .f64 (F b))] (iv (cmpS a b)) := by
  rw [← cmpX_eq ha hb]
  exact pure_hitX (cx := cxF0) cxF0_ok rfl (t := .ret (iv (cmpX (F a) (F b)))) (by kernel_rfl) rfl (by kernel_rfl)
def tabF2 (f : Nat) (args : List AV) : Option (Tree AV) := match f, args with
  | 36, [a] => match cplxC a with
    | some (x, y) => some (.side (IsF x ∧ IsF y) (.ret (.v (.bool (mayS (unF x) (unF y))))))
    | none => none
  | 85, [a, b] => match fltC a, fltC b with
    | some x, some y => some (.side (IsF x ∧ IsF y) (.ret (iv (cmpS (unF x) (unF y)))))
    | _, _ => none
  | _, _ => none
theorem tabF2_ok : TabOk Try.prog tabF2 := by
  intro f args t a ht hh
  unfold tabF2 at ht
  split at ht
  · split at ht
    · rename_i x y h1
      cases ht
      obtain ⟨⟨⟨n, hn, rfl⟩, ⟨m, hm, rfl⟩⟩, hh⟩ := hh
      cases hh
      rw [unF_F hn, unF_F hm]
      refine (mayS_pure hn hm).pre fun E vs h => ?_
      cases h with | cons q1 h => cases h with | nil =>
      exact .cons (cplxC_ok h1 q1) .nil
    · cases ht
  · split at ht
    · rename_i x y h1 h2
      cases ht
      obtain ⟨⟨⟨n, hn, rfl⟩, ⟨m, hm, rfl⟩⟩, hh⟩ := hh
      cases hh
      rw [unF_F hn, unF_F hm]
      refine (cmp_pure hn hm).pre fun E vs h => ?_
      cases h with | cons q1 h => cases h with | cons q2 h => cases h with | nil =>
      exact .cons (fltC_ok h1 q1) (.cons (fltC_ok h2 q2) .nil)
    · cases ht
  · cases ht
noncomputable def cxF2 : Cx := ⟨Try.prog, ctrOf tabF2, fun _ _ => none⟩
theorem cxF2_ok : CtrOk cxF2 := ctrOf_ok tabF2_ok
end
end Go.Proofs.Ytkmhabbpndcnkaa

/-
  PART: spans: contracts of Of, From, To, Apart, Touches, Compare, Times; their table.
-/
namespace Go.Proofs.Ytkmhabbpndcnkaa
open Go.RowKit
noncomputable section
theorem mayS_iff (a b : Nat) : mayS a b = true ↔ a ≤ 1048576 ∧ b ≤ 1048576 ∧ (a < b ∨ (a = 0 ∧ b = 0)) := by simp [mayS]
theorem mayS_le {a b : Nat} (h : mayS a b = true) : a ≤ 1048576 ∧ b ≤ 1048576 := ⟨((mayS_iff a b).1 h).1, ((mayS_iff a b).1 h).2.1⟩
theorem M_le {n : Nat} (h : n ≤ 1048576) : n ≤ 2 ^ 40 := Nat.le_trans h (by decide)
/-! Of. -/
def okS (p q : Int) : Bool := decide (0 ≤ p ∧ q ≤ 1048576 ∧ (p < q ∨ (p = 0 ∧ q = 0)))
def badO (p q : Int) : Bool := if decide (p < 0) = true then true else if decide (q < 0) = true then true else if decide (p > 1048576) = true then true else decide (q > 1048576)
def ofX (p q r : Int) : Nat := if badO p q = true then 0 else if (!mayS (unF (FloatKind.f64.nearest p)) (unF (FloatKind.f64.nearest q))) = true then 0 else FloatKind.f64.nearest r
def ofB (p q : Int) : Bool := if badO p q = true then false else !!mayS (unF (FloatKind.f64.nearest p)) (unF (FloatKind.f64.nearest q))
def partS (p q r : Int) : Nat := if okS p q = true then r.toNat else 0
theorem badO_false {p q : Int} (h : badO p q = false) : 0 ≤ p ∧ 0 ≤ q ∧ p ≤ 1048576 ∧ q ≤ 1048576 := by
  unfold badO at h
  by_cases h1 : p < 0
  · simp [h1] at h
  · by_cases h2 : q < 0
    · simp [h2] at h
    · by_cases h3 : p > 1048576
      · simp [h3] at h
      · simp [h1, h2, h3] at h; omega
theorem badO_true {p q : Int} (h : badO p q = true) : okS p q = false := by
  unfold badO at h
  unfold okS
  by_cases h1 : p < 0
  · simp; omega
  · by_cases h2 : q < 0
    · simp; omega
    · by_cases h3 : p > 1048576
      · simp; omega
      · simp [h1, h2, h3] at h
        simp; omega
theorem near_F {p : Int} (h : 0 ≤ p) : FloatKind.f64.nearest p = F p.toNat := by rw [F_def, Int.toNat_of_nonneg h]
theorem okS_may {p q : Int} (h : badO p q = false) : mayS p.toNat q.toNat = okS p q := by
  obtain ⟨h1, h2, h3, h4⟩ := badO_false h
  rw [Bool.eq_iff_iff, mayS_iff]
  simp only [okS, decide_eq_true_eq]
  omega
theorem of_eq (p q : Int) : ofX p q p = F (partS p q p) ∧ ofX p q q = F (partS p q q) ∧ ofB p q = okS p q := by
  unfold ofX ofB partS
  cases h : badO p q with
  | true =>
    rw [badO_true h]
    simp [F_zero]
  | false =>
    obtain ⟨h1, h2, h3, h4⟩ := badO_false h
    rw [near_F h1, near_F h2, unF_F (M_le (by omega)), unF_F (M_le (by omega)), okS_may h]
    cases okS p q <;> simp [F_zero]
theorem of_pure (p q : Int) : PureOk Try.prog 34 [iv p, iv q] (.tup [spv (partS p q p) (partS p q q), .v (.bool (okS p q))]) := by
  have e : AV.tup [spv (partS p q p) (partS p q q), .v (.bool (okS p q))] = .tup [.v (.complex .f64 (ofX p q p) (ofX p q q)), .v (.bool (ofB p q))] := by
    unfold spv
    rw [(of_eq p q).1, (of_eq p q).2.1, (of_eq p q).2.2]
  rw [e]
  refine pure_hitX (cx := cxF2) cxF2_ok rfl (t := .side (badO p q = false → IsF (FloatKind.f64.nearest p) ∧ IsF (FloatKind.f64.nearest q)) (.ret (.tup [.v (.complex .f64 (ofX p q p) (ofX p q q)), .v (.bool (ofB p q))]))) (by kernel_rfl) ⟨fun h => ?_, rfl⟩ (by kernel_rfl)
  obtain ⟨h1, h2, h3, h4⟩ := badO_false h
  rw [near_F h1, near_F h2]
  exact ⟨isF _ (M_le (by omega)), isF _ (M_le (by omega))⟩
section
variable {a b c d : Nat}
/-! From, To. -/
def endS (a b r : Nat) : Int := if mayS a b = true then (r : Int) else 0
def endX (x y z : Nat) : Int := if (!mayS (unF x) (unF y)) = true then 0 else (floatToIntVal FloatKind.f64 z IntKind.i64).getD 0
theorem val_some {n : Nat} (h : n ≤ 2 ^ 40) : (floatToIntVal FloatKind.f64 (F n) IntKind.i64).isSome = true ∧ (floatToIntVal FloatKind.f64 (F n) IntKind.i64).getD 0 = n := by
  rw [val_F n (lt53 h)]; exact ⟨rfl, rfl⟩
theorem endX_eq (ha : a ≤ 2 ^ 40) (hb : b ≤ 2 ^ 40) {r : Nat} (hr : r ≤ 2 ^ 40) : endX (F a) (F b) (F r) = endS a b r := by
  unfold endX endS
  rw [unF_F ha, unF_F hb, (val_some hr).2]
  cases mayS a b <;> simp
theorem from_pure (ha : a ≤ 2 ^ 40) (hb : b ≤ 2 ^ 40) : PureOk Try.prog 38 [spv a b] (iv (endS a b a)) := by
  rw [← endX_eq ha hb ha]
  exact pure_hitX (cx := cxF2) cxF2_ok rfl (t := .side (IsF (F a) ∧ IsF (F b)) (.side ((!mayS (unF (F a)) (unF (F b))) = false → (floatToIntVal FloatKind.f64 (F a) IntKind.i64).isSome = true) (.ret (iv (endX (F a) (F b) (F a)))))) (by kernel_rfl)
    ⟨⟨isF a ha, isF b hb⟩, fun _ => (val_some ha).1, rfl⟩ (by kernel_rfl)
theorem to_pure (ha : a ≤ 2 ^ 40) (hb : b ≤ 2 ^ 40) : PureOk Try.prog 39 [spv a b] (iv (endS a b b)) := by
  rw [← endX_eq ha hb hb]
  exact pure_hitX (cx := cxF2) cxF2_ok rfl (t := .side (IsF (F a) ∧ IsF (F b)) (.side ((!mayS (unF (F a)) (unF (F b))) = false → (floatToIntVal FloatKind.f64 (F b) IntKind.i64).isSome = true) (.ret (iv (endX (F a) (F b) (F b)))))) (by kernel_rfl)
    ⟨⟨isF a ha, isF b hb⟩, fun _ => (val_some hb).1, rfl⟩ (by kernel_rfl)
/-! Apart, Touches, Compare. -/
def apartS (a b c d : Nat) : Bool := decide (mayS a b = true ∧ mayS c d = true ∧ ((a = 0 ∧ b = 0) ∨ (c = 0 ∧ d = 0) ∨ b ≤ c ∨ d ≤ a))
def bothX (x y z w : Nat) : Bool := if (!mayS (unF x) (unF y)) = true then true else !mayS (unF z) (unF w)
def apartX (x y z w : Nat) : Bool :=
  if bothX x y z w = true then false else if (eqF x 0 && eqF y 0) = true then true else if (eqF z 0 && eqF w 0) = true then true else if (ltF y z || eqF y z) = true then true else (ltF w x || eqF w x)
theorem apartX_eq (ha : a ≤ 2 ^ 40) (hb : b ≤ 2 ^ 40) (hc : c ≤ 2 ^ 40) (hd : d ≤ 2 ^ 40) : apartX (F a) (F b) (F c) (F d) = apartS a b c d := by
  unfold apartX bothX apartS
  rw [unF_F ha, unF_F hb, unF_F hc, unF_F hd, eqF_zero ha, eqF_zero hb, eqF_zero hc, eqF_zero hd, ltF_eq hb hc, eqF_eq hb hc, ltF_eq hd ha, eqF_eq hd ha, Bool.eq_iff_iff]
  cases mayS a b <;> cases mayS c d <;> simp
  by_cases h1 : a = 0 ∧ b = 0
  · simp [h1]
  · by_cases h2 : c = 0 ∧ d = 0
    · simp [h2]
    · by_cases h3 : b < c ∨ b = c
      · have : b ≤ c := by omega
        simp [h3, this]
      · have : ¬ b ≤ c := by omega
        simp only [h1, h2, h3, this, false_or]
        omega
theorem apart_pure (ha : a ≤ 2 ^ 40) (hb : b ≤ 2 ^ 40) (hc : c ≤ 2 ^ 40) (hd : d ≤ 2 ^ 40) : PureOk Try.prog 41 [spv a b, spv c d] (.v (.bool (apartS a b c d))) := by
  rw [← apartX_eq ha hb hc hd]
  exact pure_hitX (cx := cxF2) cxF2_ok rfl (t := .side (IsF (F a) ∧ IsF (F b)) (.side ((!mayS (unF (F a)) (unF (F b))) = false → IsF (F c) ∧ IsF (F d)) (.ret (.v (.bool (apartX (F a) (F b) (F c) (F d))))))) (by kernel_rfl)
    ⟨⟨isF a ha, isF b hb⟩, fun _ => ⟨isF c hc, isF d hd⟩, rfl⟩ (by kernel_rfl)
def touchS (a b c d : Nat) : Bool := decide (mayS a b = true ∧ mayS c d = true ∧ b = c)
def touchX (x y z w : Nat) : Bool := if mayS (unF x) (unF y) = true then (if mayS (unF z) (unF w) = true then eqF y z else false) else false
theorem touchX_eq (ha : a ≤ 2 ^ 40) (hb : b ≤ 2 ^ 40) (hc : c ≤ 2 ^ 40) (hd : d ≤ 2 ^ 40) : touchX (F a) (F b) (F c) (F d) = touchS a b c d := by
  unfold touchX touchS
  rw [unF_F ha, unF_F hb, unF_F hc, unF_F hd, eqF_eq hb hc]
  cases mayS a b <;> cases mayS c d <;> simp
theorem touch_pure (ha : a ≤ 2 ^ 40) (hb : b ≤ 2 ^ 40) (hc : c ≤ 2 ^ 40) (hd : d ≤ 2 ^ 40) : PureOk Try.prog 43 [spv a b, spv c d] (.v (.bool (touchS a b c d))) := by
  rw [← touchX_eq ha hb hc hd]
  exact pure_hitX (cx := cxF2) cxF2_ok rfl (t := .side (IsF (F a) ∧ IsF (F b)) (.side (mayS (unF (F a)) (unF (F b)) = true → IsF (F c) ∧ IsF (F d)) (.ret (.v (.bool (touchX (F a) (F b) (F c) (F d))))))) (by kernel_rfl)
    ⟨⟨isF a ha, isF b hb⟩, fun _ => ⟨isF c hc, isF d hd⟩, rfl⟩ (by kernel_rfl)
def compS (a b c d : Nat) : Int := if mayS a b = true ∧ mayS c d = true then (if cmpS b d ≠ 0 then cmpS b d else cmpS a c) else 0
def compX (x y z w : Nat) : Int := if bothX x y z w = true then 0 else if (cmpS (unF y) (unF w) != 0) = true then cmpS (unF y) (unF w) else if (cmpS (unF x) (unF z) != 0) = true then cmpS (unF x) (unF z) else 0
theorem compX_eq (ha : a ≤ 2 ^ 40) (hb : b ≤ 2 ^ 40) (hc : c ≤ 2 ^ 40) (hd : d ≤ 2 ^ 40) : compX (F a) (F b) (F c) (F d) = compS a b c d := by
  unfold compX bothX compS
  rw [unF_F ha, unF_F hb, unF_F hc, unF_F hd]
  cases mayS a b <;> cases mayS c d <;> simp
  by_cases h : cmpS b d = 0
  · by_cases h2 : cmpS a c = 0 <;> simp [h, h2]
  · simp [h]
theorem comp_pure (ha : a ≤ 2 ^ 40) (hb : b ≤ 2 ^ 40) (hc : c ≤ 2 ^ 40) (hd : d ≤ 2 ^ 40) : PureOk Try.prog 44 [spv a b, spv c d] (iv (compS a b c d)) := by
  rw [← compX_eq ha hb hc hd]
  exact pure_hitX (cx := cxF2) cxF2_ok rfl (t := .side (IsF (F a) ∧ IsF (F b)) (.side ((!mayS (unF (F a)) (unF (F b))) = false → IsF (F c) ∧ IsF (F d))
    (.side (bothX (F a) (F b) (F c) (F d) = false → (IsF (F b) ∧ IsF (F d)) ∧ IsF (F a) ∧ IsF (F c)) (.ret (iv (compX (F a) (F b) (F c) (F d))))))) (by kernel_rfl)
    ⟨⟨isF a ha, isF b hb⟩, fun _ => ⟨isF c hc, isF d hd⟩, fun _ => ⟨⟨isF b hb, isF d hd⟩, isF a ha, isF c hc⟩, rfl⟩ (by kernel_rfl)
/-! Times. -/
def badX (x y : Nat) (n : Int) : Bool := if decide (n < 1) = true then true else if decide (n > 1048576) = true then true else !mayS (unF x) (unF y)
def prodX (x y : Nat) (n : Int) : Nat × Nat := (cMulBits x y (FloatKind.f64.nearest n) 0).getD (0, 0)
def timesX (x y : Nat) (n : Int) (z : Nat) : Nat := if badX x y n = true then 0 else if (!mayS (unF (prodX x y n).1) (unF (prodX x y n).2)) = true then 0 else z
def timesXB (x y : Nat) (n : Int) : Bool := if badX x y n = true then false else !!mayS (unF (prodX x y n).1) (unF (prodX x y n).2)
def timesB (a b : Nat) (n : Int) : Bool := decide (1 ≤ n ∧ n ≤ 1048576 ∧ mayS a b = true ∧ mayS (a * n.toNat) (b * n.toNat) = true)
def timesS (a b : Nat) (n : Int) (r : Nat) : Nat := if timesB a b n = true then r * n.toNat else 0
theorem badX_false {n : Int} (ha : a ≤ 2 ^ 40) (hb : b ≤ 2 ^ 40) (h : badX (F a) (F b) n = false) : 1 ≤ n ∧ n ≤ 1048576 ∧ mayS a b = true := by
  unfold badX at h
  rw [unF_F ha, unF_F hb] at h
  by_cases h1 : n < 1
  · simp [h1] at h
  · by_cases h2 : n > 1048576
    · simp [h2] at h
    · simp [h1, h2] at h
      exact ⟨by omega, by omega, h⟩
theorem badX_true {n : Int} (ha : a ≤ 2 ^ 40) (hb : b ≤ 2 ^ 40) (h : badX (F a) (F b) n = true) : timesB a b n = false := by
  unfold badX at h
  rw [unF_F ha, unF_F hb] at h
  unfold timesB
  by_cases h1 : n < 1
  · simp; omega
  · by_cases h2 : n > 1048576
    · simp; omega
    · simp [h1, h2] at h
      simp [h]
theorem prod_eq {n : Int} (h : 1 ≤ n ∧ n ≤ 1048576 ∧ mayS a b = true) : cMulBits (F a) (F b) (FloatKind.f64.nearest n) 0 = some (F (a * n.toNat), F (b * n.toNat)) ∧ a * n.toNat ≤ 2 ^ 40 ∧ b * n.toNat ≤ 2 ^ 40 := by
  obtain ⟨h1, h2, h3⟩ := h
  obtain ⟨h4, h5⟩ := mayS_le h3
  have k1 : a * n.toNat ≤ 2 ^ 40 := Nat.le_trans (Nat.mul_le_mul h4 (show n.toNat ≤ 1048576 by omega)) (by decide)
  have k2 : b * n.toNat ≤ 2 ^ 40 := Nat.le_trans (Nat.mul_le_mul h5 (show n.toNat ≤ 1048576 by omega)) (by decide)
  refine ⟨?_, k1, k2⟩
  rw [near_F (by omega), ← F_zero]
  exact cmul_F a b n.toNat (lt53 (M_le (by omega))) (lt53 (M_le h4)) (lt53 (M_le h5)) (lt53 k1) (lt53 k2)
theorem times_eq (n : Int) (ha : a ≤ 2 ^ 40) (hb : b ≤ 2 ^ 40) : timesX (F a) (F b) n (prodX (F a) (F b) n).1 = F (timesS a b n a) ∧ timesX (F a) (F b) n (prodX (F a) (F b) n).2 = F (timesS a b n b) ∧ timesXB (F a) (F b) n = timesB a b n := by
  unfold timesX timesXB timesS
  cases h : badX (F a) (F b) n with
  | true => rw [badX_true ha hb h]; simp [F_zero]
  | false =>
    have h1 := badX_false ha hb h
    obtain ⟨e, k1, k2⟩ := prod_eq h1
    have e2 : prodX (F a) (F b) n = (F (a * n.toNat), F (b * n.toNat)) := by unfold prodX; rw [e]; rfl
    rw [e2]
    dsimp only
    rw [unF_F k1, unF_F k2]
    have e3 : timesB a b n = mayS (a * n.toNat) (b * n.toNat) := by
      rw [Bool.eq_iff_iff]
      unfold timesB
      simp only [decide_eq_true_eq]
      exact ⟨fun h => h.2.2.2, fun h => ⟨h1.1, h1.2.1, h1.2.2, h⟩⟩
    rw [e3]
    cases mayS (a * n.toNat) (b * n.toNat) <;> simp [F_zero]
theorem times_pure (n : Int) (ha : a ≤ 2 ^ 40) (hb : b ≤ 2 ^ 40) : PureOk Try.prog 45 [spv a b, iv n] (.tup [spv (timesS a b n a) (timesS a b n b), .v (.bool (timesB a b n))]) := by
  obtain ⟨e1, e2, e3⟩ := times_eq n ha hb
  have e : AV.tup [spv (timesS a b n a) (timesS a b n b), .v (.bool (timesB a b n))] = .tup [.v (.complex .f64 (timesX (F a) (F b) n (prodX (F a) (F b) n).1) (timesX (F a) (F b) n (prodX (F a) (F b) n).2)), .v (.bool (timesXB (F a) (F b) n))] := by
    unfold spv
    rw [e1, e2, e3]
  rw [e]
  refine pure_hitX (cx := cxF2) cxF2_ok rfl (t := .side (decide (n < 1) = false → decide (n > 1048576) = false → IsF (F a) ∧ IsF (F b))
    (.side (badX (F a) (F b) n = false → (cMulBits (F a) (F b) (FloatKind.f64.nearest n) 0).isSome = true ∧ IsF (prodX (F a) (F b) n).1 ∧ IsF (prodX (F a) (F b) n).2)
      (.ret (.tup [.v (.complex .f64 (timesX (F a) (F b) n (prodX (F a) (F b) n).1) (timesX (F a) (F b) n (prodX (F a) (F b) n).2)), .v (.bool (timesXB (F a) (F b) n))])))) (by kernel_rfl) ⟨fun _ _ => ⟨isF a ha, isF b hb⟩, fun h => ?_, rfl⟩ (by kernel_rfl)
  obtain ⟨e, k1, k2⟩ := prod_eq (badX_false ha hb h)
  unfold prodX
  rw [e]
  exact ⟨rfl, isF _ k1, isF _ k2⟩
end
/-- The table of spans. -/
def tabS (f : Nat) (args : List AV) : Option (Tree AV) := match f, args with
  | 34, [a, b] => match intC a, intC b with
    | some p, some q => some (.ret (.tup [spv (partS p q p) (partS p q q), .v (.bool (okS p q))]))
    | _, _ => none
  | 36, [a] => match cplxC a with
    | some (x, y) => some (.side (IsF x ∧ IsF y) (.ret (.v (.bool (mayS (unF x) (unF y))))))
    | none => none
  | 38, [a] => match cplxC a with
    | some (x, y) => some (.side (IsF x ∧ IsF y) (.ret (iv (endS (unF x) (unF y) (unF x)))))
    | none => none
  | 39, [a] => match cplxC a with
    | some (x, y) => some (.side (IsF x ∧ IsF y) (.ret (iv (endS (unF x) (unF y) (unF y)))))
    | none => none
  | 41, [a, b] => match cplxC a, cplxC b with
    | some (x, y), some (z, w) => some (.side ((IsF x ∧ IsF y) ∧ IsF z ∧ IsF w) (.ret (.v (.bool (apartS (unF x) (unF y) (unF z) (unF w))))))
    | _, _ => none
  | 43, [a, b] => match cplxC a, cplxC b with
    | some (x, y), some (z, w) => some (.side ((IsF x ∧ IsF y) ∧ IsF z ∧ IsF w) (.ret (.v (.bool (touchS (unF x) (unF y) (unF z) (unF w))))))
    | _, _ => none
  | 44, [a, b] => match cplxC a, cplxC b with
    | some (x, y), some (z, w) => some (.side ((IsF x ∧ IsF y) ∧ IsF z ∧ IsF w) (.ret (iv (compS (unF x) (unF y) (unF z) (unF w)))))
    | _, _ => none
  | 45, [a, b] => match cplxC a, intC b with
    | some (x, y), some n => some (.side (IsF x ∧ IsF y) (.ret (.tup [spv (timesS (unF x) (unF y) n (unF x)) (timesS (unF x) (unF y) n (unF y)), .v (.bool (timesB (unF x) (unF y) n))])))
    | _, _ => none
  | _, _ => none
theorem tabS_ok : TabOk Try.prog tabS := by
  intro f args t a ht hh
  unfold tabS at ht
  split at ht
  · split at ht
    · rename_i h1 h2
      cases ht; cases hh
      refine (of_pure _ _).pre fun E vs h => ?_
      cases h with | cons q1 h => cases h with | cons q2 h => cases h with | nil =>
      exact .cons (intC_ok h1 q1) (.cons (intC_ok h2 q2) .nil)
    · cases ht
  · split at ht
    · rename_i x y h1
      cases ht
      obtain ⟨⟨⟨n, hn, rfl⟩, ⟨m, hm, rfl⟩⟩, hh⟩ := hh
      cases hh
      rw [unF_F hn, unF_F hm]
      refine (mayS_pure hn hm).pre fun E vs h => ?_
      cases h with | cons q1 h => cases h with | nil =>
      exact .cons (cplxC_ok h1 q1) .nil
    · cases ht
  · split at ht
    · rename_i x y h1
      cases ht
      obtain ⟨⟨⟨n, hn, rfl⟩, ⟨m, hm, rfl⟩⟩, hh⟩ := hh
      cases hh
      rw [unF_F hn, unF_F hm]
      refine (from_pure hn hm).pre fun E vs h => ?_
      cases h with | cons q1 h => cases h with | nil =>
      exact .cons (cplxC_ok h1 q1) .nil
    · cases ht
  · split at ht
    · rename_i x y h1
      cases ht
      obtain ⟨⟨⟨n, hn, rfl⟩, ⟨m, hm, rfl⟩⟩, hh⟩ := hh
      cases hh
      rw [unF_F hn, unF_F hm]
      refine (to_pure hn hm).pre fun E vs h => ?_
      cases h with | cons q1 h => cases h with | nil =>
      exact .cons (cplxC_ok h1 q1) .nil
    · cases ht
  · split at ht
    · rename_i x y z w h1 h2
      cases ht
      obtain ⟨⟨⟨⟨n, hn, rfl⟩, ⟨m, hm, rfl⟩⟩, ⟨n2, hn2, rfl⟩, ⟨m2, hm2, rfl⟩⟩, hh⟩ := hh
      cases hh
      rw [unF_F hn, unF_F hm, unF_F hn2, unF_F hm2]
      refine (apart_pure hn hm hn2 hm2).pre fun E vs h => ?_
      cases h with | cons q1 h => cases h with | cons q2 h => cases h with | nil =>
      exact .cons (cplxC_ok h1 q1) (.cons (cplxC_ok h2 q2) .nil)
    · cases ht
  · split at ht
    · rename_i x y z w h1 h2
      cases ht
      obtain ⟨⟨⟨⟨n, hn, rfl⟩, ⟨m, hm, rfl⟩⟩, ⟨n2, hn2, rfl⟩, ⟨m2, hm2, rfl⟩⟩, hh⟩ := hh
      cases hh
      rw [unF_F hn, unF_F hm, unF_F hn2, unF_F hm2]
      refine (touch_pure hn hm hn2 hm2).pre fun E vs h => ?_
      cases h with | cons q1 h => cases h with | cons q2 h => cases h with | nil =>
      exact .cons (cplxC_ok h1 q1) (.cons (cplxC_ok h2 q2) .nil)
    · cases ht
  · split at ht
    · rename_i x y z w h1 h2
      cases ht
      obtain ⟨⟨⟨⟨n, hn, rfl⟩, ⟨m, hm, rfl⟩⟩, ⟨n2, hn2, rfl⟩, ⟨m2, hm2, rfl⟩⟩, hh⟩ := hh
      cases hh
      rw [unF_F hn, unF_F hm, unF_F hn2, unF_F hm2]
      refine (comp_pure hn hm hn2 hm2).pre fun E vs h => ?_
      cases h with | cons q1 h => cases h with | cons q2 h => cases h with | nil =>
      exact .cons (cplxC_ok h1 q1) (.cons (cplxC_ok h2 q2) .nil)
    · cases ht
  · split at ht
    · rename_i x y n2 h1 h2
      cases ht
      obtain ⟨⟨⟨n, hn, rfl⟩, ⟨m, hm, rfl⟩⟩, hh⟩ := hh
      cases hh
      rw [unF_F hn, unF_F hm]
      refine (times_pure _ hn hm).pre fun E vs h => ?_
      cases h with | cons q1 h => cases h with | cons q2 h => cases h with | nil =>
      exact .cons (cplxC_ok h1 q1) (.cons (intC_ok h2 q2) .nil)
    · cases ht
  · cases ht
noncomputable def cxS (dec : Nat → St → Option Bool) : Cx := ⟨Try.prog, ctrOf tabS, dec⟩
theorem cxS_ok (dec : Nat → St → Option Bool) : CtrOk (cxS dec) := (ctrOf_ok tabS_ok).withDec dec
end
end Go.Proofs.Ytkmhabbpndcnkaa

/-
  PART: law 9: the document's answers for pairs of times; the table.
-/
namespace Go.Proofs.Ytkmhabbpndcnkaa
open Go.RowKit
noncomputable section
theorem wakes37 : PureOk Try.prog 37 [] (.lit (.bool true)) :=
  pure_hit (t := .ret (.lit (.bool true))) (by kernel_rfl) rfl (by kernel_rfl)
def pr (p q : Int) : AV := .agg [iv p, iv q]
def zeroE (p q : Int) : Bool := if (p == 0) = true then q == 0 else false
def refMayE (p q : Int) : Bool := if decide (p ≥ 0) = true then (if decide (q ≤ 1048576) = true then (if decide (p < q) = true then true else zeroE p q) else zeroE p q) else zeroE p q
theorem refMayE_eq (p q : Int) : refMayE p q = okS p q := by
  unfold refMayE zeroE okS
  rw [Bool.eq_iff_iff]
  by_cases h1 : p ≥ 0
  · by_cases h2 : q ≤ 1048576
    · by_cases h3 : p < q
      · simp [h1, h2, h3]
      · simp [h1, h2, h3]
    · simp [h1, h2]; omega
  · simp [h1]; omega
theorem refMay_pure (p q : Int) : PureOk Try.prog 35 [pr p q] (.v (.bool (okS p q))) := by
  rw [← refMayE_eq]
  exact pure_hit (t := .ret (.v (.bool (refMayE p q)))) (by kernel_rfl) rfl (by kernel_rfl)
def lessB (p q r s : Int) : Bool := decide (q < s ∨ (q = s ∧ p < r))
def lessE (p q r s : Int) : Bool := if decide (q < s) = true then true else if (q == s) = true then decide (p < r) else false
theorem lessE_eq (p q r s : Int) : lessE p q r s = lessB p q r s := by
  unfold lessE lessB
  rw [Bool.eq_iff_iff]
  by_cases h1 : q < s
  · simp [h1]
  · by_cases h2 : q = s <;> simp [h1, h2]
theorem less_pure (p q r s : Int) : PureOk Try.prog 40 [pr p q, pr r s] (.v (.bool (lessB p q r s))) := by
  rw [← lessE_eq]
  exact pure_hit (t := .ret (.v (.bool (lessE p q r s)))) (by kernel_rfl) rfl (by kernel_rfl)
def prC : AV → Option (Int × Int)
  | .agg [a, b] => match intC a, intC b with
    | some x, some y => some (x, y)
    | _, _ => none
  | _ => none
theorem prC_ok {E : Env} {a : AV} {p q : Int} (h : prC a = some (p, q)) {v : Value} (hv : Rep E a v) : Rep E (pr p q) v := by
  unfold prC at h
  split at h
  · split at h
    · rename_i h1 h2
      cases h
      obtain ⟨vs, rfl, hr, ho⟩ := hv.agg_inv
      cases hr with | cons q1 t => cases t with | cons q2 t => cases t with | nil =>
      exact .agg_mk (.cons (intC_ok h1 q1) (.cons (intC_ok h2 q2) .nil)) ho
    · cases h
  · cases h
def tabP0 (f : Nat) (args : List AV) : Option (Tree AV) := match f, args with
  | 35, [a] => match prC a with
    | some (p, q) => some (.ret (.v (.bool (okS p q))))
    | none => none
  | _, _ => none
theorem tabP0_ok : TabOk Try.prog tabP0 := by
  intro f args t a ht hh
  unfold tabP0 at ht
  split at ht
  · split at ht
    · rename_i h1
      cases ht; cases hh
      refine (refMay_pure _ _).pre fun E vs h => ?_
      cases h with | cons q1 h => cases h with | nil =>
      exact .cons (prC_ok h1 q1) .nil
    · cases ht
  · cases ht
noncomputable def cxP0 : Cx := ⟨Try.prog, ctrOf tabP0, fun _ _ => none⟩
theorem cxP0_ok : CtrOk cxP0 := ctrOf_ok tabP0_ok
def rapartB (p q r s : Int) : Bool := decide (okS p q = true ∧ okS r s = true ∧ min q s ≤ max p r)
def rapartE (p q r s : Int) : Bool := if (if (!okS p q) = true then true else !okS r s) = true then false else decide ((if r > p then r else p) ≥ if s < q then s else q)
theorem rapartE_eq (p q r s : Int) : rapartE p q r s = rapartB p q r s := by
  unfold rapartE rapartB
  rw [Bool.eq_iff_iff]
  cases okS p q <;> cases okS r s <;> simp
  by_cases h1 : r > p <;> by_cases h2 : s < q <;> simp [h1, h2] <;> omega
theorem rapart_pure (p q r s : Int) : PureOk Try.prog 42 [pr p q, pr r s] (.v (.bool (rapartB p q r s))) := by
  rw [← rapartE_eq]
  exact pure_hitX (cx := cxP0) cxP0_ok rfl (t := .ret (.v (.bool (rapartE p q r s)))) (by kernel_rfl) rfl (by kernel_rfl)
def tabS7 (f : Nat) (args : List AV) : Option (Tree AV) := match f, args with
  | 37, [] => some (.ret (.lit (.bool true)))
  | 35, [a] => match prC a with
    | some (p, q) => some (.ret (.v (.bool (okS p q))))
    | none => none
  | 40, [a, b] => match prC a, prC b with
    | some (p, q), some (r, s) => some (.ret (.v (.bool (lessB p q r s))))
    | _, _ => none
  | 42, [a, b] => match prC a, prC b with
    | some (p, q), some (r, s) => some (.ret (.v (.bool (rapartB p q r s))))
    | _, _ => none
  | f, args => tabS f args
theorem tabS7_ok : TabOk Try.prog tabS7 := by
  intro f args t a ht hh
  unfold tabS7 at ht
  split at ht
  · cases ht; cases hh
    exact wakes37
  · split at ht
    · rename_i h1
      cases ht; cases hh
      refine (refMay_pure _ _).pre fun E vs h => ?_
      cases h with | cons q1 h => cases h with | nil =>
      exact .cons (prC_ok h1 q1) .nil
    · cases ht
  · split at ht
    · rename_i h1 h2
      cases ht; cases hh
      refine (less_pure _ _ _ _).pre fun E vs h => ?_
      cases h with | cons q1 h => cases h with | cons q2 h => cases h with | nil =>
      exact .cons (prC_ok h1 q1) (.cons (prC_ok h2 q2) .nil)
    · cases ht
  · split at ht
    · rename_i h1 h2
      cases ht; cases hh
      refine (rapart_pure _ _ _ _).pre fun E vs h => ?_
      cases h with | cons q1 h => cases h with | cons q2 h => cases h with | nil =>
      exact .cons (prC_ok h1 q1) (.cons (prC_ok h2 q2) .nil)
    · cases ht
  · exact tabS_ok _ _ _ _ ht hh
noncomputable def cxS7 (dec : Nat → St → Option Bool) : Cx := ⟨Try.prog, ctrOf tabS7, dec⟩
theorem cxS7_ok (dec : Nat → St → Option Bool) : CtrOk (cxS7 dec) := (ctrOf_ok tabS7_ok).withDec dec
end
end Go.Proofs.Ytkmhabbpndcnkaa

/-
  PART: memory: items and memories; contracts of loc and may.
-/
namespace Go.Proofs.Ytkmhabbpndcnkaa
open Go.RowKit
noncomputable section
/-- An item's cells: location, span, number, view, is it a reservation, owner. -/
def itv (loc : Int) (S : AV) (n : Int) (v : Nat → Int) (res : Bool) (own : Int) : List AV :=
  [iv loc, S, .v (.int .u64 n)] ++ ivs 8 v ++ [.v (.bool res), iv own]
/-- A memory of n locations. -/
def memv (n : Int) (s0 s1 s2 s3 : AV) : AV := .agg [iv n, s0, s1, s2, s3]
def zer8 (v : Nat → Int) : Bool := v 0 == 0 && v 1 == 0 && v 2 == 0 && v 3 == 0 && (v 4 == 0 && v 5 == 0 && v 6 == 0 && v 7 == 0)
def locE (n i : Int) : Bool := if decide (i ≥ 0) = true then decide (i < n) else false
theorem loc_pure (n i : Int) : PureOk Try.prog 91 [memv n .unk .unk .unk .unk, iv i] (.v (.bool (locE n i))) :=
  pure_hit (t := .ret (.v (.bool (locE n i)))) (by kernel_rfl) rfl (by kernel_rfl)
def mayIE (n i k o : Int) (x y : Nat) (v : Nat → Int) (r : Bool) : Bool :=
  if locE n i = true then if decide (o ≥ -1) = true then if decide (o < 4) = true then if mayS (unF x) (unF y) = true then
    if (!(eqF x 0 && eqF y 0)) = true then if mayE v = true then if (!r) = true then true else if (k == 0) = true then zer8 v else false
    else false else false else false else false else false else false
def mayI (n i k o : Int) (a b : Nat) (v : Nat → Int) (r : Bool) : Bool :=
  locE n i && decide (-1 ≤ o ∧ o < 4) && mayS a b && !(decide (a = 0 ∧ b = 0)) && mayB v && (!r || (k == 0 && zer8 v))
theorem mayI_eq (n i k o : Int) {a b : Nat} (ha : a ≤ 2 ^ 40) (hb : b ≤ 2 ^ 40) (v : Nat → Int) (r : Bool) : mayIE n i k o (F a) (F b) v r = mayI n i k o a b v r := by
  unfold mayIE mayI
  rw [unF_F ha, unF_F hb, eqF_zero ha, eqF_zero hb, may_eq]
  generalize locE n i = q1; generalize mayS a b = q2; generalize mayB v = q3; generalize zer8 v = q4
  by_cases h1 : -1 ≤ o <;> by_cases h2 : o < 4 <;> by_cases h3 : a = 0 <;> by_cases h4 : b = 0 <;> cases q1 <;> cases q2 <;> cases q3 <;> cases r <;> simp [h1, h2, h3, h4] <;> (try omega) <;> (cases hk : (k == 0) <;> simp_all)
theorem mayI_pure (n i k o : Int) {a b : Nat} (ha : a ≤ 2 ^ 40) (hb : b ≤ 2 ^ 40) (v : Nat → Int) (r : Bool) : PureOk Try.prog 93 [memv n .unk .unk .unk .unk, .agg (itv i (spv a b) k v r o)] (.v (.bool (mayI n i k o a b v r))) := by
  rw [← mayI_eq n i k o ha hb]
  exact pure_hitX (cx := cxS fun _ _ => none) (cxS_ok _) rfl (t := .side (locE n i = true → decide (o ≥ -1) = true → decide (o < 4) = true → IsF (F a) ∧ IsF (F b)) (.ret (.v (.bool (mayIE n i k o (F a) (F b) v r))))) (by kernel_rfl) ⟨fun _ _ _ => ⟨isF a ha, isF b hb⟩, rfl⟩ (by kernel_rfl)
end
end Go.Proofs.Ytkmhabbpndcnkaa

/-
  PART: memory: contracts of the functions that Add hands to slices (f94, f97).
-/
namespace Go.Proofs.Ytkmhabbpndcnkaa
open Go.RowKit
noncomputable section
theorem meets_pure {i k o i2 k2 o2 : Int} {a b c d : Nat} (ha : a ≤ 2 ^ 40) (hb : b ≤ 2 ^ 40) (hc : c ≤ 2 ^ 40) (hd : d ≤ 2 ^ 40) (v v2 : Nat → Int) (r r2 : Bool) :
    PureOk Try.prog 94 [.agg (itv i (spv a b) k v r o), .fz (itv i2 (spv c d) k2 v2 r2 o2) 0] (.v (.bool (!apartS c d a b))) := by
  have := pure_hitX (cx := cxS fun _ _ => none) (cxS_ok _) rfl (f := 94) (args := [.agg (itv i (spv a b) k v r o), .fz (itv i2 (spv c d) k2 v2 r2 o2) 0])
    (t := .side ((IsF (F c) ∧ IsF (F d)) ∧ IsF (F a) ∧ IsF (F b)) (.ret (.v (.bool (!apartS (unF (F c)) (unF (F d)) (unF (F a)) (unF (F b))))))) (by kernel_rfl) ⟨⟨⟨isF c hc, isF d hd⟩, isF a ha, isF b hb⟩, rfl⟩ (by kernel_rfl)
  rwa [unF_F ha, unF_F hb, unF_F hc, unF_F hd] at this
theorem ahead_pure {i k o i2 k2 o2 : Int} {a b c d : Nat} (ha : a ≤ 2 ^ 40) (hb : b ≤ 2 ^ 40) (hc : c ≤ 2 ^ 40) (hd : d ≤ 2 ^ 40) (v v2 : Nat → Int) (r r2 : Bool) :
    PureOk Try.prog 97 [.agg (itv i (spv a b) k v r o), .fz (itv i2 (spv c d) k2 v2 r2 o2) 0] (.v (.bool (decide (compS c d a b < 0)))) := by
  have := pure_hitX (cx := cxS fun _ _ => none) (cxS_ok _) rfl (f := 97) (args := [.agg (itv i (spv a b) k v r o), .fz (itv i2 (spv c d) k2 v2 r2 o2) 0])
    (t := .side ((IsF (F c) ∧ IsF (F d)) ∧ IsF (F a) ∧ IsF (F b)) (.ret (.v (.bool (decide (compS (unF (F c)) (unF (F d)) (unF (F a)) (unF (F b)) < 0)))))) (by kernel_rfl) ⟨⟨⟨isF c hc, isF d hd⟩, isF a ha, isF b hb⟩, rfl⟩ (by kernel_rfl)
  rwa [unF_F ha, unF_F hb, unF_F hc, unF_F hd] at this
end
end Go.Proofs.Ytkmhabbpndcnkaa

/-
  PART: memory: rows of items; slices.IndexFunc (f96).
-/
namespace Go.Proofs.Ytkmhabbpndcnkaa
open Go.RowKit
noncomputable section
/-- An item, as the program has it. -/
structure It where
  loc : Int
  a : Nat
  b : Nat
  n : Int
  v : Nat → Int
  res : Bool
  own : Int
def It.cells (x : It) : List AV := itv x.loc (spv x.a x.b) x.n x.v x.res x.own
def itz : It := ⟨0, 0, 0, 0, fun _ => 0, false, 0⟩
/-- A row of items. -/
def rowv (n : Nat) (its : Nat → It) (full : Bool) : AV := .sl n 13 (fun i => (its i).cells) false full
noncomputable def c96 : Code := codeOf Try.f96
noncomputable def body96 : Code := match behind 1 c96 with
  | .seq (.seq _ (.block _ (.loop b))) _ => b
  | _ => .skip
def ds96 : List (Nat × Bool) := [(0, false), (1, false), (7, false), (8, true)]
def inv96 (n : Nat) (its : Nat → It) (full : Bool) (g : Fn) (cap : List AV) (z : Int) : St := { sl := [(0, rowv n its full), (1, .fn g [] cap), (7, iv n), (8, iv z)], hp := [], nx := 0, rd := [], wr := [], ws := [], wb := [] }
def start96 (n : Nat) (its : Nat → It) (full : Bool) (g : Fn) (cap : List AV) : St := { sl := [(0, rowv n its full), (1, .fn g [] cap)], hp := [], nx := 0, rd := [], wr := [], ws := [], wb := [] }
/-- The parts of the function's run but for its rounds. -/
structure Eqs96 (g : Fn) (cap : List AV) : Prop where
  pre : ∀ n its full, ((codeE (cxS fun _ _ => none) (evs (cxS fun _ _ => none) 60) (joins (firsts 1 c96)) (entry [rowv n its full, .fn g [] cap])).map (lfOf 0 [(0, false), (1, false)] true 4)) = .ret (.go .norm (some (start96 n its full g cap)))
  init : ∀ n its full, ((codeE (cxS fun _ _ => none) (evs (cxS fun _ _ => none) 60) (cl (cl (behind 1 c96))) (start96 n its full g cap)).map (lfOf 0 ds96 true 4)) = .ret (.go .norm (some (inv96 n its full g cap 0)))
  tail : ∀ n its full i, ((codeE (cxS fun _ _ => none) (evs (cxS fun _ _ => none) 60) (cr (behind 1 c96)) (inv96 n its full g cap i)).map (lfOf 0 [] true 4)) = .ret (.out (.lit (.int .i64 (-1))))
/-- A round. -/
def Round96 (n : Nat) (its : Nat → It) (full : Bool) (g : Fn) (cap : List AV) (C : Nat → Prop) (p : Nat → Bool) : Prop :=
  ∀ i : Nat, ((codeE (cxS fun _ _ => none) (evs (cxS fun _ _ => none) 60) body96 (inv96 n its full g cap i)).map (lfOf 0 ds96 true 4)) =
    .br (decide ((i : Int) < n)) (.side (0 ≤ (i : Int) ∧ (i : Int) < n) (.side (C i) (.br (p i) (.ret (.out (iv i))) (.ret (.go .norm (some (inv96 n its full g cap (IntKind.i64.wrap ((i : Int) + 1)))))))))
      (.ret (.go (.exit 0) (some (inv96 n its full g cap i))))
end
end Go.Proofs.Ytkmhabbpndcnkaa

/-
  PART: memory: the contract of slices.IndexFunc (f96).
-/
namespace Go.Proofs.Ytkmhabbpndcnkaa
open Go.RowKit
noncomputable section
/-- The first place from i on, among m, of which that is true; -1: none. -/
def idxF (p : Nat → Bool) : Nat → Nat → Int
  | _, 0 => -1
  | i, m + 1 => if p i = true then (i : Int) else idxF p (i + 1) m
theorem idx96 {n : Nat} {its : Nat → It} {full : Bool} {g : Fn} {cap : List AV} {C : Nat → Prop} {p : Nat → Bool} (he : Eqs96 g cap) (hn : n ≤ 2 ^ 40) (hr : Round96 n its full g cap C p) (hC : ∀ i, i < n → C i) :
    PureOk Try.prog 96 [rowv n its full, .fn g [] cap] (iv (idxF p 0 n)) := by
  let O : AV → Prop := fun a => ∀ E v, Rep E a v → ∀ E2, Rep E2 (iv (idxF p 0 n)) v
  have hO : ∀ z, z = idxF p 0 n → O (iv z) := fun z hz E v h E2 => by subst hz; cases h; exact .v _ (by rfl)
  refine pure_of_wpc fitTry Try.func96 (c := c96) (by kernel_rfl) (Nat.le_of_ble_eq_true (by kernel_rfl)) (R := fun y s => y = .ret ∧ O (look s.sl 4)) (fun E w hd hf => ?_) ?_
  · have e : c96 = seqs (firsts 1 c96) (behind 1 c96) := by kernel_rfl
    rw [e]
    refine wpc_stage (cx := cxS fun _ _ => none) (n := 60) (ds := [(0, false), (1, false)]) (gb := true) (r := 4) (O := O) (cxS_ok _) fitTry (by simp [firsts]) (by kernel_rfl) ?_ fun s h => ⟨rfl, h⟩
    show ((codeE (cxS fun _ _ => none) (evs (cxS fun _ _ => none) 60) (joins (firsts 1 c96)) (entry [rowv n its full, .fn g [] cap])).map (lfOf 0 [(0, false), (1, false)] true 4)).wp _
    rw [he.pre]
    have e2 : behind 1 c96 = .seq (.seq (cl (cl (behind 1 c96))) (.block 0 (.loop body96))) (cr (behind 1 c96)) := by kernel_rfl
    show WpC _ _ (behind 1 c96) _ _
    rw [e2]
    refine wpc_iloop (cx := cxS fun _ _ => none) (n := 60) (Inv := fun k : Nat => inv96 n its full g cap k) (J := fun k => k ≤ n ∧ idxF p 0 n = idxF p k (n - k)) (m := fun k => n - k) (Out := fun s => s = inv96 n its full g cap n ∧ idxF p 0 n = -1) (ds := ds96) (gb := true) (r := 4) (O := O) (cxS_ok _) fitTry (by kernel_rfl) (fun k hk => ?_) (fun s h => ⟨rfl, h⟩) (by kernel_rfl) ?_ fun s hs => ?_
    · show ((codeE (cxS fun _ _ => none) (evs (cxS fun _ _ => none) 60) body96 (inv96 n its full g cap k)).map (lfOf 0 ds96 true 4)).wp _
      rw [hr k]
      obtain ⟨h1, h2⟩ := hk
      refine ⟨fun hlt => ?_, fun hge => ?_⟩
      · have hlt : k < n := by have := of_decide_eq_true hlt; omega
        obtain ⟨m, hm⟩ : ∃ m, n - k = m + 1 := ⟨n - k - 1, by omega⟩
        rw [hm] at h2
        refine ⟨⟨by omega, by omega⟩, hC k hlt, fun hp => ?_, fun hp => ?_⟩
        · refine hO _ ?_
          rw [h2, idxF, if_pos hp]
        · refine ⟨k + 1, ?_, ⟨hlt, ?_⟩, by show n - (k + 1) < n - k; omega⟩
          · rw [IntWalk.i64_in _ (by omega)]; rfl
          · rw [h2, idxF, if_neg (by simp [hp]), show n - (k + 1) = m from by omega]
      · have hge : k = n := by have := of_decide_eq_false hge; omega
        subst hge
        refine ⟨rfl, rfl, ?_⟩
        rw [h2, Nat.sub_self]; rfl
    · show ((codeE (cxS fun _ _ => none) (evs (cxS fun _ _ => none) 60) (cl (cl (behind 1 c96))) (start96 n its full g cap)).map (lfOf 0 ds96 true 4)).wp _
      rw [he.init]
      exact ⟨rfl, 0, rfl, Nat.zero_le _, rfl⟩
    · obtain ⟨rfl, h⟩ := hs
      refine wpc_of_lf (cx := cxS fun _ _ => none) (n := 60) (ds := []) (gb := true) (r := 4) (O := O) (cxS_ok _) fitTry (by kernel_rfl) ?_ fun s h => ⟨rfl, h⟩
      show ((codeE (cxS fun _ _ => none) (evs (cxS fun _ _ => none) 60) (cr (behind 1 c96)) (inv96 n its full g cap n)).map (lfOf 0 [] true 4)).wp _
      rw [he.tail]
      intro E v hv E2
      cases hv
      rw [h]
      exact .v _ (by rfl)
  · rintro y s ⟨rfl, h⟩
    exact ⟨.inr rfl, h⟩
end
end Go.Proofs.Ytkmhabbpndcnkaa

/-
  PART: memory, plainly (0).
-/
namespace Go.Proofs.Ytkmhabbpndcnkaa
open Go.RowKit
noncomputable section

/-! Memory, plainly: the document's items. -/
structure RIt where
  loc : Int
  p : Int
  q : Int
  n : Int
  v : Nat → Int
  res : Bool
  own : Int
def lessR (x y : RIt) : Bool := lessB x.p x.q y.p y.q
def apartR (x y : RIt) : Bool := rapartB x.p x.q y.p y.q
def insR (x : RIt) : List RIt → List RIt
  | [] => [x]
  | y :: l => if lessR y x = true then y :: insR x l else x :: y :: l
theorem insR_cons (x y : RIt) (l : List RIt) : insR x (y :: l) = if lessR y x = true then y :: insR x l else x :: y :: l := rfl
def at_ (L : List RIt) (loc : Int) : List RIt := L.filter fun x => decide (x.loc = loc)
def rlist (L : List RIt) (loc : Int) : List RIt := (at_ L loc).foldl (fun o x => insR x o) []
/-- Two that may stand at one location. -/
def Fits (x y : RIt) : Prop := x.loc = y.loc → x.q ≠ y.q ∧ apartR x y = true
/-- One that may stand in a memory. -/
def May (N : Nat) (x : RIt) : Prop := 0 ≤ x.loc ∧ x.loc < N ∧ okS x.p x.q = true ∧ -1 ≤ x.own ∧ x.own ≤ 3 ∧ (x.own ≠ -1 → x.q ≠ 0) ∧ (x.res = true → x.q ≠ 0) ∧ ∀ j, 8 ≤ j → x.v j = 0
structure GoodL (N : Nat) (L : List RIt) : Prop where
  may : ∀ x ∈ L, May N x
  fits : L.Pairwise Fits
  start : ∀ i : Nat, i < N → ∃ x ∈ L, x.loc = i ∧ x.q = 0 ∧ x.res = false
theorem Fits.symm {x y : RIt} (h : Fits x y) : Fits y x := fun e => by
  obtain ⟨h1, h2⟩ := h e.symm
  refine ⟨fun e => h1 e.symm, ?_⟩
  simp only [apartR, rapartB, decide_eq_true_eq] at h2 ⊢
  exact ⟨h2.2.1, h2.1, by rw [Int.min_comm, Int.max_comm]; exact h2.2.2⟩
theorem less_of_q {x y : RIt} (h : x.q ≠ y.q) : lessR x y = decide (x.q < y.q) := by
  unfold lessR lessB
  by_cases h2 : x.q < y.q <;> simp [h2, h]
theorem insR_perm (x : RIt) : ∀ l, (insR x l).Perm (x :: l)
  | [] => .refl _
  | y :: l => by
    unfold insR
    split
    · exact ((insR_perm x l).cons y).trans (.swap x y l)
    · exact .refl _
theorem rlist_nil (loc : Int) : rlist [] loc = [] := rfl
theorem rlist_snoc (L : List RIt) (x : RIt) (loc : Int) : rlist (L ++ [x]) loc = if x.loc = loc then insR x (rlist L loc) else rlist L loc := by
  unfold rlist at_
  rw [List.filter_append, List.foldl_append]
  by_cases h : x.loc = loc <;> simp [h]
theorem rlist_perm (loc : Int) (L : List RIt) : (rlist L loc).Perm (at_ L loc) := by
  have key : ∀ (l o : List RIt), (l.foldl (fun o x => insR x o) o).Perm (o ++ l) := by
    intro l
    induction l with
    | nil => intro o; simp
    | cons x l ih =>
      intro o
      refine (ih (insR x o)).trans ?_
      refine ((insR_perm x o).append_right l).trans ?_
      simpa using (List.perm_middle (l₁ := o) (l₂ := l) (a := x)).symm
  simpa [rlist] using key (at_ L loc) []
theorem mem_rlist {L : List RIt} {loc : Int} {x : RIt} : x ∈ rlist L loc ↔ x ∈ L ∧ x.loc = loc := by
  rw [(rlist_perm loc L).mem_iff]
  simp [at_]
theorem length_rlist (L : List RIt) (loc : Int) : (rlist L loc).length = (at_ L loc).length := (rlist_perm loc L).length_eq
/-- In order. -/
def Up (l : List RIt) : Prop := l.Pairwise fun x y => x.q < y.q
theorem up_ins {x : RIt} : ∀ {l : List RIt}, Up l → (∀ y ∈ l, x.q ≠ y.q) → Up (insR x l)
  | [], _, _ => by simp [insR, Up]
  | y :: l, h, hq => by
    have hy := hq y (List.mem_cons_self ..)
    unfold insR
    rw [less_of_q (fun e => hy e.symm)]
    have h' := List.pairwise_cons.1 h
    split
    · rename_i hl
      have hl : y.q < x.q := by simpa using hl
      refine List.pairwise_cons.2 ⟨fun z hz => ?_, up_ins h'.2 fun z hz => hq z (List.mem_cons_of_mem _ hz)⟩
      rcases List.mem_cons.1 ((insR_perm x l).mem_iff.1 hz) with rfl | hz
      · exact hl
      · exact h'.1 z hz
    · rename_i hl
      have hl : ¬ y.q < x.q := by simpa using hl
      have hl : x.q < y.q := by omega
      refine List.pairwise_cons.2 ⟨fun z hz => ?_, h⟩
      rcases List.mem_cons.1 hz with rfl | hz
      · exact hl
      · exact Int.lt_trans hl (h'.1 z hz)
theorem up_rlist {N : Nat} (loc : Int) {L : List RIt} (h : GoodL N L) : Up (rlist L loc) := by
  have key : ∀ (l o : List RIt), Up o → l.Pairwise (fun x y => x.q ≠ y.q) → (∀ x ∈ l, ∀ y ∈ o, x.q ≠ y.q) → Up (l.foldl (fun o x => insR x o) o) := by
    intro l
    induction l with
    | nil => intro o h _ _; exact h
    | cons x l ih =>
      intro o h hp hx
      have hp' := List.pairwise_cons.1 hp
      refine ih (insR x o) (up_ins h (hx x (List.mem_cons_self ..))) hp'.2 fun y hy z hz => ?_
      rcases List.mem_cons.1 ((insR_perm x o).mem_iff.1 hz) with rfl | hz
      · exact fun e => hp'.1 y hy e.symm
      · exact hx y (List.mem_cons_of_mem _ hy) z hz
  refine key _ [] List.Pairwise.nil ?_ fun _ _ _ h => by cases h
  have h2 : (at_ L loc).Pairwise Fits := h.fits.sublist List.filter_sublist
  refine h2.imp_of_mem fun {a b} ha hb hf => (hf ?_).1
  simp [at_] at ha hb
  rw [ha.2, hb.2]
/-- The items' own changes change nothing of the order. -/
theorem rlist_map {g : RIt → RIt} (hg : ∀ x, (g x).loc = x.loc ∧ (g x).p = x.p ∧ (g x).q = x.q) (L : List RIt) (loc : Int) : rlist (L.map g) loc = (rlist L loc).map g := by
  have hi : ∀ x l, insR (g x) (l.map g) = (insR x l).map g := by
    intro x l
    induction l with
    | nil => rfl
    | cons y l ih =>
      simp only [List.map_cons, insR]
      have : lessR (g y) (g x) = lessR y x := by simp [lessR, hg]
      rw [this]
      split
      · simp [ih]
      · rfl
  have key : ∀ (l o : List RIt), (l.map g).foldl (fun o x => insR x o) (o.map g) = (l.foldl (fun o x => insR x o) o).map g := by
    intro l
    induction l with
    | nil => intro o; rfl
    | cons x l ih => intro o; simp only [List.map_cons, List.foldl_cons, hi, ih]
  have h2 : at_ (L.map g) loc = (at_ L loc).map g := by
    unfold at_
    rw [List.filter_map]
    congr 1
    refine List.filter_congr fun x _ => ?_
    simp [hg]
  unfold rlist
  rw [h2]
  exact key _ []
theorem ins_filter {f : RIt → Bool} {x : RIt} : ∀ {l : List RIt}, Up l → (∀ y ∈ l, x.q ≠ y.q) → (insR x l).filter f = if f x = true then insR x (l.filter f) else l.filter f
  | [], _, _ => by simp only [insR, List.filter_cons, List.filter_nil]
  | y :: l, h, hq => by
    have h' := List.pairwise_cons.1 h
    have ih := ins_filter (f := f) (x := x) h'.2 fun z hz => hq z (List.mem_cons_of_mem _ hz)
    have hy := hq y (List.mem_cons_self ..)
    have hless : lessR y x = decide (y.q < x.q) := less_of_q fun e => hy e.symm
    rw [insR_cons, hless]
    by_cases hl : y.q < x.q
    · rw [if_pos (by simpa using hl), List.filter_cons, ih]
      by_cases hfy : f y = true
      · rw [if_pos hfy, List.filter_cons, if_pos hfy]
        by_cases hfx : f x = true
        · rw [if_pos hfx, if_pos hfx, insR_cons, hless, if_pos (by simpa using hl)]
        · rw [if_neg hfx, if_neg hfx]
      · rw [if_neg hfy, List.filter_cons, if_neg hfy]
    · rw [if_neg (by simpa using hl)]
      have hall : ∀ (m : List RIt), (∀ z ∈ m, x.q < z.q) → insR x m = x :: m := by
        intro m hm
        cases m with
        | nil => rfl
        | cons z m =>
          have hz := hm z (List.mem_cons_self ..)
          unfold insR
          rw [less_of_q (by omega), if_neg (by simp; omega)]
      have hm : ∀ z ∈ (y :: l).filter f, x.q < z.q := fun z hz => by
        have hz := (List.mem_filter.1 hz).1
        rcases List.mem_cons.1 hz with rfl | hz
        · omega
        · have := h'.1 z hz; omega
      rw [List.filter_cons (x := x), hall _ hm]
theorem rlist_filter {N : Nat} {f : RIt → Bool} {L : List RIt} (h : GoodL N L) (loc : Int) : rlist (L.filter f) loc = (rlist L loc).filter f := by
  have key : ∀ (l o : List RIt), Up o → l.Pairwise (fun x y => x.q ≠ y.q) → (∀ x ∈ l, ∀ y ∈ o, x.q ≠ y.q) → (l.filter f).foldl (fun o x => insR x o) (o.filter f) = (l.foldl (fun o x => insR x o) o).filter f := by
    intro l
    induction l with
    | nil => intro o _ _ _; rfl
    | cons x l ih =>
      intro o h hp hx
      have hp' := List.pairwise_cons.1 hp
      have hxo := hx x (List.mem_cons_self ..)
      have ih' := ih (insR x o) (up_ins h hxo) hp'.2 fun y hy z hz => by
        rcases List.mem_cons.1 ((insR_perm x o).mem_iff.1 hz) with rfl | hz
        · exact fun e => hp'.1 y hy e.symm
        · exact hx y (List.mem_cons_of_mem _ hy) z hz
      rw [List.foldl_cons, ← ih', ins_filter h hxo, List.filter_cons]
      by_cases hf : f x = true
      · rw [if_pos hf, if_pos hf, List.foldl_cons]
      · rw [if_neg hf, if_neg hf]
  have h2 : at_ (L.filter f) loc = (at_ L loc).filter f := by
    unfold at_
    rw [List.filter_filter, List.filter_filter]
    refine List.filter_congr fun x _ => ?_
    rw [Bool.and_comm]
  unfold rlist
  rw [h2]
  refine key _ [] List.Pairwise.nil ?_ fun _ _ _ h => by cases h
  have h3 : (at_ L loc).Pairwise Fits := h.fits.sublist List.filter_sublist
  refine h3.imp_of_mem fun {a b} ha hb hf => (hf ?_).1
  simp [at_] at ha hb
  rw [ha.2, hb.2]
end
end Go.Proofs.Ytkmhabbpndcnkaa

/-
  PART: memory, plainly (1).
-/
namespace Go.Proofs.Ytkmhabbpndcnkaa
open Go.RowKit
noncomputable section
/-- The first place of which that is so; -1: none. -/
def findI {α : Type} (f : α → Bool) : List α → Int
  | [] => -1
  | x :: l => if f x = true then 0 else (if findI f l < 0 then -1 else findI f l + 1)
theorem findI_lo {α : Type} (f : α → Bool) (l : List α) : -1 ≤ findI f l := by
  induction l with
  | nil => exact Int.le_refl _
  | cons x l ih => unfold findI; split; decide; split <;> omega
theorem findI_neg {α : Type} {f : α → Bool} {l : List α} : findI f l < 0 ↔ ∀ x ∈ l, f x = false := by
  induction l with
  | nil => simp [findI]
  | cons x l ih =>
    unfold findI
    by_cases h : f x = true
    · simp [h]
    · rw [if_neg h]
      simp only [List.mem_cons, forall_eq_or_imp]
      have h' : f x = false := by simpa using h
      by_cases h2 : findI f l < 0
      · rw [if_pos h2]; exact ⟨fun _ => ⟨h', ih.1 h2⟩, fun _ => by decide⟩
      · rw [if_neg h2]; exact ⟨fun h => absurd h (by omega), fun h => absurd (ih.2 h.2) h2⟩
theorem findI_split {α : Type} {f : α → Bool} {l : List α} (h : 0 ≤ findI f l) : ∃ A x B, l = A ++ x :: B ∧ f x = true ∧ (∀ y ∈ A, f y = false) ∧ findI f l = A.length := by
  induction l with
  | nil => simp [findI] at h
  | cons x l ih =>
    unfold findI at h ⊢
    by_cases hf : f x = true
    · exact ⟨[], x, l, rfl, hf, (fun _ h => nomatch h), by rw [if_pos hf]; rfl⟩
    · rw [if_neg hf] at h ⊢
      by_cases h2 : findI f l < 0
      · rw [if_pos h2] at h; exact absurd h (by decide)
      · rw [if_neg h2] at h ⊢
        obtain ⟨A, y, B, h3, h4, h5, h6⟩ := ih (by omega)
        refine ⟨x :: A, y, B, by rw [h3]; rfl, h4, fun z hz => ?_, by rw [h6]; simp⟩
        rcases List.mem_cons.1 hz with rfl | hz
        · simpa using hf
        · exact h5 z hz
theorem findI_map {α β : Type} (f : β → Bool) (g : α → β) (l : List α) : findI f (l.map g) = findI (fun x => f (g x)) l := by
  induction l with
  | nil => rfl
  | cons x l ih => simp only [List.map_cons, findI, ih]
theorem findI_congr {α : Type} {f g : α → Bool} : ∀ {l : List α}, (∀ x ∈ l, f x = g x) → findI f l = findI g l
  | [], _ => rfl
  | x :: l, h => by
    unfold findI
    rw [h x (List.mem_cons_self ..), findI_congr fun y hy => h y (List.mem_cons_of_mem _ hy)]
/-- At most one. -/
def Uniq {α : Type} (f : α → Bool) (l : List α) : Prop := l.Pairwise fun x y => ¬ (f x = true ∧ f y = true)
theorem uniq_split {α : Type} {f : α → Bool} {A B : List α} {x : α} (h : Uniq f (A ++ x :: B)) (hx : f x = true) (hA : ∀ y ∈ A, f y = false) : ∀ y ∈ B, f y = false := fun y hy => by
  have h1 := List.pairwise_append.1 h
  have h2 := (List.pairwise_cons.1 h1.2.1).1 y hy
  cases hf : f y with
  | false => rfl
  | true => exact absurd ⟨hx, hf⟩ h2
theorem uniq_filter {α : Type} {f : α → Bool} {l : List α} (h : Uniq f l) (h0 : 0 ≤ findI f l) : l.take (findI f l).toNat ++ l.drop ((findI f l).toNat + 1) = l.filter fun x => !f x := by
  obtain ⟨A, x, B, rfl, hx, hA, he⟩ := findI_split h0
  have hB := uniq_split h hx hA
  rw [he, Int.toNat_natCast, List.take_left' rfl, List.drop_append]
  simp only [List.filter_append, List.filter_cons, hx]
  rw [List.filter_eq_self.2 fun y hy => by simp [hA y hy], List.filter_eq_self.2 fun y hy => by simp [hB y hy]]
  simp
theorem modify_at {α : Type} (g : α → α) (x : α) (B : List α) : ∀ A : List α, (A ++ x :: B).modify A.length g = A ++ g x :: B
  | [] => rfl
  | y :: A => by
    show y :: ((A ++ x :: B).modify A.length g) = _
    rw [modify_at g x B A]; rfl
theorem uniq_set {α : Type} {f : α → Bool} {l : List α} (h : Uniq f l) (g : α → α) (h0 : 0 ≤ findI f l) : l.modify (findI f l).toNat g = l.map fun x => if f x = true then g x else x := by
  obtain ⟨A, x, B, rfl, hx, hA, he⟩ := findI_split h0
  have hB := uniq_split h hx hA
  rw [he, Int.toNat_natCast, modify_at]
  simp only [List.map_append, List.map_cons, hx, if_true]
  rw [List.map_congr_left (g := id) fun y hy => by simp [hA y hy], List.map_congr_left (g := id) (l := B) fun y hy => by simp [hB y hy]]
  simp
end
end Go.Proofs.Ytkmhabbpndcnkaa

/-
  PART: memory, plainly (2).
-/
namespace Go.Proofs.Ytkmhabbpndcnkaa
open Go.RowKit
noncomputable section
def It.Ok (x : It) : Prop := x.a ≤ 2 ^ 40 ∧ x.b ≤ 2 ^ 40 ∧ ∀ j, 8 ≤ j → x.v j = 0
/-- Does an item meet another's span? -/
def meetsI (x y : It) : Bool := !apartS x.a x.b y.a y.b
/-- Is an item ahead of another? -/
def aheadI (x y : It) : Bool := decide (compS x.a x.b y.a y.b < 0)
/-- An item of the document's, as the program has it. -/
def toIt (x : RIt) : It := ⟨x.loc, x.p.toNat, x.q.toNat, x.n, x.v, x.res, x.own⟩
theorem okS_iff (p q : Int) : okS p q = true ↔ 0 ≤ p ∧ q ≤ 1048576 ∧ (p < q ∨ (p = 0 ∧ q = 0)) := by simp [okS]
theorem okS_mayS {p q : Int} (h : okS p q = true) : mayS p.toNat q.toNat = true := by
  rw [okS_iff] at h
  simp only [mayS, decide_eq_true_eq]
  omega
theorem toIt_ok {x : RIt} (h : okS x.p x.q = true) (hv : ∀ j, 8 ≤ j → x.v j = 0) : (toIt x).Ok := by
  rw [okS_iff] at h
  have : (2 : Nat) ^ 40 = 1099511627776 := by decide
  unfold It.Ok toIt
  rw [this]
  dsimp only
  exact ⟨by omega, by omega, hv⟩
theorem meets_toIt {x y : RIt} (hx : okS x.p x.q = true) (hy : okS y.p y.q = true) : meetsI (toIt x) (toIt y) = !apartR y x := by
  unfold meetsI apartR rapartB apartS toIt
  dsimp only
  rw [okS_mayS hx, okS_mayS hy]
  rw [okS_iff] at hx hy
  congr 1
  rw [decide_eq_decide]
  simp only [okS_iff, Int.min_def, Int.max_def, true_and, eq_self]
  split <;> split <;> omega
theorem ahead_toIt {x y : RIt} (hx : okS x.p x.q = true) (hy : okS y.p y.q = true) (hq : x.q ≠ y.q) : aheadI (toIt x) (toIt y) = decide (x.q < y.q) := by
  unfold aheadI compS toIt cmpS
  dsimp only
  rw [okS_mayS hx, okS_mayS hy]
  rw [okS_iff] at hx hy
  rw [decide_eq_decide, if_pos ⟨rfl, rfl⟩]
  by_cases h1 : x.q < y.q
  · have e : (if x.q.toNat < y.q.toNat then (-1 : Int) else if y.q.toNat < x.q.toNat then 1 else 0) = -1 := if_pos (by omega)
    rw [e]; simp [h1]
  · have e : (if x.q.toNat < y.q.toNat then (-1 : Int) else if y.q.toNat < x.q.toNat then 1 else 0) = 1 := by rw [if_neg (by omega), if_pos (by omega)]
    rw [e]; simp [h1]
/-- The program's own way to set one more. -/
def addP (l : List It) (x : It) : List It := if findI (aheadI x) l < 0 then l ++ [x] else l.take (findI (aheadI x) l).toNat ++ x :: l.drop (findI (aheadI x) l).toNat
theorem insR_split {x : RIt} : ∀ {l : List RIt}, Up l → (∀ y ∈ l, x.q ≠ y.q) → insR x l = if findI (fun y => decide (x.q < y.q)) l < 0 then l ++ [x] else l.take (findI (fun y => decide (x.q < y.q)) l).toNat ++ x :: l.drop (findI (fun y => decide (x.q < y.q)) l).toNat
  | [], _, _ => rfl
  | y :: l, h, hq => by
    have h' := List.pairwise_cons.1 h
    have hy := hq y (List.mem_cons_self ..)
    have ih := insR_split (x := x) h'.2 fun z hz => hq z (List.mem_cons_of_mem _ hz)
    rw [insR_cons, less_of_q fun e => hy e.symm]
    unfold findI
    by_cases hl : y.q < x.q
    · rw [if_pos (by simpa using hl), if_neg (c := decide (x.q < y.q) = true) (by simp; omega), ih]
      by_cases h2 : findI (fun y => decide (x.q < y.q)) l < 0
      · rw [if_pos h2, if_pos h2, if_pos (by decide)]; rfl
      · rw [if_neg h2, if_neg h2, if_neg (by omega)]
        obtain ⟨k, hk⟩ : ∃ k : Nat, findI (fun y => decide (x.q < y.q)) l = k := ⟨_, (Int.toNat_of_nonneg (by omega)).symm⟩
        rw [hk]
        have : ((k : Int) + 1).toNat = k + 1 := by omega
        rw [this, Int.toNat_natCast]; rfl
    · rw [if_neg (by simpa using hl), if_pos (c := decide (x.q < y.q) = true) (by simp; omega)]
      rfl
theorem add_toIt {N : Nat} {L : List RIt} {x : RIt} (hL : GoodL N L) (hx : okS x.p x.q = true) (hf : ∀ y ∈ L, y.loc = x.loc → x.q ≠ y.q) : addP ((rlist L x.loc).map toIt) (toIt x) = (rlist (L ++ [x]) x.loc).map toIt := by
  have hm : ∀ y ∈ rlist L x.loc, okS y.p y.q = true ∧ x.q ≠ y.q := fun y hy => by
    obtain ⟨h1, h2⟩ := mem_rlist.1 hy
    exact ⟨(hL.may y h1).2.2.1, hf y h1 h2⟩
  rw [rlist_snoc, if_pos rfl, insR_split (up_rlist _ hL) fun y hy => (hm y hy).2]
  unfold addP
  have e : findI (aheadI (toIt x)) ((rlist L x.loc).map toIt) = findI (fun y => decide (x.q < y.q)) (rlist L x.loc) := by
    rw [findI_map]
    exact findI_congr fun y hy => ahead_toIt hx (hm y hy).1 (hm y hy).2
  rw [e]
  split
  · simp
  · simp [List.map_take, List.map_drop]
/-- A program's memory. -/
structure PM where
  n : Int
  l : Nat → List It
structure Rel (m : PM) (N : Nat) (L : List RIt) : Prop where
  n : m.n = N
  lo : 1 ≤ N
  hi : N ≤ 4
  good : GoodL N L
  l : ∀ i : Nat, i < 4 → m.l i = (rlist L i).map toIt
def rightB (v : Nat → Int) : Bool := (List.range 4).all fun i => !(decide (v i < 0) || decide (v (i + 4) < v i))
def refBad (N : Int) (x : RIt) : Bool := decide (x.loc < 0) || decide (x.loc ≥ N) || decide (x.own < -1) || decide (x.own > 3) || !okS x.p x.q || (x.q == 0) || !rightB x.v || (x.res && (x.n != 0 || !zer8 x.v))
/-- The document's Add: what is there then, and the error. -/
def refAdd (N : Int) (L : List RIt) (x : RIt) : List RIt × Int :=
  if refBad N x = true then (L, 1) else if (at_ L x.loc).any (fun y => !apartR y x) = true then (L, 5) else if 40 ≤ (at_ L x.loc).length then (L, 4) else (L ++ [x], 0)
/-- The program's Add, of an item whose span may be. -/
def addM (m : PM) (x : It) : PM × Int :=
  if mayI m.n x.loc x.n x.own x.a x.b x.v x.res = false then (m, 1) else if 0 ≤ findI (meetsI x) (m.l x.loc.toNat) then (m, 5) else if 40 ≤ (m.l x.loc.toNat).length then (m, 4)
  else (⟨m.n, fun i => if i = x.loc.toNat then addP (m.l i) x else m.l i⟩, 0)
theorem rightB_mayB (v : Nat → Int) : rightB v = mayB v := by
  unfold rightB mayB
  congr 1
  funext i
  by_cases h1 : v i < 0 <;> by_cases h2 : v (i + 4) < v i <;> simp [h1, h2] <;> omega
theorem mayI_toIt (N : Int) {x : RIt} (hx : okS x.p x.q = true) : mayI N (toIt x).loc (toIt x).n (toIt x).own (toIt x).a (toIt x).b (toIt x).v (toIt x).res = !refBad N x := by
  unfold mayI refBad toIt locE
  dsimp only
  rw [okS_mayS hx, hx, rightB_mayB]
  rw [okS_iff] at hx
  have e : decide (x.p.toNat = 0 ∧ x.q.toNat = 0) = (x.q == 0) := by
    rw [Bool.eq_iff_iff]; simp; omega
  rw [e]
  generalize mayB x.v = b1
  generalize zer8 x.v = b2
  generalize (x.q == 0) = b3
  generalize x.res = b4
  by_cases h1 : x.loc < 0 <;> by_cases h2 : x.loc < N <;> by_cases h3 : x.own < -1 <;> by_cases h4 : x.own < 4 <;> by_cases h5 : x.n = 0 <;> cases b1 <;> cases b2 <;> cases b3 <;> cases b4 <;> simp [h1, h2, h3, h4, h5] <;> (try omega) <;> (rw [Bool.eq_iff_iff]; simp; omega)
theorem any_rlist {f : RIt → Bool} {L : List RIt} {loc : Int} : (at_ L loc).any f = true ↔ ∃ y ∈ rlist L loc, f y = true := by
  rw [List.any_eq_true]
  exact ⟨fun ⟨y, h1, h2⟩ => ⟨y, (rlist_perm loc L).mem_iff.2 h1, h2⟩, fun ⟨y, h1, h2⟩ => ⟨y, (rlist_perm loc L).mem_iff.1 h1, h2⟩⟩
theorem fits_of {x y : RIt} (hy : okS y.p y.q = true) (hx : okS x.p x.q = true) (h : apartR y x = true) (hq : x.q ≠ 0) : y.q ≠ x.q := fun e => by
  simp only [apartR, rapartB, decide_eq_true_eq, okS_iff] at h
  rw [okS_iff] at hx hy
  omega
theorem addM_rel {m : PM} {N : Nat} {L : List RIt} (h : Rel m N L) {x : RIt} (hx : okS x.p x.q = true) (hv : ∀ j, 8 ≤ j → x.v j = 0) : (addM m (toIt x)).2 = (refAdd N L x).2 ∧ Rel (addM m (toIt x)).1 N (refAdd N L x).1 := by
  unfold addM refAdd
  rw [h.n, mayI_toIt N hx]
  by_cases hb : refBad N x = true
  · rw [if_pos (by rw [hb]; rfl), if_pos hb]
    exact ⟨rfl, h⟩
  · have hb' : refBad N x = false := by simpa using hb
    rw [if_neg (by rw [hb']; simp), if_neg hb]
    simp only [refBad, Bool.or_eq_false_iff, decide_eq_false_iff_not, beq_eq_false_iff_ne] at hb'
    obtain ⟨⟨⟨⟨⟨⟨⟨b1, b2⟩, b3⟩, b4⟩, _⟩, b6⟩, b7⟩, b8⟩ := hb'
    have hi := h.hi
    obtain ⟨k, hk⟩ : ∃ k : Nat, x.loc = k := ⟨_, (Int.toNat_of_nonneg (by omega)).symm⟩
    have hk4 : k < 4 := by omega
    have el : m.l (toIt x).loc.toNat = (rlist L x.loc).map toIt := by
      show m.l x.loc.toNat = _
      rw [hk, Int.toNat_natCast]; exact h.l k hk4
    rw [el]
    have hmay : ∀ y ∈ rlist L x.loc, okS y.p y.q = true := fun y hy => (h.good.may y (mem_rlist.1 hy).1).2.2.1
    have e1 : 0 ≤ findI (meetsI (toIt x)) ((rlist L x.loc).map toIt) ↔ (at_ L x.loc).any (fun y => !apartR y x) = true := by
      rw [any_rlist, findI_map, findI_congr (g := fun y => !apartR y x) fun y hy => meets_toIt hx (hmay y hy)]
      have := findI_neg (f := fun y => !apartR y x) (l := rlist L x.loc)
      constructor
      · intro h0
        apply Classical.byContradiction
        intro hne
        have := this.2 fun y hy => by
          cases hf : (!apartR y x) with
          | false => rfl
          | true => exact absurd ⟨y, hy, hf⟩ hne
        omega
      · rintro ⟨y, hy, hf⟩
        apply Int.not_lt.1
        intro hlt
        have := this.1 hlt y hy
        rw [this] at hf
        cases hf
    by_cases h1 : (at_ L x.loc).any (fun y => !apartR y x) = true
    · rw [if_pos (e1.2 h1), if_pos h1]
      exact ⟨rfl, h⟩
    · rw [if_neg fun h2 => h1 (e1.1 h2), if_neg h1, List.length_map, length_rlist]
      by_cases h2 : 40 ≤ (at_ L x.loc).length
      · rw [if_pos h2, if_pos h2]; exact ⟨rfl, h⟩
      · rw [if_neg h2, if_neg h2]
        have hap : ∀ y ∈ L, y.loc = x.loc → apartR y x = true := fun y hy e => by
          cases ha : apartR y x with
          | true => rfl
          | false => exact absurd (any_rlist.2 ⟨y, mem_rlist.2 ⟨hy, e⟩, by simp [ha]⟩) h1
        have hq : ∀ y ∈ L, y.loc = x.loc → y.q ≠ x.q := fun y hy e => fits_of (h.good.may y hy).2.2.1 hx (hap y hy e) b6
        refine ⟨rfl, rfl, h.lo, h.hi, ⟨fun y hy => ?_, ?_, fun i hi => ?_⟩, fun i hi => ?_⟩
        · rcases List.mem_append.1 hy with hy | hy
          · exact h.good.may y hy
          · obtain rfl := List.mem_singleton.1 hy
            exact ⟨by omega, by omega, hx, by omega, by omega, fun _ => b6, fun _ => b6, hv⟩
        · refine List.pairwise_append.2 ⟨h.good.fits, List.pairwise_singleton .., fun y hy z hz => ?_⟩
          obtain rfl := List.mem_singleton.1 hz
          exact fun e => ⟨hq y hy e, hap y hy e⟩
        · obtain ⟨y, hy, h3⟩ := h.good.start i hi
          exact ⟨y, List.mem_append.2 (.inl hy), h3⟩
        · show (if i = (toIt x).loc.toNat then addP (m.l i) (toIt x) else m.l i) = _
          have e3 : (toIt x).loc.toNat = k := by show x.loc.toNat = k; omega
          rw [e3, h.l i hi, rlist_snoc]
          by_cases hik : i = k
          · subst hik
            rw [if_pos rfl, if_pos hk, ← hk, add_toIt h.good hx fun y hy e => fun e2 => hq y hy e e2.symm, rlist_snoc, if_pos rfl]
          · rw [if_neg hik, if_neg (by omega)]
end
end Go.Proofs.Ytkmhabbpndcnkaa

/-
  PART: memory, plainly (3).
-/
namespace Go.Proofs.Ytkmhabbpndcnkaa
open Go.RowKit
noncomputable section
def ownedB (loc to owner : Int) (res : Bool) (x : RIt) : Bool := decide (owner ≥ 0) && (x.loc == loc) && (x.q == to) && (x.own == owner) && (x.res == res)
def refFulfil (N : Int) (L : List RIt) (loc to owner : Int) : List RIt × Int :=
  if loc < 0 ∨ loc ≥ N then (L, 1) else if findI (ownedB loc to owner false) L < 0 then (L, 6) else (L.modify (findI (ownedB loc to owner false) L).toNat fun x => { x with own := -1 }, 0)
def refCancel (N : Int) (L : List RIt) (loc to owner : Int) : List RIt × Int :=
  if loc < 0 ∨ loc ≥ N then (L, 1) else if findI (ownedB loc to owner true) L < 0 then (L, 6) else (L.take (findI (ownedB loc to owner true) L).toNat ++ L.drop ((findI (ownedB loc to owner true) L).toNat + 1), 0)
def findB (to owner : Int) (res : Bool) (y : It) : Bool := (y.own == owner) && (y.res == res) && (endS y.a y.b y.b == to) && !(decide (y.a = 0) && decide (y.b = 0))
def fulM (m : PM) (loc to owner : Int) : PM × Int :=
  if locE m.n loc = false then (m, 1) else if findI (findB to owner false) (m.l loc.toNat) < 0 ∨ owner = -1 then (m, 6)
  else (⟨m.n, fun i => if i = loc.toNat then (m.l i).modify (findI (findB to owner false) (m.l loc.toNat)).toNat fun y => { y with own := -1 } else m.l i⟩, 0)
def canM (m : PM) (loc to owner : Int) : PM × Int :=
  if locE m.n loc = false then (m, 1) else if findI (findB to owner true) (m.l loc.toNat) < 0 ∨ owner = -1 then (m, 6)
  else (⟨m.n, fun i => if i = loc.toNat then (m.l i).take (findI (findB to owner true) (m.l loc.toNat)).toNat ++ (m.l i).drop ((findI (findB to owner true) (m.l loc.toNat)).toNat + 1) else m.l i⟩, 0)
theorem owned_uniq {N : Nat} {L : List RIt} (h : GoodL N L) (loc to owner : Int) (res : Bool) : Uniq (ownedB loc to owner res) L := by
  refine h.fits.imp fun {x y} hf => ?_
  rintro ⟨h1, h2⟩
  simp only [ownedB, Bool.and_eq_true, beq_iff_eq] at h1 h2
  exact (hf (by rw [h1.1.1.1.2, h2.1.1.1.2])).1 (by rw [h1.1.1.2, h2.1.1.2])
theorem owned_uniq_r {N : Nat} {L : List RIt} (h : GoodL N L) (loc to owner : Int) (res : Bool) : Uniq (ownedB loc to owner res) (rlist L loc) := by
  refine (up_rlist loc h).imp fun {x y} hlt => ?_
  rintro ⟨h1, h2⟩
  simp only [ownedB, Bool.and_eq_true, beq_iff_eq] at h1 h2
  rw [h1.1.1.2, h2.1.1.2] at hlt
  exact absurd hlt (Int.lt_irrefl _)
theorem end_toIt {x : RIt} (h : okS x.p x.q = true) : endS (toIt x).a (toIt x).b (toIt x).b = x.q := by
  unfold endS toIt
  dsimp only
  rw [okS_mayS h, if_pos rfl]
  rw [okS_iff] at h
  omega
theorem from_toIt {x : RIt} (h : okS x.p x.q = true) : endS (toIt x).a (toIt x).b (toIt x).a = x.p := by
  unfold endS toIt
  dsimp only
  rw [okS_mayS h, if_pos rfl]
  rw [okS_iff] at h
  omega
theorem find_toIt {N : Nat} {x : RIt} (h : May N x) {loc to owner : Int} (hl : x.loc = loc) (ho : owner ≠ -1) (res : Bool) : findB to owner res (toIt x) = ownedB loc to owner res x := by
  unfold findB ownedB
  rw [end_toIt h.2.2.1]
  have h1 := h.2.2.2.1
  have h2 := h.2.2.2.2.2.1
  have h3 := (okS_iff _ _).1 h.2.2.1
  have e : (!(decide ((toIt x).a = 0) && decide ((toIt x).b = 0))) = !(x.q == 0) := by
    congr 1
    rw [Bool.eq_iff_iff]; simp [toIt]; omega
  rw [e]
  show ((x.own == owner) && (x.res == res) && (x.q == to) && !(x.q == 0)) = _
  rw [hl]
  by_cases a1 : x.own = owner
  · subst a1
    have a2 := h2 ho
    have a3 : decide (x.own ≥ 0) = true := by simp; omega
    have a4 : (x.q == 0) = false := by simpa using a2
    rw [a3, a4]
    cases (x.res == res) <;> cases (x.q == to) <;> simp
  · have a2 : (x.own == owner) = false := by simpa using a1
    rw [a2]; simp
theorem findI_iff {α : Type} {f : α → Bool} {l : List α} : 0 ≤ findI f l ↔ ∃ x ∈ l, f x = true := by
  have := findI_neg (f := f) (l := l)
  constructor
  · intro h0
    obtain ⟨A, x, B, h1, h2, _⟩ := findI_split h0
    exact ⟨x, by rw [h1]; simp, h2⟩
  · rintro ⟨x, hx, hf⟩
    apply Int.not_lt.1
    intro hlt
    rw [this.1 hlt x hx] at hf
    cases hf
theorem find_rlist {N : Nat} {L : List RIt} (h : GoodL N L) {loc to owner : Int} (ho : owner ≠ -1) (res : Bool) : findI (findB to owner res) ((rlist L loc).map toIt) = findI (ownedB loc to owner res) (rlist L loc) := by
  rw [findI_map]
  exact findI_congr fun x hx => find_toIt (h.may x (mem_rlist.1 hx).1) (mem_rlist.1 hx).2 ho res
theorem find_sign {L : List RIt} {loc to owner : Int} {res : Bool} : findI (ownedB loc to owner res) (rlist L loc) < 0 ↔ findI (ownedB loc to owner res) L < 0 := by
  rw [findI_neg, findI_neg]
  constructor
  · intro h x hx
    by_cases e : x.loc = loc
    · exact h x (mem_rlist.2 ⟨hx, e⟩)
    · have : (x.loc == loc) = false := by simpa using e
      simp [ownedB, this]
  · intro h x hx
    exact h x (mem_rlist.1 hx).1
theorem owned_neg {L : List RIt} {loc to owner : Int} {res : Bool} (h : owner < 0) : findI (ownedB loc to owner res) L < 0 := by
  rw [findI_neg]
  intro x _
  have : decide (owner ≥ 0) = false := by simp; omega
  simp [ownedB, this]
section
variable {m : PM} {N : Nat} {L : List RIt} (h : Rel m N L) (loc to owner : Int)
include h
theorem locE_iff (i : Int) : locE m.n i = true ↔ 0 ≤ i ∧ i < N := by
  unfold locE
  rw [h.n]
  by_cases h1 : i ≥ 0 <;> simp [h1]
theorem fulM_rel : (fulM m loc to owner).2 = (refFulfil N L loc to owner).2 ∧ Rel (fulM m loc to owner).1 N (refFulfil N L loc to owner).1 := by
  unfold fulM refFulfil
  by_cases hl : 0 ≤ loc ∧ loc < N
  · have := (locE_iff h loc).2 hl
    have hi := h.hi
    rw [this, if_neg (by simp), if_neg (c := loc < 0 ∨ loc ≥ (N : Int)) (by omega)]
    obtain ⟨k, hk⟩ : ∃ k : Nat, loc = k := ⟨_, (Int.toNat_of_nonneg hl.1).symm⟩
    have hk4 : k < 4 := by omega
    have el : m.l loc.toNat = (rlist L loc).map toIt := by rw [hk, Int.toNat_natCast]; exact h.l k hk4
    rw [el]
    by_cases ho : owner = -1
    · rw [if_pos (.inr ho), if_pos (owned_neg (by omega))]
      exact ⟨rfl, h⟩
    · rw [find_rlist h.good ho]
      by_cases h1 : findI (ownedB loc to owner false) L < 0
      · rw [if_pos (.inl (find_sign.2 h1)), if_pos h1]; exact ⟨rfl, h⟩
      · have h2 : ¬ findI (ownedB loc to owner false) (rlist L loc) < 0 := fun e => h1 (find_sign.1 e)
        rw [if_neg (by rintro (e | e); exact h2 e; exact ho e), if_neg h1]
        have eL := uniq_set (owned_uniq h.good loc to owner false) (fun x => { x with own := -1 }) (Int.not_lt.1 h1)
        have eR := uniq_set (owned_uniq_r h.good loc to owner false) (fun x => { x with own := -1 }) (Int.not_lt.1 h2)
        refine ⟨rfl, h.n, h.lo, h.hi, ?_, fun i hi => ?_⟩
        · show GoodL N (L.modify _ _)
          rw [eL]
          have e1 : ∀ z : RIt, (if ownedB loc to owner false z = true then { z with own := -1 } else z).loc = z.loc ∧ (if ownedB loc to owner false z = true then { z with own := -1 } else z).p = z.p ∧ (if ownedB loc to owner false z = true then { z with own := -1 } else z).q = z.q ∧ (if ownedB loc to owner false z = true then { z with own := -1 } else z).res = z.res := fun z => by split <;> exact ⟨rfl, rfl, rfl, rfl⟩
          refine ⟨fun x hx => ?_, List.pairwise_map.2 (h.good.fits.imp fun {x y} hf => ?_), fun i hi => ?_⟩
          · obtain ⟨y, hy, rfl⟩ := List.mem_map.1 hx
            have hm := h.good.may y hy
            split
            · exact ⟨hm.1, hm.2.1, hm.2.2.1, Int.le_refl _, (by show (-1 : Int) ≤ 3; decide), fun e => absurd rfl e, hm.2.2.2.2.2.2⟩
            · exact hm
          · unfold Fits apartR at hf ⊢
            rw [(e1 x).1, (e1 x).2.1, (e1 x).2.2.1, (e1 y).1, (e1 y).2.1, (e1 y).2.2.1]
            exact hf
          · obtain ⟨y, hy, h3⟩ := h.good.start i hi
            refine ⟨_, List.mem_map.2 ⟨y, hy, rfl⟩, ?_⟩
            rw [(e1 y).1, (e1 y).2.2.1, (e1 y).2.2.2]
            exact h3
        · show (if i = loc.toNat then List.modify (m.l i) _ _ else m.l i) = (rlist (L.modify _ _) i).map toIt
          rw [eL, rlist_map fun z => by split <;> exact ⟨rfl, rfl, rfl⟩]
          by_cases e : i = loc.toNat
          · rw [if_pos e]
            subst e
            rw [el, Int.toNat_of_nonneg hl.1, ← eR]
            clear eL eR
            generalize (findI (ownedB loc to owner false) (rlist L loc)).toNat = j
            generalize rlist L loc = l
            induction l generalizing j with
            | nil => cases j <;> rfl
            | cons y l ih => cases j with
              | zero => rfl
              | succ j =>
                show toIt y :: List.modify (l.map toIt) j _ = toIt y :: (l.modify j _).map toIt
                rw [ih j]
          · rw [if_neg e, h.l i hi]
            congr 1
            rw [List.map_congr_left (g := id) fun y hy => ?_, List.map_id]
            have hy := (mem_rlist.1 hy).2
            have : ownedB loc to owner false y = false := by
              have : (y.loc == loc) = false := by rw [hy]; simp; omega
              simp [ownedB, this]
            rw [this]; rfl
  · have : locE m.n loc = false := by
      cases e : locE m.n loc with
      | false => rfl
      | true => exact absurd ((locE_iff h loc).1 e) hl
    rw [if_pos this, if_pos (c := loc < 0 ∨ loc ≥ (N : Int)) (by omega)]
    exact ⟨rfl, h⟩
theorem canM_rel : (canM m loc to owner).2 = (refCancel N L loc to owner).2 ∧ Rel (canM m loc to owner).1 N (refCancel N L loc to owner).1 := by
  unfold canM refCancel
  by_cases hl : 0 ≤ loc ∧ loc < N
  · have := (locE_iff h loc).2 hl
    have hi := h.hi
    rw [this, if_neg (by simp), if_neg (c := loc < 0 ∨ loc ≥ (N : Int)) (by omega)]
    obtain ⟨k, hk⟩ : ∃ k : Nat, loc = k := ⟨_, (Int.toNat_of_nonneg hl.1).symm⟩
    have hk4 : k < 4 := by omega
    have el : m.l loc.toNat = (rlist L loc).map toIt := by rw [hk, Int.toNat_natCast]; exact h.l k hk4
    rw [el]
    by_cases ho : owner = -1
    · rw [if_pos (.inr ho), if_pos (owned_neg (by omega))]
      exact ⟨rfl, h⟩
    · rw [find_rlist h.good ho]
      by_cases h1 : findI (ownedB loc to owner true) L < 0
      · rw [if_pos (.inl (find_sign.2 h1)), if_pos h1]; exact ⟨rfl, h⟩
      · have h2 : ¬ findI (ownedB loc to owner true) (rlist L loc) < 0 := fun e => h1 (find_sign.1 e)
        rw [if_neg (by rintro (e | e); exact h2 e; exact ho e), if_neg h1]
        have eL := uniq_filter (owned_uniq h.good loc to owner true) (Int.not_lt.1 h1)
        have eR := uniq_filter (owned_uniq_r h.good loc to owner true) (Int.not_lt.1 h2)
        refine ⟨rfl, h.n, h.lo, h.hi, ?_, fun i hi => ?_⟩
        · show GoodL N (L.take _ ++ L.drop _)
          rw [eL]
          refine ⟨fun x hx => h.good.may x (List.mem_filter.1 hx).1, h.good.fits.sublist List.filter_sublist, fun i hi => ?_⟩
          obtain ⟨y, hy, h3⟩ := h.good.start i hi
          refine ⟨y, List.mem_filter.2 ⟨hy, ?_⟩, h3⟩
          simp [ownedB, h3.2.2]
        · show (if i = loc.toNat then (m.l i).take _ ++ (m.l i).drop _ else m.l i) = (rlist (L.take _ ++ L.drop _) i).map toIt
          rw [eL, rlist_filter h.good]
          by_cases e : i = loc.toNat
          · rw [if_pos e]
            subst e
            rw [el, Int.toNat_of_nonneg hl.1, ← eR, ← List.map_take, ← List.map_drop, ← List.map_append]
          · rw [if_neg e, h.l i hi]
            congr 1
            rw [List.filter_eq_self.2 fun y hy => ?_]
            have hy := (mem_rlist.1 hy).2
            have : ownedB loc to owner true y = false := by
              have : (y.loc == loc) = false := by rw [hy]; simp; omega
              simp [ownedB, this]
            rw [this]; rfl
  · have : locE m.n loc = false := by
      cases e : locE m.n loc with
      | false => rfl
      | true => exact absurd ((locE_iff h loc).1 e) hl
    rw [if_pos this, if_pos (c := loc < 0 ∨ loc ≥ (N : Int)) (by omega)]
    exact ⟨rfl, h⟩
end
end
end Go.Proofs.Ytkmhabbpndcnkaa

/-
  PART: memory, plainly (4).
-/
namespace Go.Proofs.Ytkmhabbpndcnkaa
open Go.RowKit
noncomputable section
def atB (loc to : Int) (x : RIt) : Bool := (x.loc == loc) && (x.q == to) && !x.res
def refAt (L : List RIt) (loc to : Int) : Option RIt := L.find? (atB loc to)
def atP (to : Int) (y : It) : Bool := !y.res && (endS y.a y.b y.b == to)
def atM (m : PM) (loc to : Int) : Option It := if locE m.n loc = true then (m.l loc.toNat).find? (atP to) else none
def refLast (L : List RIt) (loc : Int) : Option RIt := (rlist L loc).reverse.find? fun x => !x.res
def lastM (m : PM) (loc : Int) : Option It := if locE m.n loc = true then (m.l loc.toNat).reverse.find? (fun x => !x.res) else none
def listM (m : PM) (loc : Int) : List It := if locE m.n loc = true then m.l loc.toNat else []
def refOwned (N : Nat) (L : List RIt) (owner : Int) : List RIt := (List.range N).flatMap fun i : Nat => (rlist L i).filter fun x => x.own == owner
def ownedM (m : PM) (owner : Int) : List It := (List.range 4).flatMap fun i => (m.l i).filter fun x => x.own == owner
def refClosed (N : Nat) (L : List RIt) (v : Nat → Int) : Bool := (List.range 4).all fun i => if N ≤ i then v i == 0 && v (i + 4) == 0 else (refAt L i (v i)).isSome && (refAt L i (v (i + 4))).isSome
def okAt (m : PM) (i : Nat) (t : Int) : Bool := (atM m i t).isSome || (!locE m.n i && t == 0)
def closedM (m : PM) (v : Nat → Int) : Bool := (List.range 4).all fun i => okAt m i (v i) && okAt m i (v (i + 4))
theorem find_uniq {α : Type} {f : α → Bool} {l l' : List α} (hp : l.Perm l') (h : Uniq f l) : l.find? f = l'.find? f := by
  have h' : Uniq f l' := h.perm hp fun {x y} hxy hyx => hxy ⟨hyx.2, hyx.1⟩
  have key : ∀ {l : List α}, Uniq f l → ∀ x, l.find? f = some x ↔ x ∈ l ∧ f x = true := by
    intro l hl x
    constructor
    · intro hx; exact ⟨List.mem_of_find?_eq_some hx, List.find?_some hx⟩
    · rintro ⟨hx, hf⟩
      induction l with
      | nil => cases hx
      | cons y l ih =>
        have hl' := List.pairwise_cons.1 hl
        rw [List.find?_cons]
        rcases List.mem_cons.1 hx with rfl | hx
        · rw [hf]
        · cases hy : f y with
          | true => exact absurd ⟨hy, hf⟩ (hl'.1 x hx)
          | false => exact ih hl'.2 hx
  apply Option.ext
  intro x
  rw [key h, key h', hp.mem_iff]
theorem find_at (L : List RIt) (loc to : Int) : L.find? (atB loc to) = (at_ L loc).find? (atB loc to) := by
  unfold at_
  rw [List.find?_filter]
  congr 1
  funext x
  unfold atB
  by_cases e : x.loc = loc
  · simp [e, Bool.beq_eq_decide_eq]
  · have : (x.loc == loc) = false := by simpa using e
    simp [this, e]
theorem find_map_toIt {f : It → Bool} {g : RIt → Bool} {l : List RIt} (h : ∀ x ∈ l, f (toIt x) = g x) : (l.map toIt).find? f = (l.find? g).map toIt := by
  induction l with
  | nil => rfl
  | cons x l ih =>
    rw [List.map_cons, List.find?_cons, List.find?_cons, h x (List.mem_cons_self ..), ih fun y hy => h y (List.mem_cons_of_mem _ hy)]
    cases g x <;> rfl
section
variable {m : PM} {N : Nat} {L : List RIt} (h : Rel m N L)
include h
theorem rlist_out {loc : Int} (hl : ¬ (0 ≤ loc ∧ loc < N)) : rlist L loc = [] := by
  apply List.eq_nil_iff_forall_not_mem.2
  intro x hx
  obtain ⟨h1, h2⟩ := mem_rlist.1 hx
  have := h.good.may x h1
  exact hl ⟨by have := this.1; omega, by have := this.2.1; omega⟩
theorem listM_rel (loc : Int) : listM m loc = (rlist L loc).map toIt := by
  unfold listM
  by_cases hl : 0 ≤ loc ∧ loc < N
  · rw [if_pos ((locE_iff h loc).2 hl)]
    obtain ⟨k, hk⟩ : ∃ k : Nat, loc = k := ⟨_, (Int.toNat_of_nonneg hl.1).symm⟩
    have hi := h.hi
    rw [hk, Int.toNat_natCast]; exact h.l k (by omega)
  · rw [if_neg fun e => hl ((locE_iff h loc).1 e), rlist_out h hl]; rfl
theorem atM_eq (loc to : Int) : atM m loc to = (listM m loc).find? (atP to) := by
  have _ := h
  unfold atM listM
  split <;> rfl
theorem lastM_eq (loc : Int) : lastM m loc = (listM m loc).reverse.find? (fun x => !x.res) := by
  have _ := h
  unfold lastM listM
  split <;> rfl
theorem atM_rel (loc to : Int) : atM m loc to = (refAt L loc to).map toIt := by
  rw [atM_eq h, listM_rel h]
  unfold refAt
  rw [find_at]
  have hu : Uniq (atB loc to) (rlist L loc) := (up_rlist loc h.good).imp fun {x y} hlt => by
    rintro ⟨h1, h2⟩
    simp only [atB, Bool.and_eq_true, beq_iff_eq] at h1 h2
    rw [h1.1.2, h2.1.2] at hlt
    exact absurd hlt (Int.lt_irrefl _)
  rw [← find_uniq (rlist_perm loc L) hu]
  refine find_map_toIt fun x hx => ?_
  obtain ⟨h1, h2⟩ := mem_rlist.1 hx
  unfold atP atB
  rw [end_toIt (h.good.may x h1).2.2.1, h2]
  show ((!x.res) && (x.q == to)) = _
  cases x.res <;> simp
theorem lastM_rel (loc : Int) : lastM m loc = (refLast L loc).map toIt := by
  rw [lastM_eq h, listM_rel h, ← List.map_reverse]
  exact find_map_toIt fun x _ => rfl
theorem ownedM_rel (owner : Int) : ownedM m owner = (refOwned N L owner).map toIt := by
  unfold ownedM refOwned
  rw [List.map_flatMap]
  have e : ∀ i, i < 4 → (m.l i).filter (fun x => x.own == owner) = ((rlist L i).filter fun x => x.own == owner).map toIt := fun i hi => by
    rw [h.l i hi, List.filter_map]; rfl
  have o : ∀ i : Int, (N : Int) ≤ i → rlist L i = [] := fun i hi => rlist_out h (by omega)
  have hlo := h.lo
  have hhi := h.hi
  have : N = 1 ∨ N = 2 ∨ N = 3 ∨ N = 4 := by omega
  rcases this with e0 | e0 | e0 | e0 <;> subst e0 <;> simp [List.range_succ, e, o]
theorem okAt_rel {i : Nat} (t : Int) : okAt m i t = if N ≤ i then t == 0 else (refAt L i t).isSome := by
  unfold okAt
  rw [atM_rel h]
  by_cases hl : N ≤ i
  · rw [if_pos hl]
    have h1 : locE m.n i = false := by
      cases e : locE m.n i with
      | false => rfl
      | true => exact absurd ((locE_iff h i).1 e) (by omega)
    have h2 : refAt L i t = none := by
      unfold refAt
      rw [List.find?_eq_none]
      intro x hx hf
      simp only [atB, Bool.and_eq_true, beq_iff_eq] at hf
      have := (h.good.may x hx).2.1
      omega
    rw [h1, h2]; simp
  · rw [if_neg hl, (locE_iff h i).2 (by omega)]; simp
theorem closedM_rel (v : Nat → Int) : closedM m v = refClosed N L v := by
  unfold closedM refClosed
  congr 1
  funext i
  rw [okAt_rel h, okAt_rel h]
  by_cases hl : N ≤ i
  · simp [hl]
  · simp [hl]
end
/-- The memory at first. -/
def beginL (start : List Int) : Nat → List RIt := fun i => match start[i]? with
  | some n => [⟨i, 0, 0, n, fun _ => 0, false, -1⟩]
  | none => []
def refBegin (start : List Int) : List RIt := (List.range start.length).flatMap (beginL start)
def beginM (start : List Int) : PM := ⟨start.length, fun i => (beginL start i).map toIt⟩
theorem begin_rel {start : List Int} (h1 : 1 ≤ start.length) (h2 : start.length ≤ 4) : Rel (beginM start) start.length (refBegin start) := by
  refine ⟨rfl, h1, h2, ⟨fun x hx => ?_, ?_, fun i hi => ?_⟩, fun i hi => ?_⟩
  · obtain ⟨i, hi, hx⟩ := List.mem_flatMap.1 hx
    have hi := List.mem_range.1 hi
    unfold beginL at hx
    rw [List.getElem?_eq_getElem hi] at hx
    obtain rfl := List.mem_singleton.1 hx
    refine ⟨by show (0 : Int) ≤ (i : Int); omega, by show (i : Int) < _; omega, by show okS 0 0 = true; decide, by show (-1 : Int) ≤ -1; decide, by show (-1 : Int) ≤ 3; decide, fun e => absurd rfl e, (fun e => by cases e), fun _ _ => rfl⟩
  · match start, h1, h2 with
    | [a], _, _ => exact List.pairwise_singleton ..
    | [a, b], _, _ => simp [refBegin, beginL, List.range_succ, Fits]
    | [a, b, c], _, _ => simp [refBegin, beginL, List.range_succ, Fits]
    | [a, b, c, d], _, _ => simp [refBegin, beginL, List.range_succ, Fits]
  · refine ⟨⟨i, 0, 0, start[i], fun _ => 0, false, -1⟩, List.mem_flatMap.2 ⟨i, List.mem_range.2 hi, ?_⟩, rfl, rfl, rfl⟩
    unfold beginL
    rw [List.getElem?_eq_getElem hi]
    exact List.mem_singleton.2 rfl
  · show (beginL start i).map toIt = _
    congr 1
    match start, h1, h2, i, hi with
    | [a], _, _, 0, _ => rfl
    | [a], _, _, 1, _ => rfl
    | [a], _, _, 2, _ => rfl
    | [a], _, _, 3, _ => rfl
    | [a, b], _, _, 0, _ => rfl
    | [a, b], _, _, 1, _ => rfl
    | [a, b], _, _, 2, _ => rfl
    | [a, b], _, _, 3, _ => rfl
    | [a, b, c], _, _, 0, _ => rfl
    | [a, b, c], _, _, 1, _ => rfl
    | [a, b, c], _, _, 2, _ => rfl
    | [a, b, c], _, _, 3, _ => rfl
    | [a, b, c, d], _, _, 0, _ => rfl
    | [a, b, c, d], _, _, 1, _ => rfl
    | [a, b, c, d], _, _, 2, _ => rfl
    | [a, b, c, d], _, _, 3, _ => rfl
end
end Go.Proofs.Ytkmhabbpndcnkaa

/-
  PART: memory: IndexFunc on rows of items, by each function that is handed to it.
-/
namespace Go.Proofs.Ytkmhabbpndcnkaa
open Go.RowKit
noncomputable section
theorem eqs94 (x : It) : Eqs96 (.func 94) [.fz x.cells 0] := ⟨fun _ _ _ => by kernel_rfl, fun _ _ _ => by kernel_rfl, fun _ _ _ _ => by kernel_rfl⟩
theorem eqs97 (x : It) : Eqs96 (.func 97) [.fz x.cells 0] := ⟨fun _ _ _ => by kernel_rfl, fun _ _ _ => by kernel_rfl, fun _ _ _ _ => by kernel_rfl⟩
theorem eqs105 (to : Int) : Eqs96 (.func 105) [.fz [iv to] 0] := ⟨fun _ _ _ => by kernel_rfl, fun _ _ _ => by kernel_rfl, fun _ _ _ _ => by kernel_rfl⟩
def cap111 (owner : Int) (res : Bool) (to : Int) : List AV := [.fz [iv owner] 0, .fz [.v (.bool res)] 0, .fz [iv to] 0]
theorem eqs111 (owner : Int) (res : Bool) (to : Int) : Eqs96 (.func 111) (cap111 owner res to) := ⟨fun _ _ _ => by kernel_rfl, fun _ _ _ => by kernel_rfl, fun _ _ _ _ => by kernel_rfl⟩
theorem round94 (n : Nat) (its : Nat → It) (full : Bool) (x : It) : Round96 n its full (.func 94) [.fz x.cells 0] (fun i => (IsF (F x.a) ∧ IsF (F x.b)) ∧ IsF (F (its i).a) ∧ IsF (F (its i).b)) (fun i => !apartS (unF (F x.a)) (unF (F x.b)) (unF (F (its i).a)) (unF (F (its i).b))) := by
  intro i
  kernel_rfl
theorem round97 (n : Nat) (its : Nat → It) (full : Bool) (x : It) : Round96 n its full (.func 97) [.fz x.cells 0] (fun i => (IsF (F x.a) ∧ IsF (F x.b)) ∧ IsF (F (its i).a) ∧ IsF (F (its i).b)) (fun i => decide (compS (unF (F x.a)) (unF (F x.b)) (unF (F (its i).a)) (unF (F (its i).b)) < 0)) := by
  intro i
  kernel_rfl
def p111 (owner : Int) (res : Bool) (to : Int) (y : It) : Bool :=
  if (y.own == owner) = true then if (y.res == res) = true then if (endS (unF (F y.a)) (unF (F y.b)) (unF (F y.b)) == to) = true then !(eqF (F y.a) 0 && eqF (F y.b) 0) else false else false else false
theorem round111 (n : Nat) (its : Nat → It) (full : Bool) (owner : Int) (res : Bool) (to : Int) : Round96 n its full (.func 111) (cap111 owner res to) (fun i => ((its i).own == owner) = true → ((its i).res == res) = true → IsF (F (its i).a) ∧ IsF (F (its i).b)) (fun i => p111 owner res to (its i)) := by
  intro i
  kernel_rfl
def p105 (to : Int) (y : It) : Bool := if (!y.res) = true then endS (unF (F y.a)) (unF (F y.b)) (unF (F y.b)) == to else false
theorem round105 (n : Nat) (its : Nat → It) (full : Bool) (to : Int) : Round96 n its full (.func 105) [.fz [iv to] 0] (fun i => (!(its i).res) = true → IsF (F (its i).a) ∧ IsF (F (its i).b)) (fun i => p105 to (its i)) := by
  intro i
  kernel_rfl
theorem ok_isF {x : It} (h : x.Ok) : IsF (F x.a) ∧ IsF (F x.b) := ⟨isF _ h.1, isF _ h.2.1⟩
theorem p111_eq {owner : Int} {res : Bool} {to : Int} {y : It} (h : y.Ok) : p111 owner res to y = findB to owner res y := by
  unfold p111 findB
  rw [unF_F h.1, unF_F h.2.1, eqF_zero h.1, eqF_zero h.2.1]
  cases (y.own == owner) <;> cases (y.res == res) <;> cases (endS y.a y.b y.b == to) <;> simp
theorem p105_eq {to : Int} {y : It} (h : y.Ok) : p105 to y = atP to y := by
  unfold p105 atP
  rw [unF_F h.1, unF_F h.2.1]
  cases y.res <;> simp
/-- Rows as lists. -/
def rowI (l : List It) : AV := rowv l.length (fun i => l.getD i itz) false
def OkL (l : List It) : Prop := l.length ≤ 2 ^ 40 ∧ ∀ y ∈ l, y.Ok
theorem OkL.get {l : List It} (h : OkL l) {i : Nat} (hi : i < l.length) : (l.getD i itz).Ok := by
  have : l.getD i itz = l[i] := by simp [List.getD, hi]
  rw [this]; exact h.2 _ (List.getElem_mem hi)
theorem idxF_congr {p q : Nat → Bool} : ∀ (m i : Nat), (∀ j, i ≤ j → j < i + m → p j = q j) → idxF p i m = idxF q i m
  | 0, _, _ => rfl
  | m + 1, i, h => by
    unfold idxF
    rw [h i (Nat.le_refl _) (by omega), idxF_congr m (i + 1) fun j h1 h2 => h j (by omega) (by omega)]
theorem findI_cons {α : Type} (f : α → Bool) (x : α) (l : List α) : findI f (x :: l) = if f x = true then 0 else (if findI f l < 0 then -1 else findI f l + 1) := rfl
theorem idxF_findI (f : It → Bool) (l : List It) : idxF (fun i => f (l.getD i itz)) 0 l.length = findI f l := by
  have key : ∀ (l : List It) (p : Nat → Bool) (i : Nat), (∀ j, j < l.length → p (i + j) = f (l.getD j itz)) → idxF p i l.length = if findI f l < 0 then -1 else findI f l + i := by
    intro l
    induction l with
    | nil => intro p i _; rfl
    | cons x l ih =>
      intro p i hp
      have h0 := hp 0 (by simp)
      have e := ih p (i + 1) fun j hj => by
        have := hp (j + 1) (by simp; omega)
        rw [show i + (j + 1) = i + 1 + j by omega] at this
        exact this
      show (if p i = true then (i : Int) else idxF p (i + 1) l.length) = _
      rw [e]
      have h0' : p i = f x := h0
      rw [h0', findI_cons]
      by_cases hf : f x = true
      · rw [if_pos hf, if_pos hf, if_neg (by decide), Int.zero_add]
      · rw [if_neg hf, if_neg hf]
        by_cases h2 : findI f l < 0
        · rw [if_pos h2, if_pos h2, if_pos (by decide)]
        · rw [if_neg h2, if_neg h2, if_neg (by omega)]; omega
  rw [key l _ 0 fun j _ => by rw [Nat.zero_add]]
  have := findI_lo f l
  split <;> omega
section
variable {l : List It} (hl : OkL l)
include hl
theorem idx_meets {x : It} (hx : x.Ok) : PureOk Try.prog 96 [rowI l, .fn (.func 94) [] [.fz x.cells 0]] (iv (findI (meetsI x) l)) := by
  have h := idx96 (eqs94 x) hl.1 (round94 l.length (fun i => l.getD i itz) false x) fun i hi => ⟨ok_isF hx, ok_isF (hl.get hi)⟩
  rw [idxF_congr l.length 0 (q := fun i => meetsI x (l.getD i itz)) fun j _ hj => by
    have := hl.get (i := j) (by omega)
    show (!apartS (unF (F x.a)) (unF (F x.b)) (unF (F (l.getD j itz).a)) (unF (F (l.getD j itz).b))) = _
    rw [unF_F hx.1, unF_F hx.2.1, unF_F this.1, unF_F this.2.1]; rfl, idxF_findI] at h
  exact h
theorem idx_ahead {x : It} (hx : x.Ok) : PureOk Try.prog 96 [rowI l, .fn (.func 97) [] [.fz x.cells 0]] (iv (findI (aheadI x) l)) := by
  have h := idx96 (eqs97 x) hl.1 (round97 l.length (fun i => l.getD i itz) false x) fun i hi => ⟨ok_isF hx, ok_isF (hl.get hi)⟩
  rw [idxF_congr l.length 0 (q := fun i => aheadI x (l.getD i itz)) fun j _ hj => by
    have := hl.get (i := j) (by omega)
    show decide (compS (unF (F x.a)) (unF (F x.b)) (unF (F (l.getD j itz).a)) (unF (F (l.getD j itz).b)) < 0) = _
    rw [unF_F hx.1, unF_F hx.2.1, unF_F this.1, unF_F this.2.1]; rfl, idxF_findI] at h
  exact h
theorem idx_find (owner : Int) (res : Bool) (to : Int) : PureOk Try.prog 96 [rowI l, .fn (.func 111) [] (cap111 owner res to)] (iv (findI (findB to owner res) l)) := by
  have h := idx96 (eqs111 owner res to) hl.1 (round111 l.length (fun i => l.getD i itz) false owner res to) fun i hi => fun _ _ => ok_isF (hl.get hi)
  rw [idxF_congr l.length 0 (q := fun i => findB to owner res (l.getD i itz)) fun j _ hj => p111_eq (hl.get (i := j) (by omega)), idxF_findI] at h
  exact h
theorem idx_at (to : Int) : PureOk Try.prog 96 [rowI l, .fn (.func 105) [] [.fz [iv to] 0]] (iv (findI (atP to) l)) := by
  have h := idx96 (eqs105 to) hl.1 (round105 l.length (fun i => l.getD i itz) false to) fun i hi => fun _ => ok_isF (hl.get hi)
  rw [idxF_congr l.length 0 (q := fun i => atP to (l.getD i itz)) fun j _ hj => p105_eq (hl.get (i := j) (by omega)), idxF_findI] at h
  exact h
end
end
end Go.Proofs.Ytkmhabbpndcnkaa

/-
  PART: memory: items, rows and memories read back from abstract values; the table of what leaves all as it was.
-/
namespace Go.Proofs.Ytkmhabbpndcnkaa
open Go.RowKit
noncomputable section
def zA (l : List AV) (j : Nat) : Int := match l[j]? with
  | some (.v (.int _ z)) => z
  | _ => 0
def bA (l : List AV) (j : Nat) : Bool := match l[j]? with
  | some (.v (.bool b)) => b
  | _ => false
def cA (l : List AV) (j : Nat) : Nat × Nat := match l[j]? with
  | some (.v (.complex _ x y)) => (unF x, unF y)
  | _ => (0, 0)
/-- The item of some cells. -/
def itOf (l : List AV) : It := ⟨zA l 0, (cA l 1).1, (cA l 1).2, zA l 2, fun j => if j < 8 then zA l (3 + j) else 0, bA l 11, zA l 12⟩
/-- Some cells are an item's. -/
def IsIt (l : List AV) : Prop := l = (itOf l).cells ∧ (itOf l).Ok
theorem itOf_cells {x : It} (h : x.Ok) : itOf x.cells = x := by
  have e1 : (itOf x.cells).a = x.a := unF_F h.1
  have e2 : (itOf x.cells).b = x.b := unF_F h.2.1
  have e3 : (itOf x.cells).v = x.v := by
    funext j
    show (if j < 8 then zA x.cells (3 + j) else 0) = x.v j
    by_cases hj : j < 8
    · rw [if_pos hj]
      have : j = 0 ∨ j = 1 ∨ j = 2 ∨ j = 3 ∨ j = 4 ∨ j = 5 ∨ j = 6 ∨ j = 7 := by omega
      rcases this with rfl | rfl | rfl | rfl | rfl | rfl | rfl | rfl <;> rfl
    · rw [if_neg hj, h.2.2 j (by omega)]
  have e4 : itOf x.cells = ⟨x.loc, (itOf x.cells).a, (itOf x.cells).b, x.n, (itOf x.cells).v, x.res, x.own⟩ := rfl
  rw [e4, e1, e2, e3]
theorem isIt {x : It} (h : x.Ok) : IsIt x.cells := by
  unfold IsIt
  rw [itOf_cells h]
  exact ⟨rfl, h⟩
def lstOf (n : Nat) (get : Nat → List AV) : List It := (List.range n).map fun i => itOf (get i)
def RowOk (n : Nat) (get : Nat → List AV) : Prop := n ≤ 2 ^ 40 ∧ ∀ i, i < n → IsIt (get i)
/-- A list's cells. -/
def getI (l : List It) : Nat → List AV := fun i => (l.getD i itz).cells
theorem lstOf_getI {l : List It} (h : OkL l) : lstOf l.length (getI l) = l := by
  unfold lstOf getI
  apply List.ext_getElem
  · simp
  · intro i h1 h2
    have := h.get h2
    rw [List.getElem_map, List.getElem_range, itOf_cells this]
    simp [List.getD, h2]
theorem rowOk_getI {l : List It} (h : OkL l) : RowOk l.length (getI l) := ⟨h.1, fun _ hi => isIt (h.get hi)⟩
theorem lstOf_get {n : Nat} {get : Nat → List AV} {i : Nat} (h : i < n) : (lstOf n get).getD i itz = itOf (get i) := by
  unfold lstOf
  simp [List.getD, h]
theorem lstOf_ok {n : Nat} {get : Nat → List AV} (h : RowOk n get) : OkL (lstOf n get) := by
  refine ⟨by unfold lstOf; simpa using h.1, fun y hy => ?_⟩
  obtain ⟨i, hi, rfl⟩ := List.mem_map.1 hy
  exact (h.2 i (List.mem_range.1 hi)).2
theorem Rep.sl_congr {E : Env} {n k : Nat} {get get' : Nat → List AV} {nl nl' full : Bool} {v : Value} (h : ∀ i, i < n → get i = get' i) (hv : Rep E (.sl n k get nl full) v) : Rep E (.sl n k get' nl' false) v := by
  cases hv with
  | slNil hn => exact .slNil hn
  | slEmp hn hf => exact .slEmp hn fun e => by cases e
  | sl q1 q2 q3 q4 q5 q6 => exact .sl q1 q2 (fun e => by cases e) q4 (fun i hi => h i hi ▸ q5 i hi) q6
/-- A row whose cells are items'. -/
theorem rowI_of {E : Env} {n : Nat} {get : Nat → List AV} {nl full : Bool} {v : Value} (h : RowOk n get) (hv : Rep E (.sl n 13 get nl full) v) : Rep E (rowI (lstOf n get)) v := by
  have e : (lstOf n get).length = n := by simp [lstOf]
  show Rep E (.sl (lstOf n get).length 13 (fun i => ((lstOf n get).getD i itz).cells) false false) v
  rw [e]
  refine hv.sl_congr fun i hi => ?_
  rw [lstOf_get hi]
  exact (h.2 i hi).1
/-- Closed values made open. -/
def genD : Nat → AV → AV
  | 0, a => a
  | d + 1, a => match a with
    | .lit v => .v v
    | .agg l => .agg (l.map (genD d))
    | .fz cs off => .fz (cs.map (genD d)) off
    | .fn f a b => .fn f (a.map (genD d)) (b.map (genD d))
    | .sl n k get _ full => .sl n k get false full
    | a => a
theorem genD_ok {E : Env} : ∀ (d : Nat) (a : AV) (v : Value), Rep E a v → Rep E (genD d a) v
  | 0, a, v, h => h
  | d + 1, a, v, h => by
    have ihs : ∀ {l : List AV} {vs : List Value}, Reps E l vs → Reps E (l.map (genD d)) vs := fun h => h.mapR fun a _ v => genD_ok d a v
    unfold genD
    match h with
    | .lit v h => exact .v v h
    | .v v h => exact .v v h
    | .agg h ho => exact .agg (ihs h) ho
    | .tup h => exact .tup h
    | .fz h hs hr ho => exact .fz h (by rw [List.length_map]; exact hs) (by rw [List.length_map]; exact ihs hr) (by rw [List.length_map]; exact ho)
    | .slNil hn => exact .slNil hn
    | .slEmp hn hf => exact .slEmp hn hf
    | .sl h hs hf hc hr ho => exact .sl h hs hf hc hr ho
    | .fn h h' => exact .fn (ihs h) (ihs h')
    | .any h ho => exact .any h ho
    | .unk v => exact .unk _
    | .ptr h => exact .ptr h
    | .pti h h0 h1 => exact .pti h h0 h1
    | .pe h => exact .pe h
    | .own h hv hn => exact .own h hv hn
    | .ownNil h hv hn hl => exact .ownNil h hv hn hl
    | .slv h => exact .slv h
theorem genD_all {E : Env} (d : Nat) {l : List AV} {vs : List Value} (h : Reps E l vs) : Reps E (l.map (genD d)) vs := h.mapR fun a _ v => genD_ok d a v
/-- The table: IndexFunc, ContainsFunc, loc, may. -/
def tabM1 (f : Nat) (args : List AV) : Option (Tree AV) := match f, args with
  | 91, [.agg (.v (.int .i64 n) :: _), .v (.int .i64 i)] => some (.ret (.v (.bool (locE n i))))
  | 93, [.agg [.v (.int .i64 n), _, _, _, _], .agg cs] => some (.side (IsIt cs) (.ret (.v (.bool (mayI n (itOf cs).loc (itOf cs).n (itOf cs).own (itOf cs).a (itOf cs).b (itOf cs).v (itOf cs).res)))))
  | 96, [.sl n 13 get _ _, .fn (.func 94) [] [.fz cs 0]] => some (.side (RowOk n get ∧ IsIt cs) (.ret (iv (findI (meetsI (itOf cs)) (lstOf n get)))))
  | 96, [.sl n 13 get _ _, .fn (.func 97) [] [.fz cs 0]] => some (.side (RowOk n get ∧ IsIt cs) (.ret (iv (findI (aheadI (itOf cs)) (lstOf n get)))))
  | 96, [.sl n 13 get _ _, .fn (.func 105) [] [.fz [.v (.int .i64 to)] 0]] => some (.side (RowOk n get) (.ret (iv (findI (atP to) (lstOf n get)))))
  | 96, [.sl n 13 get _ _, .fn (.func 111) [] [.fz [.v (.int .i64 owner)] 0, .fz [.v (.bool res)] 0, .fz [.v (.int .i64 to)] 0]] => some (.side (RowOk n get) (.ret (iv (findI (findB to owner res) (lstOf n get)))))
  | _, _ => none
theorem loc_pure' (n i : Int) (l : List AV) : PureOk Try.prog 91 [.agg (iv n :: l), iv i] (.v (.bool (locE n i))) := by
  have := pure_hit (f := 91) (args := [.agg (iv n :: l), iv i]) (t := .ret (.v (.bool (locE n i)))) (by kernel_rfl) rfl (by kernel_rfl)
  exact this
theorem tabM1_ok : TabOk Try.prog tabM1 := by
  intro f args t a ht hh
  unfold tabM1 at ht
  split at ht
  · cases ht; cases hh
    exact loc_pure' _ _ _
  · cases ht
    obtain ⟨h1, hh⟩ := hh
    cases hh
    rename_i n s0 s1 s2 s3 cs
    refine (mayI_pure n (itOf cs).loc (itOf cs).n (itOf cs).own h1.2.1 h1.2.2.1 (itOf cs).v (itOf cs).res).pre fun E vs h => ?_
    cases h with | cons q1 h => cases h with | cons q2 h => cases h with | nil =>
    refine .cons ?_ (.cons ?_ .nil)
    · obtain ⟨vs, rfl, hr, ho⟩ := Rep.agg_inv q1
      refine Rep.agg_mk ?_ ho
      cases hr with | cons r1 h => cases h with | cons _ h => cases h with | cons _ h => cases h with | cons _ h => cases h with | cons _ h => cases h with | nil =>
      exact .cons r1 (.cons (.unk _) (.cons (.unk _) (.cons (.unk _) (.cons (.unk _) .nil))))
    · rw [h1.1] at q2; exact q2
  · rename_i n get nl full cs
    cases ht
    obtain ⟨⟨h1, h3⟩, hh⟩ := hh
    cases hh
    refine (idx_meets (lstOf_ok h1) h3.2).pre fun E vs h => ?_
    cases h with | cons q1 h => cases h with | cons q2 h => cases h with | nil =>
    refine .cons (rowI_of h1 q1) (.cons ?_ .nil)
    rw [← h3.1]; exact q2
  · rename_i n get nl full cs
    cases ht
    obtain ⟨⟨h1, h3⟩, hh⟩ := hh
    cases hh
    refine (idx_ahead (lstOf_ok h1) h3.2).pre fun E vs h => ?_
    cases h with | cons q1 h => cases h with | cons q2 h => cases h with | nil =>
    refine .cons (rowI_of h1 q1) (.cons ?_ .nil)
    rw [← h3.1]; exact q2
  · cases ht
    obtain ⟨h1, hh⟩ := hh
    cases hh
    refine (idx_at (lstOf_ok h1) _).pre fun E vs h => ?_
    cases h with | cons q1 h => exact .cons (rowI_of h1 q1) h
  · cases ht
    obtain ⟨h1, hh⟩ := hh
    cases hh
    refine (idx_find (lstOf_ok h1) _ _ _).pre fun E vs h => ?_
    cases h with | cons q1 h => exact .cons (rowI_of h1 q1) h
  · cases ht
/-- A table that is asked with open values. -/
def opened (tab : Nat → List AV → Option (Tree AV)) (f : Nat) (args : List AV) : Option (Tree AV) := tab f (args.map (genD 4))
theorem opened_ok {P : Program} {tab : Nat → List AV → Option (Tree AV)} (h : TabOk P tab) : TabOk P (opened tab) := fun f _ t a ht hh => (h f _ t a ht hh).pre fun _ _ hr => genD_all 4 hr
theorem opened_okF {P : Program} {tab : Nat → List AV → Option (Tree AV)} (h : TabFOk P tab) : TabFOk P (opened tab) := fun f _ t a ht hh => (h f _ t a ht hh).pre fun _ _ hr => genD_all 4 hr
noncomputable def cxM1 (dec : Nat → St → Option Bool) : Cx := ⟨Try.prog, ctrOf (opened tabM1), dec⟩
theorem cxM1_ok (dec : Nat → St → Option Bool) : CtrOk (cxM1 dec) := (ctrOf_ok (opened_ok tabM1_ok)).withDec dec
theorem contains_pure {l : List It} (hl : OkL l) {x : It} (hx : x.Ok) : PureOk Try.prog 95 [rowI l, .fn (.func 94) [] [.fz x.cells 0]] (.v (.bool (decide (findI (meetsI x) l ≥ 0)))) := by
  have h := pure_hitX (cx := cxM1 fun _ _ => none) (cxM1_ok _) rfl (f := 95) (args := [rowI l, .fn (.func 94) [] [.fz x.cells 0]])
    (t := .side (RowOk l.length (getI l) ∧ IsIt x.cells) (.ret (.v (.bool (decide (findI (meetsI (itOf x.cells)) (lstOf l.length (getI l)) ≥ 0)))))) (by kernel_rfl) ⟨⟨rowOk_getI hl, isIt hx⟩, rfl⟩ (by kernel_rfl)
  rwa [itOf_cells hx, lstOf_getI hl] at h
end
end Go.Proofs.Ytkmhabbpndcnkaa

/-
  PART: memory: the program's memories; the table for their functions.
-/
namespace Go.Proofs.Ytkmhabbpndcnkaa
open Go.RowKit
noncomputable section
def tabM2 (f : Nat) (args : List AV) : Option (Tree AV) := match f, args with
  | 95, [.sl n 13 get _ _, .fn (.func 94) [] [.fz cs 0]] => some (.side (RowOk n get ∧ IsIt cs) (.ret (.v (.bool (decide (findI (meetsI (itOf cs)) (lstOf n get) ≥ 0))))))
  | f, args => match tabM1 f args with
    | some t => some t
    | none => tabS f args
theorem tabM2_ok : TabOk Try.prog tabM2 := by
  intro f args t a ht hh
  unfold tabM2 at ht
  split at ht
  · cases ht
    obtain ⟨⟨h1, h3⟩, hh⟩ := hh
    cases hh
    refine (contains_pure (lstOf_ok h1) h3.2).pre fun E vs h => ?_
    cases h with | cons q1 h => cases h with | cons q2 h => cases h with | nil =>
    refine .cons (rowI_of h1 q1) (.cons ?_ .nil)
    rw [← h3.1]; exact q2
  · split at ht
    · rename_i u hu
      cases ht
      exact tabM1_ok _ _ _ _ hu hh
    · exact tabS_ok _ _ _ _ ht hh
noncomputable def cxM2 (dec : Nat → St → Option Bool) : Cx := ⟨Try.prog, ctrOf (opened tabM2), dec⟩
theorem cxM2_ok (dec : Nat → St → Option Bool) : CtrOk (cxM2 dec) := (ctrOf_ok (opened_ok tabM2_ok)).withDec dec
/-- Ways that are known. -/
def decM : List (Nat × Bool) → Nat → St → Option Bool
  | [], _, _ => none
  | (t, b) :: l, d, st => match Nat.beq t d with
    | true => some b
    | false => decM l d st
/-- A memory. -/
def memA (m : PM) : AV := memv m.n (rowI (m.l 0)) (rowI (m.l 1)) (rowI (m.l 2)) (rowI (m.l 3))
/-- An item at a known location. -/
def atC (k : Nat) (x : It) : List AV := .lit (.int .i64 k) :: x.cells.tail
end
end Go.Proofs.Ytkmhabbpndcnkaa
