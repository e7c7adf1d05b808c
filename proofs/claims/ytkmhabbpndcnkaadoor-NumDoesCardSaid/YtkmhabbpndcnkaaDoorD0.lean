/-
  PART of the proofs of NumDoes and NumUndoes: see YtkmhabbpndcnkaaDoorDoes, YtkmhabbpndcnkaaDoorUndoes.
-/
import Derived.Test.YtkmhabbpndcnkaaDoorC0
namespace Go.Proofs.YtkmhabbpndcnkaaDoor
open Go.RowKit
def oneN (op a : Int) : Int := if op = 13 then b01 (a == 0) else if op = 14 then IntKind.u64.wrap (- a) else 0
theorem one_n (op a : Int) (w : World) : Calls Tryd.prog 7 #[.int .u8 op, .int .u64 a] w fun e w' => e = .returned (.int .u64 (oneN op a)) ∧ w = w' := one_any op a w
theorem refOne_n (op a : Int) (w : World) : Calls Tryd.prog 8 #[.int .u8 op, .int .u64 a] w fun e w' => e = .returned (.int .u64 (oneN op a)) ∧ w = w' := refOne_any op a w
def big : Int := 18446744073709551615
set_option maxHeartbeats 400000 in
theorem wakes_any (w : World) (hT : TabAt w) :
    Calls Tryd.prog 13 #[] w fun e w' => e = .returned (.bool true) ∧ w = w' := by
  have n1 : (numDo 6 0 1 == 18446744073709551615) = true := by simp [numDo, u64_wrap]
  have n2 : (numDo 10 7 0 == 0) = true := by simp [numDo]
  have n3 : (numDo 9 6 7 == 42) = true := by simp [numDo, u64_wrap]
  have n4 : (oneN 13 5 == 0) = true := by simp [oneN, b01]
  have n5 : (oneN 14 1 == 18446744073709551615) = true := by simp [oneN, u64_wrap]
  have n6 : (sidesN 13 == 1) = true := by simp [sidesN]
  have t4 : Calls Tryd.prog 11 #[.int .u8 4] w fun e w' => e = .returned (.string ⟨#[60, 61]⟩) ∧ w = w' := text_any 4 w (by decide) (by decide) hT
  clear hT
  go_enter Tryd.func13, Tryd.ntmps13
  go_wp2_with (first | (go_at_call 5; refine (do_any _ _ _ _ (by decide) (by decide)).mono ?_; rintro e w' ⟨rfl, rfl⟩) | (go_at_call 7; refine (one_n _ _ _).mono ?_; rintro e w' ⟨rfl, rfl⟩) | (go_at_call 9; refine (sides_any _ _ (by decide)).mono ?_; rintro e w' ⟨rfl, rfl⟩) | (go_at_call 11; refine t4.mono ?_; rintro e w' ⟨rfl, rfl⟩))
  go_ret
  exact ⟨rfl, rfl⟩
theorem below_tab {w w' : World} (h : Below w.heap.size w w') (hT : TabAt w) (h1 : 0 < w.heap.size) : TabAt w' := by
  intro i hi
  rw [h.cell (p := ⟨0, i, none⟩) h1]; exact hT i hi
theorem tab_size {w : World} (hT : TabAt w) : 0 < w.heap.size := by
  have := hT 0 (by decide)
  unfold World.cell? at this
  rcases Nat.eq_zero_or_pos w.heap.size with h | h
  · rw [Array.getElem?_eq_none (by rw [h]; exact Nat.le_refl _)] at this; cases this
  · exact h
set_option maxHeartbeats 400000 in
theorem does_any (op a b : Int) (w : World) (hT : TabAt w) (h0 : 0 ≤ op) (h1 : op ≤ 255) (ha0 : 0 ≤ a) (ha : a < 18446744073709551616) (hb0 : 0 ≤ b) (hb : b < 18446744073709551616) :
    Calls Tryd.prog 3 #[.int .u8 op, .int .u64 a, .int .u64 b] w fun e w' => e = .returned (.bool true) ∧ Below w.heap.size w w' := by
  have c5 := do_any op a b w ha0 hb0
  have c6 := refDo_any op a b w ha0 ha hb0 hb
  have c11 := text_any op w h0 h1 hT
  clear ha hb
  have n1 : (numDo op a b == numDo op a b) = true := by simp
  have n2 : (oneN op a == oneN op a) = true := by simp
  have n3 : (sidesN op == sidesN op) = true := by simp
  obtain ⟨s, hs⟩ : ∃ s, txt op = .string s := ⟨_, rfl⟩
  have c12 : Calls Tryd.prog 12 #[.int .u8 op] w fun e w' => e = .returned (txt op) ∧ Below w.heap.size w w' := refText_any op w h0 h1
  rw [hs] at c11 c12
  clear hs
  have hsz := tab_size hT
  have HT := Lib.hid hT
  clear hT
  go_enter Tryd.func3, Tryd.ntmps3
  go_wp2_with (first | (go_at_call 5; refine c5.mono ?_; rintro e w' ⟨rfl, rfl⟩) | (go_at_call 6; refine c6.mono ?_; rintro e w' ⟨rfl, rfl⟩) | (go_at_call 7; refine (one_n _ _ _).mono ?_; rintro e w' ⟨rfl, rfl⟩) | (go_at_call 8; refine (refOne_n _ _ _).mono ?_; rintro e w' ⟨rfl, rfl⟩) | (go_at_call 9; refine (sides_any _ _ h0).mono ?_; rintro e w' ⟨rfl, rfl⟩) | (go_at_call 10; refine (refSides_any _ _ h0).mono ?_; rintro e w' ⟨rfl, rfl⟩) | (go_at_call 11; refine c11.mono ?_; rintro e w' ⟨rfl, rfl⟩)| (go_at_call 12; refine c12.mono ?_; rintro e w' ⟨rfl, hb⟩) | (go_at_call 13; have HT2 := below_tab (by assumption) HT.out hsz; refine (wakes_any _ HT2).mono ?_; rintro e w'' ⟨rfl, rfl⟩))
  go_ret
  exact ⟨rfl, by assumption⟩
theorem sum_back (a b : Int) (ha0 : 0 ≤ a) (ha : a < 18446744073709551616) : IntKind.u64.wrap (IntKind.u64.wrap (a + b) - b) = a := by
  rw [u64_wrap, u64_wrap]; omega
theorem word_nat {a : Int} (h0 : 0 ≤ a) (h : a < 18446744073709551616) : ∃ n : Nat, a = n ∧ n < 18446744073709551616 := ⟨a.toNat, by omega, by omega⟩
theorem xor_back (a b : Int) (ha0 : 0 ≤ a) (ha : a < 18446744073709551616) (hb0 : 0 ≤ b) (hb : b < 18446744073709551616) : bits .xor .u64 (bits .xor .u64 a b) b = a := by
  obtain ⟨x, rfl, hx⟩ := word_nat ha0 ha
  obtain ⟨y, rfl, hy⟩ := word_nat hb0 hb
  rw [u64_xor_nat x y hx hy, u64_xor_nat _ y (Nat.xor_lt_two_pow (n := 64) hx hy) hy, Nat.xor_assoc, Nat.xor_self, Nat.xor_zero]
theorem and_add_or_nat (n : Nat) : ∀ (x y : Nat), x < 2 ^ n → y < 2 ^ n → (x &&& y) + (x ||| y) = x + y := by
  induction n with
  | zero => intro x y hx hy; simp at hx hy; subst hx; subst hy; rfl
  | succ n ih =>
    intro x y hx hy
    have := ih (x / 2) (y / 2) (by rw [Nat.pow_succ] at hx; omega) (by rw [Nat.pow_succ] at hy; omega)
    have e1 : (x &&& y) = 2 * (x / 2 &&& y / 2) + ((x % 2) &&& (y % 2)) := by
      have h1 : (x &&& y) / 2 = x / 2 &&& y / 2 := by simpa using Nat.and_div_two_pow (a := x) (b := y) (n := 1)
      have h2 : (x &&& y) % 2 = (x % 2) &&& (y % 2) := by simpa using Nat.and_mod_two_pow (a := x) (b := y) (n := 1)
      omega
    have e2 : (x ||| y) = 2 * (x / 2 ||| y / 2) + ((x % 2) ||| (y % 2)) := by
      have h1 : (x ||| y) / 2 = x / 2 ||| y / 2 := by simpa using Nat.or_div_two_pow (a := x) (b := y) (n := 1)
      have h2 : (x ||| y) % 2 = (x % 2) ||| (y % 2) := by simpa using Nat.or_mod_two_pow (a := x) (b := y) (n := 1)
      omega
    rw [e1, e2]
    rcases Nat.mod_two_eq_zero_or_one x with h1 | h1 <;> rcases Nat.mod_two_eq_zero_or_one y with h2 | h2 <;> rw [h1, h2] <;> simp <;> omega
theorem and_or_sum (a b : Int) (ha0 : 0 ≤ a) (ha : a < 18446744073709551616) (hb0 : 0 ≤ b) (hb : b < 18446744073709551616) : bits .and .u64 a b + bits .or .u64 a b = a + b := by
  obtain ⟨x, rfl, hx⟩ := word_nat ha0 ha
  obtain ⟨y, rfl, hy⟩ := word_nat hb0 hb
  rw [u64_and_nat x y hx hy, u64_or_nat x y hx hy]
  have := and_add_or_nat 64 x y hx hy
  omega
theorem wrap_range (n : Int) : 0 ≤ IntKind.u64.wrap n ∧ IntKind.u64.wrap n < 18446744073709551616 := by rw [u64_wrap]; omega
theorem b01_range (b : Bool) : 0 ≤ b01 b ∧ b01 b ≤ 1 := by cases b <;> decide
theorem quo_rem (a b : Int) (ha0 : 0 ≤ a) (ha : a < 18446744073709551616) (hb0 : 0 < b) : numDo 5 (numDo 9 (numDo 10 a b) b) (numDo 11 a b) = a := by
  have hb : ¬ b = 0 := by omega
  have h1 : a.tdiv b = a / b := Int.tdiv_eq_ediv_of_nonneg ha0
  have h2 : 0 ≤ a / b := Int.ediv_nonneg ha0 (by omega)
  have h3 : a / b ≤ a := Int.ediv_le_self _ ha0
  have h4 : a % b + b * (a / b) = a := Int.emod_add_mul_ediv a b
  have h5 : 0 ≤ a % b := Int.emod_nonneg _ (by omega)
  have h6 : (a / b) * b = b * (a / b) := Int.mul_comm _ _
  have h7 : 0 ≤ b * (a / b) := Int.mul_nonneg (by omega) h2
  simp only [numDo, hb, if_false, if_true]
  simp only [Int.reduceEq, if_false]
  rw [h1, u64_in (a / b) h2 (by omega), h6, u64_in (b * (a / b)) h7 (by omega), u64_in _ (by omega) (by omega)]
  omega
set_option maxHeartbeats 1000000 in
theorem undoes_any (a b : Int) (w : World) (hT : TabAt w) (ha0 : 0 ≤ a) (ha : a < 18446744073709551616) (hb0 : 0 ≤ b) (hb : b < 18446744073709551616) :
    Calls Tryd.prog 4 #[.int .u64 a, .int .u64 b] w fun e w' => e = .returned (.bool true) ∧ w = w' := by
  have m1 : (numDo 6 (numDo 5 a b) b != a) = false := by
    simp [numDo, sum_back a b ha0 ha]
  have m2 : (numDo 8 (numDo 8 a b) b != a) = false := by
    simp [numDo, xor_back a b ha0 ha hb0 hb]
  have m3 : (oneN 14 a != numDo 6 0 a) = false := by
    simp [numDo, oneN]
  have m4 : (IntKind.u64.wrap (numDo 1 a b + numDo 2 a b) != 1) = false := by
    simp only [numDo]; by_cases e : a = b <;> simp [e, b01, u64_wrap]
  have m5 : (IntKind.u64.wrap (numDo 3 a b + numDo 4 b a) != 1) = false := by
    simp only [numDo]
    by_cases e : a < b
    · have e' : ¬ b ≤ a := by omega
      simp [e, e', b01, u64_wrap]
    · have e' : b ≤ a := by omega
      simp [e, e', b01, u64_wrap]
  have m6 : (oneN 13 (numDo 1 a b) != numDo 2 a b) = false := by
    simp only [numDo, oneN]; by_cases e : a = b <;> simp [e, b01]
  have m7 : (numDo 5 (numDo 12 a b) (numDo 7 a b) == numDo 5 a b) = true := by
    simp [numDo, and_or_sum a b ha0 ha hb0 hb]
  have p5 : 0 ≤ numDo 5 a b := (wrap_range _).1
  have p8 : 0 ≤ numDo 8 a b := by
    show 0 ≤ bits .xor .u64 a b
    rw [u64_xor a b ha0 ha hb0 hb]; exact Int.natCast_nonneg _
  have p12 : 0 ≤ numDo 12 a b := by
    show 0 ≤ bits .and .u64 a b
    rw [u64_and a b ha0 ha hb0 hb]; exact Int.natCast_nonneg _
  have p7 : 0 ≤ numDo 7 a b := by
    show 0 ≤ bits .or .u64 a b
    rw [u64_or a b ha0 ha hb0 hb]; exact Int.natCast_nonneg _
  have wk := wakes_any w hT
  clear hT
  by_cases hz : b = 0
  · subst hz
    have k1 : numDo 10 a 0 = 0 := by simp [numDo]
    have k2 : numDo 11 a 0 = 0 := by simp [numDo]
    have k3 : (numDo 10 a 0 != 0) = false := by simp [k1]
    have k4 : (numDo 11 a 0 != 0) = false := by simp [k2]
    clear k1 k2 ha hb
    go_enter Tryd.func4, Tryd.ntmps4
    go_wp2_with (first | (go_at_call 5; refine (do_any _ _ _ _ (by first | assumption | decide) (by first | assumption | decide)).mono ?_; rintro e w' ⟨rfl, rfl⟩) | (go_at_call 7; refine (one_n _ _ _).mono ?_; rintro e w' ⟨rfl, rfl⟩) | (go_at_call 13; refine wk.mono ?_; rintro e w' ⟨rfl, rfl⟩))
    go_ret
    exact ⟨rfl, rfl⟩
  · have k1 := quo_rem a b ha0 ha (by omega)
    have r1 : 0 ≤ a % b := Int.emod_nonneg _ hz
    have r2 : a % b < b := Int.emod_lt_of_pos _ (by omega)
    have k3 : (numDo 5 (numDo 9 (numDo 10 a b) b) (numDo 11 a b) != a) = false := by simp [k1]
    have k4 : (numDo 3 (numDo 11 a b) b != 1) = false := by
      have : numDo 11 a b = a % b := by simp [numDo, hz]
      rw [this]
      simp [numDo, r2, b01]
    have q1 : 0 ≤ numDo 10 a b := by simp [numDo, hz]; exact (wrap_range _).1
    have q2 : 0 ≤ numDo 11 a b := by simp [numDo, hz]; exact r1
    have q3 : 0 ≤ numDo 9 (numDo 10 a b) b := (wrap_range _).1
    have z1 : (b != 0) = true := by simp [hz]
    have z2 : (b == 0) = false := by simp [hz]
    clear k1 r1 r2 ha hb
    go_enter Tryd.func4, Tryd.ntmps4
    go_wp2_with (first | (go_at_call 5; refine (do_any _ _ _ _ (by first | assumption | decide) (by first | assumption | decide)).mono ?_; rintro e w' ⟨rfl, rfl⟩) | (go_at_call 7; refine (one_n _ _ _).mono ?_; rintro e w' ⟨rfl, rfl⟩) | (go_at_call 13; refine wk.mono ?_; rintro e w' ⟨rfl, rfl⟩))
    go_ret
    exact ⟨rfl, rfl⟩
end Go.Proofs.YtkmhabbpndcnkaaDoor
