/-
  PART of the proofs of NumDoes and NumUndoes: see YtkmhabbpndcnkaaDoorDoes, YtkmhabbpndcnkaaDoorUndoes.
-/
import Derived.Test.YtkmhabbpndcnkaaDoorA0
import Derived.Lib.Hide
namespace Go.Proofs.YtkmhabbpndcnkaaDoor
open Go.RowKit
def bwT (kind x y : Int) : Prop := if kind = 0 then 0 < x + y else if kind = 1 then x ≠ y else x + y = 2
structure BwS (kind : Int) (A B O P : Nat → Int) : Prop where
  a : ∀ k, k < 64 → IntKind.u64.wrap ((A k).tdiv 2) = A (k + 1)
  b : ∀ k, k < 64 → IntKind.u64.wrap ((B k).tdiv 2) = B (k + 1)
  p : ∀ k, k < 64 → IntKind.u64.wrap (P k * 2) = P (k + 1)
  o1 : ∀ k, k < 64 → bwT kind (A k % 2) (B k % 2) → IntKind.u64.wrap (O k + P k) = O (k + 1)
  o2 : ∀ k, k < 64 → ¬ bwT kind (A k % 2) (B k % 2) → O k = O (k + 1)
  o0 : O 0 = 0
  p0 : P 0 = 1
theorem BwS.both {kind : Int} {A B O P : Nat → Int} (S : BwS kind A B O P) (k : Nat) (hk : k < 64) :
    (bwT kind (A k % 2) (B k % 2) ∧ Hid (IntKind.u64.wrap (O k + P k) = O (k + 1))) ∨ (¬ bwT kind (A k % 2) (B k % 2) ∧ Hid (O k = O (k + 1))) := by
  by_cases h : bwT kind (A k % 2) (B k % 2)
  · exact .inl ⟨h, S.o1 k hk h⟩
  · exact .inr ⟨h, S.o2 k hk h⟩
theorem v64 {a b : Int} (h : a = b) : Value.int .u64 a = Value.int .u64 b := by rw [h]
set_option maxHeartbeats 400000 in
theorem bw_go (kind : Int) (A B O P : Nat → Int) (w : World) (hk : kind = 0 ∨ kind = 1 ∨ kind = 2)
  (hA : ∀ k, 0 ≤ A k) (hB : ∀ k, 0 ≤ B k) (S : BwS kind A B O P) :
    Calls Tryd.prog 16 #[.int .i64 kind, .int .u64 (A 0), .int .u64 (B 0)] w fun e w' => e = .returned (.int .u64 (O 64)) ∧ w = w' := by
  have s0 := Lib.hid S.o0
  have s1 := Lib.hid S.p0
  rcases hk with rfl | rfl | rfl
  all_goals
    go_enter Tryd.func16, Tryd.ntmps16
    go_wp2
    go_loop [1, 2, 7, 8, 9] (fun a b o p i => ∃ k : Nat, k ≤ 64 ∧ a = .int .u64 (A k) ∧ b = .int .u64 (B k) ∧ o = .int .u64 (O k) ∧ p = .int .u64 (P k) ∧ i = .int .i64 k) (fun _ _ _ _ i => 64 - (intOf i).toNat)
    case atStart => exact ⟨0, by omega, rfl, rfl, v64 s0.out.symm, v64 s1.out.symm, rfl⟩
    case round =>
      obtain ⟨k, hk, rfl, rfl, rfl, rfl, rfl⟩ := hrel
      have hAk := hA k
      have hBk := hB k
      clear hA hB
      by_cases hlt : k < 64
      · have e1 := Lib.hid (S.a k hlt)
        have e2 := Lib.hid (S.b k hlt)
        have e3 := Lib.hid (S.p k hlt)
        rcases S.both k hlt with ⟨ht, e6⟩ | ⟨ht, e6⟩
        · simp [bwT] at ht
          first | (have ht' : (A k % 2 == B k % 2) = false := by simp [ht]) | (have ht' : (A k % 2 + B k % 2 == 2) = true := by simp [ht]) | skip
          go_wp2
          go_round
          case rel => exact ⟨k + 1, by omega, v64 e1.out, v64 e2.out, v64 e6.out, v64 e3.out, by go_num⟩
          case measure => simp [intOf]; omega
        · simp [bwT] at ht
          first | (have ht' : (A k % 2 == B k % 2) = true := by simp [ht]) | (have ht' : (A k % 2 + B k % 2 == 2) = false := by simp [ht]) | skip
          go_wp2
          go_round
          case rel => exact ⟨k + 1, by omega, v64 e1.out, v64 e2.out, v64 e6.out, v64 e3.out, by go_num⟩
          case measure => simp [intOf]; omega
      · obtain rfl : k = 64 := by omega
        go_wp2
        go_ret
        exact ⟨rfl, rfl⟩

theorem div_step (a k : Nat) : a / 2 ^ k / 2 = a / 2 ^ (k + 1) := by
  rw [Nat.div_div_eq_div_mul, Nat.pow_succ]
theorem mod_step (x k : Nat) : x % 2 ^ (k + 1) = x % 2 ^ k + (if x.testBit k then 2 ^ k else 0) := by
  rw [Nat.pow_succ, Nat.mod_mul, Nat.testBit_eq_decide_div_mod_eq]
  rcases Nat.mod_two_eq_zero_or_one (x / 2 ^ k) with h | h <;> simp [h]
theorem u64_wrap (n : Int) : IntKind.u64.wrap n = n % 18446744073709551616 := by simp [IntKind.wrap, IntKind.bits, IntKind.signed]
theorem u64_in (n : Int) (h : 0 ≤ n) (h2 : n < 18446744073709551616) : IntKind.u64.wrap n = n := by rw [u64_wrap]; omega
theorem testBit_mod (a k : Nat) : (a / 2 ^ k) % 2 = if a.testBit k then 1 else 0 := by
  rw [Nat.testBit_eq_decide_div_mod_eq]
  rcases Nat.mod_two_eq_zero_or_one (a / 2 ^ k) with h | h <;> simp [h]
theorem pow_le64 (k : Nat) (h : k ≤ 64) : 2 ^ k ≤ 18446744073709551616 := by
  calc 2 ^ k ≤ 2 ^ 64 := Nat.pow_le_pow_right (by omega) h
    _ = _ := by decide
theorem pow_lt64 (k : Nat) (h : k < 64) : 2 ^ k ≤ 9223372036854775808 := by
  calc 2 ^ k ≤ 2 ^ 63 := Nat.pow_le_pow_right (by omega) (by omega)
    _ = _ := by decide
/-- The loop's state of a bitwise operation X of a and b. -/
theorem bwS (kind : Int) (a b x : Nat) (ha : a < 18446744073709551616) (hb : b < 18446744073709551616)
    (hx : ∀ k, x.testBit k = true ↔ bwT kind ((if a.testBit k then 1 else 0 : Nat) : Int) ((if b.testBit k then 1 else 0 : Nat) : Int)) :
    BwS kind (fun k => ((a / 2 ^ k : Nat) : Int)) (fun k => ((b / 2 ^ k : Nat) : Int)) (fun k => ((x % 2 ^ k : Nat) : Int)) (fun k => (((2 ^ k) % 18446744073709551616 : Nat) : Int)) := by
  have half : ∀ (a : Nat), a < 18446744073709551616 → ∀ k, IntKind.u64.wrap (((a / 2 ^ k : Nat) : Int).tdiv 2) = ((a / 2 ^ (k + 1) : Nat) : Int) := by
    intro a ha k
    have h1 : a / 2 ^ k ≤ a := Nat.div_le_self _ _
    rw [← div_step]
    generalize a / 2 ^ k = q at h1 ⊢
    have h2 : ((q : Nat) : Int).tdiv 2 = ((q / 2 : Nat) : Int) := by
      rw [Int.tdiv_eq_ediv_of_nonneg (by omega)]; omega
    rw [h2, u64_in _ (by omega) (by omega)]
  have bit : ∀ (a k : Nat), ((a / 2 ^ k : Nat) : Int) % 2 = ((if a.testBit k then 1 else 0 : Nat) : Int) := by
    intro a k
    rw [← testBit_mod]; omega
  refine ⟨fun k _ => half a ha k, fun k _ => half b hb k, ?_, ?_, ?_, ?_, ?_⟩
  · intro k hk
    have h1 := pow_lt64 k hk
    rw [u64_wrap]
    show _ = (((2 ^ (k + 1)) % 18446744073709551616 : Nat) : Int)
    rw [Nat.pow_succ]
    omega
  · intro k hk ht
    simp only [bit] at ht
    have hb := (hx k).2 ht
    have h1 := pow_lt64 k hk
    have h2 : x % 2 ^ k < 2 ^ k := Nat.mod_lt _ (Nat.pow_pos (by omega))
    show _ = ((x % 2 ^ (k + 1) : Nat) : Int)
    rw [mod_step, hb, if_pos rfl, u64_in _ (by omega) (by omega)]
    omega
  · intro k hk ht
    simp only [bit] at ht
    have hb : x.testBit k = false := by
      cases h : x.testBit k
      · rfl
      · exact absurd ((hx k).1 h) ht
    show _ = ((x % 2 ^ (k + 1) : Nat) : Int)
    rw [mod_step, hb]; simp
  · show ((x % 2 ^ 0 : Nat) : Int) = 0
    simp [Nat.mod_one]
  · rfl
theorem nat_of (a : Int) (h0 : 0 ≤ a) : ∃ n : Nat, a = n := ⟨a.toNat, by omega⟩
theorem bw_any (kind a b : Int) (x : Nat) (w : World) (hk : kind = 0 ∨ kind = 1 ∨ kind = 2) (ha0 : 0 ≤ a) (ha : a < 18446744073709551616) (hb0 : 0 ≤ b) (hb : b < 18446744073709551616)
    (hxlt : x < 18446744073709551616)
    (hx : ∀ k, x.testBit k = true ↔ bwT kind ((if a.toNat.testBit k then 1 else 0 : Nat) : Int) ((if b.toNat.testBit k then 1 else 0 : Nat) : Int)) :
    Calls Tryd.prog 16 #[.int .i64 kind, .int .u64 a, .int .u64 b] w fun e w' => e = .returned (.int .u64 x) ∧ w = w' := by
  obtain ⟨a, rfl⟩ := nat_of a ha0
  obtain ⟨b, rfl⟩ := nat_of b hb0
  have S := bwS kind a b x (by omega) (by omega) (by simpa using hx)
  have h := bw_go kind _ _ _ _ w hk (fun k => Int.natCast_nonneg _) (fun k => Int.natCast_nonneg _) S
  simp only [Nat.pow_zero, Nat.div_one] at h
  have e : x % 2 ^ 64 = x := Nat.mod_eq_of_lt (by omega)
  rw [e] at h
  exact h
theorem or_any (a b : Int) (w : World) (ha0 : 0 ≤ a) (ha : a < 18446744073709551616) (hb0 : 0 ≤ b) (hb : b < 18446744073709551616) :
    Calls Tryd.prog 16 #[.int .i64 0, .int .u64 a, .int .u64 b] w fun e w' => e = .returned (.int .u64 (bits .or .u64 a b)) ∧ w = w' := by
  rw [u64_or a b ha0 ha hb0 hb]
  refine bw_any 0 a b _ w (by simp) ha0 ha hb0 hb (Nat.or_lt_two_pow (n := 64) (by omega) (by omega)) ?_
  intro k
  rw [Nat.testBit_or]
  cases a.toNat.testBit k <;> cases b.toNat.testBit k <;> simp [bwT]
theorem xor_any (a b : Int) (w : World) (ha0 : 0 ≤ a) (ha : a < 18446744073709551616) (hb0 : 0 ≤ b) (hb : b < 18446744073709551616) :
    Calls Tryd.prog 16 #[.int .i64 1, .int .u64 a, .int .u64 b] w fun e w' => e = .returned (.int .u64 (bits .xor .u64 a b)) ∧ w = w' := by
  rw [u64_xor a b ha0 ha hb0 hb]
  refine bw_any 1 a b _ w (by simp) ha0 ha hb0 hb (Nat.xor_lt_two_pow (n := 64) (by omega) (by omega)) ?_
  intro k
  rw [Nat.testBit_xor]
  cases a.toNat.testBit k <;> cases b.toNat.testBit k <;> simp [bwT]
theorem and_any (a b : Int) (w : World) (ha0 : 0 ≤ a) (ha : a < 18446744073709551616) (hb0 : 0 ≤ b) (hb : b < 18446744073709551616) :
    Calls Tryd.prog 16 #[.int .i64 2, .int .u64 a, .int .u64 b] w fun e w' => e = .returned (.int .u64 (bits .and .u64 a b)) ∧ w = w' := by
  rw [u64_and a b ha0 ha hb0 hb]
  refine bw_any 2 a b _ w (by simp) ha0 ha hb0 hb (Nat.lt_of_le_of_lt Nat.and_le_left (by omega)) ?_
  intro k
  rw [Nat.testBit_and]
  cases a.toNat.testBit k <;> cases b.toNat.testBit k <;> simp [bwT]
end Go.Proofs.YtkmhabbpndcnkaaDoor
