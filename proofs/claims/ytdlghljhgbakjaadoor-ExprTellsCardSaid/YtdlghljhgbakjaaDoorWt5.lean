/-
  PARTS, one behind the other: GA GB GC E0 E1 E2 FB EP E4 E5 E6 E7 E8 EQ E9 GD EC EK EL EM EN.
-/
import Derived.Test.YtdlghljhgbakjaaDoorWt4
import Derived.Test.YtdlghljhgbakjaaDoorProg
import Derived.WalkKit
import Derived.WalkSpells
import Derived.WalkLawsBesides
import Derived.Lib.Hide
import Derived.IntWalk
import Derived.Test.YtdlghljhgbakjaaDoorRows
/-
  PART: what operations answer, the program's and the document's ones (walked).
-/
namespace Go.Proofs.YtdlghljhgbakjaaDoor
open Go.RowKit

def b01 (b : Bool) : Int := if b then 1 else 0
def numDo (op a b : Int) : Int :=
  if op = 1 then b01 (a == b) else if op = 2 then b01 (a != b) else if op = 3 then b01 (decide (a < b)) else if op = 4 then b01 (decide (a ≤ b))
  else if op = 5 then IntKind.u64.wrap (a + b) else if op = 6 then IntKind.u64.wrap (a - b) else if op = 7 then bits .or .u64 a b
  else if op = 8 then bits .xor .u64 a b else if op = 9 then IntKind.u64.wrap (a * b) else if op = 10 then (if b = 0 then 0 else IntKind.u64.wrap (a.tdiv b))
  else if op = 11 then (if b = 0 then 0 else a % b) else if op = 12 then bits .and .u64 a b else 0

theorem bit_any (b : Bool) (w : World) :
    Calls Tryd.prog 114 #[.bool b] w fun e w' => e = .returned (.int .u64 (b01 b)) ∧ w = w' := by
  cases b
  all_goals
    go_enter Tryd.func114, Tryd.ntmps114
    go_wp2
    go_ret
    exact ⟨rfl, rfl⟩
theorem truth_any (b : Bool) (w : World) :
    Calls Tryd.prog 99 #[.bool b] w fun e w' => e = .returned (.int .u64 (b01 b)) ∧ w = w' := by
  cases b
  all_goals
    go_enter Tryd.func99, Tryd.ntmps99
    go_wp2
    go_ret
    exact ⟨rfl, rfl⟩
set_option maxHeartbeats 400000 in
theorem do_any (op a b : Int) (w : World) (ha : 0 ≤ a) (hb : 0 ≤ b) :
    Calls Tryd.prog 96 #[.int .u8 op, .int .u64 a, .int .u64 b] w fun e w' => e = .returned (.int .u64 (numDo op a b)) ∧ w = w' := by
  by_cases h10 : (op = 10 ∨ op = 11) ∧ b = 0
  · obtain ⟨h, rfl⟩ := h10
    rcases h with rfl | rfl
    all_goals
      go_enter Tryd.func96, Tryd.ntmps96
      go_wp2
      refine wp_scope_jumps 0 (fun a' w' => w = w' ∧ a'.defers = [] ∧ 6 < a'.tmps.size) (fun _ _ => 0) rfl ?_ ?_
      · go_wp2
        go_step3
        exact ⟨rfl, rfl, rfl, by simp⟩
      · rintro ⟨t, d⟩ w' ⟨rfl, h2, h3⟩
        simp only at h2 h3
        subst h2
        go_wp2
        simp only [Exit.jump]
        refine bodyPost_ret (v := .int .u64 0) ?_ rfl ⟨rfl, rfl⟩
        simp [results, Tryd.results96, go_sem, h3]
  by_cases h : op = 1 ∨ op = 2 ∨ op = 3 ∨ op = 4
  · rcases h with rfl | rfl | rfl | rfl
    all_goals
      clear h10
      go_enter Tryd.func96, Tryd.ntmps96
      go_wp2
      go_step3
      go_wp2_with (go_at_call 114; refine (bit_any _ _).mono ?_; rintro e w' ⟨rfl, rfl⟩)
      try rw [Exit.noGoto_ret]
      go_ret
      exact ⟨rfl, rfl⟩
  by_cases h : op = 5 ∨ op = 6 ∨ op = 7 ∨ op = 8 ∨ op = 9 ∨ op = 12
  · rcases h with rfl | rfl | rfl | rfl | rfl | rfl
    all_goals
      clear h10
      go_enter Tryd.func96, Tryd.ntmps96
      go_wp2
      go_step3
      go_wp2_with fail
      try rw [Exit.noGoto_ret]
      go_ret
      exact ⟨rfl, rfl⟩
  by_cases h : op = 10 ∨ op = 11
  · have hb : ¬ b = 0 := fun e => h10 ⟨h, e⟩
    clear h10
    rcases h with rfl | rfl
    all_goals
      go_enter Tryd.func96, Tryd.ntmps96
      go_wp2
      go_step3
      go_wp2_with fail
      try rw [Exit.noGoto_ret]
      go_ret
      exact ⟨by simp [numDo, hb], rfl⟩
  · have h1 : ¬ op = 1 := by omega
    have h2 : ¬ op = 2 := by omega
    have h3 : ¬ op = 3 := by omega
    have h4 : ¬ op = 4 := by omega
    have h5 : ¬ op = 5 := by omega
    have h6 : ¬ op = 6 := by omega
    have h7 : ¬ op = 7 := by omega
    have h8 : ¬ op = 8 := by omega
    have h9 : ¬ op = 9 := by omega
    have h10 : ¬ op = 10 := by omega
    have h11 : ¬ op = 11 := by omega
    have h12 : ¬ op = 12 := by omega
    have H : Hid (numDo op a b = 0) := by simp [Hid, numDo, *]
    go_enter Tryd.func96, Tryd.ntmps96
    go_wp2
    go_step3
    go_wp2_with fail
    go_step3
    go_wp2_with fail
    try rw [Exit.noGoto_ret]
    go_ret
    exact ⟨by rw [H.out]; rfl, rfl⟩
theorem one_any (op a : Int) (w : World) :
    Calls Tryd.prog 95 #[.int .u8 op, .int .u64 a] w fun e w' => e = .returned (.int .u64 (if op = 13 then b01 (a == 0) else if op = 14 then IntKind.u64.wrap (- a) else 0)) ∧ w = w' := by
  by_cases h : op = 13
  · subst h
    go_enter Tryd.func95, Tryd.ntmps95
    go_wp2_with (go_at_call 114; refine (bit_any _ _).mono ?_; rintro e w' ⟨rfl, rfl⟩)
    go_ret
    exact ⟨rfl, rfl⟩
  by_cases h' : op = 14
  · subst h'
    go_enter Tryd.func95, Tryd.ntmps95
    go_wp2_with fail
    go_ret
    exact ⟨rfl, rfl⟩
  · have H : Hid ((if op = 13 then b01 (a == 0) else if op = 14 then IntKind.u64.wrap (- a) else 0) = 0) := by simp [Hid, h, h']
    rw [H.out]
    go_enter Tryd.func95, Tryd.ntmps95
    go_wp2_with fail
    go_ret
    exact ⟨rfl, rfl⟩
theorem refOne_any (op a : Int) (w : World) :
    Calls Tryd.prog 55 #[.int .u8 op, .int .u64 a] w fun e w' => e = .returned (.int .u64 (if op = 13 then b01 (a == 0) else if op = 14 then IntKind.u64.wrap (- a) else 0)) ∧ w = w' := by
  by_cases h : op = 13
  · subst h
    go_enter Tryd.func55, Tryd.ntmps55
    go_wp2_with (go_at_call 99; refine (truth_any _ _).mono ?_; rintro e w' ⟨rfl, rfl⟩)
    go_ret
    exact ⟨rfl, rfl⟩
  by_cases h' : op = 14
  · subst h'
    go_enter Tryd.func55, Tryd.ntmps55
    go_wp2_with fail
    go_ret
    exact ⟨by simp, rfl⟩
  · have H : Hid ((if op = 13 then b01 (a == 0) else if op = 14 then IntKind.u64.wrap (- a) else 0) = 0) := by simp [Hid, h, h']
    rw [H.out]
    go_enter Tryd.func55, Tryd.ntmps55
    go_wp2_with fail
    go_ret
    exact ⟨rfl, rfl⟩
def sidesN (op : Int) : Int := if op < 1 ∨ 14 < op then 0 else if 13 ≤ op then 1 else 2
theorem sides_any (op : Int) (w : World) (h0 : 0 ≤ op) :
    Calls Tryd.prog 48 #[.int .u8 op] w fun e w' => e = .returned (.int .i64 (sidesN op)) ∧ w = w' := by
  by_cases h : op < 1
  · go_enter Tryd.func48, Tryd.ntmps48
    go_wp2_with fail
    go_ret
    exact ⟨by simp [sidesN]; omega, rfl⟩
  by_cases h' : 14 < op
  · go_enter Tryd.func48, Tryd.ntmps48
    go_wp2_with fail
    go_ret
    exact ⟨by simp [sidesN, h'], rfl⟩
  by_cases h'' : 13 ≤ op
  all_goals
    go_enter Tryd.func48, Tryd.ntmps48
    go_wp2_with fail
    go_ret
    exact ⟨by simp [sidesN]; omega, rfl⟩
theorem refSides_any (op : Int) (w : World) (h0 : 0 ≤ op) :
    Calls Tryd.prog 97 #[.int .u8 op] w fun e w' => e = .returned (.int .i64 (sidesN op)) ∧ w = w' := by
  by_cases h13 : op = 13
  · subst h13
    go_enter Tryd.func97, Tryd.ntmps97
    go_wp2_with fail
    go_ret
    exact ⟨rfl, rfl⟩
  by_cases h14 : op = 14
  · subst h14
    go_enter Tryd.func97, Tryd.ntmps97
    go_wp2_with fail
    go_ret
    exact ⟨rfl, rfl⟩
  have k13 : (op == 13) = false := by simp [h13]
  have k14 : (op == 14) = false := by simp [h14]
  by_cases h : 0 < op ∧ op < 13
  · obtain ⟨h1, h2⟩ := h
    have H : Hid (sidesN op = 2) := by simp [Hid, sidesN]; omega
    rw [H.out]
    go_enter Tryd.func97, Tryd.ntmps97
    go_wp2_with fail
    go_ret
    exact ⟨rfl, rfl⟩
  · have H : Hid (sidesN op = 0) := by simp [Hid, sidesN]; omega
    rw [H.out]
    by_cases h1 : 0 < op
    all_goals
      go_enter Tryd.func97, Tryd.ntmps97
      go_wp2_with fail
    all_goals
      first | (exfalso; omega) | (go_ret; exact ⟨rfl, rfl⟩)
end Go.Proofs.YtdlghljhgbakjaaDoor

/-
  PART: what operations answer, the program's and the document's ones (walked).
-/
namespace Go.Proofs.YtdlghljhgbakjaaDoor
open Go.RowKit
def bwT (kind x y : Int) : Prop := if kind = 0 then 0 < x + y else if kind = 1 then x ≠ y else x + y = 2
structure BwS (kind : Int) (A B O P : Nat → Int) : Prop where
  a : ∀ k, k < 64 → IntKind.u64.wrap ((A k).tdiv 2) = A (k + 1)
  b : ∀ k, k < 64 → IntKind.u64.wrap ((B k).tdiv 2) = B (k + 1)
  p : ∀ k, k < 64 → IntKind.u64.wrap (P k * 2) = P (k + 1)
  o1 : ∀ k, k < 64 → bwT kind (A k % 2) (B k % 2) → IntKind.u64.wrap (O k + P k) = O (k + 1)
  o2 : ∀ k, k < 64 → ¬ bwT kind (A k % 2) (B k % 2) → O k = O (k + 1)
  o0 : O 0 = 0
  p0 : P 0 = 1
theorem BwS.both {kind : Int} {A B O P : Nat → Int} (S : BwS kind A B O P) (k : Nat) (hk : k < 64) :
    (bwT kind (A k % 2) (B k % 2) ∧ Hid (IntKind.u64.wrap (O k + P k) = O (k + 1))) ∨ (¬ bwT kind (A k % 2) (B k % 2) ∧ Hid (O k = O (k + 1))) := by
  by_cases h : bwT kind (A k % 2) (B k % 2)
  · exact .inl ⟨h, S.o1 k hk h⟩
  · exact .inr ⟨h, S.o2 k hk h⟩
theorem v64 {a b : Int} (h : a = b) : Value.int .u64 a = Value.int .u64 b := by rw [h]
set_option maxHeartbeats 400000 in
theorem bw_go (kind : Int) (A B O P : Nat → Int) (w : World) (hk : kind = 0 ∨ kind = 1 ∨ kind = 2)
  (hA : ∀ k, 0 ≤ A k) (hB : ∀ k, 0 ≤ B k) (S : BwS kind A B O P) :
    Calls Tryd.prog 100 #[.int .i64 kind, .int .u64 (A 0), .int .u64 (B 0)] w fun e w' => e = .returned (.int .u64 (O 64)) ∧ w = w' := by
  have s0 := Lib.hid S.o0
  have s1 := Lib.hid S.p0
  rcases hk with rfl | rfl | rfl
  all_goals
    go_enter Tryd.func100, Tryd.ntmps100
    go_wp2
    go_loop [1, 2, 7, 8, 9] (fun a b o p i => ∃ k : Nat, k ≤ 64 ∧ a = .int .u64 (A k) ∧ b = .int .u64 (B k) ∧ o = .int .u64 (O k) ∧ p = .int .u64 (P k) ∧ i = .int .i64 k) (fun _ _ _ _ i => 64 - (Go.RowKit.intOf i).toNat)
    case atStart => exact ⟨0, by omega, rfl, rfl, v64 s0.out.symm, v64 s1.out.symm, rfl⟩
    case round =>
      obtain ⟨k, hk, rfl, rfl, rfl, rfl, rfl⟩ := hrel
      have hAk := hA k
      have hBk := hB k
      clear hA hB
      by_cases hlt : k < 64
      · have e1 := Lib.hid (S.a k hlt)
        have e2 := Lib.hid (S.b k hlt)
        have e3 := Lib.hid (S.p k hlt)
        rcases S.both k hlt with ⟨ht, e6⟩ | ⟨ht, e6⟩
        · simp [bwT] at ht
          first | (have ht' : (A k % 2 == B k % 2) = false := by simp [ht]) | (have ht' : (A k % 2 + B k % 2 == 2) = true := by simp [ht]) | skip
          go_wp2
          go_round
          case rel => exact ⟨k + 1, by omega, v64 e1.out, v64 e2.out, v64 e6.out, v64 e3.out, by go_num⟩
          case measure => simp [Go.RowKit.intOf]; omega
        · simp [bwT] at ht
          first | (have ht' : (A k % 2 == B k % 2) = true := by simp [ht]) | (have ht' : (A k % 2 + B k % 2 == 2) = false := by simp [ht]) | skip
          go_wp2
          go_round
          case rel => exact ⟨k + 1, by omega, v64 e1.out, v64 e2.out, v64 e6.out, v64 e3.out, by go_num⟩
          case measure => simp [Go.RowKit.intOf]; omega
      · obtain rfl : k = 64 := by omega
        go_wp2
        go_ret
        exact ⟨rfl, rfl⟩

theorem div_step (a k : Nat) : a / 2 ^ k / 2 = a / 2 ^ (k + 1) := by
  rw [Nat.div_div_eq_div_mul, Nat.pow_succ]
theorem mod_step (x k : Nat) : x % 2 ^ (k + 1) = x % 2 ^ k + (if x.testBit k then 2 ^ k else 0) := by
  rw [Nat.pow_succ, Nat.mod_mul, Nat.testBit_eq_decide_div_mod_eq]
  rcases Nat.mod_two_eq_zero_or_one (x / 2 ^ k) with h | h <;> simp [h]
theorem u64_wrap (n : Int) : IntKind.u64.wrap n = n % 18446744073709551616 := by simp [IntKind.wrap, IntKind.bits, IntKind.signed]
theorem u64_in (n : Int) (h : 0 ≤ n) (h2 : n < 18446744073709551616) : IntKind.u64.wrap n = n := by rw [u64_wrap]; omega
theorem testBit_mod (a k : Nat) : (a / 2 ^ k) % 2 = if a.testBit k then 1 else 0 := by
  rw [Nat.testBit_eq_decide_div_mod_eq]
  rcases Nat.mod_two_eq_zero_or_one (a / 2 ^ k) with h | h <;> simp [h]
theorem pow_le64 (k : Nat) (h : k ≤ 64) : 2 ^ k ≤ 18446744073709551616 := by
  calc 2 ^ k ≤ 2 ^ 64 := Nat.pow_le_pow_right (by omega) h
    _ = _ := by decide
theorem pow_lt64 (k : Nat) (h : k < 64) : 2 ^ k ≤ 9223372036854775808 := by
  calc 2 ^ k ≤ 2 ^ 63 := Nat.pow_le_pow_right (by omega) (by omega)
    _ = _ := by decide
/-- The loop's state of a bitwise operation X of a and b. -/
theorem bwS (kind : Int) (a b x : Nat) (ha : a < 18446744073709551616) (hb : b < 18446744073709551616)
    (hx : ∀ k, x.testBit k = true ↔ bwT kind ((if a.testBit k then 1 else 0 : Nat) : Int) ((if b.testBit k then 1 else 0 : Nat) : Int)) :
    BwS kind (fun k => ((a / 2 ^ k : Nat) : Int)) (fun k => ((b / 2 ^ k : Nat) : Int)) (fun k => ((x % 2 ^ k : Nat) : Int)) (fun k => (((2 ^ k) % 18446744073709551616 : Nat) : Int)) := by
  have half : ∀ (a : Nat), a < 18446744073709551616 → ∀ k, IntKind.u64.wrap (((a / 2 ^ k : Nat) : Int).tdiv 2) = ((a / 2 ^ (k + 1) : Nat) : Int) := by
    intro a ha k
    have h1 : a / 2 ^ k ≤ a := Nat.div_le_self _ _
    rw [← div_step]
    generalize a / 2 ^ k = q at h1 ⊢
    have h2 : ((q : Nat) : Int).tdiv 2 = ((q / 2 : Nat) : Int) := by
      rw [Int.tdiv_eq_ediv_of_nonneg (by omega)]; omega
    rw [h2, u64_in _ (by omega) (by omega)]
  have bit : ∀ (a k : Nat), ((a / 2 ^ k : Nat) : Int) % 2 = ((if a.testBit k then 1 else 0 : Nat) : Int) := by
    intro a k
    rw [← testBit_mod]; omega
  refine ⟨fun k _ => half a ha k, fun k _ => half b hb k, ?_, ?_, ?_, ?_, ?_⟩
  · intro k hk
    have h1 := pow_lt64 k hk
    rw [u64_wrap]
    show _ = (((2 ^ (k + 1)) % 18446744073709551616 : Nat) : Int)
    rw [Nat.pow_succ]
    omega
  · intro k hk ht
    simp only [bit] at ht
    have hb := (hx k).2 ht
    have h1 := pow_lt64 k hk
    have h2 : x % 2 ^ k < 2 ^ k := Nat.mod_lt _ (Nat.pow_pos (by omega))
    show _ = ((x % 2 ^ (k + 1) : Nat) : Int)
    rw [mod_step, hb, if_pos rfl, u64_in _ (by omega) (by omega)]
    omega
  · intro k hk ht
    simp only [bit] at ht
    have hb : x.testBit k = false := by
      cases h : x.testBit k
      · rfl
      · exact absurd ((hx k).1 h) ht
    show _ = ((x % 2 ^ (k + 1) : Nat) : Int)
    rw [mod_step, hb]; simp
  · show ((x % 2 ^ 0 : Nat) : Int) = 0
    simp [Nat.mod_one]
  · rfl
theorem nat_of (a : Int) (h0 : 0 ≤ a) : ∃ n : Nat, a = n := ⟨a.toNat, by omega⟩
theorem bw_any (kind a b : Int) (x : Nat) (w : World) (hk : kind = 0 ∨ kind = 1 ∨ kind = 2) (ha0 : 0 ≤ a) (ha : a < 18446744073709551616) (hb0 : 0 ≤ b) (hb : b < 18446744073709551616)
    (hxlt : x < 18446744073709551616)
    (hx : ∀ k, x.testBit k = true ↔ bwT kind ((if a.toNat.testBit k then 1 else 0 : Nat) : Int) ((if b.toNat.testBit k then 1 else 0 : Nat) : Int)) :
    Calls Tryd.prog 100 #[.int .i64 kind, .int .u64 a, .int .u64 b] w fun e w' => e = .returned (.int .u64 x) ∧ w = w' := by
  obtain ⟨a, rfl⟩ := nat_of a ha0
  obtain ⟨b, rfl⟩ := nat_of b hb0
  have S := bwS kind a b x (by omega) (by omega) (by simpa using hx)
  have h := bw_go kind _ _ _ _ w hk (fun k => Int.natCast_nonneg _) (fun k => Int.natCast_nonneg _) S
  simp only [Nat.pow_zero, Nat.div_one] at h
  have e : x % 2 ^ 64 = x := Nat.mod_eq_of_lt (by omega)
  rw [e] at h
  exact h
theorem or_any (a b : Int) (w : World) (ha0 : 0 ≤ a) (ha : a < 18446744073709551616) (hb0 : 0 ≤ b) (hb : b < 18446744073709551616) :
    Calls Tryd.prog 100 #[.int .i64 0, .int .u64 a, .int .u64 b] w fun e w' => e = .returned (.int .u64 (bits .or .u64 a b)) ∧ w = w' := by
  rw [u64_or a b ha0 ha hb0 hb]
  refine bw_any 0 a b _ w (by simp) ha0 ha hb0 hb (Nat.or_lt_two_pow (n := 64) (by omega) (by omega)) ?_
  intro k
  rw [Nat.testBit_or]
  cases a.toNat.testBit k <;> cases b.toNat.testBit k <;> simp [bwT]
theorem xor_any (a b : Int) (w : World) (ha0 : 0 ≤ a) (ha : a < 18446744073709551616) (hb0 : 0 ≤ b) (hb : b < 18446744073709551616) :
    Calls Tryd.prog 100 #[.int .i64 1, .int .u64 a, .int .u64 b] w fun e w' => e = .returned (.int .u64 (bits .xor .u64 a b)) ∧ w = w' := by
  rw [u64_xor a b ha0 ha hb0 hb]
  refine bw_any 1 a b _ w (by simp) ha0 ha hb0 hb (Nat.xor_lt_two_pow (n := 64) (by omega) (by omega)) ?_
  intro k
  rw [Nat.testBit_xor]
  cases a.toNat.testBit k <;> cases b.toNat.testBit k <;> simp [bwT]
theorem and_any (a b : Int) (w : World) (ha0 : 0 ≤ a) (ha : a < 18446744073709551616) (hb0 : 0 ≤ b) (hb : b < 18446744073709551616) :
    Calls Tryd.prog 100 #[.int .i64 2, .int .u64 a, .int .u64 b] w fun e w' => e = .returned (.int .u64 (bits .and .u64 a b)) ∧ w = w' := by
  rw [u64_and a b ha0 ha hb0 hb]
  refine bw_any 2 a b _ w (by simp) ha0 ha hb0 hb (Nat.lt_of_le_of_lt Nat.and_le_left (by omega)) ?_
  intro k
  rw [Nat.testBit_and]
  cases a.toNat.testBit k <;> cases b.toNat.testBit k <;> simp [bwT]
end Go.Proofs.YtdlghljhgbakjaaDoor

/-
  PART: what operations answer, the program's and the document's ones (walked).
-/
namespace Go.Proofs.YtdlghljhgbakjaaDoor
open Go.RowKit
theorem rem_eq (a b : Int) (ha0 : 0 ≤ a) (ha : a < 18446744073709551616) (hb0 : 0 < b) :
    IntKind.u64.wrap (a - IntKind.u64.wrap (IntKind.u64.wrap (a.tdiv b) * b)) = a % b := by
  have h1 : a.tdiv b = a / b := Int.tdiv_eq_ediv_of_nonneg ha0
  have h2 : 0 ≤ a / b := Int.ediv_nonneg ha0 (by omega)
  have h3 : a / b ≤ a := Int.ediv_le_self _ ha0
  have h4 : a % b + b * (a / b) = a := Int.emod_add_mul_ediv a b
  have h5 : 0 ≤ a % b := Int.emod_nonneg _ (by omega)
  have h6 : (a / b) * b = b * (a / b) := Int.mul_comm _ _
  have h7 : 0 ≤ b * (a / b) := Int.mul_nonneg (by omega) h2
  have h8 : a % b ≤ a := by omega
  rw [h1, u64_in (a / b) h2 (by omega), h6, u64_in (b * (a / b)) h7 (by omega), u64_in _ (by omega) (by omega)]
  omega
theorem iw {a b : Int} (h : a = b) : Ending.returned (.int .u64 a) = .returned (.int .u64 b) := by rw [h]
set_option maxHeartbeats 400000 in
theorem refDo_any (op a b : Int) (w : World) (ha0 : 0 ≤ a) (ha : a < 18446744073709551616) (hb0 : 0 ≤ b) (hb : b < 18446744073709551616) :
    Calls Tryd.prog 56 #[.int .u8 op, .int .u64 a, .int .u64 b] w fun e w' => e = .returned (.int .u64 (numDo op a b)) ∧ w = w' := by
  have HA := Lib.hid ha
  have HB := Lib.hid hb
  clear ha hb
  by_cases h : op = 1 ∨ op = 2 ∨ op = 3
  · rcases h with rfl | rfl | rfl
    all_goals
      go_enter Tryd.func56, Tryd.ntmps56
      go_wp2_with (go_at_call 99; refine (truth_any _ _).mono ?_; rintro e w' ⟨rfl, rfl⟩)
      go_ret
      exact ⟨rfl, rfl⟩
  by_cases h : op = 4
  · subst h
    have H : Hid (numDo 4 a b = b01 (decide (a ≤ b))) := rfl
    rw [H.out]
    by_cases h1 : a < b
    · have e : decide (a ≤ b) = true := by simp; omega
      rw [e]; clear e
      go_enter Tryd.func56, Tryd.ntmps56
      go_wp2_with (go_at_call 99; refine (truth_any _ _).mono ?_; rintro e w' ⟨rfl, rfl⟩)
      go_ret
      exact ⟨rfl, rfl⟩
    by_cases h2 : a = b
    · have e : decide (a ≤ b) = true := by simp; omega
      rw [e]; clear e
      subst h2
      go_enter Tryd.func56, Tryd.ntmps56
      go_wp2_with (go_at_call 99; refine (truth_any _ _).mono ?_; rintro e w' ⟨rfl, rfl⟩)
      go_ret
      exact ⟨rfl, rfl⟩
    · have e : decide (a ≤ b) = false := by simp; omega
      rw [e]; clear e
      have h2' : (a == b) = false := by simp [h2]
      go_enter Tryd.func56, Tryd.ntmps56
      go_wp2_with (go_at_call 99; refine (truth_any _ _).mono ?_; rintro e w' ⟨rfl, rfl⟩)
      go_ret
      exact ⟨rfl, rfl⟩
  by_cases h : op = 5 ∨ op = 6 ∨ op = 9
  · rcases h with rfl | rfl | rfl
    all_goals
      go_enter Tryd.func56, Tryd.ntmps56
      go_wp2_with fail
      go_ret
      exact ⟨rfl, rfl⟩
  by_cases h : op = 7
  · subst h
    have oa := or_any a b w ha0 HA.out hb0 HB.out
    go_enter Tryd.func56, Tryd.ntmps56
    go_wp2_with (go_at_call 100; refine oa.mono ?_; rintro e w' ⟨rfl, rfl⟩)
    go_ret
    exact ⟨rfl, rfl⟩
  by_cases h : op = 8
  · subst h
    have oa := xor_any a b w ha0 HA.out hb0 HB.out
    go_enter Tryd.func56, Tryd.ntmps56
    go_wp2_with (go_at_call 100; refine oa.mono ?_; rintro e w' ⟨rfl, rfl⟩)
    go_ret
    exact ⟨rfl, rfl⟩
  by_cases h : op = 12
  · subst h
    have oa := and_any a b w ha0 HA.out hb0 HB.out
    go_enter Tryd.func56, Tryd.ntmps56
    go_wp2_with (go_at_call 100; refine oa.mono ?_; rintro e w' ⟨rfl, rfl⟩)
    go_ret
    exact ⟨rfl, rfl⟩
  by_cases h : op = 10 ∨ op = 11
  · by_cases hz : b = 0
    · subst hz
      rcases h with rfl | rfl
      all_goals
        go_enter Tryd.func56, Tryd.ntmps56
        go_wp2_with fail
        go_ret
        exact ⟨rfl, rfl⟩
    · have hp : 0 < b := by omega
      have H10 : Hid (numDo 10 a b = IntKind.u64.wrap (a.tdiv b)) := by simp [Hid, numDo, hz]
      have H11 : Hid (numDo 11 a b = a % b) := by simp [Hid, numDo, hz]
      have HR := Lib.hid (rem_eq a b ha0 HA.out hp)
      rcases h with rfl | rfl
      · rw [H10.out]
        go_enter Tryd.func56, Tryd.ntmps56
        go_wp2_with fail
        go_ret
        exact ⟨rfl, rfl⟩
      · rw [H11.out]
        go_enter Tryd.func56, Tryd.ntmps56
        go_wp2_with fail
        go_ret
        exact ⟨iw HR.out, rfl⟩
  · have h1 : (op == 1) = false := by simp; omega
    have h2 : (op == 2) = false := by simp; omega
    have h3 : (op == 3) = false := by simp; omega
    have h4 : (op == 4) = false := by simp; omega
    have h5 : (op == 5) = false := by simp; omega
    have h6 : (op == 6) = false := by simp; omega
    have h7 : (op == 7) = false := by simp; omega
    have h8 : (op == 8) = false := by simp; omega
    have h9 : (op == 9) = false := by simp; omega
    have h10 : (op == 10) = false := by simp; omega
    have h11 : (op == 11) = false := by simp; omega
    have h12 : (op == 12) = false := by simp; omega
    have H : Hid (numDo op a b = 0) := by simp at *; simp [Hid, numDo, *]
    rw [H.out]
    go_enter Tryd.func56, Tryd.ntmps56
    go_wp2_with fail
    go_ret
    exact ⟨rfl, rfl⟩
end Go.Proofs.YtdlghljhgbakjaaDoor

/-
  PART: the program fits the evaluator; contracts by evaluation.
-/
namespace Go.Proofs.YtdlghljhgbakjaaDoor
open Go.RowKit
theorem fitTry : Fit Tryd.prog := ⟨by kernel_rfl, by kernel_rfl⟩
/-- The answers alone. -/
def Tree.ans : Tree (AV × St) → Tree AV
  | .ret b => .ret b.1
  | .br c t e => .br c t.ans e.ans
  | .side p t => .side p t.ans
  | .fail => .fail
theorem Tree.ans_hit : ∀ {t : Tree (AV × St)} {a : AV}, t.ans.hit a → ∃ s, t.hit (a, s)
  | .ret b, a, h => by cases h; exact ⟨b.2, rfl⟩
  | .br _ _ _, a, h => by
    rcases h with ⟨h1, h2⟩ | ⟨h1, h2⟩
    · obtain ⟨s, k⟩ := Tree.ans_hit h2; exact ⟨s, .inl ⟨h1, k⟩⟩
    · obtain ⟨s, k⟩ := Tree.ans_hit h2; exact ⟨s, .inr ⟨h1, k⟩⟩
  | .side _ t, a, h => by
    obtain ⟨s, k⟩ := Tree.ans_hit (t := t) h.2; exact ⟨s, h.1, k⟩
  | .fail, a, h => h.elim
theorem pure_ans {cx : Cx} (hc : CtrOk cx) (hfit : Fit cx.P) {n f : Nat} {args : List AV} {a : AV} (h : ((evs cx n).call f args .nil).ans.hit a) {d : Nat} (hp : plainA d a = true) : PureOk cx.P f args a :=
  let ⟨_, k⟩ := Tree.ans_hit h
  pure_of (evs_ok hc hfit n).calls k hp
theorem PureOk.pre {P : Program} {f : Nat} {args args' : List AV} {a : AV} (h : PureOk P f args' a) (ha : ∀ E vs, Reps E args vs → Reps E args' vs) : PureOk P f args a :=
  fun rr E w vals K hd hf hargs hK => h rr E w vals K hd hf (ha E _ hargs) hK
def decL : List (Nat × Bool) → Nat → St → Option Bool
  | [], _, _ => none
  | (t, b) :: l, d, st => match Nat.beq t d with
    | true => some b
    | false => decL l d st
noncomputable def cx0 (dec : Nat → St → Option Bool) : Cx := ⟨Tryd.prog, fun _ _ _ => none, dec⟩
theorem cx0_ok (dec : Nat → St → Option Bool) : CtrOk (cx0 dec) := ⟨fun _ _ _ _ h => (by cases h), fun _ _ _ _ _ _ h => (by cases h)⟩
theorem pure_hitX {cx : Cx} (hc : CtrOk cx) (hP : cx.P = Tryd.prog) {n f : Nat} {args : List AV} {t : Tree AV} {a : AV} (h : ((evs cx n).call f args .nil).ans = t) (ha : t.hit a) (hp : plainA 4 a = true) : PureOk Tryd.prog f args a := by
  have := pure_ans (cx := cx) hc (by rw [hP]; exact fitTry) (n := n) (f := f) (args := args) (a := a) (by rw [h]; exact ha) hp
  rwa [hP] at this
/-- A law without a loop that is open. -/
theorem lawRuns_of_pure {f : Nat} {fn : Func} {c : Code} (hfn : Tryd.prog.funcs[f]? = some fn) (hb : fn.body = some c) {ks : List (Bool × List Ck)}
    (h : ∀ al, ArgsOk ks al → ∃ al' b, (∀ E vs, Reps E al vs → Reps E al' vs) ∧ PureOk Tryd.prog f al' b ∧ IsTrue b) : LawRuns Tryd.prog f ks := by
  intro w hg vals al hok hargs
  obtain ⟨al', b, hA, hp, ht⟩ := h al hok
  have hname' : ¬ fn.name = "runtime.NumGoroutine" := by simpa using (fit_func fitTry hfn hb).2
  rcases hp none (frozenE w hg) w vals (fun v w' => v = .bool true ∧ Quiet w w') (fun _ h => h) (frozenE_ok w hg) (hA _ _ hargs) (fun v w' hv hq => ⟨ht (frozenE w hg) v (hv _), hq⟩) with ⟨v, h1, _⟩ | ⟨_, h2⟩
  · have : (callFunc f vals).run Tryd.prog w = .ok (.enter f vals) w := by simp [callFunc, hfn, hname', hb]
    rw [this] at h1
    cases h1
  · exact CallsIn.mono h2 fun e w' ⟨v, h3, h4, h5⟩ => ⟨v, h3, h4, h5⟩
end Go.Proofs.YtdlghljhgbakjaaDoor

/-
  PART: layer 3's known expressions; the table.
-/
namespace Go.Proofs.YtdlghljhgbakjaaDoor
open Go.RowKit
theorem noDec_ok : CtrOk (cx0 fun _ _ => none) := cx0_ok _
def digS (z : Int) (t : Tree AV) : Tree AV := .side (0 ≤ z ∧ z ≤ IntKind.i64.wrap (z + 1) ∧ IntKind.i64.wrap (z + 1) ≤ ((36 : Nat) : Int)) t
theorem wakes11 : PureOk Tryd.prog 11 [] (.lit (.bool true)) :=
  pure_hitX (cx := cx0 fun _ _ => none) (cx0_ok _) rfl (n := 60) (t := digS (IntKind.i64.wrap 1) (digS (IntKind.i64.wrap 0) (digS (IntKind.i64.wrap 2) (.ret (.lit (.bool true)))))) (by kernel_rfl) ⟨by decide, by decide, by decide, rfl⟩ (by kernel_rfl)
def tabE (f : Nat) (args : List AV) : Option (Tree AV) := match f, args with
  | 11, [] => some (.ret (.lit (.bool true)))
  | _, _ => none
theorem tabE_ok : TabOk Tryd.prog tabE := by
  intro f args t a ht hh
  unfold tabE at ht
  split at ht
  · cases ht; cases hh
    exact wakes11
  · cases ht
noncomputable def cxE (dec : Nat → St → Option Bool) : Cx := ⟨Tryd.prog, ctrOf tabE, dec⟩
theorem cxE_ok (dec : Nat → St → Option Bool) : CtrOk (cxE dec) := (ctrOf_ok tabE_ok).withDec dec
end Go.Proofs.YtdlghljhgbakjaaDoor

/-
  PART: law 3 (ExprStrong): the law's run.
-/
namespace Go.Proofs.YtdlghljhgbakjaaDoor
open Go.RowKit
/-- A byte with its highest bit. -/
def hiX (x : Int) : Int := IntKind.u8.wrap (((BitVec.ofInt IntKind.u8.bits x ||| BitVec.ofInt IntKind.u8.bits 128).toNat : Nat) : Int)
def lowB (z : Int) : Bool := if decide (z ≥ 97) = true then (if decide (z ≤ 122) = true then z != 114 else false) else false
def sidesE (op : Int) : Int := if (if decide (op < 1) = true then true else decide (op > 14)) = true then 0 else if decide (op ≥ 13) = true then 1 else 2
def strengthE (op : Int) : Int := if (sidesE op == 0) = true then 0 else if (sidesE op == 1) = true then 4 else if decide (op ≤ 4) = true then 1 else if decide (op ≤ 8) = true then 2 else 3
def wantE (op : Int) : Int := if (if decide (op ≥ 1) = true then decide (op ≤ 4) else false) = true then 1 else if (if decide (op ≥ 5) = true then decide (op ≤ 8) else false) = true then 2 else
  if (if decide (op ≥ 9) = true then decide (op ≤ 12) else false) = true then 3 else if (if (op == 13) = true then true else op == 14) = true then 4 else 0
def tree4 (op x : Int) : Tree AV := .side (lowB (hiX x) = false → (!((if (!lowB (hiX x)) = true then (⟨#[]⟩ : ByteArray) else Utf8.encode (IntKind.i32.wrap (hiX x))).toList == (⟨#[]⟩ : ByteArray).toList)) = false)
  (.ret (.v (.bool (if lowB (hiX x) = true then false else strengthE op == wantE op))))
theorem eval4 (op n x : Int) : ((evs (cxE (decL [(93, false)])) 60).call 4 [.v (.int .u8 op), .v (.int .u64 n), .v (.int .u8 x)] .nil).ans = tree4 op x := by kernel_rfl
theorem hiX_ge (x : Int) : 128 ≤ hiX x := by
  unfold hiX
  have h1 : 128 ≤ (BitVec.ofInt IntKind.u8.bits x ||| BitVec.ofInt IntKind.u8.bits 128).toNat := by
    rw [BitVec.toNat_or]
    exact Nat.right_le_or
  have h2 : (BitVec.ofInt IntKind.u8.bits x ||| BitVec.ofInt IntKind.u8.bits 128).toNat < 2 ^ IntKind.u8.bits := BitVec.isLt _
  have h5 : (BitVec.ofInt IntKind.u8.bits x ||| BitVec.ofInt IntKind.u8.bits 128).toNat < 256 := h2
  have h4 : IntKind.u8.wrap (((BitVec.ofInt IntKind.u8.bits x ||| BitVec.ofInt IntKind.u8.bits 128).toNat : Nat) : Int) = ((BitVec.ofInt IntKind.u8.bits x ||| BitVec.ofInt IntKind.u8.bits 128).toNat : Nat) := IntWalk.u8_in _ (by omega)
  rw [h4]; omega
theorem lowB_hi (x : Int) : lowB (hiX x) = false := by
  have := hiX_ge x
  unfold lowB
  rw [if_pos (by simp; omega), if_neg (by simp; omega)]
theorem strong_eq (op : Int) : (strengthE op == wantE op) = true := by
  rw [beq_iff_eq]
  unfold strengthE wantE sidesE
  by_cases h1 : op < 1
  · have a1 : ¬ op ≥ 1 := by omega
    have a2 : ¬ op ≥ 5 := by omega
    have a3 : ¬ op ≥ 9 := by omega
    have a4 : ¬ op = 13 := by omega
    have a5 : ¬ op = 14 := by omega
    simp [h1, a1, a2, a3, a4, a5]
  · by_cases h2 : op > 14
    · have a1 : op ≥ 1 := by omega
      have a2 : op ≥ 5 := by omega
      have a3 : op ≥ 9 := by omega
      have b1 : ¬ op ≤ 4 := by omega
      have b2 : ¬ op ≤ 8 := by omega
      have b3 : ¬ op ≤ 12 := by omega
      have a4 : ¬ op = 13 := by omega
      have a5 : ¬ op = 14 := by omega
      simp [h2, a1, a2, a3, b1, b2, b3, a4, a5]
    · have : op = 1 ∨ op = 2 ∨ op = 3 ∨ op = 4 ∨ op = 5 ∨ op = 6 ∨ op = 7 ∨ op = 8 ∨ op = 9 ∨ op = 10 ∨ op = 11 ∨ op = 12 ∨ op = 13 ∨ op = 14 := by omega
      rcases this with rfl | rfl | rfl | rfl | rfl | rfl | rfl | rfl | rfl | rfl | rfl | rfl | rfl | rfl <;> decide
theorem law4_pure (op n x : Int) : ∃ b, PureOk Tryd.prog 4 [.v (.int .u8 op), .v (.int .u64 n), .v (.int .u8 x)] b ∧ IsTrue b := by
  refine ⟨_, pure_hitX (cx := cxE _) (cxE_ok _) rfl (eval4 op n x) ⟨fun _ => ?_, rfl⟩ (by kernel_rfl), isTrue_v ?_⟩
  · rw [lowB_hi]; simp
  · rw [lowB_hi, strong_eq]; rfl
theorem args4 : argShs Tryd.prog 6 Tryd.f4.params.toList = some [(false, [.int .u8]), (false, [.int .u64]), (false, [.int .u8])] := by kernel_rfl
theorem law4_runs : LawRuns Tryd.prog 4 [(false, [.int .u8]), (false, [.int .u64]), (false, [.int .u8])] :=
  lawRuns_of_pure Tryd.func4 (c := codeOf Tryd.f4) (by kernel_rfl) fun al hok => by
    cases hok with | cons h1 t => cases t with | cons h2 t => cases t with | cons h3 t => cases t with | nil =>
    cases h1 with | cons h1 t => cases t with | nil =>
    cases h2 with | cons h2 t => cases t with | nil =>
    cases h3 with | cons h3 t => cases t with | nil =>
    cases h1; cases h2; cases h3
    rename_i op _ n _ x _
    obtain ⟨b, h5, h6⟩ := law4_pure op n x
    exact ⟨_, b, fun E vs h => h, h5, h6⟩
end Go.Proofs.YtdlghljhgbakjaaDoor

/-
  PART: what package-level variables hold, by the condition: tables of strings, of numbers.
-/
namespace Go.Proofs.YtdlghljhgbakjaaDoor
open Go.ChangeShapes Go.WideShapes Go.ChangeAt Go.WideMaps Go.WideElems Go.RowKit
theorem own : ownKnob Tryd.prog.godebug = none := by kernel_rfl
theorem gTexts : Tryd.prog.globalNamed "troth/num.texts" = some 1 := by kernel_rfl
theorem tTexts : (Tryd.prog.globals[1]?).map (·.type) = some 152 := by kernel_rfl
theorem gPow10 : Tryd.prog.globalNamed "internal/strconv.uint64pow10" = some 4 := by kernel_rfl
theorem cStr : Tryd.prog.cellsOf 9 = 1 := by kernel_rfl
def laidE : List (String × DataW Unit) := [("math/bits.deBruijn32tab", Rows.laid_math_bits_deBruijn32tab), ("math/bits.deBruijn64tab", Rows.laid_math_bits_deBruijn64tab), ("internal/strconv.uint64pow10", Rows.laid_internal_strconv_uint64pow10), ("troth/num.texts", Rows.laid_troth_num_texts)]
theorem texts_data : (Rows.laid_troth_num_texts : DataW Unit) = .agg (txtsL.map fun l => .lit (.string l)) := rfl
theorem pow10_data : (Rows.laid_internal_strconv_uint64pow10 : DataW Unit) = .agg (pow10L.map fun l => .lit (.int .u64 l)) := rfl
theorem cell_string (s : ByteArray) (l : List UInt8) (h : s.data.toList = l) : Value.string s = bytesV l := by
  subst h; rfl
section
variable {H : Type} {enc : TypeId × Value → H} {P : Program} {w : World} {base : Nat} {spare : Nat → Bool} {held : Bool}
/-- An array whose parts are of one cell. -/
theorem laid_arr {t e n : Nat} {α : Type} {L : List α} {dat : α → DataW H} {cell : α → Value} (ht : P.underlying t = some (.array n e)) (hc : P.cellsOf e = 1) (ht' : P.cellsOf t = n) (hn : L.length = n)
    (hone : ∀ m (cs : List Value) d q a, DataW.trod enc P w base spare held m e cs = some (d, q) → d = dat a → cs = [cell a])
    {fuel : Nat} {cs : Array Value} {p : List MemPlace} (hd : DataW.trod enc P w base spare held fuel t cs.toList = some (.agg (L.map dat), p)) : cs = (L.map cell).toArray := by
  obtain ⟨xs, m1, rfl, hx1, hl, hlen, hel⟩ := DataW.trod_array ht hd
  simp only [Prod.mk.injEq, DataW.agg.injEq] at hx1
  apply Array.ext'
  rw [List.toList_toArray]
  have hsz : cs.toList.length = n := by rw [hl, ht']
  apply List.ext_getElem
  · rw [hsz, List.length_map, hn]
  · intro i h1 h2
    have hi : i < n := by omega
    have h0 := hel i hi
    rw [hc] at h0
    rw [List.getElem?_eq_getElem (show i < xs.length by omega)] at h0
    have hL : i < L.length := by omega
    have e3 : (xs.map (·.1))[i]? = some (dat L[i]) := by
      rw [← hx1.1, List.getElem?_map, List.getElem?_eq_getElem hL]; rfl
    rw [List.getElem?_map, List.getElem?_eq_getElem (show i < xs.length by omega)] at e3
    have e4 := hone _ _ _ _ L[i] h0 (Option.some.inj e3)
    have h5 : cs.toList[i]? = some (cell L[i]) := by
      rw [Nat.mul_one] at e4
      have := congrArg (fun l => l[0]?) e4
      simpa [List.getElem?_take, List.getElem?_drop] using this
    rw [List.getElem?_eq_getElem h1] at h5
    rw [Option.some.inj h5, List.getElem_map]
theorem laid_strs {t e n : Nat} {L : List (List UInt8)} (ht : P.underlying t = some (.array n e)) (he : P.underlying e = some .string) (hc : P.cellsOf e = 1) (ht' : P.cellsOf t = n) (hn : L.length = n)
    {fuel : Nat} {cs : Array Value} {p : List MemPlace} (hd : DataW.trod enc P w base spare held fuel t cs.toList = some (.agg (L.map fun l => .lit (.string l)), p)) : cs = (L.map bytesV).toArray :=
  laid_arr ht hc ht' hn (fun m cs d q a h1 h2 => by
    obtain ⟨s, e1, e2, _⟩ := DataW.trod_string he h1
    simp only [Prod.mk.injEq] at e2
    rw [e2.1] at h2
    simp only [DataW.lit.injEq, Lit.string.injEq] at h2
    rw [e1, cell_string s _ h2]) hd
theorem laid_ints {t e n : Nat} {k : IntKind} {L : List Int} (ht : P.underlying t = some (.array n e)) (he : P.underlying e = some (.int k)) (hc : P.cellsOf e = 1) (ht' : P.cellsOf t = n) (hn : L.length = n)
    {fuel : Nat} {cs : Array Value} {p : List MemPlace} (hd : DataW.trod enc P w base spare held fuel t cs.toList = some (.agg (L.map fun l => .lit (.int k l)), p)) : cs = (L.map (Value.int k)).toArray :=
  laid_arr ht hc ht' hn (fun m cs d q a h1 h2 => by
    obtain ⟨s, e1, e2, _⟩ := DataW.trod_int he h1
    simp only [Prod.mk.injEq] at e2
    rw [e2.1] at h2
    simp only [DataW.lit.injEq, Lit.int.injEq, true_and] at h2
    rw [e1, h2]) hd
theorem var_cells {name : String} {g : Nat} {cs : Array Value} (hg : P.globalNamed name = some g) (hv : w.var? P name = some cs) : ∃ ty fr, w.heap[g]? = some (.cells cs ty fr) := by
  unfold World.var? at hv
  rw [hg] at hv
  simp only [Option.bind_some] at hv
  split at hv
  · rename_i cs ty fr hq
    cases hv
    exact ⟨ty, fr, hq⟩
  · cases hv
end
theorem door_met (os : Os) (args : Array Value) : laidMetH Tryd.prog laidE ((World.doorLaid Tryd.prog 400 os).forCall (fun _ _ => 0) ⟨#[], args, []⟩).memory :=
  laidMetH_of_parts3 (fuel := 8) (laidMet_of_run' 8 (by kernel_rfl) (by kernel_rfl)) (by kernel_rfl) (by kernel_rfl)
theorem globE {W : World} (h : laidMetH Tryd.prog laidE W) : GlobW W := by
  rw [MakeChecks.laidMetH_plain _ _ _ (by kernel_rfl)] at h
  obtain ⟨ps, ⟨_, _, _, _, _, _, _, _, _, _, ⟨_, _, _, _, _, _, _, _, _, _, ⟨g1, t1, cs1, f1, p1, q1, hg1, ht1, hv1, hd1, ⟨g0, t0, cs0, f0, p0, q0, hg0, ht0, hv0, hd0, _, _⟩, _⟩, _⟩, _⟩, _⟩ := h
  obtain rfl := Option.some.inj (gTexts.symm.trans hg0)
  obtain rfl := Option.some.inj (tTexts.symm.trans ht0)
  obtain rfl := Option.some.inj (gPow10.symm.trans hg1)
  obtain rfl := Option.some.inj ((show (Tryd.prog.globals[4]?).map (·.type) = some 179 by kernel_rfl).symm.trans ht1)
  have h0 := laid_strs (L := txtsL) Tryd.underlying152 Tryd.underlying9 cStr (by kernel_rfl) rfl hd0
  have h1 := laid_ints (L := pow10L) (k := .u64) Tryd.underlying179 Tryd.underlying30 (by kernel_rfl) (by kernel_rfl) rfl hd1
  intro g c hg
  unfold GM at hg
  split at hg
  · rename_i hb
    obtain rfl := Nat.eq_of_beq_eq_true hb
    cases hg
    rw [← h0]
    exact var_cells gTexts hv0
  · split at hg
    · rename_i hb
      obtain rfl := Nat.eq_of_beq_eq_true hb
      cases hg
      rw [← h1]
      exact var_cells gPow10 hv1
    · cases hg
end Go.Proofs.YtdlghljhgbakjaaDoor

/-
  PART: expressions plainly: trees, how they are written, and that unlike ones are written unlike.
-/
namespace Go.Proofs.YtdlghljhgbakjaaDoor
abbrev Bs := List UInt8
inductive Tr : Type where
  | nil
  | nd (k op n t i x : Int) (l r : Tr)
inductive GT : Tr → Prop where
  | num (n : Int) : 0 ≤ n → GT (.nd 0 0 n 0 0 0 .nil .nil)
  | reg (i : Int) : 0 ≤ i → i < 8 → GT (.nd 1 0 0 0 i 0 .nil .nil)
  | of (t i : Int) : 0 ≤ t → t < 4 → 0 ≤ i → i < 8 → GT (.nd 2 0 0 t i 0 .nil .nil)
  | loc (x : Int) : 97 ≤ x → x ≤ 122 → x ≠ 114 → GT (.nd 3 0 0 0 0 x .nil .nil)
  | one (op : Int) (l : Tr) : 13 ≤ op → op ≤ 14 → GT l → GT (.nd 4 op 0 0 0 0 l .nil)
  | two (op : Int) (l r : Tr) : 1 ≤ op → op ≤ 12 → GT l → GT r → GT (.nd 5 op 0 0 0 0 l r)
/-! Digits. -/
def dch (d : Nat) : UInt8 := UInt8.ofNat (48 + d)
theorem dch_nat {d : Nat} (h : d < 10) : (dch d).toNat = 48 + d := by
  unfold dch
  rw [UInt8.toNat_ofNat']
  omega
theorem dch_inj {c d : Nat} (hc : c < 10) (hd : d < 10) (h : dch c = dch d) : c = d := by
  have := congrArg UInt8.toNat h
  rw [dch_nat hc, dch_nat hd] at this
  omega
def dig (n : Nat) : Bs := if n < 10 then [dch n] else dig (n / 10) ++ [dch (n % 10)]
termination_by n
decreasing_by omega
theorem dig_lt {n : Nat} (h : n < 10) : dig n = [dch n] := by rw [dig, if_pos h]
theorem dig_ge {n : Nat} (h : ¬ n < 10) : dig n = dig (n / 10) ++ [dch (n % 10)] := by rw [dig, if_neg h]
theorem dig_ne (n : Nat) : dig n ≠ [] := by
  by_cases h : n < 10
  · rw [dig_lt h]; exact List.cons_ne_nil _ _
  · rw [dig_ge h]; simp
theorem dig_inj : ∀ (m n : Nat), dig m = dig n → m = n := by
  intro m
  induction m using Nat.strongRecOn with
  | _ m ih =>
    intro n h
    by_cases hm : m < 10
    · by_cases hn : n < 10
      · rw [dig_lt hm, dig_lt hn] at h
        exact dch_inj hm hn (List.cons.inj h).1
      · rw [dig_lt hm, dig_ge hn] at h
        have hl := congrArg List.length h
        simp at hl
        exact absurd hl (dig_ne _)
    · by_cases hn : n < 10
      · rw [dig_ge hm, dig_lt hn] at h
        have hl := congrArg List.length h
        simp at hl
        exact absurd hl (dig_ne _)
      · rw [dig_ge hm, dig_ge hn] at h
        obtain ⟨h1, h2⟩ := List.append_inj' h rfl
        have e1 := ih (m / 10) (by omega) _ h1
        have e2 := dch_inj (Nat.mod_lt _ (by omega)) (Nat.mod_lt _ (by omega)) (List.cons.inj h2).1
        omega
theorem dig_mem (n : Nat) : ∀ c ∈ dig n, 48 ≤ c.toNat ∧ c.toNat ≤ 57 := by
  induction n using Nat.strongRecOn with
  | _ n ih =>
    intro c hc
    by_cases h : n < 10
    · rw [dig_lt h] at hc
      obtain rfl := List.mem_singleton.mp hc
      rw [dch_nat h]; omega
    · rw [dig_ge h] at hc
      rcases List.mem_append.mp hc with hc | hc
      · exact ih _ (by omega) c hc
      · obtain rfl := List.mem_singleton.mp hc
        rw [dch_nat (Nat.mod_lt _ (by omega))]; omega
theorem dig_cons (n : Nat) : ∃ c l, dig n = c :: l ∧ 48 ≤ c.toNat ∧ c.toNat ≤ 57 := by
  match h : dig n with
  | [] => exact absurd h (dig_ne n)
  | c :: l => exact ⟨c, l, rfl, dig_mem n c (by rw [h]; exact List.mem_cons_self ..)⟩
/-! How a tree is written. -/
def opT (op : Int) : Bs := txtsL.getD op.toNat []
def strO (op : Int) : Nat := if op ≤ 4 then 1 else if op ≤ 8 then 2 else if op ≤ 12 then 3 else 4
def str : Tr → Nat
  | .nil => 5
  | .nd k op _ _ _ _ _ _ => if k < 4 then 5 else strO op
def paren (b : Bool) (s : Bs) : Bs := if b = true then 40 :: (s ++ [41]) else s
def text : Tr → Bs
  | .nil => []
  | .nd k op n t i x l r => if k = 0 then dig n.toNat else if k = 1 then 114 :: dig i.toNat else if k = 2 then dig t.toNat ++ 58 :: 114 :: dig i.toNat else if k = 3 then [UInt8.ofNat x.toNat]
    else if k = 4 then opT op ++ paren (decide (str l < 4)) (text l) else paren (decide (str l < strO op)) (text l) ++ 32 :: (opT op ++ 32 :: paren (decide (str r < strO op + 1)) (text r))
theorem text_num (n) : text (.nd 0 0 n 0 0 0 .nil .nil) = dig n.toNat := by rw [text, if_pos rfl]
theorem text_reg (i) : text (.nd 1 0 0 0 i 0 .nil .nil) = 114 :: dig i.toNat := by rw [text, if_neg (by omega), if_pos rfl]
theorem text_of (t i) : text (.nd 2 0 0 t i 0 .nil .nil) = dig t.toNat ++ 58 :: 114 :: dig i.toNat := by rw [text, if_neg (by omega), if_neg (by omega), if_pos rfl]
theorem text_loc (x) : text (.nd 3 0 0 0 0 x .nil .nil) = [UInt8.ofNat x.toNat] := by rw [text, if_neg (by omega), if_neg (by omega), if_neg (by omega), if_pos rfl]
theorem text_one (op l) : text (.nd 4 op 0 0 0 0 l .nil) = opT op ++ paren (decide (str l < 4)) (text l) := by rw [text, if_neg (by omega), if_neg (by omega), if_neg (by omega), if_neg (by omega), if_pos rfl]
theorem text_two (op l r) : text (.nd 5 op 0 0 0 0 l r) = paren (decide (str l < strO op)) (text l) ++ 32 :: (opT op ++ 32 :: paren (decide (str r < strO op + 1)) (text r)) := by
  rw [text, if_neg (by omega), if_neg (by omega), if_neg (by omega), if_neg (by omega), if_neg (by omega)]
/-! Pieces between blanks that stand in no parentheses. -/
def dpt (d : Nat) (c : UInt8) : Nat := if c = 40 then d + 1 else if c = 41 then d - 1 else d
def cutS : Nat → Bs → Bs × Bs
  | _, [] => ([], [])
  | d, c :: l => if c = 32 ∧ d = 0 then ([], c :: l) else (c :: (cutS (dpt d c) l).1, (cutS (dpt d c) l).2)
def Clo (d : Nat) (s : Bs) : Prop := ∀ rest, cutS d (s ++ rest) = (s ++ (cutS d rest).1, (cutS d rest).2)
theorem Clo.nil (d) : Clo d [] := fun rest => by simp
theorem Clo.app {d : Nat} {s t : Bs} (h1 : Clo d s) (h2 : Clo d t) : Clo d (s ++ t) := fun rest => by
  rw [List.append_assoc, h1, h2]; simp
theorem Clo.one {d : Nat} {c : UInt8} (h : ¬ (c = 32 ∧ d = 0)) (h1 : c ≠ 40) (h2 : c ≠ 41) : Clo d [c] := fun rest => by
  show cutS d (c :: rest) = _
  rw [cutS, if_neg h]
  unfold dpt
  rw [if_neg h1, if_neg h2]; rfl
theorem Clo.cons {d : Nat} {c : UInt8} {s : Bs} (h : Clo d [c]) (hs : Clo d s) : Clo d (c :: s) := Clo.app (s := [c]) h hs
theorem Clo.safe {d : Nat} : ∀ {s : Bs}, (∀ c ∈ s, c ≠ 32 ∧ c ≠ 40 ∧ c ≠ 41) → Clo d s
  | [], _ => Clo.nil d
  | c :: s, h => Clo.cons (Clo.one (fun k => (h c (List.mem_cons_self ..)).1 k.1) (h c (List.mem_cons_self ..)).2.1 (h c (List.mem_cons_self ..)).2.2) (Clo.safe fun x hx => h x (List.mem_cons_of_mem _ hx))
theorem Clo.par {d : Nat} {s : Bs} (h : Clo (d + 1) s) : Clo d (40 :: (s ++ [41])) := fun rest => by
  show cutS d (40 :: (s ++ [41] ++ rest)) = _
  rw [cutS, if_neg (fun h => absurd h.1 (by decide))]
  have e : dpt d 40 = d + 1 := rfl
  rw [e, List.append_assoc, h]
  show (40 :: (s ++ (cutS (d + 1) (41 :: rest)).1), (cutS (d + 1) (41 :: rest)).2) = _
  rw [cutS, if_neg (fun h => absurd h.1 (by decide))]
  have e2 : dpt (d + 1) 41 = d := rfl
  rw [e2]; simp
theorem safe_dig (n : Nat) : ∀ c ∈ dig n, c ≠ 32 ∧ c ≠ 40 ∧ c ≠ 41 := fun c hc => by
  have := dig_mem n c hc
  refine ⟨?_, ?_, ?_⟩ <;> (rintro rfl; revert this; decide)
theorem ops_cases {P : Int → Prop} (h : P 1 ∧ P 2 ∧ P 3 ∧ P 4 ∧ P 5 ∧ P 6 ∧ P 7 ∧ P 8 ∧ P 9 ∧ P 10 ∧ P 11 ∧ P 12) (op : Int) (h1 : 1 ≤ op) (h2 : op ≤ 12) : P op := by
  have : op = 1 ∨ op = 2 ∨ op = 3 ∨ op = 4 ∨ op = 5 ∨ op = 6 ∨ op = 7 ∨ op = 8 ∨ op = 9 ∨ op = 10 ∨ op = 11 ∨ op = 12 := by omega
  obtain ⟨a1, a2, a3, a4, a5, a6, a7, a8, a9, a10, a11, a12⟩ := h
  rcases this with rfl | rfl | rfl | rfl | rfl | rfl | rfl | rfl | rfl | rfl | rfl | rfl <;> assumption
theorem safe_op (op : Int) (h1 : 1 ≤ op) (h2 : op ≤ 12) : ∀ c ∈ opT op, c ≠ 32 ∧ c ≠ 40 ∧ c ≠ 41 :=
  ops_cases (P := fun op => ∀ c ∈ opT op, c ≠ 32 ∧ c ≠ 40 ∧ c ≠ 41) (by decide) op h1 h2
theorem safe_op1 (op : Int) (h1 : 13 ≤ op) (h2 : op ≤ 14) : ∀ c ∈ opT op, c ≠ 32 ∧ c ≠ 40 ∧ c ≠ 41 := by
  have : op = 13 ∨ op = 14 := by omega
  rcases this with rfl | rfl <;> decide
theorem clo_paren {b : Bool} {s : Bs} (d : Nat) (h : ∀ d, Clo (d + 1) s) (h0 : b = false → Clo d s) : Clo d (paren b s) := by
  unfold paren
  cases b
  · exact h0 rfl
  · rw [if_pos rfl]; exact Clo.par (h d)
theorem xch {x : Int} (h1 : 97 ≤ x) (h2 : x ≤ 122) : (UInt8.ofNat x.toNat).toNat = x.toNat := by
  rw [UInt8.toNat_ofNat']; omega
theorem str_one (op l) : str (.nd 4 op 0 0 0 0 l .nil) = strO op := by
  show (if (4 : Int) < 4 then 5 else strO op) = strO op
  rw [if_neg (by decide)]
theorem str_two (op l r) : str (.nd 5 op 0 0 0 0 l r) = strO op := by
  show (if (5 : Int) < 4 then 5 else strO op) = strO op
  rw [if_neg (by decide)]
theorem strO_one {op : Int} (h1 : 13 ≤ op) : strO op = 4 := by
  unfold strO; rw [if_neg (by omega), if_neg (by omega), if_neg (by omega)]
theorem strO_two {op : Int} (h2 : op ≤ 12) : strO op ≤ 3 := by
  unfold strO; split
  · omega
  · split
    · omega
    · simp [h2]
theorem clo_leaf {x : Tr} (hx : GT x) (hs : str x = 5) (d : Nat) : Clo d (text x) := by
  cases hx with
  | num n _ => rw [text_num]; exact Clo.safe (safe_dig _)
  | reg i _ _ => rw [text_reg]; exact Clo.cons (Clo.one (by simp) (by decide) (by decide)) (Clo.safe (safe_dig _))
  | of t i _ _ _ _ => rw [text_of]; exact Clo.app (Clo.safe (safe_dig _)) (Clo.cons (Clo.one (by simp) (by decide) (by decide)) (Clo.cons (Clo.one (by simp) (by decide) (by decide)) (Clo.safe (safe_dig _))))
  | loc x h1 h2 h3 =>
    rw [text_loc]
    have := xch h1 h2
    refine Clo.safe fun c hc => ?_
    obtain rfl := List.mem_singleton.mp hc
    refine ⟨?_, ?_, ?_⟩ <;> (intro h; rw [h] at this; revert this; simp; omega)
  | one op l h1 h2 hl => rw [str_one, strO_one h1] at hs; omega
  | two op l r h1 h2 hl hr => rw [str_two] at hs; have := strO_two h2; omega
theorem clo_in {x : Tr} (hx : GT x) : ∀ d, Clo (d + 1) (text x) := by
  induction hx with
  | num n h => exact fun d => clo_leaf (.num n h) rfl _
  | reg i h1 h2 => exact fun d => clo_leaf (.reg i h1 h2) rfl _
  | of t i h1 h2 h3 h4 => exact fun d => clo_leaf (.of t i h1 h2 h3 h4) rfl _
  | loc x h1 h2 h3 => exact fun d => clo_leaf (.loc x h1 h2 h3) rfl _
  | one op l h1 h2 hl ih =>
    intro d
    rw [text_one]
    exact Clo.app (Clo.safe (safe_op1 op h1 h2)) (clo_paren _ ih fun _ => ih d)
  | two op l r h1 h2 hl hr ihl ihr =>
    intro d
    rw [text_two]
    exact Clo.app (clo_paren _ ihl fun _ => ihl d) (Clo.cons (Clo.one (by simp) (by decide) (by decide)) (Clo.app (Clo.safe (safe_op op h1 h2)) (Clo.cons (Clo.one (by simp) (by decide) (by decide)) (clo_paren _ ihr fun _ => ihr d))))
theorem clo_out {x : Tr} (hx : GT x) (hs : 4 ≤ str x) : Clo 0 (text x) := by
  induction hx with
  | num n h => exact clo_leaf (.num n h) rfl _
  | reg i h1 h2 => exact clo_leaf (.reg i h1 h2) rfl _
  | of t i h1 h2 h3 h4 => exact clo_leaf (.of t i h1 h2 h3 h4) rfl _
  | loc x h1 h2 h3 => exact clo_leaf (.loc x h1 h2 h3) rfl _
  | one op l h1 h2 hl ih =>
    rw [text_one]
    refine Clo.app (Clo.safe (safe_op1 op h1 h2)) (clo_paren _ (clo_in hl) fun hb => ih ?_)
    have : ¬ str l < 4 := of_decide_eq_false hb
    omega
  | two op l r h1 h2 hl hr ihl ihr =>
    rw [str_two] at hs
    have := strO_two h2
    omega
end Go.Proofs.YtdlghljhgbakjaaDoor

/-
  PART: trees in cells that stay.
-/
namespace Go.Proofs.YtdlghljhgbakjaaDoor
open Go.RowKit
abbrev FZ := Nat → Option (Array Value)
def cellsT (k op n t i x : Int) (vl vr : Value) : List Value := [.int .u8 k, .int .u8 op, .int .u64 n, .int .u8 t, .int .u8 i, .int .u8 x, vl, vr]
def TrR : Tr → FZ → Value → Prop
  | .nil => fun _ v => v = .pointer none
  | .nd k op n t i x l r => fun fz v => ∃ (b base : Nat) (c : Array Value) (vl vr : Value), v = .pointer (some ⟨b, base, none⟩) ∧ fz b = some c ∧ base + 8 ≤ c.size ∧ (c.toList.drop base).take 8 = cellsT k op n t i x vl vr ∧ TrR l fz vl ∧ TrR r fz vr
theorem TrR.mono {fz fz' : FZ} (hf : ∀ b c, fz b = some c → fz' b = some c) : ∀ {t : Tr} {v : Value}, TrR t fz v → TrR t fz' v
  | .nil, _, h => h
  | .nd .., _, ⟨b, base, c, vl, vr, h1, h2, h3, h4, h5, h6⟩ => ⟨b, base, c, vl, vr, h1, hf b c h2, h3, h4, TrR.mono hf h5, TrR.mono hf h6⟩
theorem TrR.one {fz : FZ} : ∀ {t : Tr} {v : Value}, TrR t fz v → one1 v = true
  | .nil, _, h => by rw [show _ = Value.pointer none from h]; rfl
  | .nd .., _, ⟨_, _, _, _, _, h1, _⟩ => by rw [h1]; rfl
theorem cellsT_inj {k op n t i x k' op' n' t' i' x' : Int} {vl vr vl' vr' : Value} (h : cellsT k op n t i x vl vr = cellsT k' op' n' t' i' x' vl' vr') : k = k' ∧ op = op' ∧ n = n' ∧ t = t' ∧ i = i' ∧ x = x' ∧ vl = vl' ∧ vr = vr' := by
  unfold cellsT at h
  simp only [List.cons.injEq, Value.int.injEq, true_and, and_true] at h
  exact h
theorem TrR.inj_at {fz : FZ} : ∀ {t t' : Tr} {v : Value}, TrR t fz v → TrR t' fz v → t = t'
  | .nil, .nil, _, _, _ => rfl
  | .nil, .nd .., v, h, ⟨_, _, _, _, _, h1, _⟩ => by rw [show v = Value.pointer none from h] at h1; cases h1
  | .nd .., .nil, v, ⟨_, _, _, _, _, h1, _⟩, h => by rw [show v = Value.pointer none from h] at h1; cases h1
  | .nd k op n t i x l r, .nd k' op' n' t' i' x' l' r', v, ⟨b, base, c, vl, vr, h1, h2, h3, h4, h5, h6⟩, ⟨b', base', c', vl', vr', g1, g2, g3, g4, g5, g6⟩ => by
    rw [h1] at g1
    simp only [Value.pointer.injEq, Option.some.injEq, Addr.mk.injEq, and_true] at g1
    obtain ⟨rfl, rfl⟩ := g1
    rw [h2] at g2
    cases g2
    rw [h4] at g4
    obtain ⟨rfl, rfl, rfl, rfl, rfl, rfl, rfl, rfl⟩ := cellsT_inj g4
    rw [TrR.inj_at h5 g5, TrR.inj_at h6 g6]
def blt : Tr → Nat → List (Array Value) × Value
  | .nil, _ => ([], .pointer none)
  | .nd k op n t i x l r, b => ((blt l b).1 ++ ((blt r (b + (blt l b).1.length)).1 ++ [(cellsT k op n t i x (blt l b).2 (blt r (b + (blt l b).1.length)).2).toArray]),
    .pointer (some ⟨b + (blt l b).1.length + (blt r (b + (blt l b).1.length)).1.length, 0, none⟩))
theorem mid_get {α : Type} (A B C : List α) (x : α) (D : List α) : (A ++ (B ++ (C ++ ([x] ++ D))))[A.length + B.length + C.length]? = some x := by
  rw [List.getElem?_append_right (by omega), List.getElem?_append_right (by omega), List.getElem?_append_right (by omega)]
  have : A.length + B.length + C.length - A.length - B.length - C.length = 0 := by omega
  rw [this]; rfl
theorem blt_ok : ∀ (t : Tr) (pre post : List (Array Value)), TrR t (fun i => (pre ++ ((blt t pre.length).1 ++ post))[i]?) (blt t pre.length).2
  | .nil, _, _ => rfl
  | .nd k op n t i x l r, pre, post => by
    have h1 := blt_ok l pre ((blt r (pre.length + (blt l pre.length).1.length)).1 ++ ([(cellsT k op n t i x (blt l pre.length).2 (blt r (pre.length + (blt l pre.length).1.length)).2).toArray] ++ post))
    have h2 := blt_ok r (pre ++ (blt l pre.length).1) ([(cellsT k op n t i x (blt l pre.length).2 (blt r (pre.length + (blt l pre.length).1.length)).2).toArray] ++ post)
    rw [List.length_append] at h2
    have e : (blt (.nd k op n t i x l r) pre.length).1 = (blt l pre.length).1 ++ ((blt r (pre.length + (blt l pre.length).1.length)).1 ++ [(cellsT k op n t i x (blt l pre.length).2 (blt r (pre.length + (blt l pre.length).1.length)).2).toArray]) := rfl
    rw [e]
    simp only [List.append_assoc] at h1 h2 ⊢
    refine ⟨_, 0, (cellsT k op n t i x (blt l pre.length).2 (blt r (pre.length + (blt l pre.length).1.length)).2).toArray, _, _, rfl, ?_, Nat.le_refl 8, rfl, h1, h2⟩
    exact mid_get pre _ _ _ post
theorem TrR.inj {t t' : Tr} (h : TrR t = TrR t') : t = t' := by
  have h1 := blt_ok t [] []
  have h2 := h1
  rw [h] at h2
  exact h1.inj_at h2
noncomputable section
open Classical in
def treeOf (φ : FZ → Value → Prop) : Tr := if h : ∃ t, φ = TrR t then Classical.choose h else .nil
theorem treeOf_tr (t : Tr) : treeOf (TrR t) = t := by
  unfold treeOf
  have h : ∃ t', TrR t = TrR t' := ⟨t, rfl⟩
  rw [dif_pos h]
  exact (TrR.inj (Classical.choose_spec h)).symm
def anyT (t : Tr) : AV := .any (TrR t)
def intA : AV → Int
  | .v (.int _ z) => z
  | .lit (.int _ z) => z
  | _ => 0
def dec0 : AV → Tr
  | .any φ => treeOf φ
  | _ => .nil
def dec1 : AV → Tr
  | .fz [a0, a1, a2, a3, a4, a5, a, b] 0 => .nd (intA a0) (intA a1) (intA a2) (intA a3) (intA a4) (intA a5) (dec0 a) (dec0 b)
  | a => dec0 a
theorem dec1_any (t : Tr) : dec1 (anyT t) = t := treeOf_tr t
/-- A tree, opened once; its parts are opened by f. -/
def opT1 (f : Tr → AV) : Tr → AV
  | .nil => .lit (.pointer none)
  | .nd k op n t i x l r => .fz [.v (.int .u8 k), .v (.int .u8 op), .v (.int .u64 n), .v (.int .u8 t), .v (.int .u8 i), .v (.int .u8 x), f l, f r] 0
theorem rep_any {E : Env} {t : Tr} {v : Value} : Rep E (anyT t) v ↔ TrR t E.fz v :=
  ⟨fun h => by cases h with | any h ho => exact h E.fz fun _ _ h => h, fun h => .any (fun _ hf => h.mono hf) h.one⟩
theorem rep_open {E : Env} {f : Tr → AV} (hf : ∀ t v, Rep E (anyT t) v → Rep E (f t) v) : ∀ {t : Tr} {v : Value}, Rep E (anyT t) v → Rep E (opT1 f t) v
  | .nil, v, h => by
    have h := rep_any.1 h
    rw [show v = Value.pointer none from h]
    exact .lit _ rfl
  | .nd k op n t i x l r, v, h => by
    obtain ⟨b, base, c, vl, vr, h1, h2, h3, h4, h5, h6⟩ := rep_any.1 h
    rw [h1]
    refine Rep.fz (base := base) (off := 0) h2 h3 ?_ ?_
    · show Reps E _ ((c.toList.drop base).take 8)
      rw [h4]
      exact .cons (.v _ rfl) (.cons (.v _ rfl) (.cons (.v _ rfl) (.cons (.v _ rfl) (.cons (.v _ rfl) (.cons (.v _ rfl) (.cons (hf _ _ (rep_any.2 h5)) (.cons (hf _ _ (rep_any.2 h6)) .nil)))))))
    · show One ((c.toList.drop base).take 8)
      rw [h4]
      intro v hv
      unfold cellsT at hv
      simp only [List.mem_cons, List.not_mem_nil, or_false] at hv
      rcases hv with rfl | rfl | rfl | rfl | rfl | rfl | rfl | rfl
      · rfl
      · rfl
      · rfl
      · rfl
      · rfl
      · rfl
      · exact h5.one
      · exact h6.one
theorem rep_shut {E : Env} {f : Tr → AV} (hf : ∀ t v, Rep E (f t) v → Rep E (anyT t) v) : ∀ {t : Tr} {v : Value}, Rep E (opT1 f t) v → Rep E (anyT t) v
  | .nil, v, h => by
    cases h
    exact rep_any.2 rfl
  | .nd k op n t i x l r, v, h => by
    refine rep_any.2 ?_
    cases h with
    | fz h hs hr ho =>
      rename_i b base c
      refine ⟨b, base, c, ?_⟩
      generalize hL : ((c.toList.drop base).take _) = L at hr
      cases hr with | cons h0 hr => cases hr with | cons h1 hr => cases hr with | cons h2 hr => cases hr with | cons h3 hr => cases hr with | cons h4 hr => cases hr with | cons h5 hr => cases hr with | cons h6 hr => cases hr with | cons h7 hr =>
      cases hr
      cases h0; cases h1; cases h2; cases h3; cases h4; cases h5
      exact ⟨_, _, rfl, h, hs, rfl, rep_any.1 (hf _ _ h6), rep_any.1 (hf _ _ h7)⟩
theorem rep_nil {E : Env} {v : Value} (h : Rep E (anyT .nil) v) : Rep E (.lit (.pointer none)) v := rep_open (f := anyT) (fun _ _ h => h) h
/-- Opened once; opened twice. -/
def op1 : Tr → AV := opT1 anyT
def op2 : Tr → AV := opT1 op1
theorem rep_op1 {E : Env} {t : Tr} {v : Value} (h : Rep E (anyT t) v) : Rep E (op1 t) v := rep_open (fun _ _ h => h) h
theorem rep_op2 {E : Env} {t : Tr} {v : Value} (h : Rep E (anyT t) v) : Rep E (op2 t) v := rep_open (fun _ _ h => rep_op1 h) h
theorem rep_un1 {E : Env} {t : Tr} {v : Value} (h : Rep E (op1 t) v) : Rep E (anyT t) v := rep_shut (fun _ _ h => h) h
theorem dec1_op1 (t : Tr) : dec1 (op1 t) = t := by
  cases t with
  | nil => rfl
  | nd k op n t i x l r => show Tr.nd k op n t i x (treeOf (TrR l)) (treeOf (TrR r)) = _; rw [treeOf_tr, treeOf_tr]
end
end Go.Proofs.YtdlghljhgbakjaaDoor

/-
  PART: what functions on trees answer; the table of them.
-/
namespace Go.Proofs.YtdlghljhgbakjaaDoor
open Go.RowKit
def depthT : Tr → Int → Int
  | .nil, _ => 0
  | .nd _ _ _ _ _ _ l r, z => if z = 0 then 0 else 1 + max (depthT l (z - 1)) (depthT r (z - 1))
def isNil : Tr → Bool
  | .nil => true
  | _ => false
def goodT : Tr → Bool
  | .nil => false
  | .nd k op n t i x l r =>
    if k = 0 then op == 0 && t == 0 && i == 0 && x == 0 && isNil l && isNil r
    else if k = 1 then op == 0 && n == 0 && t == 0 && x == 0 && isNil l && isNil r && decide (i < 8)
    else if k = 2 then op == 0 && n == 0 && x == 0 && isNil l && isNil r && (decide (t < 4) && decide (i < 8))
    else if k = 3 then op == 0 && n == 0 && t == 0 && i == 0 && isNil l && isNil r && (decide (97 ≤ x) && decide (x ≤ 122) && x != 114)
    else if k = 4 then n == 0 && t == 0 && i == 0 && x == 0 && isNil r && (sidesE op == 1 && goodT l)
    else if k = 5 then n == 0 && t == 0 && i == 0 && x == 0 && (sidesE op == 2 && goodT l && goodT r)
    else false
def sameT : Tr → Tr → Bool
  | .nil, .nil => true
  | .nd k op n t i x l r, .nd k' op' n' t' i' x' l' r' => k == k' && op == op' && n == n' && t == t' && i == i' && x == x' && sameT l l' && sameT r r'
  | _, _ => false
noncomputable section
def ctrT (f : Nat) (args : List AV) (a : AV) : Tree AV := .side (PureOk Tryd.prog f args a) (.ret a)
def tabT (f : Nat) (args : List AV) : Option (Tree AV) := match f, args with
  | 11, [] => some (.ret (.lit (.bool true)))
  | 49, [.any φ, z] => some (ctrT 49 [.any φ, z] (.v (.int .i64 (depthT (treeOf φ) (intA z)))))
  | 47, [.any φ] => some (ctrT 47 [.any φ] (.v (.bool (goodT (treeOf φ)))))
  | 45, [.any φ, .any ψ] => some (ctrT 45 [.any φ, .any ψ] (.v (.bool (sameT (treeOf φ) (treeOf ψ)))))
  | 46, [.any φ] => some (ctrT 46 [.any φ] (.v (bytesV (text (treeOf φ)))))
  | 46, [.fz [.v a0, a1, a2, a3, a4, a5, .any φ, .any ψ] 0] => some (ctrT 46 [.fz [.v a0, a1, a2, a3, a4, a5, .any φ, .any ψ] 0] (.v (bytesV (text (dec1 (.fz [.v a0, a1, a2, a3, a4, a5, .any φ, .any ψ] 0))))))
  | 92, [.any φ, .lit (.int .i64 z)] => some (ctrT 92 [.any φ, .lit (.int .i64 z)] (.v (bytesV (paren (decide (str (treeOf φ) < z.toNat)) (text (treeOf φ))))))
  | 87, [n, b] => some (ctrT 87 [n, b] (.v (bytesV (dig (intA n).toNat))))
  | 90, [n] => some (ctrT 90 [n] (.v (bytesV (dig (intA n).toNat))))
  | _, _ => none
theorem tabT_ok : TabOk Tryd.prog tabT := by
  intro f args t a ht hh
  unfold tabT at ht
  split at ht <;> cases ht
  · cases hh; exact wakes11
  all_goals
    obtain ⟨h1, h2⟩ := hh
    cases h2
    exact h1
def cxT (dec : Nat → St → Option Bool) : Cx := ⟨Tryd.prog, ctrOf tabT, dec⟩
theorem cxT_ok (dec : Nat → St → Option Bool) : CtrOk (cxT dec) := (ctrOf_ok tabT_ok).withDec dec
end
end Go.Proofs.YtdlghljhgbakjaaDoor

/-
  PART: how deep a tree is; whether it may be.
-/
namespace Go.Proofs.YtdlghljhgbakjaaDoor
open Go.RowKit
abbrev wr (z : Int) : Int := IntKind.i64.wrap z
def mx (a b : Int) : Int := if b > a then b else a
theorem mx_max (a b : Int) : mx a b = max a b := by unfold mx; split <;> omega
theorem wr_in {z : Int} (h : -1 ≤ z) (h2 : z ≤ 1000000) : wr z = z := IntWalk.i64_in _ ⟨by omega, by omega⟩
theorem lit_v {f : Nat} {args : List AV} {v : Value} (h : PureOk Tryd.prog f args (.lit v)) : PureOk Tryd.prog f args (.v v) :=
  h.imp fun u hu E => by
    cases hu E with
    | lit v h => exact .v _ h
theorem pre_op1 {f : Nat} {t : Tr} {rest : List AV} {a : AV} (h : PureOk Tryd.prog f (op1 t :: rest) a) : PureOk Tryd.prog f (anyT t :: rest) a :=
  h.pre fun E vs hr => by cases hr with | cons h1 h2 => exact .cons (rep_op1 h1) h2
theorem pre_op2 {f : Nat} {t : Tr} {rest : List AV} {a : AV} (h : PureOk Tryd.prog f (op2 t :: rest) a) : PureOk Tryd.prog f (anyT t :: rest) a :=
  h.pre fun E vs hr => by cases hr with | cons h1 h2 => exact .cons (rep_op2 h1) h2
section
variable (k op n t i x z : Int) (l r : Tr)
theorem ev49 : ((evs (cxT (decL [(10, false)])) 60).call 49 [op1 (.nd k op n t i x l r), .v (.int .i64 z)] .nil).ans =
    .side ((z == 0) = false) (.side (PureOk Tryd.prog 49 [anyT l, .v (.int .i64 (wr (z - 1)))] (.v (.int .i64 (depthT (treeOf (TrR l)) (wr (z - 1))))))
      (.side (PureOk Tryd.prog 49 [anyT r, .v (.int .i64 (wr (z - 1)))] (.v (.int .i64 (depthT (treeOf (TrR r)) (wr (z - 1))))))
        (.ret (.v (.int .i64 (wr (1 + mx (depthT (treeOf (TrR l)) (wr (z - 1))) (depthT (treeOf (TrR r)) (wr (z - 1)))))))))) := by kernel_rfl
theorem ev49z : ((evs (cxT (decL [(10, true)])) 60).call 49 [op1 (.nd k op n t i x l r), .v (.int .i64 z)] .nil).ans = .side ((z == 0) = true) (.ret (.lit (.int .i64 0))) := by kernel_rfl
theorem ev49n : ((evs (cxT (decL [])) 60).call 49 [op1 .nil, .v (.int .i64 z)] .nil).ans = .ret (.lit (.int .i64 0)) := by kernel_rfl
end
theorem depthT_in : ∀ (t : Tr) (z : Int), 0 ≤ z → 0 ≤ depthT t z ∧ depthT t z ≤ z
  | .nil, z, h => ⟨Int.le_refl 0, h⟩
  | .nd _ _ _ _ _ _ l r, z, h => by
    unfold depthT
    split
    · omega
    · have := depthT_in l (z - 1) (by omega)
      have := depthT_in r (z - 1) (by omega)
      omega
theorem depth_ok : ∀ (t : Tr) (z : Int), 0 ≤ z → z ≤ 100 → PureOk Tryd.prog 49 [anyT t, .v (.int .i64 z)] (.v (.int .i64 (depthT t z)))
  | .nil, z, _, _ => pre_op1 (lit_v (pure_hitX (cxT_ok _) rfl (ev49n z) rfl (by kernel_rfl)))
  | .nd k op n t i x l r, z, h0, h1 => by
    by_cases hz : z = 0
    · subst hz
      have : depthT (.nd k op n t i x l r) 0 = 0 := by unfold depthT; rfl
      rw [this]
      exact pre_op1 (lit_v (pure_hitX (cxT_ok _) rfl (ev49z k op n t i x 0 l r) ⟨rfl, rfl⟩ (by kernel_rfl)))
    · have hw : wr (z - 1) = z - 1 := wr_in (by omega) (by omega)
      have hl := depthT_in l (z - 1) (by omega)
      have hr := depthT_in r (z - 1) (by omega)
      have e : depthT (.nd k op n t i x l r) z = wr (1 + mx (depthT (treeOf (TrR l)) (wr (z - 1))) (depthT (treeOf (TrR r)) (wr (z - 1)))) := by
        rw [treeOf_tr, treeOf_tr, hw, mx_max, wr_in (by omega) (by omega)]
        show (if z = 0 then 0 else 1 + max (depthT l (z - 1)) (depthT r (z - 1))) = _
        rw [if_neg hz]
      rw [e]
      refine pre_op1 (pure_hitX (cxT_ok _) rfl (ev49 k op n t i x z l r) ⟨by simpa using hz, ?_, ?_, rfl⟩ (by kernel_rfl))
      · rw [treeOf_tr, hw]; exact depth_ok l (z - 1) (by omega) (by omega)
      · rw [treeOf_tr, hw]; exact depth_ok r (z - 1) (by omega) (by omega)
end Go.Proofs.YtdlghljhgbakjaaDoor

/-
  PART: whether a tree may be.
-/
namespace Go.Proofs.YtdlghljhgbakjaaDoor
open Go.RowKit
def cellK (kc : AV) (op n t i x : Int) (a b : AV) : AV := .fz [kc, .v (.int .u8 op), .v (.int .u64 n), .v (.int .u8 t), .v (.int .u8 i), .v (.int .u8 x), a, b] 0
abbrev nilA : AV := .lit (.pointer none)
abbrev somA : AV := .fz [] 0
theorem rep_fz_map {E : Env} {cs ds : List AV} {off : Nat} {v : Value} (h : Rep E (.fz cs off) v) (hl : ds.length = cs.length) (hm : ∀ vs, Reps E cs vs → Reps E ds vs) : Rep E (.fz ds off) v := by
  cases h with
  | fz h hs hr ho => exact .fz h (by rw [hl]; exact hs) (by rw [hl]; exact hm _ hr) (by rw [hl]; exact ho)
theorem rep_som {E : Env} {k op n t i x : Int} {l r : Tr} {v : Value} (h : Rep E (anyT (.nd k op n t i x l r)) v) : Rep E somA v := by
  obtain ⟨b, base, c, vl, vr, h1, h2, h3, h4, h5, h6⟩ := rep_any.1 h
  rw [h1]
  refine Rep.fz (base := base) (off := 0) h2 (by show base + 0 ≤ _; omega) ?_ ?_
  · show Reps E [] ((c.toList.drop base).take 0)
    rw [List.take_zero]; exact .nil
  · show One ((c.toList.drop base).take 0)
    rw [List.take_zero]; intro v hv; cases hv
theorem rep_cell {E : Env} {k op n t i x : Int} {l r : Tr} {kc a b : AV} {v : Value} (hk : ∀ E u, Rep E (.v (.int .u8 k)) u → Rep E kc u) (ha : ∀ E u, Rep E (anyT l) u → Rep E a u) (hb : ∀ E u, Rep E (anyT r) u → Rep E b u)
    (h : Rep E (anyT (.nd k op n t i x l r)) v) : Rep E (cellK kc op n t i x a b) v := by
  have h1 : Rep E (.fz [.v (.int .u8 k), .v (.int .u8 op), .v (.int .u64 n), .v (.int .u8 t), .v (.int .u8 i), .v (.int .u8 x), anyT l, anyT r] 0) v := rep_op1 h
  refine rep_fz_map h1 rfl fun vs hr => ?_
  cases hr with | cons h0 hr => cases hr with | cons h1 hr => cases hr with | cons h2 hr => cases hr with | cons h3 hr => cases hr with | cons h4 hr => cases hr with | cons h5 hr => cases hr with | cons h6 hr => cases hr with | cons h7 hr =>
  exact .cons (hk _ _ h0) (.cons h1 (.cons h2 (.cons h3 (.cons h4 (.cons h5 (.cons (ha _ _ h6) (.cons (hb _ _ h7) hr)))))))
theorem pre_cell {f : Nat} {k op n t i x : Int} {l r : Tr} {kc a b : AV} {rest : List AV} {ans : AV} (hk : ∀ E u, Rep E (.v (.int .u8 k)) u → Rep E kc u) (ha : ∀ E u, Rep E (anyT l) u → Rep E a u) (hb : ∀ E u, Rep E (anyT r) u → Rep E b u)
    (h : PureOk Tryd.prog f (cellK kc op n t i x a b :: rest) ans) : PureOk Tryd.prog f (anyT (.nd k op n t i x l r) :: rest) ans :=
  h.pre fun E vs hr => by cases hr with | cons h1 h2 => exact .cons (rep_cell hk ha hb h1) h2
theorem k_lit {k : Int} : ∀ E u, Rep E (.v (.int .u8 k)) u → Rep E (.lit (.int .u8 k)) u := fun E u h => by cases h; exact .lit _ rfl
theorem k_same {k : Int} : ∀ E u, Rep E (.v (.int .u8 k)) u → Rep E (.v (.int .u8 k)) u := fun _ _ h => h
theorem a_nil : ∀ E u, Rep E (anyT .nil) u → Rep E nilA u := fun _ _ h => rep_nil h
theorem a_som {k op n t i x : Int} {l r : Tr} : ∀ E u, Rep E (anyT (.nd k op n t i x l r)) u → Rep E somA u := fun _ _ h => rep_som h
theorem a_any {t : Tr} : ∀ E u, Rep E (anyT t) u → Rep E (anyT t) u := fun _ _ h => h
theorem ite_nand (c d : Bool) : (if (!c) = true then false else d) = (c && d) := by cases c <;> rfl
theorem ite_and' (c d : Bool) : (if c = true then d else false) = (c && d) := by cases c <;> rfl
def lkA (k : Int) : AV := .lit (.int .u8 k)
def dk47 : Nat → St → Option Bool := decL [(11, false), (14, false), (17, false), (21, false), (24, false), (28, false), (15, false), (38, false), (59, false), (74, false)]
section
variable (k op n t i x : Int) (l r : Tr)
theorem ev47_0_0 : ((evs (cxT (decL [])) 60).call 47 [cellK (lkA 0) op n t i x nilA nilA] .nil).ans = .ret (.v (.bool (!!(op == 0 && (t == 0 && (i == 0 && x == 0)))))) := by kernel_rfl
theorem ev47_0_1 : ((evs (cxT (decL [])) 60).call 47 [cellK (lkA 0) op n t i x somA nilA] .nil).ans = .ret (.lit (.bool false)) := by kernel_rfl
theorem ev47_0_2 : ((evs (cxT (decL [])) 60).call 47 [cellK (lkA 0) op n t i x nilA somA] .nil).ans = .ret (.lit (.bool false)) := by kernel_rfl
theorem ev47_0_3 : ((evs (cxT (decL [])) 60).call 47 [cellK (lkA 0) op n t i x somA somA] .nil).ans = .ret (.lit (.bool false)) := by kernel_rfl
theorem ev47_1_0 : ((evs (cxT (decL [])) 60).call 47 [cellK (lkA 1) op n t i x nilA nilA] .nil).ans = .ret (.v (.bool (if (!(op == 0 && (n == 0 && (t == 0 && x == 0)))) = true then false else decide (i < 8)))) := by kernel_rfl
theorem ev47_1_1 : ((evs (cxT (decL [])) 60).call 47 [cellK (lkA 1) op n t i x somA nilA] .nil).ans = .ret (.lit (.bool false)) := by kernel_rfl
theorem ev47_1_2 : ((evs (cxT (decL [])) 60).call 47 [cellK (lkA 1) op n t i x nilA somA] .nil).ans = .ret (.lit (.bool false)) := by kernel_rfl
theorem ev47_1_3 : ((evs (cxT (decL [])) 60).call 47 [cellK (lkA 1) op n t i x somA somA] .nil).ans = .ret (.lit (.bool false)) := by kernel_rfl
theorem ev47_2_0 : ((evs (cxT (decL [])) 60).call 47 [cellK (lkA 2) op n t i x nilA nilA] .nil).ans = .ret (.v (.bool (if (!(op == 0 && (n == 0 && x == 0))) = true then false else if decide (t < 4) = true then decide (i < 8) else false))) := by kernel_rfl
theorem ev47_2_1 : ((evs (cxT (decL [])) 60).call 47 [cellK (lkA 2) op n t i x somA nilA] .nil).ans = .ret (.lit (.bool false)) := by kernel_rfl
theorem ev47_2_2 : ((evs (cxT (decL [])) 60).call 47 [cellK (lkA 2) op n t i x nilA somA] .nil).ans = .ret (.lit (.bool false)) := by kernel_rfl
theorem ev47_2_3 : ((evs (cxT (decL [])) 60).call 47 [cellK (lkA 2) op n t i x somA somA] .nil).ans = .ret (.lit (.bool false)) := by kernel_rfl
theorem ev47_3_0 : ((evs (cxT (decL [])) 60).call 47 [cellK (lkA 3) op n t i x nilA nilA] .nil).ans = .ret (.v (.bool (if (!(op == 0 && (n == 0 && (t == 0 && i == 0)))) = true then false else if decide (x ≥ 97) = true then if decide (x ≤ 122) = true then x != 114 else false else false))) := by kernel_rfl
theorem ev47_3_1 : ((evs (cxT (decL [])) 60).call 47 [cellK (lkA 3) op n t i x somA nilA] .nil).ans = .ret (.lit (.bool false)) := by kernel_rfl
theorem ev47_3_2 : ((evs (cxT (decL [])) 60).call 47 [cellK (lkA 3) op n t i x nilA somA] .nil).ans = .ret (.lit (.bool false)) := by kernel_rfl
theorem ev47_3_3 : ((evs (cxT (decL [])) 60).call 47 [cellK (lkA 3) op n t i x somA somA] .nil).ans = .ret (.lit (.bool false)) := by kernel_rfl
theorem ev47_4_0 : ((evs (cxT (decL [])) 60).call 47 [cellK (lkA 4) op n t i x (anyT l) nilA] .nil).ans = .side ((!(n == 0 && (t == 0 && (i == 0 && x == 0)))) = false → (sidesE op == 1) = true → PureOk Tryd.prog 47 [anyT l] (.v (.bool (goodT (treeOf (TrR l)))))) (.ret (.v (.bool (if (!(n == 0 && (t == 0 && (i == 0 && x == 0)))) = true then false else if (sidesE op == 1) = true then (goodT (treeOf (TrR l))) else false)))) := by kernel_rfl
theorem ev47_4_1 : ((evs (cxT (decL [])) 60).call 47 [cellK (lkA 4) op n t i x (anyT l) somA] .nil).ans = .ret (.lit (.bool false)) := by kernel_rfl
theorem ev47_5 : ((evs (cxT (decL [])) 60).call 47 [cellK (lkA 5) op n t i x (anyT l) (anyT r)] .nil).ans = .side ((!(n == 0 && (t == 0 && (i == 0 && x == 0)))) = false → (sidesE op == 2) = true → PureOk Tryd.prog 47 [anyT l] (.v (.bool (goodT (treeOf (TrR l))))) ∧ ((goodT (treeOf (TrR l))) = true → PureOk Tryd.prog 47 [anyT r] (.v (.bool (goodT (treeOf (TrR r))))))) (.ret (.v (.bool (if (!(n == 0 && (t == 0 && (i == 0 && x == 0)))) = true then false else if (sidesE op == 2) = true then if (goodT (treeOf (TrR l))) = true then (goodT (treeOf (TrR r))) else false else false)))) := by kernel_rfl
theorem ev47_6_0 : ((evs (cxT dk47) 60).call 47 [cellK (.v (.int .u8 k)) op n t i x nilA nilA] .nil).ans = .side ((k == 0) = false) ( .side ((k == 1) = false) ( .side ((k == 2) = false) ( .side ((k == 3) = false) ( .side ((k == 4) = false) ( .side ((k == 5) = false) (.side ((!(op == 0 && (n == 0 && (t == 0 && (i == 0 && x == 0))))) = false → (k == 0) = false ∧ (k == 1) = false ∧ (k == 2) = false ∧ (k == 3) = false ∧ (k == 4) = false ∧ (k == 5) = false) (.ret (.lit (.bool false))))))))) := by kernel_rfl
theorem ev47_6_1 : ((evs (cxT dk47) 60).call 47 [cellK (.v (.int .u8 k)) op n t i x somA nilA] .nil).ans = .side ((k == 0) = false) ( .side ((k == 1) = false) ( .side ((k == 2) = false) ( .side ((k == 3) = false) ( .side ((k == 4) = false) ( .side ((k == 5) = false) (.ret (.lit (.bool false)))))))) := by kernel_rfl
theorem ev47_6_2 : ((evs (cxT dk47) 60).call 47 [cellK (.v (.int .u8 k)) op n t i x nilA somA] .nil).ans = .side ((k == 0) = false) ( .side ((k == 1) = false) ( .side ((k == 2) = false) ( .side ((k == 3) = false) ( .side ((k == 4) = false) ( .side ((k == 5) = false) (.ret (.lit (.bool false)))))))) := by kernel_rfl
theorem ev47_6_3 : ((evs (cxT dk47) 60).call 47 [cellK (.v (.int .u8 k)) op n t i x somA somA] .nil).ans = .side ((k == 0) = false) ( .side ((k == 1) = false) ( .side ((k == 2) = false) ( .side ((k == 3) = false) ( .side ((k == 4) = false) ( .side ((k == 5) = false) (.ret (.lit (.bool false)))))))) := by kernel_rfl
theorem ev47_n : ((evs (cxT (decL [])) 60).call 47 [nilA] .nil).ans = .ret (.lit (.bool false)) := by kernel_rfl
end
theorem no_ok {f : Nat} {args : List AV} {b : Bool} (hb : b = false) (h : PureOk Tryd.prog f args (.lit (.bool false))) : PureOk Tryd.prog f args (.v (.bool b)) := by
  rw [hb]; exact lit_v h
theorem v_ok {f : Nat} {args : List AV} {b c : Bool} (hb : b = c) (h : PureOk Tryd.prog f args (.v (.bool c))) : PureOk Tryd.prog f args (.v (.bool b)) := by
  rw [hb]; exact h
theorem good_0 (op n t i x : Int) : ∀ l r : Tr, PureOk Tryd.prog 47 [anyT (.nd 0 op n t i x l r)] (.v (.bool (goodT (.nd 0 op n t i x l r))))
  | .nil, .nil => by
    refine v_ok ?_ (pre_cell k_lit a_nil a_nil (pure_hitX (cxT_ok _) rfl (ev47_0_0 op n t i x) rfl (by kernel_rfl)))
    unfold goodT
    rw [if_pos rfl]
    simp only [isNil, ite_nand, ite_and', Bool.and_assoc, Bool.and_true, Bool.true_and, Bool.not_not]
    try rfl
  | .nd .., .nil => by
    refine no_ok ?_ (pre_cell k_lit a_som a_nil (pure_hitX (cxT_ok _) rfl (ev47_0_1 op n t i x) rfl (by kernel_rfl)))
    unfold goodT
    rw [if_pos rfl]
    simp [isNil]
  | .nil, .nd .. => by
    refine no_ok ?_ (pre_cell k_lit a_nil a_som (pure_hitX (cxT_ok _) rfl (ev47_0_2 op n t i x) rfl (by kernel_rfl)))
    unfold goodT
    rw [if_pos rfl]
    simp [isNil]
  | .nd .., .nd .. => by
    refine no_ok ?_ (pre_cell k_lit a_som a_som (pure_hitX (cxT_ok _) rfl (ev47_0_3 op n t i x) rfl (by kernel_rfl)))
    unfold goodT
    rw [if_pos rfl]
    simp [isNil]
theorem good_1 (op n t i x : Int) : ∀ l r : Tr, PureOk Tryd.prog 47 [anyT (.nd 1 op n t i x l r)] (.v (.bool (goodT (.nd 1 op n t i x l r))))
  | .nil, .nil => by
    refine v_ok ?_ (pre_cell k_lit a_nil a_nil (pure_hitX (cxT_ok _) rfl (ev47_1_0 op n t i x) rfl (by kernel_rfl)))
    unfold goodT
    rw [if_neg (by decide), if_pos rfl]
    simp only [isNil, ite_nand, ite_and', Bool.and_assoc, Bool.and_true, Bool.true_and, Bool.not_not]
    try rfl
  | .nd .., .nil => by
    refine no_ok ?_ (pre_cell k_lit a_som a_nil (pure_hitX (cxT_ok _) rfl (ev47_1_1 op n t i x) rfl (by kernel_rfl)))
    unfold goodT
    rw [if_neg (by decide), if_pos rfl]
    simp [isNil]
  | .nil, .nd .. => by
    refine no_ok ?_ (pre_cell k_lit a_nil a_som (pure_hitX (cxT_ok _) rfl (ev47_1_2 op n t i x) rfl (by kernel_rfl)))
    unfold goodT
    rw [if_neg (by decide), if_pos rfl]
    simp [isNil]
  | .nd .., .nd .. => by
    refine no_ok ?_ (pre_cell k_lit a_som a_som (pure_hitX (cxT_ok _) rfl (ev47_1_3 op n t i x) rfl (by kernel_rfl)))
    unfold goodT
    rw [if_neg (by decide), if_pos rfl]
    simp [isNil]
theorem good_2 (op n t i x : Int) : ∀ l r : Tr, PureOk Tryd.prog 47 [anyT (.nd 2 op n t i x l r)] (.v (.bool (goodT (.nd 2 op n t i x l r))))
  | .nil, .nil => by
    refine v_ok ?_ (pre_cell k_lit a_nil a_nil (pure_hitX (cxT_ok _) rfl (ev47_2_0 op n t i x) rfl (by kernel_rfl)))
    unfold goodT
    rw [if_neg (by decide), if_neg (by decide), if_pos rfl]
    simp only [isNil, ite_nand, ite_and', Bool.and_assoc, Bool.and_true, Bool.true_and, Bool.not_not]
    try rfl
  | .nd .., .nil => by
    refine no_ok ?_ (pre_cell k_lit a_som a_nil (pure_hitX (cxT_ok _) rfl (ev47_2_1 op n t i x) rfl (by kernel_rfl)))
    unfold goodT
    rw [if_neg (by decide), if_neg (by decide), if_pos rfl]
    simp [isNil]
  | .nil, .nd .. => by
    refine no_ok ?_ (pre_cell k_lit a_nil a_som (pure_hitX (cxT_ok _) rfl (ev47_2_2 op n t i x) rfl (by kernel_rfl)))
    unfold goodT
    rw [if_neg (by decide), if_neg (by decide), if_pos rfl]
    simp [isNil]
  | .nd .., .nd .. => by
    refine no_ok ?_ (pre_cell k_lit a_som a_som (pure_hitX (cxT_ok _) rfl (ev47_2_3 op n t i x) rfl (by kernel_rfl)))
    unfold goodT
    rw [if_neg (by decide), if_neg (by decide), if_pos rfl]
    simp [isNil]
theorem good_3 (op n t i x : Int) : ∀ l r : Tr, PureOk Tryd.prog 47 [anyT (.nd 3 op n t i x l r)] (.v (.bool (goodT (.nd 3 op n t i x l r))))
  | .nil, .nil => by
    refine v_ok ?_ (pre_cell k_lit a_nil a_nil (pure_hitX (cxT_ok _) rfl (ev47_3_0 op n t i x) rfl (by kernel_rfl)))
    unfold goodT
    rw [if_neg (by decide), if_neg (by decide), if_neg (by decide), if_pos rfl]
    simp only [isNil, ite_nand, ite_and', Bool.and_assoc, Bool.and_true, Bool.true_and, Bool.not_not]
    try rfl
  | .nd .., .nil => by
    refine no_ok ?_ (pre_cell k_lit a_som a_nil (pure_hitX (cxT_ok _) rfl (ev47_3_1 op n t i x) rfl (by kernel_rfl)))
    unfold goodT
    rw [if_neg (by decide), if_neg (by decide), if_neg (by decide), if_pos rfl]
    simp [isNil]
  | .nil, .nd .. => by
    refine no_ok ?_ (pre_cell k_lit a_nil a_som (pure_hitX (cxT_ok _) rfl (ev47_3_2 op n t i x) rfl (by kernel_rfl)))
    unfold goodT
    rw [if_neg (by decide), if_neg (by decide), if_neg (by decide), if_pos rfl]
    simp [isNil]
  | .nd .., .nd .. => by
    refine no_ok ?_ (pre_cell k_lit a_som a_som (pure_hitX (cxT_ok _) rfl (ev47_3_3 op n t i x) rfl (by kernel_rfl)))
    unfold goodT
    rw [if_neg (by decide), if_neg (by decide), if_neg (by decide), if_pos rfl]
    simp [isNil]
theorem good_ok : ∀ t : Tr, PureOk Tryd.prog 47 [anyT t] (.v (.bool (goodT t)))
  | .nil => pre_op1 (lit_v (pure_hitX (cxT_ok _) rfl ev47_n rfl (by kernel_rfl)))
  | .nd k op n t i x l r => by
    by_cases h0 : k = 0
    · subst h0; exact good_0 _ _ _ _ _ _ _
    by_cases h1 : k = 1
    · subst h1; exact good_1 _ _ _ _ _ _ _
    by_cases h2 : k = 2
    · subst h2; exact good_2 _ _ _ _ _ _ _
    by_cases h3 : k = 3
    · subst h3; exact good_3 _ _ _ _ _ _ _
    by_cases h4 : k = 4
    · subst h4
      have il := good_ok l
      have e : goodT (.nd 4 op n t i x l r) = (n == 0 && t == 0 && i == 0 && x == 0 && isNil r && (sidesE op == 1 && goodT l)) := by
        show (if (4 : Int) = 0 then _ else _) = _
        rw [if_neg (by decide), if_neg (by decide), if_neg (by decide), if_neg (by decide), if_pos rfl]
      cases r with
      | nil =>
        refine v_ok ?_ (pre_cell k_lit a_any a_nil (pure_hitX (cxT_ok _) rfl (ev47_4_0 op n t i x l) ⟨fun _ _ => ?_, rfl⟩ (by kernel_rfl)))
        · rw [e, treeOf_tr]; simp only [isNil, ite_nand, ite_and', Bool.and_assoc, Bool.and_true, Bool.true_and, Bool.not_not]
        · rw [treeOf_tr]; exact il
      | nd =>
        refine no_ok ?_ (pre_cell k_lit a_any a_som (pure_hitX (cxT_ok _) rfl (ev47_4_1 op n t i x l) rfl (by kernel_rfl)))
        rw [e]; simp [isNil]
    by_cases h5 : k = 5
    · subst h5
      have il := good_ok l
      have ir := good_ok r
      have e : goodT (.nd 5 op n t i x l r) = (n == 0 && t == 0 && i == 0 && x == 0 && (sidesE op == 2 && goodT l && goodT r)) := by
        show (if (5 : Int) = 0 then _ else _) = _
        rw [if_neg (by decide), if_neg (by decide), if_neg (by decide), if_neg (by decide), if_neg (by decide), if_pos rfl]
      refine v_ok ?_ (pre_cell k_lit a_any a_any (pure_hitX (cxT_ok _) rfl (ev47_5 op n t i x l r) ⟨fun _ _ => ⟨?_, fun _ => ?_⟩, rfl⟩ (by kernel_rfl)))
      · rw [e, treeOf_tr, treeOf_tr]; simp only [ite_nand, ite_and', Bool.and_assoc]
      · rw [treeOf_tr]; exact il
      · rw [treeOf_tr]; exact ir
    have e : goodT (.nd k op n t i x l r) = false := by
      unfold goodT
      rw [if_neg h0, if_neg h1, if_neg h2, if_neg h3, if_neg h4, if_neg h5]
    have g0 : (k == 0) = false := by simpa using h0
    have g1 : (k == 1) = false := by simpa using h1
    have g2 : (k == 2) = false := by simpa using h2
    have g3 : (k == 3) = false := by simpa using h3
    have g4 : (k == 4) = false := by simpa using h4
    have g5 : (k == 5) = false := by simpa using h5
    refine no_ok e ?_
    cases l <;> cases r
    · exact pre_cell k_same a_nil a_nil (pure_hitX (cxT_ok _) rfl (ev47_6_0 k op n t i x) ⟨g0, g1, g2, g3, g4, g5, fun _ => ⟨g0, g1, g2, g3, g4, g5⟩, rfl⟩ (by kernel_rfl))
    · exact pre_cell k_same a_nil a_som (pure_hitX (cxT_ok _) rfl (ev47_6_2 k op n t i x) ⟨g0, g1, g2, g3, g4, g5, rfl⟩ (by kernel_rfl))
    · exact pre_cell k_same a_som a_nil (pure_hitX (cxT_ok _) rfl (ev47_6_1 k op n t i x) ⟨g0, g1, g2, g3, g4, g5, rfl⟩ (by kernel_rfl))
    · exact pre_cell k_same a_som a_som (pure_hitX (cxT_ok _) rfl (ev47_6_3 k op n t i x) ⟨g0, g1, g2, g3, g4, g5, rfl⟩ (by kernel_rfl))
end Go.Proofs.YtdlghljhgbakjaaDoor

/-
  PART: whether two trees are alike.
-/
namespace Go.Proofs.YtdlghljhgbakjaaDoor
open Go.RowKit
section
variable (k op n t i x k' op' n' t' i' x' : Int) (l r l' r' : Tr)
noncomputable abbrev ST (l l' : Tr) : Bool := sameT (treeOf (TrR l)) (treeOf (TrR l'))
theorem ev45 : ((evs (cxT (decL [])) 60).call 45 [op1 (.nd k op n t i x l r), op1 (.nd k' op' n' t' i' x' l' r')] .nil).ans =
    .side ((k == k' && (op == op' && (n == n' && (t == t' && (i == i' && x == x'))))) = true → PureOk Tryd.prog 45 [anyT l, anyT l'] (.v (.bool (ST l l'))) ∧ (ST l l' = true → PureOk Tryd.prog 45 [anyT r, anyT r'] (.v (.bool (ST r r')))))
      (.ret (.v (.bool (if (k == k' && (op == op' && (n == n' && (t == t' && (i == i' && x == x'))))) = true then if ST l l' = true then ST r r' else false else false)))) := by kernel_rfl
theorem ev45_1 : ((evs (cxT (decL [])) 60).call 45 [op1 .nil, op1 (.nd k' op' n' t' i' x' l' r')] .nil).ans = .ret (.lit (.bool false)) := by kernel_rfl
theorem ev45_2 : ((evs (cxT (decL [])) 60).call 45 [op1 (.nd k op n t i x l r), op1 .nil] .nil).ans = .ret (.lit (.bool false)) := by kernel_rfl
theorem ev45_3 : ((evs (cxT (decL [])) 60).call 45 [op1 .nil, op1 .nil] .nil).ans = .ret (.lit (.bool true)) := by kernel_rfl
end
theorem pre_two {f : Nat} {t u : Tr} {a : AV} (h : PureOk Tryd.prog f [op1 t, op1 u] a) : PureOk Tryd.prog f [anyT t, anyT u] a :=
  h.pre fun E vs hr => by cases hr with | cons h1 h2 => cases h2 with | cons h2 h3 => exact .cons (rep_op1 h1) (.cons (rep_op1 h2) h3)
theorem same_ok : ∀ t u : Tr, PureOk Tryd.prog 45 [anyT t, anyT u] (.v (.bool (sameT t u)))
  | .nil, .nil => pre_two (lit_v (pure_hitX (cxT_ok _) rfl ev45_3 rfl (by kernel_rfl)))
  | .nil, .nd k op n t i x l r => pre_two (lit_v (pure_hitX (cxT_ok _) rfl (ev45_1 k op n t i x l r) rfl (by kernel_rfl)))
  | .nd k op n t i x l r, .nil => pre_two (lit_v (pure_hitX (cxT_ok _) rfl (ev45_2 k op n t i x l r) rfl (by kernel_rfl)))
  | .nd k op n t i x l r, .nd k' op' n' t' i' x' l' r' => by
    refine v_ok ?_ (pre_two (pure_hitX (cxT_ok _) rfl (ev45 k op n t i x k' op' n' t' i' x' l r l' r') ⟨fun _ => ⟨?_, fun _ => ?_⟩, rfl⟩ (by kernel_rfl)))
    · show (k == k' && op == op' && n == n' && t == t' && i == i' && x == x' && sameT l l' && sameT r r') = _
      simp only [ST, treeOf_tr, ite_and', Bool.and_assoc]
    · simp only [ST, treeOf_tr]; exact same_ok l l'
    · simp only [ST, treeOf_tr]; exact same_ok r r'
theorem sameT_iff : ∀ t u : Tr, sameT t u = true ↔ t = u
  | .nil, .nil => ⟨fun _ => rfl, fun _ => rfl⟩
  | .nil, .nd .. => ⟨fun h => (by cases h), fun h => (by cases h)⟩
  | .nd .., .nil => ⟨fun h => (by cases h), fun h => (by cases h)⟩
  | .nd k op n t i x l r, .nd k' op' n' t' i' x' l' r' => by
    show (k == k' && op == op' && n == n' && t == t' && i == i' && x == x' && sameT l l' && sameT r r') = true ↔ _
    simp only [Bool.and_eq_true, beq_iff_eq, sameT_iff l l', sameT_iff r r', Tr.nd.injEq, and_assoc]
def mayT (t : Tr) : Bool := if decide (depthT t 13 ≤ 12) = true then goodT t else false
section
variable (t u : Tr)
theorem lit_arg {f : Nat} {a : AV} {v : Value} {b : AV} (h : PureOk Tryd.prog f [b, .v v] a) : PureOk Tryd.prog f [b, .lit v] a :=
  h.pre fun E vs hr => by
    cases hr with
    | cons h1 h2 => cases h2 with
      | cons h2 h3 => cases h2 with
        | lit v h => exact .cons h1 (.cons (.v _ h) h3)
theorem ev17 : ((evs (cxT (decL [])) 60).call 17 [anyT t] .nil).ans =
    .side (PureOk Tryd.prog 49 [anyT t, .lit (.int .i64 13)] (.v (.int .i64 (depthT (treeOf (TrR t)) 13))))
    (.side (decide (depthT (treeOf (TrR t)) 13 ≤ 12) = true → PureOk Tryd.prog 47 [anyT t] (.v (.bool (goodT (treeOf (TrR t))))))
      (.ret (.v (.bool (if decide (depthT (treeOf (TrR t)) 13 ≤ 12) = true then goodT (treeOf (TrR t)) else false))))) := by kernel_rfl
end
theorem may_ok (t : Tr) : PureOk Tryd.prog 17 [anyT t] (.v (.bool (mayT t))) := by
  refine v_ok ?_ (pure_hitX (cxT_ok _) rfl (ev17 t) ⟨?_, fun _ => ?_, rfl⟩ (by kernel_rfl))
  · rw [treeOf_tr]; rfl
  · rw [treeOf_tr]; exact lit_arg (depth_ok t 13 (by omega) (by omega))
  · rw [treeOf_tr]; exact good_ok t
end Go.Proofs.YtdlghljhgbakjaaDoor

/-
  PART: unlike expressions are written unlike.
-/
namespace Go.Proofs.YtdlghljhgbakjaaDoor
def joinS : List Bs → Bs
  | [] => []
  | [a] => a
  | a :: b :: l => a ++ 32 :: joinS (b :: l)
theorem joinS_cons (a : Bs) {l : List Bs} (h : l ≠ []) : joinS (a :: l) = a ++ 32 :: joinS l := by
  match l, h with
  | b :: l, _ => rfl
theorem joinS_app : ∀ {a b : List Bs}, a ≠ [] → b ≠ [] → joinS (a ++ b) = joinS a ++ 32 :: joinS b
  | [], _, h, _ => absurd rfl h
  | [a], b, _, hb => joinS_cons a hb
  | a :: a' :: l, b, _, hb => by
    show joinS (a :: ((a' :: l) ++ b)) = _
    rw [joinS_cons a (by simp), joinS_app (List.cons_ne_nil _ _) hb, joinS_cons a (List.cons_ne_nil _ _)]
    simp
theorem cutS_one {a : Bs} (h : Clo 0 a) : cutS 0 a = (a, []) := by
  have := h []
  simpa [cutS] using this
theorem cutS_more {a : Bs} (h : Clo 0 a) (rest : Bs) : cutS 0 (a ++ 32 :: rest) = (a, 32 :: rest) := by
  rw [h]
  have : cutS 0 (32 :: rest) = ([], 32 :: rest) := by rw [cutS, if_pos ⟨rfl, rfl⟩]
  rw [this]; simp
theorem joinS_inj : ∀ {l m : List Bs}, (∀ t ∈ l, Clo 0 t) → (∀ t ∈ m, Clo 0 t) → l ≠ [] → m ≠ [] → joinS l = joinS m → l = m
  | [], _, _, _, h, _, _ => absurd rfl h
  | _, [], _, _, _, h, _ => absurd rfl h
  | [a], [b], _, _, _, _, h => by rw [show a = b from h]
  | [a], b :: b' :: m, h1, h2, _, _, h => by
    have e1 := cutS_one (h1 a (List.mem_cons_self ..))
    have e2 := cutS_more (h2 b (List.mem_cons_self ..)) (joinS (b' :: m))
    have h' : a = b ++ 32 :: joinS (b' :: m) := h
    rw [← h', e1] at e2
    exact absurd (congrArg Prod.snd e2) (by simp)
  | a :: a' :: l, [b], h1, h2, _, _, h => by
    have e1 := cutS_more (h1 a (List.mem_cons_self ..)) (joinS (a' :: l))
    have e2 := cutS_one (h2 b (List.mem_cons_self ..))
    have h' : a ++ 32 :: joinS (a' :: l) = b := h
    rw [h', e2] at e1
    exact absurd (congrArg Prod.snd e1) (by simp)
  | a :: a' :: l, b :: b' :: m, h1, h2, _, _, h => by
    have e1 := cutS_more (h1 a (List.mem_cons_self ..)) (joinS (a' :: l))
    have e2 := cutS_more (h2 b (List.mem_cons_self ..)) (joinS (b' :: m))
    have h' : a ++ 32 :: joinS (a' :: l) = b ++ 32 :: joinS (b' :: m) := h
    rw [h', e2] at e1
    simp only [Prod.mk.injEq, List.cons.injEq, true_and] at e1
    have := joinS_inj (fun t ht => h1 t (List.mem_cons_of_mem _ ht)) (fun t ht => h2 t (List.mem_cons_of_mem _ ht)) (List.cons_ne_nil _ _) (List.cons_ne_nil _ _) e1.2.symm
    rw [e1.1, this]
def toks : Tr → List Bs
  | .nil => [[]]
  | .nd k op n t i x l r => if k = 5 then (if decide (str l < strO op) = true then [paren true (text l)] else toks l) ++ opT op :: (if decide (str r < strO op + 1) = true then [paren true (text r)] else toks r)
    else [text (.nd k op n t i x l r)]
def ptoks (b : Bool) (e : Tr) : List Bs := if b = true then [paren true (text e)] else toks e
theorem toks_two (op l r) : toks (.nd 5 op 0 0 0 0 l r) = ptoks (decide (str l < strO op)) l ++ opT op :: ptoks (decide (str r < strO op + 1)) r := by
  rw [toks, if_pos rfl]; rfl
theorem toks_ne (x : Tr) : toks x ≠ [] := by
  cases x with
  | nil => exact List.cons_ne_nil _ _
  | nd k op n t i x l r =>
    unfold toks
    split
    · simp
    · exact List.cons_ne_nil _ _
theorem ptoks_ne (b : Bool) (x : Tr) : ptoks b x ≠ [] := by
  unfold ptoks
  split
  · exact List.cons_ne_nil _ _
  · exact toks_ne x
theorem join_ptoks {b : Bool} {e : Tr} (h : joinS (toks e) = text e) : joinS (ptoks b e) = paren b (text e) := by
  unfold ptoks
  cases b
  · exact h
  · rfl
theorem text_toks {x : Tr} (hx : GT x) : joinS (toks x) = text x := by
  induction hx with
  | two op l r h1 h2 hl hr ihl ihr =>
    rw [toks_two, joinS_app (ptoks_ne _ _) (List.cons_ne_nil _ _), joinS_cons _ (ptoks_ne _ _), join_ptoks ihl, join_ptoks ihr, text_two]
  | _ => rfl
theorem toks_clo {x : Tr} (hx : GT x) : ∀ t ∈ toks x, Clo 0 t := by
  induction hx with
  | two op l r h1 h2 hl hr ihl ihr =>
    have pt : ∀ {e : Tr} {b : Bool}, GT e → (∀ t ∈ toks e, Clo 0 t) → ∀ t ∈ ptoks b e, Clo 0 t := by
      intro e b he ih t ht
      unfold ptoks at ht
      split at ht
      · obtain rfl := List.mem_singleton.mp ht
        exact Clo.par (clo_in he 0)
      · exact ih t ht
    intro t ht
    rw [toks_two] at ht
    rcases List.mem_append.mp ht with ht | ht
    · exact pt hl ihl t ht
    · rcases List.mem_cons.mp ht with rfl | ht
      · exact Clo.safe (safe_op op h1 h2)
      · exact pt hr ihr t ht
  | num n h => intro t ht; obtain rfl := List.mem_singleton.mp ht; exact clo_leaf (.num n h) rfl _
  | reg i h1 h2 => intro t ht; obtain rfl := List.mem_singleton.mp ht; exact clo_leaf (.reg i h1 h2) rfl _
  | of t i h1 h2 h3 h4 => intro t ht; obtain rfl := List.mem_singleton.mp ht; exact clo_leaf (.of t i h1 h2 h3 h4) rfl _
  | loc x h1 h2 h3 => intro t ht; obtain rfl := List.mem_singleton.mp ht; exact clo_leaf (.loc x h1 h2 h3) rfl _
  | one op l h1 h2 hl ih => intro t ht; obtain rfl := List.mem_singleton.mp ht; exact clo_out (.one op l h1 h2 hl) (by rw [str_one, strO_one h1]; omega)
theorem toks_of_text {x y : Tr} (hx : GT x) (hy : GT y) (h : text x = text y) : toks x = toks y :=
  joinS_inj (toks_clo hx) (toks_clo hy) (toks_ne x) (toks_ne y) (by rw [text_toks hx, text_toks hy, h])
/-! What a piece begins with. -/
def HeadOk (c : UInt8) : Prop := (48 ≤ c.toNat ∧ c.toNat ≤ 57) ∨ (97 ≤ c.toNat ∧ c.toNat ≤ 122)
theorem head_leaf {x : Tr} (hx : GT x) (hs : str x = 5) : ∃ c l, text x = c :: l ∧ HeadOk c := by
  cases hx with
  | num n _ => obtain ⟨c, l, h, h1, h2⟩ := dig_cons n.toNat; exact ⟨c, l, by rw [text_num, h], .inl ⟨h1, h2⟩⟩
  | reg i _ _ => exact ⟨114, _, text_reg i, .inr (by decide)⟩
  | of t i _ _ _ _ => obtain ⟨c, l, h, h1, h2⟩ := dig_cons t.toNat; exact ⟨c, _, by rw [text_of, h]; rfl, .inl ⟨h1, h2⟩⟩
  | loc x h1 h2 h3 => exact ⟨_, _, text_loc x, .inr (by rw [xch h1 h2]; omega)⟩
  | one op l h1 h2 hl => rw [str_one, strO_one h1] at hs; omega
  | two op l r h1 h2 hl hr => rw [str_two] at hs; have := strO_two h2; omega
theorem opT_one {op : Int} (h1 : 13 ≤ op) (h2 : op ≤ 14) : opT op = [33] ∨ opT op = [45] := by
  have : op = 13 ∨ op = 14 := by omega
  rcases this with rfl | rfl
  · exact .inl (by decide)
  · exact .inr (by decide)
theorem head_strong {x : Tr} (hx : GT x) (hs : 4 ≤ str x) : ∃ c l, text x = c :: l ∧ (HeadOk c ∨ ((c = 33 ∨ c = 45) ∧ ∃ c' l', l = c' :: l' ∧ (HeadOk c' ∨ c' = 33 ∨ c' = 45 ∨ c' = 40))) := by
  induction hx with
  | num n h => obtain ⟨c, l, h, h1⟩ := head_leaf (.num n h) rfl; exact ⟨c, l, h, .inl h1⟩
  | reg i h1 h2 => obtain ⟨c, l, h, h1⟩ := head_leaf (.reg i h1 h2) rfl; exact ⟨c, l, h, .inl h1⟩
  | of t i h1 h2 h3 h4 => obtain ⟨c, l, h, h1⟩ := head_leaf (.of t i h1 h2 h3 h4) rfl; exact ⟨c, l, h, .inl h1⟩
  | loc x h1 h2 h3 => obtain ⟨c, l, h, h1⟩ := head_leaf (.loc x h1 h2 h3) rfl; exact ⟨c, l, h, .inl h1⟩
  | one op l h1 h2 hl ih =>
    rw [text_one]
    have hp : ∃ c' l', paren (decide (str l < 4)) (text l) = c' :: l' ∧ (HeadOk c' ∨ c' = 33 ∨ c' = 45 ∨ c' = 40) := by
      by_cases h : str l < 4
      · exact ⟨40, text l ++ [41], by rw [decide_eq_true h]; rfl, .inr (.inr (.inr rfl))⟩
      · obtain ⟨c, l', e, hc⟩ := ih (by omega)
        refine ⟨c, l', by rw [decide_eq_false h, e]; rfl, ?_⟩
        rcases hc with hc | ⟨hc | hc, _⟩
        · exact .inl hc
        · exact .inr (.inl hc)
        · exact .inr (.inr (.inl hc))
    obtain ⟨c', l', e, hc⟩ := hp
    rw [e]
    rcases opT_one h1 h2 with e1 | e1 <;> rw [e1]
    · exact ⟨33, c' :: l', rfl, .inr ⟨.inl rfl, c', l', rfl, hc⟩⟩
    · exact ⟨45, c' :: l', rfl, .inr ⟨.inr rfl, c', l', rfl, hc⟩⟩
  | two op l r h1 h2 hl hr ihl ihr => rw [str_two] at hs; have := strO_two h2; omega
theorem op_head (op : Int) (h1 : 1 ≤ op) (h2 : op ≤ 12) : ∃ c l, opT op = c :: l ∧ c ≠ 40 ∧ (c.toNat < 48 ∨ 57 < c.toNat) ∧ (c.toNat < 97 ∨ 122 < c.toNat) ∧ (l = [] ∨ l = [61]) := by
  have h : op = 1 ∨ op = 2 ∨ op = 3 ∨ op = 4 ∨ op = 5 ∨ op = 6 ∨ op = 7 ∨ op = 8 ∨ op = 9 ∨ op = 10 ∨ op = 11 ∨ op = 12 := by omega
  rcases h with rfl | rfl | rfl | rfl | rfl | rfl | rfl | rfl | rfl | rfl | rfl | rfl <;> exact ⟨_, _, rfl, by decide, by decide, by decide, by decide⟩
theorem strong_not_op {x : Tr} (hx : GT x) (hs : 4 ≤ str x) {op : Int} (h1 : 1 ≤ op) (h2 : op ≤ 12) : opT op ≠ text x := by
  intro h
  obtain ⟨c, l, e, hc⟩ := head_strong hx hs
  obtain ⟨d, m, e2, g1, g2, g3, g4⟩ := op_head op h1 h2
  rw [e, e2] at h
  obtain ⟨rfl, rfl⟩ := List.cons.inj h
  rcases hc with hc | ⟨_, c', l', e3, hc⟩
  · unfold HeadOk at hc; omega
  · rcases g4 with rfl | rfl
    · cases e3
    · obtain ⟨rfl, rfl⟩ := List.cons.inj e3
      revert hc; unfold HeadOk; decide
theorem paren_not_op (s : Bs) {op : Int} (h1 : 1 ≤ op) (h2 : op ≤ 12) : opT op ≠ paren true s := by
  intro h
  obtain ⟨d, m, e2, g1, _⟩ := op_head op h1 h2
  rw [e2] at h
  exact g1 (List.cons.inj h).1
def opI (s : Bs) : Int := if s = [61, 61] then 1 else if s = [33, 61] then 2 else if s = [60] then 3 else if s = [60, 61] then 4 else if s = [43] then 5 else if s = [45] then 6 else if s = [124] then 7 else if s = [94] then 8 else if s = [42] then 9 else if s = [47] then 10 else if s = [37] then 11 else 12
theorem opI_op (op : Int) (h1 : 1 ≤ op) (h2 : op ≤ 12) : opI (opT op) = op := ops_cases (P := fun op => opI (opT op) = op) (by decide) op h1 h2
theorem opT_inj {op op' : Int} (h1 : 1 ≤ op) (h2 : op ≤ 12) (h3 : 1 ≤ op') (h4 : op' ≤ 12) (h : opT op = opT op') : op = op' := by
  rw [← opI_op op h1 h2, h, opI_op op' h3 h4]
theorem ptoks_bound {e : Tr} (he : GT e) {s : Nat} (ih : ∀ op, 1 ≤ op → op ≤ 12 → opT op ∈ toks e → str e ≤ strO op) {op : Int} (h1 : 1 ≤ op) (h2 : op ≤ 12) (h : opT op ∈ ptoks (decide (str e < s)) e) : s ≤ strO op := by
  have _ := he
  unfold ptoks at h
  split at h
  · exact absurd (List.mem_singleton.mp h) (paren_not_op _ h1 h2)
  · rename_i hd
    have := ih op h1 h2 h
    have h3 : ¬ str e < s := by simpa using hd
    omega
theorem le5 {n : Nat} (h : n = 5) : 4 ≤ n := by omega
theorem toks_bound {x : Tr} (hx : GT x) : ∀ op, 1 ≤ op → op ≤ 12 → opT op ∈ toks x → str x ≤ strO op := by
  induction hx with
  | two op l r h1 h2 hl hr ihl ihr =>
    intro op' g1 g2 h
    rw [str_two]
    rw [toks_two] at h
    rcases List.mem_append.mp h with h | h
    · exact ptoks_bound hl ihl g1 g2 h
    · rcases List.mem_cons.mp h with h | h
      · rw [opT_inj g1 g2 h1 h2 h]; exact Nat.le_refl _
      · have := ptoks_bound hr ihr g1 g2 h
        omega
  | num n h => intro op h1 h2 hm; exact absurd (List.mem_singleton.mp hm) (strong_not_op (.num n h) (le5 rfl) h1 h2)
  | reg i a1 a2 => intro op h1 h2 hm; exact absurd (List.mem_singleton.mp hm) (strong_not_op (.reg i a1 a2) (le5 rfl) h1 h2)
  | of t i a1 a2 a3 a4 => intro op h1 h2 hm; exact absurd (List.mem_singleton.mp hm) (strong_not_op (.of t i a1 a2 a3 a4) (le5 rfl) h1 h2)
  | loc x a1 a2 a3 => intro op h1 h2 hm; exact absurd (List.mem_singleton.mp hm) (strong_not_op (.loc x a1 a2 a3) (le5 rfl) h1 h2)
  | one o l a1 a2 hl ih => intro op h1 h2 hm; exact absurd (List.mem_singleton.mp hm) (strong_not_op (.one o l a1 a2 hl) (by rw [str_one, strO_one a1]; omega) h1 h2)
theorem split_mid {α : Type} : ∀ {A A' : List α} {o o' : α} {B B' : List α}, A ++ o :: B = A' ++ o' :: B' → (A = A' ∧ o = o' ∧ B = B') ∨ (o ∈ A' ∧ o' ∈ B) ∨ (o' ∈ A ∧ o ∈ B')
  | [], [], _, _, _, _, h => by obtain ⟨h1, h2⟩ := List.cons.inj h; exact .inl ⟨rfl, h1, h2⟩
  | [], a :: A', o, o', B, B', h => by
    obtain ⟨h1, h2⟩ := List.cons.inj h
    exact .inr (.inl ⟨by rw [h1]; exact List.mem_cons_self .., by rw [h2]; simp⟩)
  | a :: A, [], o, o', B, B', h => by
    obtain ⟨h1, h2⟩ := List.cons.inj h
    exact .inr (.inr ⟨by rw [← h1]; exact List.mem_cons_self .., by rw [← h2]; simp⟩)
  | a :: A, a' :: A', o, o', B, B', h => by
    obtain ⟨h1, h2⟩ := List.cons.inj h
    rcases split_mid h2 with ⟨e1, e2, e3⟩ | ⟨e1, e2⟩ | ⟨e1, e2⟩
    · exact .inl ⟨by rw [h1, e1], e2, e3⟩
    · exact .inr (.inl ⟨List.mem_cons_of_mem _ e1, e2⟩)
    · exact .inr (.inr ⟨List.mem_cons_of_mem _ e1, e2⟩)
theorem toks_single {x : Tr} (hx : GT x) {t : Bs} (h : toks x = [t]) : 4 ≤ str x ∧ t = text x := by
  cases hx with
  | two op l r h1 h2 hl hr =>
    rw [toks_two] at h
    have hl := congrArg List.length h
    have h3 := List.length_pos_iff.mpr (ptoks_ne (decide (str l < strO op)) l)
    simp only [List.length_append, List.length_cons, List.length_nil] at hl
    omega
  | one op l h1 h2 hl => exact ⟨by rw [str_one, strO_one h1]; omega, (List.cons.inj h).1.symm⟩
  | num n h1 => exact ⟨le5 rfl, (List.cons.inj h).1.symm⟩
  | reg i h1 h2 => exact ⟨le5 rfl, (List.cons.inj h).1.symm⟩
  | of t i h1 h2 h3 h4 => exact ⟨le5 rfl, (List.cons.inj h).1.symm⟩
  | loc x h1 h2 h3 => exact ⟨le5 rfl, (List.cons.inj h).1.symm⟩
theorem strong_no_par {x : Tr} (hx : GT x) (hs : 4 ≤ str x) (s : Bs) : text x ≠ paren true s := by
  intro h
  obtain ⟨c, l, e, hc⟩ := head_strong hx hs
  rw [e] at h
  obtain rfl := (List.cons.inj h).1
  rcases hc with hc | ⟨hc | hc, _⟩ <;> revert hc
  · unfold HeadOk; decide
  · decide
  · decide
theorem paren_inj {s t : Bs} (h : paren true s = paren true t) : s = t := by
  have := (List.cons.inj h).2
  exact (List.append_inj' this rfl).1
theorem ptoks_inj {l l' : Tr} (hl : GT l) (hl' : GT l') {s : Nat} (ih : text l = text l' → l = l') (h : ptoks (decide (str l < s)) l = ptoks (decide (str l' < s)) l') : l = l' := by
  unfold ptoks at h
  split at h <;> split at h
  · exact ih (paren_inj (List.cons.inj h).1)
  · obtain ⟨h1, h2⟩ := toks_single hl' h.symm
    exact absurd h2.symm (strong_no_par hl' h1 _)
  · obtain ⟨h1, h2⟩ := toks_single hl h
    exact absurd h2.symm (strong_no_par hl h1 _)
  · exact ih (by rw [← text_toks hl, ← text_toks hl', h])
theorem paren_inj2 {l l' : Tr} (hl : GT l) (hl' : GT l') (ih : text l = text l' → l = l') (h : paren (decide (str l < 4)) (text l) = paren (decide (str l' < 4)) (text l')) : l = l' := by
  by_cases h1 : str l < 4
  · by_cases h2 : str l' < 4
    · rw [decide_eq_true h1, decide_eq_true h2] at h
      exact ih (paren_inj h)
    · rw [decide_eq_true h1, decide_eq_false h2] at h
      exact absurd h.symm (strong_no_par hl' (by omega) _)
  · by_cases h2 : str l' < 4
    · rw [decide_eq_false h1, decide_eq_true h2] at h
      exact absurd h (strong_no_par hl (by omega) _)
    · rw [decide_eq_false h1, decide_eq_false h2] at h
      exact ih h
/-! Which kind it is. -/
def kindT : Tr → Int
  | .nil => 9
  | .nd k _ _ _ _ _ _ _ => k
def cls0 (s : Bs) : Int := match s with
  | [] => 9
  | c :: _ => if c = 33 ∨ c = 45 then 4 else if c = 114 then 1 else if 97 ≤ c.toNat then 3 else if (58 : UInt8) ∈ s then 2 else 0
def cls (s : Bs) : Int := if (cutS 0 s).2 ≠ [] then 5 else cls0 s
theorem cls_clo {s : Bs} (h : Clo 0 s) : cls s = cls0 s := by
  unfold cls
  rw [cutS_one h, if_neg (by simp)]
theorem digc_ne {c : UInt8} (h1 : 48 ≤ c.toNat) (h2 : c.toNat ≤ 57) : ¬ (c = 33 ∨ c = 45) ∧ c ≠ 114 ∧ ¬ 97 ≤ c.toNat ∧ c ≠ 58 := by
  refine ⟨?_, ?_, by omega, ?_⟩
  · rintro (rfl | rfl) <;> revert h1 <;> decide
  · rintro rfl; revert h2; decide
  · rintro rfl; revert h2; decide
theorem cls_text {x : Tr} (hx : GT x) : cls (text x) = kindT x := by
  cases hx with
  | two op l r h1 h2 hl hr =>
    unfold cls
    rw [if_pos]
    · rfl
    · have hx := GT.two op l r h1 h2 hl hr
      have e := text_toks hx
      have hc := toks_clo hx
      rw [toks_two] at e hc
      match hp : ptoks (decide (str l < strO op)) l, ptoks_ne (decide (str l < strO op)) l with
      | a :: A, _ =>
        rw [hp] at e hc
        rw [← e, List.cons_append, joinS_cons _ (by simp), cutS_more (hc a (by simp))]
        exact List.cons_ne_nil _ _
  | num n h =>
    rw [cls_clo (clo_leaf (.num n h) rfl _), text_num]
    obtain ⟨c, l, e, h1, h2⟩ := dig_cons n.toNat
    have hm := dig_mem n.toNat
    rw [e] at hm ⊢
    obtain ⟨a1, a2, a3, _⟩ := digc_ne h1 h2
    show (if c = 33 ∨ c = 45 then 4 else if c = 114 then 1 else if 97 ≤ c.toNat then 3 else if (58 : UInt8) ∈ c :: l then 2 else 0) = _
    rw [if_neg a1, if_neg a2, if_neg a3, if_neg]
    · rfl
    · intro hq
      exact (digc_ne (hm _ hq).1 (hm _ hq).2).2.2.2 rfl
  | reg i h1 h2 =>
    rw [cls_clo (clo_leaf (.reg i h1 h2) rfl _), text_reg]
    rfl
  | of t i h1 h2 h3 h4 =>
    rw [cls_clo (clo_leaf (.of t i h1 h2 h3 h4) rfl _), text_of]
    obtain ⟨c, l, e, g1, g2⟩ := dig_cons t.toNat
    rw [e]
    obtain ⟨a1, a2, a3, _⟩ := digc_ne g1 g2
    show (if c = 33 ∨ c = 45 then 4 else if c = 114 then 1 else if 97 ≤ c.toNat then 3 else if (58 : UInt8) ∈ c :: (l ++ 58 :: 114 :: dig i.toNat) then 2 else 0) = _
    rw [if_neg a1, if_neg a2, if_neg a3, if_pos (by simp)]
    rfl
  | loc x h1 h2 h3 =>
    rw [cls_clo (clo_leaf (.loc x h1 h2 h3) rfl _), text_loc]
    have e := xch h1 h2
    show (if UInt8.ofNat x.toNat = 33 ∨ UInt8.ofNat x.toNat = 45 then 4 else if UInt8.ofNat x.toNat = 114 then 1 else if 97 ≤ (UInt8.ofNat x.toNat).toNat then 3 else if (58 : UInt8) ∈ [UInt8.ofNat x.toNat] then 2 else 0) = _
    rw [if_neg, if_neg, if_pos (by omega)]
    · rfl
    · intro h; rw [h] at e; have : (114 : UInt8).toNat = 114 := rfl; omega
    · rintro (h | h) <;> rw [h] at e
      · have : (33 : UInt8).toNat = 33 := rfl; omega
      · have : (45 : UInt8).toNat = 45 := rfl; omega
  | one op l h1 h2 hl =>
    rw [cls_clo (clo_out (.one op l h1 h2 hl) (by rw [str_one, strO_one h1]; omega)), text_one]
    rcases opT_one h1 h2 with e | e <;> rw [e] <;> rfl
/-- UNLIKE EXPRESSIONS ARE WRITTEN UNLIKE. -/
theorem text_inj {x : Tr} (hx : GT x) : ∀ y, GT y → text x = text y → x = y := by
  induction hx with
  | num n h =>
    intro y hy e
    have hk := cls_text (GT.num n h)
    rw [e, cls_text hy] at hk
    cases hy <;> (try (exfalso; simp [kindT] at hk; done))
    rename_i n' h'
    rw [text_num, text_num] at e
    have := dig_inj _ _ e
    have : n = n' := by omega
    rw [this]
  | reg i h1 h2 =>
    intro y hy e
    have hk := cls_text (GT.reg i h1 h2)
    rw [e, cls_text hy] at hk
    cases hy <;> (try (exfalso; simp [kindT] at hk; done))
    rename_i i' h1' h2'
    rw [text_reg, text_reg] at e
    have := dig_inj _ _ (List.cons.inj e).2
    have : i = i' := by omega
    rw [this]
  | of t i h1 h2 h3 h4 =>
    intro y hy e
    have hk := cls_text (GT.of t i h1 h2 h3 h4)
    rw [e, cls_text hy] at hk
    cases hy <;> (try (exfalso; simp [kindT] at hk; done))
    rename_i t' i' g1 g2 g3 g4
    rw [text_of, text_of, dig_lt (n := t.toNat) (by omega), dig_lt (n := t'.toNat) (by omega)] at e
    obtain ⟨e1, e2⟩ := List.cons.inj e
    have e3 := dch_inj (by omega) (by omega) e1
    have e4 := dig_inj _ _ (List.cons.inj (List.cons.inj e2).2).2
    have a : t = t' := by omega
    have b : i = i' := by omega
    rw [a, b]
  | loc x h1 h2 h3 =>
    intro y hy e
    have hk := cls_text (GT.loc x h1 h2 h3)
    rw [e, cls_text hy] at hk
    cases hy <;> (try (exfalso; simp [kindT] at hk; done))
    rename_i x' g1 g2 g3
    rw [text_loc, text_loc] at e
    have := congrArg UInt8.toNat (List.cons.inj e).1
    rw [xch h1 h2, xch g1 g2] at this
    have : x = x' := by omega
    rw [this]
  | one op l h1 h2 hl ih =>
    intro y hy e
    have hk := cls_text (GT.one op l h1 h2 hl)
    rw [e, cls_text hy] at hk
    cases hy <;> (try (exfalso; simp [kindT] at hk; done))
    rename_i op' l' g1 g2 gl
    rw [text_one, text_one] at e
    have ho : opT op = opT op' ∧ paren (decide (str l < 4)) (text l) = paren (decide (str l' < 4)) (text l') := by
      rcases opT_one h1 h2 with e1 | e1 <;> rcases opT_one g1 g2 with e2 | e2 <;> rw [e1, e2] at e ⊢ <;> obtain ⟨e3, e4⟩ := List.cons.inj e
      · exact ⟨rfl, e4⟩
      · exact absurd e3 (by decide)
      · exact absurd e3 (by decide)
      · exact ⟨rfl, e4⟩
    have e5 : op = op' := by
      have a : op = 13 ∨ op = 14 := by omega
      have b : op' = 13 ∨ op' = 14 := by omega
      have := ho.1
      rcases a with rfl | rfl <;> rcases b with rfl | rfl
      · rfl
      · exact absurd this (by decide)
      · exact absurd this (by decide)
      · rfl
    rw [e5, paren_inj2 hl gl (ih l' gl) ho.2]
  | two op l r h1 h2 hl hr ihl ihr =>
    intro y hy e
    have hk := cls_text (GT.two op l r h1 h2 hl hr)
    rw [e, cls_text hy] at hk
    have ht := toks_of_text (GT.two op l r h1 h2 hl hr) hy e
    cases hy <;> (try (exfalso; simp [kindT] at hk; done))
    rename_i op' l' r' g1 g2 gl gr
    rw [toks_two, toks_two] at ht
    rcases split_mid ht with ⟨e1, e2, e3⟩ | ⟨e1, e2⟩ | ⟨e1, e2⟩
    · obtain rfl := opT_inj h1 h2 g1 g2 e2
      rw [ptoks_inj hl gl (ihl l' gl) e1, ptoks_inj hr gr (ihr r' gr) e3]
    · have b1 := ptoks_bound gl (toks_bound gl) h1 h2 e1
      have b2 := ptoks_bound hr (toks_bound hr) g1 g2 e2
      omega
    · have b1 := ptoks_bound hl (toks_bound hl) g1 g2 e1
      have b2 := ptoks_bound gr (toks_bound gr) h1 h2 e2
      omega
end Go.Proofs.YtdlghljhgbakjaaDoor

/-
  PART: how a tree is written.
-/
namespace Go.Proofs.YtdlghljhgbakjaaDoor
open Go.RowKit
def B (l : List UInt8) : ByteArray := ⟨l.toArray⟩
theorem B_app (a b : List UInt8) : B a ++ B b = B (a ++ b) := by
  apply ByteArray.ext
  simp [B]
theorem B_size (a : List UInt8) : (B a).size = a.length := by simp [B, ByteArray.size]
def strI (k op : Int) : Int := if decide (k < 4) = true then 5 else strengthE op
def nOk : Tr → Prop
  | .nil => True
  | .nd _ _ n _ _ _ l r => n ≤ 18446744073709551615 ∧ nOk l ∧ nOk r
theorem strI_eq {k op n t i x : Int} {l r : Tr} (h : GT (.nd k op n t i x l r)) : strI k op = ((str (.nd k op n t i x l r) : Nat) : Int) := by
  cases h with
  | num => rfl
  | reg => rfl
  | of => rfl
  | loc => rfl
  | one _ _ h1 h2 _ =>
    have : op = 13 ∨ op = 14 := by omega
    rcases this with rfl | rfl <;> rfl
  | two _ _ _ h1 h2 _ _ => exact ops_cases (P := fun op => strI 5 op = ((str (.nd 5 op 0 0 0 0 l r) : Nat) : Int)) ⟨rfl, rfl, rfl, rfl, rfl, rfl, rfl, rfl, rfl, rfl, rfl, rfl⟩ op h1 h2
section
variable (k op n t i x z : Int) (l r : Tr)
noncomputable abbrev TX (k op n t i x : Int) (l r : Tr) : Bs := text (dec1 (op1 (.nd k op n t i x l r)))
abbrev big : Nat := 9223372036854775807
theorem ev92t : ((evs (cxT (decL [(8, true)])) 60).call 92 [op1 (.nd k op n t i x l r), .lit (.int .i64 z)] .nil).ans =
    .side (decide (strI k op < z) = true) (.side (PureOk Tryd.prog 46 [op1 (.nd k op n t i x l r)] (.v (bytesV (TX k op n t i x l r))))
      (.side ((B [40]).size + (B (TX k op n t i x l r)).size ≤ big) (.side ((B [40] ++ B (TX k op n t i x l r)).size + (B [41]).size ≤ big)
        (.ret (.v (.string (B [40] ++ B (TX k op n t i x l r) ++ B [41]))))))) := by kernel_rfl
theorem ev92f : ((evs (cxT (decL [(8, false)])) 60).call 92 [op1 (.nd k op n t i x l r), .lit (.int .i64 z)] .nil).ans =
    .side (decide (strI k op < z) = false) (.side (PureOk Tryd.prog 46 [op1 (.nd k op n t i x l r)] (.v (bytesV (TX k op n t i x l r)))) (.ret (.v (bytesV (TX k op n t i x l r))))) := by kernel_rfl
noncomputable abbrev PT (l : Tr) (z : Int) : Bs := paren (decide (str (treeOf (TrR l)) < z.toNat)) (text (treeOf (TrR l)))
abbrev DG (n : Int) : Bs := dig n.toNat
theorem ev46_0 : ((evs (cxT (decL [])) 60).call 46 [cellK (lkA 0) op n t i x nilA nilA] .nil).ans = .side (PureOk Tryd.prog 87 [.v (.int .u64 n), .lit (.int .i64 10)] (.v (bytesV (DG n)))) (.ret (.v (bytesV (DG n)))) := by kernel_rfl
theorem ev46_1 : ((evs (cxT (decL [])) 60).call 46 [cellK (lkA 1) op n t i x nilA nilA] .nil).ans = .side (PureOk Tryd.prog 90 [.v (.int .i64 (wr i))] (.v (bytesV (DG (wr i)))))
    (.side ((B [114]).size + (B (DG (wr i))).size ≤ big) (.ret (.v (.string (B [114] ++ B (DG (wr i))))))) := by kernel_rfl
theorem ev46_2 : ((evs (cxT (decL [])) 60).call 46 [cellK (lkA 2) op n t i x nilA nilA] .nil).ans = .side (PureOk Tryd.prog 90 [.v (.int .i64 (wr t))] (.v (bytesV (DG (wr t)))))
    (.side ((B (DG (wr t))).size + (B [58, 114]).size ≤ big) (.side (PureOk Tryd.prog 90 [.v (.int .i64 (wr i))] (.v (bytesV (DG (wr i))))) (.side ((B (DG (wr t)) ++ B [58, 114]).size + (B (DG (wr i))).size ≤ big)
      (.ret (.v (.string (B (DG (wr t)) ++ B [58, 114] ++ B (DG (wr i))))))))) := by kernel_rfl
theorem ev46_3 : ((evs (cxT (decL [])) 60).call 46 [cellK (lkA 3) op n t i x nilA nilA] .nil).ans = .ret (.v (.string (Utf8.encode (IntKind.i32.wrap x)))) := by kernel_rfl
def cellO (k op n t i x : Int) (a b : AV) : AV := .fz [lkA k, lkA op, .v (.int .u64 n), .v (.int .u8 t), .v (.int .u8 i), .v (.int .u8 x), a, b] 0
abbrev PO (l : Tr) (z : Int) : Prop := PureOk Tryd.prog 92 [anyT l, .lit (.int .i64 z)] (.v (bytesV (PT l z)))
theorem ev46_4_13 : ((evs (cxT (decL [])) 60).call 46 [cellO 4 13 n t i x (anyT l) nilA] .nil).ans = .side (PO l 4) (.side ((B [33]).size + (B (PT l 4)).size ≤ big) (.ret (.v (.string (B [33] ++ B (PT l 4)))))) := by kernel_rfl
theorem ev46_4_14 : ((evs (cxT (decL [])) 60).call 46 [cellO 4 14 n t i x (anyT l) nilA] .nil).ans = .side (PO l 4) (.side ((B [45]).size + (B (PT l 4)).size ≤ big) (.ret (.v (.string (B [45] ++ B (PT l 4)))))) := by kernel_rfl
theorem ev46_5_1 : ((evs (cxT (decL [])) 60).call 46 [cellO 5 1 n t i x (anyT l) (anyT r)] .nil).ans = .side (PO l 1) (.side ((B (PT l 1)).size + (B [32]).size ≤ big) (.side (((B (PT l 1)) ++ B [32]).size + (B [61, 61]).size ≤ big) (.side (((B (PT l 1)) ++ B [32] ++ B [61, 61]).size + (B [32]).size ≤ big) (.side (PO r 2) (.side (((B (PT l 1)) ++ B [32] ++ B [61, 61] ++ B [32]).size + (B (PT r 2)).size ≤ big) (.ret (.v (.string ((B (PT l 1)) ++ B [32] ++ B [61, 61] ++ B [32] ++ B (PT r 2)))))))))) := by kernel_rfl
theorem ev46_5_2 : ((evs (cxT (decL [])) 60).call 46 [cellO 5 2 n t i x (anyT l) (anyT r)] .nil).ans = .side (PO l 1) (.side ((B (PT l 1)).size + (B [32]).size ≤ big) (.side (((B (PT l 1)) ++ B [32]).size + (B [33, 61]).size ≤ big) (.side (((B (PT l 1)) ++ B [32] ++ B [33, 61]).size + (B [32]).size ≤ big) (.side (PO r 2) (.side (((B (PT l 1)) ++ B [32] ++ B [33, 61] ++ B [32]).size + (B (PT r 2)).size ≤ big) (.ret (.v (.string ((B (PT l 1)) ++ B [32] ++ B [33, 61] ++ B [32] ++ B (PT r 2)))))))))) := by kernel_rfl
theorem ev46_5_3 : ((evs (cxT (decL [])) 60).call 46 [cellO 5 3 n t i x (anyT l) (anyT r)] .nil).ans = .side (PO l 1) (.side ((B (PT l 1)).size + (B [32]).size ≤ big) (.side (((B (PT l 1)) ++ B [32]).size + (B [60]).size ≤ big) (.side (((B (PT l 1)) ++ B [32] ++ B [60]).size + (B [32]).size ≤ big) (.side (PO r 2) (.side (((B (PT l 1)) ++ B [32] ++ B [60] ++ B [32]).size + (B (PT r 2)).size ≤ big) (.ret (.v (.string ((B (PT l 1)) ++ B [32] ++ B [60] ++ B [32] ++ B (PT r 2)))))))))) := by kernel_rfl
theorem ev46_5_4 : ((evs (cxT (decL [])) 60).call 46 [cellO 5 4 n t i x (anyT l) (anyT r)] .nil).ans = .side (PO l 1) (.side ((B (PT l 1)).size + (B [32]).size ≤ big) (.side (((B (PT l 1)) ++ B [32]).size + (B [60, 61]).size ≤ big) (.side (((B (PT l 1)) ++ B [32] ++ B [60, 61]).size + (B [32]).size ≤ big) (.side (PO r 2) (.side (((B (PT l 1)) ++ B [32] ++ B [60, 61] ++ B [32]).size + (B (PT r 2)).size ≤ big) (.ret (.v (.string ((B (PT l 1)) ++ B [32] ++ B [60, 61] ++ B [32] ++ B (PT r 2)))))))))) := by kernel_rfl
theorem ev46_5_5 : ((evs (cxT (decL [])) 60).call 46 [cellO 5 5 n t i x (anyT l) (anyT r)] .nil).ans = .side (PO l 2) (.side ((B (PT l 2)).size + (B [32]).size ≤ big) (.side (((B (PT l 2)) ++ B [32]).size + (B [43]).size ≤ big) (.side (((B (PT l 2)) ++ B [32] ++ B [43]).size + (B [32]).size ≤ big) (.side (PO r 3) (.side (((B (PT l 2)) ++ B [32] ++ B [43] ++ B [32]).size + (B (PT r 3)).size ≤ big) (.ret (.v (.string ((B (PT l 2)) ++ B [32] ++ B [43] ++ B [32] ++ B (PT r 3)))))))))) := by kernel_rfl
theorem ev46_5_6 : ((evs (cxT (decL [])) 60).call 46 [cellO 5 6 n t i x (anyT l) (anyT r)] .nil).ans = .side (PO l 2) (.side ((B (PT l 2)).size + (B [32]).size ≤ big) (.side (((B (PT l 2)) ++ B [32]).size + (B [45]).size ≤ big) (.side (((B (PT l 2)) ++ B [32] ++ B [45]).size + (B [32]).size ≤ big) (.side (PO r 3) (.side (((B (PT l 2)) ++ B [32] ++ B [45] ++ B [32]).size + (B (PT r 3)).size ≤ big) (.ret (.v (.string ((B (PT l 2)) ++ B [32] ++ B [45] ++ B [32] ++ B (PT r 3)))))))))) := by kernel_rfl
theorem ev46_5_7 : ((evs (cxT (decL [])) 60).call 46 [cellO 5 7 n t i x (anyT l) (anyT r)] .nil).ans = .side (PO l 2) (.side ((B (PT l 2)).size + (B [32]).size ≤ big) (.side (((B (PT l 2)) ++ B [32]).size + (B [124]).size ≤ big) (.side (((B (PT l 2)) ++ B [32] ++ B [124]).size + (B [32]).size ≤ big) (.side (PO r 3) (.side (((B (PT l 2)) ++ B [32] ++ B [124] ++ B [32]).size + (B (PT r 3)).size ≤ big) (.ret (.v (.string ((B (PT l 2)) ++ B [32] ++ B [124] ++ B [32] ++ B (PT r 3)))))))))) := by kernel_rfl
theorem ev46_5_8 : ((evs (cxT (decL [])) 60).call 46 [cellO 5 8 n t i x (anyT l) (anyT r)] .nil).ans = .side (PO l 2) (.side ((B (PT l 2)).size + (B [32]).size ≤ big) (.side (((B (PT l 2)) ++ B [32]).size + (B [94]).size ≤ big) (.side (((B (PT l 2)) ++ B [32] ++ B [94]).size + (B [32]).size ≤ big) (.side (PO r 3) (.side (((B (PT l 2)) ++ B [32] ++ B [94] ++ B [32]).size + (B (PT r 3)).size ≤ big) (.ret (.v (.string ((B (PT l 2)) ++ B [32] ++ B [94] ++ B [32] ++ B (PT r 3)))))))))) := by kernel_rfl
theorem ev46_5_9 : ((evs (cxT (decL [])) 60).call 46 [cellO 5 9 n t i x (anyT l) (anyT r)] .nil).ans = .side (PO l 3) (.side ((B (PT l 3)).size + (B [32]).size ≤ big) (.side (((B (PT l 3)) ++ B [32]).size + (B [42]).size ≤ big) (.side (((B (PT l 3)) ++ B [32] ++ B [42]).size + (B [32]).size ≤ big) (.side (PO r 4) (.side (((B (PT l 3)) ++ B [32] ++ B [42] ++ B [32]).size + (B (PT r 4)).size ≤ big) (.ret (.v (.string ((B (PT l 3)) ++ B [32] ++ B [42] ++ B [32] ++ B (PT r 4)))))))))) := by kernel_rfl
theorem ev46_5_10 : ((evs (cxT (decL [])) 60).call 46 [cellO 5 10 n t i x (anyT l) (anyT r)] .nil).ans = .side (PO l 3) (.side ((B (PT l 3)).size + (B [32]).size ≤ big) (.side (((B (PT l 3)) ++ B [32]).size + (B [47]).size ≤ big) (.side (((B (PT l 3)) ++ B [32] ++ B [47]).size + (B [32]).size ≤ big) (.side (PO r 4) (.side (((B (PT l 3)) ++ B [32] ++ B [47] ++ B [32]).size + (B (PT r 4)).size ≤ big) (.ret (.v (.string ((B (PT l 3)) ++ B [32] ++ B [47] ++ B [32] ++ B (PT r 4)))))))))) := by kernel_rfl
theorem ev46_5_11 : ((evs (cxT (decL [])) 60).call 46 [cellO 5 11 n t i x (anyT l) (anyT r)] .nil).ans = .side (PO l 3) (.side ((B (PT l 3)).size + (B [32]).size ≤ big) (.side (((B (PT l 3)) ++ B [32]).size + (B [37]).size ≤ big) (.side (((B (PT l 3)) ++ B [32] ++ B [37]).size + (B [32]).size ≤ big) (.side (PO r 4) (.side (((B (PT l 3)) ++ B [32] ++ B [37] ++ B [32]).size + (B (PT r 4)).size ≤ big) (.ret (.v (.string ((B (PT l 3)) ++ B [32] ++ B [37] ++ B [32] ++ B (PT r 4)))))))))) := by kernel_rfl
theorem ev46_5_12 : ((evs (cxT (decL [])) 60).call 46 [cellO 5 12 n t i x (anyT l) (anyT r)] .nil).ans = .side (PO l 3) (.side ((B (PT l 3)).size + (B [32]).size ≤ big) (.side (((B (PT l 3)) ++ B [32]).size + (B [38]).size ≤ big) (.side (((B (PT l 3)) ++ B [32] ++ B [38]).size + (B [32]).size ≤ big) (.side (PO r 4) (.side (((B (PT l 3)) ++ B [32] ++ B [38] ++ B [32]).size + (B (PT r 4)).size ≤ big) (.ret (.v (.string ((B (PT l 3)) ++ B [32] ++ B [38] ++ B [32] ++ B (PT r 4)))))))))) := by kernel_rfl
end
end Go.Proofs.YtdlghljhgbakjaaDoor

/-
  PART: what operations answer: contracts.
-/
namespace Go.Proofs.YtdlghljhgbakjaaDoor
open Go.RowKit
theorem pure_of_calls {P : Program} {f : Nat} {fn : Func} {c : Code} (hfit : Fit P) (hfn : P.funcs[f]? = some fn) (hb : fn.body = some c) {args : List AV} {v0 : Value} (h1 : one1 v0 = true) {vs : Array Value}
    (hargs : ∀ E vals, Reps E args vals → vals = vs.toList) (h : ∀ w, Calls P f vs w fun e w' => e = .returned v0 ∧ w = w') : PureOk P f args (.v v0) := by
  intro rr E w vals K hd hf hr hK
  have hv : vals = vs := Array.ext' (hargs E _ hr)
  subst hv
  have hname' : ¬ fn.name = "runtime.NumGoroutine" := by simpa using (fit_func hfit hfn hb).2
  refine .inr ⟨by simp [callFunc, hfn, hname', hb], ?_⟩
  have hc : CallsIn Fence.wide 0 P f vals w fun e w' => ∃ v, e = .returned v ∧ K v w' := callsIn_wide.2 ((h w).mono fun e w' ⟨h2, h3⟩ => by
    subst h2 h3
    exact ⟨v0, rfl, hK v0 w (fun E => .v _ h1) ⟨fun _ _ => rfl, Nat.le_refl _, rfl, rfl, rfl⟩⟩)
  cases rr with
  | none => exact hc
  | some l => exact hc.inRound l
def oneN (op a : Int) : Int := if op = 13 then b01 (a == 0) else if op = 14 then IntKind.u64.wrap (- a) else 0
theorem reps2 {E : Env} {a b : Value} {vals : List Value} (h : Reps E [.v a, .v b] vals) : vals = [a, b] := by
  cases h with | cons h1 h => cases h with | cons h2 h => cases h; cases h1; cases h2; rfl
theorem reps3 {E : Env} {a b c : Value} {vals : List Value} (h : Reps E [.v a, .v b, .v c] vals) : vals = [a, b, c] := by
  cases h with | cons h1 h => cases h with | cons h2 h => cases h with | cons h3 h => cases h; cases h1; cases h2; cases h3; rfl
theorem one95 (op a : Int) : PureOk Tryd.prog 95 [.v (.int .u8 op), .v (.int .u64 a)] (.v (.int .u64 (oneN op a))) :=
  pure_of_calls fitTry Tryd.func95 (c := codeOf Tryd.f95) (by kernel_rfl) rfl (vs := #[.int .u8 op, .int .u64 a]) (fun _ _ h => reps2 h) fun w => one_any op a w
theorem one55 (op a : Int) : PureOk Tryd.prog 55 [.v (.int .u8 op), .v (.int .u64 a)] (.v (.int .u64 (oneN op a))) :=
  pure_of_calls fitTry Tryd.func55 (c := codeOf Tryd.f55) (by kernel_rfl) rfl (vs := #[.int .u8 op, .int .u64 a]) (fun _ _ h => reps2 h) fun w => refOne_any op a w
theorem do96 (op a b : Int) (ha : 0 ≤ a) (hb : 0 ≤ b) : PureOk Tryd.prog 96 [.v (.int .u8 op), .v (.int .u64 a), .v (.int .u64 b)] (.v (.int .u64 (numDo op a b))) :=
  pure_of_calls fitTry Tryd.func96 (c := codeOf Tryd.f96) (by kernel_rfl) rfl (vs := #[.int .u8 op, .int .u64 a, .int .u64 b]) (fun _ _ h => reps3 h) fun w => do_any op a b w ha hb
theorem do56 (op a b : Int) (ha : 0 ≤ a) (ha2 : a < 18446744073709551616) (hb : 0 ≤ b) (hb2 : b < 18446744073709551616) : PureOk Tryd.prog 56 [.v (.int .u8 op), .v (.int .u64 a), .v (.int .u64 b)] (.v (.int .u64 (numDo op a b))) :=
  pure_of_calls fitTry Tryd.func56 (c := codeOf Tryd.f56) (by kernel_rfl) rfl (vs := #[.int .u8 op, .int .u64 a, .int .u64 b]) (fun _ _ h => reps3 h) fun w => refDo_any op a b w ha ha2 hb hb2
/-! Ranges. -/
def u64R (a : Int) : Prop := 0 ≤ a ∧ a < 18446744073709551616
theorem wrap_u64R (n : Int) : u64R (IntKind.u64.wrap n) := by unfold u64R; rw [u64_wrap]; omega
theorem b01_u64R (b : Bool) : u64R (b01 b) := by cases b <;> (unfold u64R b01; simp)
theorem oneN_R (op a : Int) : u64R (oneN op a) := by
  unfold oneN
  split
  · exact b01_u64R _
  split
  · exact wrap_u64R _
  · exact ⟨by omega, by omega⟩
theorem or_R (a b : Int) : u64R (bits .or .u64 a b) := by unfold bits; exact wrap_u64R _
theorem xor_R (a b : Int) : u64R (bits .xor .u64 a b) := by unfold bits; exact wrap_u64R _
theorem and_R (a b : Int) : u64R (bits .and .u64 a b) := by unfold bits; exact wrap_u64R _
theorem ite_R {c : Prop} [Decidable c] {a b : Int} (ha : u64R a) (hb : u64R b) : u64R (if c then a else b) := by by_cases h : c <;> simp only [h, if_true, if_false] <;> assumption
theorem zero_R : u64R 0 := ⟨by omega, by omega⟩
theorem rem_R {a b : Int} (ha : u64R a) (hb : u64R b) : u64R (if b = 0 then 0 else a % b) := by
  by_cases h : b = 0
  · rw [if_pos h]; exact zero_R
  · rw [if_neg h]
    have h1 := Int.emod_nonneg a h
    have h2 : a % b ≤ a := by
      have := Int.emod_lt_of_pos a (show 0 < b by have := hb.1; omega)
      rcases Int.lt_or_le a b with h3 | h3
      · rw [Int.emod_eq_of_lt ha.1 h3]; exact Int.le_refl _
      · omega
    have := ha.2
    exact ⟨h1, by omega⟩
theorem numDo_R {op a b : Int} (ha : u64R a) (hb : u64R b) : u64R (numDo op a b) := by
  unfold numDo
  exact ite_R (b01_u64R _) (ite_R (b01_u64R _) (ite_R (b01_u64R _) (ite_R (b01_u64R _) (ite_R (wrap_u64R _) (ite_R (wrap_u64R _) (ite_R (or_R _ _) (ite_R (xor_R _ _) (ite_R (wrap_u64R _) (ite_R (ite_R zero_R (wrap_u64R _)) (ite_R (rem_R ha hb) (ite_R (and_R _ _) zero_R)))))))))))
end Go.Proofs.YtdlghljhgbakjaaDoor

/-
  PART: contracts of a body itself (the table may hold the function's own contract); rows of items; the tree of a row.
-/
namespace Go.Proofs.YtdlghljhgbakjaaDoor
open Go.RowKit
theorem frz_of_callok {P : Program} {f : Nat} {args : List AV} {a : AV} {s : St} (ok : CallOk P f args .nil a s) (d : Nat) : FrzOk P f args (frzD s.hp d a) := by
  intro rr E w vals K hd hfz hargs hK
  refine ok.run rr (fun _ => True) E w vals K (fun x hx => by exact absurd rfl hx) (fun _ _ => trivial) (fun x _ _ hx => hd x hx) ⟨hfz, fun x _ hn => absurd rfl hn, fun x _ hn => absurd rfl hn, fun x B _ hB => (by cases hB), fun x y _ _ hn => absurd rfl hn⟩ hargs fun E' v w' hv p => ?_
  obtain ⟨E2, h1, h2, h3, h4, h5, h6⟩ := frz_post (s := s) (d := d) p hd hv
  exact hK v w' E2 h1 h2 h3 h4 h5 h6
theorem frz_body {cx : Cx} (hc : CtrOk cx) (hfit : Fit cx.P) {n f : Nat} {fn : Func} {c : Code} (hf : cx.P.funcs[f]? = some fn) (hb : fn.body = some c) {args : List AV} {t : Tree AV} {a : AV} (h : (bodyE cx (evs cx n) fn c args .nil).frz = t)
    (ha : t.wp fun a' => ∀ E v, Rep E a' v → Rep E a v) : FrzOk cx.P f args a := by
  obtain ⟨a', h1, h2⟩ := Tree.wp_hit ha
  rw [← h] at h1
  obtain ⟨⟨b, s⟩, h3, h4⟩ := Tree.map_hit h1
  subst h4
  exact (frz_of_callok (body_sound rfl hfit (evs_ok hc hfit n) hf hb h3) 8).imp h2
/-! Rows of items. -/
structure Itm where
  k : Int
  op : Int
  n : Int
  t : Int
  i : Int
  x : Int
def itmC (a : Itm) : List AV := [.v (.int .u8 a.k), .v (.int .u8 a.op), .v (.int .u64 a.n), .v (.int .u8 a.t), .v (.int .u8 a.i), .v (.int .u8 a.x)]
def rowA (N : Nat) (X : Nat → Itm) : AV := .sl N 6 (fun j => itmC (X j)) false false
/-- The tree of a row from a place on, at most so deep, and where it ends. -/
def ofT (X : Nat → Itm) (N : Nat) : Nat → Nat → Tr × Nat
  | 0, p => (.nil, p)
  | m + 1, p => if N ≤ p then (.nil, p) else
    let a := X p
    if a.k = 0 then (.nd 0 0 a.n 0 0 0 .nil .nil, p + 1)
    else if a.k = 1 then (.nd 1 0 0 0 a.i 0 .nil .nil, p + 1)
    else if a.k = 2 then (.nd 2 0 0 a.t a.i 0 .nil .nil, p + 1)
    else if a.k = 3 then (.nd 3 0 0 0 0 a.x .nil .nil, p + 1)
    else if a.k = 4 then (.nd 4 a.op 0 0 0 0 (ofT X N m (p + 1)).1 .nil, (ofT X N m (p + 1)).2)
    else if a.k = 5 then (.nd 5 a.op 0 0 0 0 (ofT X N m (p + 1)).1 (ofT X N m (ofT X N m (p + 1)).2).1, (ofT X N m (ofT X N m (p + 1)).2).2)
    else (.nd a.k 0 0 0 0 0 .nil .nil, p + 1)
noncomputable section
def ansOf (X : Nat → Itm) (N : Nat) (p m : Int) : AV := .tup [anyT (ofT X N m.toNat p.toNat).1, .v (.int .i64 ((ofT X N m.toNat p.toNat).2 : Nat))]
def tabO (X : Nat → Itm) (N : Nat) (f : Nat) (args : List AV) : Option (Tree AV) := match f, args with
  | 13, [r, a, z] => some (.side (FrzOk Tryd.prog 13 [r, a, z] (ansOf X N (intA a) (intA z))) (.ret (ansOf X N (intA a) (intA z))))
  | _, _ => none
theorem tabO_ok (X : Nat → Itm) (N : Nat) : TabFOk Tryd.prog (tabO X N) := by
  intro f args t a ht hh
  unfold tabO at ht
  split at ht
  · cases ht
    obtain ⟨h1, h2⟩ := hh
    cases h2
    exact h1
  · cases ht
def cxO (X : Nat → Itm) (N : Nat) (dec : Nat → St → Option Bool) : Cx := ⟨Tryd.prog, ctrOf2 tabT (tabO X N), dec⟩
theorem cxO_ok (X : Nat → Itm) (N : Nat) (dec : Nat → St → Option Bool) : CtrOk (cxO X N dec) := ctrOf2_ok tabT_ok (tabO_ok X N) dec
def c13 : Code := codeOf Tryd.f13
theorem b13 : Tryd.f13.body = some c13 := by kernel_rfl
def bod (X : Nat → Itm) (N : Nat) (dec : List (Nat × Bool)) (p m : Int) : Tree AV := (bodyE (cxO X N (decL dec)) (evs (cxO X N (decL dec)) 60) Tryd.f13 c13 [rowA N X, .v (.int .i64 p), .v (.int .i64 m)] .nil).frz
end
end Go.Proofs.YtdlghljhgbakjaaDoor

/-
  PART: the tree of a row: the contract.
-/
namespace Go.Proofs.YtdlghljhgbakjaaDoor
open Go.RowKit
noncomputable section
variable (X : Nat → Itm) (N : Nat) (p m : Int)
def side0 (b : Bool) (t : Tree AV) : Tree AV := .side ((if decide (p ≥ (N : Int)) = true then true else m == 0) = b) t
def kS (k : Int) (b : Bool) (t : Tree AV) : Tree AV := .side (((X p.toNat).k == k) = b) t
def inS (t : Tree AV) : Tree AV := .side (0 ≤ p ∧ p < (N : Int)) t
abbrev z8 : AV := .lit (.int .u8 0)
abbrev z64 : AV := .lit (.int .u64 0)
abbrev vk : AV := .v (.int .u8 (X p.toNat).k)
def nodeA (cs : List AV) (q : Int) : Tree AV := .ret (.tup [.fz cs 0, .v (.int .i64 q)])
abbrev sub (m p : Int) : Tr × Nat := ofT X N m.toNat p.toNat
def callS (p m : Int) (t : Tree AV) : Tree AV := .side (FrzOk Tryd.prog 13 [rowA N X, .v (.int .i64 p), .v (.int .i64 m)] (ansOf X N p m)) t
theorem bod_t : bod X N [(17, true)] p m = side0 N p m true (.ret (.tup [nilA, .v (.int .i64 p)])) := by kernel_rfl
theorem bod_0 : bod X N [(17, false), (31, true)] p m = side0 N p m false (inS N p (kS X p 0 true (nodeA [vk X p, z8, .v (.int .u64 (X p.toNat).n), z8, z8, z8, nilA, nilA] (wr (p + 1))))) := by kernel_rfl
theorem bod_1 : bod X N [(17, false), (31, false), (38, true)] p m = side0 N p m false (inS N p (kS X p 0 false (kS X p 1 true (nodeA [vk X p, z8, z64, z8, .v (.int .u8 (X p.toNat).i), z8, nilA, nilA] (wr (p + 1)))))) := by kernel_rfl
theorem bod_2 : bod X N [(17, false), (31, false), (38, false), (45, true)] p m = side0 N p m false (inS N p (kS X p 0 false (kS X p 1 false (kS X p 2 true (nodeA [vk X p, z8, z64, .v (.int .u8 (X p.toNat).t), .v (.int .u8 (X p.toNat).i), z8, nilA, nilA] (wr (p + 1))))))) := by kernel_rfl
theorem bod_3 : bod X N [(17, false), (31, false), (38, false), (45, false), (57, true)] p m = side0 N p m false (inS N p (kS X p 0 false (kS X p 1 false (kS X p 2 false (kS X p 3 true (nodeA [vk X p, z8, z64, z8, z8, .v (.int .u8 (X p.toNat).x), nilA, nilA] (wr (p + 1)))))))) := by kernel_rfl
theorem bod_4 : bod X N [(17, false), (31, false), (38, false), (45, false), (57, false), (64, true)] p m = side0 N p m false (inS N p (kS X p 0 false (kS X p 1 false (kS X p 2 false (kS X p 3 false (kS X p 4 true
    (callS X N (wr (p + 1)) (wr (m - 1)) (nodeA [vk X p, .v (.int .u8 (X p.toNat).op), z64, z8, z8, z8, anyT (sub X N (wr (m - 1)) (wr (p + 1))).1, nilA] ((sub X N (wr (m - 1)) (wr (p + 1))).2 : Nat))))))))) := by kernel_rfl
theorem bod_5 : bod X N [(17, false), (31, false), (38, false), (45, false), (57, false), (64, false), (82, true)] p m = side0 N p m false (inS N p (kS X p 0 false (kS X p 1 false (kS X p 2 false (kS X p 3 false (kS X p 4 false (kS X p 5 true
    (callS X N (wr (p + 1)) (wr (m - 1)) (callS X N ((sub X N (wr (m - 1)) (wr (p + 1))).2 : Nat) (wr (m - 1))
      (nodeA [vk X p, .v (.int .u8 (X p.toNat).op), z64, z8, z8, z8, anyT (sub X N (wr (m - 1)) (wr (p + 1))).1, anyT (sub X N (wr (m - 1)) ((sub X N (wr (m - 1)) (wr (p + 1))).2 : Nat)).1]
        ((sub X N (wr (m - 1)) ((sub X N (wr (m - 1)) (wr (p + 1))).2 : Nat)).2 : Nat))))))))))) := by kernel_rfl
theorem bod_6 : bod X N [(17, false), (31, false), (38, false), (45, false), (57, false), (64, false), (82, false)] p m = side0 N p m false (inS N p (kS X p 0 false (kS X p 1 false (kS X p 2 false (kS X p 3 false (kS X p 4 false (kS X p 5 false
    (nodeA [vk X p, z8, z64, z8, z8, z8, nilA, nilA] (wr (p + 1)))))))))) := by kernel_rfl
end
theorem tup2 {a a' b b' : AV} (ha : ∀ E u, Rep E a u → Rep E a' u) (hb : ∀ E u, Rep E b u → Rep E b' u) : ∀ E u, Rep E (.tup [a, b]) u → Rep E (.tup [a', b']) u := by
  intro E u h
  cases h with
  | @tup _ cs h =>
    rcases cs with ⟨l⟩
    have h' : Reps E [a, b] l := h
    cases h' with | cons q1 q => cases q with | cons q2 q3 => exact .tup (cs := ⟨_⟩) (.cons (ha _ _ q1) (.cons (hb _ _ q2) q3))
theorem c_same {a : AV} : ∀ E u, Rep E a u → Rep E a u := fun _ _ h => h
theorem c_int {k : IntKind} {z y : Int} (e : z = y) : ∀ E u, Rep E (.v (.int k z)) u → Rep E (.v (.int k y)) u := by subst e; exact fun _ _ h => h
theorem c_lit {k : IntKind} {z : Int} : ∀ E u, Rep E (.lit (.int k z)) u → Rep E (.v (.int k z)) u := fun _ _ h => by cases h with | lit v h => exact .v _ h
theorem c_nil : ∀ E u, Rep E nilA u → Rep E (anyT .nil) u := fun _ _ h => rep_un1 (t := .nil) h
theorem rep_node {k op n t i x : Int} {l r : Tr} {c0 c1 c2 c3 c4 c5 a b : AV} (h0 : ∀ E u, Rep E c0 u → Rep E (.v (.int .u8 k)) u) (h1 : ∀ E u, Rep E c1 u → Rep E (.v (.int .u8 op)) u) (h2 : ∀ E u, Rep E c2 u → Rep E (.v (.int .u64 n)) u)
    (h3 : ∀ E u, Rep E c3 u → Rep E (.v (.int .u8 t)) u) (h4 : ∀ E u, Rep E c4 u → Rep E (.v (.int .u8 i)) u) (h5 : ∀ E u, Rep E c5 u → Rep E (.v (.int .u8 x)) u) (h6 : ∀ E u, Rep E a u → Rep E (anyT l) u) (h7 : ∀ E u, Rep E b u → Rep E (anyT r) u) :
    ∀ E u, Rep E (.fz [c0, c1, c2, c3, c4, c5, a, b] 0) u → Rep E (anyT (.nd k op n t i x l r)) u := by
  intro E u h
  refine rep_un1 (t := .nd k op n t i x l r) ?_
  refine rep_fz_map h rfl fun vs hr => ?_
  cases hr with | cons g0 hr => cases hr with | cons g1 hr => cases hr with | cons g2 hr => cases hr with | cons g3 hr => cases hr with | cons g4 hr => cases hr with | cons g5 hr => cases hr with | cons g6 hr => cases hr with | cons g7 hr =>
  exact .cons (h0 _ _ g0) (.cons (h1 _ _ g1) (.cons (h2 _ _ g2) (.cons (h3 _ _ g3) (.cons (h4 _ _ g4) (.cons (h5 _ _ g5) (.cons (h6 _ _ g6) (.cons (h7 _ _ g7) hr)))))))
theorem ofT_le (X : Nat → Itm) (N : Nat) : ∀ m p, (ofT X N m p).2 ≤ max p N
  | 0, p => by show p ≤ _; omega
  | m + 1, p => by
    have a := ofT_le X N m (p + 1)
    have b := ofT_le X N m (ofT X N m (p + 1)).2
    unfold ofT
    split
    · show p ≤ _; omega
    · simp only []
      split
      · show p + 1 ≤ _; omega
      split
      · show p + 1 ≤ _; omega
      split
      · show p + 1 ≤ _; omega
      split
      · show p + 1 ≤ _; omega
      split
      · show (ofT X N m (p + 1)).2 ≤ _; omega
      split
      · show (ofT X N m (ofT X N m (p + 1)).2).2 ≤ _; omega
      · show p + 1 ≤ _; omega
theorem of_ok (X : Nat → Itm) (N : Nat) (hN : N ≤ 1000) : ∀ m : Nat, m ≤ 100 → ∀ p : Nat, p ≤ 2000 → FrzOk Tryd.prog 13 [rowA N X, .v (.int .i64 (p : Nat)), .v (.int .i64 (m : Nat))] (ansOf X N (p : Nat) (m : Nat)) := by
  intro m
  induction m with
  | zero =>
    intro _ p hp
    refine frz_body (cxO_ok X N (decL [(17, true)])) fitTry (n := 60) Tryd.func13 b13 (bod_t X N (p : Nat) 0) ?_
    refine ⟨?_, ?_⟩
    · split <;> rfl
    · exact tup2 c_nil c_same
  | succ m ih =>
    intro hm p hp
    have ih := ih (by omega)
    have wm : wr (((m + 1 : Nat) : Int) - 1) = (m : Nat) := by rw [wr_in (by omega) (by omega)]; omega
    have wp : wr ((p : Int) + 1) = ((p + 1 : Nat) : Int) := by rw [wr_in (by omega) (by omega)]; omega
    have tm : (((m + 1 : Nat) : Int)).toNat = m + 1 := by omega
    have tp : ((p : Nat) : Int).toNat = p := by omega
    have tm' : ((m : Nat) : Int).toNat = m := by omega
    have tp' : ((p + 1 : Nat) : Int).toNat = p + 1 := by omega
    by_cases hlt : N ≤ p
    · refine frz_body (cxO_ok X N (decL [(17, true)])) fitTry (n := 60) Tryd.func13 b13 (bod_t X N (p : Nat) ((m + 1 : Nat) : Int)) ?_
      refine ⟨?_, ?_⟩
      · rw [if_pos (decide_eq_true (by omega))]
      · unfold ansOf
        rw [tm, tp]
        have e : ofT X N (m + 1) p = (.nil, p) := by rw [ofT, if_pos hlt]
        rw [e]
        exact tup2 c_nil c_same
    · have s0 : (if decide (((p : Nat) : Int) ≥ (N : Int)) = true then true else ((m + 1 : Nat) : Int) == 0) = false := by
        rw [if_neg (by simp; omega)]
        simp; omega
      have s1 : (0 : Int) ≤ ((p : Nat) : Int) ∧ ((p : Nat) : Int) < (N : Int) := ⟨by omega, by omega⟩
      have eo : ofT X N (m + 1) p = (let a := X p
          if a.k = 0 then (.nd 0 0 a.n 0 0 0 .nil .nil, p + 1)
          else if a.k = 1 then (.nd 1 0 0 0 a.i 0 .nil .nil, p + 1)
          else if a.k = 2 then (.nd 2 0 0 a.t a.i 0 .nil .nil, p + 1)
          else if a.k = 3 then (.nd 3 0 0 0 0 a.x .nil .nil, p + 1)
          else if a.k = 4 then (.nd 4 a.op 0 0 0 0 (ofT X N m (p + 1)).1 .nil, (ofT X N m (p + 1)).2)
          else if a.k = 5 then (.nd 5 a.op 0 0 0 0 (ofT X N m (p + 1)).1 (ofT X N m (ofT X N m (p + 1)).2).1, (ofT X N m (ofT X N m (p + 1)).2).2)
          else (.nd a.k 0 0 0 0 0 .nil .nil, p + 1)) := by rw [ofT, if_neg hlt]
      simp only [] at eo
      unfold ansOf
      rw [tm, tp, eo]
      have kk : ∀ k : Int, (X p).k ≠ k → (((X ((p : Nat) : Int).toNat).k == k) = false) := fun k h => by rw [tp]; simpa using h
      have ky : ∀ k : Int, (X p).k = k → (((X ((p : Nat) : Int).toNat).k == k) = true) := fun k h => by rw [tp]; simpa using h
      by_cases k0 : (X p).k = 0
      · rw [if_pos k0]
        refine frz_body (cxO_ok X N _) fitTry (n := 60) Tryd.func13 b13 (bod_0 X N (p : Nat) ((m + 1 : Nat) : Int)) ⟨s0, s1, ky 0 k0, ?_⟩
        exact tup2 (rep_node (c_int (by rw [tp]; exact k0)) c_lit (c_int (by rw [tp])) c_lit c_lit c_lit c_nil c_nil) (c_int wp)
      rw [if_neg k0]
      by_cases k1 : (X p).k = 1
      · rw [if_pos k1]
        refine frz_body (cxO_ok X N _) fitTry (n := 60) Tryd.func13 b13 (bod_1 X N (p : Nat) ((m + 1 : Nat) : Int)) ⟨s0, s1, kk 0 k0, ky 1 k1, ?_⟩
        exact tup2 (rep_node (c_int (by rw [tp]; exact k1)) c_lit c_lit c_lit (c_int (by rw [tp])) c_lit c_nil c_nil) (c_int wp)
      rw [if_neg k1]
      by_cases k2 : (X p).k = 2
      · rw [if_pos k2]
        refine frz_body (cxO_ok X N _) fitTry (n := 60) Tryd.func13 b13 (bod_2 X N (p : Nat) ((m + 1 : Nat) : Int)) ⟨s0, s1, kk 0 k0, kk 1 k1, ky 2 k2, ?_⟩
        exact tup2 (rep_node (c_int (by rw [tp]; exact k2)) c_lit c_lit (c_int (by rw [tp])) (c_int (by rw [tp])) c_lit c_nil c_nil) (c_int wp)
      rw [if_neg k2]
      by_cases k3 : (X p).k = 3
      · rw [if_pos k3]
        refine frz_body (cxO_ok X N _) fitTry (n := 60) Tryd.func13 b13 (bod_3 X N (p : Nat) ((m + 1 : Nat) : Int)) ⟨s0, s1, kk 0 k0, kk 1 k1, kk 2 k2, ky 3 k3, ?_⟩
        exact tup2 (rep_node (c_int (by rw [tp]; exact k3)) c_lit c_lit c_lit c_lit (c_int (by rw [tp])) c_nil c_nil) (c_int wp)
      rw [if_neg k3]
      have hle := ofT_le X N m (p + 1)
      have f1 := ih (p + 1) (by omega)
      have f2 := ih (ofT X N m (p + 1)).2 (by omega)
      have es : sub X N (wr (((m + 1 : Nat) : Int) - 1)) (wr ((p : Int) + 1)) = ofT X N m (p + 1) := by rw [sub, wm, wp, tm', tp']
      by_cases k4 : (X p).k = 4
      · rw [if_pos k4]
        refine frz_body (cxO_ok X N _) fitTry (n := 60) Tryd.func13 b13 (bod_4 X N (p : Nat) ((m + 1 : Nat) : Int)) ⟨s0, s1, kk 0 k0, kk 1 k1, kk 2 k2, kk 3 k3, ky 4 k4, ?_, ?_⟩
        · rw [wm, wp]; exact f1
        · rw [es]
          exact tup2 (rep_node (c_int (by rw [tp]; exact k4)) (c_int (by rw [tp])) c_lit c_lit c_lit c_lit c_same c_nil) c_same
      rw [if_neg k4]
      have es2 : sub X N (wr (((m + 1 : Nat) : Int) - 1)) (((ofT X N m (p + 1)).2 : Nat) : Int) = ofT X N m (ofT X N m (p + 1)).2 := by rw [sub, wm, tm', Int.toNat_natCast]
      by_cases k5 : (X p).k = 5
      · rw [if_pos k5]
        refine frz_body (cxO_ok X N _) fitTry (n := 60) Tryd.func13 b13 (bod_5 X N (p : Nat) ((m + 1 : Nat) : Int)) ⟨s0, s1, kk 0 k0, kk 1 k1, kk 2 k2, kk 3 k3, kk 4 k4, ky 5 k5, ?_, ?_, ?_⟩
        · rw [wm, wp]; exact f1
        · rw [es, wm]; exact f2
        · rw [es, es2]
          exact tup2 (rep_node (c_int (by rw [tp]; exact k5)) (c_int (by rw [tp])) c_lit c_lit c_lit c_lit c_same c_same) c_same
      rw [if_neg k5]
      refine frz_body (cxO_ok X N _) fitTry (n := 60) Tryd.func13 b13 (bod_6 X N (p : Nat) ((m + 1 : Nat) : Int)) ⟨s0, s1, kk 0 k0, kk 1 k1, kk 2 k2, kk 3 k3, kk 4 k4, kk 5 k5, ?_⟩
      exact tup2 (rep_node (c_int (by rw [tp])) c_lit c_lit c_lit c_lit c_lit c_nil c_nil) (c_int wp)
end Go.Proofs.YtdlghljhgbakjaaDoor

/-
  PART: where a row's expression ends: the table.
-/
namespace Go.Proofs.YtdlghljhgbakjaaDoor
open Go.RowKit
def leafB (a : Itm) : Bool := if a.k = 0 then true else if a.k = 1 then decide (a.i < 8) else if a.k = 2 then decide (a.t < 4) && decide (a.i < 8) else if a.k = 3 then decide (97 ≤ a.x) && decide (a.x ≤ 122) && a.x != 114 else false
def partsI (a : Itm) : Int := if (a.k == 4 && sidesE a.op == 1) = true then 1 else if (a.k == 5 && sidesE a.op == 2) = true then 2 else if leafB a = true then 0 else -1
/-- Where the expression ends (below 0: nowhere), how deep it is. -/
def endT (X : Nat → Itm) (N : Nat) : Nat → Nat → Int × Int
  | 0, _ => (-1, 0)
  | f + 1, p => if N ≤ p then (-1, 0) else if partsI (X p) < 0 then (-1, 0) else
    if partsI (X p) = 0 then (((p + 1 : Nat) : Int), 1) else
    let a := endT X N f (p + 1)
    if a.1 < 0 then (-1, 0) else
    if partsI (X p) = 1 then (a.1, max 0 a.2 + 1) else
    let b := endT X N f a.1.toNat
    if b.1 < 0 then (-1, 0) else (b.1, max (max 0 a.2) b.2 + 1)
noncomputable section
def ansE (X : Nat → Itm) (N : Nat) (p : Int) : AV := .tup [.v (.int .i64 (endT X N (N - p.toNat) p.toNat).1), .v (.int .i64 (endT X N (N - p.toNat) p.toNat).2)]
def ptA (a0 a1 a2 a3 a4 a5 : AV) : Itm := ⟨intA a0, intA a1, intA a2, intA a3, intA a4, intA a5⟩
def tabE2 (X : Nat → Itm) (N : Nat) (f : Nat) (args : List AV) : Option (Tree AV) := match f, args with
  | 22, [r, p] => some (.side (PureOk Tryd.prog 22 [r, p] (ansE X N (intA p))) (.ret (ansE X N (intA p))))
  | 51, [.agg [a0, a1, a2, a3, a4, a5]] => some (ctrT 51 [.agg [a0, a1, a2, a3, a4, a5]] (.v (.int .i64 (partsI (ptA a0 a1 a2 a3 a4 a5)))))
  | _, _ => none
theorem tabE2_ok (X : Nat → Itm) (N : Nat) : TabOk Tryd.prog (tabE2 X N) := by
  intro f args t a ht hh
  unfold tabE2 at ht
  split at ht <;> cases ht
  all_goals
    obtain ⟨h1, h2⟩ := hh
    cases h2
    exact h1
noncomputable def cxE2 (X : Nat → Itm) (N : Nat) (dec : Nat → St → Option Bool) : Cx := ⟨Tryd.prog, ctrOf (tabE2 X N), dec⟩
theorem cxE2_ok (X : Nat → Itm) (N : Nat) (dec : Nat → St → Option Bool) : CtrOk (cxE2 X N dec) := (ctrOf_ok (tabE2_ok X N)).withDec dec
noncomputable def c22 : Code := codeOf Tryd.f22
theorem b22 : Tryd.f22.body = some c22 := by kernel_rfl
/-- The loop's way, by its counter (slot 9): as many rounds as there are parts; in which round there is none (43). -/
noncomputable def decE (l : List (Nat × Bool)) (n : Nat) (bad : List Bool) (d : Nat) (st : St) : Option Bool := match Nat.beq d 33, Nat.beq d 43, look st.sl 9 with
  | true, _, .lit (.int _ i) => some (decide (i < (n : Int)))
  | _, true, .lit (.int _ i) => bad[i.toNat]?
  | _, _, _ => decL l d st
noncomputable def bodE (X : Nat → Itm) (N : Nat) (l : List (Nat × Bool)) (n : Nat) (bad : List Bool) (p : Int) : Tree AV := (bodyE (cxE2 X N (decE l n bad)) (evs (cxE2 X N (decE l n bad)) 60) Tryd.f22 c22 [rowA N X, .v (.int .i64 p)] .nil).ans
def sidesR (op : Int) : Int := if (if (op == 13) = true then true else op == 14) = true then 1 else if (if decide (op > 0) = true then decide (op < 13) else false) = true then 2 else 0
noncomputable def itmA (a : Itm) : AV := .agg (itmC a)
theorem ev51 (a : Itm) : ((evs (cx0 (decL [])) 60).call 51 [itmA a] .nil).ans = .ret (.v (.int .i64 (if (if (a.k == 4) = true then sidesR a.op == 1 else false) = true then 1 else if (if (a.k == 5) = true then sidesR a.op == 2 else false) = true then 2 else if
  (if (a.k == 0) = true then true else if (a.k == 1) = true then decide (a.i < 8) else if (a.k == 2) = true then if decide (a.t < 4) = true then decide (a.i < 8) else false else if (a.k == 3) = true then if decide (a.x ≥ 97) = true then if decide (a.x ≤ 122) = true then a.x != 114 else false else false else false) = true then 0 else -1))) := by kernel_rfl
end
end Go.Proofs.YtdlghljhgbakjaaDoor

/-
  PART: where a row's expression ends: the contract.
-/
namespace Go.Proofs.YtdlghljhgbakjaaDoor
open Go.RowKit
theorem pure_body {cx : Cx} (hc : CtrOk cx) (hfit : Fit cx.P) {n f : Nat} {fn : Func} {c : Code} (hf : cx.P.funcs[f]? = some fn) (hb : fn.body = some c) {args : List AV} {t : Tree AV} {a : AV} (h : (bodyE cx (evs cx n) fn c args .nil).ans = t)
    (ha : t.hit a) {d : Nat} (hp : plainA d a = true) : PureOk cx.P f args a := by
  rw [← h] at ha
  obtain ⟨s, k⟩ := Tree.ans_hit ha
  have ok := body_sound rfl hfit (evs_ok hc hfit n) hf hb k
  intro rr E w vals K hd hfz hargs hK
  refine ok.run rr (fun _ => True) E w vals K (fun x hx => by exact absurd rfl hx) (fun _ _ => trivial) (fun x _ _ hx => hd x hx) ⟨hfz, fun x _ hn => absurd rfl hn, fun x _ hn => absurd rfl hn, fun x B _ hB => (by cases hB), fun x y _ _ hn => absurd rfl hn⟩ hargs fun E' v w' hv p => ?_
  refine hK v w' (fun E2 => plain_ok d a v hp hv) ⟨fun b hb => (p.frame b hb fun x _ hx => ?_).1, p.size, p.os, p.tape, p.output⟩
  exact absurd hx (Nat.not_lt_zero x)
theorem sidesR_eq (op : Int) : sidesR op = sidesE op := by
  unfold sidesR sidesE
  by_cases h1 : op = 13
  · subst h1; rfl
  by_cases h2 : op = 14
  · subst h2; rfl
  simp only [beq_iff_eq, h1, h2, if_false, decide_eq_true_eq]
  by_cases a : op < 1
  · simp [a]; omega
  · by_cases b : op > 14
    · simp [b]; omega
    · by_cases c : op ≥ 13
      · omega
      · simp [a, b, c]; omega
theorem int_ok {f : Nat} {args : List AV} {x y : Int} (e : x = y) (h : PureOk Tryd.prog f args (.v (.int .i64 y))) : PureOk Tryd.prog f args (.v (.int .i64 x)) := by rw [e]; exact h
theorem parts_ok (a : Itm) : PureOk Tryd.prog 51 [itmA a] (.v (.int .i64 (partsI a))) := by
  refine int_ok ?_ (pure_hitX (cx0_ok _) rfl (ev51 a) rfl (by kernel_rfl))
  unfold partsI leafB
  rw [← sidesR_eq]
  simp only [ite_and']
  simp only [beq_iff_eq, Bool.and_eq_true, ge_iff_le, Bool.and_assoc]
  by_cases h3 : a.k = 3
  · simp [h3]
  · simp [h3]
noncomputable section
variable (X : Nat → Itm) (N : Nat) (p : Int)
def G51 : Prop := PureOk Tryd.prog 51 [itmA (X p.toNat)] (.v (.int .i64 (partsI (X p.toNat))))
def headS (b : Bool) (t : Tree AV) : Tree AV := .side (decide (p ≥ (N : Int)) = false → (0 ≤ p ∧ p < (N : Int)) ∧ G51 X p) (.side ((if decide (p ≥ (N : Int)) = true then true else decide (partsI (X p.toNat) < 0)) = b) t)
def bodS (t : Tree AV) : Tree AV := .side (0 ≤ p ∧ p < (N : Int)) (.side (G51 X p) t)
def ltS (i : Int) (b : Bool) (t : Tree AV) : Tree AV := .side (decide (i < partsI (X p.toNat)) = b) t
def enq (q : Int) : Int × Int := endT X N (N - q.toNat) q.toNat
def calS (q : Int) (t : Tree AV) : Tree AV := .side (PureOk Tryd.prog 22 [rowA N X, .v (.int .i64 q)] (ansE X N q)) t
def negS (q : Int) (b : Bool) (t : Tree AV) : Tree AV := .side (decide ((enq X N q).1 < 0) = b) t
def noA : Tree AV := .ret (.tup [.lit (.int .i64 (-1)), .lit (.int .i64 0)])
abbrev q1 : Int := wr (p + 1)
abbrev q2 : Int := (enq X N (q1 p)).1
theorem ev22_no : bodE X N [(23, true)] 0 [] p = headS X N p true noA := by kernel_rfl
theorem ev22_0 : bodE X N [(23, false)] 0 [] p = headS X N p false (bodS X N p (ltS X p 0 false (.ret (.tup [.v (.int .i64 (wr (p + 1))), .lit (.int .i64 1)])))) := by kernel_rfl
theorem ev22_f : bodE X N [(23, false)] 1 [true] p = headS X N p false (bodS X N p (ltS X p 0 true (calS X N (q1 p) (negS X N (q1 p) true noA)))) := by kernel_rfl
theorem ev22_1 : bodE X N [(23, false)] 1 [false] p = headS X N p false (bodS X N p (ltS X p 0 true (calS X N (q1 p) (negS X N (q1 p) false (ltS X p 1 false (.ret (.tup [.v (.int .i64 (enq X N (q1 p)).1), .v (.int .i64 (wr (mx 0 (enq X N (q1 p)).2 + 1)))]))))))) := by kernel_rfl
theorem ev22_g : bodE X N [(23, false)] 2 [false, true] p = headS X N p false (bodS X N p (ltS X p 0 true (calS X N (q1 p) (negS X N (q1 p) false (ltS X p 1 true (calS X N (q2 X N p) (negS X N (q2 X N p) true noA))))))) := by kernel_rfl
theorem ev22_2 : bodE X N [(23, false)] 2 [false, false] p = headS X N p false (bodS X N p (ltS X p 0 true (calS X N (q1 p) (negS X N (q1 p) false (ltS X p 1 true (calS X N (q2 X N p) (negS X N (q2 X N p) false (ltS X p 2 false
    (.ret (.tup [.v (.int .i64 (enq X N (q2 X N p)).1), .v (.int .i64 (wr (mx (mx 0 (enq X N (q1 p)).2) (enq X N (q2 X N p)).2 + 1)))])))))))))) := by kernel_rfl
end
theorem endT_le (X : Nat → Itm) (N : Nat) : ∀ f p, -1 ≤ (endT X N f p).1 ∧ (0 ≤ (endT X N f p).1 → (p : Int) < (endT X N f p).1 ∧ (endT X N f p).1 ≤ N) ∧ 0 ≤ (endT X N f p).2 ∧ (endT X N f p).2 ≤ f
  | 0, p => ⟨by show (-1 : Int) ≤ -1; omega, fun h => absurd (show (0 : Int) ≤ -1 from h) (by omega), by show (0 : Int) ≤ 0; omega, by show (0 : Int) ≤ _; omega⟩
  | f + 1, p => by
    have no : -1 ≤ ((-1, 0) : Int × Int).1 ∧ (0 ≤ ((-1, 0) : Int × Int).1 → (p : Int) < ((-1, 0) : Int × Int).1 ∧ ((-1, 0) : Int × Int).1 ≤ N) ∧ 0 ≤ ((-1, 0) : Int × Int).2 ∧ ((-1, 0) : Int × Int).2 ≤ ((f + 1 : Nat) : Int) := by
      refine ⟨by show (-1 : Int) ≤ -1; omega, fun h => absurd (show (0 : Int) ≤ -1 from h) (by omega), by show (0 : Int) ≤ 0; omega, by show (0 : Int) ≤ _; omega⟩
    have a := endT_le X N f (p + 1)
    have b := endT_le X N f (endT X N f (p + 1)).1.toNat
    unfold endT
    split
    · exact no
    split
    · exact no
    split
    · refine ⟨by show (-1 : Int) ≤ _; omega, fun _ => ⟨by show (p : Int) < ((p + 1 : Nat) : Int); omega, by show ((p + 1 : Nat) : Int) ≤ _; omega⟩, by show (0 : Int) ≤ 1; omega, by show (1 : Int) ≤ _; omega⟩
    simp only []
    split
    · exact no
    rename_i hn
    split
    · refine ⟨by omega, fun _ => ⟨by omega, by omega⟩, by show (0 : Int) ≤ _; omega, by show _ ≤ (_ : Int); omega⟩
    split
    · exact no
    · refine ⟨by omega, fun _ => ⟨by omega, by omega⟩, by show (0 : Int) ≤ _; omega, by show _ ≤ (_ : Int); omega⟩
end Go.Proofs.YtdlghljhgbakjaaDoor

/-
  PART: where a row's expression ends: the contract, proved; Good.
-/
namespace Go.Proofs.YtdlghljhgbakjaaDoor
open Go.RowKit
theorem tup_v {f : Nat} {args : List AV} {a b x y : Int} (e1 : x = a) (e2 : y = b) (h : PureOk Tryd.prog f args (.tup [.v (.int .i64 a), .v (.int .i64 b)])) : PureOk Tryd.prog f args (.tup [.v (.int .i64 x), .v (.int .i64 y)]) := by rw [e1, e2]; exact h
theorem tup_l {f : Nat} {args : List AV} {a b : Int} (h : PureOk Tryd.prog f args (.tup [.lit (.int .i64 a), .lit (.int .i64 b)])) : PureOk Tryd.prog f args (.tup [.v (.int .i64 a), .v (.int .i64 b)]) :=
  h.imp fun v hv E => tup2 c_lit c_lit E v (hv E)
theorem tup_m {f : Nat} {args : List AV} {a b : Int} (h : PureOk Tryd.prog f args (.tup [.v (.int .i64 a), .lit (.int .i64 b)])) : PureOk Tryd.prog f args (.tup [.v (.int .i64 a), .v (.int .i64 b)]) :=
  h.imp fun v hv E => tup2 c_same c_lit E v (hv E)
def noV : AV := .tup [.lit (.int .i64 (-1)), .lit (.int .i64 0)]
theorem no_fin {args : List AV} (h : PureOk Tryd.prog 22 args noV) : PureOk Tryd.prog 22 args (.tup [.v (.int .i64 ((-1, 0) : Int × Int).1), .v (.int .i64 ((-1, 0) : Int × Int).2)]) := tup_l h
theorem noV_plain : plainA 4 noV = true := by kernel_rfl
/-- Ends do not depend on how far one may look, if that is far enough. -/
theorem endT_fuel (X : Nat → Itm) (N : Nat) : ∀ f g p, N - p ≤ f → N - p ≤ g → endT X N f p = endT X N g p
  | 0, 0, _, _, _ => rfl
  | 0, g + 1, p, h, _ => by
    show (-1, 0) = endT X N (g + 1) p
    unfold endT
    rw [if_pos (by omega)]
  | f + 1, 0, p, _, h => by
    show endT X N (f + 1) p = (-1, 0)
    unfold endT
    rw [if_pos (by omega)]
  | f + 1, g + 1, p, h1, h2 => by
    have a := endT_fuel X N f g (p + 1) (by omega) (by omega)
    unfold endT
    rw [a]
    simp only []
    by_cases hn : (endT X N g (p + 1)).1 < 0
    · simp only [hn, if_true]
    · have hb := (endT_le X N g (p + 1)).2.1 (by omega)
      have b := endT_fuel X N f g (endT X N g (p + 1)).1.toNat (by omega) (by omega)
      rw [b]
theorem enq_eq (X : Nat → Itm) (N p : Nat) : enq X N ((p : Nat) : Int) = endT X N (N - p) p := by rw [enq, Int.toNat_natCast]
theorem end_ok (X : Nat → Itm) (N : Nat) (hN : N ≤ 1000) : ∀ f p : Nat, N - p ≤ f → p ≤ 2000 → PureOk Tryd.prog 22 [rowA N X, .v (.int .i64 ((p : Nat) : Int))] (ansE X N ((p : Nat) : Int)) := by
  intro f
  induction f with
  | zero =>
    intro p hf hp
    have hge : N ≤ p := by omega
    have e : endT X N (N - p) p = (-1, 0) := by
      have : N - p = 0 := by omega
      rw [this]; rfl
    unfold ansE
    rw [Int.toNat_natCast, e]
    have h9 := pure_body (a := noV) (cxE2_ok X N _) fitTry (n := 60) Tryd.func22 b22 (ev22_no X N (p : Nat)) ⟨fun h => absurd h (by simp; omega), by rw [if_pos (decide_eq_true (by omega))], rfl⟩ (d := 4) noV_plain
    exact no_fin h9
  | succ f ih =>
    intro p hf hp
    by_cases hge : N ≤ p
    · exact ih p (by omega) hp
    have g51 : G51 X ((p : Nat) : Int) := parts_ok _
    have s1 : (0 : Int) ≤ ((p : Nat) : Int) ∧ ((p : Nat) : Int) < (N : Int) := ⟨by omega, by omega⟩
    have dp : decide (((p : Nat) : Int) ≥ (N : Int)) = false := decide_eq_false (by omega)
    have tp : ((p : Nat) : Int).toNat = p := Int.toNat_natCast p
    have w1 : wr (((p : Nat) : Int) + 1) = ((p + 1 : Nat) : Int) := by rw [wr_in (by omega) (by omega)]; omega
    obtain ⟨m, hm⟩ : ∃ m, N - p = m + 1 := ⟨N - p - 1, by omega⟩
    have hm' : N - (p + 1) = m := by omega
    have la := endT_le X N m (p + 1)
    have f1 := ih (p + 1) (by omega) (by omega)
    have eA : enq X N (q1 ((p : Nat) : Int)) = endT X N m (p + 1) := by rw [q1, w1, enq_eq, hm']
    have hs0 : ∀ b, decide (partsI (X ((p : Nat) : Int).toNat) < 0) = b → (if decide (((p : Nat) : Int) ≥ (N : Int)) = true then true else decide (partsI (X ((p : Nat) : Int).toNat) < 0)) = b := fun b h => by rw [dp]; exact h
    have eo : endT X N (N - p) p = endT X N (m + 1) p := by rw [hm]
    unfold ansE
    rw [tp, eo]
    unfold endT
    rw [if_neg hge]
    rw [tp] at hs0
    by_cases hneg : partsI (X p) < 0
    · rw [if_pos hneg]
      have h9 := pure_body (a := noV) (cxE2_ok X N _) fitTry (n := 60) Tryd.func22 b22 (ev22_no X N (p : Nat)) ⟨fun _ => ⟨s1, g51⟩, by rw [tp]; exact hs0 _ (decide_eq_true hneg), rfl⟩ (d := 4) noV_plain
      exact no_fin h9
    rw [if_neg hneg]
    have hh := hs0 false (decide_eq_false hneg)
    have hP : partsI (X p) = 0 ∨ partsI (X p) = 1 ∨ partsI (X p) = 2 := by
      revert hneg
      unfold partsI
      split
      · intro _; exact .inr (.inl rfl)
      split
      · intro _; exact .inr (.inr rfl)
      split
      · intro _; exact .inl rfl
      · intro h; exact absurd (show (-1 : Int) < 0 by omega) h
    by_cases h0 : partsI (X p) = 0
    · rw [if_pos h0]
      exact tup_v rfl rfl (tup_m (by
        have := pure_body (cxE2_ok X N _) fitTry (n := 60) Tryd.func22 b22 (ev22_0 X N (p : Nat)) ⟨fun _ => ⟨s1, g51⟩, by rw [tp]; exact hh, s1, g51, by rw [tp, h0]; rfl, rfl⟩ (d := 4) (by kernel_rfl)
        rwa [w1] at this))
    rw [if_neg h0]
    simp only []
    have lt0 : decide ((0 : Int) < partsI (X ((p : Nat) : Int).toNat)) = true := by rw [tp]; exact decide_eq_true (by omega)
    have hc1 : PureOk Tryd.prog 22 [rowA N X, .v (.int .i64 (q1 ((p : Nat) : Int)))] (ansE X N (q1 ((p : Nat) : Int))) := by rw [q1, w1]; exact f1
    by_cases hn1 : (endT X N m (p + 1)).1 < 0
    · rw [if_pos hn1]
      have h9 := pure_body (a := noV) (cxE2_ok X N _) fitTry (n := 60) Tryd.func22 b22 (ev22_f X N (p : Nat)) ⟨fun _ => ⟨s1, g51⟩, by rw [tp]; exact hh, s1, g51, lt0, hc1, by rw [eA]; exact decide_eq_true hn1, rfl⟩ (d := 4) noV_plain
      exact no_fin h9
    rw [if_neg hn1]
    have ng1 : decide ((enq X N (q1 ((p : Nat) : Int))).1 < 0) = false := by rw [eA]; exact decide_eq_false hn1
    have la1 := la.2.1 (by omega)
    by_cases h1 : partsI (X p) = 1
    · rw [if_pos h1]
      have h9 := pure_body (cxE2_ok X N _) fitTry (n := 60) Tryd.func22 b22 (ev22_1 X N (p : Nat)) ⟨fun _ => ⟨s1, g51⟩, by rw [tp]; exact hh, s1, g51, lt0, hc1, ng1, by rw [tp, h1]; rfl, rfl⟩ (d := 4) (by kernel_rfl)
      refine tup_v ?_ ?_ h9
      · rw [eA]
      · rw [eA, mx_max, wr_in (by omega) (by omega)]
    rw [if_neg h1]
    have h2 : partsI (X p) = 2 := by omega
    obtain ⟨q, hq⟩ : ∃ q : Nat, (endT X N m (p + 1)).1 = (q : Int) := ⟨(endT X N m (p + 1)).1.toNat, by omega⟩
    have f2 := ih q (by omega) (by omega)
    have eq2 : q2 X N ((p : Nat) : Int) = (q : Int) := by rw [q2, eA, hq]
    have hc2 : PureOk Tryd.prog 22 [rowA N X, .v (.int .i64 (q2 X N ((p : Nat) : Int)))] (ansE X N (q2 X N ((p : Nat) : Int))) := by rw [eq2]; exact f2
    have eB : enq X N (q2 X N ((p : Nat) : Int)) = endT X N m (endT X N m (p + 1)).1.toNat := by
      rw [eq2, enq_eq, hq, Int.toNat_natCast]
      exact endT_fuel X N _ _ q (Nat.le_refl _) (by omega)
    have lb := endT_le X N m (endT X N m (p + 1)).1.toNat
    have lt1 : decide ((1 : Int) < partsI (X ((p : Nat) : Int).toNat)) = true := by rw [tp, h2]; rfl
    by_cases hn2 : (endT X N m (endT X N m (p + 1)).1.toNat).1 < 0
    · rw [if_pos hn2]
      have h9 := pure_body (a := noV) (cxE2_ok X N _) fitTry (n := 60) Tryd.func22 b22 (ev22_g X N (p : Nat)) ⟨fun _ => ⟨s1, g51⟩, by rw [tp]; exact hh, s1, g51, lt0, hc1, ng1, lt1, hc2, by rw [eB]; exact decide_eq_true hn2, rfl⟩ (d := 4) noV_plain
      exact no_fin h9
    rw [if_neg hn2]
    have h9 := pure_body (cxE2_ok X N _) fitTry (n := 60) Tryd.func22 b22 (ev22_2 X N (p : Nat)) ⟨fun _ => ⟨s1, g51⟩, by rw [tp]; exact hh, s1, g51, lt0, hc1, ng1, lt1, hc2, by rw [eB]; exact decide_eq_false hn2, by rw [tp, h2]; rfl, rfl⟩ (d := 4) (by kernel_rfl)
    refine tup_v ?_ ?_ h9
    · rw [eB]
    · rw [eB, eA, mx_max, mx_max, wr_in (by omega) (by omega)]
end Go.Proofs.YtdlghljhgbakjaaDoor
