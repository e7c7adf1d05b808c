/-
  PART of the proofs of NumDoes and NumUndoes: see YtkmhabbpndcnkaaDoorDoes, YtkmhabbpndcnkaaDoorUndoes.
-/
import Derived.Test.YtkmhabbpndcnkaaDoorProg
import Derived.WalkKit
import Derived.WalkSpells
import Derived.WalkLawsBesides
namespace Go.Proofs.YtkmhabbpndcnkaaDoor
open Go.RowKit

def b01 (b : Bool) : Int := if b then 1 else 0
def numDo (op a b : Int) : Int :=
  if op = 1 then b01 (a == b) else if op = 2 then b01 (a != b) else if op = 3 then b01 (decide (a < b)) else if op = 4 then b01 (decide (a ≤ b))
  else if op = 5 then IntKind.u64.wrap (a + b) else if op = 6 then IntKind.u64.wrap (a - b) else if op = 7 then bits .or .u64 a b
  else if op = 8 then bits .xor .u64 a b else if op = 9 then IntKind.u64.wrap (a * b) else if op = 10 then (if b = 0 then 0 else IntKind.u64.wrap (a.tdiv b))
  else if op = 11 then (if b = 0 then 0 else a % b) else if op = 12 then bits .and .u64 a b else 0

theorem bit_any (b : Bool) (w : World) :
    Calls Tryd.prog 14 #[.bool b] w fun e w' => e = .returned (.int .u64 (b01 b)) ∧ w = w' := by
  cases b
  all_goals
    go_enter Tryd.func14, Tryd.ntmps14
    go_wp2
    go_ret
    exact ⟨rfl, rfl⟩
theorem truth_any (b : Bool) (w : World) :
    Calls Tryd.prog 15 #[.bool b] w fun e w' => e = .returned (.int .u64 (b01 b)) ∧ w = w' := by
  cases b
  all_goals
    go_enter Tryd.func15, Tryd.ntmps15
    go_wp2
    go_ret
    exact ⟨rfl, rfl⟩
set_option maxHeartbeats 400000 in
theorem do_any (op a b : Int) (w : World) (ha : 0 ≤ a) (hb : 0 ≤ b) :
    Calls Tryd.prog 5 #[.int .u8 op, .int .u64 a, .int .u64 b] w fun e w' => e = .returned (.int .u64 (numDo op a b)) ∧ w = w' := by
  by_cases h10 : (op = 10 ∨ op = 11) ∧ b = 0
  · obtain ⟨h, rfl⟩ := h10
    rcases h with rfl | rfl
    all_goals
      go_enter Tryd.func5, Tryd.ntmps5
      go_wp2
      refine wp_scope_jumps 0 (fun a' w' => w = w' ∧ a'.defers = [] ∧ 6 < a'.tmps.size) (fun _ _ => 0) rfl ?_ ?_
      · go_wp2
        go_step3
        exact ⟨rfl, rfl, rfl, by simp⟩
      · rintro ⟨t, d⟩ w' ⟨rfl, h2, h3⟩
        simp only at h2 h3
        subst h2
        go_wp2
        simp only [Exit.jump]
        refine bodyPost_ret (v := .int .u64 0) ?_ rfl ⟨rfl, rfl⟩
        simp [results, Tryd.results5, go_sem, h3]
  by_cases h : op = 1 ∨ op = 2 ∨ op = 3 ∨ op = 4
  · rcases h with rfl | rfl | rfl | rfl
    all_goals
      clear h10
      go_enter Tryd.func5, Tryd.ntmps5
      go_wp2
      go_step3
      go_wp2_with (go_at_call 14; refine (bit_any _ _).mono ?_; rintro e w' ⟨rfl, rfl⟩)
      try rw [Exit.noGoto_ret]
      go_ret
      exact ⟨rfl, rfl⟩
  by_cases h : op = 5 ∨ op = 6 ∨ op = 7 ∨ op = 8 ∨ op = 9 ∨ op = 12
  · rcases h with rfl | rfl | rfl | rfl | rfl | rfl
    all_goals
      clear h10
      go_enter Tryd.func5, Tryd.ntmps5
      go_wp2
      go_step3
      go_wp2_with fail
      try rw [Exit.noGoto_ret]
      go_ret
      exact ⟨rfl, rfl⟩
  by_cases h : op = 10 ∨ op = 11
  · have hb : ¬ b = 0 := fun e => h10 ⟨h, e⟩
    clear h10
    rcases h with rfl | rfl
    all_goals
      go_enter Tryd.func5, Tryd.ntmps5
      go_wp2
      go_step3
      go_wp2_with fail
      try rw [Exit.noGoto_ret]
      go_ret
      exact ⟨by simp [numDo, hb], rfl⟩
  · have h1 : ¬ op = 1 := by omega
    have h2 : ¬ op = 2 := by omega
    have h3 : ¬ op = 3 := by omega
    have h4 : ¬ op = 4 := by omega
    have h5 : ¬ op = 5 := by omega
    have h6 : ¬ op = 6 := by omega
    have h7 : ¬ op = 7 := by omega
    have h8 : ¬ op = 8 := by omega
    have h9 : ¬ op = 9 := by omega
    have h10 : ¬ op = 10 := by omega
    have h11 : ¬ op = 11 := by omega
    have h12 : ¬ op = 12 := by omega
    have H : Hid (numDo op a b = 0) := by simp [Hid, numDo, *]
    go_enter Tryd.func5, Tryd.ntmps5
    go_wp2
    go_step3
    go_wp2_with fail
    go_step3
    go_wp2_with fail
    try rw [Exit.noGoto_ret]
    go_ret
    exact ⟨by rw [H.out]; rfl, rfl⟩
theorem one_any (op a : Int) (w : World) :
    Calls Tryd.prog 7 #[.int .u8 op, .int .u64 a] w fun e w' => e = .returned (.int .u64 (if op = 13 then b01 (a == 0) else if op = 14 then IntKind.u64.wrap (- a) else 0)) ∧ w = w' := by
  by_cases h : op = 13
  · subst h
    go_enter Tryd.func7, Tryd.ntmps7
    go_wp2_with (go_at_call 14; refine (bit_any _ _).mono ?_; rintro e w' ⟨rfl, rfl⟩)
    go_ret
    exact ⟨rfl, rfl⟩
  by_cases h' : op = 14
  · subst h'
    go_enter Tryd.func7, Tryd.ntmps7
    go_wp2_with fail
    go_ret
    exact ⟨rfl, rfl⟩
  · have H : Hid ((if op = 13 then b01 (a == 0) else if op = 14 then IntKind.u64.wrap (- a) else 0) = 0) := by simp [Hid, h, h']
    rw [H.out]
    go_enter Tryd.func7, Tryd.ntmps7
    go_wp2_with fail
    go_ret
    exact ⟨rfl, rfl⟩
theorem refOne_any (op a : Int) (w : World) :
    Calls Tryd.prog 8 #[.int .u8 op, .int .u64 a] w fun e w' => e = .returned (.int .u64 (if op = 13 then b01 (a == 0) else if op = 14 then IntKind.u64.wrap (- a) else 0)) ∧ w = w' := by
  by_cases h : op = 13
  · subst h
    go_enter Tryd.func8, Tryd.ntmps8
    go_wp2_with (go_at_call 15; refine (truth_any _ _).mono ?_; rintro e w' ⟨rfl, rfl⟩)
    go_ret
    exact ⟨rfl, rfl⟩
  by_cases h' : op = 14
  · subst h'
    go_enter Tryd.func8, Tryd.ntmps8
    go_wp2_with fail
    go_ret
    exact ⟨by simp, rfl⟩
  · have H : Hid ((if op = 13 then b01 (a == 0) else if op = 14 then IntKind.u64.wrap (- a) else 0) = 0) := by simp [Hid, h, h']
    rw [H.out]
    go_enter Tryd.func8, Tryd.ntmps8
    go_wp2_with fail
    go_ret
    exact ⟨rfl, rfl⟩
def sidesN (op : Int) : Int := if op < 1 ∨ 14 < op then 0 else if 13 ≤ op then 1 else 2
theorem sides_any (op : Int) (w : World) (h0 : 0 ≤ op) :
    Calls Tryd.prog 9 #[.int .u8 op] w fun e w' => e = .returned (.int .i64 (sidesN op)) ∧ w = w' := by
  by_cases h : op < 1
  · go_enter Tryd.func9, Tryd.ntmps9
    go_wp2_with fail
    go_ret
    exact ⟨by simp [sidesN]; omega, rfl⟩
  by_cases h' : 14 < op
  · go_enter Tryd.func9, Tryd.ntmps9
    go_wp2_with fail
    go_ret
    exact ⟨by simp [sidesN, h'], rfl⟩
  by_cases h'' : 13 ≤ op
  all_goals
    go_enter Tryd.func9, Tryd.ntmps9
    go_wp2_with fail
    go_ret
    exact ⟨by simp [sidesN]; omega, rfl⟩
theorem refSides_any (op : Int) (w : World) (h0 : 0 ≤ op) :
    Calls Tryd.prog 10 #[.int .u8 op] w fun e w' => e = .returned (.int .i64 (sidesN op)) ∧ w = w' := by
  by_cases h13 : op = 13
  · subst h13
    go_enter Tryd.func10, Tryd.ntmps10
    go_wp2_with fail
    go_ret
    exact ⟨rfl, rfl⟩
  by_cases h14 : op = 14
  · subst h14
    go_enter Tryd.func10, Tryd.ntmps10
    go_wp2_with fail
    go_ret
    exact ⟨rfl, rfl⟩
  have k13 : (op == 13) = false := by simp [h13]
  have k14 : (op == 14) = false := by simp [h14]
  by_cases h : 0 < op ∧ op < 13
  · obtain ⟨h1, h2⟩ := h
    have H : Hid (sidesN op = 2) := by simp [Hid, sidesN]; omega
    rw [H.out]
    go_enter Tryd.func10, Tryd.ntmps10
    go_wp2_with fail
    go_ret
    exact ⟨rfl, rfl⟩
  · have H : Hid (sidesN op = 0) := by simp [Hid, sidesN]; omega
    rw [H.out]
    by_cases h1 : 0 < op
    all_goals
      go_enter Tryd.func10, Tryd.ntmps10
      go_wp2_with fail
    all_goals
      first | (exfalso; omega) | (go_ret; exact ⟨rfl, rfl⟩)
end Go.Proofs.YtkmhabbpndcnkaaDoor
