/-
  PART of the proofs of NumDoes and NumUndoes: see YtkmhabbpndcnkaaDoorDoes, YtkmhabbpndcnkaaDoorUndoes.
-/
import Derived.Test.YtkmhabbpndcnkaaDoorB0
namespace Go.Proofs.YtkmhabbpndcnkaaDoor
open Go.RowKit
theorem rem_eq (a b : Int) (ha0 : 0 ≤ a) (ha : a < 18446744073709551616) (hb0 : 0 < b) :
    IntKind.u64.wrap (a - IntKind.u64.wrap (IntKind.u64.wrap (a.tdiv b) * b)) = a % b := by
  have h1 : a.tdiv b = a / b := Int.tdiv_eq_ediv_of_nonneg ha0
  have h2 : 0 ≤ a / b := Int.ediv_nonneg ha0 (by omega)
  have h3 : a / b ≤ a := Int.ediv_le_self _ ha0
  have h4 : a % b + b * (a / b) = a := Int.emod_add_mul_ediv a b
  have h5 : 0 ≤ a % b := Int.emod_nonneg _ (by omega)
  have h6 : (a / b) * b = b * (a / b) := Int.mul_comm _ _
  have h7 : 0 ≤ b * (a / b) := Int.mul_nonneg (by omega) h2
  have h8 : a % b ≤ a := by omega
  rw [h1, u64_in (a / b) h2 (by omega), h6, u64_in (b * (a / b)) h7 (by omega), u64_in _ (by omega) (by omega)]
  omega
theorem iw {a b : Int} (h : a = b) : Ending.returned (.int .u64 a) = .returned (.int .u64 b) := by rw [h]
set_option maxHeartbeats 400000 in
theorem refDo_any (op a b : Int) (w : World) (ha0 : 0 ≤ a) (ha : a < 18446744073709551616) (hb0 : 0 ≤ b) (hb : b < 18446744073709551616) :
    Calls Tryd.prog 6 #[.int .u8 op, .int .u64 a, .int .u64 b] w fun e w' => e = .returned (.int .u64 (numDo op a b)) ∧ w = w' := by
  have HA := Lib.hid ha
  have HB := Lib.hid hb
  clear ha hb
  by_cases h : op = 1 ∨ op = 2 ∨ op = 3
  · rcases h with rfl | rfl | rfl
    all_goals
      go_enter Tryd.func6, Tryd.ntmps6
      go_wp2_with (go_at_call 15; refine (truth_any _ _).mono ?_; rintro e w' ⟨rfl, rfl⟩)
      go_ret
      exact ⟨rfl, rfl⟩
  by_cases h : op = 4
  · subst h
    have H : Hid (numDo 4 a b = b01 (decide (a ≤ b))) := rfl
    rw [H.out]
    by_cases h1 : a < b
    · have e : decide (a ≤ b) = true := by simp; omega
      rw [e]; clear e
      go_enter Tryd.func6, Tryd.ntmps6
      go_wp2_with (go_at_call 15; refine (truth_any _ _).mono ?_; rintro e w' ⟨rfl, rfl⟩)
      go_ret
      exact ⟨rfl, rfl⟩
    by_cases h2 : a = b
    · have e : decide (a ≤ b) = true := by simp; omega
      rw [e]; clear e
      subst h2
      go_enter Tryd.func6, Tryd.ntmps6
      go_wp2_with (go_at_call 15; refine (truth_any _ _).mono ?_; rintro e w' ⟨rfl, rfl⟩)
      go_ret
      exact ⟨rfl, rfl⟩
    · have e : decide (a ≤ b) = false := by simp; omega
      rw [e]; clear e
      have h2' : (a == b) = false := by simp [h2]
      go_enter Tryd.func6, Tryd.ntmps6
      go_wp2_with (go_at_call 15; refine (truth_any _ _).mono ?_; rintro e w' ⟨rfl, rfl⟩)
      go_ret
      exact ⟨rfl, rfl⟩
  by_cases h : op = 5 ∨ op = 6 ∨ op = 9
  · rcases h with rfl | rfl | rfl
    all_goals
      go_enter Tryd.func6, Tryd.ntmps6
      go_wp2_with fail
      go_ret
      exact ⟨rfl, rfl⟩
  by_cases h : op = 7
  · subst h
    have oa := or_any a b w ha0 HA.out hb0 HB.out
    go_enter Tryd.func6, Tryd.ntmps6
    go_wp2_with (go_at_call 16; refine oa.mono ?_; rintro e w' ⟨rfl, rfl⟩)
    go_ret
    exact ⟨rfl, rfl⟩
  by_cases h : op = 8
  · subst h
    have oa := xor_any a b w ha0 HA.out hb0 HB.out
    go_enter Tryd.func6, Tryd.ntmps6
    go_wp2_with (go_at_call 16; refine oa.mono ?_; rintro e w' ⟨rfl, rfl⟩)
    go_ret
    exact ⟨rfl, rfl⟩
  by_cases h : op = 12
  · subst h
    have oa := and_any a b w ha0 HA.out hb0 HB.out
    go_enter Tryd.func6, Tryd.ntmps6
    go_wp2_with (go_at_call 16; refine oa.mono ?_; rintro e w' ⟨rfl, rfl⟩)
    go_ret
    exact ⟨rfl, rfl⟩
  by_cases h : op = 10 ∨ op = 11
  · by_cases hz : b = 0
    · subst hz
      rcases h with rfl | rfl
      all_goals
        go_enter Tryd.func6, Tryd.ntmps6
        go_wp2_with fail
        go_ret
        exact ⟨rfl, rfl⟩
    · have hp : 0 < b := by omega
      have H10 : Hid (numDo 10 a b = IntKind.u64.wrap (a.tdiv b)) := by simp [Hid, numDo, hz]
      have H11 : Hid (numDo 11 a b = a % b) := by simp [Hid, numDo, hz]
      have HR := Lib.hid (rem_eq a b ha0 HA.out hp)
      rcases h with rfl | rfl
      · rw [H10.out]
        go_enter Tryd.func6, Tryd.ntmps6
        go_wp2_with fail
        go_ret
        exact ⟨rfl, rfl⟩
      · rw [H11.out]
        go_enter Tryd.func6, Tryd.ntmps6
        go_wp2_with fail
        go_ret
        exact ⟨iw HR.out, rfl⟩
  · have h1 : (op == 1) = false := by simp; omega
    have h2 : (op == 2) = false := by simp; omega
    have h3 : (op == 3) = false := by simp; omega
    have h4 : (op == 4) = false := by simp; omega
    have h5 : (op == 5) = false := by simp; omega
    have h6 : (op == 6) = false := by simp; omega
    have h7 : (op == 7) = false := by simp; omega
    have h8 : (op == 8) = false := by simp; omega
    have h9 : (op == 9) = false := by simp; omega
    have h10 : (op == 10) = false := by simp; omega
    have h11 : (op == 11) = false := by simp; omega
    have h12 : (op == 12) = false := by simp; omega
    have H : Hid (numDo op a b = 0) := by simp at *; simp [Hid, numDo, *]
    rw [H.out]
    go_enter Tryd.func6, Tryd.ntmps6
    go_wp2_with fail
    go_ret
    exact ⟨rfl, rfl⟩

def txts : List (List UInt8) := [[], [61, 61], [33, 61], [60], [60, 61], [43], [45], [124], [94], [42], [47], [37], [38], [33], [45]]
def txt (op : Int) : Value := .string ⟨((txts.getD op.toNat []).toArray)⟩
/-- The table's cells. -/
def TabAt (w : World) : Prop := ∀ i : Nat, i < 15 → w.cell? ⟨0, i, none⟩ = some (txt i)
theorem op_cases (op : Int) (h0 : 0 ≤ op) (h : op < 15) : op = 0 ∨ op = 1 ∨ op = 2 ∨ op = 3 ∨ op = 4 ∨ op = 5 ∨ op = 6 ∨ op = 7 ∨ op = 8 ∨ op = 9 ∨ op = 10 ∨ op = 11 ∨ op = 12 ∨ op = 13 ∨ op = 14 := by omega
theorem txt_beyond (op : Int) (h : 15 ≤ op) : txt op = .string ⟨#[]⟩ := by
  have : txts.getD op.toNat [] = [] := by
    rw [List.getD_eq_getElem?_getD, List.getElem?_eq_none (by simp [txts]; omega)]; rfl
  unfold txt; rw [this]
set_option maxHeartbeats 400000 in
theorem text_any (op : Int) (w : World) (h0 : 0 ≤ op) (h1 : op ≤ 255) (hT : TabAt w) :
    Calls Tryd.prog 11 #[.int .u8 op] w fun e w' => e = .returned (txt op) ∧ w = w' := by
  by_cases h : op < 15
  · have hc : w.cell? ⟨0, op.toNat, none⟩ = some (txt op) := by
      have := hT op.toNat (by omega)
      rwa [show ((op.toNat : Nat) : Int) = op by omega] at this
    clear hT
    go_enter Tryd.func11, Tryd.ntmps11
    go_wp2_with fail
    go_ret
    exact ⟨rfl, rfl⟩
  · rw [txt_beyond op (by omega)]
    clear hT
    go_enter Tryd.func11, Tryd.ntmps11
    go_wp2_with fail
    go_ret
    exact ⟨rfl, rfl⟩
def tabObj : Obj := .cells #[.string ⟨#[]⟩, .string ⟨#[61, 61]⟩, .string ⟨#[33, 61]⟩, .string ⟨#[60]⟩, .string ⟨#[60, 61]⟩, .string ⟨#[43]⟩, .string ⟨#[45]⟩, .string ⟨#[124]⟩, .string ⟨#[94]⟩, .string ⟨#[42]⟩, .string ⟨#[47]⟩, .string ⟨#[37]⟩, .string ⟨#[38]⟩, .string ⟨#[33]⟩, .string ⟨#[45]⟩] 9 (0, 0)
theorem tabObj_cell (w : World) (op : Int) (h0 : 0 ≤ op) (h : op < 15) : (w.alloc tabObj).cell? ⟨w.heap.size, op.toNat, none⟩ = some (txt op) := by
  have : (w.alloc tabObj).heap[w.heap.size]? = some tabObj := by
    show (w.heap.push tabObj)[w.heap.size]? = _
    simp
  unfold World.cell?
  rw [this]
  rcases op_cases op h0 h with rfl | rfl | rfl | rfl | rfl | rfl | rfl | rfl | rfl | rfl | rfl | rfl | rfl | rfl | rfl <;> rfl
set_option maxHeartbeats 400000 in
theorem refText_any (op : Int) (w : World) (h0 : 0 ≤ op) (h1 : op ≤ 255) :
    Calls Tryd.prog 12 #[.int .u8 op] w fun e w' => e = .returned (txt op) ∧ Below w.heap.size w w' := by
  by_cases h : op < 15
  · have hc := tabObj_cell w op h0 h
    unfold tabObj at hc
    go_enter Tryd.func12, Tryd.ntmps12
    go_wp2_with fail
    go_ret
    exact ⟨rfl, (Below.refl _ _).alloc (Nat.le_refl _) _⟩
  · rw [txt_beyond op (by omega)]
    go_enter Tryd.func12, Tryd.ntmps12
    go_wp2_with fail
    go_ret
    exact ⟨rfl, (Below.refl _ _).alloc (Nat.le_refl _) _⟩
end Go.Proofs.YtkmhabbpndcnkaaDoor
