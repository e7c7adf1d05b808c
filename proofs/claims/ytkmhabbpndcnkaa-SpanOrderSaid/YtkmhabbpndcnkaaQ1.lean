/-
  PART: spans: contracts of time, May, From, To.
-/
import Derived.Test.YtkmhabbpndcnkaaQ0
namespace Go.Proofs.Ytkmhabbpndcnkaa
open Go.RowKit
theorem order_le {a b : Nat} (ha : a ≤ 2 ^ 40) (hb : b ≤ 2 ^ 40) : FloatKind.f64.format.order (F a) (F b) = some (compare a b) := order_F a b (lt53 ha) (lt53 hb)
theorem max_F : F 1048576 = 4697254411347427328 := by kernel_rfl
theorem cmp_lt (a b : Nat) : (some (compare a b) == some Ordering.lt) = decide (a < b) := by
  rw [Bool.eq_iff_iff]; simp [Nat.compare_eq_lt]
theorem cmp_eq (a b : Nat) : (some (compare a b) == some Ordering.eq) = decide (a = b) := by
  rw [Bool.eq_iff_iff]; simp [Nat.compare_eq_eq]
theorem cmp_gt (a b : Nat) : (some (compare a b) == some Ordering.gt) = decide (b < a) := by
  rw [Bool.eq_iff_iff]; simp [Nat.compare_eq_gt]
/-- Comparisons of floats that are whole numbers. -/
def ltF (x y : Nat) : Bool := FloatKind.f64.format.order x y == some .lt
def eqF (x y : Nat) : Bool := FloatKind.f64.format.order x y == some .eq
def gtF (x y : Nat) : Bool := FloatKind.f64.format.order x y == some .gt
theorem ltF_eq {a b : Nat} (ha : a ≤ 2 ^ 40) (hb : b ≤ 2 ^ 40) : ltF (F a) (F b) = decide (a < b) := by unfold ltF; rw [order_le ha hb, cmp_lt]
theorem eqF_eq {a b : Nat} (ha : a ≤ 2 ^ 40) (hb : b ≤ 2 ^ 40) : eqF (F a) (F b) = decide (a = b) := by unfold eqF; rw [order_le ha hb, cmp_eq]
theorem gtF_eq {a b : Nat} (ha : a ≤ 2 ^ 40) (hb : b ≤ 2 ^ 40) : gtF (F a) (F b) = decide (b < a) := by unfold gtF; rw [order_le ha hb, cmp_gt]
theorem eqF_zero {a : Nat} (ha : a ≤ 2 ^ 40) : eqF (F a) 0 = decide (a = 0) := by have := eqF_eq ha (b := 0) (by decide); rwa [F_zero] at this
theorem gtF_zero {a : Nat} (ha : a ≤ 2 ^ 40) : gtF (F a) 0 = decide (0 < a) := by have := gtF_eq ha (b := 0) (by decide); rwa [F_zero] at this
def timeB (x : Nat) : Bool := if (gtF x 0 || eqF x 0) = true then (if (ltF x 4697254411347427328 || eqF x 4697254411347427328) = true then eqF x x else false) else false
theorem timeB_eq {n : Nat} (h : n ≤ 2 ^ 40) : timeB (F n) = decide (n ≤ 1048576) := by
  unfold timeB
  rw [← max_F, gtF_zero h, eqF_zero h, ltF_eq h (by decide), eqF_eq h (by decide), eqF_eq h h]
  rw [Bool.eq_iff_iff]
  by_cases h0 : n ≤ 1048576
  · have : n < 1048576 ∨ n = 1048576 := by omega
    have : 0 < n ∨ n = 0 := by omega
    simp [h0]; omega
  · have h1 : ¬ n < 1048576 := by omega
    have h2 : ¬ n = 1048576 := by omega
    simp [h0, h1, h2]
theorem time_pure {n : Nat} (h : n ≤ 2 ^ 40) : PureOk Try.prog 83 [.v (.float .f64 (F n))] (.v (.bool (decide (n ≤ 1048576)))) := by
  rw [← timeB_eq h]
  exact pure_hitX (cx := cxF0) cxF0_ok rfl (t := .side ((gtF (F n) 0 || eqF (F n) 0) = true → (ltF (F n) 4697254411347427328 || eqF (F n) 4697254411347427328) = true → IsF (F n)) (.ret (.v (.bool (timeB (F n)))))) (by kernel_rfl) ⟨fun _ _ => ⟨n, h, rfl⟩, rfl⟩ (by kernel_rfl)
def cplxC : AV → Option (Nat × Nat)
  | .v (.complex .f64 x y) => some (x, y)
  | .lit (.complex .f64 x y) => some (x, y)
  | _ => none
theorem cplxC_ok {E : Env} {a : AV} {x y : Nat} (h : cplxC a = some (x, y)) {v : Value} (hv : Rep E a v) : Rep E (.v (.complex .f64 x y)) v := by
  unfold cplxC at h
  split at h
  · cases h; exact hv
  · cases h; cases hv; exact .v _ rfl
  · cases h
def tabF1 (f : Nat) (args : List AV) : Option (Tree AV) := match f, args with
  | 83, [a] => match fltC a with
    | some x => some (.side (IsF x) (.ret (.v (.bool (decide (unF x ≤ 1048576))))))
    | none => none
  | _, _ => none
theorem tabF1_ok : TabOk Try.prog tabF1 := by
  intro f args t a ht hh
  unfold tabF1 at ht
  split at ht
  · split at ht
    · rename_i x h1
      cases ht
      obtain ⟨⟨n, hn, rfl⟩, hh⟩ := hh
      cases hh
      rw [unF_F hn]
      refine (time_pure hn).pre fun E vs h => ?_
      cases h with | cons q1 h => cases h with | nil =>
      exact .cons (fltC_ok h1 q1) .nil
    · cases ht
  · cases ht
noncomputable def cxF1 : Cx := ⟨Try.prog, ctrOf tabF1, fun _ => none⟩
theorem cxF1_ok : CtrOk cxF1 := ctrOf_ok tabF1_ok
end Go.Proofs.Ytkmhabbpndcnkaa
