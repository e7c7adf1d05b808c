/-
  PART: spans: contracts of May; the table for the others.
-/
import Derived.Test.YtkmhabbpndcnkaaQ1
namespace Go.Proofs.Ytkmhabbpndcnkaa
open Go.RowKit
def mayS (a b : Nat) : Bool := decide (a ≤ 1048576 ∧ b ≤ 1048576 ∧ (a < b ∨ (a = 0 ∧ b = 0)))
def mayX (x y : Nat) : Bool := if decide (unF x ≤ 1048576) = true then (if decide (unF y ≤ 1048576) = true then (if ltF x y = true then true else (eqF x 0 && eqF y 0)) else false) else false
theorem mayX_eq {a b : Nat} (ha : a ≤ 2 ^ 40) (hb : b ≤ 2 ^ 40) : mayX (F a) (F b) = mayS a b := by
  unfold mayX mayS
  rw [unF_F ha, unF_F hb, ltF_eq ha hb, eqF_zero ha, eqF_zero hb, Bool.eq_iff_iff]
  by_cases h1 : a ≤ 1048576 <;> by_cases h2 : b ≤ 1048576 <;> by_cases h3 : a < b <;> simp [h1, h2, h3]
theorem isF (n : Nat) (h : n ≤ 2 ^ 40) : IsF (F n) := ⟨n, h, rfl⟩
def spv (a b : Nat) : AV := .v (.complex .f64 (F a) (F b))
theorem mayS_pure {a b : Nat} (ha : a ≤ 2 ^ 40) (hb : b ≤ 2 ^ 40) : PureOk Try.prog 36 [spv a b] (.v (.bool (mayS a b))) := by
  rw [← mayX_eq ha hb]
  exact pure_hitX (cx := cxF1) cxF1_ok rfl (t := .side (IsF (F a)) (.side (decide (unF (F a) ≤ 1048576) = true → IsF (F b)) (.ret (.v (.bool (mayX (F a) (F b))))))) (by kernel_rfl) ⟨isF a ha, fun _ => isF b hb, rfl⟩ (by kernel_rfl)
def cmpX (x y : Nat) : Int :=
  if (FloatKind.f64.format.order x x != some Ordering.eq) = true then (if (FloatKind.f64.format.order y y != some Ordering.eq) = true then 0 else -1)
  else if (FloatKind.f64.format.order y y != some Ordering.eq) = true then 1 else if ltF x y = true then -1 else if gtF x y = true then 1 else 0
def cmpS (a b : Nat) : Int := if a < b then -1 else if b < a then 1 else 0
theorem cmpX_eq {a b : Nat} (ha : a ≤ 2 ^ 40) (hb : b ≤ 2 ^ 40) : cmpX (F a) (F b) = cmpS a b := by
  unfold cmpX cmpS
  have h1 : (FloatKind.f64.format.order (F a) (F a) != some Ordering.eq) = false := by
    rw [order_le ha ha]; simp [Nat.compare_eq_eq.2 rfl]
  have h2 : (FloatKind.f64.format.order (F b) (F b) != some Ordering.eq) = false := by
    rw [order_le hb hb]; simp [Nat.compare_eq_eq.2 rfl]
  rw [h1, h2, ltF_eq ha hb, gtF_eq ha hb]
  simp
theorem cmp_pure {a b : Nat} (ha : a ≤ 2 ^ 40) (hb : b ≤ 2 ^ 40) : PureOk Try.prog 85 [.v (.float .f64 (F a)), .v (.float .f64 (F b))] (iv (cmpS a b)) := by
  rw [← cmpX_eq ha hb]
  exact pure_hitX (cx := cxF0) cxF0_ok rfl (t := .ret (iv (cmpX (F a) (F b)))) (by kernel_rfl) rfl (by kernel_rfl)
def tabF2 (f : Nat) (args : List AV) : Option (Tree AV) := match f, args with
  | 36, [a] => match cplxC a with
    | some (x, y) => some (.side (IsF x ∧ IsF y) (.ret (.v (.bool (mayS (unF x) (unF y))))))
    | none => none
  | 85, [a, b] => match fltC a, fltC b with
    | some x, some y => some (.side (IsF x ∧ IsF y) (.ret (iv (cmpS (unF x) (unF y)))))
    | _, _ => none
  | _, _ => none
theorem tabF2_ok : TabOk Try.prog tabF2 := by
  intro f args t a ht hh
  unfold tabF2 at ht
  split at ht
  · split at ht
    · rename_i x y h1
      cases ht
      obtain ⟨⟨⟨n, hn, rfl⟩, ⟨m, hm, rfl⟩⟩, hh⟩ := hh
      cases hh
      rw [unF_F hn, unF_F hm]
      refine (mayS_pure hn hm).pre fun E vs h => ?_
      cases h with | cons q1 h => cases h with | nil =>
      exact .cons (cplxC_ok h1 q1) .nil
    · cases ht
  · split at ht
    · rename_i x y h1 h2
      cases ht
      obtain ⟨⟨⟨n, hn, rfl⟩, ⟨m, hm, rfl⟩⟩, hh⟩ := hh
      cases hh
      rw [unF_F hn, unF_F hm]
      refine (cmp_pure hn hm).pre fun E vs h => ?_
      cases h with | cons q1 h => cases h with | cons q2 h => cases h with | nil =>
      exact .cons (fltC_ok h1 q1) (.cons (fltC_ok h2 q2) .nil)
    · cases ht
  · cases ht
noncomputable def cxF2 : Cx := ⟨Try.prog, ctrOf tabF2, fun _ => none⟩
theorem cxF2_ok : CtrOk cxF2 := ctrOf_ok tabF2_ok
end Go.Proofs.Ytkmhabbpndcnkaa
