/-
  PART: law 9: the document's answers for pairs of times; the table.
-/
import Derived.Test.YtkmhabbpndcnkaaQ3
namespace Go.Proofs.Ytkmhabbpndcnkaa
open Go.RowKit
theorem wakes37 : PureOk Try.prog 37 [] (.lit (.bool true)) :=
  pure_hit (t := .ret (.lit (.bool true))) (by kernel_rfl) rfl (by kernel_rfl)
def pr (p q : Int) : AV := .agg [iv p, iv q]
def zeroE (p q : Int) : Bool := if (p == 0) = true then q == 0 else false
def refMayE (p q : Int) : Bool := if decide (p ≥ 0) = true then (if decide (q ≤ 1048576) = true then (if decide (p < q) = true then true else zeroE p q) else zeroE p q) else zeroE p q
theorem refMayE_eq (p q : Int) : refMayE p q = okS p q := by
  unfold refMayE zeroE okS
  rw [Bool.eq_iff_iff]
  by_cases h1 : p ≥ 0
  · by_cases h2 : q ≤ 1048576
    · by_cases h3 : p < q
      · simp [h1, h2, h3]
      · simp [h1, h2, h3]
    · simp [h1, h2]; omega
  · simp [h1]; omega
theorem refMay_pure (p q : Int) : PureOk Try.prog 35 [pr p q] (.v (.bool (okS p q))) := by
  rw [← refMayE_eq]
  exact pure_hit (t := .ret (.v (.bool (refMayE p q)))) (by kernel_rfl) rfl (by kernel_rfl)
def lessB (p q r s : Int) : Bool := decide (q < s ∨ (q = s ∧ p < r))
def lessE (p q r s : Int) : Bool := if decide (q < s) = true then true else if (q == s) = true then decide (p < r) else false
theorem lessE_eq (p q r s : Int) : lessE p q r s = lessB p q r s := by
  unfold lessE lessB
  rw [Bool.eq_iff_iff]
  by_cases h1 : q < s
  · simp [h1]
  · by_cases h2 : q = s <;> simp [h1, h2]
theorem less_pure (p q r s : Int) : PureOk Try.prog 40 [pr p q, pr r s] (.v (.bool (lessB p q r s))) := by
  rw [← lessE_eq]
  exact pure_hit (t := .ret (.v (.bool (lessE p q r s)))) (by kernel_rfl) rfl (by kernel_rfl)
def prC : AV → Option (Int × Int)
  | .agg [a, b] => match intC a, intC b with
    | some x, some y => some (x, y)
    | _, _ => none
  | _ => none
theorem prC_ok {E : Env} {a : AV} {p q : Int} (h : prC a = some (p, q)) {v : Value} (hv : Rep E a v) : Rep E (pr p q) v := by
  unfold prC at h
  split at h
  · split at h
    · rename_i h1 h2
      cases h
      obtain ⟨vs, rfl, hr, ho⟩ := hv.agg_inv
      cases hr with | cons q1 t => cases t with | cons q2 t => cases t with | nil =>
      exact .agg_mk (.cons (intC_ok h1 q1) (.cons (intC_ok h2 q2) .nil)) ho
    · cases h
  · cases h
def tabP0 (f : Nat) (args : List AV) : Option (Tree AV) := match f, args with
  | 35, [a] => match prC a with
    | some (p, q) => some (.ret (.v (.bool (okS p q))))
    | none => none
  | _, _ => none
theorem tabP0_ok : TabOk Try.prog tabP0 := by
  intro f args t a ht hh
  unfold tabP0 at ht
  split at ht
  · split at ht
    · rename_i h1
      cases ht; cases hh
      refine (refMay_pure _ _).pre fun E vs h => ?_
      cases h with | cons q1 h => cases h with | nil =>
      exact .cons (prC_ok h1 q1) .nil
    · cases ht
  · cases ht
noncomputable def cxP0 : Cx := ⟨Try.prog, ctrOf tabP0, fun _ => none⟩
theorem cxP0_ok : CtrOk cxP0 := ctrOf_ok tabP0_ok
def rapartB (p q r s : Int) : Bool := decide (okS p q = true ∧ okS r s = true ∧ min q s ≤ max p r)
def rapartE (p q r s : Int) : Bool := if (if (!okS p q) = true then true else !okS r s) = true then false else decide ((if r > p then r else p) ≥ if s < q then s else q)
theorem rapartE_eq (p q r s : Int) : rapartE p q r s = rapartB p q r s := by
  unfold rapartE rapartB
  rw [Bool.eq_iff_iff]
  cases okS p q <;> cases okS r s <;> simp
  by_cases h1 : r > p <;> by_cases h2 : s < q <;> simp [h1, h2] <;> omega
theorem rapart_pure (p q r s : Int) : PureOk Try.prog 42 [pr p q, pr r s] (.v (.bool (rapartB p q r s))) := by
  rw [← rapartE_eq]
  exact pure_hitX (cx := cxP0) cxP0_ok rfl (t := .ret (.v (.bool (rapartE p q r s)))) (by kernel_rfl) rfl (by kernel_rfl)
def tabS7 (f : Nat) (args : List AV) : Option (Tree AV) := match f, args with
  | 37, [] => some (.ret (.lit (.bool true)))
  | 35, [a] => match prC a with
    | some (p, q) => some (.ret (.v (.bool (okS p q))))
    | none => none
  | 40, [a, b] => match prC a, prC b with
    | some (p, q), some (r, s) => some (.ret (.v (.bool (lessB p q r s))))
    | _, _ => none
  | 42, [a, b] => match prC a, prC b with
    | some (p, q), some (r, s) => some (.ret (.v (.bool (rapartB p q r s))))
    | _, _ => none
  | f, args => tabS f args
theorem tabS7_ok : TabOk Try.prog tabS7 := by
  intro f args t a ht hh
  unfold tabS7 at ht
  split at ht
  · cases ht; cases hh
    exact wakes37
  · split at ht
    · rename_i h1
      cases ht; cases hh
      refine (refMay_pure _ _).pre fun E vs h => ?_
      cases h with | cons q1 h => cases h with | nil =>
      exact .cons (prC_ok h1 q1) .nil
    · cases ht
  · split at ht
    · rename_i h1 h2
      cases ht; cases hh
      refine (less_pure _ _ _ _).pre fun E vs h => ?_
      cases h with | cons q1 h => cases h with | cons q2 h => cases h with | nil =>
      exact .cons (prC_ok h1 q1) (.cons (prC_ok h2 q2) .nil)
    · cases ht
  · split at ht
    · rename_i h1 h2
      cases ht; cases hh
      refine (rapart_pure _ _ _ _).pre fun E vs h => ?_
      cases h with | cons q1 h => cases h with | cons q2 h => cases h with | nil =>
      exact .cons (prC_ok h1 q1) (.cons (prC_ok h2 q2) .nil)
    · cases ht
  · exact tabS_ok _ _ _ _ ht hh
noncomputable def cxS7 (dec : Nat → Option Bool) : Cx := ⟨Try.prog, ctrOf tabS7, dec⟩
theorem cxS7_ok (dec : Nat → Option Bool) : CtrOk (cxS7 dec) := (ctrOf_ok tabS7_ok).withDec dec
end Go.Proofs.Ytkmhabbpndcnkaa
