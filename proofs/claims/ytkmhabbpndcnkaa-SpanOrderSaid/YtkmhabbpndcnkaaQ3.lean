/-
  PART: spans: contracts of Of, From, To, Apart, Touches, Compare, Times; their table.
-/
import Derived.Test.YtkmhabbpndcnkaaQ2
namespace Go.Proofs.Ytkmhabbpndcnkaa
open Go.RowKit
theorem mayS_iff (a b : Nat) : mayS a b = true ↔ a ≤ 1048576 ∧ b ≤ 1048576 ∧ (a < b ∨ (a = 0 ∧ b = 0)) := by simp [mayS]
theorem mayS_le {a b : Nat} (h : mayS a b = true) : a ≤ 1048576 ∧ b ≤ 1048576 := ⟨((mayS_iff a b).1 h).1, ((mayS_iff a b).1 h).2.1⟩
theorem M_le {n : Nat} (h : n ≤ 1048576) : n ≤ 2 ^ 40 := Nat.le_trans h (by decide)
/-! Of. -/
def okS (p q : Int) : Bool := decide (0 ≤ p ∧ q ≤ 1048576 ∧ (p < q ∨ (p = 0 ∧ q = 0)))
def badO (p q : Int) : Bool := if decide (p < 0) = true then true else if decide (q < 0) = true then true else if decide (p > 1048576) = true then true else decide (q > 1048576)
def ofX (p q r : Int) : Nat := if badO p q = true then 0 else if (!mayS (unF (FloatKind.f64.nearest p)) (unF (FloatKind.f64.nearest q))) = true then 0 else FloatKind.f64.nearest r
def ofB (p q : Int) : Bool := if badO p q = true then false else !!mayS (unF (FloatKind.f64.nearest p)) (unF (FloatKind.f64.nearest q))
def partS (p q r : Int) : Nat := if okS p q = true then r.toNat else 0
theorem badO_false {p q : Int} (h : badO p q = false) : 0 ≤ p ∧ 0 ≤ q ∧ p ≤ 1048576 ∧ q ≤ 1048576 := by
  unfold badO at h
  by_cases h1 : p < 0
  · simp [h1] at h
  · by_cases h2 : q < 0
    · simp [h2] at h
    · by_cases h3 : p > 1048576
      · simp [h3] at h
      · simp [h1, h2, h3] at h; omega
theorem badO_true {p q : Int} (h : badO p q = true) : okS p q = false := by
  unfold badO at h
  unfold okS
  by_cases h1 : p < 0
  · simp; omega
  · by_cases h2 : q < 0
    · simp; omega
    · by_cases h3 : p > 1048576
      · simp; omega
      · simp [h1, h2, h3] at h
        simp; omega
theorem near_F {p : Int} (h : 0 ≤ p) : FloatKind.f64.nearest p = F p.toNat := by unfold F; rw [Int.toNat_of_nonneg h]
theorem okS_may {p q : Int} (h : badO p q = false) : mayS p.toNat q.toNat = okS p q := by
  obtain ⟨h1, h2, h3, h4⟩ := badO_false h
  rw [Bool.eq_iff_iff, mayS_iff]
  simp only [okS, decide_eq_true_eq]
  omega
theorem of_eq (p q : Int) : ofX p q p = F (partS p q p) ∧ ofX p q q = F (partS p q q) ∧ ofB p q = okS p q := by
  unfold ofX ofB partS
  cases h : badO p q with
  | true =>
    rw [badO_true h]
    simp [F_zero]
  | false =>
    obtain ⟨h1, h2, h3, h4⟩ := badO_false h
    rw [near_F h1, near_F h2, unF_F (M_le (by omega)), unF_F (M_le (by omega)), okS_may h]
    cases okS p q <;> simp [F_zero]
theorem of_pure (p q : Int) : PureOk Try.prog 34 [iv p, iv q] (.tup [spv (partS p q p) (partS p q q), .v (.bool (okS p q))]) := by
  have e : AV.tup [spv (partS p q p) (partS p q q), .v (.bool (okS p q))] = .tup [.v (.complex .f64 (ofX p q p) (ofX p q q)), .v (.bool (ofB p q))] := by
    unfold spv
    rw [(of_eq p q).1, (of_eq p q).2.1, (of_eq p q).2.2]
  rw [e]
  refine pure_hitX (cx := cxF2) cxF2_ok rfl (t := .side (badO p q = false → IsF (FloatKind.f64.nearest p) ∧ IsF (FloatKind.f64.nearest q)) (.ret (.tup [.v (.complex .f64 (ofX p q p) (ofX p q q)), .v (.bool (ofB p q))]))) (by kernel_rfl) ⟨fun h => ?_, rfl⟩ (by kernel_rfl)
  obtain ⟨h1, h2, h3, h4⟩ := badO_false h
  rw [near_F h1, near_F h2]
  exact ⟨isF _ (M_le (by omega)), isF _ (M_le (by omega))⟩
section
variable {a b c d : Nat}
/-! From, To. -/
def endS (a b r : Nat) : Int := if mayS a b = true then (r : Int) else 0
def endX (x y z : Nat) : Int := if (!mayS (unF x) (unF y)) = true then 0 else (floatToIntVal FloatKind.f64 z IntKind.i64).getD 0
theorem val_some {n : Nat} (h : n ≤ 2 ^ 40) : (floatToIntVal FloatKind.f64 (F n) IntKind.i64).isSome = true ∧ (floatToIntVal FloatKind.f64 (F n) IntKind.i64).getD 0 = n := by
  rw [val_F n (lt53 h)]; exact ⟨rfl, rfl⟩
theorem endX_eq (ha : a ≤ 2 ^ 40) (hb : b ≤ 2 ^ 40) {r : Nat} (hr : r ≤ 2 ^ 40) : endX (F a) (F b) (F r) = endS a b r := by
  unfold endX endS
  rw [unF_F ha, unF_F hb, (val_some hr).2]
  cases mayS a b <;> simp
theorem from_pure (ha : a ≤ 2 ^ 40) (hb : b ≤ 2 ^ 40) : PureOk Try.prog 38 [spv a b] (iv (endS a b a)) := by
  rw [← endX_eq ha hb ha]
  exact pure_hitX (cx := cxF2) cxF2_ok rfl (t := .side (IsF (F a) ∧ IsF (F b)) (.side ((!mayS (unF (F a)) (unF (F b))) = false → (floatToIntVal FloatKind.f64 (F a) IntKind.i64).isSome = true) (.ret (iv (endX (F a) (F b) (F a)))))) (by kernel_rfl)
    ⟨⟨isF a ha, isF b hb⟩, fun _ => (val_some ha).1, rfl⟩ (by kernel_rfl)
theorem to_pure (ha : a ≤ 2 ^ 40) (hb : b ≤ 2 ^ 40) : PureOk Try.prog 39 [spv a b] (iv (endS a b b)) := by
  rw [← endX_eq ha hb hb]
  exact pure_hitX (cx := cxF2) cxF2_ok rfl (t := .side (IsF (F a) ∧ IsF (F b)) (.side ((!mayS (unF (F a)) (unF (F b))) = false → (floatToIntVal FloatKind.f64 (F b) IntKind.i64).isSome = true) (.ret (iv (endX (F a) (F b) (F b)))))) (by kernel_rfl)
    ⟨⟨isF a ha, isF b hb⟩, fun _ => (val_some hb).1, rfl⟩ (by kernel_rfl)
/-! Apart, Touches, Compare. -/
def apartS (a b c d : Nat) : Bool := decide (mayS a b = true ∧ mayS c d = true ∧ ((a = 0 ∧ b = 0) ∨ (c = 0 ∧ d = 0) ∨ b ≤ c ∨ d ≤ a))
def bothX (x y z w : Nat) : Bool := if (!mayS (unF x) (unF y)) = true then true else !mayS (unF z) (unF w)
def apartX (x y z w : Nat) : Bool :=
  if bothX x y z w = true then false else if (eqF x 0 && eqF y 0) = true then true else if (eqF z 0 && eqF w 0) = true then true else if (ltF y z || eqF y z) = true then true else (ltF w x || eqF w x)
theorem apartX_eq (ha : a ≤ 2 ^ 40) (hb : b ≤ 2 ^ 40) (hc : c ≤ 2 ^ 40) (hd : d ≤ 2 ^ 40) : apartX (F a) (F b) (F c) (F d) = apartS a b c d := by
  unfold apartX bothX apartS
  rw [unF_F ha, unF_F hb, unF_F hc, unF_F hd, eqF_zero ha, eqF_zero hb, eqF_zero hc, eqF_zero hd, ltF_eq hb hc, eqF_eq hb hc, ltF_eq hd ha, eqF_eq hd ha, Bool.eq_iff_iff]
  cases mayS a b <;> cases mayS c d <;> simp
  by_cases h1 : a = 0 ∧ b = 0
  · simp [h1]
  · by_cases h2 : c = 0 ∧ d = 0
    · simp [h2]
    · by_cases h3 : b < c ∨ b = c
      · have : b ≤ c := by omega
        simp [h3, this]
      · have : ¬ b ≤ c := by omega
        simp only [h1, h2, h3, this, false_or]
        omega
theorem apart_pure (ha : a ≤ 2 ^ 40) (hb : b ≤ 2 ^ 40) (hc : c ≤ 2 ^ 40) (hd : d ≤ 2 ^ 40) : PureOk Try.prog 41 [spv a b, spv c d] (.v (.bool (apartS a b c d))) := by
  rw [← apartX_eq ha hb hc hd]
  exact pure_hitX (cx := cxF2) cxF2_ok rfl (t := .side (IsF (F a) ∧ IsF (F b)) (.side ((!mayS (unF (F a)) (unF (F b))) = false → IsF (F c) ∧ IsF (F d)) (.ret (.v (.bool (apartX (F a) (F b) (F c) (F d))))))) (by kernel_rfl)
    ⟨⟨isF a ha, isF b hb⟩, fun _ => ⟨isF c hc, isF d hd⟩, rfl⟩ (by kernel_rfl)
def touchS (a b c d : Nat) : Bool := decide (mayS a b = true ∧ mayS c d = true ∧ b = c)
def touchX (x y z w : Nat) : Bool := if mayS (unF x) (unF y) = true then (if mayS (unF z) (unF w) = true then eqF y z else false) else false
theorem touchX_eq (ha : a ≤ 2 ^ 40) (hb : b ≤ 2 ^ 40) (hc : c ≤ 2 ^ 40) (hd : d ≤ 2 ^ 40) : touchX (F a) (F b) (F c) (F d) = touchS a b c d := by
  unfold touchX touchS
  rw [unF_F ha, unF_F hb, unF_F hc, unF_F hd, eqF_eq hb hc]
  cases mayS a b <;> cases mayS c d <;> simp
theorem touch_pure (ha : a ≤ 2 ^ 40) (hb : b ≤ 2 ^ 40) (hc : c ≤ 2 ^ 40) (hd : d ≤ 2 ^ 40) : PureOk Try.prog 43 [spv a b, spv c d] (.v (.bool (touchS a b c d))) := by
  rw [← touchX_eq ha hb hc hd]
  exact pure_hitX (cx := cxF2) cxF2_ok rfl (t := .side (IsF (F a) ∧ IsF (F b)) (.side (mayS (unF (F a)) (unF (F b)) = true → IsF (F c) ∧ IsF (F d)) (.ret (.v (.bool (touchX (F a) (F b) (F c) (F d))))))) (by kernel_rfl)
    ⟨⟨isF a ha, isF b hb⟩, fun _ => ⟨isF c hc, isF d hd⟩, rfl⟩ (by kernel_rfl)
def compS (a b c d : Nat) : Int := if mayS a b = true ∧ mayS c d = true then (if cmpS b d ≠ 0 then cmpS b d else cmpS a c) else 0
def compX (x y z w : Nat) : Int := if bothX x y z w = true then 0 else if (cmpS (unF y) (unF w) != 0) = true then cmpS (unF y) (unF w) else if (cmpS (unF x) (unF z) != 0) = true then cmpS (unF x) (unF z) else 0
theorem compX_eq (ha : a ≤ 2 ^ 40) (hb : b ≤ 2 ^ 40) (hc : c ≤ 2 ^ 40) (hd : d ≤ 2 ^ 40) : compX (F a) (F b) (F c) (F d) = compS a b c d := by
  unfold compX bothX compS
  rw [unF_F ha, unF_F hb, unF_F hc, unF_F hd]
  cases mayS a b <;> cases mayS c d <;> simp
  by_cases h : cmpS b d = 0
  · by_cases h2 : cmpS a c = 0 <;> simp [h, h2]
  · simp [h]
theorem comp_pure (ha : a ≤ 2 ^ 40) (hb : b ≤ 2 ^ 40) (hc : c ≤ 2 ^ 40) (hd : d ≤ 2 ^ 40) : PureOk Try.prog 44 [spv a b, spv c d] (iv (compS a b c d)) := by
  rw [← compX_eq ha hb hc hd]
  exact pure_hitX (cx := cxF2) cxF2_ok rfl (t := .side (IsF (F a) ∧ IsF (F b)) (.side ((!mayS (unF (F a)) (unF (F b))) = false → IsF (F c) ∧ IsF (F d))
    (.side (bothX (F a) (F b) (F c) (F d) = false → (IsF (F b) ∧ IsF (F d)) ∧ IsF (F a) ∧ IsF (F c)) (.ret (iv (compX (F a) (F b) (F c) (F d))))))) (by kernel_rfl)
    ⟨⟨isF a ha, isF b hb⟩, fun _ => ⟨isF c hc, isF d hd⟩, fun _ => ⟨⟨isF b hb, isF d hd⟩, isF a ha, isF c hc⟩, rfl⟩ (by kernel_rfl)
/-! Times. -/
def badX (x y : Nat) (n : Int) : Bool := if decide (n < 1) = true then true else if decide (n > 1048576) = true then true else !mayS (unF x) (unF y)
def prodX (x y : Nat) (n : Int) : Nat × Nat := (cMulBits x y (FloatKind.f64.nearest n) 0).getD (0, 0)
def timesX (x y : Nat) (n : Int) (z : Nat) : Nat := if badX x y n = true then 0 else if (!mayS (unF (prodX x y n).1) (unF (prodX x y n).2)) = true then 0 else z
def timesXB (x y : Nat) (n : Int) : Bool := if badX x y n = true then false else !!mayS (unF (prodX x y n).1) (unF (prodX x y n).2)
def timesB (a b : Nat) (n : Int) : Bool := decide (1 ≤ n ∧ n ≤ 1048576 ∧ mayS a b = true ∧ mayS (a * n.toNat) (b * n.toNat) = true)
def timesS (a b : Nat) (n : Int) (r : Nat) : Nat := if timesB a b n = true then r * n.toNat else 0
theorem badX_false {n : Int} (ha : a ≤ 2 ^ 40) (hb : b ≤ 2 ^ 40) (h : badX (F a) (F b) n = false) : 1 ≤ n ∧ n ≤ 1048576 ∧ mayS a b = true := by
  unfold badX at h
  rw [unF_F ha, unF_F hb] at h
  by_cases h1 : n < 1
  · simp [h1] at h
  · by_cases h2 : n > 1048576
    · simp [h2] at h
    · simp [h1, h2] at h
      exact ⟨by omega, by omega, h⟩
theorem badX_true {n : Int} (ha : a ≤ 2 ^ 40) (hb : b ≤ 2 ^ 40) (h : badX (F a) (F b) n = true) : timesB a b n = false := by
  unfold badX at h
  rw [unF_F ha, unF_F hb] at h
  unfold timesB
  by_cases h1 : n < 1
  · simp; omega
  · by_cases h2 : n > 1048576
    · simp; omega
    · simp [h1, h2] at h
      simp [h]
theorem prod_eq {n : Int} (h : 1 ≤ n ∧ n ≤ 1048576 ∧ mayS a b = true) : cMulBits (F a) (F b) (FloatKind.f64.nearest n) 0 = some (F (a * n.toNat), F (b * n.toNat)) ∧ a * n.toNat ≤ 2 ^ 40 ∧ b * n.toNat ≤ 2 ^ 40 := by
  obtain ⟨h1, h2, h3⟩ := h
  obtain ⟨h4, h5⟩ := mayS_le h3
  have k1 : a * n.toNat ≤ 2 ^ 40 := Nat.le_trans (Nat.mul_le_mul h4 (show n.toNat ≤ 1048576 by omega)) (by decide)
  have k2 : b * n.toNat ≤ 2 ^ 40 := Nat.le_trans (Nat.mul_le_mul h5 (show n.toNat ≤ 1048576 by omega)) (by decide)
  refine ⟨?_, k1, k2⟩
  rw [near_F (by omega), ← F_zero]
  exact cmul_F a b n.toNat (lt53 (M_le (by omega))) (lt53 (M_le h4)) (lt53 (M_le h5)) (lt53 k1) (lt53 k2)
theorem times_eq (n : Int) (ha : a ≤ 2 ^ 40) (hb : b ≤ 2 ^ 40) : timesX (F a) (F b) n (prodX (F a) (F b) n).1 = F (timesS a b n a) ∧ timesX (F a) (F b) n (prodX (F a) (F b) n).2 = F (timesS a b n b) ∧ timesXB (F a) (F b) n = timesB a b n := by
  unfold timesX timesXB timesS
  cases h : badX (F a) (F b) n with
  | true => rw [badX_true ha hb h]; simp [F_zero]
  | false =>
    have h1 := badX_false ha hb h
    obtain ⟨e, k1, k2⟩ := prod_eq h1
    have e2 : prodX (F a) (F b) n = (F (a * n.toNat), F (b * n.toNat)) := by unfold prodX; rw [e]; rfl
    rw [e2]
    dsimp only
    rw [unF_F k1, unF_F k2]
    have e3 : timesB a b n = mayS (a * n.toNat) (b * n.toNat) := by
      rw [Bool.eq_iff_iff]
      unfold timesB
      simp only [decide_eq_true_eq]
      exact ⟨fun h => h.2.2.2, fun h => ⟨h1.1, h1.2.1, h1.2.2, h⟩⟩
    rw [e3]
    cases mayS (a * n.toNat) (b * n.toNat) <;> simp [F_zero]
theorem times_pure (n : Int) (ha : a ≤ 2 ^ 40) (hb : b ≤ 2 ^ 40) : PureOk Try.prog 45 [spv a b, iv n] (.tup [spv (timesS a b n a) (timesS a b n b), .v (.bool (timesB a b n))]) := by
  obtain ⟨e1, e2, e3⟩ := times_eq n ha hb
  have e : AV.tup [spv (timesS a b n a) (timesS a b n b), .v (.bool (timesB a b n))] = .tup [.v (.complex .f64 (timesX (F a) (F b) n (prodX (F a) (F b) n).1) (timesX (F a) (F b) n (prodX (F a) (F b) n).2)), .v (.bool (timesXB (F a) (F b) n))] := by
    unfold spv
    rw [e1, e2, e3]
  rw [e]
  refine pure_hitX (cx := cxF2) cxF2_ok rfl (t := .side (decide (n < 1) = false → decide (n > 1048576) = false → IsF (F a) ∧ IsF (F b))
    (.side (badX (F a) (F b) n = false → (cMulBits (F a) (F b) (FloatKind.f64.nearest n) 0).isSome = true ∧ IsF (prodX (F a) (F b) n).1 ∧ IsF (prodX (F a) (F b) n).2)
      (.ret (.tup [.v (.complex .f64 (timesX (F a) (F b) n (prodX (F a) (F b) n).1) (timesX (F a) (F b) n (prodX (F a) (F b) n).2)), .v (.bool (timesXB (F a) (F b) n))])))) (by kernel_rfl) ⟨fun _ _ => ⟨isF a ha, isF b hb⟩, fun h => ?_, rfl⟩ (by kernel_rfl)
  obtain ⟨e, k1, k2⟩ := prod_eq (badX_false ha hb h)
  unfold prodX
  rw [e]
  exact ⟨rfl, isF _ k1, isF _ k2⟩
end
/-- The table of spans. -/
def tabS (f : Nat) (args : List AV) : Option (Tree AV) := match f, args with
  | 34, [a, b] => match intC a, intC b with
    | some p, some q => some (.ret (.tup [spv (partS p q p) (partS p q q), .v (.bool (okS p q))]))
    | _, _ => none
  | 36, [a] => match cplxC a with
    | some (x, y) => some (.side (IsF x ∧ IsF y) (.ret (.v (.bool (mayS (unF x) (unF y))))))
    | none => none
  | 38, [a] => match cplxC a with
    | some (x, y) => some (.side (IsF x ∧ IsF y) (.ret (iv (endS (unF x) (unF y) (unF x)))))
    | none => none
  | 39, [a] => match cplxC a with
    | some (x, y) => some (.side (IsF x ∧ IsF y) (.ret (iv (endS (unF x) (unF y) (unF y)))))
    | none => none
  | 41, [a, b] => match cplxC a, cplxC b with
    | some (x, y), some (z, w) => some (.side ((IsF x ∧ IsF y) ∧ IsF z ∧ IsF w) (.ret (.v (.bool (apartS (unF x) (unF y) (unF z) (unF w))))))
    | _, _ => none
  | 43, [a, b] => match cplxC a, cplxC b with
    | some (x, y), some (z, w) => some (.side ((IsF x ∧ IsF y) ∧ IsF z ∧ IsF w) (.ret (.v (.bool (touchS (unF x) (unF y) (unF z) (unF w))))))
    | _, _ => none
  | 44, [a, b] => match cplxC a, cplxC b with
    | some (x, y), some (z, w) => some (.side ((IsF x ∧ IsF y) ∧ IsF z ∧ IsF w) (.ret (iv (compS (unF x) (unF y) (unF z) (unF w)))))
    | _, _ => none
  | 45, [a, b] => match cplxC a, intC b with
    | some (x, y), some n => some (.side (IsF x ∧ IsF y) (.ret (.tup [spv (timesS (unF x) (unF y) n (unF x)) (timesS (unF x) (unF y) n (unF y)), .v (.bool (timesB (unF x) (unF y) n))])))
    | _, _ => none
  | _, _ => none
theorem tabS_ok : TabOk Try.prog tabS := by
  intro f args t a ht hh
  unfold tabS at ht
  split at ht
  · split at ht
    · rename_i h1 h2
      cases ht; cases hh
      refine (of_pure _ _).pre fun E vs h => ?_
      cases h with | cons q1 h => cases h with | cons q2 h => cases h with | nil =>
      exact .cons (intC_ok h1 q1) (.cons (intC_ok h2 q2) .nil)
    · cases ht
  · split at ht
    · rename_i x y h1
      cases ht
      obtain ⟨⟨⟨n, hn, rfl⟩, ⟨m, hm, rfl⟩⟩, hh⟩ := hh
      cases hh
      rw [unF_F hn, unF_F hm]
      refine (mayS_pure hn hm).pre fun E vs h => ?_
      cases h with | cons q1 h => cases h with | nil =>
      exact .cons (cplxC_ok h1 q1) .nil
    · cases ht
  · split at ht
    · rename_i x y h1
      cases ht
      obtain ⟨⟨⟨n, hn, rfl⟩, ⟨m, hm, rfl⟩⟩, hh⟩ := hh
      cases hh
      rw [unF_F hn, unF_F hm]
      refine (from_pure hn hm).pre fun E vs h => ?_
      cases h with | cons q1 h => cases h with | nil =>
      exact .cons (cplxC_ok h1 q1) .nil
    · cases ht
  · split at ht
    · rename_i x y h1
      cases ht
      obtain ⟨⟨⟨n, hn, rfl⟩, ⟨m, hm, rfl⟩⟩, hh⟩ := hh
      cases hh
      rw [unF_F hn, unF_F hm]
      refine (to_pure hn hm).pre fun E vs h => ?_
      cases h with | cons q1 h => cases h with | nil =>
      exact .cons (cplxC_ok h1 q1) .nil
    · cases ht
  · split at ht
    · rename_i x y z w h1 h2
      cases ht
      obtain ⟨⟨⟨⟨n, hn, rfl⟩, ⟨m, hm, rfl⟩⟩, ⟨n2, hn2, rfl⟩, ⟨m2, hm2, rfl⟩⟩, hh⟩ := hh
      cases hh
      rw [unF_F hn, unF_F hm, unF_F hn2, unF_F hm2]
      refine (apart_pure hn hm hn2 hm2).pre fun E vs h => ?_
      cases h with | cons q1 h => cases h with | cons q2 h => cases h with | nil =>
      exact .cons (cplxC_ok h1 q1) (.cons (cplxC_ok h2 q2) .nil)
    · cases ht
  · split at ht
    · rename_i x y z w h1 h2
      cases ht
      obtain ⟨⟨⟨⟨n, hn, rfl⟩, ⟨m, hm, rfl⟩⟩, ⟨n2, hn2, rfl⟩, ⟨m2, hm2, rfl⟩⟩, hh⟩ := hh
      cases hh
      rw [unF_F hn, unF_F hm, unF_F hn2, unF_F hm2]
      refine (touch_pure hn hm hn2 hm2).pre fun E vs h => ?_
      cases h with | cons q1 h => cases h with | cons q2 h => cases h with | nil =>
      exact .cons (cplxC_ok h1 q1) (.cons (cplxC_ok h2 q2) .nil)
    · cases ht
  · split at ht
    · rename_i x y z w h1 h2
      cases ht
      obtain ⟨⟨⟨⟨n, hn, rfl⟩, ⟨m, hm, rfl⟩⟩, ⟨n2, hn2, rfl⟩, ⟨m2, hm2, rfl⟩⟩, hh⟩ := hh
      cases hh
      rw [unF_F hn, unF_F hm, unF_F hn2, unF_F hm2]
      refine (comp_pure hn hm hn2 hm2).pre fun E vs h => ?_
      cases h with | cons q1 h => cases h with | cons q2 h => cases h with | nil =>
      exact .cons (cplxC_ok h1 q1) (.cons (cplxC_ok h2 q2) .nil)
    · cases ht
  · split at ht
    · rename_i x y n2 h1 h2
      cases ht
      obtain ⟨⟨⟨n, hn, rfl⟩, ⟨m, hm, rfl⟩⟩, hh⟩ := hh
      cases hh
      rw [unF_F hn, unF_F hm]
      refine (times_pure _ hn hm).pre fun E vs h => ?_
      cases h with | cons q1 h => cases h with | cons q2 h => cases h with | nil =>
      exact .cons (cplxC_ok h1 q1) (.cons (intC_ok h2 q2) .nil)
    · cases ht
  · cases ht
noncomputable def cxS (dec : Nat → Option Bool) : Cx := ⟨Try.prog, ctrOf tabS, dec⟩
theorem cxS_ok (dec : Nat → Option Bool) : CtrOk (cxS dec) := (ctrOf_ok tabS_ok).withDec dec
end Go.Proofs.Ytkmhabbpndcnkaa
