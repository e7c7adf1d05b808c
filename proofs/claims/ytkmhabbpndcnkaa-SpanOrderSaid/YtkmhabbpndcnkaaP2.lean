/-
  PART: contracts of View.Within, May, At, Flat.
-/
import Derived.Test.YtkmhabbpndcnkaaP1
namespace Go.Proofs.Ytkmhabbpndcnkaa
open Go.RowKit
theorem joinF_max (f g : Nat → Int) (i : Nat) : joinF f g i = max (f i) (g i) := by unfold joinF; split <;> omega
def eq4 (f g : Nat → Int) (o : Nat) : Bool := f o == g o && f (o + 1) == g (o + 1) && f (o + 2) == g (o + 2) && f (o + 3) == g (o + 3)
theorem within_pure0 (f g : Nat → Int) : PureOk Try.prog 15 [.agg (ivs 8 f), .agg (ivs 8 g)] (.v (.bool (eq4 (joinF f g) g 0 && eq4 (joinF f g) g 4))) :=
  pure_hit (t := .ret (.v (.bool (eq4 (joinF f g) g 0 && eq4 (joinF f g) g 4)))) (by kernel_rfl) rfl (by kernel_rfl)
def withinB (f g : Nat → Int) : Bool := (List.range 8).all fun i => decide (f i ≤ g i)
theorem within_eq (f g : Nat → Int) : (eq4 (joinF f g) g 0 && eq4 (joinF f g) g 4) = withinB f g := by
  rw [Bool.eq_iff_iff]
  unfold eq4 withinB
  simp only [Bool.and_eq_true, beq_iff_eq, decide_eq_true_eq, joinF_max, Nat.zero_add, Nat.reduceAdd, List.all_eq_true, List.mem_range]
  constructor
  · intro h i hi
    match i, hi with
    | 0, _ => omega
    | 1, _ => omega
    | 2, _ => omega
    | 3, _ => omega
    | 4, _ => omega
    | 5, _ => omega
    | 6, _ => omega
    | 7, _ => omega
  · intro h
    have h0 := h 0 (by omega)
    have h1 := h 1 (by omega)
    have h2 := h 2 (by omega)
    have h3 := h 3 (by omega)
    have h4 := h 4 (by omega)
    have h5 := h 5 (by omega)
    have h6 := h 6 (by omega)
    have h7 := h 7 (by omega)
    omega
theorem within_pure (f g : Nat → Int) : PureOk Try.prog 15 [.agg (ivs 8 f), .agg (ivs 8 g)] (.v (.bool (withinB f g))) := within_eq f g ▸ within_pure0 f g
def mayB (f : Nat → Int) : Bool := (List.range 4).all fun i => decide (0 ≤ f i ∧ f i ≤ f (i + 4))
def mayE (f : Nat → Int) : Bool := if (eq4 (joinF (fun _ => 0) f) f 0 && eq4 (joinF (fun _ => 0) f) f 4) = true then eq4 (fun i => if f (i + 4) > f i then f (i + 4) else f i) (fun i => f (i + 4)) 0 else false
theorem may_pure0 (f : Nat → Int) : PureOk Try.prog 16 [.agg (ivs 8 f)] (.v (.bool (mayE f))) :=
  pure_hit (t := .ret (.v (.bool (mayE f)))) (by kernel_rfl) rfl (by kernel_rfl)
theorem may_eq (f : Nat → Int) : mayE f = mayB f := by
  rw [Bool.eq_iff_iff]
  unfold mayE
  rw [within_eq]
  unfold withinB mayB eq4
  simp only [List.all_eq_true, List.mem_range, decide_eq_true_eq]
  constructor
  · intro h i hi
    split at h
    · rename_i h1
      simp only [Bool.and_eq_true, beq_iff_eq, Nat.zero_add, Nat.reduceAdd] at h
      have := h1 i (by omega)
      match i, hi with
      | 0, _ => simp only [Nat.zero_add]; omega
      | 1, _ => simp only [Nat.reduceAdd]; omega
      | 2, _ => simp only [Nat.reduceAdd]; omega
      | 3, _ => simp only [Nat.reduceAdd]; omega
    · cases h
  · intro h
    have h0 := h 0 (by omega)
    have h1 := h 1 (by omega)
    have h2 := h 2 (by omega)
    have h3 := h 3 (by omega)
    simp only [Nat.zero_add, Nat.reduceAdd] at h0 h1 h2 h3
    rw [if_pos]
    · simp only [Bool.and_eq_true, beq_iff_eq, Nat.zero_add, Nat.reduceAdd]; omega
    · intro i hi
      match i, hi with
      | 0, _ => omega
      | 1, _ => omega
      | 2, _ => omega
      | 3, _ => omega
      | 4, _ => omega
      | 5, _ => omega
      | 6, _ => omega
      | 7, _ => omega
theorem may_pure (f : Nat → Int) : PureOk Try.prog 16 [.agg (ivs 8 f)] (.v (.bool (mayB f))) := may_eq f ▸ may_pure0 f
/-- No such location or time. -/
def awayB (l t : Int) : Bool := if decide (l < 0) = true then true else if decide (l ≥ 4) = true then true else decide (t < 0)
def atE (l t : Int) (b : Bool) : Nat → Int := fun i => if awayB l t = true then 0 else if i < 4 then (if b = true then (if decide (l = ((i : Nat) : Int)) = true then t else 0) else 0) else if b = true then (if decide (l = ((i - 4 : Nat) : Int)) = true then t else 0) else if decide (l = ((i - 4 : Nat) : Int)) = true then t else 0
theorem at_pure0 (l t : Int) (b : Bool) : PureOk Try.prog 19 [iv l, iv t, .v (.bool b)] (.agg (ivs 8 (atE l t b))) :=
  pure_hit (t := .side (awayB l t = false → (0 ≤ l ∧ l < 4) ∧ (b = true → 0 ≤ l ∧ l < 4)) (.ret (.agg (ivs 8 (atE l t b))))) (by kernel_rfl)
    ⟨fun h => by
      unfold awayB at h
      have : 0 ≤ l ∧ l < 4 := by
        split at h
        · cases h
        · split at h
          · cases h
          · simp_all
      exact ⟨this, fun _ => this⟩, rfl⟩ (by kernel_rfl)
end Go.Proofs.Ytkmhabbpndcnkaa
