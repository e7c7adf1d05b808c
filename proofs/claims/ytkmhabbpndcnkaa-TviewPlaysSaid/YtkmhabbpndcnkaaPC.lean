/-
  PART: contracts of the document's views: Join, knows.
-/
import Derived.Test.YtkmhabbpndcnkaaP9
namespace Go.Proofs.Ytkmhabbpndcnkaa
open Go.RowKit
theorem ivs_congr {n : Nat} {f g : Nat → Int} (h : ∀ i, i < n → f i = g i) : ivs n f = ivs n g := by
  unfold ivs
  exact List.map_congr_left fun i hi => by rw [h i (List.mem_range.1 hi)]
def joinD (f g : Nat → Int) (i : Nat) : Int := if decide (g i > f i) = true then g i else f i
theorem joinD_eq (f g : Nat → Int) : joinD f g = joinF f g := funext fun i => by unfold joinD joinF; simp
theorem rjoin_pure (f g : Nat → Int) : PureOk Try.prog 81 [.agg (ivs 8 f), .agg (ivs 8 g)] (.agg (ivs 8 (joinF f g))) := by
  rw [← joinD_eq]
  exact pure_hit (t := .ret (.agg (ivs 8 (joinD f g)))) (by kernel_rfl) rfl (by kernel_rfl)
def knowsS (f : Nat → Int) (l : Nat) (t : Int) (b : Bool) (j : Nat) : Int := if j = l + 4 then (if decide (t > f j) = true then t else f j) else if j = l then (if (if b = true then decide (t > f j) else false) = true then t else f j) else f j
theorem knowsS_eq (f : Nat → Int) (l : Nat) (hl : l < 4) (t : Int) (b : Bool) (ht : 0 ≤ t) (hf : ∀ j, j < 8 → 0 ≤ f j) (i : Nat) (hi : i < 8) : knowsS f l t b i = joinF f (atE l t b) i := by
  have ha : awayB (l : Int) t = false := by
    have a1 : ¬ ((l : Int) < 0) := by omega
    have a2 : ¬ ((l : Int) ≥ 4) := by omega
    have a3 : ¬ (t < 0) := by omega
    simp only [awayB, a1, a2, a3, decide_false, Bool.false_eq_true, if_false]
  have h0 := hf i hi
  rw [joinF_max]
  unfold knowsS atE
  simp only [ha, ite_and]
  by_cases h1 : i = l + 4
  · subst h1
    have : ¬ (l + 4 < 4) := by omega
    simp
    repeat' split
    all_goals omega
  · by_cases h2 : i = l
    · subst h2
      simp [hl]
      cases b <;> simp
      · omega
      · repeat' split
        all_goals omega
    · have h3 : ¬ ((l : Int) = (i : Int)) := by omega
      by_cases h4 : i < 4
      · simp [h1, h2, h3, h4]; omega
      · have h5 : ¬ ((l : Int) = ((i - 4 : Nat) : Int)) := by omega
        simp only [h1, h2, h4, h5, if_false, decide_false, Bool.false_eq_true, ite_self]
        omega
theorem knows_lit (f : Nat → Int) (l : Nat) (hl : l < 4) (t : Int) (b : Bool) : PureOk Try.prog 82 [.agg (ivs 8 f), .lit (.int .i64 l), iv t, .v (.bool b)] (.agg (ivs 8 (knowsS f l t b))) := by
  match l, hl with
  | 0, _ => exact pure_hit (t := .ret (.agg (ivs 8 (knowsS f 0 t b)))) (by kernel_rfl) rfl (by kernel_rfl)
  | 1, _ => exact pure_hit (t := .ret (.agg (ivs 8 (knowsS f 1 t b)))) (by kernel_rfl) rfl (by kernel_rfl)
  | 2, _ => exact pure_hit (t := .ret (.agg (ivs 8 (knowsS f 2 t b)))) (by kernel_rfl) rfl (by kernel_rfl)
  | 3, _ => exact pure_hit (t := .ret (.agg (ivs 8 (knowsS f 3 t b)))) (by kernel_rfl) rfl (by kernel_rfl)
theorem knows_pure (f : Nat → Int) (l t : Int) (b : Bool) (h0 : 0 ≤ l) (h1 : l < 4) (ht : 0 ≤ t) (hf : ∀ j, j < 8 → 0 ≤ f j) : PureOk Try.prog 82 [.agg (ivs 8 f), iv l, iv t, .v (.bool b)] (.agg (ivs 8 (joinF f (atE l t b)))) := by
  obtain ⟨k, rfl⟩ : ∃ k : Nat, l = k := ⟨l.toNat, by omega⟩
  rw [← ivs_congr (knowsS_eq f k (by omega) t b ht hf)]
  refine (knows_lit f k (by omega) t b).pre fun E vs h => ?_
  cases h with | cons h t => cases t with | cons h2 t =>
  cases h2
  exact .cons h (.cons (.lit _ rfl) t)
/-- The table of the document's views; times are owed not to be below 0. -/
def tabR (f : Nat) (args : List AV) : Option (Tree AV) := match f, args with
  | 81, [a, b] => match viewC a, viewC b with
    | some x, some y => some (.ret (.agg (ivs 8 (joinF x y))))
    | _, _ => none
  | 82, [a, b, c, d] => match viewC a, intC b, intC c, boolC d with
    | some x, some l, some t, some p => some (.side ((0 ≤ l ∧ l < 4) ∧ 0 ≤ t ∧ ∀ j, j < 8 → 0 ≤ x j) (.ret (.agg (ivs 8 (joinF x (atE l t p))))))
    | _, _, _, _ => none
  | _, _ => none
theorem tabR_ok : TabOk Try.prog tabR := by
  intro f args t a ht hh
  unfold tabR at ht
  split at ht
  · split at ht
    · rename_i h1 h2
      cases ht; cases hh
      refine (rjoin_pure _ _).pre fun E vs h => ?_
      cases h with | cons q1 h => cases h with | cons q2 h => cases h with | nil =>
      exact .cons (viewC_ok h1 q1) (.cons (viewC_ok h2 q2) .nil)
    · cases ht
  · split at ht
    · rename_i h1 h2 h3 h4
      cases ht
      obtain ⟨⟨⟨a1, a2⟩, a3, a4⟩, hh⟩ := hh
      cases hh
      refine (knows_pure _ _ _ _ a1 a2 a3 a4).pre fun E vs h => ?_
      cases h with | cons q1 h => cases h with | cons q2 h => cases h with | cons q3 h => cases h with | cons q4 h => cases h with | nil =>
      exact .cons (viewC_ok h1 q1) (.cons (intC_ok h2 q2) (.cons (intC_ok h3 q3) (.cons (boolC_ok h4 q4) .nil)))
    · cases ht
  · cases ht
noncomputable def cxR (dec : Nat → Option Bool) : Cx := ⟨Try.prog, ctrOf tabR, dec⟩
theorem cxR_ok (dec : Nat → Option Bool) : CtrOk (cxR dec) := (ctrOf_ok tabR_ok).withDec dec
def decL : List (Nat × Bool) → Nat → Option Bool
  | [], _ => none
  | (t, b) :: l, d => match Nat.beq t d with
    | true => some b
    | false => decL l d
end Go.Proofs.Ytkmhabbpndcnkaa
