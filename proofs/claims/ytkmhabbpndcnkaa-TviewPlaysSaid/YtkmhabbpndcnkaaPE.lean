/-
  PART: contracts of the document's answers for a thread's views: Write, Fence.
-/
import Derived.Test.YtkmhabbpndcnkaaPD
namespace Go.Proofs.Ytkmhabbpndcnkaa
open Go.RowKit
section
variable (f m s : Nat → Int) (l t : Int)
/-! Write. -/
def badM (k md : Int) : Bool := if (md != 1) = true then (if (md != 2) = true then (if (md != 4) = true then true else decide (t ≤ k)) else decide (t ≤ k)) else decide (t ≤ k)
def badW (md : Int) : Bool := if decide (l < 0) = true then true else if decide (l > 3) = true then true else if decide (t < 0) = true then true else badM t (pick4 l f 4) md
theorem rwrite_bad (md : Int) (hl : thereB l t = true → 0 ≤ l ∧ l < 4) (h : badW f l t md = true) : PureOk Try.prog 29 [.agg (ivs 48 f), iv l, iv t, .v (.int .u8 md), .agg (ivs 8 m)] (.tup [.agg (ivs 48 f), .agg ((List.range 8).map fun _ => .lit (.int .i64 0)), .lit (.bool false)]) :=
  pure_hitR (dec := decL [(44, true)]) (t := .side (decide (l < 0) = false → decide (l > 3) = false → decide (t < 0) = false → ((md != 1) = true → ((md != 2) = true → (md != 4) = false → 0 ≤ l ∧ l < 4) ∧ ((md != 2) = false → 0 ≤ l ∧ l < 4)) ∧ ((md != 1) = false → 0 ≤ l ∧ l < 4))
      (.side (badW f l t md = true) (.ret (.tup [.agg (ivs 48 f), .agg ((List.range 8).map fun _ => .lit (.int .i64 0)), .lit (.bool false)])))) (by kernel_rfl)
    ⟨fun a b c => by
      have a := of_decide_eq_false a
      have b := of_decide_eq_false b
      have c := of_decide_eq_false c
      have := hl ((thereB_iff l t).2 ⟨by omega, by omega, by omega⟩)
      exact ⟨fun _ => ⟨fun _ _ => this, fun _ => this⟩, fun _ => this⟩, h, rfl⟩ (by kernel_rfl)
def badL (l : Nat) : Bool := if decide (t < 0) = true then true else decide (t ≤ f (4 + l))
def sentL (l md : Nat) (i : Nat) : Int := if md = 4 then joinF (joinF (relW f l t (16 + 8 * l)) (relW f l t 0)) m i else joinF (relW f l t (16 + 8 * l)) m i
def sentT (l md : Nat) : AV := if md = 1 then .agg ((List.range 8).map fun _ => .lit (.int .i64 0)) else .agg (ivs 8 (sentL f m t l md))
def goodW (l md : Nat) : Tree AV := .side (badL f t l = false) (.side (Pos f l t 0) (.side (Pos f l t 8) (.side (Pos f l t (16 + 8 * l)) (.ret (.tup [.agg (ivs 48 (writeX f l t md)), sentT f m t l md, .lit (.bool true)])))))
theorem rwrite_good (l md : Nat) (hl : l < 4) (hm : md = 1 ∨ md = 2 ∨ md = 4) (h : badL f t l = false) (h0 : Pos f l t 0) (h8 : Pos f l t 8) (hr : Pos f l t (16 + 8 * l)) :
    PureOk Try.prog 29 [.agg (ivs 48 f), .lit (.int .i64 l), iv t, .lit (.int .u8 md), .agg (ivs 8 m)] (.tup [.agg (ivs 48 (writeX f l t md)), sentT f m t l md, .lit (.bool true)]) := by
  have hit : (goodW f m t l md).hit (.tup [.agg (ivs 48 (writeX f l t md)), sentT f m t l md, .lit (.bool true)]) := ⟨h, h0, h8, hr, rfl⟩
  obtain rfl | rfl | rfl | rfl : l = 0 ∨ l = 1 ∨ l = 2 ∨ l = 3 := by omega
  · rcases hm with rfl | rfl | rfl
    · exact pure_hitR (dec := decL [(44, false)]) (t := goodW f m t 0 1) (by kernel_rfl) hit (by kernel_rfl)
    · exact pure_hitR (dec := decL [(44, false)]) (t := goodW f m t 0 2) (by kernel_rfl) hit (by kernel_rfl)
    · exact pure_hitR (dec := decL [(44, false)]) (t := goodW f m t 0 4) (by kernel_rfl) hit (by kernel_rfl)
  · rcases hm with rfl | rfl | rfl
    · exact pure_hitR (dec := decL [(44, false)]) (t := goodW f m t 1 1) (by kernel_rfl) hit (by kernel_rfl)
    · exact pure_hitR (dec := decL [(44, false)]) (t := goodW f m t 1 2) (by kernel_rfl) hit (by kernel_rfl)
    · exact pure_hitR (dec := decL [(44, false)]) (t := goodW f m t 1 4) (by kernel_rfl) hit (by kernel_rfl)
  · rcases hm with rfl | rfl | rfl
    · exact pure_hitR (dec := decL [(44, false)]) (t := goodW f m t 2 1) (by kernel_rfl) hit (by kernel_rfl)
    · exact pure_hitR (dec := decL [(44, false)]) (t := goodW f m t 2 2) (by kernel_rfl) hit (by kernel_rfl)
    · exact pure_hitR (dec := decL [(44, false)]) (t := goodW f m t 2 4) (by kernel_rfl) hit (by kernel_rfl)
  · rcases hm with rfl | rfl | rfl
    · exact pure_hitR (dec := decL [(44, false)]) (t := goodW f m t 3 1) (by kernel_rfl) hit (by kernel_rfl)
    · exact pure_hitR (dec := decL [(44, false)]) (t := goodW f m t 3 2) (by kernel_rfl) hit (by kernel_rfl)
    · exact pure_hitR (dec := decL [(44, false)]) (t := goodW f m t 3 4) (by kernel_rfl) hit (by kernel_rfl)
theorem badW_eq (md : Int) : badW f l t md = !writeGB f l t md := by
  unfold badW writeGB noWrite badM
  cases h : thereB l t with
  | true =>
    obtain ⟨h1, h2, h3⟩ := (thereB_iff l t).1 h
    have a3 : decide (t ≥ 0) = true := by simp; omega
    rw [if_neg (by simp; omega), if_neg (by simp; omega), if_neg (by simp; omega), a3]
    simp
  | false =>
    have : ¬ (0 ≤ l ∧ l < 4 ∧ 0 ≤ t) := fun q => by rw [(thereB_iff l t).2 q] at h; cases h
    simp only [Bool.false_eq_true, if_false, Bool.not_false]
    by_cases a : l < 0
    · simp [a]
    · by_cases b : l > 3
      · simp [b]
      · have c : t < 0 := by omega
        simp [c]
theorem genR {E : Env} (d : Nat) {a : AV} {v : Value} (h : Rep E a v) : Rep E (genA d a) v := genA_ok d a v h
theorem rwrite_pure (md : Int) (hf : ∀ j, j < 48 → 0 ≤ f j) : PureOk Try.prog 29 [.agg (ivs 48 f), iv l, iv t, .v (.int .u8 md), .agg (ivs 8 m)] (writeGA f m l t md) := by
  cases h : writeGB f l t md with
  | false =>
    have e : writeGA f m l t md = .tup [.agg (ivs 48 f), .agg (ivs 8 fun _ => 0), .v (.bool false)] := by
      unfold writeGA
      rw [(write_no (m := m) h).1, (write_no (m := m) h).2, h]
    rw [e]
    exact (rwrite_bad f m l t md (fun q => ⟨((thereB_iff l t).1 q).1, ((thereB_iff l t).1 q).2.1⟩) (by rw [badW_eq, h]; rfl)).imp fun v hv E => genA_ok 3 _ v (hv E)
  | true =>
    obtain ⟨h1, h2⟩ := writeGB_iff.1 h
    obtain ⟨k0, k1, k2⟩ := (thereB_iff l t).1 h1
    obtain ⟨n, rfl⟩ : ∃ n : Nat, l = n := ⟨l.toNat, by omega⟩
    have hn : n < 4 := by omega
    rw [pick4_nat hn] at h2
    have hmd : md = 1 ∨ md = 2 ∨ md = 4 := by
      unfold noWrite at h2
      by_cases a : md = 1
      · exact .inl a
      · by_cases b : md = 2
        · exact .inr (.inl b)
        · by_cases c : md = 4
          · exact .inr (.inr c)
          · simp [a, b, c] at h2
    obtain ⟨k, rfl, hk⟩ : ∃ k : Nat, md = (k : Int) ∧ (k = 1 ∨ k = 2 ∨ k = 4) := by
      rcases hmd with rfl | rfl | rfl
      · exact ⟨1, rfl, .inl rfl⟩
      · exact ⟨2, rfl, .inr (.inl rfl)⟩
      · exact ⟨4, rfl, .inr (.inr rfl)⟩
    have hlt : ¬ t ≤ f (4 + n) := by
      unfold noWrite at h2
      have a3 : decide (t ≥ 0) = true := by simp; omega
      rw [a3] at h2
      rcases hk with rfl | rfl | rfl <;> simpa using h2
    have e : writeGA f m n t k = .tup [.agg (ivs 48 (writeX f n t k)), .agg (ivs 8 (sentG f m n t k)), .v (.bool true)] := by
      unfold writeGA
      rw [(write_yes (m := m) h).1, (write_yes (m := m) h).2, h]
    rw [e]
    have hrel : relP f n = part f (16 + 8 * n) := by
      funext j
      obtain rfl | rfl | rfl | rfl : n = 0 ∨ n = 1 ∨ n = 2 ∨ n = 3 := by omega
      all_goals simp [relP, part]
    have pre : ∀ E vs, Reps E [.agg (ivs 48 f), iv n, iv t, .v (.int .u8 k), .agg (ivs 8 m)] vs → Reps E [.agg (ivs 48 f), .lit (.int .i64 n), iv t, .lit (.int .u8 k), .agg (ivs 8 m)] vs := fun E vs h => by
      cases h with | cons q1 h => cases h with | cons q2 h => cases h with | cons q3 h => cases h with | cons q4 h =>
      exact .cons q1 (.cons (rep_lit q2) (.cons q3 (.cons (rep_lit q4) h)))
    refine ((rwrite_good f m t n k hn hk (by unfold badL; rw [if_neg (by simp; omega)]; simpa using hlt) (pos_of (by omega) (by omega) k2 (by omega) hf) (pos_of (by omega) (by omega) k2 (by omega) hf) (pos_of (by omega) (by omega) k2 (by omega) hf)).pre pre).imp fun v hv E => ?_
    have h3 := genA_ok 3 _ v (hv E)
    have e2 : genA 3 (.tup [.agg (ivs 48 (writeX f n t k)), sentT f m t n k, .lit (.bool true)]) = .tup [.agg (ivs 48 (writeX f n t k)), .agg (ivs 8 (sentG f m n t k)), .v (.bool true)] := by
      rcases hk with rfl | rfl | rfl
      · rfl
      · have : sentG f m n t (2 : Nat) = sentL f m t n 2 := by
          funext i
          unfold sentG sentL
          simp only [show (((2 : Nat) : Int) == 4) = false by decide, show (((2 : Nat) : Int) == 1) = false by decide, Bool.false_eq_true, if_false, show ¬ (2 : Nat) = 4 by decide, hrel, relW]
        rw [this]
        rfl
      · have : sentG f m n t (4 : Nat) = sentL f m t n 4 := by
          funext i
          unfold sentG sentL
          simp only [show (((4 : Nat) : Int) == 4) = true by decide, show (((4 : Nat) : Int) == 1) = false by decide, Bool.false_eq_true, if_false, if_true, hrel, relW]
        rw [this]
        rfl
    rw [e2] at h3
    exact h3
/-! Fence. -/
def gC (md : Nat) : Nat → Int := if md = 4 then part f 0 else joinF (part f 0) (part f 8)
def gS (md : Nat) (k : Nat) : Int := if decide (gC f md (4 + k) > s k) = true then gC f md (4 + k) else s k
def gF (md : Nat) (i : Nat) : Int :=
  if i < 8 then (if md = 6 then joinF (gC f md) (fun j => gS f s md (j % 4)) i else gC f md i)
  else if i < 16 then (if md = 6 then joinF (part f 8) (fun j => gS f s md (j % 4)) (i - 8) else f i)
  else if md = 3 then f i else if md = 6 then joinF (joinF (part f (i / 8 * 8)) (gC f md)) (fun j => gS f s md (j % 4)) (i % 8) else joinF (part f (i / 8 * 8)) (gC f md) (i % 8)
def gT (md : Nat) (k : Nat) : Int := if md = 6 then gS f s md k else s k
theorem rfence_good (md : Nat) (hm : 3 ≤ md ∧ md ≤ 6) : PureOk Try.prog 28 [.agg (ivs 48 f), .lit (.int .u8 md), .agg (ivs 4 s)] (.tup [.agg (ivs 48 (gF f s md)), .agg (ivs 4 (gT f s md)), .lit (.bool true)]) := by
  obtain rfl | rfl | rfl | rfl : md = 3 ∨ md = 4 ∨ md = 5 ∨ md = 6 := by omega
  · exact pure_hitR (dec := decL []) (t := .ret (.tup [.agg (ivs 48 (gF f s 3)), .agg (ivs 4 (gT f s 3)), .lit (.bool true)])) (by kernel_rfl) rfl (by kernel_rfl)
  · exact pure_hitR (dec := decL []) (t := .ret (.tup [.agg (ivs 48 (gF f s 4)), .agg (ivs 4 (gT f s 4)), .lit (.bool true)])) (by kernel_rfl) rfl (by kernel_rfl)
  · exact pure_hitR (dec := decL []) (t := .ret (.tup [.agg (ivs 48 (gF f s 5)), .agg (ivs 4 (gT f s 5)), .lit (.bool true)])) (by kernel_rfl) rfl (by kernel_rfl)
  · exact pure_hitR (dec := decL []) (t := .ret (.tup [.agg (ivs 48 (gF f s 6)), .agg (ivs 4 (gT f s 6)), .lit (.bool true)])) (by kernel_rfl) rfl (by kernel_rfl)
theorem rfence_bad (md : Int) (h : noFence md = true) : PureOk Try.prog 28 [.agg (ivs 48 f), .v (.int .u8 md), .agg (ivs 4 s)] (.tup [.agg (ivs 48 f), .agg (ivs 4 s), .lit (.bool false)]) :=
  pure_hitR (dec := decL [(18, true)]) (t := .side (noFence md = true) (.ret (.tup [.agg (ivs 48 f), .agg (ivs 4 s), .lit (.bool false)]))) (by kernel_rfl) ⟨h, rfl⟩ (by kernel_rfl)
theorem gC_eq (md j : Nat) : gC f md j = cF f md j := by
  unfold gC cF
  by_cases h : md = 4
  · subst h; simp [part]
  · have : ¬ ((md : Int) = 4) := by omega
    simp [h, this, joinF_max, part]
theorem gS_eq (md k : Nat) : gS f s md k = aF f s md k := by
  unfold gS aF
  rw [gC_eq]
  simp only [decide_eq_true_eq]
  split <;> omega
theorem gF_eq (md : Nat) (h : noFence md = false) (i : Nat) (hi : i < 48) : gF f s md i = fenceE f s md i := by
  have c6 : ((md : Int) = 6) = (md = 6) := by simp; omega
  have c3 : ((md : Int) = 3) = (md = 3) := by simp; omega
  unfold gF
  by_cases h1 : i < 8
  · rw [if_pos h1, fence_cur h h1]
    simp only [joinF_max, gC_eq, gS_eq, c6]
  · by_cases h2 : i < 16
    · obtain ⟨j, rfl⟩ : ∃ j, i = 8 + j := ⟨i - 8, by omega⟩
      rw [if_neg h1, if_pos h2, fence_acq h (by omega)]
      simp only [joinF_max, gS_eq, part, Nat.add_sub_cancel_left, c6]
    · obtain ⟨r, j, rfl, hr, hj⟩ : ∃ r j, i = 16 + 8 * r + j ∧ r < 4 ∧ j < 8 := ⟨(i - 16) / 8, (i - 16) % 8, by omega, by omega, by omega⟩
      rw [if_neg h1, if_neg h2, fence_rel h hr hj, show (16 + 8 * r + j) / 8 * 8 = 16 + 8 * r by omega, show (16 + 8 * r + j) % 8 = j by omega]
      simp only [joinF_max, gC_eq, gS_eq, part, c6, c3]
      by_cases h6 : md = 6
      · subst h6; simp
      · simp [h6]
theorem gT_eq (md : Nat) (h : noFence md = false) (k : Nat) (hk : k < 4) : gT f s md k = fenceS f s md k := by
  rw [fence_s h hk]
  have c6 : ((md : Int) = 6) = (md = 6) := by simp; omega
  unfold gT
  simp only [gS_eq, c6]
theorem rfence_pure (md : Int) : PureOk Try.prog 28 [.agg (ivs 48 f), .v (.int .u8 md), .agg (ivs 4 s)] (fenceA f s md) := by
  cases h : noFence md with
  | true =>
    have e : fenceA f s md = .tup [.agg (ivs 48 f), .agg (ivs 4 s), .v (.bool false)] := by
      unfold fenceA
      rw [(fence_no (f := f) (s := s) h).1, (fence_no (f := f) (s := s) h).2, h]; rfl
    rw [e]
    exact (rfence_bad f s md h).imp fun v hv E => genA_ok 3 _ v (hv E)
  | false =>
    have hmd : 3 ≤ md ∧ md ≤ 6 := by
      unfold noFence at h
      by_cases h3 : md < 3
      · simp [h3] at h
      · simp [h3] at h; omega
    obtain ⟨n, rfl⟩ : ∃ n : Nat, md = n := ⟨md.toNat, by omega⟩
    have e : fenceA f s n = .tup [.agg (ivs 48 (gF f s n)), .agg (ivs 4 (gT f s n)), .v (.bool true)] := by
      unfold fenceA
      rw [← ivs_congr (gF_eq f s n h), ← ivs_congr (gT_eq f s n h), h]; rfl
    rw [e]
    refine ((rfence_good f s n (by omega)).pre fun E vs h => ?_).imp fun v hv E => genA_ok 3 _ v (hv E)
    cases h with | cons q1 h => cases h with | cons q2 h =>
    exact .cons q1 (.cons (rep_lit q2) h)
end
end Go.Proofs.Ytkmhabbpndcnkaa
