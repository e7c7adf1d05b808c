/-
  PART: law 13 (TviewGrows): the plain law of a round.
-/
import Derived.Test.YtkmhabbpndcnkaaP8
namespace Go.Proofs.Ytkmhabbpndcnkaa
open Go.RowKit
theorem ite_and (a b : Bool) : (if a = true then b else false) = (a && b) := by cases a <;> rfl
theorem mayB_iff (f : Nat → Int) : mayB f = true ↔ ∀ k, k < 4 → 0 ≤ f k ∧ f k ≤ f (k + 4) := by simp [mayB]
theorem withinB_iff (f g : Nat → Int) : withinB f g = true ↔ ∀ k, k < 8 → f k ≤ g k := by simp [withinB]
structure MayV (f : Nat → Int) : Prop where
  cur : ∀ k, k < 4 → 0 ≤ f k ∧ f k ≤ f (k + 4)
  acq : ∀ k, k < 4 → 0 ≤ f (8 + k) ∧ f (8 + k) ≤ f (8 + (k + 4))
  le : ∀ k, k < 8 → f k ≤ f (8 + k)
  rel : ∀ r, r < 4 → (∀ k, k < 4 → 0 ≤ f (16 + 8 * r + k) ∧ f (16 + 8 * r + k) ≤ f (16 + 8 * r + (k + 4))) ∧ ∀ k, k < 8 → f (16 + 8 * r + k) ≤ f k
theorem mayVE_iff (f : Nat → Int) : mayVE f = true ↔ MayV f := by
  unfold mayVE
  simp only [ite_and]
  simp only [Bool.and_eq_true, mayB_iff, withinB_iff, part, Nat.zero_add]
  constructor
  · rintro ⟨⟨⟨⟨⟨a, b, c⟩, d0⟩, d1⟩, d2⟩, d3⟩
    refine ⟨a, b, c, fun r hr => ?_⟩
    match r, hr with
    | 0, _ => exact d0
    | 1, _ => exact d1
    | 2, _ => exact d2
    | 3, _ => exact d3
  · rintro ⟨a, b, c, d⟩
    exact ⟨⟨⟨⟨⟨a, b, c⟩, d 0 (by omega)⟩, d 1 (by omega)⟩, d 2 (by omega)⟩, d 3 (by omega)⟩
theorem at_away {l t : Int} {b : Bool} {j : Nat} (h : awayB l t = true) : atE l t b j = 0 := by simp [atE, h]
theorem at_pos {l t : Int} {b : Bool} {j : Nat} (h : 0 ≤ t) : 0 ≤ atE l t b j := by
  unfold atE
  repeat' split
  all_goals omega
theorem at_may {l t : Int} {b : Bool} {k : Nat} (h : 0 ≤ t) (hk : k < 4) : atE l t b k ≤ atE l t b (k + 4) := by
  unfold atE
  rw [if_pos hk, if_neg (show ¬ k + 4 < 4 by omega), Nat.add_sub_cancel]
  repeat' split
  all_goals omega
theorem at_here {l t : Int} {k : Nat} (hl : l = (k : Int)) (hk : k < 4) (ht : 0 ≤ t) : atE l t true k = t := by
  unfold atE
  rw [if_pos hk]
  have : awayB l t = false := by unfold awayB; rw [if_neg (by simp; omega), if_neg (by simp; omega)]; simp; omega
  subst hl
  simp [this]
theorem thereB_iff (l t : Int) : thereB l t = true ↔ 0 ≤ l ∧ l < 4 ∧ 0 ≤ t := by
  unfold thereB
  by_cases h1 : l ≥ 0 <;> by_cases h2 : l < 4 <;> simp_all
section
variable {f m s : Nat → Int} {l t md : Int}
/-! Read. -/
theorem readB_iff : readB f l t md = true ↔ noRead l t md = false ∧ knownE f l md ≤ t := by
  unfold readB
  cases noRead l t md <;> simp
theorem noRead_iff : noRead l t md = false ↔ thereB l t = true ∧ 1 ≤ md ∧ md ≤ 3 := by
  unfold noRead
  cases thereB l t
  · simp
  · by_cases h : md < 1
    · simp only [h]; simp; omega
    · simp only [h]; simp; omega
theorem read_no (h : readB f l t md = false) : readE f m l t md = f := by
  funext i
  unfold readB at h
  unfold readE
  by_cases h1 : noRead l t md = true
  · simp [h1]
  · simp only [h1] at h ⊢
    simp at h
    simp [h]
theorem read_yes (h : readB f l t md = true) (i : Nat) : readE f m l t md i = readX f m l t md i := by
  obtain ⟨h1, h2⟩ := readB_iff.1 h
  unfold readE
  rw [h1]
  simp
  omega
theorem readX_cur {j : Nat} (hj : j < 8) : readX f m l t md j = if md = 3 then max (max (f j) (atE l t (md != 1) j)) (m j) else max (f j) (atE l t (md != 1) j) := by
  unfold readX
  rw [if_pos hj]
  simp only [joinF_max, beq_iff_eq]
theorem readX_acq {j : Nat} (hj : j < 8) : readX f m l t md (8 + j) = if md = 1 then max (f (8 + j)) (atE l t (md != 1) j) else max (max (f (8 + j)) (atE l t (md != 1) j)) (m j) := by
  unfold readX
  rw [if_neg (by omega), if_pos (by omega), Nat.add_sub_cancel_left]
  simp only [joinF_max, Nat.add_comm j 8]
  by_cases h : md = 1 <;> simp [h]
theorem readX_rel {j : Nat} (hj : 16 ≤ j) : readX f m l t md j = f j := by
  unfold readX
  rw [if_neg (by omega), if_neg (by omega)]
theorem read_le (i : Nat) (hi : i < 48) : f i ≤ readE f m l t md i := by
  cases h : readB f l t md with
  | false => rw [read_no h]; omega
  | true =>
    rw [read_yes h]
    by_cases h1 : i < 8
    · rw [readX_cur h1]; split <;> omega
    · by_cases h2 : i < 16
      · obtain ⟨j, rfl⟩ : ∃ j, i = 8 + j := ⟨i - 8, by omega⟩
        rw [readX_acq (by omega)]; split <;> omega
      · rw [readX_rel (by omega)]; omega
theorem read_may (hf : MayV f) (hm : mayB m = true) : MayV (readE f m l t md) := by
  cases h : readB f l t md with
  | false => rw [read_no h]; exact hf
  | true =>
    rw [mayB_iff] at hm
    have ht : 0 ≤ t := ((thereB_iff l t).1 (noRead_iff.1 (readB_iff.1 h).1).1).2.2
    have e : readE f m l t md = readX f m l t md := funext (read_yes h)
    rw [e]
    refine ⟨fun k hk => ?_, fun k hk => ?_, fun k hk => ?_, fun r hr => ⟨fun k hk => ?_, fun k hk => ?_⟩⟩
    · rw [readX_cur (by omega), readX_cur (by omega)]
      have := hf.cur k hk
      have := hm k hk
      have := at_may (l := l) (b := md != 1) ht hk
      split <;> omega
    · rw [readX_acq (by omega), readX_acq (by omega)]
      have := hf.acq k hk
      have := hm k hk
      have := at_may (l := l) (b := md != 1) ht hk
      split <;> omega
    · rw [readX_cur (by omega), readX_acq (by omega)]
      have := hf.le k hk
      split <;> split <;> omega
    · rw [readX_rel (by omega), readX_rel (by omega)]
      exact (hf.rel r hr).1 k hk
    · rw [readX_rel (by omega), readX_cur (by omega)]
      have := (hf.rel r hr).2 k hk
      split <;> omega
/-! Write. -/
theorem writeGB_iff : writeGB f l t md = true ↔ thereB l t = true ∧ noWrite t md (pick4 l f 4) = false := by
  unfold writeGB
  cases thereB l t <;> simp
theorem write_no (h : writeGB f l t md = false) : writeGE f l t md = f ∧ sentGE f m l t md = fun _ => 0 := by
  unfold writeGB at h
  constructor
  · funext i
    unfold writeGE
    cases h1 : thereB l t <;> simp_all
  · funext i
    unfold sentGE
    cases h1 : thereB l t <;> simp_all
theorem write_yes (h : writeGB f l t md = true) : writeGE f l t md = writeX f l t md ∧ sentGE f m l t md = sentG f m l t md := by
  obtain ⟨h1, h2⟩ := writeGB_iff.1 h
  constructor
  · funext i; simp [writeGE, h1, h2]
  · funext i; simp [sentGE, h1, h2]
theorem writeX_two {o j : Nat} (ho : o = 0 ∨ o = 8) (hj : j < 8) : writeX f l t md (o + j) = max (f (o + j)) (atE l t true j) := by
  unfold writeX
  rw [if_pos (by omega), show (o + j) / 8 * 8 = o by omega, show (o + j) % 8 = j by omega]
  simp only [ite_self, relW, joinF_max, part]
theorem writeX_rel {r j : Nat} (hr : r < 4) (hj : j < 8) : writeX f l t md (16 + 8 * r + j) = if l = (r : Int) then (if md = 4 then max (max (f (16 + 8 * r + j)) (atE l t true j)) (max (f j) (atE l t true j)) else max (f (16 + 8 * r + j)) (atE l t true j)) else f (16 + 8 * r + j) := by
  unfold writeX
  rw [if_neg (by omega), show (16 + 8 * r + j) / 8 * 8 = 16 + 8 * r by omega, show (16 + 8 * r + j) % 8 = j by omega, show (16 + 8 * r + j - 16) / 8 = r by omega]
  simp only [ite_self, relW, joinF_max, part, Nat.zero_add, beq_iff_eq, decide_eq_true_eq]
theorem writeX_le (i : Nat) (hi : i < 48) : f i ≤ writeX f l t md i := by
  by_cases h1 : i < 8
  · have := writeX_two (f := f) (l := l) (t := t) (md := md) (.inl rfl) h1
    rw [Nat.zero_add] at this
    rw [this]; omega
  · by_cases h2 : i < 16
    · obtain ⟨j, rfl⟩ : ∃ j, i = 8 + j := ⟨i - 8, by omega⟩
      rw [writeX_two (.inr rfl) (by omega)]; omega
    · obtain ⟨r, j, rfl, hr, hj⟩ : ∃ r j, i = 16 + 8 * r + j ∧ r < 4 ∧ j < 8 := ⟨(i - 16) / 8, (i - 16) % 8, by omega, by omega, by omega⟩
      rw [writeX_rel hr hj]; split <;> (try split) <;> omega
theorem write_le (i : Nat) (hi : i < 48) : f i ≤ writeGE f l t md i := by
  cases h : writeGB f l t md with
  | false => rw [(write_no (m := f) h).1]; omega
  | true => rw [(write_yes (m := f) h).1]; exact writeX_le i hi
theorem write_may (hf : MayV f) : MayV (writeGE f l t md) := by
  cases h : writeGB f l t md with
  | false => rw [(write_no (m := f) h).1]; exact hf
  | true =>
    have ht : 0 ≤ t := ((thereB_iff l t).1 (writeGB_iff.1 h).1).2.2
    rw [(write_yes (m := f) h).1]
    have cu : ∀ j, j < 8 → writeX f l t md j = max (f j) (atE l t true j) := fun j hj => by
      have := writeX_two (f := f) (l := l) (t := t) (md := md) (.inl rfl) hj
      rwa [Nat.zero_add] at this
    have p : ∀ j, 0 ≤ atE l t true j := fun j => at_pos ht
    refine ⟨fun k hk => ?_, fun k hk => ?_, fun k hk => ?_, fun r hr => ⟨fun k hk => ?_, fun k hk => ?_⟩⟩
    · rw [cu k (by omega), cu (k + 4) (by omega)]
      have := hf.cur k hk
      have := at_may (l := l) (b := true) ht hk
      omega
    · rw [writeX_two (.inr rfl) (by omega), writeX_two (.inr rfl) (by omega)]
      have := hf.acq k hk
      have := at_may (l := l) (b := true) ht hk
      omega
    · rw [cu k hk, writeX_two (.inr rfl) hk]
      have := hf.le k hk
      omega
    · rw [writeX_rel hr (by omega), writeX_rel hr (by omega)]
      have := (hf.rel r hr).1 k hk
      have := hf.cur k hk
      have := at_may (l := l) (b := true) ht hk
      split <;> (try split) <;> omega
    · rw [writeX_rel hr hk, cu k hk]
      have := (hf.rel r hr).2 k hk
      have := p k
      split <;> (try split) <;> omega
theorem sent_may (hf : MayV f) (hm : mayB m = true) : mayB (sentGE f m l t md) = true := by
  cases h : writeGB f l t md with
  | false => rw [(write_no h).2]; rw [mayB_iff]; intro k _; omega
  | true =>
    have hth := (thereB_iff l t).1 (writeGB_iff.1 h).1
    have ht : 0 ≤ t := hth.2.2
    rw [(write_yes h).2]
    rw [mayB_iff] at hm ⊢
    intro k hk
    have := hm k hk
    have := hf.cur k hk
    have hr : ∃ r, r < 4 ∧ relP f l = part f (16 + 8 * r) := by
      have hor : l = 0 ∨ l = 1 ∨ l = 2 ∨ l = 3 := by omega
      rcases hor with rfl | rfl | rfl | rfl
      · exact ⟨0, by omega, funext fun j => by simp [relP, part]⟩
      · exact ⟨1, by omega, funext fun j => by simp [relP, part]⟩
      · exact ⟨2, by omega, funext fun j => by simp [relP, part]⟩
      · exact ⟨3, by omega, funext fun j => by simp [relP, part]⟩
    obtain ⟨r, hr, e⟩ := hr
    have := (hf.rel r hr).1 k hk
    have := at_may (l := l) (b := true) ht hk
    unfold sentG
    rw [e]
    simp only [relW, joinF_max, part, Nat.zero_add]
    split <;> split <;> omega
/-! Fence. -/
theorem fence_no (h : noFence md = true) : fenceE f s md = f ∧ fenceS f s md = s := ⟨funext fun i => by simp [fenceE, h], funext fun i => by simp [fenceS, h]⟩
def cF (f : Nat → Int) (md : Int) (j : Nat) : Int := if md = 4 then f j else max (f j) (f (8 + j))
def aF (f s : Nat → Int) (md : Int) (k : Nat) : Int := max (s k) (cF f md (4 + k))
theorem fenceE_eq (h : noFence md = false) (i : Nat) : fenceE f s md i = fenceX f s (cF f md) md i := by
  unfold fenceE
  have e : cF f md = if (md != 4) = true then joinF (part f 0) (part f 8) else part f 0 := by
    funext j
    unfold cF
    by_cases h4 : md = 4 <;> simp [h4, joinF_max, part]
  rw [e, h]
  by_cases h4 : md = 4 <;> simp [h4]
theorem allF_eq {c : Nat → Int} {j : Nat} (_hj : j < 8) : allF s c md j = max (s (j % 4)) (c (4 + j % 4)) := by
  unfold allF
  rw [joinF_max, show (4 + j % 4) % 4 = j % 4 by omega]
  simp
theorem fence_cur (h : noFence md = false) {j : Nat} (hj : j < 8) : fenceE f s md j = if md = 6 then max (cF f md j) (aF f s md (j % 4)) else cF f md j := by
  rw [fenceE_eq h]
  unfold fenceX
  rw [if_pos hj]
  simp only [joinF_max, ite_self, allF_eq hj, beq_iff_eq, aF]
theorem fence_acq (h : noFence md = false) {j : Nat} (hj : j < 8) : fenceE f s md (8 + j) = if md = 6 then max (f (8 + j)) (aF f s md (j % 4)) else f (8 + j) := by
  rw [fenceE_eq h]
  unfold fenceX
  rw [if_neg (by omega), if_pos (by omega), Nat.add_sub_cancel_left]
  simp only [joinF_max, ite_self, allF_eq hj, beq_iff_eq, aF]
theorem fence_rel (h : noFence md = false) {r j : Nat} (hr : r < 4) (hj : j < 8) : fenceE f s md (16 + 8 * r + j) =
    if md = 6 then max (max (f (16 + 8 * r + j)) (cF f md j)) (aF f s md (j % 4)) else if md = 3 then f (16 + 8 * r + j) else max (f (16 + 8 * r + j)) (cF f md j) := by
  rw [fenceE_eq h]
  unfold fenceX
  rw [if_neg (by omega), if_neg (by omega), show (16 + 8 * r + j) / 8 * 8 = 16 + 8 * r by omega, show (16 + 8 * r + j) % 8 = j by omega]
  simp only [joinF_max, allF_eq hj, beq_iff_eq, aF, part]
  by_cases h6 : md = 6
  · subst h6; simp
  · by_cases h3 : md = 3
    · subst h3; simp
    · simp [h6, h3]
theorem fence_s (h : noFence md = false) {k : Nat} (hk : k < 4) : fenceS f s md k = if md = 6 then aF f s md k else s k := by
  unfold fenceS
  have e : cF f md = if (md != 4) = true then joinF (part f 0) (part f 8) else part f 0 := by
    funext j
    unfold cF
    by_cases h4 : md = 4 <;> simp [h4, joinF_max, part]
  rw [h]
  by_cases h6 : md = 6
  · subst h6
    simp only [aF, e]
    rw [if_neg (by simp)]
    simp only [show ((6 : Int) != 4) = true by decide, if_true, show ((6 : Int) == 6) = true by decide]
    rw [allF_eq (by omega), show k % 4 = k by omega]
  · simp [h6]
theorem fence_le (i : Nat) (hi : i < 48) : f i ≤ fenceE f s md i := by
  cases h : noFence md with
  | true => rw [(fence_no h).1]; omega
  | false =>
    by_cases h1 : i < 8
    · rw [fence_cur h h1]; unfold cF; repeat' split
      all_goals omega
    · by_cases h2 : i < 16
      · obtain ⟨j, rfl⟩ : ∃ j, i = 8 + j := ⟨i - 8, by omega⟩
        rw [fence_acq h (by omega)]; split <;> omega
      · obtain ⟨r, j, rfl, hr, hj⟩ : ∃ r j, i = 16 + 8 * r + j ∧ r < 4 ∧ j < 8 := ⟨(i - 16) / 8, (i - 16) % 8, by omega, by omega, by omega⟩
        rw [fence_rel h hr hj]; repeat' split
        all_goals omega
theorem fence_sle {k : Nat} (hk : k < 4) : s k ≤ fenceS f s md k := by
  cases h : noFence md with
  | true => rw [(fence_no (f := f) h).2]; omega
  | false => rw [fence_s h hk]; unfold aF; split <;> omega
theorem fence_may (hf : MayV f) : MayV (fenceE f s md) := by
  cases h : noFence md with
  | true => rw [(fence_no h).1]; exact hf
  | false =>
    have hmd : 3 ≤ md ∧ md ≤ 6 := by
      unfold noFence at h
      by_cases h3 : md < 3
      · simp [h3] at h
      · simp [h3] at h; omega
    have c4 : ∀ k, k < 4 → 0 ≤ cF f md k ∧ cF f md k ≤ cF f md (k + 4) := fun k hk => by
      have := hf.cur k hk
      have := hf.acq k hk
      unfold cF; split <;> omega
    have cl : ∀ k, k < 8 → f k ≤ cF f md k ∧ cF f md k ≤ f (8 + k) := fun k hk => by
      have := hf.le k hk
      unfold cF; split <;> omega
    refine ⟨fun k hk => ?_, fun k hk => ?_, fun k hk => ?_, fun r hr => ⟨fun k hk => ?_, fun k hk => ?_⟩⟩
    · rw [fence_cur h (by omega), fence_cur h (by omega), show (k + 4) % 4 = k % 4 by omega]
      have := c4 k hk
      split <;> omega
    · rw [fence_acq h (by omega), fence_acq h (by omega), show (k + 4) % 4 = k % 4 by omega]
      have := hf.acq k hk
      split <;> omega
    · rw [fence_cur h hk, fence_acq h hk]
      have := cl k hk
      split <;> omega
    · rw [fence_rel h hr (by omega), fence_rel h hr (by omega), show (k + 4) % 4 = k % 4 by omega]
      have := c4 k hk
      have := (hf.rel r hr).1 k hk
      repeat' split
      all_goals omega
    · rw [fence_rel h hr hk, fence_cur h hk]
      have := cl k hk
      have := (hf.rel r hr).2 k hk
      repeat' split
      all_goals omega
end
end Go.Proofs.Ytkmhabbpndcnkaa
