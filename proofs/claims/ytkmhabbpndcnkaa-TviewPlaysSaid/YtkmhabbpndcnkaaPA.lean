/-
  PART: law 13 (TviewGrows): a round keeps what is known; the law's run.
-/
import Derived.Test.YtkmhabbpndcnkaaP9
import Derived.IntWalk
namespace Go.Proofs.Ytkmhabbpndcnkaa
open Go.RowKit
theorem eqvs_self (f : Nat → Int) : eqvs f f = true := by simp [eqvs, eqv, eq4]
theorem eq4_self (f : Nat → Int) (o : Nat) : eq4 f f o = true := by simp [eq4]
theorem pick4_at {l : Int} {k : Nat} (hk : k < 4) (hl : l = (k : Int)) (f : Nat → Int) (o : Nat) : pick4 l f o = f (o + k) := by
  subst hl
  match k, hk with
  | 0, _ => simp [pick4]
  | 1, _ => simp [pick4]
  | 2, _ => simp [pick4]
  | 3, _ => simp [pick4]
theorem loc_nat {l : Int} (h0 : 0 ≤ l) (h1 : l < 4) : ∃ k : Nat, k < 4 ∧ l = (k : Int) := ⟨l.toNat, by omega, by omega⟩
section
variable {f g sent s s2 kn : Nat → Int} {is : Bool} {d md l t i : Int} {mk : (Nat → Int) → (Nat → Int) → (Nat → Int) → Int → Tree Lf} {Q : Lf → Prop}
theorem checks_ok (hg : MayV g) (hle : ∀ i, i < 48 → f i ≤ g i) (hsent : mayB sent = true) (hno : is = false → g = f ∧ s2 = s) (hs : ∀ k, k < 4 → s k ≤ s2 k)
    (hl : learns is d md = true → 0 ≤ l ∧ l < 4 ∧ ∀ k : Nat, k < 4 → l = (k : Int) → t ≤ g k) (hkn : ∀ k, k < 4 → kn k ≤ f k)
    (hmk : ∀ kn', (∀ k, k < 4 → kn' k ≤ g k) → (mk g s2 kn' i).wp Q) : (checks f g sent s s2 kn is d md l t i mk).wp Q := by
  have w : ∀ o, o + 8 ≤ 48 → withinB (part f o) (part g o) = true := fun o ho => (withinB_iff _ _).2 fun k hk => hle (o + k) (by omega)
  have b1 : ∀ k, k < 4 → bad1 f g s s2 k = false := fun k hk => by
    unfold bad1
    rw [w _ (by omega)]
    have := hs k hk
    simp; omega
  have kn' : ∀ k, k < 4 → kn k ≤ g k := fun k hk => by
    have := hkn k hk
    have := hle k (by omega)
    omega
  refine ⟨fun h => ?_, fun _ => ⟨fun h => ?_, fun _ => ⟨fun h => ?_, fun _ => ⟨fun h => ?_, fun _ => ⟨fun h => ?_, fun _ => ⟨fun h => ?_, fun h => ⟨fun h1 => ?_, fun _ => ?_⟩, fun _ => ?_⟩⟩⟩⟩⟩⟩
  · exfalso
    unfold bad0 at h
    rw [(mayVE_iff g).2 hg, w 0 (by omega), w 8 (by omega), hsent] at h
    cases hi : is with
    | true => rw [hi] at h; cases h
    | false =>
      obtain ⟨rfl, rfl⟩ := hno hi
      rw [hi, eqvs_self, eq4_self] at h
      cases h
  · rw [b1 0 (by omega)] at h; cases h
  · rw [b1 1 (by omega)] at h; cases h
  · rw [b1 2 (by omega)] at h; cases h
  · rw [b1 3 (by omega)] at h; cases h
  · obtain ⟨h0, h1, _⟩ := hl h
    exact ⟨⟨h0, h1⟩, ⟨h0, h1⟩, ⟨h0, h1⟩, h0, h1⟩
  · exfalso
    obtain ⟨h0, h2, h3⟩ := hl h
    obtain ⟨k, hk, hlk⟩ := loc_nat h0 h2
    rw [pick4_at hk hlk, pick4_at hk hlk, Nat.zero_add] at h1
    unfold knF at h1
    rw [pick4_at hk hlk, Nat.zero_add] at h1
    have := h3 k hk hlk
    have := kn' k hk
    simp only [hlk, decide_true, if_true, decide_eq_true_eq] at h1
    split at h1 <;> omega
  · refine hmk _ fun j hj => ?_
    obtain ⟨h0, h2, h3⟩ := hl h
    obtain ⟨k, hk, hlk⟩ := loc_nat h0 h2
    unfold knF
    rw [pick4_at hk hlk, Nat.zero_add]
    have := h3 k hk hlk
    have := kn' k hk
    have := kn' j hj
    split
    · rename_i e
      simp only [hlk, decide_eq_true_eq] at e
      obtain rfl : k = j := by omega
      split <;> omega
    · assumption
  · exact hmk _ kn'
end
theorem wrap_small {i : Nat} (h : i ≤ 1000) : IntKind.i64.wrap ((i : Int) + 1) = ((i + 1 : Nat) : Int) := by
  rw [IntWalk.i64_in _ (by omega)]; omega
section
variable (n : Nat) (d md lo to : Nat → Int) (M : Nat → Nat → Int)
structure J5 (k : K5) : Prop where
  may : MayV k.f
  known : ∀ j, j < 4 → k.kn j ≤ k.f j
  le : k.i ≤ n
def Inv5 (k : K5) : St := inv5 n d md lo to M k.f k.s k.kn k.i
theorem round5_ok (hn : n ≤ 100) (k : K5) (hk : J5 n k) : ((codeE cxT (evs cxT 60) body5 (Inv5 n d md lo to M k)).map (lfOf 0 ds5 true 2)).wp
    (LfQ (RoundQ (Inv5 n d md lo to M) (J5 n) (fun k => n - k.i) 0 k fun s => ∃ k, s = Inv5 n d md lo to M k) IsTrue) := by
  unfold Inv5
  rw [round5]
  obtain ⟨f, s, kn, i⟩ := k
  obtain ⟨hf, hkn, hle⟩ := hk
  dsimp only at hf hkn hle ⊢
  have next : ∀ (g s2 kn' : Nat → Int), i < n → MayV g → (∀ k, k < 4 → kn' k ≤ g k) →
      (goes n d md lo to M g s2 kn' i).wp (LfQ (RoundQ (Inv5 n d md lo to M) (J5 n) (fun k => n - k.i) 0 ⟨f, s, kn, i⟩ fun s => ∃ k, s = Inv5 n d md lo to M k) IsTrue) := by
    intro g s2 kn' hi hg hk
    refine ⟨⟨g, s2, kn', i + 1⟩, ?_, ⟨hg, hk, hi⟩, by dsimp only; omega⟩
    rw [wrap_small (by omega)]
    rfl
  refine ⟨fun h => ⟨⟨by omega, by simpa using h⟩, fun h1 => ?_, fun h1 => ⟨fun _ _ h2 => ?_, fun h2 => ?_, fun h2 => ⟨fun h3 => ?_, fun h3 => ⟨fun h4 => ?_, fun h4 => ?_⟩⟩⟩⟩, fun h => ?_⟩
  · exact next f s kn (by simpa using h) hf hkn
  · have := (thereB_iff _ _).1 (noRead_iff.1 (readB_iff.1 h2).1).1
    exact ⟨this.1, this.2.1⟩
  · have hi : i < n := by simpa using h
    have hd : d i = 0 := by simpa using h2
    refine checks_ok (fence_may hf) fence_le ((mayB_iff _).2 fun _ _ => by omega) (fun h => fence_no (by simpa using h)) (fun k hk => fence_sle hk) (fun h => ?_) hkn fun kn' hk => next _ _ _ hi (fence_may hf) hk
    exfalso
    unfold learns at h
    rw [hd] at h
    cases hq : noFence (md i) <;> simp [hq] at h
  · have hi : i < n := by simpa using h
    have hm : mayB (M i) = true := by simpa using h1
    refine checks_ok (write_may hf) write_le (sent_may hf hm) (fun h => ⟨(write_no (m := f) h).1, rfl⟩) (fun k hk => by omega) (fun h => ?_) hkn fun kn' hk => next _ _ _ hi (write_may hf) hk
    have hw : writeGB f (lo i) (to i) (md i) = true := by
      cases hq : writeGB f (lo i) (to i) (md i) with
      | true => rfl
      | false => rw [hq] at h; cases h
    have ht := (thereB_iff _ _).1 (writeGB_iff.1 hw).1
    refine ⟨ht.1, ht.2.1, fun k hk hl => ?_⟩
    rw [(write_yes (m := f) hw).1]
    have := writeX_two (f := f) (l := lo i) (t := to i) (md := md i) (.inl rfl) (show k < 8 by omega)
    rw [Nat.zero_add] at this
    rw [this, at_here hl hk ht.2.2]
    omega
  · exfalso
    rw [ite_and, Bool.and_eq_true, decide_eq_true_eq] at h4
    obtain ⟨h5, h6⟩ := h4
    obtain ⟨h7, h8⟩ := readB_iff.1 h5
    have ht := (thereB_iff _ _).1 (noRead_iff.1 h7).1
    obtain ⟨k, hk, hlk⟩ := loc_nat ht.1 ht.2.1
    rw [pick4_at hk hlk, Nat.zero_add] at h6
    have := hkn k hk
    have := hf.cur k hk
    unfold knownE at h8
    rw [pick4_at hk hlk, pick4_at hk hlk, Nat.zero_add, Nat.add_comm 4 k] at h8
    split at h8 <;> omega
  · have hi : i < n := by simpa using h
    have hm : mayB (M i) = true := by simpa using h1
    refine checks_ok (read_may hf hm) read_le ((mayB_iff _).2 fun _ _ => by omega) (fun h => ⟨read_no h, rfl⟩) (fun k hk => by omega) (fun h => ?_) hkn fun kn' hk => next _ _ _ hi (read_may hf hm) hk
    have hd : d i ≠ 1 := by simpa using h3
    have hw : readB f (lo i) (to i) (md i) = true := by
      cases hq : readB f (lo i) (to i) (md i) with
      | true => rfl
      | false => rw [hq] at h; cases h
    have hmd : md i ≠ 1 := by
      intro e
      rw [hw, e] at h
      simp [learns, hd] at h
    have ht := (thereB_iff _ _).1 (noRead_iff.1 (readB_iff.1 hw).1).1
    refine ⟨ht.1, ht.2.1, fun k hk hl => ?_⟩
    rw [read_yes hw, readX_cur (by omega)]
    have e : atE (lo i) (to i) (md i != 1) k = to i := by
      rw [show (md i != 1) = true by simpa using hmd]
      exact at_here hl hk ht.2.2
    rw [e]
    split <;> omega
  · exact ⟨rfl, ⟨f, s, kn, i⟩, rfl⟩
end
end Go.Proofs.Ytkmhabbpndcnkaa
