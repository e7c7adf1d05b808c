/-
  PART: regions that draw their order: what must come ahead of what.
-/
import Derived.Test.YtdlghljhgbakjaaDoorENJ
namespace Go.Proofs.YtdlghljhgbakjaaDoor
open Go.RowKit

section
variable {ops : Array Oper}
theorem numbered_get : ∀ (l : List Oper) (i j : Nat) (o : Oper), l[j]? = some o → (numbered i l)[j]? = some (i + j, o)
  | [], i, j, o, h => by simp at h
  | p :: l, i, 0, o, h => by simp at h; subst h; rfl
  | p :: l, i, j + 1, o, h => by
    simp at h
    have := numbered_get l (i + 1) j o h
    simp only [numbered, List.getElem?_cons_succ, this]
    congr 2; omega
/-- Bits of what stands ahead. -/
def befStep (acc : Array Nat) (o : Oper) : Array Nat := acc.push (o.after.foldl (fun s e => if Region.binds .any e then s ||| 2 ^ e.on ||| acc.getD e.on 0 else s) 0)
theorem before_eq (ops : Array Oper) : Region.before ops = ops.toList.foldl befStep #[] := by
  unfold Region.before
  rw [← Array.foldl_toList]
  rfl
theorem bef_bits (acc : Array Nat) (i : Nat) : ∀ (l : List Edge) (s : Nat), (l.foldl (fun s e => if Region.binds .any e then s ||| 2 ^ e.on ||| acc.getD e.on 0 else s) s).testBit i = true → s.testBit i = true ∨ ∃ e, e ∈ l ∧ Region.binds .any e = true ∧ (e.on = i ∨ (acc.getD e.on 0).testBit i = true)
  | [], s, h => .inl h
  | e :: l, s, h => by
    simp only [List.foldl_cons] at h
    rcases bef_bits acc i l _ h with h | ⟨e', h1, h2⟩
    · by_cases hb : Region.binds .any e = true
      · rw [if_pos hb] at h
        simp only [Nat.testBit_or, Nat.testBit_two_pow, Bool.or_eq_true, decide_eq_true_eq] at h
        rcases h with (h | h) | h
        · exact .inl h
        · exact .inr ⟨e, List.mem_cons_self .., hb, .inl h⟩
        · exact .inr ⟨e, List.mem_cons_self .., hb, .inr h⟩
      · rw [if_neg hb] at h; exact .inl h
    · exact .inr ⟨e', List.mem_cons_of_mem _ h1, h2⟩
theorem bef_spec : ∀ (l : List Oper) (acc : Array Nat), (l.foldl befStep acc).size = acc.size + l.length ∧ (∀ j, j < acc.size → (l.foldl befStep acc).getD j 0 = acc.getD j 0) ∧
    ∀ (j : Nat) (o : Oper), l[j]? = some o → ∀ i, ((l.foldl befStep acc).getD (acc.size + j) 0).testBit i = true → ∃ e, e ∈ o.after ∧ Region.binds .any e = true ∧ (e.on = i ∨ (e.on < acc.size + j ∧ ((l.foldl befStep acc).getD e.on 0).testBit i = true))
  | [], acc => ⟨by simp, fun _ _ => rfl, fun j o h => by simp at h⟩
  | o :: l, acc => by
    obtain ⟨h1, h2, h3⟩ := bef_spec l (befStep acc o)
    have hsz : (befStep acc o).size = acc.size + 1 := by simp [befStep]
    have hold : ∀ j, j < acc.size → (befStep acc o).getD j 0 = acc.getD j 0 := fun j hj => by
      unfold befStep
      simp only [Array.getD_eq_getD_getElem?, Array.getElem?_push]
      rw [if_neg (by omega)]
    refine ⟨by simp only [List.foldl_cons, h1, hsz, List.length_cons]; omega, fun j hj => by simp only [List.foldl_cons]; rw [h2 j (by omega), hold j hj], fun j o' hj i hb => ?_⟩
    simp only [List.foldl_cons] at hb ⊢
    cases j with
    | zero =>
      simp at hj; subst hj
      rw [Nat.add_zero, h2 acc.size (by omega)] at hb
      have hnew : (befStep acc o).getD acc.size 0 = o.after.foldl (fun s e => if Region.binds .any e then s ||| 2 ^ e.on ||| acc.getD e.on 0 else s) 0 := by
        unfold befStep
        simp [Array.getD_eq_getD_getElem?]
      rw [hnew, ← Array.foldl_toList] at hb
      rcases bef_bits acc i _ _ hb with h | ⟨e, he, hbi, h⟩
      · simp at h
      · refine ⟨e, by simpa using he, hbi, h.imp id fun h => ?_⟩
        have hlt : e.on < acc.size := by
          rcases Nat.lt_or_ge e.on acc.size with h' | h'
          · exact h'
          · simp [Array.getD_eq_getD_getElem?, Array.getElem?_eq_none h'] at h
        exact ⟨by omega, by rw [h2 e.on (by omega), hold e.on hlt]; exact h⟩
    | succ j =>
      simp at hj
      have := h3 j o' hj i (by rw [hsz]; rwa [show acc.size + 1 + j = acc.size + (j + 1) by omega])
      obtain ⟨e, q1, q2, q3⟩ := this
      exact ⟨e, q1, q2, q3.imp id fun q => ⟨by rw [hsz] at q; omega, q.2⟩⟩
/-- What is listed, with all that it waits for. -/
def Closed (ops : Array Oper) (L : Nat → Prop) : Prop := ∀ i o, ops[i]? = some o → L i → ∀ e, e ∈ o.after → Region.binds .any e = true → L e.on
theorem before_get {j : Nat} {o : Oper} (ho : ops[j]? = some o) {i : Nat} (h : ((Region.before ops).getD j 0).testBit i = true) : ∃ e, e ∈ o.after ∧ Region.binds .any e = true ∧ (e.on = i ∨ (e.on < j ∧ ((Region.before ops).getD e.on 0).testBit i = true)) := by
  rw [before_eq] at h ⊢
  obtain ⟨_, _, h3⟩ := bef_spec ops.toList #[]
  have := h3 j o (by simpa using ho) i (by simpa using h)
  simpa using this
/-- All that stands ahead of an operation whose direct edges are listed is listed. -/
theorem ahead_listed {L : Nat → Prop} (hL : Closed ops L) : ∀ (j : Nat) (o : Oper), ops[j]? = some o → (∀ e, e ∈ o.after → Region.binds .any e = true → L e.on) → ∀ i, ((Region.before ops).getD j 0).testBit i = true → L i := by
  intro j
  induction j using Nat.strongRecOn with
  | _ j ih =>
    intro o ho hd i hi
    obtain ⟨e, he, hb, h⟩ := before_get ho hi
    have hLe := hd e he hb
    rcases h with rfl | ⟨hlt, h⟩
    · exact hLe
    · cases hoe : ops[e.on]? with
      | none =>
        -- no such operation: no bits
        exfalso
        have hsz : (Region.before ops).size = ops.size := by
          rw [before_eq]; have := (bef_spec ops.toList #[]).1; simpa using this
        have : ops.size ≤ e.on := by
          rcases Nat.lt_or_ge e.on ops.size with h' | h'
          · rw [Array.getElem?_eq_getElem h'] at hoe; cases hoe
          · exact h'
        simp [Array.getD_eq_getD_getElem?, Array.getElem?_eq_none (show (Region.before ops).size ≤ e.on by omega)] at h
      | some p => exact ih e.on hlt p hoe (fun e' he' hb' => hL e.on p hoe hLe e' he' hb') i h
theorem regionOk_spec (h : regionOk ops = true) {i : Nat} {o : Oper} (ho : ops[i]? = some o) :
    (∀ j p d, ops[j]? = some p → p.dst = some d → d ∈ namesOf ops o → i ≠ j → ((Region.before ops).getD (Nat.max i j) 0).testBit (Nat.min i j) = true) ∧ ∀ e, e ∈ o.after → Region.binds .any e = true → e.on < i := by
  unfold regionOk at h
  simp only [List.all_eq_true] at h
  have hm : (i, o) ∈ numbered 0 ops.toList := by
    have := numbered_get ops.toList 0 i o (by simpa using ho)
    rw [Nat.zero_add] at this
    exact List.mem_of_getElem? this
  have h1 := h _ hm
  simp only [Bool.and_eq_true] at h1
  obtain ⟨h1, h2⟩ := h1
  refine ⟨fun j p d hp hd hmem hne => ?_, fun e he hb => ?_⟩
  · have hmj : (j, p) ∈ numbered 0 ops.toList := by
      have := numbered_get ops.toList 0 j p (by simpa using hp)
      rw [Nat.zero_add] at this
      exact List.mem_of_getElem? this
    have key : ∀ l : List (Nat × Oper), orderOk (Region.before ops) i (namesOf ops o) l = true → (j, p) ∈ l → ((Region.before ops).getD (Nat.max i j) 0).testBit (Nat.min i j) = true := by
      intro l
      induction l with
      | nil => intro _ h; cases h
      | cons q l ih =>
        intro hq hmq
        obtain ⟨k, p'⟩ := q
        simp only [orderOk, Bool.and_eq_true] at hq
        rcases List.mem_cons.1 hmq with e | hmq
        · cases e
          have := hq.1
          rw [hd] at this
          simp only [Bool.or_eq_true] at this
          rcases this with (h | h) | h
          · have : (namesOf ops o).elem d = true := by simpa using hmem
            rw [this] at h; cases h
          · exact absurd (Nat.eq_of_beq_eq_true h) hne
          · exact h
        · exact ih hq.2 hmq
    exact key _ h1 hmj
  · rw [List.all_eq_true] at h2
    have := h2 e (by simpa using he)
    rw [hb] at this
    simpa [Nat.blt_eq] using this
/-! Records: who touches what another one writes. -/
theorem okAgainst_spec {bits : Nat} {r : Rec} : ∀ {l : List (Nat × Rec)}, okAgainst bits r l = true → ∀ i q, (i, q) ∈ l → meets r q = true → bits.testBit i = true
  | [], _, i, q, h, _ => by cases h
  | (k, p) :: l, h, i, q, hm, hq => by
    simp only [okAgainst, Bool.and_eq_true, Bool.or_eq_true] at h
    rcases List.mem_cons.1 hm with e | hm
    · cases e
      rcases h.1 with h | h
      · rw [hq] at h; cases h
      · exact h
    · exact okAgainst_spec h.2 i q hm hq
theorem meets_of {a b : Rec} {x : Nat} (h : (x ∈ a.wr ∧ (x ∈ b.rd ∨ x ∈ b.wr)) ∨ (x ∈ b.wr ∧ (x ∈ a.rd ∨ x ∈ a.wr))) : meets a b = true := by
  unfold meets
  simp only [Bool.or_eq_true, List.any_eq_true]
  rcases h with ⟨h1, h2⟩ | ⟨h1, h2⟩
  · exact .inl ⟨x, h1, by rcases h2 with h2 | h2 <;> simp [h2]⟩
  · rcases h2 with h2 | h2
    · exact .inr ⟨x, h1, by simpa using h2⟩
    · exact .inl ⟨x, h2, by simp [h1]⟩
/-- Any two records of which one was taken later. -/
theorem okRecs_spec {b : Array Nat} : ∀ {l : List (Nat × Rec)}, okRecs b l = true → ∀ (m n : Nat) (j i : Nat) (r q : Rec), m < n → l[m]? = some (j, r) → l[n]? = some (i, q) → meets r q = true → (b.getD j 0).testBit i = true
  | [], _, m, n, j, i, r, q, _, h, _, _ => by simp at h
  | (k, p) :: l, h, m, n, j, i, r, q, hmn, hm, hn, hq => by
    simp only [okRecs, Bool.and_eq_true] at h
    cases m with
    | zero =>
      simp at hm
      obtain ⟨rfl, rfl⟩ := hm
      cases n with
      | zero => omega
      | succ n => exact okAgainst_spec h.1 i q (List.mem_of_getElem? (by simpa using hn)) hq
    | succ m => cases n with
      | zero => omega
      | succ n => exact okRecs_spec h.2 m n j i r q (by omega) (by simpa using hm) (by simpa using hn) hq
end
end Go.Proofs.YtdlghljhgbakjaaDoor
