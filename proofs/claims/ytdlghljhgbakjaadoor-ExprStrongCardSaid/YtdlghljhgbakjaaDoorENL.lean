/-
  PART: regions that draw their order: whatever order is drawn, the region leaves what the evaluator says.
-/
import Derived.Test.YtdlghljhgbakjaaDoorENK
import Derived.Orders
namespace Go.Proofs.YtdlghljhgbakjaaDoor
open Go.RowKit

/-- One operation's part of a way. -/
structure Stp where
  pre : St
  b : Bool
  q : Rec
  post : St
structure SameS (a b : St) : Prop where
  hp : b.hp = a.hp
  nx : b.nx = a.nx
  rd : b.rd = a.rd
  wr : b.wr = a.wr
  slot : ∀ (E : Env) (d : Nat) (v : Value), Rep E (look b.sl d) v ↔ Rep E (look a.sl d) v
theorem SameS.refl (a : St) : SameS a a := ⟨rfl, rfl, rfl, rfl, fun _ _ _ => Iff.rfl⟩
theorem SameS.trans {a b c : St} (h : SameS a b) (k : SameS b c) : SameS a c := ⟨k.hp.trans h.hp, k.nx.trans h.nx, k.rd.trans h.rd, k.wr.trans h.wr, fun E d v => (k.slot E d v).trans (h.slot E d v)⟩
section
variable {cx : Cx} {r : Evs} {ops : Array Oper}
def Good (cx : Cx) (r : Evs) (ops : Array Oper) (o : Oper) (p : Stp) : Prop :=
  Want ops o p.pre p.b ∧ (p.b = true → (opYes cx r true o p.pre).hit (p.q, p.post)) ∧ (p.b = false → p.post = opNo o p.pre)
def Chain (cx : Cx) (r : Evs) (ops : Array Oper) : List Oper → St → List Stp → St → Prop
  | [], st, [], st' => SameS st st'
  | o :: l, st, p :: L, st' => SameS st p.pre ∧ Good cx r ops o p ∧ Chain cx r ops l p.post L st'
  | _, _, _, _ => False
def recsOf : Nat → List Stp → List (Nat × Rec)
  | _, [] => []
  | i, p :: L => match p.b with
    | true => (i, p.q) :: recsOf (i + 1) L
    | false => recsOf (i + 1) L
theorem chain_of {l : List Oper} {i : Nat} {recs recs' : List (Nat × Rec)} {st st' : St} (h : Path cx r ops true l i recs st recs' st') : ∃ L, Chain cx r ops l st L st' ∧ recs' = (recsOf i L).reverse ++ recs := by
  induction h with
  | nil i recs st => exact ⟨[], .refl st, rfl⟩
  | @yes o l i recs st q s recs' st' hg h t ih =>
    obtain ⟨L, h1, h2⟩ := ih
    exact ⟨⟨st, true, q, s⟩ :: L, ⟨.refl st, ⟨hg, fun _ => h, fun h => by cases h⟩, h1⟩, by rw [h2]; simp [recsOf]⟩
  | @no o l i recs st recs' st' hg t ih =>
    obtain ⟨L, h1, h2⟩ := ih
    exact ⟨⟨st, false, ⟨[], []⟩, opNo o st⟩ :: L, ⟨.refl st, ⟨hg, fun h => (by cases h), fun _ => rfl⟩, h1⟩, h2⟩
  | @asm o l i recs st recs' st' d b lt he t ih =>
    obtain ⟨L, h1, h2⟩ := ih
    have hs : SameS st (st.forked.put (some d) (.lit (.bool b))) := ⟨rfl, rfl, rfl, rfl, fun E e v => asm_rep he E e v⟩
    cases L with
    | nil => exact h1.elim
    | cons p L => exact ⟨p :: L, ⟨hs.trans h1.1, h1.2⟩, h2⟩
/-- The state ahead of an operation. -/
def stAt (st : St) : List Stp → Nat → St
  | _, 0 => st
  | [], _ + 1 => st
  | p :: L, k + 1 => stAt p.post L k
theorem chain_len : ∀ {l : List Oper} {st : St} {L : List Stp} {st' : St}, Chain cx r ops l st L st' → L.length = l.length ∧ SameS (stAt st L l.length) st'
  | [], st, [], st', h => ⟨rfl, h⟩
  | [], _, _ :: _, _, h => h.elim
  | _ :: _, _, [], _, h => h.elim
  | o :: l, st, p :: L, st', h => by
    obtain ⟨k1, k2⟩ := chain_len h.2.2
    exact ⟨by simp [k1], k2⟩
theorem chain_get : ∀ {l : List Oper} {st : St} {L : List Stp} {st' : St}, Chain cx r ops l st L st' → ∀ (j : Nat) (o : Oper) (p : Stp), l[j]? = some o → L[j]? = some p → SameS (stAt st L j) p.pre ∧ Good cx r ops o p ∧ stAt st L (j + 1) = p.post
  | [], st, [], st', h, j, o, p, ho, hp => by simp at ho
  | [], _, _ :: _, _, h, j, o, p, ho, hp => h.elim
  | _ :: _, _, [], _, h, j, o, p, ho, hp => h.elim
  | o' :: l, st, p' :: L, st', h, 0, o, p, ho, hp => by
    simp at ho hp
    subst ho; subst hp
    exact ⟨h.1, h.2.1, by cases L <;> rfl⟩
  | o' :: l, st, p' :: L, st', h, j + 1, o, p, ho, hp => by
    simp at ho hp
    exact chain_get h.2.2 j o p ho hp
theorem recsOf_get : ∀ {L : List Stp} {i j : Nat} {p : Stp}, L[j]? = some p → p.b = true → (i + j, p.q) ∈ recsOf i L
  | [], i, j, p, h, _ => by simp at h
  | q :: L, i, 0, p, h, hb => by
    simp at h; subst h
    unfold recsOf; rw [hb]; exact List.mem_cons_self ..
  | q :: L, i, j + 1, p, h, hb => by
    simp at h
    have := recsOf_get (i := i + 1) h hb
    unfold recsOf
    rw [show i + (j + 1) = i + 1 + j by omega]
    split
    · exact List.mem_cons_of_mem _ this
    · exact this
theorem recsOf_ge : ∀ {L : List Stp} {i k : Nat} {q : Rec}, (k, q) ∈ recsOf i L → i ≤ k
  | [], i, k, q, h => by cases h
  | p :: L, i, k, q, h => by
    unfold recsOf at h
    split at h
    · rcases List.mem_cons.1 h with h | h
      · cases h; exact Nat.le_refl _
      · have := recsOf_ge h; omega
    · have := recsOf_ge h; omega
/-- Of two records, the later operation waits for the earlier one, if they meet. -/
theorem recs_order {b : Array Nat} {L : List Stp} {i : Nat} (h : okRecs b ((recsOf i L).reverse) = true) {j k : Nat} {p q : Stp} (hj : L[j]? = some p) (hk : L[k]? = some q) (hjk : j < k) (hp : p.b = true) (hq : q.b = true) (hm : meets q.q p.q = true) : (b.getD (i + k) 0).testBit (i + j) = true := by
  have key : ∀ (L : List Stp) (i j k : Nat), L[j]? = some p → L[k]? = some q → j < k → ∃ m n : Nat, m < n ∧ (recsOf i L)[m]? = some (i + j, p.q) ∧ (recsOf i L)[n]? = some (i + k, q.q) := by
    intro L
    induction L with
    | nil => intro i j k h; simp at h
    | cons s L ih =>
      intro i j k hj hk hjk
      obtain ⟨k, rfl⟩ : ∃ k', k = k' + 1 := ⟨k - 1, by omega⟩
      simp at hk
      cases j with
      | zero =>
        simp at hj; subst hj
        have hmem := recsOf_get (i := i + 1) hk hq
        obtain ⟨n, hn⟩ := List.mem_iff_getElem?.1 hmem
        refine ⟨0, n + 1, by omega, ?_, ?_⟩
        · unfold recsOf; rw [hp]; simp
        · unfold recsOf; rw [hp]; simp [hn]; omega
      | succ j =>
        simp at hj
        obtain ⟨m, n, h1, h2, h3⟩ := ih (i + 1) j k hj hk (by omega)
        cases hs : s.b with
        | true =>
          refine ⟨m + 1, n + 1, by omega, ?_, ?_⟩
          · unfold recsOf; rw [hs]; simp [h2]; omega
          · unfold recsOf; rw [hs]; simp [h3]; omega
        | false =>
          refine ⟨m, n, h1, ?_, ?_⟩
          · unfold recsOf; rw [hs]; simp [h2]; omega
          · unfold recsOf; rw [hs]; simp [h3]; omega
  obtain ⟨m, n, h1, h2, h3⟩ := key L i j k hj hk hjk
  have hn : n < (recsOf i L).length := (List.getElem?_eq_some_iff.1 h3).1
  refine okRecs_spec h ((recsOf i L).length - 1 - n) ((recsOf i L).length - 1 - m) (i + k) (i + j) q.q p.q (by omega) ?_ ?_ hm
  · rw [List.getElem?_reverse (by omega), show (recsOf i L).length - 1 - ((recsOf i L).length - 1 - n) = n by omega]; exact h3
  · rw [List.getElem?_reverse (by omega), show (recsOf i L).length - 1 - ((recsOf i L).length - 1 - m) = m by omega]; exact h2
end
/-! What a piece does, seen from all blocks. -/
section
variable {FP FPi : Nat → Prop} {E0 E E' : Env} {H0 Hm Hi Hs : Nat → Option Blk} {w0 w w' : World} {nx0 nxn nxi nxs : Nat} {wri wrn : List Nat}
theorem Pst.lift (h0 : Sim FP E0 H0 w0) (p : Pst FP E0 E H0 Hm nx0 nxn wrn w0 w) (q : Pst FPi E E' Hi Hs nxi nxs wri w w') (hw : ∀ x, x ∈ wri → FPi x ∧ FP x ∧ x ∈ wrn) (hag : ∀ x, FPi x → Hm x = Hi x)
    (h1 : nx0 ≤ nxi) (h2 : nxs ≤ nxn) (hs : ∀ x, x ∈ wri → Hs x ≠ none → x < nxs) (hmn : ∀ x, x ∈ wrn → Hm x ≠ none → x < nxn) :
    Pst FP E0 E' H0 (fun x => if x ∈ wri then Hs x else Hm x) nx0 nxn wrn w0 w' := by
  -- the block of an old name that the piece does not write
  have apart : ∀ x, FP x → x ∉ wri → Hm x ≠ none → E.vir x = false → ∀ y, y ∈ wri → y < nxi → Hi y ≠ none → E.vir y = false → E.ρ x ≠ E.ρ y := by
    intro x hF hx hn hv y hy hyn hyH hyv he
    obtain ⟨f1, f2, _⟩ := hw y hy
    have := p.sim.inj x y hF f2 hn (by rw [hag y f1]; exact hyH) hv hyv he
    exact hx (this ▸ hy)
  have fr : ∀ x, FP x → x ∉ wri → Hm x ≠ none → E.vir x = false → blkW w' (E.ρ x) = blkW w (E.ρ x) ∧ E'.fz (E.ρ x) = E.fz (E.ρ x) := fun x hF hx hn hv =>
    q.frame _ (p.sim.low x hF hn hv).1 (apart x hF hx hn hv)
  have old0 : ∀ y, y < nx0 → FP y → Hm y ≠ none → E.vir y = E0.vir y ∧ E.ρ y = E0.ρ y ∧ H0 y ≠ none := fun y hy hF hn => by
    have hn0 := p.old y hy hF hn
    have hd := h0.dom y hF hn0
    exact ⟨p.le.vir y hd, p.le.ρ y hd, hn0⟩
  refine ⟨⟨p.le.trans q.le, fun x hx => ?_, ⟨q.sim.fz, fun x hF hn => ?_, fun x hF hn hv => ?_, fun x B hF hB => ?_, fun x y hFx hFy hnx hny hvx hvy he => ?_⟩, fun b hb hx => ?_, fun x g1 g2 hF hn hv => ?_, Nat.le_trans p.size q.size, q.os.trans p.os, q.tape.trans p.tape, q.output.trans p.output⟩, fun x hx hF hn => ?_⟩
  · rcases q.dom x hx with h | h
    · exact p.dom x h
    · exact .inr ⟨by omega, by omega⟩
  · by_cases hx : x ∈ wri
    · rw [if_pos hx] at hn; exact q.sim.dom x (hw x hx).1 hn
    · rw [if_neg hx] at hn; exact q.le.dom x (p.sim.dom x hF hn)
  · by_cases hx : x ∈ wri
    · rw [if_pos hx] at hn; exact q.sim.low x (hw x hx).1 hn hv
    · rw [if_neg hx] at hn
      have hd := p.sim.dom x hF hn
      rw [q.le.vir x hd] at hv
      rw [q.le.ρ x hd, (fr x hF hx hn hv).2]
      have := p.sim.low x hF hn hv
      exact ⟨Nat.lt_of_lt_of_le this.1 q.size, this.2⟩
  · by_cases hx : x ∈ wri
    · simp only [if_pos hx] at hB; exact q.sim.blk x B (hw x hx).1 hB
    · simp only [if_neg hx] at hB
      have hn : Hm x ≠ none := by rw [hB]; simp
      have hd := p.sim.dom x hF hn
      have hb := (p.sim.blk x B hF hB).mono q.le hd
      rw [q.le.ρ x hd]
      by_cases hv : E.vir x = true
      · cases B with
        | fix ty cs => exact absurd hb.1 (by rw [q.le.vir x hd, hv]; simp)
        | arr ty n k get =>
          obtain ⟨hq, hb⟩ := hb
          rcases hb with hb | hb
          · exact ⟨hq, .inl hb⟩
          · exact absurd hb.1 (by rw [q.le.vir x hd, hv]; simp)
      · rw [(fr x hF hx hn (by simpa using hv)).1]; exact hb
  · -- names of one block are one
    have mixed : ∀ x y, FP x → FP y → x ∈ wri → y ∉ wri → Hs x ≠ none → Hm y ≠ none → E'.vir x = false → E'.vir y = false → E'.ρ x = E'.ρ y → x = y := by
      intro x y hFx hFy hx hy hnx hny hvx hvy he
      have hdy := p.sim.dom y hFy hny
      rw [q.le.vir y hdy] at hvy
      rw [q.le.ρ y hdy] at he
      exfalso
      rcases Nat.lt_or_ge x nxi with hlt | hge
      · have hi := q.old x hlt (hw x hx).1 hnx
        have hmx : Hm x ≠ none := by rw [hag x (hw x hx).1]; exact hi
        have hdx := p.sim.dom x hFx hmx
        rw [q.le.vir x hdx] at hvx
        rw [q.le.ρ x hdx] at he
        exact apart y hFy hy hny hvy x hx hlt hi hvx he.symm
      · rcases q.news x hge (hs x hx hnx) (hw x hx).1 hnx hvx with h | ⟨z, hz, hzn, hzH, hzv, hzρ⟩
        · have := (p.sim.low y hFy hny hvy).1; omega
        · exact apart y hFy hy hny hvy z hz hzn hzH hzv (he.symm.trans hzρ)
    by_cases hx : x ∈ wri
    · rw [if_pos hx] at hnx
      by_cases hy : y ∈ wri
      · rw [if_pos hy] at hny; exact q.sim.inj x y (hw x hx).1 (hw y hy).1 hnx hny hvx hvy he
      · rw [if_neg hy] at hny; exact mixed x y hFx hFy hx hy hnx hny hvx hvy he
    · rw [if_neg hx] at hnx
      by_cases hy : y ∈ wri
      · rw [if_pos hy] at hny; exact (mixed y x hFy hFx hy hx hny hnx hvy hvx he.symm).symm
      · rw [if_neg hy] at hny
        have hdx := p.sim.dom x hFx hnx
        have hdy := p.sim.dom y hFy hny
        rw [q.le.vir x hdx] at hvx; rw [q.le.vir y hdy] at hvy
        rw [q.le.ρ x hdx, q.le.ρ y hdy] at he
        exact p.sim.inj x y hFx hFy hnx hny hvx hvy he
  · have f1 := p.frame b hb hx
    have f2 := q.frame b (Nat.lt_of_lt_of_le hb p.size) (fun y hy hyn hyH hyv => by
      obtain ⟨k1, k2, k3⟩ := hw y hy
      have hmy : Hm y ≠ none := by rw [hag y k1]; exact hyH
      rcases Nat.lt_or_ge y nx0 with hlt | hge
      · obtain ⟨e1, e2, e3⟩ := old0 y hlt k2 hmy
        rw [e2]; exact hx y k3 hlt e3 (e1 ▸ hyv)
      · rcases p.news y hge (hmn y k3 hmy) k2 hmy hyv with h | ⟨z, hz, hzn, hzH, hzv, hzρ⟩
        · omega
        · rw [hzρ]; exact hx z hz hzn hzH hzv)
    exact ⟨f2.1.trans f1.1, f2.2.trans f1.2⟩
  · by_cases hx : x ∈ wri
    · rw [if_pos hx] at hn
      obtain ⟨k1, k2, k3⟩ := hw x hx
      rcases Nat.lt_or_ge x nxi with hlt | hge
      · have hi := q.old x hlt k1 hn
        have hmx : Hm x ≠ none := by rw [hag x k1]; exact hi
        have hdx := p.sim.dom x k2 hmx
        rw [q.le.vir x hdx] at hv
        rw [q.le.ρ x hdx]
        exact p.news x g1 g2 hF hmx hv
      · rcases q.news x hge (hs x hx hn) k1 hn hv with h | ⟨y, hy, hyn, hyH, hyv, he⟩
        · exact .inl (Nat.le_trans p.size h)
        · obtain ⟨l1, l2, l3⟩ := hw y hy
          have hmy : Hm y ≠ none := by rw [hag y l1]; exact hyH
          rcases Nat.lt_or_ge y nx0 with hlt' | hge'
          · obtain ⟨e1, e2, e3⟩ := old0 y hlt' l2 hmy
            exact .inr ⟨y, l3, hlt', e3, e1 ▸ hyv, he.trans e2⟩
          · rcases p.news y hge' (hmn y l3 hmy) l2 hmy hyv with h | ⟨z, hz, hzn, hzH, hzv, hzρ⟩
            · exact .inl (he ▸ h)
            · exact .inr ⟨z, hz, hzn, hzH, hzv, he.trans hzρ⟩
    · rw [if_neg hx] at hn
      have hdx := p.sim.dom x hF hn
      rw [q.le.vir x hdx] at hv
      rw [q.le.ρ x hdx]
      exact p.news x g1 g2 hF hn hv
  · by_cases hx' : x ∈ wri
    · rw [if_pos hx'] at hn
      obtain ⟨k1, k2, k3⟩ := hw x hx'
      have hi := q.old x (by omega) k1 hn
      exact p.old x hx hF (by rw [hag x k1]; exact hi)
    · rw [if_neg hx'] at hn; exact p.old x hx hF hn
end
end Go.Proofs.YtdlghljhgbakjaaDoor
