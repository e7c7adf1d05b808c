/-
  PARTS, one behind the other: ES ET EV EU EW EX EY EZ FA.
-/
import Derived.Test.YtdlghljhgbakjaaDoorWe11
/-
  PART: the law's table: Good, alike, Same, Text: the contracts.
-/
namespace Go.Proofs.YtdlghljhgbakjaaDoor
open Go.RowKit
noncomputable section
variable (X : Nat → Itm) (N : Nat) (t u : Tr) (a b : Itm)
theorem ev12 : ((evs (cxG X N (decL [])) 60).call 12 [rowA N X] .nil).ans = .side (PureOk Tryd.prog 22 [rowA N X, .lit (.int .i64 0)] (ansE X N 0)) (.ret (.tup [.v (.int .i64 (if decide ((endT X N N 0).1 ≥ 0) = true then (endT X N N 0).1 else (endT X N N 0).1)), .v (.bool (goodE X N))])) := by kernel_rfl
abbrev X0 : Nat → Itm := fun _ => ⟨0, 0, 0, 0, 0, 0⟩
abbrev MT (t : Tr) : Bool := mayT (treeOf (TrR t))
theorem ev15 : ((evs (cxG X0 0 (decL [])) 60).call 15 [anyT t, anyT u] .nil).ans = .side (PureOk Tryd.prog 17 [anyT t] (.v (.bool (MT t)))) (.side (MT t = true → PureOk Tryd.prog 17 [anyT u] (.v (.bool (MT u))) ∧ (MT u = true → PureOk Tryd.prog 45 [anyT t, anyT u] (.v (.bool (ST t u)))))
    (.ret (.v (.bool (if MT t = true then if MT u = true then ST t u else false else false))))) := by kernel_rfl
theorem ev16 : ((evs (cxG X0 0 (decL [])) 60).call 16 [anyT t] .nil).ans = .side (PureOk Tryd.prog 17 [anyT t] (.v (.bool (MT t)))) (.side ((!MT t) = false → PureOk Tryd.prog 46 [anyT t] (.v (bytesV (text (treeOf (TrR t))))))
    (.ret (.v (.string (if (!MT t) = true then B [] else B (text (treeOf (TrR t)))))))) := by kernel_rfl
theorem ev14 : ((evs (cx0 (decL [])) 60).call 14 [itmA a, itmA b] .nil).ans = .ret (.v (.bool (if (a.k != b.k) = true then false else if (a.k == 0) = true then a.n == b.n else if (a.k == 1) = true then a.i == b.i else if (a.k == 2) = true then if (a.t == b.t) = true then a.i == b.i else false else if (a.k == 3) = true then a.x == b.x else a.op == b.op))) := by kernel_rfl
theorem ev19 : ((evs (cxT (decL [])) 60).call 19 [anyT t] .nil).ans = .side (PureOk Tryd.prog 49 [anyT t, .lit (.int .i64 13)] (.v (.int .i64 (depthT (treeOf (TrR t)) 13)))) (.ret (.v (.int .i64 (depthT (treeOf (TrR t)) 13)))) := by kernel_rfl
end
theorem good12_ok (X : Nat → Itm) (N : Nat) (hN : N ≤ 1000) : PureOk Tryd.prog 12 [rowA N X] (.tup [.v (.int .i64 (endT X N N 0).1), .v (.bool (goodE X N))]) := by
  have h := end_ok X N hN N 0 (by omega) (by omega)
  have h' : PureOk Tryd.prog 22 [rowA N X, .lit (.int .i64 0)] (ansE X N 0) := lit_arg h
  have h9 := pure_hitX (cxG_ok X N _) rfl (ev12 X N) ⟨h', rfl⟩ (by kernel_rfl)
  rw [ite_self] at h9
  exact h9
theorem same15_ok (t u : Tr) : PureOk Tryd.prog 15 [anyT t, anyT u] (.v (.bool (sameB t u))) := by
  refine v_ok ?_ (pure_hitX (cxG_ok X0 0 _) rfl (ev15 t u) ⟨?_, fun _ => ⟨?_, fun _ => ?_⟩, rfl⟩ (by kernel_rfl))
  · simp only [MT, ST, treeOf_tr]
    unfold sameB
    cases mayT t <;> cases mayT u <;> rfl
  · simp only [MT, treeOf_tr]; exact may_ok t
  · simp only [MT, treeOf_tr]; exact may_ok u
  · simp only [ST, treeOf_tr]; exact same_ok t u
theorem may_dep {t : Tr} (h : mayT t = true) : dep t ≤ 12 ∧ goodT t = true := by
  unfold mayT at h
  split at h
  · rename_i hd
    exact ⟨dep_of (of_decide_eq_true hd), h⟩
  · cases h
theorem text16_ok (t : Tr) (hok : okT t) : PureOk Tryd.prog 16 [anyT t] (.v (bytesV (textB t))) := by
  refine s_ok (pure_hitX (cxG_ok X0 0 _) rfl (ev16 t) ⟨?_, fun h => ?_, rfl⟩ (by kernel_rfl)) ?_
  · simp only [MT, treeOf_tr]; exact may_ok t
  · simp only [MT, treeOf_tr] at h ⊢
    have hm : mayT t = true := by simpa using h
    obtain ⟨h1, h2⟩ := may_dep hm
    obtain ⟨g1, g2⟩ := good_GT t hok h2
    have hl := text_len g1 g2
    have : 2 ^ dep t ≤ 2 ^ 12 := Nat.pow_le_pow_right (by omega) h1
    exact text_ok fmtOk g1 g2 (by omega)
  · simp only [MT, treeOf_tr]
    unfold textB
    cases mayT t <;> rfl
theorem alike14_ok (a b : Itm) : PureOk Tryd.prog 14 [itmA a, itmA b] (.v (.bool (alikeB a b))) := by
  refine v_ok ?_ (pure_hitX (cx0_ok _) rfl (ev14 a b) rfl (by kernel_rfl))
  unfold alikeB
  simp only [ite_and']
  by_cases h : a.k = b.k
  · simp [h]
  · simp [h]
theorem depth19_ok (t : Tr) : PureOk Tryd.prog 19 [anyT t] (.v (.int .i64 (depthT t 13))) := by
  refine int_ok ?_ (pure_hitX (cxT_ok _) rfl (ev19 t) ⟨?_, rfl⟩ (by kernel_rfl))
  · rw [treeOf_tr]
  · rw [treeOf_tr]; exact lit_arg (depth_ok t 13 (by omega) (by omega))
end Go.Proofs.YtdlghljhgbakjaaDoor

/-
  PART: rows and trees, plainly.
-/
namespace Go.Proofs.YtdlghljhgbakjaaDoor
open Go.RowKit
def leafTr (a : Itm) : Tr := if a.k = 0 then .nd 0 0 a.n 0 0 0 .nil .nil else if a.k = 1 then .nd 1 0 0 0 a.i 0 .nil .nil else if a.k = 2 then .nd 2 0 0 a.t a.i 0 .nil .nil else .nd 3 0 0 0 0 a.x .nil .nil
inductive Rd (X : Nat → Itm) : Nat → Tr → Nat → Prop where
  | leaf (p : Nat) : leafB (X p) = true → Rd X p (leafTr (X p)) (p + 1)
  | one (p e : Nat) (l : Tr) : (X p).k = 4 → (sidesE (X p).op == 1) = true → Rd X (p + 1) l e → Rd X p (.nd 4 (X p).op 0 0 0 0 l .nil) e
  | two (p q e : Nat) (l r : Tr) : (X p).k = 5 → (sidesE (X p).op == 2) = true → Rd X (p + 1) l q → Rd X q r e → Rd X p (.nd 5 (X p).op 0 0 0 0 l r) e
theorem parts1 {a : Itm} (h : partsI a = 1) : a.k = 4 ∧ (sidesE a.op == 1) = true := by
  unfold partsI at h
  split at h
  · rename_i c; simpa using c
  split at h
  · omega
  split at h
  · omega
  · omega
theorem parts2 {a : Itm} (h : partsI a = 2) : a.k = 5 ∧ (sidesE a.op == 2) = true := by
  unfold partsI at h
  split at h
  · omega
  split at h
  · rename_i c; simpa using c
  split at h
  · omega
  · omega
theorem parts0 {a : Itm} (h : partsI a = 0) : leafB a = true := by
  unfold partsI at h
  split at h
  · omega
  split at h
  · omega
  split at h
  · assumption
  · omega
theorem leafB_k {a : Itm} (h : leafB a = true) : a.k = 0 ∨ a.k = 1 ∨ a.k = 2 ∨ a.k = 3 := by
  unfold leafB at h
  by_cases h0 : a.k = 0
  · exact .inl h0
  by_cases h1 : a.k = 1
  · exact .inr (.inl h1)
  by_cases h2 : a.k = 2
  · exact .inr (.inr (.inl h2))
  by_cases h3 : a.k = 3
  · exact .inr (.inr (.inr h3))
  · simp [h0, h1, h2, h3] at h
theorem Rd.lt {X : Nat → Itm} {p e : Nat} {t : Tr} (h : Rd X p t e) : p < e := by
  induction h with
  | leaf p h => omega
  | one p e l _ _ _ ih => omega
  | two p q e l r _ _ _ _ i1 i2 => omega
theorem Rd.good {X : Nat → Itm} {p e : Nat} {t : Tr} (h : Rd X p t e) : goodT t = true := by
  induction h with
  | leaf p h =>
    have hk := leafB_k h
    unfold leafB at h
    unfold leafTr
    rcases hk with k | k | k | k <;> simp [k] at h ⊢ <;> simp [goodT, isNil, h]
  | one p e l hk hs _ ih =>
    show (if (4 : Int) = 0 then _ else _) = _
    rw [if_neg (by decide), if_neg (by decide), if_neg (by decide), if_neg (by decide), if_pos rfl]
    simp [isNil, hs, ih]
  | two p q e l r hk hs _ _ i1 i2 =>
    show (if (5 : Int) = 0 then _ else _) = _
    rw [if_neg (by decide), if_neg (by decide), if_neg (by decide), if_neg (by decide), if_neg (by decide), if_pos rfl]
    simp [i1, i2]
    simpa using hs
theorem ofT_leaf {X : Nat → Itm} {N m p : Nat} (hp : ¬ N ≤ p) (h : leafB (X p) = true) : ofT X N (m + 1) p = (leafTr (X p), p + 1) := by
  rw [ofT, if_neg hp]
  unfold leafTr
  rcases leafB_k h with k | k | k | k <;> simp [k]
theorem end_rd (X : Nat → Itm) (N : Nat) : ∀ f p, 0 ≤ (endT X N f p).1 → ∃ t, Rd X p t (endT X N f p).1.toNat ∧ ((dep t : Nat) : Int) = (endT X N f p).2 ∧ ∀ m, dep t ≤ m → ofT X N m p = (t, (endT X N f p).1.toNat)
  | 0, p, h => absurd (show (0 : Int) ≤ -1 from h) (by omega)
  | f + 1, p, h => by
    have i1 := end_rd X N f (p + 1)
    have i2 := end_rd X N f (endT X N f (p + 1)).1.toNat
    unfold endT at h ⊢
    split at h
    · exact absurd (show (0 : Int) ≤ -1 from h) (by omega)
    rename_i hp
    rw [if_neg hp]
    split at h
    · exact absurd (show (0 : Int) ≤ -1 from h) (by omega)
    rename_i hn
    rw [if_neg hn]
    split at h
    · rename_i h0
      rw [if_pos h0]
      have hl := parts0 h0
      have hd : dep (leafTr (X p)) = 1 := by
        unfold leafTr
        rcases leafB_k hl with k | k | k | k <;> simp [k, dep]
      refine ⟨leafTr (X p), .leaf p hl, by rw [hd]; rfl, fun m hm => ?_⟩
      obtain ⟨m, rfl⟩ : ∃ m', m = m' + 1 := ⟨m - 1, by omega⟩
      exact ofT_leaf hp hl
    rename_i h0
    rw [if_neg h0]
    simp only [] at h ⊢
    split at h
    · exact absurd (show (0 : Int) ≤ -1 from h) (by omega)
    rename_i hn1
    rw [if_neg hn1]
    obtain ⟨l, r1, r2, r3⟩ := i1 (by omega)
    split at h
    · rename_i h1
      rw [if_pos h1]
      obtain ⟨k, s⟩ := parts1 h1
      have hd : dep (.nd 4 (X p).op 0 0 0 0 l .nil) = dep l + 1 := by show max (dep l) 0 + 1 = _; omega
      refine ⟨_, .one p _ l k s r1, ?_, fun m hm => ?_⟩
      · show ((dep _ : Nat) : Int) = max 0 _ + 1
        rw [hd, ← r2]; omega
      · obtain ⟨m, rfl⟩ : ∃ m', m = m' + 1 := ⟨m - 1, by omega⟩
        have := r3 m (by omega)
        rw [ofT, if_neg hp]
        simp only [k, this]
        rfl
    rename_i h1
    rw [if_neg h1]
    split at h
    · exact absurd (show (0 : Int) ≤ -1 from h) (by omega)
    rename_i hn2
    rw [if_neg hn2]
    obtain ⟨r, q1, q2, q3⟩ := i2 (by omega)
    have hP : partsI (X p) = 2 := by
      have : partsI (X p) = 0 ∨ partsI (X p) = 1 ∨ partsI (X p) = 2 ∨ partsI (X p) = -1 := by
        unfold partsI
        split
        · exact .inr (.inl rfl)
        split
        · exact .inr (.inr (.inl rfl))
        split
        · exact .inl rfl
        · exact .inr (.inr (.inr rfl))
      omega
    obtain ⟨k, s⟩ := parts2 hP
    have hd : dep (.nd 5 (X p).op 0 0 0 0 l r) = max (dep l) (dep r) + 1 := rfl
    refine ⟨_, .two p _ _ l r k s r1 q1, ?_, fun m hm => ?_⟩
    · show ((dep _ : Nat) : Int) = max (max 0 _) _ + 1
      rw [hd, ← r2, ← q2]; omega
    · obtain ⟨m, rfl⟩ : ∃ m', m = m' + 1 := ⟨m - 1, by omega⟩
      have a := r3 m (by omega)
      have b := q3 m (by omega)
      rw [ofT, if_neg hp]
      simp only [k, a, b]
      rfl
theorem leafTr_k {a : Itm} (h : leafB a = true) : ∃ n t i x, leafTr a = .nd a.k 0 n t i x .nil .nil := by
  unfold leafTr
  rcases leafB_k h with k | k | k | k <;> simp [k]
theorem leaf_alike {a b : Itm} (ha : leafB a = true) (hb : leafB b = true) : leafTr a = leafTr b ↔ alikeB a b = true := by
  unfold leafTr alikeB
  rcases leafB_k ha with k | k | k | k <;> rcases leafB_k hb with k' | k' | k' | k' <;> simp [k, k']
theorem rd_same {X Y : Nat → Itm} {p e : Nat} {t : Tr} (h : Rd X p t e) : ∀ e', Rd Y p t e' → e = e' ∧ ∀ j, p ≤ j → j < e → alikeB (X j) (Y j) = true := by
  induction h with
  | leaf p h =>
    intro e' h'
    obtain ⟨n, t, i, x, hl⟩ := leafTr_k h
    have hk := leafB_k h
    generalize hT : leafTr (X p) = T at h'
    cases h' with
    | leaf _ g =>
      refine ⟨rfl, fun j h1 h2 => ?_⟩
      obtain rfl : j = p := by omega
      exact (leaf_alike h g).1 hT
    | one =>
      rw [hl] at hT
      injection hT with e1
      omega
    | two =>
      rw [hl] at hT
      injection hT with e1
      omega
  | one p e l k s _ ih =>
    intro e' h'
    generalize hT : Tr.nd 4 (X p).op 0 0 0 0 l .nil = T at h'
    cases h' with
    | leaf _ g =>
      obtain ⟨n, t, i, x, hl⟩ := leafTr_k g
      rw [hl] at hT
      injection hT with e1
      have := leafB_k g
      omega
    | one _ _ l' k' s' g =>
      injection hT with _ e1 _ _ _ _ e2
      subst e2
      obtain ⟨a, b⟩ := ih _ g
      refine ⟨a, fun j h1 h2 => ?_⟩
      by_cases hj : j = p
      · subst hj; simp [alikeB, k, k', e1]
      · exact b j (by omega) h2
    | two =>
      injection hT with e1
      omega
  | two p q e l r k s h1 _ i1 i2 =>
    intro e' h'
    generalize hT : Tr.nd 5 (X p).op 0 0 0 0 l r = T at h'
    cases h' with
    | leaf _ g =>
      obtain ⟨n, t, i, x, hl⟩ := leafTr_k g
      rw [hl] at hT
      injection hT with e1
      have := leafB_k g
      omega
    | one =>
      injection hT with e1
      omega
    | two _ q' _ l' r' k' s' g1 g2 =>
      injection hT with _ e1 _ _ _ _ e2 e3
      subst e2 e3
      obtain ⟨a1, b1⟩ := i1 _ g1
      subst a1
      obtain ⟨a2, b2⟩ := i2 _ g2
      refine ⟨a2, fun j c1 c2 => ?_⟩
      by_cases hj : j = p
      · subst hj; simp [alikeB, k, k', e1]
      · by_cases hq : j < q
        · exact b1 j (by omega) hq
        · exact b2 j (by omega) c2
theorem rd_alike {X Y : Nat → Itm} {p e : Nat} {t : Tr} (h : Rd X p t e) : ∀ t' e', Rd Y p t' e' → (∀ j, p ≤ j → j < e → alikeB (X j) (Y j) = true) → t = t' ∧ e = e' := by
  have kk : ∀ {a b : Itm}, alikeB a b = true → a.k = b.k := fun {a b} h => by
    unfold alikeB at h
    split at h
    · assumption
    · cases h
  have oo : ∀ {a b : Itm}, alikeB a b = true → a.k = 4 ∨ a.k = 5 → a.op = b.op := fun {a b} h hk => by
    unfold alikeB at h
    rcases hk with k | k <;> (rw [if_pos (by by_cases c : a.k = b.k; exact c; simp [c] at h)] at h; simpa [k] using h)
  induction h with
  | leaf p h =>
    intro t' e' h' ha
    have h0 := ha p (Nat.le_refl _) (by omega)
    have hk := leafB_k h
    have e := kk h0
    cases h' with
    | leaf _ g => exact ⟨(leaf_alike h g).2 h0, rfl⟩
    | one => omega
    | two => omega
  | one p e l k s hr ih =>
    intro t' e' h' ha
    have hlt := hr.lt
    have h0 := ha p (Nat.le_refl _) (by omega)
    have e1 := kk h0
    cases h' with
    | leaf _ g => have := leafB_k g; omega
    | one _ _ l' k' s' g =>
      obtain ⟨a, b⟩ := ih _ _ g fun j c1 c2 => ha j (by omega) c2
      rw [a, oo h0 (.inl k)]
      exact ⟨rfl, b⟩
    | two => omega
  | two p q e l r k s hr hr2 i1 i2 =>
    intro t' e' h' ha
    have hlt := hr.lt
    have hlt2 := hr2.lt
    have h0 := ha p (Nat.le_refl _) (by omega)
    have e1 := kk h0
    cases h' with
    | leaf _ g => have := leafB_k g; omega
    | one => omega
    | two _ q' _ l' r' k' s' g1 g2 =>
      obtain ⟨a1, b1⟩ := i1 _ _ g1 fun j c1 c2 => ha j (by omega) (by omega)
      subst b1
      obtain ⟨a2, b2⟩ := i2 _ _ g2 fun j c1 c2 => ha j (by omega) c2
      rw [a1, a2, oo h0 (.inr k)]
      exact ⟨rfl, b2⟩
end Go.Proofs.YtdlghljhgbakjaaDoor

/-
  PART: two rows that may be: alike just if their trees are, just if they are written alike.
-/
namespace Go.Proofs.YtdlghljhgbakjaaDoor
open Go.RowKit
def okI6 (a : Itm) : Prop := (0 ≤ a.n ∧ a.n ≤ 18446744073709551615) ∧ 0 ≤ a.t ∧ 0 ≤ a.i
theorem okT_of (X : Nat → Itm) (N : Nat) (h : ∀ j, okI6 (X j)) : ∀ m p, okT (ofT X N m p).1
  | 0, _ => trivial
  | m + 1, p => by
    have a := okT_of X N h m (p + 1)
    have b := okT_of X N h m (ofT X N m (p + 1)).2
    obtain ⟨h1, h2, h3⟩ := h p
    unfold ofT
    split
    · trivial
    simp only []
    split
    · exact ⟨h1, by omega, by omega, trivial, trivial⟩
    split
    · exact ⟨by omega, by omega, h3, trivial, trivial⟩
    split
    · exact ⟨by omega, h2, h3, trivial, trivial⟩
    split
    · exact ⟨by omega, by omega, by omega, trivial, trivial⟩
    split
    · exact ⟨by omega, by omega, by omega, a, trivial⟩
    split
    · exact ⟨by omega, by omega, by omega, a, b⟩
    · exact ⟨by omega, by omega, by omega, trivial, trivial⟩
theorem good_tree {X : Nat → Itm} {N : Nat} (hg : goodE X N = true) : 0 ≤ (endT X N N 0).1 ∧ Rd X 0 (ofT X N 20 0).1 (endT X N N 0).1.toNat ∧ mayT (ofT X N 20 0).1 = true := by
  unfold goodE at hg
  split at hg
  · rename_i h0
    have h0 : 0 ≤ (endT X N N 0).1 := of_decide_eq_true h0
    have hd := of_decide_eq_true hg
    obtain ⟨t, r1, r2, r3⟩ := end_rd X N N 0 h0
    have h12 : dep t ≤ 12 := by omega
    have e : ofT X N 20 0 = (t, (endT X N N 0).1.toNat) := r3 20 (by omega)
    rw [e]
    refine ⟨h0, r1, ?_⟩
    have := depthT_dep t 13
    have e2 : depthT t ((13 : Nat) : Int) = depthT t 13 := rfl
    unfold mayT
    rw [if_pos (decide_eq_true (show depthT t 13 ≤ 12 by omega))]
    exact r1.good
  · cases hg
theorem alike_law {X Y : Nat → Itm} {M N : Nat} (hX : ∀ j, okI6 (X j)) (hY : ∀ j, okI6 (Y j)) (gX : goodE X M = true) (gY : goodE Y N = true) {sm : Bool}
    (hs : sm = true ↔ (endT X M M 0).1 = (endT Y N N 0).1 ∧ ∀ j, j < (endT X M M 0).1.toNat → alikeB (X j) (Y j) = true) :
    sameB (ofT X M 20 0).1 (ofT Y N 20 0).1 = sm ∧ (textB (ofT X M 20 0).1 = textB (ofT Y N 20 0).1 ↔ sm = true) := by
  obtain ⟨x0, rx, mx'⟩ := good_tree gX
  obtain ⟨y0, ry, my⟩ := good_tree gY
  have ox := okT_of X M hX 20 0
  have oy := okT_of Y N hY 20 0
  generalize (ofT X M 20 0).1 = T at *
  generalize (ofT Y N 20 0).1 = U at *
  have key : T = U ↔ sm = true := by
    rw [hs]
    constructor
    · rintro rfl
      obtain ⟨a, b⟩ := rd_same rx _ ry
      exact ⟨by omega, fun j hj => b j (Nat.zero_le _) hj⟩
    · rintro ⟨_, h⟩
      exact (rd_alike rx _ _ ry fun j _ hj => h j hj).1
  refine ⟨?_, ?_⟩
  · unfold sameB
    rw [mx', my, if_pos rfl, if_pos rfl]
    have := sameT_iff T U
    rw [key] at this
    cases h1 : sameT T U <;> cases sm <;> simp_all
  · unfold textB
    rw [mx', my, if_pos rfl, if_pos rfl, ← key]
    obtain ⟨g1, _⟩ := good_GT T ox rx.good
    obtain ⟨g2, _⟩ := good_GT U oy ry.good
    exact ⟨fun h => text_inj g1 U g2 h, fun h => by rw [h]⟩
end Go.Proofs.YtdlghljhgbakjaaDoor

/-
  PART: the law ExprSame: its table.
-/
namespace Go.Proofs.YtdlghljhgbakjaaDoor
open Go.RowKit
def itmOf : List AV → Itm
  | [a0, a1, a2, a3, a4, a5] => ⟨intA a0, intA a1, intA a2, intA a3, intA a4, intA a5⟩
  | _ => ⟨0, 0, 0, 0, 0, 0⟩
def rowX : AV → Nat → Itm
  | .sl _ _ get _ _ => fun j => itmOf (get j)
  | _ => fun _ => itmOf []
def rowN : AV → Nat
  | .sl n _ _ _ _ => n
  | _ => 0
noncomputable section
def good12 (r : AV) : AV := .tup [.v (.int .i64 (endT (rowX r) (rowN r) (rowN r) 0).1), .v (.bool (goodE (rowX r) (rowN r)))]
/-- Contracts that leave all as it was. -/
def tabS (f : Nat) (args : List AV) : Option (Tree AV) := match f, args with
  | 11, [] => some (.ret (.lit (.bool true)))
  | 12, [r] => some (ctrT 12 [r] (good12 r))
  | 14, [.agg a, .agg b] => some (ctrT 14 [.agg a, .agg b] (.v (.bool (alikeB (itmOf a) (itmOf b)))))
  | 15, [.any φ, .any ψ] => some (ctrT 15 [.any φ, .any ψ] (.v (.bool (sameB (treeOf φ) (treeOf ψ)))))
  | 16, [.any φ] => some (ctrT 16 [.any φ] (.v (bytesV (textB (treeOf φ)))))
  | _, _ => none
theorem tabS_ok : TabOk Tryd.prog tabS := by
  intro f args t a ht hh
  unfold tabS at ht
  split at ht <;> cases ht
  · cases hh; exact wakes11
  all_goals
    obtain ⟨h1, h2⟩ := hh
    cases h2
    exact h1
def tabSF (f : Nat) (args : List AV) : Option (Tree AV) := match f, args with
  | 13, [r, p, m] => some (.side (FrzOk Tryd.prog 13 [r, p, m] (ansOf (rowX r) (rowN r) (intA p) (intA m))) (.ret (ansOf (rowX r) (rowN r) (intA p) (intA m))))
  | _, _ => none
theorem tabSF_ok : TabFOk Tryd.prog tabSF := by
  intro f args t a ht hh
  unfold tabSF at ht
  split at ht
  · cases ht
    obtain ⟨h1, h2⟩ := hh
    cases h2
    exact h1
  · cases ht
noncomputable def cxS (dec : Nat → St → Option Bool) : Cx := ⟨Tryd.prog, ctrOf2 tabS tabSF, dec⟩
theorem cxS_ok (dec : Nat → St → Option Bool) : CtrOk (cxS dec) := ctrOf2_ok tabS_ok tabSF_ok dec
end
end Go.Proofs.YtdlghljhgbakjaaDoor

/-
  PART: the law ExprSame: its stages.
-/
namespace Go.Proofs.YtdlghljhgbakjaaDoor
open Go.RowKit
noncomputable section
noncomputable def c3 : Code := codeOf Tryd.f3
noncomputable def res3 : St → Option AV := resF Tryd.prog Tryd.f3.results.toList
noncomputable def body3 : Code := cin (cin (cr (cl (behind 8 c3))))
noncomputable def a3 : Code := cl (cl (behind 8 c3))
noncomputable def tail3 : Code := cr (behind 8 c3)
theorem code3 : c3 = seqs (firsts 8 c3) (.seq (.seq a3 (.block 0 (.loop body3))) tail3) := by kernel_rfl
def ds3a : List (Nat × Bool) := [(0, false), (1, false), (4, false), (5, false), (9, false), (11, false), (13, false)]
def ds3b : List (Nat × Bool) := [(0, false), (1, false), (4, false), (5, false), (9, false), (11, false), (13, true), (14, true)]
noncomputable def pre3 (dec : List (Nat × Bool)) (M N : Nat) (X Y : Nat → Itm) : Tree Lf := (codeE (cxS (decL dec)) (evs (cxS (decL dec)) 60) (joins (firsts 8 c3)) (entry [rowA M X, rowA N Y])).map (lfR 0 ds3a true res3)
end
end Go.Proofs.YtdlghljhgbakjaaDoor

/-
  PART: the law ExprSame: its run.
-/
namespace Go.Proofs.YtdlghljhgbakjaaDoor
open Go.RowKit
noncomputable section
variable (M N : Nat) (X Y : Nat → Itm) (T U : Tr) (e : Int) (sm : Bool) (i : Int)
abbrev eX (X : Nat → Itm) (M : Nat) : Int := (endT X M M 0).1
abbrev tX (X : Nat → Itm) (M : Nat) : Tr := (ofT X M 20 0).1
def G12 : Prop := PureOk Tryd.prog 12 [rowA M X] (.tup [.v (.int .i64 (eX X M)), .v (.bool (goodE X M))])
def F13 : Prop := FrzOk Tryd.prog 13 [rowA M X, .lit (.int .i64 0), .lit (.int .i64 20)] (ansOf X M 0 20)
def st3 : St := { sl := [(0, rowA M X), (1, rowA N Y), (4, .lit (.bool false)), (5, .v (.int .i64 e)), (9, anyT T), (11, anyT U), (13, .v (.bool sm))], hp := [], nx := 0, rd := [], wr := [], ws := [], wb := [] }
def inv3 : St := { sl := [(0, rowA M X), (1, rowA N Y), (4, .lit (.bool false)), (5, .v (.int .i64 e)), (9, anyT T), (11, anyT U), (13, .v (.bool sm)), (14, .v (.int .i64 i))], hp := [], nx := 0, rd := [], wr := [], ws := [], wb := [] }
def badLen3 : Bool := if decide ((M : Int) > 60) = true then true else decide ((N : Int) > 60)
def bad3 : Bool := if (!goodE X M) = true then true else !goodE Y N
theorem pre3_t : pre3 [(22, true)] M N X Y = .side (badLen3 M N = true) (.ret (.out (.lit (.bool true)))) := by kernel_rfl
theorem pre3_b : pre3 [(22, false), (39, true)] M N X Y = .side (badLen3 M N = false) (.side (G12 M X) (.side (G12 N Y) (.side (bad3 M N X Y = true) (.ret (.out (.lit (.bool true))))))) := by kernel_rfl
theorem pre3_g : pre3 [(22, false), (39, false)] M N X Y = .side (badLen3 M N = false) (.side (G12 M X) (.side (G12 N Y) (.side (bad3 M N X Y = false) (.side (F13 M X) (.side (F13 N Y)
    (.ret (.go .norm (some (st3 M N X Y (tX X M) (tX Y N) (eX X M) (eX X M == eX Y N))))))))))  := by kernel_rfl
theorem init3 : (codeE (cxS (decL [])) (evs (cxS (decL [])) 60) a3 (st3 M N X Y T U e sm)).map (lfR 0 ds3b true res3) = .ret (.go .norm (some (inv3 M N X Y T U e sm 0))) := by kernel_rfl
def in3 (dec : List (Nat × Bool)) : Tree Lf := (codeE (cxS (decL dec)) (evs (cxS (decL dec)) 60) body3 (inv3 M N X Y T U e sm i)).map (lfR 0 ds3b true res3)
def go3 : Bool := if decide (i < e) = true then sm else false
theorem stop3 : in3 M N X Y T U e sm i [(59, false)] = .side (go3 e sm i = false) (.ret (.go (.exit 0) (some (inv3 M N X Y T U e sm i)))) := by kernel_rfl
theorem next3 : in3 M N X Y T U e sm i [(59, true)] = .side (go3 e sm i = true) (.side (0 ≤ i ∧ i < (M : Int)) (.side (0 ≤ i ∧ i < (N : Int)) (.side (PureOk Tryd.prog 14 [itmA (X i.toNat), itmA (Y i.toNat)] (.v (.bool (alikeB (X i.toNat) (Y i.toNat)))))
    (.ret (.go .norm (some (inv3 M N X Y T U e (alikeB (X i.toNat) (Y i.toNat)) (wr (i + 1)))))))))  := by kernel_rfl
end
end Go.Proofs.YtdlghljhgbakjaaDoor

/-
  PART: the law ExprSame answers true.
-/
namespace Go.Proofs.YtdlghljhgbakjaaDoor
open Go.RowKit
noncomputable section
section
variable (M N : Nat) (X Y : Nat → Itm) (T U : Tr) (e : Int) (sm : Bool) (i : Int)
def same15 : Prop := PureOk Tryd.prog 15 [anyT T, anyT U] (.v (.bool (sameB (treeOf (TrR T)) (treeOf (TrR U)))))
def txt16 (T : Tr) : Prop := PureOk Tryd.prog 16 [anyT T] (.v (bytesV (textB (treeOf (TrR T)))))
theorem tail3_eq : (codeE (cxS (decL [])) (evs (cxS (decL [])) 60) tail3 (inv3 M N X Y T U e sm i)).map (lfR 0 [] false res3) =
    .side (same15 T U) (.side ((sameB (treeOf (TrR T)) (treeOf (TrR U)) == sm) = true → txt16 T ∧ txt16 U)
      (.ret (.out (.v (.bool (if (sameB (treeOf (TrR T)) (treeOf (TrR U)) == sm) = true then ((B (textB (treeOf (TrR T)))).toList == (B (textB (treeOf (TrR U)))).toList) == sm else false)))))) := by kernel_rfl
end
structure K3 where
  i : Nat
  sm : Bool
structure J3 (M N : Nat) (X Y : Nat → Itm) (k : K3) : Prop where
  le : (k.i : Int) ≤ eX X M
  sm : k.sm = true ↔ eX X M = eX Y N ∧ ∀ j, j < k.i → alikeB (X j) (Y j) = true
def Inv3 (M N : Nat) (X Y : Nat → Itm) (k : K3) : St := inv3 M N X Y (tX X M) (tX Y N) (eX X M) k.sm (k.i : Nat)
def Out3 (M N : Nat) (X Y : Nat → Itm) (s : St) : Prop := ∃ k : K3, s = Inv3 M N X Y k ∧ (k.sm = true ↔ eX X M = eX Y N ∧ ∀ j, j < (eX X M).toNat → alikeB (X j) (Y j) = true)
variable {M N : Nat} {X Y : Nat → Itm} {B : Start}
theorem round3 (hB : B.nx0 = 0) (hT : codeOk B.N body3 = true) (hM : M ≤ 60) (hN : N ≤ 60) (h0 : 0 ≤ eX X M) (h1 : 0 ≤ eX Y N) {O : AV → Prop} (k : K3) (hk : J3 M N X Y k) :
    WpC Tryd.prog B body3 (Inv3 M N X Y k) (Round B res3 (Inv3 M N X Y) (J3 M N X Y) (fun k => (eX X M).toNat - k.i) 0 k (Out3 M N X Y) O) := by
  have lX : ((0 : Nat) : Int) < eX X M ∧ eX X M ≤ M := (endT_le X M M 0).2.1 h0
  have lY : ((0 : Nat) : Int) < eX Y N ∧ eX Y N ≤ N := (endT_le Y N N 0).2.1 h1
  obtain ⟨i, sm⟩ := k
  obtain ⟨hle, hs⟩ := hk
  simp only at hle hs
  cases hg : go3 (eX X M) sm (i : Nat) with
  | false =>
    refine wpc_endH (cx := cxS (decL [(59, false)])) (n := 60) (ds := ds3b) (gb := true) (res := res3) (O := O) (cxS_ok _) fitTry hT ?_
    rw [hB]
    show (in3 M N X Y (tX X M) (tX Y N) (eX X M) sm (i : Nat) [(59, false)]).wp _
    rw [stop3]
    refine ⟨hg, rfl, _, .refl _, ⟨i, sm⟩, rfl, ?_⟩
    show sm = true ↔ _
    unfold go3 at hg
    cases sm with
    | true =>
      have hi : ¬ ((i : Int) < eX X M) := by
        intro hlt
        rw [if_pos (decide_eq_true hlt)] at hg
        cases hg
      have : (eX X M).toNat = i := by omega
      rw [this]; exact hs
    | false =>
      refine ⟨fun h => (by cases h), fun ⟨h2, h3⟩ => hs.2 ⟨h2, fun j hj => h3 j (by omega)⟩⟩
  | true =>
    have hlt : (i : Int) < eX X M ∧ sm = true := by
      unfold go3 at hg
      split at hg
      · rename_i h; exact ⟨of_decide_eq_true h, hg⟩
      · cases hg
    obtain ⟨hlt, rfl⟩ := hlt
    obtain ⟨he, ha⟩ := hs.1 rfl
    have ti : ((i : Nat) : Int).toNat = i := Int.toNat_natCast i
    have w1 : wr ((i : Int) + 1) = ((i + 1 : Nat) : Int) := by rw [wr_in (by omega) (by omega)]; omega
    refine wpc_endH (cx := cxS (decL [(59, true)])) (n := 60) (ds := ds3b) (gb := true) (res := res3) (O := O) (cxS_ok _) fitTry hT ?_
    rw [hB]
    show (in3 M N X Y (tX X M) (tX Y N) (eX X M) true (i : Nat) [(59, true)]).wp _
    rw [next3, w1, ti]
    refine ⟨hg, ⟨by omega, by omega⟩, ⟨by omega, by omega⟩, alike14_ok _ _, ⟨i + 1, alikeB (X i) (Y i)⟩, .refl _, ⟨by show ((i + 1 : Nat) : Int) ≤ _; omega, ?_⟩, by show (eX X M).toNat - (i + 1) < (eX X M).toNat - i; omega⟩
    show alikeB (X i) (Y i) = true ↔ _
    refine ⟨fun h => ⟨he, fun j hj => ?_⟩, fun ⟨_, h⟩ => h i (by show i < i + 1; omega)⟩
    have hj : j < i + 1 := hj
    by_cases hji : j = i
    · rw [hji]; exact h
    · exact ha j (by omega)
end
end Go.Proofs.YtdlghljhgbakjaaDoor

/-
  PART: the law ExprSame answers true: the run.
-/
namespace Go.Proofs.YtdlghljhgbakjaaDoor
open Go.RowKit
noncomputable section
theorem lit_arg2 {f : Nat} {r a : AV} {p m : Int} (h : FrzOk Tryd.prog f [r, .v (.int .i64 p), .v (.int .i64 m)] a) : FrzOk Tryd.prog f [r, .lit (.int .i64 p), .lit (.int .i64 m)] a :=
  h.pre fun E vs hr => by
    cases hr with | cons h1 h2 => cases h2 with | cons h2 h3 => cases h3 with | cons h3 h4 => exact .cons h1 (.cons (c_lit _ _ h2) (.cons (c_lit _ _ h3) h4))
theorem bloop (bs : ByteArray) : ∀ k i r, bs.size - i = k → ByteArray.toList.loop bs i r = r.reverse ++ bs.data.toList.drop i := by
  intro k
  induction k with
  | zero =>
    intro i r h
    unfold ByteArray.toList.loop
    rw [if_neg (by omega), List.drop_eq_nil_of_le (by rw [Array.length_toList]; show bs.size ≤ i; omega), List.append_nil]
  | succ k ih =>
    intro i r h
    have hi : i < bs.data.size := by show i < bs.size; omega
    unfold ByteArray.toList.loop
    rw [if_pos (by show i < bs.size; omega), ih (i + 1) _ (by omega)]
    have hd : bs.data.toList.drop i = bs.data[i] :: bs.data.toList.drop (i + 1) := by
      rw [List.drop_eq_getElem_cons (i := i) (by rw [Array.length_toList]; exact hi)]
      simp
    rw [hd]
    have : bs.get! i = bs.data[i] := by
      show bs.data[i]! = _
      rw [getElem!_pos bs.data i hi]
    simp [this]
theorem B_toList (l : List UInt8) : (B l).toList = l := by
  show ByteArray.toList.loop (B l) 0 [] = l
  rw [bloop _ _ _ _ rfl]; simp [B]
theorem law3_frz (M N : Nat) (X Y : Nat → Itm) (hX : ∀ j, okI6 (X j)) (hY : ∀ j, okI6 (Y j)) : FrzOk Tryd.prog 3 [rowA M X, rowA N Y] (.lit (.bool true)) := by
  let O : AV → Prop := fun a' => ∀ E v, Rep E a' v → Rep E (.lit (.bool true)) v
  refine frz_of_ends fitTry Tryd.func3 (c := c3) (by kernel_rfl) (Nat.le_of_ble_eq_true (by kernel_rfl)) (O := O) (fun E w hd hf => ?_) fun a' h => h
  rw [code3]
  cases hb : badLen3 M N with
  | true =>
    refine wpc_stageR (cx := cxS (decL [(22, true)])) (n := 60) (ds := ds3a) (gb := true) (res := res3) (O := O) (cxS_ok _) fitTry (by simp [firsts]) (by kernel_rfl) ?_ ends_ret
    show (pre3 [(22, true)] M N X Y).wp _
    rw [pre3_t]
    exact ⟨hb, fun E v hv => hv⟩
  | false =>
    have hM : M ≤ 60 ∧ N ≤ 60 := by
      unfold badLen3 at hb
      split at hb
      · cases hb
      · rename_i h1
        have h2 := of_decide_eq_false hb
        simp at h1
        omega
    have g1 : G12 M X := good12_ok X M (by omega)
    have g2 : G12 N Y := good12_ok Y N (by omega)
    cases hq : bad3 M N X Y with
    | true =>
      refine wpc_stageR (cx := cxS (decL [(22, false), (39, true)])) (n := 60) (ds := ds3a) (gb := true) (res := res3) (O := O) (cxS_ok _) fitTry (by simp [firsts]) (by kernel_rfl) ?_ ends_ret
      show (pre3 [(22, false), (39, true)] M N X Y).wp _
      rw [pre3_b]
      exact ⟨hb, g1, g2, hq, fun E v hv => hv⟩
    | false =>
      have hg : goodE X M = true ∧ goodE Y N = true := by
        unfold bad3 at hq
        cases h1 : goodE X M <;> cases h2 : goodE Y N <;> simp_all
      have f1 : F13 M X := lit_arg2 (of_ok X M (by omega) 20 (by omega) 0 (by omega))
      have f2 : F13 N Y := lit_arg2 (of_ok Y N (by omega) 20 (by omega) 0 (by omega))
      have x0 : 0 ≤ eX X M := (good_tree hg.1).1
      have y0 : 0 ≤ eX Y N := (good_tree hg.2).1
      refine wpc_stageR (cx := cxS (decL [(22, false), (39, false)])) (n := 60) (ds := ds3a) (gb := true) (res := res3) (O := O) (cxS_ok _) fitTry (by simp [firsts]) (by kernel_rfl) ?_ ends_ret
      show (pre3 [(22, false), (39, false)] M N X Y).wp _
      rw [pre3_g]
      refine ⟨hb, g1, g2, hq, f1, f2, ?_⟩
      show WpC _ _ _ _ _
      refine wpc_ioloop (cx := cxS (decL [])) (n := 60) (ds := ds3b) (gb := true) (res := res3) (O := O) (cxS_ok _) fitTry (Inv3 M N X Y) (J3 M N X Y) (fun k => (eX X M).toNat - k.i) (Out3 M N X Y) (by kernel_rfl) ?_ (fun k hk => round3 rfl (by kernel_rfl) hM.1 hM.2 x0 y0 k hk) ends_ret ?_
      · show ((codeE (cxS (decL [])) (evs (cxS (decL [])) 60) a3 (st3 M N X Y (tX X M) (tX Y N) (eX X M) (eX X M == eX Y N))).map (lfR 0 ds3b true res3)).wp _
        rw [init3]
        exact ⟨rfl, ⟨0, eX X M == eX Y N⟩, .refl _, ⟨x0, by show (eX X M == eX Y N) = true ↔ _; rw [beq_iff_eq]; exact ⟨fun h => ⟨h, fun j hj => absurd hj (Nat.not_lt_zero j)⟩, fun h => h.1⟩⟩⟩
      · rintro s ⟨k, rfl, hk⟩
        obtain ⟨l1, l2⟩ := alike_law hX hY hg.1 hg.2 hk
        refine wpc_of_lfR (cx := cxS (decL [])) (n := 60) (ds := []) (gb := false) (res := res3) (O := O) (cxS_ok _) fitTry (by kernel_rfl) ?_ ends_ret
        show ((codeE (cxS (decL [])) (evs (cxS (decL [])) 60) tail3 (inv3 M N X Y (tX X M) (tX Y N) (eX X M) k.sm (k.i : Nat))).map (lfR 0 [] false res3)).wp _
        rw [tail3_eq]
        refine ⟨?_, fun _ => ⟨?_, ?_⟩, ?_⟩
        · unfold same15; rw [treeOf_tr, treeOf_tr]; exact same15_ok _ _
        · unfold txt16; rw [treeOf_tr]; exact text16_ok _ (okT_of X M hX 20 0)
        · unfold txt16; rw [treeOf_tr]; exact text16_ok _ (okT_of Y N hY 20 0)
        · intro E v hv
          rw [treeOf_tr, treeOf_tr, l1] at hv
          have e1 : (if (k.sm == k.sm) = true then ((B (textB (tX X M))).toList == (B (textB (tX Y N))).toList) == k.sm else false) = true := by
            rw [if_pos (by simp), B_toList, B_toList]
            cases hs : k.sm with
            | true =>
              have := l2.2 hs
              simp [this]
            | false =>
              have : textB (tX X M) ≠ textB (tX Y N) := fun h => by rw [l2.1 h] at hs; cases hs
              simp [this]
          rw [e1] at hv
          cases hv with
          | v _ _ => exact .lit _ rfl
end
end Go.Proofs.YtdlghljhgbakjaaDoor

/-
  PART: the law ExprSame: from any arguments.
-/
namespace Go.Proofs.YtdlghljhgbakjaaDoor
open Go.RowKit
theorem Rep.sl_congr {E : Env} {n k : Nat} {get get' : Nat → List AV} {nl nl' full : Bool} {v : Value} (h : ∀ i, i < n → get i = get' i) (hv : Rep E (.sl n k get nl full) v) : Rep E (.sl n k get' nl' false) v := by
  cases hv with
  | slNil hn => exact .slNil hn
  | slEmp hn hf => exact .slEmp hn fun e => by cases e
  | sl q1 q2 q3 q4 q5 q6 => exact .sl q1 q2 (fun e => by cases e) q4 (fun i hi => h i hi ▸ q5 i hi) q6
noncomputable section
def ksI6 : List Ck := [.int .u8, .int .u8, .int .u64, .int .u8, .int .u8, .int .u8]
def ksE2 : List (Bool × List Ck) := [(false, [.row ksI6]), (false, [.row ksI6])]
theorem wf_u64 {z : Int} (h : (Lit.int .u64 z).wf = true) : 0 ≤ z ∧ z ≤ 18446744073709551615 := by
  simp only [Lit.wf, Bool.and_eq_true, decide_eq_true_eq] at h; exact ⟨h.1, h.2⟩
theorem wf_u8 {z : Int} (h : (Lit.int .u8 z).wf = true) : 0 ≤ z ∧ z ≤ 255 := by
  simp only [Lit.wf, Bool.and_eq_true, decide_eq_true_eq] at h; exact ⟨h.1, h.2⟩
theorem itm_of {l : List AV} (h : Shps ksI6 l) : l = itmC (itmOf l) ∧ okI6 (itmOf l) := by
  unfold ksI6 at h
  cases h with | cons h0 t => cases t with | cons h1 t => cases t with | cons h2 t => cases t with | cons h3 t => cases t with | cons h4 t => cases t with | cons h5 t => cases t with | nil =>
  cases h0; cases h1; cases h2; cases h3; cases h4; cases h5
  rename_i h2 _ h3 _ h4 _ _
  refine ⟨rfl, wf_u64 (by assumption), (wf_u8 (by assumption)).1, (wf_u8 (by assumption)).1⟩
/-- The items of a row that is told. -/
def itmX (n : Nat) (g : Nat → List AV) (j : Nat) : Itm := if j < n then itmOf (g j) else ⟨0, 0, 0, 0, 0, 0⟩
theorem itmX_ok {n : Nat} {g : Nat → List AV} (h : ∀ i, i < n → Shps ksI6 (g i)) (j : Nat) : okI6 (itmX n g j) := by
  unfold itmX
  split
  · rename_i hj; exact (itm_of (h j hj)).2
  · exact ⟨⟨by decide, by decide⟩, by decide, by decide⟩
theorem itmX_eq {n : Nat} {g : Nat → List AV} (h : ∀ i, i < n → Shps ksI6 (g i)) (j : Nat) (hj : j < n) : g j = itmC (itmX n g j) := by
  unfold itmX
  rw [if_pos hj]; exact (itm_of (h j hj)).1
theorem args_e2 {al : List AV} (h : ArgsOk ksE2 al) : ∃ (M N : Nat) (X Y : Nat → Itm), (∀ j, okI6 (X j)) ∧ (∀ j, okI6 (Y j)) ∧ ∀ E vs, Reps E al vs → Reps E [rowA M X, rowA N Y] vs := by
  unfold ksE2 at h
  cases h with | cons h0 t => cases t with | cons h1 t => cases t with | nil =>
  cases h0 with | cons h0 t0 => cases t0 with | nil =>
  cases h1 with | cons h1 t1 => cases t1 with | nil =>
  cases h0 with
  | row _ n0 g0 hn0 hs0 =>
    cases h1 with
    | row _ n1 g1 hn1 hs1 =>
      refine ⟨n0, n1, itmX n0 g0, itmX n1 g1, itmX_ok hs0, itmX_ok hs1, fun E vs hv => ?_⟩
      cases hv with | cons r0 t => cases t with | cons r1 t =>
      exact .cons (r0.sl_congr fun i hi => itmX_eq hs0 i hi) (.cons (r1.sl_congr fun i hi => itmX_eq hs1 i hi) t)
theorem args3 : argShs Tryd.prog 6 Tryd.f3.params.toList = some ksE2 := by kernel_rfl
/-- A law's run from what it answers. -/
theorem runs_of_frz {P : Program} {f : Nat} {fn : Func} {c : Code} (hfit : Fit P) (hfn : P.funcs[f]? = some fn) (hb : fn.body = some c) {ks : List (Bool × List Ck)} (h : ∀ al, ArgsOk ks al → ∃ args, (∀ E vs, Reps E al vs → Reps E args vs) ∧ FrzOk P f args (.lit (.bool true))) : LawRuns P f ks := by
  intro w hg vals al hok hargs
  obtain ⟨args, hA, hF⟩ := h al hok
  rcases hF none (frozenE w hg) w vals (fun v w' => v = .bool true ∧ Quiet w w') (fun _ h => h) (frozenE_ok w hg) (hA _ _ hargs) (fun v w' E' _ _ _ _ hr hq => ⟨by cases hr; rfl, hq⟩) with ⟨u, h1, _⟩ | ⟨_, h2⟩
  · have hname' : ¬ fn.name = "runtime.NumGoroutine" := by simpa using (fit_func hfit hfn hb).2
    have e : Sem.run P (callFunc f vals) w = .ok (.enter f vals) w := by simp [callFunc, hfn, hname', hb]
    rw [e] at h1
    cases h1
  · exact h2
theorem law3_runs : LawRuns Tryd.prog 3 ksE2 := runs_of_frz fitTry Tryd.func3 (c := c3) (by kernel_rfl) fun al hok => by
  obtain ⟨M, N, X, Y, hX, hY, hA⟩ := args_e2 hok
  exact ⟨_, hA, law3_frz M N X Y hX hY⟩
end
end Go.Proofs.YtdlghljhgbakjaaDoor
