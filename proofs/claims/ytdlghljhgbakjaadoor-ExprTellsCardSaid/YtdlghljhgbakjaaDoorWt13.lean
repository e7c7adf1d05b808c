/-
  PARTS, one behind the other: ES ET GE GF EV GG GH GI GJ GK GL EU HA HB HC EW EX.
-/
import Derived.Test.YtdlghljhgbakjaaDoorWt12
/-
  PART: the law's table: Good, alike, Same, Text: the contracts.
-/
namespace Go.Proofs.YtdlghljhgbakjaaDoor
open Go.RowKit
noncomputable section
variable (X : Nat → Itm) (N : Nat) (t u : Tr) (a b : Itm)
theorem ev12 : ((evs (cxG X N (decL [])) 60).call 12 [rowA N X] .nil).ans = .side (PureOk Tryd.prog 22 [rowA N X, .lit (.int .i64 0)] (ansE X N 0)) (.ret (.tup [.v (.int .i64 (if decide ((endT X N N 0).1 ≥ 0) = true then (endT X N N 0).1 else (endT X N N 0).1)), .v (.bool (goodE X N))])) := by kernel_rfl
abbrev X0 : Nat → Itm := fun _ => ⟨0, 0, 0, 0, 0, 0⟩
abbrev MT (t : Tr) : Bool := mayT (treeOf (TrR t))
theorem ev15 : ((evs (cxG X0 0 (decL [])) 60).call 15 [anyT t, anyT u] .nil).ans = .side (PureOk Tryd.prog 17 [anyT t] (.v (.bool (MT t)))) (.side (MT t = true → PureOk Tryd.prog 17 [anyT u] (.v (.bool (MT u))) ∧ (MT u = true → PureOk Tryd.prog 45 [anyT t, anyT u] (.v (.bool (ST t u)))))
    (.ret (.v (.bool (if MT t = true then if MT u = true then ST t u else false else false))))) := by kernel_rfl
theorem ev16 : ((evs (cxG X0 0 (decL [])) 60).call 16 [anyT t] .nil).ans = .side (PureOk Tryd.prog 17 [anyT t] (.v (.bool (MT t)))) (.side ((!MT t) = false → PureOk Tryd.prog 46 [anyT t] (.v (bytesV (text (treeOf (TrR t))))))
    (.ret (.v (.string (if (!MT t) = true then B [] else B (text (treeOf (TrR t)))))))) := by kernel_rfl
theorem ev14 : ((evs (cx0 (decL [])) 60).call 14 [itmA a, itmA b] .nil).ans = .ret (.v (.bool (if (a.k != b.k) = true then false else if (a.k == 0) = true then a.n == b.n else if (a.k == 1) = true then a.i == b.i else if (a.k == 2) = true then if (a.t == b.t) = true then a.i == b.i else false else if (a.k == 3) = true then a.x == b.x else a.op == b.op))) := by kernel_rfl
theorem ev19 : ((evs (cxT (decL [])) 60).call 19 [anyT t] .nil).ans = .side (PureOk Tryd.prog 49 [anyT t, .lit (.int .i64 13)] (.v (.int .i64 (depthT (treeOf (TrR t)) 13)))) (.ret (.v (.int .i64 (depthT (treeOf (TrR t)) 13)))) := by kernel_rfl
end
theorem good12_ok (X : Nat → Itm) (N : Nat) (hN : N ≤ 1000) : PureOk Tryd.prog 12 [rowA N X] (.tup [.v (.int .i64 (endT X N N 0).1), .v (.bool (goodE X N))]) := by
  have h := end_ok X N hN N 0 (by omega) (by omega)
  have h' : PureOk Tryd.prog 22 [rowA N X, .lit (.int .i64 0)] (ansE X N 0) := lit_arg h
  have h9 := pure_hitX (cxG_ok X N _) rfl (ev12 X N) ⟨h', rfl⟩ (by kernel_rfl)
  rw [ite_self] at h9
  exact h9
theorem same15_ok (t u : Tr) : PureOk Tryd.prog 15 [anyT t, anyT u] (.v (.bool (sameB t u))) := by
  refine v_ok ?_ (pure_hitX (cxG_ok X0 0 _) rfl (ev15 t u) ⟨?_, fun _ => ⟨?_, fun _ => ?_⟩, rfl⟩ (by kernel_rfl))
  · simp only [MT, ST, treeOf_tr]
    unfold sameB
    cases mayT t <;> cases mayT u <;> rfl
  · simp only [MT, treeOf_tr]; exact may_ok t
  · simp only [MT, treeOf_tr]; exact may_ok u
  · simp only [ST, treeOf_tr]; exact same_ok t u
theorem may_dep {t : Tr} (h : mayT t = true) : dep t ≤ 12 ∧ goodT t = true := by
  unfold mayT at h
  split at h
  · rename_i hd
    exact ⟨dep_of (of_decide_eq_true hd), h⟩
  · cases h
theorem text16_ok (t : Tr) (hok : okT t) : PureOk Tryd.prog 16 [anyT t] (.v (bytesV (textB t))) := by
  refine s_ok (pure_hitX (cxG_ok X0 0 _) rfl (ev16 t) ⟨?_, fun h => ?_, rfl⟩ (by kernel_rfl)) ?_
  · simp only [MT, treeOf_tr]; exact may_ok t
  · simp only [MT, treeOf_tr] at h ⊢
    have hm : mayT t = true := by simpa using h
    obtain ⟨h1, h2⟩ := may_dep hm
    obtain ⟨g1, g2⟩ := good_GT t hok h2
    have hl := text_len g1 g2
    have : 2 ^ dep t ≤ 2 ^ 12 := Nat.pow_le_pow_right (by omega) h1
    exact text_ok fmtOk g1 g2 (by omega)
  · simp only [MT, treeOf_tr]
    unfold textB
    cases mayT t <;> rfl
theorem alike14_ok (a b : Itm) : PureOk Tryd.prog 14 [itmA a, itmA b] (.v (.bool (alikeB a b))) := by
  refine v_ok ?_ (pure_hitX (cx0_ok _) rfl (ev14 a b) rfl (by kernel_rfl))
  unfold alikeB
  simp only [ite_and']
  by_cases h : a.k = b.k
  · simp [h]
  · simp [h]
theorem depth19_ok (t : Tr) : PureOk Tryd.prog 19 [anyT t] (.v (.int .i64 (depthT t 13))) := by
  refine int_ok ?_ (pure_hitX (cxT_ok _) rfl (ev19 t) ⟨?_, rfl⟩ (by kernel_rfl))
  · rw [treeOf_tr]
  · rw [treeOf_tr]; exact lit_arg (depth_ok t 13 (by omega) (by omega))
end Go.Proofs.YtdlghljhgbakjaaDoor

/-
  PART: rows and trees, plainly.
-/
namespace Go.Proofs.YtdlghljhgbakjaaDoor
open Go.RowKit
def leafTr (a : Itm) : Tr := if a.k = 0 then .nd 0 0 a.n 0 0 0 .nil .nil else if a.k = 1 then .nd 1 0 0 0 a.i 0 .nil .nil else if a.k = 2 then .nd 2 0 0 a.t a.i 0 .nil .nil else .nd 3 0 0 0 0 a.x .nil .nil
inductive Rd (X : Nat → Itm) : Nat → Tr → Nat → Prop where
  | leaf (p : Nat) : leafB (X p) = true → Rd X p (leafTr (X p)) (p + 1)
  | one (p e : Nat) (l : Tr) : (X p).k = 4 → (sidesE (X p).op == 1) = true → Rd X (p + 1) l e → Rd X p (.nd 4 (X p).op 0 0 0 0 l .nil) e
  | two (p q e : Nat) (l r : Tr) : (X p).k = 5 → (sidesE (X p).op == 2) = true → Rd X (p + 1) l q → Rd X q r e → Rd X p (.nd 5 (X p).op 0 0 0 0 l r) e
theorem parts1 {a : Itm} (h : partsI a = 1) : a.k = 4 ∧ (sidesE a.op == 1) = true := by
  unfold partsI at h
  split at h
  · rename_i c; simpa using c
  split at h
  · omega
  split at h
  · omega
  · omega
theorem parts2 {a : Itm} (h : partsI a = 2) : a.k = 5 ∧ (sidesE a.op == 2) = true := by
  unfold partsI at h
  split at h
  · omega
  split at h
  · rename_i c; simpa using c
  split at h
  · omega
  · omega
theorem parts0 {a : Itm} (h : partsI a = 0) : leafB a = true := by
  unfold partsI at h
  split at h
  · omega
  split at h
  · omega
  split at h
  · assumption
  · omega
theorem leafB_k {a : Itm} (h : leafB a = true) : a.k = 0 ∨ a.k = 1 ∨ a.k = 2 ∨ a.k = 3 := by
  unfold leafB at h
  by_cases h0 : a.k = 0
  · exact .inl h0
  by_cases h1 : a.k = 1
  · exact .inr (.inl h1)
  by_cases h2 : a.k = 2
  · exact .inr (.inr (.inl h2))
  by_cases h3 : a.k = 3
  · exact .inr (.inr (.inr h3))
  · simp [h0, h1, h2, h3] at h
theorem Rd.lt {X : Nat → Itm} {p e : Nat} {t : Tr} (h : Rd X p t e) : p < e := by
  induction h with
  | leaf p h => omega
  | one p e l _ _ _ ih => omega
  | two p q e l r _ _ _ _ i1 i2 => omega
theorem Rd.good {X : Nat → Itm} {p e : Nat} {t : Tr} (h : Rd X p t e) : goodT t = true := by
  induction h with
  | leaf p h =>
    have hk := leafB_k h
    unfold leafB at h
    unfold leafTr
    rcases hk with k | k | k | k <;> simp [k] at h ⊢ <;> simp [goodT, isNil, h]
  | one p e l hk hs _ ih =>
    show (if (4 : Int) = 0 then _ else _) = _
    rw [if_neg (by decide), if_neg (by decide), if_neg (by decide), if_neg (by decide), if_pos rfl]
    simp [isNil, hs, ih]
  | two p q e l r hk hs _ _ i1 i2 =>
    show (if (5 : Int) = 0 then _ else _) = _
    rw [if_neg (by decide), if_neg (by decide), if_neg (by decide), if_neg (by decide), if_neg (by decide), if_pos rfl]
    simp [i1, i2]
    simpa using hs
theorem ofT_leaf {X : Nat → Itm} {N m p : Nat} (hp : ¬ N ≤ p) (h : leafB (X p) = true) : ofT X N (m + 1) p = (leafTr (X p), p + 1) := by
  rw [ofT, if_neg hp]
  unfold leafTr
  rcases leafB_k h with k | k | k | k <;> simp [k]
theorem end_rd (X : Nat → Itm) (N : Nat) : ∀ f p, 0 ≤ (endT X N f p).1 → ∃ t, Rd X p t (endT X N f p).1.toNat ∧ ((dep t : Nat) : Int) = (endT X N f p).2 ∧ ∀ m, dep t ≤ m → ofT X N m p = (t, (endT X N f p).1.toNat)
  | 0, p, h => absurd (show (0 : Int) ≤ -1 from h) (by omega)
  | f + 1, p, h => by
    have i1 := end_rd X N f (p + 1)
    have i2 := end_rd X N f (endT X N f (p + 1)).1.toNat
    unfold endT at h ⊢
    split at h
    · exact absurd (show (0 : Int) ≤ -1 from h) (by omega)
    rename_i hp
    rw [if_neg hp]
    split at h
    · exact absurd (show (0 : Int) ≤ -1 from h) (by omega)
    rename_i hn
    rw [if_neg hn]
    split at h
    · rename_i h0
      rw [if_pos h0]
      have hl := parts0 h0
      have hd : dep (leafTr (X p)) = 1 := by
        unfold leafTr
        rcases leafB_k hl with k | k | k | k <;> simp [k, dep]
      refine ⟨leafTr (X p), .leaf p hl, by rw [hd]; rfl, fun m hm => ?_⟩
      obtain ⟨m, rfl⟩ : ∃ m', m = m' + 1 := ⟨m - 1, by omega⟩
      exact ofT_leaf hp hl
    rename_i h0
    rw [if_neg h0]
    simp only [] at h ⊢
    split at h
    · exact absurd (show (0 : Int) ≤ -1 from h) (by omega)
    rename_i hn1
    rw [if_neg hn1]
    obtain ⟨l, r1, r2, r3⟩ := i1 (by omega)
    split at h
    · rename_i h1
      rw [if_pos h1]
      obtain ⟨k, s⟩ := parts1 h1
      have hd : dep (.nd 4 (X p).op 0 0 0 0 l .nil) = dep l + 1 := by show max (dep l) 0 + 1 = _; omega
      refine ⟨_, .one p _ l k s r1, ?_, fun m hm => ?_⟩
      · show ((dep _ : Nat) : Int) = max 0 _ + 1
        rw [hd, ← r2]; omega
      · obtain ⟨m, rfl⟩ : ∃ m', m = m' + 1 := ⟨m - 1, by omega⟩
        have := r3 m (by omega)
        rw [ofT, if_neg hp]
        simp only [k, this]
        rfl
    rename_i h1
    rw [if_neg h1]
    split at h
    · exact absurd (show (0 : Int) ≤ -1 from h) (by omega)
    rename_i hn2
    rw [if_neg hn2]
    obtain ⟨r, q1, q2, q3⟩ := i2 (by omega)
    have hP : partsI (X p) = 2 := by
      have : partsI (X p) = 0 ∨ partsI (X p) = 1 ∨ partsI (X p) = 2 ∨ partsI (X p) = -1 := by
        unfold partsI
        split
        · exact .inr (.inl rfl)
        split
        · exact .inr (.inr (.inl rfl))
        split
        · exact .inl rfl
        · exact .inr (.inr (.inr rfl))
      omega
    obtain ⟨k, s⟩ := parts2 hP
    have hd : dep (.nd 5 (X p).op 0 0 0 0 l r) = max (dep l) (dep r) + 1 := rfl
    refine ⟨_, .two p _ _ l r k s r1 q1, ?_, fun m hm => ?_⟩
    · show ((dep _ : Nat) : Int) = max (max 0 _) _ + 1
      rw [hd, ← r2, ← q2]; omega
    · obtain ⟨m, rfl⟩ : ∃ m', m = m' + 1 := ⟨m - 1, by omega⟩
      have a := r3 m (by omega)
      have b := q3 m (by omega)
      rw [ofT, if_neg hp]
      simp only [k, a, b]
      rfl
theorem leafTr_k {a : Itm} (h : leafB a = true) : ∃ n t i x, leafTr a = .nd a.k 0 n t i x .nil .nil := by
  unfold leafTr
  rcases leafB_k h with k | k | k | k <;> simp [k]
theorem leaf_alike {a b : Itm} (ha : leafB a = true) (hb : leafB b = true) : leafTr a = leafTr b ↔ alikeB a b = true := by
  unfold leafTr alikeB
  rcases leafB_k ha with k | k | k | k <;> rcases leafB_k hb with k' | k' | k' | k' <;> simp [k, k']
theorem rd_same {X Y : Nat → Itm} {p e : Nat} {t : Tr} (h : Rd X p t e) : ∀ e', Rd Y p t e' → e = e' ∧ ∀ j, p ≤ j → j < e → alikeB (X j) (Y j) = true := by
  induction h with
  | leaf p h =>
    intro e' h'
    obtain ⟨n, t, i, x, hl⟩ := leafTr_k h
    have hk := leafB_k h
    generalize hT : leafTr (X p) = T at h'
    cases h' with
    | leaf _ g =>
      refine ⟨rfl, fun j h1 h2 => ?_⟩
      obtain rfl : j = p := by omega
      exact (leaf_alike h g).1 hT
    | one =>
      rw [hl] at hT
      injection hT with e1
      omega
    | two =>
      rw [hl] at hT
      injection hT with e1
      omega
  | one p e l k s _ ih =>
    intro e' h'
    generalize hT : Tr.nd 4 (X p).op 0 0 0 0 l .nil = T at h'
    cases h' with
    | leaf _ g =>
      obtain ⟨n, t, i, x, hl⟩ := leafTr_k g
      rw [hl] at hT
      injection hT with e1
      have := leafB_k g
      omega
    | one _ _ l' k' s' g =>
      injection hT with _ e1 _ _ _ _ e2
      subst e2
      obtain ⟨a, b⟩ := ih _ g
      refine ⟨a, fun j h1 h2 => ?_⟩
      by_cases hj : j = p
      · subst hj; simp [alikeB, k, k', e1]
      · exact b j (by omega) h2
    | two =>
      injection hT with e1
      omega
  | two p q e l r k s h1 _ i1 i2 =>
    intro e' h'
    generalize hT : Tr.nd 5 (X p).op 0 0 0 0 l r = T at h'
    cases h' with
    | leaf _ g =>
      obtain ⟨n, t, i, x, hl⟩ := leafTr_k g
      rw [hl] at hT
      injection hT with e1
      have := leafB_k g
      omega
    | one =>
      injection hT with e1
      omega
    | two _ q' _ l' r' k' s' g1 g2 =>
      injection hT with _ e1 _ _ _ _ e2 e3
      subst e2 e3
      obtain ⟨a1, b1⟩ := i1 _ g1
      subst a1
      obtain ⟨a2, b2⟩ := i2 _ g2
      refine ⟨a2, fun j c1 c2 => ?_⟩
      by_cases hj : j = p
      · subst hj; simp [alikeB, k, k', e1]
      · by_cases hq : j < q
        · exact b1 j (by omega) hq
        · exact b2 j (by omega) c2
theorem rd_alike {X Y : Nat → Itm} {p e : Nat} {t : Tr} (h : Rd X p t e) : ∀ t' e', Rd Y p t' e' → (∀ j, p ≤ j → j < e → alikeB (X j) (Y j) = true) → t = t' ∧ e = e' := by
  have kk : ∀ {a b : Itm}, alikeB a b = true → a.k = b.k := fun {a b} h => by
    unfold alikeB at h
    split at h
    · assumption
    · cases h
  have oo : ∀ {a b : Itm}, alikeB a b = true → a.k = 4 ∨ a.k = 5 → a.op = b.op := fun {a b} h hk => by
    unfold alikeB at h
    rcases hk with k | k <;> (rw [if_pos (by by_cases c : a.k = b.k; exact c; simp [c] at h)] at h; simpa [k] using h)
  induction h with
  | leaf p h =>
    intro t' e' h' ha
    have h0 := ha p (Nat.le_refl _) (by omega)
    have hk := leafB_k h
    have e := kk h0
    cases h' with
    | leaf _ g => exact ⟨(leaf_alike h g).2 h0, rfl⟩
    | one => omega
    | two => omega
  | one p e l k s hr ih =>
    intro t' e' h' ha
    have hlt := hr.lt
    have h0 := ha p (Nat.le_refl _) (by omega)
    have e1 := kk h0
    cases h' with
    | leaf _ g => have := leafB_k g; omega
    | one _ _ l' k' s' g =>
      obtain ⟨a, b⟩ := ih _ _ g fun j c1 c2 => ha j (by omega) c2
      rw [a, oo h0 (.inl k)]
      exact ⟨rfl, b⟩
    | two => omega
  | two p q e l r k s hr hr2 i1 i2 =>
    intro t' e' h' ha
    have hlt := hr.lt
    have hlt2 := hr2.lt
    have h0 := ha p (Nat.le_refl _) (by omega)
    have e1 := kk h0
    cases h' with
    | leaf _ g => have := leafB_k g; omega
    | one => omega
    | two _ q' _ l' r' k' s' g1 g2 =>
      obtain ⟨a1, b1⟩ := i1 _ _ g1 fun j c1 c2 => ha j (by omega) (by omega)
      subst b1
      obtain ⟨a2, b2⟩ := i2 _ _ g2 fun j c1 c2 => ha j (by omega) c2
      rw [a1, a2, oo h0 (.inr k)]
      exact ⟨rfl, b2⟩
end Go.Proofs.YtdlghljhgbakjaaDoor

/-
  PART: what the document answers of a row: how it is written, what it comes to: the table.
-/
namespace Go.Proofs.YtdlghljhgbakjaaDoor
open Go.RowKit
def strX (a : Itm) : Int := if a.k < 4 then 5 else if a.k = 4 then 4 else if a.op < 5 then 1 else if a.op < 9 then 2 else 3
def leafV (L : Nat → Int) (K n : Nat) : Int := if n < K then L n else 0
/-- What a tree comes to, and how many leaves are told by then. -/
def evalT (L : Nat → Int) (K : Nat) : Tr → Nat → Int × Nat
  | .nil, n => (0, n)
  | .nd k op v _ _ _ l r, n => if k = 0 then (v, n) else if k = 4 then (oneN op (evalT L K l n).1, (evalT L K l n).2)
    else if k = 5 then (numDo op (evalT L K l n).1 (evalT L K r (evalT L K l n).2).1, (evalT L K r (evalT L K l n).2).2) else (leafV L K n, n + 1)
def rowL (K : Nat) (L : Nat → Int) : AV := .sl K 1 (fun j => [.v (.int .u64 (L j))]) false false
noncomputable section
def txX (X : Nat → Itm) (N : Nat) (p : Int) : Bs := text (ofT X N 100 p.toNat).1
def enX (X : Nat → Itm) (N : Nat) (p : Int) : Int := ((ofT X N 100 p.toNat).2 : Nat)
def ans23 (X : Nat → Itm) (N : Nat) (p : Int) : AV := .tup [.v (bytesV (txX X N p)), .v (.int .i64 (enX X N p))]
def evX (X : Nat → Itm) (N : Nat) (L : Nat → Int) (K : Nat) (p n : Int) : Int := (evalT L K (ofT X N 100 p.toNat).1 n.toNat).1
def cnX (X : Nat → Itm) (N : Nat) (L : Nat → Int) (K : Nat) (p n : Int) : Int := ((evalT L K (ofT X N 100 p.toNat).1 n.toNat).2 : Nat)
def ans24 (X : Nat → Itm) (N : Nat) (L : Nat → Int) (K : Nat) (p n : Int) : AV := .tup [.v (.int .u64 (evX X N L K p n)), .v (.int .i64 (enX X N p)), .v (.int .i64 (cnX X N L K p n))]
def tabD (X : Nat → Itm) (N : Nat) (L : Nat → Int) (K : Nat) (f : Nat) (args : List AV) : Option (Tree AV) := match f, args with
  | 52, [n] => some (ctrT 52 [n] (.v (bytesV (dig (intA n).toNat))))
  | 53, [.agg [a0, a1, a2, a3, a4, a5]] => some (ctrT 53 [.agg [a0, a1, a2, a3, a4, a5]] (.v (.int .i64 (strX (ptA a0 a1 a2 a3 a4 a5)))))
  | 54, [op] => some (ctrT 54 [op] (.v (bytesV (opT (intA op)))))
  | 55, [op, a] => some (ctrT 55 [op, a] (.v (.int .u64 (oneN (intA op) (intA a)))))
  | 56, [op, a, b] => some (ctrT 56 [op, a, b] (.v (.int .u64 (numDo (intA op) (intA a) (intA b)))))
  | 23, [r, p] => some (ctrT 23 [r, p] (ans23 X N (intA p)))
  | 24, [r, p, l, n] => some (ctrT 24 [r, p, l, n] (ans24 X N L K (intA p) (intA n)))
  | _, _ => none
theorem tabD_ok (X : Nat → Itm) (N : Nat) (L : Nat → Int) (K : Nat) : TabOk Tryd.prog (tabD X N L K) := by
  intro f args t a ht hh
  unfold tabD at ht
  split at ht <;> cases ht
  all_goals
    obtain ⟨h1, h2⟩ := hh
    cases h2
    exact h1
noncomputable def cxDD (X : Nat → Itm) (N : Nat) (L : Nat → Int) (K : Nat) (dec : Nat → St → Option Bool) : Cx := ⟨Tryd.prog, ctrOf (tabD X N L K), dec⟩
theorem cxDD_ok (X : Nat → Itm) (N : Nat) (L : Nat → Int) (K : Nat) (dec : Nat → St → Option Bool) : CtrOk (cxDD X N L K dec) := (ctrOf_ok (tabD_ok X N L K)).withDec dec
/-- A body's answers. -/
def bodD (X : Nat → Itm) (N : Nat) (L : Nat → Int) (K : Nat) (fn : Func) (dec : List (Nat × Bool)) (args : List AV) : Tree AV := (bodyE (cxDD X N L K (decL dec)) (evs (cxDD X N L K (decL dec)) 60) fn (codeOf fn) args .nil).ans
theorem bodD_ok {X : Nat → Itm} {N : Nat} {L : Nat → Int} {K : Nat} {f : Nat} {fn : Func} {dec : List (Nat × Bool)} {args : List AV} {t : Tree AV} {a : AV} (hf : Tryd.prog.funcs[f]? = some fn) (hb : fn.body = some (codeOf fn)) (h : bodD X N L K fn dec args = t) (ha : t.hit a) (hp : plainA 4 a = true) : PureOk Tryd.prog f args a :=
  pure_body (cx := cxDD X N L K (decL dec)) (cxDD_ok X N L K _) fitTry hf hb h ha hp
end
end Go.Proofs.YtdlghljhgbakjaaDoor

/-
  PART: what the document answers of a row: the normal forms (printed by nf.py).
-/
namespace Go.Proofs.YtdlghljhgbakjaaDoor
open Go.RowKit
noncomputable section
theorem ev52t (X : Nat → Itm) (N : Nat) (L : Nat → Int) (K : Nat) (n : Int) : bodD X N L K Tryd.f52 [(4,true)] [.v (.int .u64 n)] =
    Tree.side (decide (n < (10 : Int)) = true) (Tree.side ((0 : Int) ≤ n ∧ n ≤ IntKind.u64.wrap (n + (1 : Int)) ∧ IntKind.u64.wrap (n + (1 : Int)) ≤ ↑(ByteArray.mk #[(48 : UInt8), (49 : UInt8), (50 : UInt8), (51 : UInt8), (52 : UInt8), (53 : UInt8), (54 : UInt8), (55 : UInt8), (56 : UInt8), (57 : UInt8)]).size) (Tree.ret (AV.v (Value.string ((ByteArray.mk #[(48 : UInt8), (49 : UInt8), (50 : UInt8), (51 : UInt8), (52 : UInt8), (53 : UInt8), (54 : UInt8), (55 : UInt8), (56 : UInt8), (57 : UInt8)]).extract n.toNat (IntKind.u64.wrap (n + (1 : Int))).toNat))))) := by kernel_rfl
theorem ev52f (X : Nat → Itm) (N : Nat) (L : Nat → Int) (K : Nat) (n : Int) : bodD X N L K Tryd.f52 [(4,false)] [.v (.int .u64 n)] =
    Tree.side (decide (n < (10 : Int)) = false) (Tree.side ((10 : Int) ≠ (0 : Int)) (Tree.side (PureOk Tryd.prog (52 : Nat) [AV.v (Value.int IntKind.u64 (IntKind.u64.wrap (n.tdiv (10 : Int))))] (AV.v (Value.string (ByteArray.mk (List.toArray (dig (intA (AV.v (Value.int IntKind.u64 (IntKind.u64.wrap (n.tdiv (10 : Int)))))).toNat)))))) (Tree.side ((10 : Int) ≠ (0 : Int)) (Tree.side (PureOk Tryd.prog (52 : Nat) [AV.v (Value.int IntKind.u64 (n.tmod (10 : Int)))] (AV.v (Value.string (ByteArray.mk (List.toArray (dig (intA (AV.v (Value.int IntKind.u64 (n.tmod (10 : Int))))).toNat)))))) (Tree.side ((ByteArray.mk (List.toArray (dig (intA (AV.v (Value.int IntKind.u64 (IntKind.u64.wrap (n.tdiv (10 : Int)))))).toNat))).size + (ByteArray.mk (List.toArray (dig (intA (AV.v (Value.int IntKind.u64 (n.tmod (10 : Int))))).toNat))).size ≤ (9223372036854775807 : Nat)) (Tree.ret (AV.v (Value.string (ByteArray.mk (List.toArray (dig (intA (AV.v (Value.int IntKind.u64 (IntKind.u64.wrap (n.tdiv (10 : Int)))))).toNat)) ++ ByteArray.mk (List.toArray (dig (intA (AV.v (Value.int IntKind.u64 (n.tmod (10 : Int))))).toNat))))))))))) := by kernel_rfl
theorem ev53 (X : Nat → Itm) (N : Nat) (L : Nat → Int) (K : Nat) (a : Itm) : bodD X N L K Tryd.f53 [] [.agg (itmC a)] =
    Tree.ret (AV.v (Value.int IntKind.i64 (if decide (a.k < (4 : Int)) = true then (5 : Int) else if (a.k == (4 : Int)) = true then (4 : Int) else if decide (a.op < (5 : Int)) = true then (1 : Int) else if decide (a.op < (9 : Int)) = true then (2 : Int) else (3 : Int)))) := by kernel_rfl
theorem ev23_0 (X : Nat → Itm) (N : Nat) (L : Nat → Int) (K : Nat) (p : Int) : bodD X N L K Tryd.f23 [(17,true)] [rowA N X, .v (.int .i64 p)] =
    Tree.side ((0 : Int) ≤ p ∧ p < ↑N) (Tree.side (((X p.toNat).k == (0 : Int)) = true) (Tree.side (PureOk Tryd.prog (52 : Nat) [AV.v (Value.int IntKind.u64 (X p.toNat).n)] (AV.v (Value.string (ByteArray.mk (List.toArray (dig (intA (AV.v (Value.int IntKind.u64 (X p.toNat).n))).toNat)))))) (Tree.ret (AV.tup [AV.v (Value.string (ByteArray.mk (List.toArray (dig (intA (AV.v (Value.int IntKind.u64 (X p.toNat).n))).toNat)))), AV.v (Value.int IntKind.i64 (IntKind.i64.wrap (p + (1 : Int))))])))) := by kernel_rfl
theorem ev23_1 (X : Nat → Itm) (N : Nat) (L : Nat → Int) (K : Nat) (p : Int) : bodD X N L K Tryd.f23 [(17,false),(24,true)] [rowA N X, .v (.int .i64 p)] =
    Tree.side ((0 : Int) ≤ p ∧ p < ↑N) (Tree.side (((X p.toNat).k == (0 : Int)) = false) (Tree.side (((X p.toNat).k == (1 : Int)) = true) (Tree.side (PureOk Tryd.prog (52 : Nat) [AV.v (Value.int IntKind.u64 (IntKind.u64.wrap (X p.toNat).i))] (AV.v (Value.string (ByteArray.mk (List.toArray (dig (intA (AV.v (Value.int IntKind.u64 (IntKind.u64.wrap (X p.toNat).i)))).toNat)))))) (Tree.side ((ByteArray.mk #[(114 : UInt8)]).size + (ByteArray.mk (List.toArray (dig (intA (AV.v (Value.int IntKind.u64 (IntKind.u64.wrap (X p.toNat).i)))).toNat))).size ≤ (9223372036854775807 : Nat)) (Tree.ret (AV.tup [AV.v (Value.string (ByteArray.mk #[(114 : UInt8)] ++ ByteArray.mk (List.toArray (dig (intA (AV.v (Value.int IntKind.u64 (IntKind.u64.wrap (X p.toNat).i)))).toNat)))), AV.v (Value.int IntKind.i64 (IntKind.i64.wrap (p + (1 : Int))))])))))) := by kernel_rfl
theorem ev23_2 (X : Nat → Itm) (N : Nat) (L : Nat → Int) (K : Nat) (p : Int) : bodD X N L K Tryd.f23 [(17,false),(24,false),(33,true)] [rowA N X, .v (.int .i64 p)] =
    Tree.side ((0 : Int) ≤ p ∧ p < ↑N) (Tree.side (((X p.toNat).k == (0 : Int)) = false) (Tree.side (((X p.toNat).k == (1 : Int)) = false) (Tree.side (((X p.toNat).k == (2 : Int)) = true) (Tree.side (PureOk Tryd.prog (52 : Nat) [AV.v (Value.int IntKind.u64 (IntKind.u64.wrap (X p.toNat).t))] (AV.v (Value.string (ByteArray.mk (List.toArray (dig (intA (AV.v (Value.int IntKind.u64 (IntKind.u64.wrap (X p.toNat).t)))).toNat)))))) (Tree.side ((ByteArray.mk (List.toArray (dig (intA (AV.v (Value.int IntKind.u64 (IntKind.u64.wrap (X p.toNat).t)))).toNat))).size + (ByteArray.mk #[(58 : UInt8), (114 : UInt8)]).size ≤ (9223372036854775807 : Nat)) (Tree.side (PureOk Tryd.prog (52 : Nat) [AV.v (Value.int IntKind.u64 (IntKind.u64.wrap (X p.toNat).i))] (AV.v (Value.string (ByteArray.mk (List.toArray (dig (intA (AV.v (Value.int IntKind.u64 (IntKind.u64.wrap (X p.toNat).i)))).toNat)))))) (Tree.side ((ByteArray.mk (List.toArray (dig (intA (AV.v (Value.int IntKind.u64 (IntKind.u64.wrap (X p.toNat).t)))).toNat)) ++ ByteArray.mk #[(58 : UInt8), (114 : UInt8)]).size + (ByteArray.mk (List.toArray (dig (intA (AV.v (Value.int IntKind.u64 (IntKind.u64.wrap (X p.toNat).i)))).toNat))).size ≤ (9223372036854775807 : Nat)) (Tree.ret (AV.tup [AV.v (Value.string (ByteArray.mk (List.toArray (dig (intA (AV.v (Value.int IntKind.u64 (IntKind.u64.wrap (X p.toNat).t)))).toNat)) ++ ByteArray.mk #[(58 : UInt8), (114 : UInt8)] ++ ByteArray.mk (List.toArray (dig (intA (AV.v (Value.int IntKind.u64 (IntKind.u64.wrap (X p.toNat).i)))).toNat)))), AV.v (Value.int IntKind.i64 (IntKind.i64.wrap (p + (1 : Int))))]))))))))) := by kernel_rfl
theorem ev23_3 (X : Nat → Itm) (N : Nat) (L : Nat → Int) (K : Nat) (p : Int) : bodD X N L K Tryd.f23 [(17,false),(24,false),(33,false),(47,true)] [rowA N X, .v (.int .i64 p)] =
    Tree.side ((0 : Int) ≤ p ∧ p < ↑N) (Tree.side (((X p.toNat).k == (0 : Int)) = false) (Tree.side (((X p.toNat).k == (1 : Int)) = false) (Tree.side (((X p.toNat).k == (2 : Int)) = false) (Tree.side (((X p.toNat).k == (3 : Int)) = true) (Tree.ret (AV.tup [AV.v (Value.string (ByteArray.mk (List.map (fun (z : Int) => UInt8.ofNat z.toNat) [(X p.toNat).x]).toArray)), AV.v (Value.int IntKind.i64 (IntKind.i64.wrap (p + (1 : Int))))])))))) := by kernel_rfl
theorem ev23_4t (X : Nat → Itm) (N : Nat) (L : Nat → Int) (K : Nat) (p : Int) : bodD X N L K Tryd.f23 [(17,false),(24,false),(33,false),(47,false),(64,true),(71,true)] [rowA N X, .v (.int .i64 p)] =
    Tree.side ((0 : Int) ≤ p ∧ p < ↑N) (Tree.side (((X p.toNat).k == (0 : Int)) = false) (Tree.side (((X p.toNat).k == (1 : Int)) = false) (Tree.side (((X p.toNat).k == (2 : Int)) = false) (Tree.side (((X p.toNat).k == (3 : Int)) = false) (Tree.side (PureOk Tryd.prog (23 : Nat) [AV.sl N (nat_lit 6) (fun (i : Nat) => [AV.v (Value.int IntKind.u8 (X i).k), AV.v (Value.int IntKind.u8 (X i).op), AV.v (Value.int IntKind.u64 (X i).n), AV.v (Value.int IntKind.u8 (X i).t), AV.v (Value.int IntKind.u8 (X i).i), AV.v (Value.int IntKind.u8 (X i).x)]) false false, AV.v (Value.int IntKind.i64 (IntKind.i64.wrap (p + (1 : Int))))] (AV.tup [AV.v (Value.string (ByteArray.mk (List.toArray (txX X N (intA (AV.v (Value.int IntKind.i64 (IntKind.i64.wrap (p + (1 : Int)))))))))), AV.v (Value.int IntKind.i64 (enX X N (intA (AV.v (Value.int IntKind.i64 (IntKind.i64.wrap (p + (1 : Int))))))))])) (Tree.side (((X p.toNat).k == (4 : Int)) = true) (Tree.side ((0 : Int) ≤ IntKind.i64.wrap (p + (1 : Int)) ∧ IntKind.i64.wrap (p + (1 : Int)) < ↑N) (Tree.side (PureOk Tryd.prog (53 : Nat) [AV.agg [AV.v (Value.int IntKind.u8 (X (IntKind.i64.wrap (p + (1 : Int))).toNat).k), AV.v (Value.int IntKind.u8 (X (IntKind.i64.wrap (p + (1 : Int))).toNat).op), AV.v (Value.int IntKind.u64 (X (IntKind.i64.wrap (p + (1 : Int))).toNat).n), AV.v (Value.int IntKind.u8 (X (IntKind.i64.wrap (p + (1 : Int))).toNat).t), AV.v (Value.int IntKind.u8 (X (IntKind.i64.wrap (p + (1 : Int))).toNat).i), AV.v (Value.int IntKind.u8 (X (IntKind.i64.wrap (p + (1 : Int))).toNat).x)]] (AV.v (Value.int IntKind.i64 (strX (ptA (AV.v (Value.int IntKind.u8 (X (IntKind.i64.wrap (p + (1 : Int))).toNat).k)) (AV.v (Value.int IntKind.u8 (X (IntKind.i64.wrap (p + (1 : Int))).toNat).op)) (AV.v (Value.int IntKind.u64 (X (IntKind.i64.wrap (p + (1 : Int))).toNat).n)) (AV.v (Value.int IntKind.u8 (X (IntKind.i64.wrap (p + (1 : Int))).toNat).t)) (AV.v (Value.int IntKind.u8 (X (IntKind.i64.wrap (p + (1 : Int))).toNat).i)) (AV.v (Value.int IntKind.u8 (X (IntKind.i64.wrap (p + (1 : Int))).toNat).x))))))) (Tree.side (decide (strX (ptA (AV.v (Value.int IntKind.u8 (X (IntKind.i64.wrap (p + (1 : Int))).toNat).k)) (AV.v (Value.int IntKind.u8 (X (IntKind.i64.wrap (p + (1 : Int))).toNat).op)) (AV.v (Value.int IntKind.u64 (X (IntKind.i64.wrap (p + (1 : Int))).toNat).n)) (AV.v (Value.int IntKind.u8 (X (IntKind.i64.wrap (p + (1 : Int))).toNat).t)) (AV.v (Value.int IntKind.u8 (X (IntKind.i64.wrap (p + (1 : Int))).toNat).i)) (AV.v (Value.int IntKind.u8 (X (IntKind.i64.wrap (p + (1 : Int))).toNat).x))) < (4 : Int)) = true) (Tree.side ((ByteArray.mk #[(40 : UInt8)]).size + (ByteArray.mk (List.toArray (txX X N (intA (AV.v (Value.int IntKind.i64 (IntKind.i64.wrap (p + (1 : Int))))))))).size ≤ (9223372036854775807 : Nat)) (Tree.side ((ByteArray.mk #[(40 : UInt8)] ++ ByteArray.mk (List.toArray (txX X N (intA (AV.v (Value.int IntKind.i64 (IntKind.i64.wrap (p + (1 : Int))))))))).size + (ByteArray.mk #[(41 : UInt8)]).size ≤ (9223372036854775807 : Nat)) (Tree.side (PureOk Tryd.prog (54 : Nat) [AV.v (Value.int IntKind.u8 (X p.toNat).op)] (AV.v (Value.string (ByteArray.mk (List.toArray (opT (intA (AV.v (Value.int IntKind.u8 (X p.toNat).op))))))))) (Tree.side ((ByteArray.mk (List.toArray (opT (intA (AV.v (Value.int IntKind.u8 (X p.toNat).op)))))).size + (ByteArray.mk #[(40 : UInt8)] ++ ByteArray.mk (List.toArray (txX X N (intA (AV.v (Value.int IntKind.i64 (IntKind.i64.wrap (p + (1 : Int)))))))) ++ ByteArray.mk #[(41 : UInt8)]).size ≤ (9223372036854775807 : Nat)) (Tree.ret (AV.tup [AV.v (Value.string (ByteArray.mk (List.toArray (opT (intA (AV.v (Value.int IntKind.u8 (X p.toNat).op))))) ++ (ByteArray.mk #[(40 : UInt8)] ++ ByteArray.mk (List.toArray (txX X N (intA (AV.v (Value.int IntKind.i64 (IntKind.i64.wrap (p + (1 : Int)))))))) ++ ByteArray.mk #[(41 : UInt8)]))), AV.v (Value.int IntKind.i64 (enX X N (intA (AV.v (Value.int IntKind.i64 (IntKind.i64.wrap (p + (1 : Int))))))))]))))))))))))))) := by kernel_rfl
theorem ev23_4f (X : Nat → Itm) (N : Nat) (L : Nat → Int) (K : Nat) (p : Int) : bodD X N L K Tryd.f23 [(17,false),(24,false),(33,false),(47,false),(64,true),(71,false)] [rowA N X, .v (.int .i64 p)] =
    Tree.side ((0 : Int) ≤ p ∧ p < ↑N) (Tree.side (((X p.toNat).k == (0 : Int)) = false) (Tree.side (((X p.toNat).k == (1 : Int)) = false) (Tree.side (((X p.toNat).k == (2 : Int)) = false) (Tree.side (((X p.toNat).k == (3 : Int)) = false) (Tree.side (PureOk Tryd.prog (23 : Nat) [AV.sl N (nat_lit 6) (fun (i : Nat) => [AV.v (Value.int IntKind.u8 (X i).k), AV.v (Value.int IntKind.u8 (X i).op), AV.v (Value.int IntKind.u64 (X i).n), AV.v (Value.int IntKind.u8 (X i).t), AV.v (Value.int IntKind.u8 (X i).i), AV.v (Value.int IntKind.u8 (X i).x)]) false false, AV.v (Value.int IntKind.i64 (IntKind.i64.wrap (p + (1 : Int))))] (AV.tup [AV.v (Value.string (ByteArray.mk (List.toArray (txX X N (intA (AV.v (Value.int IntKind.i64 (IntKind.i64.wrap (p + (1 : Int)))))))))), AV.v (Value.int IntKind.i64 (enX X N (intA (AV.v (Value.int IntKind.i64 (IntKind.i64.wrap (p + (1 : Int))))))))])) (Tree.side (((X p.toNat).k == (4 : Int)) = true) (Tree.side ((0 : Int) ≤ IntKind.i64.wrap (p + (1 : Int)) ∧ IntKind.i64.wrap (p + (1 : Int)) < ↑N) (Tree.side (PureOk Tryd.prog (53 : Nat) [AV.agg [AV.v (Value.int IntKind.u8 (X (IntKind.i64.wrap (p + (1 : Int))).toNat).k), AV.v (Value.int IntKind.u8 (X (IntKind.i64.wrap (p + (1 : Int))).toNat).op), AV.v (Value.int IntKind.u64 (X (IntKind.i64.wrap (p + (1 : Int))).toNat).n), AV.v (Value.int IntKind.u8 (X (IntKind.i64.wrap (p + (1 : Int))).toNat).t), AV.v (Value.int IntKind.u8 (X (IntKind.i64.wrap (p + (1 : Int))).toNat).i), AV.v (Value.int IntKind.u8 (X (IntKind.i64.wrap (p + (1 : Int))).toNat).x)]] (AV.v (Value.int IntKind.i64 (strX (ptA (AV.v (Value.int IntKind.u8 (X (IntKind.i64.wrap (p + (1 : Int))).toNat).k)) (AV.v (Value.int IntKind.u8 (X (IntKind.i64.wrap (p + (1 : Int))).toNat).op)) (AV.v (Value.int IntKind.u64 (X (IntKind.i64.wrap (p + (1 : Int))).toNat).n)) (AV.v (Value.int IntKind.u8 (X (IntKind.i64.wrap (p + (1 : Int))).toNat).t)) (AV.v (Value.int IntKind.u8 (X (IntKind.i64.wrap (p + (1 : Int))).toNat).i)) (AV.v (Value.int IntKind.u8 (X (IntKind.i64.wrap (p + (1 : Int))).toNat).x))))))) (Tree.side (decide (strX (ptA (AV.v (Value.int IntKind.u8 (X (IntKind.i64.wrap (p + (1 : Int))).toNat).k)) (AV.v (Value.int IntKind.u8 (X (IntKind.i64.wrap (p + (1 : Int))).toNat).op)) (AV.v (Value.int IntKind.u64 (X (IntKind.i64.wrap (p + (1 : Int))).toNat).n)) (AV.v (Value.int IntKind.u8 (X (IntKind.i64.wrap (p + (1 : Int))).toNat).t)) (AV.v (Value.int IntKind.u8 (X (IntKind.i64.wrap (p + (1 : Int))).toNat).i)) (AV.v (Value.int IntKind.u8 (X (IntKind.i64.wrap (p + (1 : Int))).toNat).x))) < (4 : Int)) = false) (Tree.side (PureOk Tryd.prog (54 : Nat) [AV.v (Value.int IntKind.u8 (X p.toNat).op)] (AV.v (Value.string (ByteArray.mk (List.toArray (opT (intA (AV.v (Value.int IntKind.u8 (X p.toNat).op))))))))) (Tree.side ((ByteArray.mk (List.toArray (opT (intA (AV.v (Value.int IntKind.u8 (X p.toNat).op)))))).size + (ByteArray.mk (List.toArray (txX X N (intA (AV.v (Value.int IntKind.i64 (IntKind.i64.wrap (p + (1 : Int))))))))).size ≤ (9223372036854775807 : Nat)) (Tree.ret (AV.tup [AV.v (Value.string (ByteArray.mk (List.toArray (opT (intA (AV.v (Value.int IntKind.u8 (X p.toNat).op))))) ++ ByteArray.mk (List.toArray (txX X N (intA (AV.v (Value.int IntKind.i64 (IntKind.i64.wrap (p + (1 : Int)))))))))), AV.v (Value.int IntKind.i64 (enX X N (intA (AV.v (Value.int IntKind.i64 (IntKind.i64.wrap (p + (1 : Int))))))))]))))))))))))) := by kernel_rfl
theorem ev23_5tt (X : Nat → Itm) (N : Nat) (L : Nat → Int) (K : Nat) (p : Int) : bodD X N L K Tryd.f23 [(17,false),(24,false),(33,false),(47,false),(64,false),(95,true),(106,true)] [rowA N X, .v (.int .i64 p)] =
    Tree.side ((0 : Int) ≤ p ∧ p < ↑N) (Tree.side (((X p.toNat).k == (0 : Int)) = false) (Tree.side (((X p.toNat).k == (1 : Int)) = false) (Tree.side (((X p.toNat).k == (2 : Int)) = false) (Tree.side (((X p.toNat).k == (3 : Int)) = false) (Tree.side (PureOk Tryd.prog (23 : Nat) [AV.sl N (nat_lit 6) (fun (i : Nat) => [AV.v (Value.int IntKind.u8 (X i).k), AV.v (Value.int IntKind.u8 (X i).op), AV.v (Value.int IntKind.u64 (X i).n), AV.v (Value.int IntKind.u8 (X i).t), AV.v (Value.int IntKind.u8 (X i).i), AV.v (Value.int IntKind.u8 (X i).x)]) false false, AV.v (Value.int IntKind.i64 (IntKind.i64.wrap (p + (1 : Int))))] (AV.tup [AV.v (Value.string (ByteArray.mk (List.toArray (txX X N (intA (AV.v (Value.int IntKind.i64 (IntKind.i64.wrap (p + (1 : Int)))))))))), AV.v (Value.int IntKind.i64 (enX X N (intA (AV.v (Value.int IntKind.i64 (IntKind.i64.wrap (p + (1 : Int))))))))])) (Tree.side (((X p.toNat).k == (4 : Int)) = false) (Tree.side (PureOk Tryd.prog (23 : Nat) [AV.sl N (nat_lit 6) (fun (i : Nat) => [AV.v (Value.int IntKind.u8 (X i).k), AV.v (Value.int IntKind.u8 (X i).op), AV.v (Value.int IntKind.u64 (X i).n), AV.v (Value.int IntKind.u8 (X i).t), AV.v (Value.int IntKind.u8 (X i).i), AV.v (Value.int IntKind.u8 (X i).x)]) false false, AV.v (Value.int IntKind.i64 (enX X N (intA (AV.v (Value.int IntKind.i64 (IntKind.i64.wrap (p + (1 : Int))))))))] (AV.tup [AV.v (Value.string (ByteArray.mk (List.toArray (txX X N (intA (AV.v (Value.int IntKind.i64 (enX X N (intA (AV.v (Value.int IntKind.i64 (IntKind.i64.wrap (p + (1 : Int)))))))))))))), AV.v (Value.int IntKind.i64 (enX X N (intA (AV.v (Value.int IntKind.i64 (enX X N (intA (AV.v (Value.int IntKind.i64 (IntKind.i64.wrap (p + (1 : Int))))))))))))])) (Tree.side ((0 : Int) ≤ IntKind.i64.wrap (p + (1 : Int)) ∧ IntKind.i64.wrap (p + (1 : Int)) < ↑N) (Tree.side (PureOk Tryd.prog (53 : Nat) [AV.agg [AV.v (Value.int IntKind.u8 (X (IntKind.i64.wrap (p + (1 : Int))).toNat).k), AV.v (Value.int IntKind.u8 (X (IntKind.i64.wrap (p + (1 : Int))).toNat).op), AV.v (Value.int IntKind.u64 (X (IntKind.i64.wrap (p + (1 : Int))).toNat).n), AV.v (Value.int IntKind.u8 (X (IntKind.i64.wrap (p + (1 : Int))).toNat).t), AV.v (Value.int IntKind.u8 (X (IntKind.i64.wrap (p + (1 : Int))).toNat).i), AV.v (Value.int IntKind.u8 (X (IntKind.i64.wrap (p + (1 : Int))).toNat).x)]] (AV.v (Value.int IntKind.i64 (strX (ptA (AV.v (Value.int IntKind.u8 (X (IntKind.i64.wrap (p + (1 : Int))).toNat).k)) (AV.v (Value.int IntKind.u8 (X (IntKind.i64.wrap (p + (1 : Int))).toNat).op)) (AV.v (Value.int IntKind.u64 (X (IntKind.i64.wrap (p + (1 : Int))).toNat).n)) (AV.v (Value.int IntKind.u8 (X (IntKind.i64.wrap (p + (1 : Int))).toNat).t)) (AV.v (Value.int IntKind.u8 (X (IntKind.i64.wrap (p + (1 : Int))).toNat).i)) (AV.v (Value.int IntKind.u8 (X (IntKind.i64.wrap (p + (1 : Int))).toNat).x))))))) (Tree.side (PureOk Tryd.prog (53 : Nat) [AV.agg [AV.v (Value.int IntKind.u8 (X p.toNat).k), AV.v (Value.int IntKind.u8 (X p.toNat).op), AV.v (Value.int IntKind.u64 (X p.toNat).n), AV.v (Value.int IntKind.u8 (X p.toNat).t), AV.v (Value.int IntKind.u8 (X p.toNat).i), AV.v (Value.int IntKind.u8 (X p.toNat).x)]] (AV.v (Value.int IntKind.i64 (strX (ptA (AV.v (Value.int IntKind.u8 (X p.toNat).k)) (AV.v (Value.int IntKind.u8 (X p.toNat).op)) (AV.v (Value.int IntKind.u64 (X p.toNat).n)) (AV.v (Value.int IntKind.u8 (X p.toNat).t)) (AV.v (Value.int IntKind.u8 (X p.toNat).i)) (AV.v (Value.int IntKind.u8 (X p.toNat).x))))))) (Tree.side (decide (strX (ptA (AV.v (Value.int IntKind.u8 (X (IntKind.i64.wrap (p + (1 : Int))).toNat).k)) (AV.v (Value.int IntKind.u8 (X (IntKind.i64.wrap (p + (1 : Int))).toNat).op)) (AV.v (Value.int IntKind.u64 (X (IntKind.i64.wrap (p + (1 : Int))).toNat).n)) (AV.v (Value.int IntKind.u8 (X (IntKind.i64.wrap (p + (1 : Int))).toNat).t)) (AV.v (Value.int IntKind.u8 (X (IntKind.i64.wrap (p + (1 : Int))).toNat).i)) (AV.v (Value.int IntKind.u8 (X (IntKind.i64.wrap (p + (1 : Int))).toNat).x))) < strX (ptA (AV.v (Value.int IntKind.u8 (X p.toNat).k)) (AV.v (Value.int IntKind.u8 (X p.toNat).op)) (AV.v (Value.int IntKind.u64 (X p.toNat).n)) (AV.v (Value.int IntKind.u8 (X p.toNat).t)) (AV.v (Value.int IntKind.u8 (X p.toNat).i)) (AV.v (Value.int IntKind.u8 (X p.toNat).x)))) = true) (Tree.side ((ByteArray.mk #[(40 : UInt8)]).size + (ByteArray.mk (List.toArray (txX X N (intA (AV.v (Value.int IntKind.i64 (IntKind.i64.wrap (p + (1 : Int))))))))).size ≤ (9223372036854775807 : Nat)) (Tree.side ((ByteArray.mk #[(40 : UInt8)] ++ ByteArray.mk (List.toArray (txX X N (intA (AV.v (Value.int IntKind.i64 (IntKind.i64.wrap (p + (1 : Int))))))))).size + (ByteArray.mk #[(41 : UInt8)]).size ≤ (9223372036854775807 : Nat)) (Tree.side ((0 : Int) ≤ enX X N (intA (AV.v (Value.int IntKind.i64 (IntKind.i64.wrap (p + (1 : Int)))))) ∧ enX X N (intA (AV.v (Value.int IntKind.i64 (IntKind.i64.wrap (p + (1 : Int)))))) < ↑N) (Tree.side (PureOk Tryd.prog (53 : Nat) [AV.agg [AV.v (Value.int IntKind.u8 (X (enX X N (intA (AV.v (Value.int IntKind.i64 (IntKind.i64.wrap (p + (1 : Int))))))).toNat).k), AV.v (Value.int IntKind.u8 (X (enX X N (intA (AV.v (Value.int IntKind.i64 (IntKind.i64.wrap (p + (1 : Int))))))).toNat).op), AV.v (Value.int IntKind.u64 (X (enX X N (intA (AV.v (Value.int IntKind.i64 (IntKind.i64.wrap (p + (1 : Int))))))).toNat).n), AV.v (Value.int IntKind.u8 (X (enX X N (intA (AV.v (Value.int IntKind.i64 (IntKind.i64.wrap (p + (1 : Int))))))).toNat).t), AV.v (Value.int IntKind.u8 (X (enX X N (intA (AV.v (Value.int IntKind.i64 (IntKind.i64.wrap (p + (1 : Int))))))).toNat).i), AV.v (Value.int IntKind.u8 (X (enX X N (intA (AV.v (Value.int IntKind.i64 (IntKind.i64.wrap (p + (1 : Int))))))).toNat).x)]] (AV.v (Value.int IntKind.i64 (strX (ptA (AV.v (Value.int IntKind.u8 (X (enX X N (intA (AV.v (Value.int IntKind.i64 (IntKind.i64.wrap (p + (1 : Int))))))).toNat).k)) (AV.v (Value.int IntKind.u8 (X (enX X N (intA (AV.v (Value.int IntKind.i64 (IntKind.i64.wrap (p + (1 : Int))))))).toNat).op)) (AV.v (Value.int IntKind.u64 (X (enX X N (intA (AV.v (Value.int IntKind.i64 (IntKind.i64.wrap (p + (1 : Int))))))).toNat).n)) (AV.v (Value.int IntKind.u8 (X (enX X N (intA (AV.v (Value.int IntKind.i64 (IntKind.i64.wrap (p + (1 : Int))))))).toNat).t)) (AV.v (Value.int IntKind.u8 (X (enX X N (intA (AV.v (Value.int IntKind.i64 (IntKind.i64.wrap (p + (1 : Int))))))).toNat).i)) (AV.v (Value.int IntKind.u8 (X (enX X N (intA (AV.v (Value.int IntKind.i64 (IntKind.i64.wrap (p + (1 : Int))))))).toNat).x))))))) (Tree.side (PureOk Tryd.prog (53 : Nat) [AV.agg [AV.v (Value.int IntKind.u8 (X p.toNat).k), AV.v (Value.int IntKind.u8 (X p.toNat).op), AV.v (Value.int IntKind.u64 (X p.toNat).n), AV.v (Value.int IntKind.u8 (X p.toNat).t), AV.v (Value.int IntKind.u8 (X p.toNat).i), AV.v (Value.int IntKind.u8 (X p.toNat).x)]] (AV.v (Value.int IntKind.i64 (strX (ptA (AV.v (Value.int IntKind.u8 (X p.toNat).k)) (AV.v (Value.int IntKind.u8 (X p.toNat).op)) (AV.v (Value.int IntKind.u64 (X p.toNat).n)) (AV.v (Value.int IntKind.u8 (X p.toNat).t)) (AV.v (Value.int IntKind.u8 (X p.toNat).i)) (AV.v (Value.int IntKind.u8 (X p.toNat).x))))))) (Tree.side (decide (strX (ptA (AV.v (Value.int IntKind.u8 (X (enX X N (intA (AV.v (Value.int IntKind.i64 (IntKind.i64.wrap (p + (1 : Int))))))).toNat).k)) (AV.v (Value.int IntKind.u8 (X (enX X N (intA (AV.v (Value.int IntKind.i64 (IntKind.i64.wrap (p + (1 : Int))))))).toNat).op)) (AV.v (Value.int IntKind.u64 (X (enX X N (intA (AV.v (Value.int IntKind.i64 (IntKind.i64.wrap (p + (1 : Int))))))).toNat).n)) (AV.v (Value.int IntKind.u8 (X (enX X N (intA (AV.v (Value.int IntKind.i64 (IntKind.i64.wrap (p + (1 : Int))))))).toNat).t)) (AV.v (Value.int IntKind.u8 (X (enX X N (intA (AV.v (Value.int IntKind.i64 (IntKind.i64.wrap (p + (1 : Int))))))).toNat).i)) (AV.v (Value.int IntKind.u8 (X (enX X N (intA (AV.v (Value.int IntKind.i64 (IntKind.i64.wrap (p + (1 : Int))))))).toNat).x))) ≤ strX (ptA (AV.v (Value.int IntKind.u8 (X p.toNat).k)) (AV.v (Value.int IntKind.u8 (X p.toNat).op)) (AV.v (Value.int IntKind.u64 (X p.toNat).n)) (AV.v (Value.int IntKind.u8 (X p.toNat).t)) (AV.v (Value.int IntKind.u8 (X p.toNat).i)) (AV.v (Value.int IntKind.u8 (X p.toNat).x)))) = true) (Tree.side ((ByteArray.mk #[(40 : UInt8)]).size + (ByteArray.mk (List.toArray (txX X N (intA (AV.v (Value.int IntKind.i64 (enX X N (intA (AV.v (Value.int IntKind.i64 (IntKind.i64.wrap (p + (1 : Int))))))))))))).size ≤ (9223372036854775807 : Nat)) (Tree.side ((ByteArray.mk #[(40 : UInt8)] ++ ByteArray.mk (List.toArray (txX X N (intA (AV.v (Value.int IntKind.i64 (enX X N (intA (AV.v (Value.int IntKind.i64 (IntKind.i64.wrap (p + (1 : Int))))))))))))).size + (ByteArray.mk #[(41 : UInt8)]).size ≤ (9223372036854775807 : Nat)) (Tree.side ((ByteArray.mk #[(40 : UInt8)] ++ ByteArray.mk (List.toArray (txX X N (intA (AV.v (Value.int IntKind.i64 (IntKind.i64.wrap (p + (1 : Int)))))))) ++ ByteArray.mk #[(41 : UInt8)]).size + (ByteArray.mk #[(32 : UInt8)]).size ≤ (9223372036854775807 : Nat)) (Tree.side (PureOk Tryd.prog (54 : Nat) [AV.v (Value.int IntKind.u8 (X p.toNat).op)] (AV.v (Value.string (ByteArray.mk (List.toArray (opT (intA (AV.v (Value.int IntKind.u8 (X p.toNat).op))))))))) (Tree.side ((ByteArray.mk #[(40 : UInt8)] ++ ByteArray.mk (List.toArray (txX X N (intA (AV.v (Value.int IntKind.i64 (IntKind.i64.wrap (p + (1 : Int)))))))) ++ ByteArray.mk #[(41 : UInt8)] ++ ByteArray.mk #[(32 : UInt8)]).size + (ByteArray.mk (List.toArray (opT (intA (AV.v (Value.int IntKind.u8 (X p.toNat).op)))))).size ≤ (9223372036854775807 : Nat)) (Tree.side ((ByteArray.mk #[(40 : UInt8)] ++ ByteArray.mk (List.toArray (txX X N (intA (AV.v (Value.int IntKind.i64 (IntKind.i64.wrap (p + (1 : Int)))))))) ++ ByteArray.mk #[(41 : UInt8)] ++ ByteArray.mk #[(32 : UInt8)] ++ ByteArray.mk (List.toArray (opT (intA (AV.v (Value.int IntKind.u8 (X p.toNat).op)))))).size + (ByteArray.mk #[(32 : UInt8)]).size ≤ (9223372036854775807 : Nat)) (Tree.side ((ByteArray.mk #[(40 : UInt8)] ++ ByteArray.mk (List.toArray (txX X N (intA (AV.v (Value.int IntKind.i64 (IntKind.i64.wrap (p + (1 : Int)))))))) ++ ByteArray.mk #[(41 : UInt8)] ++ ByteArray.mk #[(32 : UInt8)] ++ ByteArray.mk (List.toArray (opT (intA (AV.v (Value.int IntKind.u8 (X p.toNat).op))))) ++ ByteArray.mk #[(32 : UInt8)]).size + (ByteArray.mk #[(40 : UInt8)] ++ ByteArray.mk (List.toArray (txX X N (intA (AV.v (Value.int IntKind.i64 (enX X N (intA (AV.v (Value.int IntKind.i64 (IntKind.i64.wrap (p + (1 : Int)))))))))))) ++ ByteArray.mk #[(41 : UInt8)]).size ≤ (9223372036854775807 : Nat)) (Tree.ret (AV.tup [AV.v (Value.string (ByteArray.mk #[(40 : UInt8)] ++ ByteArray.mk (List.toArray (txX X N (intA (AV.v (Value.int IntKind.i64 (IntKind.i64.wrap (p + (1 : Int)))))))) ++ ByteArray.mk #[(41 : UInt8)] ++ ByteArray.mk #[(32 : UInt8)] ++ ByteArray.mk (List.toArray (opT (intA (AV.v (Value.int IntKind.u8 (X p.toNat).op))))) ++ ByteArray.mk #[(32 : UInt8)] ++ (ByteArray.mk #[(40 : UInt8)] ++ ByteArray.mk (List.toArray (txX X N (intA (AV.v (Value.int IntKind.i64 (enX X N (intA (AV.v (Value.int IntKind.i64 (IntKind.i64.wrap (p + (1 : Int)))))))))))) ++ ByteArray.mk #[(41 : UInt8)]))), AV.v (Value.int IntKind.i64 (enX X N (intA (AV.v (Value.int IntKind.i64 (enX X N (intA (AV.v (Value.int IntKind.i64 (IntKind.i64.wrap (p + (1 : Int))))))))))))])))))))))))))))))))))))))) := by kernel_rfl
theorem ev23_5tf (X : Nat → Itm) (N : Nat) (L : Nat → Int) (K : Nat) (p : Int) : bodD X N L K Tryd.f23 [(17,false),(24,false),(33,false),(47,false),(64,false),(95,true),(106,false)] [rowA N X, .v (.int .i64 p)] =
    Tree.side ((0 : Int) ≤ p ∧ p < ↑N) (Tree.side (((X p.toNat).k == (0 : Int)) = false) (Tree.side (((X p.toNat).k == (1 : Int)) = false) (Tree.side (((X p.toNat).k == (2 : Int)) = false) (Tree.side (((X p.toNat).k == (3 : Int)) = false) (Tree.side (PureOk Tryd.prog (23 : Nat) [AV.sl N (nat_lit 6) (fun (i : Nat) => [AV.v (Value.int IntKind.u8 (X i).k), AV.v (Value.int IntKind.u8 (X i).op), AV.v (Value.int IntKind.u64 (X i).n), AV.v (Value.int IntKind.u8 (X i).t), AV.v (Value.int IntKind.u8 (X i).i), AV.v (Value.int IntKind.u8 (X i).x)]) false false, AV.v (Value.int IntKind.i64 (IntKind.i64.wrap (p + (1 : Int))))] (AV.tup [AV.v (Value.string (ByteArray.mk (List.toArray (txX X N (intA (AV.v (Value.int IntKind.i64 (IntKind.i64.wrap (p + (1 : Int)))))))))), AV.v (Value.int IntKind.i64 (enX X N (intA (AV.v (Value.int IntKind.i64 (IntKind.i64.wrap (p + (1 : Int))))))))])) (Tree.side (((X p.toNat).k == (4 : Int)) = false) (Tree.side (PureOk Tryd.prog (23 : Nat) [AV.sl N (nat_lit 6) (fun (i : Nat) => [AV.v (Value.int IntKind.u8 (X i).k), AV.v (Value.int IntKind.u8 (X i).op), AV.v (Value.int IntKind.u64 (X i).n), AV.v (Value.int IntKind.u8 (X i).t), AV.v (Value.int IntKind.u8 (X i).i), AV.v (Value.int IntKind.u8 (X i).x)]) false false, AV.v (Value.int IntKind.i64 (enX X N (intA (AV.v (Value.int IntKind.i64 (IntKind.i64.wrap (p + (1 : Int))))))))] (AV.tup [AV.v (Value.string (ByteArray.mk (List.toArray (txX X N (intA (AV.v (Value.int IntKind.i64 (enX X N (intA (AV.v (Value.int IntKind.i64 (IntKind.i64.wrap (p + (1 : Int)))))))))))))), AV.v (Value.int IntKind.i64 (enX X N (intA (AV.v (Value.int IntKind.i64 (enX X N (intA (AV.v (Value.int IntKind.i64 (IntKind.i64.wrap (p + (1 : Int))))))))))))])) (Tree.side ((0 : Int) ≤ IntKind.i64.wrap (p + (1 : Int)) ∧ IntKind.i64.wrap (p + (1 : Int)) < ↑N) (Tree.side (PureOk Tryd.prog (53 : Nat) [AV.agg [AV.v (Value.int IntKind.u8 (X (IntKind.i64.wrap (p + (1 : Int))).toNat).k), AV.v (Value.int IntKind.u8 (X (IntKind.i64.wrap (p + (1 : Int))).toNat).op), AV.v (Value.int IntKind.u64 (X (IntKind.i64.wrap (p + (1 : Int))).toNat).n), AV.v (Value.int IntKind.u8 (X (IntKind.i64.wrap (p + (1 : Int))).toNat).t), AV.v (Value.int IntKind.u8 (X (IntKind.i64.wrap (p + (1 : Int))).toNat).i), AV.v (Value.int IntKind.u8 (X (IntKind.i64.wrap (p + (1 : Int))).toNat).x)]] (AV.v (Value.int IntKind.i64 (strX (ptA (AV.v (Value.int IntKind.u8 (X (IntKind.i64.wrap (p + (1 : Int))).toNat).k)) (AV.v (Value.int IntKind.u8 (X (IntKind.i64.wrap (p + (1 : Int))).toNat).op)) (AV.v (Value.int IntKind.u64 (X (IntKind.i64.wrap (p + (1 : Int))).toNat).n)) (AV.v (Value.int IntKind.u8 (X (IntKind.i64.wrap (p + (1 : Int))).toNat).t)) (AV.v (Value.int IntKind.u8 (X (IntKind.i64.wrap (p + (1 : Int))).toNat).i)) (AV.v (Value.int IntKind.u8 (X (IntKind.i64.wrap (p + (1 : Int))).toNat).x))))))) (Tree.side (PureOk Tryd.prog (53 : Nat) [AV.agg [AV.v (Value.int IntKind.u8 (X p.toNat).k), AV.v (Value.int IntKind.u8 (X p.toNat).op), AV.v (Value.int IntKind.u64 (X p.toNat).n), AV.v (Value.int IntKind.u8 (X p.toNat).t), AV.v (Value.int IntKind.u8 (X p.toNat).i), AV.v (Value.int IntKind.u8 (X p.toNat).x)]] (AV.v (Value.int IntKind.i64 (strX (ptA (AV.v (Value.int IntKind.u8 (X p.toNat).k)) (AV.v (Value.int IntKind.u8 (X p.toNat).op)) (AV.v (Value.int IntKind.u64 (X p.toNat).n)) (AV.v (Value.int IntKind.u8 (X p.toNat).t)) (AV.v (Value.int IntKind.u8 (X p.toNat).i)) (AV.v (Value.int IntKind.u8 (X p.toNat).x))))))) (Tree.side (decide (strX (ptA (AV.v (Value.int IntKind.u8 (X (IntKind.i64.wrap (p + (1 : Int))).toNat).k)) (AV.v (Value.int IntKind.u8 (X (IntKind.i64.wrap (p + (1 : Int))).toNat).op)) (AV.v (Value.int IntKind.u64 (X (IntKind.i64.wrap (p + (1 : Int))).toNat).n)) (AV.v (Value.int IntKind.u8 (X (IntKind.i64.wrap (p + (1 : Int))).toNat).t)) (AV.v (Value.int IntKind.u8 (X (IntKind.i64.wrap (p + (1 : Int))).toNat).i)) (AV.v (Value.int IntKind.u8 (X (IntKind.i64.wrap (p + (1 : Int))).toNat).x))) < strX (ptA (AV.v (Value.int IntKind.u8 (X p.toNat).k)) (AV.v (Value.int IntKind.u8 (X p.toNat).op)) (AV.v (Value.int IntKind.u64 (X p.toNat).n)) (AV.v (Value.int IntKind.u8 (X p.toNat).t)) (AV.v (Value.int IntKind.u8 (X p.toNat).i)) (AV.v (Value.int IntKind.u8 (X p.toNat).x)))) = true) (Tree.side ((ByteArray.mk #[(40 : UInt8)]).size + (ByteArray.mk (List.toArray (txX X N (intA (AV.v (Value.int IntKind.i64 (IntKind.i64.wrap (p + (1 : Int))))))))).size ≤ (9223372036854775807 : Nat)) (Tree.side ((ByteArray.mk #[(40 : UInt8)] ++ ByteArray.mk (List.toArray (txX X N (intA (AV.v (Value.int IntKind.i64 (IntKind.i64.wrap (p + (1 : Int))))))))).size + (ByteArray.mk #[(41 : UInt8)]).size ≤ (9223372036854775807 : Nat)) (Tree.side ((0 : Int) ≤ enX X N (intA (AV.v (Value.int IntKind.i64 (IntKind.i64.wrap (p + (1 : Int)))))) ∧ enX X N (intA (AV.v (Value.int IntKind.i64 (IntKind.i64.wrap (p + (1 : Int)))))) < ↑N) (Tree.side (PureOk Tryd.prog (53 : Nat) [AV.agg [AV.v (Value.int IntKind.u8 (X (enX X N (intA (AV.v (Value.int IntKind.i64 (IntKind.i64.wrap (p + (1 : Int))))))).toNat).k), AV.v (Value.int IntKind.u8 (X (enX X N (intA (AV.v (Value.int IntKind.i64 (IntKind.i64.wrap (p + (1 : Int))))))).toNat).op), AV.v (Value.int IntKind.u64 (X (enX X N (intA (AV.v (Value.int IntKind.i64 (IntKind.i64.wrap (p + (1 : Int))))))).toNat).n), AV.v (Value.int IntKind.u8 (X (enX X N (intA (AV.v (Value.int IntKind.i64 (IntKind.i64.wrap (p + (1 : Int))))))).toNat).t), AV.v (Value.int IntKind.u8 (X (enX X N (intA (AV.v (Value.int IntKind.i64 (IntKind.i64.wrap (p + (1 : Int))))))).toNat).i), AV.v (Value.int IntKind.u8 (X (enX X N (intA (AV.v (Value.int IntKind.i64 (IntKind.i64.wrap (p + (1 : Int))))))).toNat).x)]] (AV.v (Value.int IntKind.i64 (strX (ptA (AV.v (Value.int IntKind.u8 (X (enX X N (intA (AV.v (Value.int IntKind.i64 (IntKind.i64.wrap (p + (1 : Int))))))).toNat).k)) (AV.v (Value.int IntKind.u8 (X (enX X N (intA (AV.v (Value.int IntKind.i64 (IntKind.i64.wrap (p + (1 : Int))))))).toNat).op)) (AV.v (Value.int IntKind.u64 (X (enX X N (intA (AV.v (Value.int IntKind.i64 (IntKind.i64.wrap (p + (1 : Int))))))).toNat).n)) (AV.v (Value.int IntKind.u8 (X (enX X N (intA (AV.v (Value.int IntKind.i64 (IntKind.i64.wrap (p + (1 : Int))))))).toNat).t)) (AV.v (Value.int IntKind.u8 (X (enX X N (intA (AV.v (Value.int IntKind.i64 (IntKind.i64.wrap (p + (1 : Int))))))).toNat).i)) (AV.v (Value.int IntKind.u8 (X (enX X N (intA (AV.v (Value.int IntKind.i64 (IntKind.i64.wrap (p + (1 : Int))))))).toNat).x))))))) (Tree.side (PureOk Tryd.prog (53 : Nat) [AV.agg [AV.v (Value.int IntKind.u8 (X p.toNat).k), AV.v (Value.int IntKind.u8 (X p.toNat).op), AV.v (Value.int IntKind.u64 (X p.toNat).n), AV.v (Value.int IntKind.u8 (X p.toNat).t), AV.v (Value.int IntKind.u8 (X p.toNat).i), AV.v (Value.int IntKind.u8 (X p.toNat).x)]] (AV.v (Value.int IntKind.i64 (strX (ptA (AV.v (Value.int IntKind.u8 (X p.toNat).k)) (AV.v (Value.int IntKind.u8 (X p.toNat).op)) (AV.v (Value.int IntKind.u64 (X p.toNat).n)) (AV.v (Value.int IntKind.u8 (X p.toNat).t)) (AV.v (Value.int IntKind.u8 (X p.toNat).i)) (AV.v (Value.int IntKind.u8 (X p.toNat).x))))))) (Tree.side (decide (strX (ptA (AV.v (Value.int IntKind.u8 (X (enX X N (intA (AV.v (Value.int IntKind.i64 (IntKind.i64.wrap (p + (1 : Int))))))).toNat).k)) (AV.v (Value.int IntKind.u8 (X (enX X N (intA (AV.v (Value.int IntKind.i64 (IntKind.i64.wrap (p + (1 : Int))))))).toNat).op)) (AV.v (Value.int IntKind.u64 (X (enX X N (intA (AV.v (Value.int IntKind.i64 (IntKind.i64.wrap (p + (1 : Int))))))).toNat).n)) (AV.v (Value.int IntKind.u8 (X (enX X N (intA (AV.v (Value.int IntKind.i64 (IntKind.i64.wrap (p + (1 : Int))))))).toNat).t)) (AV.v (Value.int IntKind.u8 (X (enX X N (intA (AV.v (Value.int IntKind.i64 (IntKind.i64.wrap (p + (1 : Int))))))).toNat).i)) (AV.v (Value.int IntKind.u8 (X (enX X N (intA (AV.v (Value.int IntKind.i64 (IntKind.i64.wrap (p + (1 : Int))))))).toNat).x))) ≤ strX (ptA (AV.v (Value.int IntKind.u8 (X p.toNat).k)) (AV.v (Value.int IntKind.u8 (X p.toNat).op)) (AV.v (Value.int IntKind.u64 (X p.toNat).n)) (AV.v (Value.int IntKind.u8 (X p.toNat).t)) (AV.v (Value.int IntKind.u8 (X p.toNat).i)) (AV.v (Value.int IntKind.u8 (X p.toNat).x)))) = false) (Tree.side ((ByteArray.mk #[(40 : UInt8)] ++ ByteArray.mk (List.toArray (txX X N (intA (AV.v (Value.int IntKind.i64 (IntKind.i64.wrap (p + (1 : Int)))))))) ++ ByteArray.mk #[(41 : UInt8)]).size + (ByteArray.mk #[(32 : UInt8)]).size ≤ (9223372036854775807 : Nat)) (Tree.side (PureOk Tryd.prog (54 : Nat) [AV.v (Value.int IntKind.u8 (X p.toNat).op)] (AV.v (Value.string (ByteArray.mk (List.toArray (opT (intA (AV.v (Value.int IntKind.u8 (X p.toNat).op))))))))) (Tree.side ((ByteArray.mk #[(40 : UInt8)] ++ ByteArray.mk (List.toArray (txX X N (intA (AV.v (Value.int IntKind.i64 (IntKind.i64.wrap (p + (1 : Int)))))))) ++ ByteArray.mk #[(41 : UInt8)] ++ ByteArray.mk #[(32 : UInt8)]).size + (ByteArray.mk (List.toArray (opT (intA (AV.v (Value.int IntKind.u8 (X p.toNat).op)))))).size ≤ (9223372036854775807 : Nat)) (Tree.side ((ByteArray.mk #[(40 : UInt8)] ++ ByteArray.mk (List.toArray (txX X N (intA (AV.v (Value.int IntKind.i64 (IntKind.i64.wrap (p + (1 : Int)))))))) ++ ByteArray.mk #[(41 : UInt8)] ++ ByteArray.mk #[(32 : UInt8)] ++ ByteArray.mk (List.toArray (opT (intA (AV.v (Value.int IntKind.u8 (X p.toNat).op)))))).size + (ByteArray.mk #[(32 : UInt8)]).size ≤ (9223372036854775807 : Nat)) (Tree.side ((ByteArray.mk #[(40 : UInt8)] ++ ByteArray.mk (List.toArray (txX X N (intA (AV.v (Value.int IntKind.i64 (IntKind.i64.wrap (p + (1 : Int)))))))) ++ ByteArray.mk #[(41 : UInt8)] ++ ByteArray.mk #[(32 : UInt8)] ++ ByteArray.mk (List.toArray (opT (intA (AV.v (Value.int IntKind.u8 (X p.toNat).op))))) ++ ByteArray.mk #[(32 : UInt8)]).size + (ByteArray.mk (List.toArray (txX X N (intA (AV.v (Value.int IntKind.i64 (enX X N (intA (AV.v (Value.int IntKind.i64 (IntKind.i64.wrap (p + (1 : Int))))))))))))).size ≤ (9223372036854775807 : Nat)) (Tree.ret (AV.tup [AV.v (Value.string (ByteArray.mk #[(40 : UInt8)] ++ ByteArray.mk (List.toArray (txX X N (intA (AV.v (Value.int IntKind.i64 (IntKind.i64.wrap (p + (1 : Int)))))))) ++ ByteArray.mk #[(41 : UInt8)] ++ ByteArray.mk #[(32 : UInt8)] ++ ByteArray.mk (List.toArray (opT (intA (AV.v (Value.int IntKind.u8 (X p.toNat).op))))) ++ ByteArray.mk #[(32 : UInt8)] ++ ByteArray.mk (List.toArray (txX X N (intA (AV.v (Value.int IntKind.i64 (enX X N (intA (AV.v (Value.int IntKind.i64 (IntKind.i64.wrap (p + (1 : Int)))))))))))))), AV.v (Value.int IntKind.i64 (enX X N (intA (AV.v (Value.int IntKind.i64 (enX X N (intA (AV.v (Value.int IntKind.i64 (IntKind.i64.wrap (p + (1 : Int))))))))))))])))))))))))))))))))))))) := by kernel_rfl
theorem ev23_5ft (X : Nat → Itm) (N : Nat) (L : Nat → Int) (K : Nat) (p : Int) : bodD X N L K Tryd.f23 [(17,false),(24,false),(33,false),(47,false),(64,false),(95,false),(106,true)] [rowA N X, .v (.int .i64 p)] =
    Tree.side ((0 : Int) ≤ p ∧ p < ↑N) (Tree.side (((X p.toNat).k == (0 : Int)) = false) (Tree.side (((X p.toNat).k == (1 : Int)) = false) (Tree.side (((X p.toNat).k == (2 : Int)) = false) (Tree.side (((X p.toNat).k == (3 : Int)) = false) (Tree.side (PureOk Tryd.prog (23 : Nat) [AV.sl N (nat_lit 6) (fun (i : Nat) => [AV.v (Value.int IntKind.u8 (X i).k), AV.v (Value.int IntKind.u8 (X i).op), AV.v (Value.int IntKind.u64 (X i).n), AV.v (Value.int IntKind.u8 (X i).t), AV.v (Value.int IntKind.u8 (X i).i), AV.v (Value.int IntKind.u8 (X i).x)]) false false, AV.v (Value.int IntKind.i64 (IntKind.i64.wrap (p + (1 : Int))))] (AV.tup [AV.v (Value.string (ByteArray.mk (List.toArray (txX X N (intA (AV.v (Value.int IntKind.i64 (IntKind.i64.wrap (p + (1 : Int)))))))))), AV.v (Value.int IntKind.i64 (enX X N (intA (AV.v (Value.int IntKind.i64 (IntKind.i64.wrap (p + (1 : Int))))))))])) (Tree.side (((X p.toNat).k == (4 : Int)) = false) (Tree.side (PureOk Tryd.prog (23 : Nat) [AV.sl N (nat_lit 6) (fun (i : Nat) => [AV.v (Value.int IntKind.u8 (X i).k), AV.v (Value.int IntKind.u8 (X i).op), AV.v (Value.int IntKind.u64 (X i).n), AV.v (Value.int IntKind.u8 (X i).t), AV.v (Value.int IntKind.u8 (X i).i), AV.v (Value.int IntKind.u8 (X i).x)]) false false, AV.v (Value.int IntKind.i64 (enX X N (intA (AV.v (Value.int IntKind.i64 (IntKind.i64.wrap (p + (1 : Int))))))))] (AV.tup [AV.v (Value.string (ByteArray.mk (List.toArray (txX X N (intA (AV.v (Value.int IntKind.i64 (enX X N (intA (AV.v (Value.int IntKind.i64 (IntKind.i64.wrap (p + (1 : Int)))))))))))))), AV.v (Value.int IntKind.i64 (enX X N (intA (AV.v (Value.int IntKind.i64 (enX X N (intA (AV.v (Value.int IntKind.i64 (IntKind.i64.wrap (p + (1 : Int))))))))))))])) (Tree.side ((0 : Int) ≤ IntKind.i64.wrap (p + (1 : Int)) ∧ IntKind.i64.wrap (p + (1 : Int)) < ↑N) (Tree.side (PureOk Tryd.prog (53 : Nat) [AV.agg [AV.v (Value.int IntKind.u8 (X (IntKind.i64.wrap (p + (1 : Int))).toNat).k), AV.v (Value.int IntKind.u8 (X (IntKind.i64.wrap (p + (1 : Int))).toNat).op), AV.v (Value.int IntKind.u64 (X (IntKind.i64.wrap (p + (1 : Int))).toNat).n), AV.v (Value.int IntKind.u8 (X (IntKind.i64.wrap (p + (1 : Int))).toNat).t), AV.v (Value.int IntKind.u8 (X (IntKind.i64.wrap (p + (1 : Int))).toNat).i), AV.v (Value.int IntKind.u8 (X (IntKind.i64.wrap (p + (1 : Int))).toNat).x)]] (AV.v (Value.int IntKind.i64 (strX (ptA (AV.v (Value.int IntKind.u8 (X (IntKind.i64.wrap (p + (1 : Int))).toNat).k)) (AV.v (Value.int IntKind.u8 (X (IntKind.i64.wrap (p + (1 : Int))).toNat).op)) (AV.v (Value.int IntKind.u64 (X (IntKind.i64.wrap (p + (1 : Int))).toNat).n)) (AV.v (Value.int IntKind.u8 (X (IntKind.i64.wrap (p + (1 : Int))).toNat).t)) (AV.v (Value.int IntKind.u8 (X (IntKind.i64.wrap (p + (1 : Int))).toNat).i)) (AV.v (Value.int IntKind.u8 (X (IntKind.i64.wrap (p + (1 : Int))).toNat).x))))))) (Tree.side (PureOk Tryd.prog (53 : Nat) [AV.agg [AV.v (Value.int IntKind.u8 (X p.toNat).k), AV.v (Value.int IntKind.u8 (X p.toNat).op), AV.v (Value.int IntKind.u64 (X p.toNat).n), AV.v (Value.int IntKind.u8 (X p.toNat).t), AV.v (Value.int IntKind.u8 (X p.toNat).i), AV.v (Value.int IntKind.u8 (X p.toNat).x)]] (AV.v (Value.int IntKind.i64 (strX (ptA (AV.v (Value.int IntKind.u8 (X p.toNat).k)) (AV.v (Value.int IntKind.u8 (X p.toNat).op)) (AV.v (Value.int IntKind.u64 (X p.toNat).n)) (AV.v (Value.int IntKind.u8 (X p.toNat).t)) (AV.v (Value.int IntKind.u8 (X p.toNat).i)) (AV.v (Value.int IntKind.u8 (X p.toNat).x))))))) (Tree.side (decide (strX (ptA (AV.v (Value.int IntKind.u8 (X (IntKind.i64.wrap (p + (1 : Int))).toNat).k)) (AV.v (Value.int IntKind.u8 (X (IntKind.i64.wrap (p + (1 : Int))).toNat).op)) (AV.v (Value.int IntKind.u64 (X (IntKind.i64.wrap (p + (1 : Int))).toNat).n)) (AV.v (Value.int IntKind.u8 (X (IntKind.i64.wrap (p + (1 : Int))).toNat).t)) (AV.v (Value.int IntKind.u8 (X (IntKind.i64.wrap (p + (1 : Int))).toNat).i)) (AV.v (Value.int IntKind.u8 (X (IntKind.i64.wrap (p + (1 : Int))).toNat).x))) < strX (ptA (AV.v (Value.int IntKind.u8 (X p.toNat).k)) (AV.v (Value.int IntKind.u8 (X p.toNat).op)) (AV.v (Value.int IntKind.u64 (X p.toNat).n)) (AV.v (Value.int IntKind.u8 (X p.toNat).t)) (AV.v (Value.int IntKind.u8 (X p.toNat).i)) (AV.v (Value.int IntKind.u8 (X p.toNat).x)))) = false) (Tree.side ((0 : Int) ≤ enX X N (intA (AV.v (Value.int IntKind.i64 (IntKind.i64.wrap (p + (1 : Int)))))) ∧ enX X N (intA (AV.v (Value.int IntKind.i64 (IntKind.i64.wrap (p + (1 : Int)))))) < ↑N) (Tree.side (PureOk Tryd.prog (53 : Nat) [AV.agg [AV.v (Value.int IntKind.u8 (X (enX X N (intA (AV.v (Value.int IntKind.i64 (IntKind.i64.wrap (p + (1 : Int))))))).toNat).k), AV.v (Value.int IntKind.u8 (X (enX X N (intA (AV.v (Value.int IntKind.i64 (IntKind.i64.wrap (p + (1 : Int))))))).toNat).op), AV.v (Value.int IntKind.u64 (X (enX X N (intA (AV.v (Value.int IntKind.i64 (IntKind.i64.wrap (p + (1 : Int))))))).toNat).n), AV.v (Value.int IntKind.u8 (X (enX X N (intA (AV.v (Value.int IntKind.i64 (IntKind.i64.wrap (p + (1 : Int))))))).toNat).t), AV.v (Value.int IntKind.u8 (X (enX X N (intA (AV.v (Value.int IntKind.i64 (IntKind.i64.wrap (p + (1 : Int))))))).toNat).i), AV.v (Value.int IntKind.u8 (X (enX X N (intA (AV.v (Value.int IntKind.i64 (IntKind.i64.wrap (p + (1 : Int))))))).toNat).x)]] (AV.v (Value.int IntKind.i64 (strX (ptA (AV.v (Value.int IntKind.u8 (X (enX X N (intA (AV.v (Value.int IntKind.i64 (IntKind.i64.wrap (p + (1 : Int))))))).toNat).k)) (AV.v (Value.int IntKind.u8 (X (enX X N (intA (AV.v (Value.int IntKind.i64 (IntKind.i64.wrap (p + (1 : Int))))))).toNat).op)) (AV.v (Value.int IntKind.u64 (X (enX X N (intA (AV.v (Value.int IntKind.i64 (IntKind.i64.wrap (p + (1 : Int))))))).toNat).n)) (AV.v (Value.int IntKind.u8 (X (enX X N (intA (AV.v (Value.int IntKind.i64 (IntKind.i64.wrap (p + (1 : Int))))))).toNat).t)) (AV.v (Value.int IntKind.u8 (X (enX X N (intA (AV.v (Value.int IntKind.i64 (IntKind.i64.wrap (p + (1 : Int))))))).toNat).i)) (AV.v (Value.int IntKind.u8 (X (enX X N (intA (AV.v (Value.int IntKind.i64 (IntKind.i64.wrap (p + (1 : Int))))))).toNat).x))))))) (Tree.side (PureOk Tryd.prog (53 : Nat) [AV.agg [AV.v (Value.int IntKind.u8 (X p.toNat).k), AV.v (Value.int IntKind.u8 (X p.toNat).op), AV.v (Value.int IntKind.u64 (X p.toNat).n), AV.v (Value.int IntKind.u8 (X p.toNat).t), AV.v (Value.int IntKind.u8 (X p.toNat).i), AV.v (Value.int IntKind.u8 (X p.toNat).x)]] (AV.v (Value.int IntKind.i64 (strX (ptA (AV.v (Value.int IntKind.u8 (X p.toNat).k)) (AV.v (Value.int IntKind.u8 (X p.toNat).op)) (AV.v (Value.int IntKind.u64 (X p.toNat).n)) (AV.v (Value.int IntKind.u8 (X p.toNat).t)) (AV.v (Value.int IntKind.u8 (X p.toNat).i)) (AV.v (Value.int IntKind.u8 (X p.toNat).x))))))) (Tree.side (decide (strX (ptA (AV.v (Value.int IntKind.u8 (X (enX X N (intA (AV.v (Value.int IntKind.i64 (IntKind.i64.wrap (p + (1 : Int))))))).toNat).k)) (AV.v (Value.int IntKind.u8 (X (enX X N (intA (AV.v (Value.int IntKind.i64 (IntKind.i64.wrap (p + (1 : Int))))))).toNat).op)) (AV.v (Value.int IntKind.u64 (X (enX X N (intA (AV.v (Value.int IntKind.i64 (IntKind.i64.wrap (p + (1 : Int))))))).toNat).n)) (AV.v (Value.int IntKind.u8 (X (enX X N (intA (AV.v (Value.int IntKind.i64 (IntKind.i64.wrap (p + (1 : Int))))))).toNat).t)) (AV.v (Value.int IntKind.u8 (X (enX X N (intA (AV.v (Value.int IntKind.i64 (IntKind.i64.wrap (p + (1 : Int))))))).toNat).i)) (AV.v (Value.int IntKind.u8 (X (enX X N (intA (AV.v (Value.int IntKind.i64 (IntKind.i64.wrap (p + (1 : Int))))))).toNat).x))) ≤ strX (ptA (AV.v (Value.int IntKind.u8 (X p.toNat).k)) (AV.v (Value.int IntKind.u8 (X p.toNat).op)) (AV.v (Value.int IntKind.u64 (X p.toNat).n)) (AV.v (Value.int IntKind.u8 (X p.toNat).t)) (AV.v (Value.int IntKind.u8 (X p.toNat).i)) (AV.v (Value.int IntKind.u8 (X p.toNat).x)))) = true) (Tree.side ((ByteArray.mk #[(40 : UInt8)]).size + (ByteArray.mk (List.toArray (txX X N (intA (AV.v (Value.int IntKind.i64 (enX X N (intA (AV.v (Value.int IntKind.i64 (IntKind.i64.wrap (p + (1 : Int))))))))))))).size ≤ (9223372036854775807 : Nat)) (Tree.side ((ByteArray.mk #[(40 : UInt8)] ++ ByteArray.mk (List.toArray (txX X N (intA (AV.v (Value.int IntKind.i64 (enX X N (intA (AV.v (Value.int IntKind.i64 (IntKind.i64.wrap (p + (1 : Int))))))))))))).size + (ByteArray.mk #[(41 : UInt8)]).size ≤ (9223372036854775807 : Nat)) (Tree.side ((ByteArray.mk (List.toArray (txX X N (intA (AV.v (Value.int IntKind.i64 (IntKind.i64.wrap (p + (1 : Int))))))))).size + (ByteArray.mk #[(32 : UInt8)]).size ≤ (9223372036854775807 : Nat)) (Tree.side (PureOk Tryd.prog (54 : Nat) [AV.v (Value.int IntKind.u8 (X p.toNat).op)] (AV.v (Value.string (ByteArray.mk (List.toArray (opT (intA (AV.v (Value.int IntKind.u8 (X p.toNat).op))))))))) (Tree.side ((ByteArray.mk (List.toArray (txX X N (intA (AV.v (Value.int IntKind.i64 (IntKind.i64.wrap (p + (1 : Int)))))))) ++ ByteArray.mk #[(32 : UInt8)]).size + (ByteArray.mk (List.toArray (opT (intA (AV.v (Value.int IntKind.u8 (X p.toNat).op)))))).size ≤ (9223372036854775807 : Nat)) (Tree.side ((ByteArray.mk (List.toArray (txX X N (intA (AV.v (Value.int IntKind.i64 (IntKind.i64.wrap (p + (1 : Int)))))))) ++ ByteArray.mk #[(32 : UInt8)] ++ ByteArray.mk (List.toArray (opT (intA (AV.v (Value.int IntKind.u8 (X p.toNat).op)))))).size + (ByteArray.mk #[(32 : UInt8)]).size ≤ (9223372036854775807 : Nat)) (Tree.side ((ByteArray.mk (List.toArray (txX X N (intA (AV.v (Value.int IntKind.i64 (IntKind.i64.wrap (p + (1 : Int)))))))) ++ ByteArray.mk #[(32 : UInt8)] ++ ByteArray.mk (List.toArray (opT (intA (AV.v (Value.int IntKind.u8 (X p.toNat).op))))) ++ ByteArray.mk #[(32 : UInt8)]).size + (ByteArray.mk #[(40 : UInt8)] ++ ByteArray.mk (List.toArray (txX X N (intA (AV.v (Value.int IntKind.i64 (enX X N (intA (AV.v (Value.int IntKind.i64 (IntKind.i64.wrap (p + (1 : Int)))))))))))) ++ ByteArray.mk #[(41 : UInt8)]).size ≤ (9223372036854775807 : Nat)) (Tree.ret (AV.tup [AV.v (Value.string (ByteArray.mk (List.toArray (txX X N (intA (AV.v (Value.int IntKind.i64 (IntKind.i64.wrap (p + (1 : Int)))))))) ++ ByteArray.mk #[(32 : UInt8)] ++ ByteArray.mk (List.toArray (opT (intA (AV.v (Value.int IntKind.u8 (X p.toNat).op))))) ++ ByteArray.mk #[(32 : UInt8)] ++ (ByteArray.mk #[(40 : UInt8)] ++ ByteArray.mk (List.toArray (txX X N (intA (AV.v (Value.int IntKind.i64 (enX X N (intA (AV.v (Value.int IntKind.i64 (IntKind.i64.wrap (p + (1 : Int)))))))))))) ++ ByteArray.mk #[(41 : UInt8)]))), AV.v (Value.int IntKind.i64 (enX X N (intA (AV.v (Value.int IntKind.i64 (enX X N (intA (AV.v (Value.int IntKind.i64 (IntKind.i64.wrap (p + (1 : Int))))))))))))])))))))))))))))))))))))) := by kernel_rfl
theorem ev23_5ff (X : Nat → Itm) (N : Nat) (L : Nat → Int) (K : Nat) (p : Int) : bodD X N L K Tryd.f23 [(17,false),(24,false),(33,false),(47,false),(64,false),(95,false),(106,false)] [rowA N X, .v (.int .i64 p)] =
    Tree.side ((0 : Int) ≤ p ∧ p < ↑N) (Tree.side (((X p.toNat).k == (0 : Int)) = false) (Tree.side (((X p.toNat).k == (1 : Int)) = false) (Tree.side (((X p.toNat).k == (2 : Int)) = false) (Tree.side (((X p.toNat).k == (3 : Int)) = false) (Tree.side (PureOk Tryd.prog (23 : Nat) [AV.sl N (nat_lit 6) (fun (i : Nat) => [AV.v (Value.int IntKind.u8 (X i).k), AV.v (Value.int IntKind.u8 (X i).op), AV.v (Value.int IntKind.u64 (X i).n), AV.v (Value.int IntKind.u8 (X i).t), AV.v (Value.int IntKind.u8 (X i).i), AV.v (Value.int IntKind.u8 (X i).x)]) false false, AV.v (Value.int IntKind.i64 (IntKind.i64.wrap (p + (1 : Int))))] (AV.tup [AV.v (Value.string (ByteArray.mk (List.toArray (txX X N (intA (AV.v (Value.int IntKind.i64 (IntKind.i64.wrap (p + (1 : Int)))))))))), AV.v (Value.int IntKind.i64 (enX X N (intA (AV.v (Value.int IntKind.i64 (IntKind.i64.wrap (p + (1 : Int))))))))])) (Tree.side (((X p.toNat).k == (4 : Int)) = false) (Tree.side (PureOk Tryd.prog (23 : Nat) [AV.sl N (nat_lit 6) (fun (i : Nat) => [AV.v (Value.int IntKind.u8 (X i).k), AV.v (Value.int IntKind.u8 (X i).op), AV.v (Value.int IntKind.u64 (X i).n), AV.v (Value.int IntKind.u8 (X i).t), AV.v (Value.int IntKind.u8 (X i).i), AV.v (Value.int IntKind.u8 (X i).x)]) false false, AV.v (Value.int IntKind.i64 (enX X N (intA (AV.v (Value.int IntKind.i64 (IntKind.i64.wrap (p + (1 : Int))))))))] (AV.tup [AV.v (Value.string (ByteArray.mk (List.toArray (txX X N (intA (AV.v (Value.int IntKind.i64 (enX X N (intA (AV.v (Value.int IntKind.i64 (IntKind.i64.wrap (p + (1 : Int)))))))))))))), AV.v (Value.int IntKind.i64 (enX X N (intA (AV.v (Value.int IntKind.i64 (enX X N (intA (AV.v (Value.int IntKind.i64 (IntKind.i64.wrap (p + (1 : Int))))))))))))])) (Tree.side ((0 : Int) ≤ IntKind.i64.wrap (p + (1 : Int)) ∧ IntKind.i64.wrap (p + (1 : Int)) < ↑N) (Tree.side (PureOk Tryd.prog (53 : Nat) [AV.agg [AV.v (Value.int IntKind.u8 (X (IntKind.i64.wrap (p + (1 : Int))).toNat).k), AV.v (Value.int IntKind.u8 (X (IntKind.i64.wrap (p + (1 : Int))).toNat).op), AV.v (Value.int IntKind.u64 (X (IntKind.i64.wrap (p + (1 : Int))).toNat).n), AV.v (Value.int IntKind.u8 (X (IntKind.i64.wrap (p + (1 : Int))).toNat).t), AV.v (Value.int IntKind.u8 (X (IntKind.i64.wrap (p + (1 : Int))).toNat).i), AV.v (Value.int IntKind.u8 (X (IntKind.i64.wrap (p + (1 : Int))).toNat).x)]] (AV.v (Value.int IntKind.i64 (strX (ptA (AV.v (Value.int IntKind.u8 (X (IntKind.i64.wrap (p + (1 : Int))).toNat).k)) (AV.v (Value.int IntKind.u8 (X (IntKind.i64.wrap (p + (1 : Int))).toNat).op)) (AV.v (Value.int IntKind.u64 (X (IntKind.i64.wrap (p + (1 : Int))).toNat).n)) (AV.v (Value.int IntKind.u8 (X (IntKind.i64.wrap (p + (1 : Int))).toNat).t)) (AV.v (Value.int IntKind.u8 (X (IntKind.i64.wrap (p + (1 : Int))).toNat).i)) (AV.v (Value.int IntKind.u8 (X (IntKind.i64.wrap (p + (1 : Int))).toNat).x))))))) (Tree.side (PureOk Tryd.prog (53 : Nat) [AV.agg [AV.v (Value.int IntKind.u8 (X p.toNat).k), AV.v (Value.int IntKind.u8 (X p.toNat).op), AV.v (Value.int IntKind.u64 (X p.toNat).n), AV.v (Value.int IntKind.u8 (X p.toNat).t), AV.v (Value.int IntKind.u8 (X p.toNat).i), AV.v (Value.int IntKind.u8 (X p.toNat).x)]] (AV.v (Value.int IntKind.i64 (strX (ptA (AV.v (Value.int IntKind.u8 (X p.toNat).k)) (AV.v (Value.int IntKind.u8 (X p.toNat).op)) (AV.v (Value.int IntKind.u64 (X p.toNat).n)) (AV.v (Value.int IntKind.u8 (X p.toNat).t)) (AV.v (Value.int IntKind.u8 (X p.toNat).i)) (AV.v (Value.int IntKind.u8 (X p.toNat).x))))))) (Tree.side (decide (strX (ptA (AV.v (Value.int IntKind.u8 (X (IntKind.i64.wrap (p + (1 : Int))).toNat).k)) (AV.v (Value.int IntKind.u8 (X (IntKind.i64.wrap (p + (1 : Int))).toNat).op)) (AV.v (Value.int IntKind.u64 (X (IntKind.i64.wrap (p + (1 : Int))).toNat).n)) (AV.v (Value.int IntKind.u8 (X (IntKind.i64.wrap (p + (1 : Int))).toNat).t)) (AV.v (Value.int IntKind.u8 (X (IntKind.i64.wrap (p + (1 : Int))).toNat).i)) (AV.v (Value.int IntKind.u8 (X (IntKind.i64.wrap (p + (1 : Int))).toNat).x))) < strX (ptA (AV.v (Value.int IntKind.u8 (X p.toNat).k)) (AV.v (Value.int IntKind.u8 (X p.toNat).op)) (AV.v (Value.int IntKind.u64 (X p.toNat).n)) (AV.v (Value.int IntKind.u8 (X p.toNat).t)) (AV.v (Value.int IntKind.u8 (X p.toNat).i)) (AV.v (Value.int IntKind.u8 (X p.toNat).x)))) = false) (Tree.side ((0 : Int) ≤ enX X N (intA (AV.v (Value.int IntKind.i64 (IntKind.i64.wrap (p + (1 : Int)))))) ∧ enX X N (intA (AV.v (Value.int IntKind.i64 (IntKind.i64.wrap (p + (1 : Int)))))) < ↑N) (Tree.side (PureOk Tryd.prog (53 : Nat) [AV.agg [AV.v (Value.int IntKind.u8 (X (enX X N (intA (AV.v (Value.int IntKind.i64 (IntKind.i64.wrap (p + (1 : Int))))))).toNat).k), AV.v (Value.int IntKind.u8 (X (enX X N (intA (AV.v (Value.int IntKind.i64 (IntKind.i64.wrap (p + (1 : Int))))))).toNat).op), AV.v (Value.int IntKind.u64 (X (enX X N (intA (AV.v (Value.int IntKind.i64 (IntKind.i64.wrap (p + (1 : Int))))))).toNat).n), AV.v (Value.int IntKind.u8 (X (enX X N (intA (AV.v (Value.int IntKind.i64 (IntKind.i64.wrap (p + (1 : Int))))))).toNat).t), AV.v (Value.int IntKind.u8 (X (enX X N (intA (AV.v (Value.int IntKind.i64 (IntKind.i64.wrap (p + (1 : Int))))))).toNat).i), AV.v (Value.int IntKind.u8 (X (enX X N (intA (AV.v (Value.int IntKind.i64 (IntKind.i64.wrap (p + (1 : Int))))))).toNat).x)]] (AV.v (Value.int IntKind.i64 (strX (ptA (AV.v (Value.int IntKind.u8 (X (enX X N (intA (AV.v (Value.int IntKind.i64 (IntKind.i64.wrap (p + (1 : Int))))))).toNat).k)) (AV.v (Value.int IntKind.u8 (X (enX X N (intA (AV.v (Value.int IntKind.i64 (IntKind.i64.wrap (p + (1 : Int))))))).toNat).op)) (AV.v (Value.int IntKind.u64 (X (enX X N (intA (AV.v (Value.int IntKind.i64 (IntKind.i64.wrap (p + (1 : Int))))))).toNat).n)) (AV.v (Value.int IntKind.u8 (X (enX X N (intA (AV.v (Value.int IntKind.i64 (IntKind.i64.wrap (p + (1 : Int))))))).toNat).t)) (AV.v (Value.int IntKind.u8 (X (enX X N (intA (AV.v (Value.int IntKind.i64 (IntKind.i64.wrap (p + (1 : Int))))))).toNat).i)) (AV.v (Value.int IntKind.u8 (X (enX X N (intA (AV.v (Value.int IntKind.i64 (IntKind.i64.wrap (p + (1 : Int))))))).toNat).x))))))) (Tree.side (PureOk Tryd.prog (53 : Nat) [AV.agg [AV.v (Value.int IntKind.u8 (X p.toNat).k), AV.v (Value.int IntKind.u8 (X p.toNat).op), AV.v (Value.int IntKind.u64 (X p.toNat).n), AV.v (Value.int IntKind.u8 (X p.toNat).t), AV.v (Value.int IntKind.u8 (X p.toNat).i), AV.v (Value.int IntKind.u8 (X p.toNat).x)]] (AV.v (Value.int IntKind.i64 (strX (ptA (AV.v (Value.int IntKind.u8 (X p.toNat).k)) (AV.v (Value.int IntKind.u8 (X p.toNat).op)) (AV.v (Value.int IntKind.u64 (X p.toNat).n)) (AV.v (Value.int IntKind.u8 (X p.toNat).t)) (AV.v (Value.int IntKind.u8 (X p.toNat).i)) (AV.v (Value.int IntKind.u8 (X p.toNat).x))))))) (Tree.side (decide (strX (ptA (AV.v (Value.int IntKind.u8 (X (enX X N (intA (AV.v (Value.int IntKind.i64 (IntKind.i64.wrap (p + (1 : Int))))))).toNat).k)) (AV.v (Value.int IntKind.u8 (X (enX X N (intA (AV.v (Value.int IntKind.i64 (IntKind.i64.wrap (p + (1 : Int))))))).toNat).op)) (AV.v (Value.int IntKind.u64 (X (enX X N (intA (AV.v (Value.int IntKind.i64 (IntKind.i64.wrap (p + (1 : Int))))))).toNat).n)) (AV.v (Value.int IntKind.u8 (X (enX X N (intA (AV.v (Value.int IntKind.i64 (IntKind.i64.wrap (p + (1 : Int))))))).toNat).t)) (AV.v (Value.int IntKind.u8 (X (enX X N (intA (AV.v (Value.int IntKind.i64 (IntKind.i64.wrap (p + (1 : Int))))))).toNat).i)) (AV.v (Value.int IntKind.u8 (X (enX X N (intA (AV.v (Value.int IntKind.i64 (IntKind.i64.wrap (p + (1 : Int))))))).toNat).x))) ≤ strX (ptA (AV.v (Value.int IntKind.u8 (X p.toNat).k)) (AV.v (Value.int IntKind.u8 (X p.toNat).op)) (AV.v (Value.int IntKind.u64 (X p.toNat).n)) (AV.v (Value.int IntKind.u8 (X p.toNat).t)) (AV.v (Value.int IntKind.u8 (X p.toNat).i)) (AV.v (Value.int IntKind.u8 (X p.toNat).x)))) = false) (Tree.side ((ByteArray.mk (List.toArray (txX X N (intA (AV.v (Value.int IntKind.i64 (IntKind.i64.wrap (p + (1 : Int))))))))).size + (ByteArray.mk #[(32 : UInt8)]).size ≤ (9223372036854775807 : Nat)) (Tree.side (PureOk Tryd.prog (54 : Nat) [AV.v (Value.int IntKind.u8 (X p.toNat).op)] (AV.v (Value.string (ByteArray.mk (List.toArray (opT (intA (AV.v (Value.int IntKind.u8 (X p.toNat).op))))))))) (Tree.side ((ByteArray.mk (List.toArray (txX X N (intA (AV.v (Value.int IntKind.i64 (IntKind.i64.wrap (p + (1 : Int)))))))) ++ ByteArray.mk #[(32 : UInt8)]).size + (ByteArray.mk (List.toArray (opT (intA (AV.v (Value.int IntKind.u8 (X p.toNat).op)))))).size ≤ (9223372036854775807 : Nat)) (Tree.side ((ByteArray.mk (List.toArray (txX X N (intA (AV.v (Value.int IntKind.i64 (IntKind.i64.wrap (p + (1 : Int)))))))) ++ ByteArray.mk #[(32 : UInt8)] ++ ByteArray.mk (List.toArray (opT (intA (AV.v (Value.int IntKind.u8 (X p.toNat).op)))))).size + (ByteArray.mk #[(32 : UInt8)]).size ≤ (9223372036854775807 : Nat)) (Tree.side ((ByteArray.mk (List.toArray (txX X N (intA (AV.v (Value.int IntKind.i64 (IntKind.i64.wrap (p + (1 : Int)))))))) ++ ByteArray.mk #[(32 : UInt8)] ++ ByteArray.mk (List.toArray (opT (intA (AV.v (Value.int IntKind.u8 (X p.toNat).op))))) ++ ByteArray.mk #[(32 : UInt8)]).size + (ByteArray.mk (List.toArray (txX X N (intA (AV.v (Value.int IntKind.i64 (enX X N (intA (AV.v (Value.int IntKind.i64 (IntKind.i64.wrap (p + (1 : Int))))))))))))).size ≤ (9223372036854775807 : Nat)) (Tree.ret (AV.tup [AV.v (Value.string (ByteArray.mk (List.toArray (txX X N (intA (AV.v (Value.int IntKind.i64 (IntKind.i64.wrap (p + (1 : Int)))))))) ++ ByteArray.mk #[(32 : UInt8)] ++ ByteArray.mk (List.toArray (opT (intA (AV.v (Value.int IntKind.u8 (X p.toNat).op))))) ++ ByteArray.mk #[(32 : UInt8)] ++ ByteArray.mk (List.toArray (txX X N (intA (AV.v (Value.int IntKind.i64 (enX X N (intA (AV.v (Value.int IntKind.i64 (IntKind.i64.wrap (p + (1 : Int)))))))))))))), AV.v (Value.int IntKind.i64 (enX X N (intA (AV.v (Value.int IntKind.i64 (enX X N (intA (AV.v (Value.int IntKind.i64 (IntKind.i64.wrap (p + (1 : Int))))))))))))])))))))))))))))))))))) := by kernel_rfl
theorem ev24_0 (X : Nat → Itm) (N : Nat) (L : Nat → Int) (K : Nat) (p n : Int) : bodD X N L K Tryd.f24 [(24,true)] [rowA N X, .v (.int .i64 p), rowL K L, .v (.int .i64 n)] =
    Tree.side ((0 : Int) ≤ p ∧ p < ↑N) (Tree.side (((X p.toNat).k == (0 : Int)) = true) (Tree.ret (AV.tup [AV.v (Value.int IntKind.u64 (X p.toNat).n), AV.v (Value.int IntKind.i64 (IntKind.i64.wrap (p + (1 : Int)))), AV.v (Value.int IntKind.i64 n)]))) := by kernel_rfl
theorem ev24_lt (X : Nat → Itm) (N : Nat) (L : Nat → Int) (K : Nat) (p n : Int) : bodD X N L K Tryd.f24 [(24,false),(32,true),(36,true)] [rowA N X, .v (.int .i64 p), rowL K L, .v (.int .i64 n)] =
    Tree.side ((0 : Int) ≤ p ∧ p < ↑N) (Tree.side (((X p.toNat).k == (0 : Int)) = false) (Tree.side (decide ((X p.toNat).k < (4 : Int)) = true) (Tree.side (decide (n < ↑K) = true) (Tree.side ((0 : Int) ≤ n ∧ n < ↑K) (Tree.ret (AV.tup [AV.v (Value.int IntKind.u64 (L n.toNat)), AV.v (Value.int IntKind.i64 (IntKind.i64.wrap (p + (1 : Int)))), AV.v (Value.int IntKind.i64 (IntKind.i64.wrap (n + (1 : Int))))])))))) := by kernel_rfl
theorem ev24_lf (X : Nat → Itm) (N : Nat) (L : Nat → Int) (K : Nat) (p n : Int) : bodD X N L K Tryd.f24 [(24,false),(32,true),(36,false)] [rowA N X, .v (.int .i64 p), rowL K L, .v (.int .i64 n)] =
    Tree.side ((0 : Int) ≤ p ∧ p < ↑N) (Tree.side (((X p.toNat).k == (0 : Int)) = false) (Tree.side (decide ((X p.toNat).k < (4 : Int)) = true) (Tree.side (decide (n < ↑K) = false) (Tree.ret (AV.tup [AV.lit (Value.int IntKind.u64 (Int.ofNat (nat_lit 0))), AV.v (Value.int IntKind.i64 (IntKind.i64.wrap (p + (1 : Int)))), AV.v (Value.int IntKind.i64 (IntKind.i64.wrap (n + (1 : Int))))]))))) := by kernel_rfl
theorem ev24_4 (X : Nat → Itm) (N : Nat) (L : Nat → Int) (K : Nat) (p n : Int) : bodD X N L K Tryd.f24 [(24,false),(32,false),(61,true)] [rowA N X, .v (.int .i64 p), rowL K L, .v (.int .i64 n)] =
    Tree.side ((0 : Int) ≤ p ∧ p < ↑N) (Tree.side (((X p.toNat).k == (0 : Int)) = false) (Tree.side (decide ((X p.toNat).k < (4 : Int)) = false) (Tree.side (PureOk Tryd.prog (24 : Nat) [AV.sl N (nat_lit 6) (fun (i : Nat) => [AV.v (Value.int IntKind.u8 (X i).k), AV.v (Value.int IntKind.u8 (X i).op), AV.v (Value.int IntKind.u64 (X i).n), AV.v (Value.int IntKind.u8 (X i).t), AV.v (Value.int IntKind.u8 (X i).i), AV.v (Value.int IntKind.u8 (X i).x)]) false false, AV.v (Value.int IntKind.i64 (IntKind.i64.wrap (p + (1 : Int)))), AV.sl K (nat_lit 1) (fun (i : Nat) => [AV.v (Value.int IntKind.u64 (L i))]) false false, AV.v (Value.int IntKind.i64 n)] (AV.tup [AV.v (Value.int IntKind.u64 (evX X N L K (intA (AV.v (Value.int IntKind.i64 (IntKind.i64.wrap (p + (1 : Int)))))) (intA (AV.v (Value.int IntKind.i64 n))))), AV.v (Value.int IntKind.i64 (enX X N (intA (AV.v (Value.int IntKind.i64 (IntKind.i64.wrap (p + (1 : Int)))))))), AV.v (Value.int IntKind.i64 (cnX X N L K (intA (AV.v (Value.int IntKind.i64 (IntKind.i64.wrap (p + (1 : Int)))))) (intA (AV.v (Value.int IntKind.i64 n)))))])) (Tree.side (((X p.toNat).k == (4 : Int)) = true) (Tree.side (PureOk Tryd.prog (55 : Nat) [AV.v (Value.int IntKind.u8 (X p.toNat).op), AV.v (Value.int IntKind.u64 (evX X N L K (intA (AV.v (Value.int IntKind.i64 (IntKind.i64.wrap (p + (1 : Int)))))) (intA (AV.v (Value.int IntKind.i64 n)))))] (AV.v (Value.int IntKind.u64 (oneN (intA (AV.v (Value.int IntKind.u8 (X p.toNat).op))) (intA (AV.v (Value.int IntKind.u64 (evX X N L K (intA (AV.v (Value.int IntKind.i64 (IntKind.i64.wrap (p + (1 : Int)))))) (intA (AV.v (Value.int IntKind.i64 n))))))))))) (Tree.ret (AV.tup [AV.v (Value.int IntKind.u64 (oneN (intA (AV.v (Value.int IntKind.u8 (X p.toNat).op))) (intA (AV.v (Value.int IntKind.u64 (evX X N L K (intA (AV.v (Value.int IntKind.i64 (IntKind.i64.wrap (p + (1 : Int)))))) (intA (AV.v (Value.int IntKind.i64 n))))))))), AV.v (Value.int IntKind.i64 (enX X N (intA (AV.v (Value.int IntKind.i64 (IntKind.i64.wrap (p + (1 : Int)))))))), AV.v (Value.int IntKind.i64 (cnX X N L K (intA (AV.v (Value.int IntKind.i64 (IntKind.i64.wrap (p + (1 : Int)))))) (intA (AV.v (Value.int IntKind.i64 n)))))]))))))) := by kernel_rfl
theorem ev24_5 (X : Nat → Itm) (N : Nat) (L : Nat → Int) (K : Nat) (p n : Int) : bodD X N L K Tryd.f24 [(24,false),(32,false),(61,false)] [rowA N X, .v (.int .i64 p), rowL K L, .v (.int .i64 n)] =
    Tree.side ((0 : Int) ≤ p ∧ p < ↑N) (Tree.side (((X p.toNat).k == (0 : Int)) = false) (Tree.side (decide ((X p.toNat).k < (4 : Int)) = false) (Tree.side (PureOk Tryd.prog (24 : Nat) [AV.sl N (nat_lit 6) (fun (i : Nat) => [AV.v (Value.int IntKind.u8 (X i).k), AV.v (Value.int IntKind.u8 (X i).op), AV.v (Value.int IntKind.u64 (X i).n), AV.v (Value.int IntKind.u8 (X i).t), AV.v (Value.int IntKind.u8 (X i).i), AV.v (Value.int IntKind.u8 (X i).x)]) false false, AV.v (Value.int IntKind.i64 (IntKind.i64.wrap (p + (1 : Int)))), AV.sl K (nat_lit 1) (fun (i : Nat) => [AV.v (Value.int IntKind.u64 (L i))]) false false, AV.v (Value.int IntKind.i64 n)] (AV.tup [AV.v (Value.int IntKind.u64 (evX X N L K (intA (AV.v (Value.int IntKind.i64 (IntKind.i64.wrap (p + (1 : Int)))))) (intA (AV.v (Value.int IntKind.i64 n))))), AV.v (Value.int IntKind.i64 (enX X N (intA (AV.v (Value.int IntKind.i64 (IntKind.i64.wrap (p + (1 : Int)))))))), AV.v (Value.int IntKind.i64 (cnX X N L K (intA (AV.v (Value.int IntKind.i64 (IntKind.i64.wrap (p + (1 : Int)))))) (intA (AV.v (Value.int IntKind.i64 n)))))])) (Tree.side (((X p.toNat).k == (4 : Int)) = false) (Tree.side (PureOk Tryd.prog (24 : Nat) [AV.sl N (nat_lit 6) (fun (i : Nat) => [AV.v (Value.int IntKind.u8 (X i).k), AV.v (Value.int IntKind.u8 (X i).op), AV.v (Value.int IntKind.u64 (X i).n), AV.v (Value.int IntKind.u8 (X i).t), AV.v (Value.int IntKind.u8 (X i).i), AV.v (Value.int IntKind.u8 (X i).x)]) false false, AV.v (Value.int IntKind.i64 (enX X N (intA (AV.v (Value.int IntKind.i64 (IntKind.i64.wrap (p + (1 : Int)))))))), AV.sl K (nat_lit 1) (fun (i : Nat) => [AV.v (Value.int IntKind.u64 (L i))]) false false, AV.v (Value.int IntKind.i64 (cnX X N L K (intA (AV.v (Value.int IntKind.i64 (IntKind.i64.wrap (p + (1 : Int)))))) (intA (AV.v (Value.int IntKind.i64 n)))))] (AV.tup [AV.v (Value.int IntKind.u64 (evX X N L K (intA (AV.v (Value.int IntKind.i64 (enX X N (intA (AV.v (Value.int IntKind.i64 (IntKind.i64.wrap (p + (1 : Int)))))))))) (intA (AV.v (Value.int IntKind.i64 (cnX X N L K (intA (AV.v (Value.int IntKind.i64 (IntKind.i64.wrap (p + (1 : Int)))))) (intA (AV.v (Value.int IntKind.i64 n))))))))), AV.v (Value.int IntKind.i64 (enX X N (intA (AV.v (Value.int IntKind.i64 (enX X N (intA (AV.v (Value.int IntKind.i64 (IntKind.i64.wrap (p + (1 : Int)))))))))))), AV.v (Value.int IntKind.i64 (cnX X N L K (intA (AV.v (Value.int IntKind.i64 (enX X N (intA (AV.v (Value.int IntKind.i64 (IntKind.i64.wrap (p + (1 : Int)))))))))) (intA (AV.v (Value.int IntKind.i64 (cnX X N L K (intA (AV.v (Value.int IntKind.i64 (IntKind.i64.wrap (p + (1 : Int)))))) (intA (AV.v (Value.int IntKind.i64 n)))))))))])) (Tree.side (PureOk Tryd.prog (56 : Nat) [AV.v (Value.int IntKind.u8 (X p.toNat).op), AV.v (Value.int IntKind.u64 (evX X N L K (intA (AV.v (Value.int IntKind.i64 (IntKind.i64.wrap (p + (1 : Int)))))) (intA (AV.v (Value.int IntKind.i64 n))))), AV.v (Value.int IntKind.u64 (evX X N L K (intA (AV.v (Value.int IntKind.i64 (enX X N (intA (AV.v (Value.int IntKind.i64 (IntKind.i64.wrap (p + (1 : Int)))))))))) (intA (AV.v (Value.int IntKind.i64 (cnX X N L K (intA (AV.v (Value.int IntKind.i64 (IntKind.i64.wrap (p + (1 : Int)))))) (intA (AV.v (Value.int IntKind.i64 n)))))))))] (AV.v (Value.int IntKind.u64 (numDo (intA (AV.v (Value.int IntKind.u8 (X p.toNat).op))) (intA (AV.v (Value.int IntKind.u64 (evX X N L K (intA (AV.v (Value.int IntKind.i64 (IntKind.i64.wrap (p + (1 : Int)))))) (intA (AV.v (Value.int IntKind.i64 n))))))) (intA (AV.v (Value.int IntKind.u64 (evX X N L K (intA (AV.v (Value.int IntKind.i64 (enX X N (intA (AV.v (Value.int IntKind.i64 (IntKind.i64.wrap (p + (1 : Int)))))))))) (intA (AV.v (Value.int IntKind.i64 (cnX X N L K (intA (AV.v (Value.int IntKind.i64 (IntKind.i64.wrap (p + (1 : Int)))))) (intA (AV.v (Value.int IntKind.i64 n))))))))))))))) (Tree.ret (AV.tup [AV.v (Value.int IntKind.u64 (numDo (intA (AV.v (Value.int IntKind.u8 (X p.toNat).op))) (intA (AV.v (Value.int IntKind.u64 (evX X N L K (intA (AV.v (Value.int IntKind.i64 (IntKind.i64.wrap (p + (1 : Int)))))) (intA (AV.v (Value.int IntKind.i64 n))))))) (intA (AV.v (Value.int IntKind.u64 (evX X N L K (intA (AV.v (Value.int IntKind.i64 (enX X N (intA (AV.v (Value.int IntKind.i64 (IntKind.i64.wrap (p + (1 : Int)))))))))) (intA (AV.v (Value.int IntKind.i64 (cnX X N L K (intA (AV.v (Value.int IntKind.i64 (IntKind.i64.wrap (p + (1 : Int)))))) (intA (AV.v (Value.int IntKind.i64 n))))))))))))), AV.v (Value.int IntKind.i64 (enX X N (intA (AV.v (Value.int IntKind.i64 (enX X N (intA (AV.v (Value.int IntKind.i64 (IntKind.i64.wrap (p + (1 : Int)))))))))))), AV.v (Value.int IntKind.i64 (cnX X N L K (intA (AV.v (Value.int IntKind.i64 (enX X N (intA (AV.v (Value.int IntKind.i64 (IntKind.i64.wrap (p + (1 : Int)))))))))) (intA (AV.v (Value.int IntKind.i64 (cnX X N L K (intA (AV.v (Value.int IntKind.i64 (IntKind.i64.wrap (p + (1 : Int)))))) (intA (AV.v (Value.int IntKind.i64 n)))))))))])))))))) := by kernel_rfl
end
end Go.Proofs.YtdlghljhgbakjaaDoor

/-
  PART: two rows that may be: alike just if their trees are, just if they are written alike.
-/
namespace Go.Proofs.YtdlghljhgbakjaaDoor
open Go.RowKit
def okI6 (a : Itm) : Prop := (0 ≤ a.n ∧ a.n ≤ 18446744073709551615) ∧ 0 ≤ a.t ∧ 0 ≤ a.i
theorem okT_of (X : Nat → Itm) (N : Nat) (h : ∀ j, okI6 (X j)) : ∀ m p, okT (ofT X N m p).1
  | 0, _ => trivial
  | m + 1, p => by
    have a := okT_of X N h m (p + 1)
    have b := okT_of X N h m (ofT X N m (p + 1)).2
    obtain ⟨h1, h2, h3⟩ := h p
    unfold ofT
    split
    · trivial
    simp only []
    split
    · exact ⟨h1, by omega, by omega, trivial, trivial⟩
    split
    · exact ⟨by omega, by omega, h3, trivial, trivial⟩
    split
    · exact ⟨by omega, h2, h3, trivial, trivial⟩
    split
    · exact ⟨by omega, by omega, by omega, trivial, trivial⟩
    split
    · exact ⟨by omega, by omega, by omega, a, trivial⟩
    split
    · exact ⟨by omega, by omega, by omega, a, b⟩
    · exact ⟨by omega, by omega, by omega, trivial, trivial⟩
theorem good_tree {X : Nat → Itm} {N : Nat} (hg : goodE X N = true) : 0 ≤ (endT X N N 0).1 ∧ Rd X 0 (ofT X N 20 0).1 (endT X N N 0).1.toNat ∧ mayT (ofT X N 20 0).1 = true := by
  unfold goodE at hg
  split at hg
  · rename_i h0
    have h0 : 0 ≤ (endT X N N 0).1 := of_decide_eq_true h0
    have hd := of_decide_eq_true hg
    obtain ⟨t, r1, r2, r3⟩ := end_rd X N N 0 h0
    have h12 : dep t ≤ 12 := by omega
    have e : ofT X N 20 0 = (t, (endT X N N 0).1.toNat) := r3 20 (by omega)
    rw [e]
    refine ⟨h0, r1, ?_⟩
    have := depthT_dep t 13
    have e2 : depthT t ((13 : Nat) : Int) = depthT t 13 := rfl
    unfold mayT
    rw [if_pos (decide_eq_true (show depthT t 13 ≤ 12 by omega))]
    exact r1.good
  · cases hg
theorem alike_law {X Y : Nat → Itm} {M N : Nat} (hX : ∀ j, okI6 (X j)) (hY : ∀ j, okI6 (Y j)) (gX : goodE X M = true) (gY : goodE Y N = true) {sm : Bool}
    (hs : sm = true ↔ (endT X M M 0).1 = (endT Y N N 0).1 ∧ ∀ j, j < (endT X M M 0).1.toNat → alikeB (X j) (Y j) = true) :
    sameB (ofT X M 20 0).1 (ofT Y N 20 0).1 = sm ∧ (textB (ofT X M 20 0).1 = textB (ofT Y N 20 0).1 ↔ sm = true) := by
  obtain ⟨x0, rx, mx'⟩ := good_tree gX
  obtain ⟨y0, ry, my⟩ := good_tree gY
  have ox := okT_of X M hX 20 0
  have oy := okT_of Y N hY 20 0
  generalize (ofT X M 20 0).1 = T at *
  generalize (ofT Y N 20 0).1 = U at *
  have key : T = U ↔ sm = true := by
    rw [hs]
    constructor
    · rintro rfl
      obtain ⟨a, b⟩ := rd_same rx _ ry
      exact ⟨by omega, fun j hj => b j (Nat.zero_le _) hj⟩
    · rintro ⟨_, h⟩
      exact (rd_alike rx _ _ ry fun j _ hj => h j hj).1
  refine ⟨?_, ?_⟩
  · unfold sameB
    rw [mx', my, if_pos rfl, if_pos rfl]
    have := sameT_iff T U
    rw [key] at this
    cases h1 : sameT T U <;> cases sm <;> simp_all
  · unfold textB
    rw [mx', my, if_pos rfl, if_pos rfl, ← key]
    obtain ⟨g1, _⟩ := good_GT T ox rx.good
    obtain ⟨g2, _⟩ := good_GT U oy ry.good
    exact ⟨fun h => text_inj g1 U g2 h, fun h => by rw [h]⟩
end Go.Proofs.YtdlghljhgbakjaaDoor

/-
  PART: what the document answers of a row: contracts.
-/
namespace Go.Proofs.YtdlghljhgbakjaaDoor
open Go.RowKit
theorem mk_app (a b : List UInt8) : ByteArray.mk a.toArray ++ ByteArray.mk b.toArray = ByteArray.mk (a ++ b).toArray := B_app a b
theorem mk_size (a : List UInt8) : (ByteArray.mk a.toArray).size = a.length := B_size a
theorem w64 (p : Nat) (h : p ≤ 100000) : IntKind.i64.wrap ((p : Int) + 1) = ((p + 1 : Nat) : Int) := by
  have := wr_in (z := (p : Int) + 1) (by omega) (by omega)
  unfold wr at this
  rw [this]; rfl
theorem str_nd (k op n t i x : Int) (l r : Tr) : str (.nd k op n t i x l r) = if k < 4 then 5 else strO op := rfl
section
variable {X : Nat → Itm} {N : Nat} {L : Nat → Int} {K : Nat}
theorem dec52 : ∀ n : Nat, n < 18446744073709551616 → PureOk Tryd.prog 52 [.v (.int .u64 (n : Nat))] (.v (bytesV (dig n))) := by
  intro n
  induction n using Nat.strongRecOn with
  | _ n ih =>
    intro hn
    by_cases h : n < 10
    · have key := ev52t (fun _ => ⟨0, 0, 0, 0, 0, 0⟩) 0 (fun _ => 0) 0 (n : Nat)
      have hw : IntKind.u64.wrap ((n : Int) + 1) = ((n + 1 : Nat) : Int) := u64_in _ (by omega) (by omega)
      simp only [hw, Int.toNat_natCast] at key
      refine bodD_ok Tryd.func52 (by kernel_rfl) key ⟨decide_eq_true (by omega), ⟨by omega, by omega, ?_⟩, ?_⟩ (by kernel_rfl)
      · show ((n + 1 : Nat) : Int) ≤ ((10 : Nat) : Int); omega
      · rw [dig_lt h]
        have : ∀ k : Fin 10, (ByteArray.mk #[(48 : UInt8), 49, 50, 51, 52, 53, 54, 55, 56, 57]).extract k.val (k.val + 1) = ByteArray.mk [dch k.val].toArray := by decide
        show AV.v (Value.string _) = AV.v (Value.string _)
        rw [← this ⟨n, h⟩]
    · have key := ev52f (fun _ => ⟨0, 0, 0, 0, 0, 0⟩) 0 (fun _ => 0) 0 (n : Nat)
      have e1 : (n : Int).tdiv 10 = ((n / 10 : Nat) : Int) := by rw [Int.tdiv_eq_ediv_of_nonneg (by omega)]; omega
      have e2 : (n : Int).tmod 10 = ((n % 10 : Nat) : Int) := by rw [Int.tmod_eq_emod_of_nonneg (by omega)]; omega
      have hw : IntKind.u64.wrap ((n / 10 : Nat) : Int) = ((n / 10 : Nat) : Int) := u64_in _ (by omega) (by omega)
      simp only [e1, e2, hw, intA, Int.toNat_natCast, mk_app, mk_size] at key
      have l1 := dig_len 19 (n / 10) (by omega)
      have l2 := dig_len 19 (n % 10) (by omega)
      refine bodD_ok Tryd.func52 (by kernel_rfl) key ⟨decide_eq_false (by omega), by decide, ih (n / 10) (by omega) (by omega), by decide, ih (n % 10) (by omega) (by omega), by omega, ?_⟩ (by kernel_rfl)
      rw [dig_ge h, dig_lt (Nat.mod_lt n (by omega : 10 > 0))]
      rfl
theorem str53 (a : Itm) : PureOk Tryd.prog 53 [.agg (itmC a)] (.v (.int .i64 (strX a))) := by
  refine bodD_ok Tryd.func53 (by kernel_rfl) (ev53 (fun _ => ⟨0, 0, 0, 0, 0, 0⟩) 0 (fun _ => 0) 0 a) ?_ (by kernel_rfl)
  show AV.v (.int .i64 _) = AV.v (.int .i64 _)
  simp [strX]
theorem un_lit {f : Nat} {v : Value} {a : AV} (h : PureOk Tryd.prog f [.lit v] a) : PureOk Tryd.prog f [.v v] a :=
  h.pre fun E vs hr => by
    cases hr with | cons h1 h2 => cases h1 with | v v h => exact .cons (.lit v h) h2
theorem ev54 : ((List.range 15).all fun k => match bodD (fun _ => ⟨0, 0, 0, 0, 0, 0⟩) 0 (fun _ => 0) 0 Tryd.f54 [] [.lit (.int .u8 (k : Nat))] with | .ret (.lit (.string s)) => decide (s = B (opT (k : Nat))) | _ => false) = true := by kernel_rfl
theorem text54 {op : Int} (h0 : 0 ≤ op) (h : op ≤ 14) : PureOk Tryd.prog 54 [.v (.int .u8 op)] (.v (bytesV (opT op))) := by
  have h1 := List.all_eq_true.1 ev54 op.toNat (List.mem_range.2 (by omega))
  have e : ((op.toNat : Nat) : Int) = op := by omega
  simp only [e] at h1
  split at h1
  · rename_i s hs
    have h2 := of_decide_eq_true h1
    refine un_lit (lit_v (bodD_ok Tryd.func54 (by kernel_rfl) hs ?_ (by kernel_rfl)))
    rw [h2]; rfl
  · cases h1
theorem strX_eq {p e : Nat} {t : Tr} (h : Rd X p t e) : strX (X p) = ((str t : Nat) : Int) := by
  cases h with
  | leaf _ h =>
    have hk := leafB_k h
    obtain ⟨n, t, i, x, hl⟩ := leafTr_k h
    rw [hl, str_nd]
    unfold strX
    rw [if_pos (by omega), if_pos (by omega)]; rfl
  | one _ _ l k s =>
    obtain ⟨h1, h2⟩ := sides1 s
    rw [str_nd, if_neg (by omega)]
    unfold strX strO
    rw [if_neg (by omega), if_pos k, if_neg (by omega), if_neg (by omega), if_neg (by omega)]; rfl
  | two _ _ _ l r k s =>
    obtain ⟨h1, h2⟩ := sides2 s
    rw [str_nd, if_neg (by omega)]
    unfold strX strO
    rw [if_neg (by omega), if_neg (by omega)]
    by_cases c1 : (X p).op ≤ 4
    · rw [if_pos (by omega), if_pos c1]; rfl
    · rw [if_neg (by omega), if_neg c1]
      by_cases c2 : (X p).op ≤ 8
      · rw [if_pos (by omega), if_pos c2]; rfl
      · rw [if_neg (by omega), if_neg c2, if_pos (by omega)]; rfl
theorem ofT_rd {p e : Nat} {t : Tr} (h : Rd X p t e) : e ≤ N → ∀ m, dep t ≤ m → ofT X N m p = (t, e) := by
  induction h with
  | leaf p hl =>
    intro he m hm
    have hd : 1 ≤ dep (leafTr (X p)) := by
      obtain ⟨n, t, i, x, hq⟩ := leafTr_k hl
      rw [hq]; show 1 ≤ max 0 0 + 1; omega
    obtain ⟨m, rfl⟩ : ∃ m', m = m' + 1 := ⟨m - 1, by omega⟩
    exact ofT_leaf (by omega) hl
  | one p e l k s hr ih =>
    intro he m hm
    have hd : dep (.nd 4 (X p).op 0 0 0 0 l .nil) = dep l + 1 := by show max (dep l) 0 + 1 = _; omega
    obtain ⟨m, rfl⟩ : ∃ m', m = m' + 1 := ⟨m - 1, by omega⟩
    have := hr.lt
    rw [ofT, if_neg (by omega)]
    simp only [k, ih he m (by omega)]
    rfl
  | two p q e l r k s hr hr2 i1 i2 =>
    intro he m hm
    have hd : dep (.nd 5 (X p).op 0 0 0 0 l r) = max (dep l) (dep r) + 1 := rfl
    obtain ⟨m, rfl⟩ : ∃ m', m = m' + 1 := ⟨m - 1, by omega⟩
    have := hr.lt
    have := hr2.lt
    rw [ofT, if_neg (by omega)]
    simp only [k, i1 (by omega) m (by omega), i2 he m (by omega)]
    rfl
end
end Go.Proofs.YtdlghljhgbakjaaDoor

/-
  PART: what the document answers of a row that begins with an expression: its text, its value.
-/
namespace Go.Proofs.YtdlghljhgbakjaaDoor
open Go.RowKit
theorem ptA_itm (a : Itm) : ptA (.v (.int .u8 a.k)) (.v (.int .u8 a.op)) (.v (.int .u64 a.n)) (.v (.int .u8 a.t)) (.v (.int .u8 a.i)) (.v (.int .u8 a.x)) = a := rfl
section
variable {X : Nat → Itm} {N : Nat} {L : Nat → Int} {K : Nat}
theorem okT_rd (hX : ∀ j, okI6 (X j)) {p e : Nat} {t : Tr} (h : Rd X p t e) : okT t := by
  have := okT_of X e hX (dep t) p
  rw [ofT_rd h (Nat.le_refl e) (dep t) (Nat.le_refl _)] at this
  exact this
theorem GT_rd (hX : ∀ j, okI6 (X j)) {p e : Nat} {t : Tr} (h : Rd X p t e) : GT t ∧ nOk t := good_GT t (okT_rd hX h) h.good
theorem len_rd (hX : ∀ j, okI6 (X j)) {p e : Nat} {t : Tr} (h : Rd X p t e) (hd : dep t ≤ 20) : (text t).length ≤ 41943040 := by
  obtain ⟨h1, h2⟩ := GT_rd hX h
  have h3 := text_len h1 h2
  have h4 : 2 ^ dep t ≤ 2 ^ 20 := Nat.pow_le_pow_right (by omega) hd
  have h5 : (2 : Nat) ^ 20 = 1048576 := by decide
  omega
theorem tup_str {f : Nat} {args : List AV} {s : ByteArray} {l : Bs} {r : List AV} (h : PureOk Tryd.prog f args (.tup (.v (.string s) :: r))) (e : s = B l) : PureOk Tryd.prog f args (.tup (.v (bytesV l) :: r)) := by
  subst e; exact h
theorem nat_w {z : Int} (h0 : 0 ≤ z) (h1 : z < 18446744073709551616) : IntKind.u64.wrap z = ((z.toNat : Nat) : Int) := by rw [u64_in z h0 h1]; omega
theorem dep_one (op : Int) (l : Tr) : dep (.nd 4 op 0 0 0 0 l .nil) = dep l + 1 := by show max (dep l) 0 + 1 = _; omega
theorem dep_two (op : Int) (l r : Tr) : dep (.nd 5 op 0 0 0 0 l r) = max (dep l) (dep r) + 1 := rfl
theorem opI_len2 (op : Int) (h1 : 1 ≤ op) (h2 : op ≤ 14) : (opT op).length ≤ 2 := by
  by_cases h : op ≤ 12
  · exact opT_len op h1 h
  · rcases opT_one (op := op) (by omega) h2 with h | h <;> rw [h] <;> simp
theorem text23 (hX : ∀ j, okI6 (X j)) (hN : N ≤ 1000) {p e : Nat} {t : Tr} (h : Rd X p t e) : e ≤ N → dep t ≤ 20 → PureOk Tryd.prog 23 [rowA N X, .v (.int .i64 (p : Nat))] (.tup [.v (bytesV (text t)), .v (.int .i64 (e : Nat))]) := by
  induction h with
  | leaf p hl =>
    intro he hd
    have hw := w64 p (by omega)
    have hp : (0 : Int) ≤ (p : Int) ∧ (p : Int) < (N : Int) := by omega
    obtain ⟨⟨n0, n1⟩, t0, i0⟩ := hX p
    rcases leafB_k hl with k | k | k | k
    · have key := ev23_0 X N (fun _ => 0) 0 (p : Int)
      simp only [hw, intA, Int.toNat_natCast] at key
      have e1 : leafTr (X p) = .nd 0 0 (X p).n 0 0 0 .nil .nil := by unfold leafTr; rw [if_pos k]
      rw [e1, text_num]
      refine bodD_ok Tryd.func23 (by kernel_rfl) key ⟨hp, by simp [k], ?_, rfl⟩ (by kernel_rfl)
      have := dec52 (X p).n.toNat (by omega)
      rwa [Int.toNat_of_nonneg n0] at this
    · have hb : (X p).i < 8 := by unfold leafB at hl; simpa [k] using hl
      have key := ev23_1 X N (fun _ => 0) 0 (p : Int)
      simp only [hw, intA, Int.toNat_natCast, nat_w i0 (by omega), mk_app, mk_size] at key
      have e1 : leafTr (X p) = .nd 1 0 0 0 (X p).i 0 .nil .nil := by unfold leafTr; rw [if_neg (by omega), if_pos k]
      rw [e1, text_reg]
      have l1 := dig_len 19 (X p).i.toNat (by omega)
      exact bodD_ok Tryd.func23 (by kernel_rfl) key ⟨hp, by simp [k], by simp [k], dec52 _ (by omega), by simp only [List.length_cons, List.length_nil]; omega, rfl⟩ (by kernel_rfl)
    · have hb : (X p).t < 4 ∧ (X p).i < 8 := by unfold leafB at hl; simpa [k] using hl
      have key := ev23_2 X N (fun _ => 0) 0 (p : Int)
      simp only [hw, intA, Int.toNat_natCast, nat_w i0 (by omega), nat_w t0 (by omega), mk_app, mk_size] at key
      have e1 : leafTr (X p) = .nd 2 0 0 (X p).t (X p).i 0 .nil .nil := by unfold leafTr; rw [if_neg (by omega), if_neg (by omega), if_pos k]
      rw [e1, text_of]
      have l1 := dig_len 19 (X p).i.toNat (by omega)
      have l2 := dig_len 19 (X p).t.toNat (by omega)
      refine tup_str (bodD_ok Tryd.func23 (by kernel_rfl) key ⟨hp, by simp [k], by simp [k], by simp [k], dec52 _ (by omega), by simp only [List.length_cons, List.length_nil]; omega, dec52 _ (by omega), by simp only [List.length_append, List.length_cons, List.length_nil]; omega, rfl⟩ (by kernel_rfl)) ?_
      simp [B]
    · have key := ev23_3 X N (fun _ => 0) 0 (p : Int)
      simp only [hw, Int.toNat_natCast] at key
      have e1 : leafTr (X p) = .nd 3 0 0 0 0 (X p).x .nil .nil := by unfold leafTr; rw [if_neg (by omega), if_neg (by omega), if_neg (by omega)]
      rw [e1, text_loc]
      exact bodD_ok Tryd.func23 (by kernel_rfl) key ⟨hp, by simp [k], by simp [k], by simp [k], by simp [k], rfl⟩ (by kernel_rfl)
  | one p e l k s hr ih =>
    intro he hd
    rw [dep_one] at hd
    have hlt := hr.lt
    have hw := w64 p (by omega)
    have hp : (0 : Int) ≤ (p : Int) ∧ (p : Int) < (N : Int) := by omega
    have h1 := ofT_rd (N := N) hr he 100 (by omega)
    have hl := len_rd hX hr (by omega)
    have ih := ih he (by omega)
    obtain ⟨s1, s2⟩ := sides1 s
    have hs := strX_eq hr
    have ho := opI_len2 (X p).op (by omega) (by omega)
    rw [text_one]
    by_cases hc : str l < 4
    · have key := ev23_4t X N (fun _ => 0) 0 (p : Int)
      simp only [hw, intA, Int.toNat_natCast, ptA_itm, txX, enX, h1, mk_app, mk_size, hs] at key
      rw [decide_eq_true hc]
      refine tup_str (bodD_ok Tryd.func23 (by kernel_rfl) key ⟨hp, by simp [k], by simp [k], by simp [k], by simp [k], ih, by simp [k], by omega, ?_, decide_eq_true (by omega), ?_, ?_, text54 (by omega) (by omega), ?_, rfl⟩ (by kernel_rfl)) ?_
      · rw [← hs]; exact str53 (X (p + 1))
      · simp only [List.length_cons, List.length_nil]; omega
      · simp only [List.length_append, List.length_cons, List.length_nil]; omega
      · simp only [List.length_append, List.length_cons, List.length_nil]; omega
      · simp [B, paren]
    · have key := ev23_4f X N (fun _ => 0) 0 (p : Int)
      simp only [hw, intA, Int.toNat_natCast, ptA_itm, txX, enX, h1, mk_app, mk_size, hs] at key
      rw [decide_eq_false hc]
      refine tup_str (bodD_ok Tryd.func23 (by kernel_rfl) key ⟨hp, by simp [k], by simp [k], by simp [k], by simp [k], ih, by simp [k], by omega, ?_, decide_eq_false (by omega), text54 (by omega) (by omega), ?_, rfl⟩ (by kernel_rfl)) ?_
      · rw [← hs]; exact str53 (X (p + 1))
      · omega
      · simp [B, paren]
  | two p q e l r k s hr hr2 i1 i2 =>
    intro he hd
    rw [dep_two] at hd
    have hlt := hr.lt
    have hlt2 := hr2.lt
    have hw := w64 p (by omega)
    have hp : (0 : Int) ≤ (p : Int) ∧ (p : Int) < (N : Int) := by omega
    have hp1 : (0 : Int) ≤ ((p + 1 : Nat) : Int) ∧ ((p + 1 : Nat) : Int) < (N : Int) := by omega
    have hq1 : (0 : Int) ≤ (q : Int) ∧ (q : Int) < (N : Int) := by omega
    have h1 := ofT_rd (N := N) hr (by omega) 100 (by omega)
    have h2 := ofT_rd (N := N) hr2 he 100 (by omega)
    have hl := len_rd hX hr (by omega)
    have hl2 := len_rd hX hr2 (by omega)
    have i1 := i1 (by omega) (by omega)
    have i2 := i2 he (by omega)
    obtain ⟨s1, s2⟩ := sides2 s
    have hs := strX_eq hr
    have hs2 := strX_eq hr2
    have hs0 : strX (X p) = ((strO (X p).op : Nat) : Int) := by
      rw [strX_eq (Rd.two p q e l r k s hr hr2), str_nd, if_neg (by omega)]
    have c53 : ∀ j (v : Int), strX (X j) = v → PureOk Tryd.prog 53 [.agg (itmC (X j))] (.v (.int .i64 v)) := fun j v hv => by rw [← hv]; exact str53 (X j)
    have ho := opI_len2 (X p).op (by omega) (by omega)
    rw [text_two]
    by_cases hc : str l < strO (X p).op
    · by_cases hc2 : str r < strO (X p).op + 1
      · have key := ev23_5tt X N (fun _ => 0) 0 (p : Int)
        simp only [hw, intA, Int.toNat_natCast, ptA_itm, txX, enX, h1, h2, mk_app, mk_size, hs, hs2, hs0] at key
        rw [decide_eq_true hc, decide_eq_true hc2]
        refine tup_str (bodD_ok Tryd.func23 (by kernel_rfl) key ⟨hp, by simp [k], by simp [k], by simp [k], by simp [k], i1, by simp [k], i2, hp1, c53 _ _ hs, c53 _ _ hs0, decide_eq_true (by omega), ?_, ?_, hq1, c53 _ _ hs2, c53 _ _ hs0, decide_eq_true (by omega), ?_, ?_, ?_, text54 (by omega) (by omega), ?_, ?_, ?_, rfl⟩ (by kernel_rfl)) ?_
        all_goals first | (simp only [List.length_append, List.length_cons, List.length_nil]; omega) | simp [B, paren]
      · have key := ev23_5tf X N (fun _ => 0) 0 (p : Int)
        simp only [hw, intA, Int.toNat_natCast, ptA_itm, txX, enX, h1, h2, mk_app, mk_size, hs, hs2, hs0] at key
        rw [decide_eq_true hc, decide_eq_false hc2]
        refine tup_str (bodD_ok Tryd.func23 (by kernel_rfl) key ⟨hp, by simp [k], by simp [k], by simp [k], by simp [k], i1, by simp [k], i2, hp1, c53 _ _ hs, c53 _ _ hs0, decide_eq_true (by omega), ?_, ?_, hq1, c53 _ _ hs2, c53 _ _ hs0, decide_eq_false (by omega), ?_, text54 (by omega) (by omega), ?_, ?_, ?_, rfl⟩ (by kernel_rfl)) ?_
        all_goals first | (simp only [List.length_append, List.length_cons, List.length_nil]; omega) | simp [B, paren]
    · by_cases hc2 : str r < strO (X p).op + 1
      · have key := ev23_5ft X N (fun _ => 0) 0 (p : Int)
        simp only [hw, intA, Int.toNat_natCast, ptA_itm, txX, enX, h1, h2, mk_app, mk_size, hs, hs2, hs0] at key
        rw [decide_eq_false hc, decide_eq_true hc2]
        refine tup_str (bodD_ok Tryd.func23 (by kernel_rfl) key ⟨hp, by simp [k], by simp [k], by simp [k], by simp [k], i1, by simp [k], i2, hp1, c53 _ _ hs, c53 _ _ hs0, decide_eq_false (by omega), hq1, c53 _ _ hs2, c53 _ _ hs0, decide_eq_true (by omega), ?_, ?_, ?_, text54 (by omega) (by omega), ?_, ?_, ?_, rfl⟩ (by kernel_rfl)) ?_
        all_goals first | (simp only [List.length_append, List.length_cons, List.length_nil]; omega) | simp [B, paren]
      · have key := ev23_5ff X N (fun _ => 0) 0 (p : Int)
        simp only [hw, intA, Int.toNat_natCast, ptA_itm, txX, enX, h1, h2, mk_app, mk_size, hs, hs2, hs0] at key
        rw [decide_eq_false hc, decide_eq_false hc2]
        refine tup_str (bodD_ok Tryd.func23 (by kernel_rfl) key ⟨hp, by simp [k], by simp [k], by simp [k], by simp [k], i1, by simp [k], i2, hp1, c53 _ _ hs, c53 _ _ hs0, decide_eq_false (by omega), hq1, c53 _ _ hs2, c53 _ _ hs0, decide_eq_false (by omega), ?_, text54 (by omega) (by omega), ?_, ?_, ?_, rfl⟩ (by kernel_rfl)) ?_
        all_goals first | (simp only [List.length_append, List.length_cons, List.length_nil]; omega) | simp [B, paren]
end
end Go.Proofs.YtdlghljhgbakjaaDoor

/-
  PART: what the document answers of a row that begins with an expression: what it comes to.
-/
namespace Go.Proofs.YtdlghljhgbakjaaDoor
open Go.RowKit
section
variable {X : Nat → Itm} {N : Nat} {L : Nat → Int} {K : Nat}
theorem evalT_nd (k op v t i x : Int) (l r : Tr) (n : Nat) : evalT L K (.nd k op v t i x l r) n = if k = 0 then (v, n) else if k = 4 then (oneN op (evalT L K l n).1, (evalT L K l n).2)
    else if k = 5 then (numDo op (evalT L K l n).1 (evalT L K r (evalT L K l n).2).1, (evalT L K r (evalT L K l n).2).2) else (leafV L K n, n + 1) := rfl
theorem tup_lv {E : Env} {v u : Value} {r : List AV} (h : Rep E (.tup (.lit v :: r)) u) : Rep E (.tup (.v v :: r)) u := by
  cases h with
  | tup h =>
    rename_i cs
    refine .tup ?_
    generalize cs.toList = l at h
    cases h with
    | cons h0 ht => cases h0 with
      | lit v hv => exact .cons (.v _ hv) ht
theorem leafV_R (hL : ∀ j, j < K → u64R (L j)) (n : Nat) : u64R (leafV L K n) := by
  unfold leafV
  split
  · exact hL n (by assumption)
  · exact zero_R
theorem eval_rd (hX : ∀ j, okI6 (X j)) (hL : ∀ j, j < K → u64R (L j)) {p e : Nat} {t : Tr} (h : Rd X p t e) : ∀ n, u64R (evalT L K t n).1 ∧ (evalT L K t n).2 ≤ n + (e - p) := by
  induction h with
  | leaf p hl =>
    intro n
    obtain ⟨⟨n0, n1⟩, _, _⟩ := hX p
    rcases leafB_k hl with k | k | k | k
    · have e1 : leafTr (X p) = .nd 0 0 (X p).n 0 0 0 .nil .nil := by unfold leafTr; rw [if_pos k]
      rw [e1, evalT_nd, if_pos rfl]
      exact ⟨⟨n0, by show (X p).n < _; omega⟩, by show n ≤ _; omega⟩
    all_goals
      obtain ⟨m, t, i, x, e1⟩ := leafTr_k hl
      rw [e1, evalT_nd, if_neg (by omega), if_neg (by omega), if_neg (by omega)]
      exact ⟨leafV_R hL n, by show n + 1 ≤ _; omega⟩
  | one p e l k s hr ih =>
    intro n
    have := hr.lt
    rw [evalT_nd, if_neg (by omega), if_pos rfl]
    have := (ih n).2
    exact ⟨oneN_R _ _, by show (evalT L K l n).2 ≤ _; omega⟩
  | two p q e l r k s hr hr2 i1 i2 =>
    intro n
    have := hr.lt
    have := hr2.lt
    rw [evalT_nd, if_neg (by omega), if_neg (by omega), if_pos rfl]
    have h1 := i1 n
    have h2 := i2 (evalT L K l n).2
    exact ⟨numDo_R h1.1 h2.1, by show (evalT L K r (evalT L K l n).2).2 ≤ _; omega⟩
theorem value24 (hX : ∀ j, okI6 (X j)) (hL : ∀ j, j < K → u64R (L j)) (hN : N ≤ 1000) (hK : K ≤ 1000) {p e : Nat} {t : Tr} (h : Rd X p t e) : e ≤ N → dep t ≤ 20 → ∀ n : Nat, n + (e - p) ≤ 10000 →
    PureOk Tryd.prog 24 [rowA N X, .v (.int .i64 (p : Nat)), rowL K L, .v (.int .i64 (n : Nat))] (.tup [.v (.int .u64 (evalT L K t n).1), .v (.int .i64 (e : Nat)), .v (.int .i64 ((evalT L K t n).2 : Nat))]) := by
  induction h with
  | leaf p hl =>
    intro he hd n hn
    have hw := w64 p (by omega)
    have hwn := w64 n (by omega)
    have hp : (0 : Int) ≤ (p : Int) ∧ (p : Int) < (N : Int) := by omega
    rcases leafB_k hl with k | k | k | k
    · have key := ev24_0 X N L K (p : Int) (n : Int)
      simp only [hw, Int.toNat_natCast] at key
      have e1 : leafTr (X p) = .nd 0 0 (X p).n 0 0 0 .nil .nil := by unfold leafTr; rw [if_pos k]
      rw [e1, evalT_nd, if_pos rfl]
      exact bodD_ok Tryd.func24 (by kernel_rfl) key ⟨hp, by simp [k], rfl⟩ (by kernel_rfl)
    all_goals
      obtain ⟨m, t, i, x, e1⟩ := leafTr_k hl
      rw [e1, evalT_nd, if_neg (by omega), if_neg (by omega), if_neg (by omega)]
      unfold leafV
      by_cases hc : n < K
      · have key := ev24_lt X N L K (p : Int) (n : Int)
        simp only [hw, hwn, Int.toNat_natCast] at key
        rw [if_pos hc]
        exact bodD_ok Tryd.func24 (by kernel_rfl) key ⟨hp, by simp [k], by simp [k], decide_eq_true (by omega), by omega, rfl⟩ (by kernel_rfl)
      · have key := ev24_lf X N L K (p : Int) (n : Int)
        simp only [hw, hwn, Int.toNat_natCast] at key
        rw [if_neg hc]
        exact (bodD_ok Tryd.func24 (by kernel_rfl) key ⟨hp, by simp [k], by simp [k], decide_eq_false (by omega), rfl⟩ (by kernel_rfl)).imp fun u hu E => tup_lv (hu E)
  | one p e l k s hr ih =>
    intro he hd n hn
    rw [dep_one] at hd
    have hlt := hr.lt
    have hw := w64 p (by omega)
    have hp : (0 : Int) ≤ (p : Int) ∧ (p : Int) < (N : Int) := by omega
    have h1 := ofT_rd (N := N) hr he 100 (by omega)
    have ih := ih he (by omega) n (by omega)
    rw [evalT_nd, if_neg (by omega), if_pos rfl]
    have key := ev24_4 X N L K (p : Int) (n : Int)
    simp only [hw, intA, Int.toNat_natCast, evX, cnX, enX, h1] at key
    exact bodD_ok Tryd.func24 (by kernel_rfl) key ⟨hp, by simp [k], by simp [k], ih, by simp [k], one55 _ _, rfl⟩ (by kernel_rfl)
  | two p q e l r k s hr hr2 i1 i2 =>
    intro he hd n hn
    rw [dep_two] at hd
    have hlt := hr.lt
    have hlt2 := hr2.lt
    have hw := w64 p (by omega)
    have hp : (0 : Int) ≤ (p : Int) ∧ (p : Int) < (N : Int) := by omega
    have h1 := ofT_rd (N := N) hr (by omega) 100 (by omega)
    have h2 := ofT_rd (N := N) hr2 he 100 (by omega)
    have r1 := eval_rd hX hL hr n
    have r2 := eval_rd hX hL hr2 (evalT L K l n).2
    have i1 := i1 (by omega) (by omega) n (by omega)
    have i2 := i2 he (by omega) (evalT L K l n).2 (by omega)
    rw [evalT_nd, if_neg (by omega), if_neg (by omega), if_pos rfl]
    have key := ev24_5 X N L K (p : Int) (n : Int)
    simp only [hw, intA, Int.toNat_natCast, evX, cnX, enX, h1, h2] at key
    exact bodD_ok Tryd.func24 (by kernel_rfl) key ⟨hp, by simp [k], by simp [k], i1, by simp [k], i2, do56 _ _ _ r1.1.1 r1.1.2 r2.1.1 r2.1.2, rfl⟩ (by kernel_rfl)
end
end Go.Proofs.YtdlghljhgbakjaaDoor

/-
  PART: what a tree comes to, leaves told by a function that counts: the table.
-/
namespace Go.Proofs.YtdlghljhgbakjaaDoor
open Go.RowKit
noncomputable section
def next20 : AV := .fn (.func 20) [] [.ptr 0 0, .ptr 1 0]
def cntB (n : Int) : Blk := .fix 3 [.v (.int .i64 n)]
def tabM50 (L : Nat → Int) (K : Nat) (f : Nat) (args : List AV) (bs : List Blk) : Option (Tree MRes) := match f, args, bs with
  | 50, [.any φ, .fn g a b], [.fix ty [a0], b1] =>
    let r : MRes := (.v (.int .u64 (evalT L K (treeOf φ) (intA a0).toNat).1), [(0, some (cntB ((evalT L K (treeOf φ) (intA a0).toNat).2 : Nat)))], 2, [0])
    some (.side (MutOk Tryd.prog 50 [.any φ, .fn g a b] [.fix ty [a0], b1] r.1 r.2.1 r.2.2.1 r.2.2.2) (.ret r))
  | _, _, _ => none
theorem tabM50_ok (L : Nat → Int) (K : Nat) : TabMOk Tryd.prog (tabM50 L K) := by
  intro f args bs t r ht hh
  unfold tabM50 at ht
  split at ht
  · cases ht
    obtain ⟨h1, h2⟩ := hh
    cases h2
    exact h1
  · cases ht
def tab9x (f : Nat) (args : List AV) : Option (Tree AV) := match f, args with
  | 95, [op, a] => some (ctrT 95 [op, a] (.v (.int .u64 (oneN (intA op) (intA a)))))
  | 96, [op, a, b] => some (ctrT 96 [op, a, b] (.v (.int .u64 (numDo (intA op) (intA a) (intA b)))))
  | _, _ => none
theorem tab9x_ok : TabOk Tryd.prog tab9x := by
  intro f args t a ht hh
  unfold tab9x at ht
  split at ht <;> cases ht
  all_goals
    obtain ⟨h1, h2⟩ := hh
    cases h2
    exact h1
def noF (_ : Nat) (_ : List AV) : Option (Tree AV) := none
theorem noF_ok {P : Program} : TabFOk P noF := fun _ _ _ _ h => nomatch h
def cx50 (L : Nat → Int) (K : Nat) (dec : Nat → St → Option Bool) : Cx := ⟨Tryd.prog, ctrOf3 tab9x noF (tabM50 L K), dec⟩
theorem cx50_ok (L : Nat → Int) (K : Nat) (dec : Nat → St → Option Bool) : CtrOk (cx50 L K dec) := ctrOf3_ok tab9x_ok noF_ok (tabM50_ok L K) dec
def bodM (cx : Cx) (fn : Func) (args : List AV) (bs : List Blk) : Tree (Option MRes) := (bodyE cx (evs cx 60) fn (codeOf fn) args (smallS bs)).map (compactM bs.length)
def bs50 (L : Nat → Int) (K : Nat) (n : Int) : List Blk := [cntB n, .fix 42 [rowL K L]]
end
end Go.Proofs.YtdlghljhgbakjaaDoor

/-
  PART: what a tree comes to, leaves told by a function that counts: the contract.
-/
namespace Go.Proofs.YtdlghljhgbakjaaDoor
open Go.RowKit
noncomputable section
theorem ev50_0 (L : Nat → Int) (K : Nat) (op v t i x n : Int) : bodM (cx50 L K (decL [])) Tryd.f50 [cellK (lkA 0) op v t i x nilA nilA, next20] (bs50 L K n) =
    Tree.ret (some (AV.v (Value.int IntKind.u64 v), [], nat_lit 2, [])) := by kernel_rfl
theorem ev50_1t (L : Nat → Int) (K : Nat) (op v t i x n : Int) : bodM (cx50 L K (decL [(10,true)])) Tryd.f50 [cellK (lkA 1) op v t i x nilA nilA, next20] (bs50 L K n) =
    Tree.side (decide (IntKind.i64.wrap (n + (1 : Int)) ≤ ↑K) = true) (Tree.side ((0 : Int) ≤ IntKind.i64.wrap (IntKind.i64.wrap (n + (1 : Int)) - (1 : Int)) ∧ IntKind.i64.wrap (IntKind.i64.wrap (n + (1 : Int)) - (1 : Int)) < ↑K) (Tree.ret (some (AV.v (Value.int IntKind.u64 (L (IntKind.i64.wrap (IntKind.i64.wrap (n + (1 : Int)) - (1 : Int))).toNat)), [(nat_lit 0, some (Blk.fix (nat_lit 3) [AV.v (Value.int IntKind.i64 (IntKind.i64.wrap (n + (1 : Int))))]))], nat_lit 2, [nat_lit 0])))) := by kernel_rfl
theorem ev50_1f (L : Nat → Int) (K : Nat) (op v t i x n : Int) : bodM (cx50 L K (decL [(10,false)])) Tryd.f50 [cellK (lkA 1) op v t i x nilA nilA, next20] (bs50 L K n) =
    Tree.side (decide (IntKind.i64.wrap (n + (1 : Int)) ≤ ↑K) = false) (Tree.ret (some (AV.lit (Value.int IntKind.u64 (Int.ofNat (nat_lit 0))), [(nat_lit 0, some (Blk.fix (nat_lit 3) [AV.v (Value.int IntKind.i64 (IntKind.i64.wrap (n + (1 : Int))))]))], nat_lit 2, [nat_lit 0]))) := by kernel_rfl
theorem ev50_2t (L : Nat → Int) (K : Nat) (op v t i x n : Int) : bodM (cx50 L K (decL [(10,true)])) Tryd.f50 [cellK (lkA 2) op v t i x nilA nilA, next20] (bs50 L K n) =
    Tree.side (decide (IntKind.i64.wrap (n + (1 : Int)) ≤ ↑K) = true) (Tree.side ((0 : Int) ≤ IntKind.i64.wrap (IntKind.i64.wrap (n + (1 : Int)) - (1 : Int)) ∧ IntKind.i64.wrap (IntKind.i64.wrap (n + (1 : Int)) - (1 : Int)) < ↑K) (Tree.ret (some (AV.v (Value.int IntKind.u64 (L (IntKind.i64.wrap (IntKind.i64.wrap (n + (1 : Int)) - (1 : Int))).toNat)), [(nat_lit 0, some (Blk.fix (nat_lit 3) [AV.v (Value.int IntKind.i64 (IntKind.i64.wrap (n + (1 : Int))))]))], nat_lit 2, [nat_lit 0])))) := by kernel_rfl
theorem ev50_2f (L : Nat → Int) (K : Nat) (op v t i x n : Int) : bodM (cx50 L K (decL [(10,false)])) Tryd.f50 [cellK (lkA 2) op v t i x nilA nilA, next20] (bs50 L K n) =
    Tree.side (decide (IntKind.i64.wrap (n + (1 : Int)) ≤ ↑K) = false) (Tree.ret (some (AV.lit (Value.int IntKind.u64 (Int.ofNat (nat_lit 0))), [(nat_lit 0, some (Blk.fix (nat_lit 3) [AV.v (Value.int IntKind.i64 (IntKind.i64.wrap (n + (1 : Int))))]))], nat_lit 2, [nat_lit 0]))) := by kernel_rfl
theorem ev50_3t (L : Nat → Int) (K : Nat) (op v t i x n : Int) : bodM (cx50 L K (decL [(10,true)])) Tryd.f50 [cellK (lkA 3) op v t i x nilA nilA, next20] (bs50 L K n) =
    Tree.side (decide (IntKind.i64.wrap (n + (1 : Int)) ≤ ↑K) = true) (Tree.side ((0 : Int) ≤ IntKind.i64.wrap (IntKind.i64.wrap (n + (1 : Int)) - (1 : Int)) ∧ IntKind.i64.wrap (IntKind.i64.wrap (n + (1 : Int)) - (1 : Int)) < ↑K) (Tree.ret (some (AV.v (Value.int IntKind.u64 (L (IntKind.i64.wrap (IntKind.i64.wrap (n + (1 : Int)) - (1 : Int))).toNat)), [(nat_lit 0, some (Blk.fix (nat_lit 3) [AV.v (Value.int IntKind.i64 (IntKind.i64.wrap (n + (1 : Int))))]))], nat_lit 2, [nat_lit 0])))) := by kernel_rfl
theorem ev50_3f (L : Nat → Int) (K : Nat) (op v t i x n : Int) : bodM (cx50 L K (decL [(10,false)])) Tryd.f50 [cellK (lkA 3) op v t i x nilA nilA, next20] (bs50 L K n) =
    Tree.side (decide (IntKind.i64.wrap (n + (1 : Int)) ≤ ↑K) = false) (Tree.ret (some (AV.lit (Value.int IntKind.u64 (Int.ofNat (nat_lit 0))), [(nat_lit 0, some (Blk.fix (nat_lit 3) [AV.v (Value.int IntKind.i64 (IntKind.i64.wrap (n + (1 : Int))))]))], nat_lit 2, [nat_lit 0]))) := by kernel_rfl

abbrev EV (L : Nat → Int) (K : Nat) (t : Tr) (n : Int) : Int := (evalT L K (treeOf (TrR t)) n.toNat).1
abbrev CN (L : Nat → Int) (K : Nat) (t : Tr) (n : Int) : Int := ((evalT L K (treeOf (TrR t)) n.toNat).2 : Nat)
def M50 (L : Nat → Int) (K : Nat) (t : Tr) (n : Int) : Prop := MutOk Tryd.prog 50 [anyT t, next20] (bs50 L K n) (.v (.int .u64 (EV L K t n))) [(0, some (cntB (CN L K t n)))] 2 [0]
theorem ev50_4 (L : Nat → Int) (K : Nat) (op v t i x n : Int) (l : Tr) : bodM (cx50 L K (decL [])) Tryd.f50 [cellK (lkA 4) op v t i x (anyT l) nilA, next20] (bs50 L K n) =
    .side (M50 L K l n) (.side (PureOk Tryd.prog 95 [.v (.int .u8 op), .v (.int .u64 (EV L K l n))] (.v (.int .u64 (oneN op (EV L K l n))))) (.ret (some (.v (.int .u64 (oneN op (EV L K l n))), [(0, some (cntB (CN L K l n)))], 2, [0])))) := by kernel_rfl
theorem ev50_5 (L : Nat → Int) (K : Nat) (op v t i x n : Int) (l r : Tr) : bodM (cx50 L K (decL [])) Tryd.f50 [cellK (lkA 5) op v t i x (anyT l) (anyT r), next20] (bs50 L K n) =
    .side (M50 L K l n) (.side (M50 L K r (CN L K l n)) (.side (PureOk Tryd.prog 96 [.v (.int .u8 op), .v (.int .u64 (EV L K l n)), .v (.int .u64 (EV L K r (CN L K l n)))] (.v (.int .u64 (numDo op (EV L K l n) (EV L K r (CN L K l n)))))) (.ret (some (.v (.int .u64 (numDo op (EV L K l n) (EV L K r (CN L K l n)))), [(0, some (cntB (CN L K r (CN L K l n))))], 2, [0]))))) := by kernel_rfl
end
end Go.Proofs.YtdlghljhgbakjaaDoor

/-
  PART: what a tree comes to, leaves told by a function that counts: proved for trees that may be.
-/
namespace Go.Proofs.YtdlghljhgbakjaaDoor
open Go.RowKit
def sz : Tr → Nat
  | .nil => 0
  | .nd _ _ _ _ _ _ l r => sz l + sz r + 1
section
variable {L : Nat → Int} {K : Nat}
theorem eval_sz : ∀ (t : Tr) (n : Nat), n ≤ (evalT L K t n).2 ∧ (evalT L K t n).2 ≤ n + sz t
  | .nil, n => ⟨Nat.le_refl n, Nat.le_refl n⟩
  | .nd k op v t i x l r, n => by
    have h1 := eval_sz l n
    have h2 := eval_sz r (evalT L K l n).2
    rw [evalT_nd]
    unfold sz
    split
    · exact ⟨Nat.le_refl n, by show n ≤ _; omega⟩
    split
    · exact ⟨h1.1, by show (evalT L K l n).2 ≤ _; omega⟩
    split
    · exact ⟨by show n ≤ (evalT L K r (evalT L K l n).2).2; omega, by show (evalT L K r (evalT L K l n).2).2 ≤ _; omega⟩
    · exact ⟨Nat.le_succ n, by show n + 1 ≤ _; omega⟩
theorem eval_R (hL : ∀ j, j < K → u64R (L j)) : ∀ {t : Tr}, GT t → nOk t → ∀ n, u64R (evalT L K t n).1 := by
  intro t h
  induction h with
  | num v h =>
    intro hn n
    rw [evalT_nd, if_pos rfl]
    exact ⟨h, by have := hn.1; show v < _; omega⟩
  | reg i h1 h2 => intro _ n; rw [evalT_nd, if_neg (by omega), if_neg (by omega), if_neg (by omega)]; exact leafV_R hL n
  | of t i _ _ _ _ => intro _ n; rw [evalT_nd, if_neg (by omega), if_neg (by omega), if_neg (by omega)]; exact leafV_R hL n
  | loc x _ _ _ => intro _ n; rw [evalT_nd, if_neg (by omega), if_neg (by omega), if_neg (by omega)]; exact leafV_R hL n
  | one op l _ _ _ ih => intro _ n; rw [evalT_nd, if_neg (by omega), if_pos rfl]; exact oneN_R _ _
  | two op l r _ _ _ _ i1 i2 => intro hn n; rw [evalT_nd, if_neg (by omega), if_neg (by omega), if_pos rfl]; exact numDo_R (i1 hn.2.1 _) (i2 hn.2.2 _)
theorem pre_cellM {f : Nat} {k op n t i x : Int} {l r : Tr} {kc a b : AV} {rest : List AV} {bs : List Blk} {ans : AV} {H : List (Nat × Option Blk)} {n1 : Nat} {wr : List Nat} (hk : ∀ E u, Rep E (.v (.int .u8 k)) u → Rep E kc u) (ha : ∀ E u, Rep E (anyT l) u → Rep E a u) (hb : ∀ E u, Rep E (anyT r) u → Rep E b u)
    (hbs : BsLe bs bs) (h : MutOk Tryd.prog f (cellK kc op n t i x a b :: rest) bs ans H n1 wr) : MutOk Tryd.prog f (anyT (.nd k op n t i x l r) :: rest) bs ans H n1 wr :=
  h.pre (fun E vs hr => by cases hr with | cons h1 h2 => exact .cons (rep_cell hk ha hb h1) h2) hbs
theorem BsLe.refl : ∀ bs : List Blk, BsLe bs bs
  | [] => .nil
  | b :: l => .cons (BlkLe.refl b) (BsLe.refl l)
theorem ret_same {a : AV} {H : List (Nat × Option Blk)} {n1 : Nat} {wr : List Nat} : ∃ a0 H0, some ((a, H, n1, wr) : MRes) = some (a0, H0, n1, wr) ∧ (∀ E v, Rep E a0 v → Rep E a v) ∧ HLe H0 H := ⟨a, H, rfl, fun _ _ h => h, HLe.refl H⟩
theorem v_of_lit {v : Value} : ∀ E u, Rep E (.lit v) u → Rep E (.v v) u := fun E u h => by cases h with | lit v h => exact .v _ h
theorem evM {L : Nat → Int} {K : Nat} {dec : List (Nat × Bool)} {args : List AV} {bs : List Blk} {t : Tree (Option MRes)} {a : AV} {H : List (Nat × Option Blk)} {n1 : Nat} {wr : List Nat} (h : bodM (cx50 L K (decL dec)) Tryd.f50 args bs = t)
    (ha : t.wp fun r => ∃ a0 H0, r = some (a0, H0, n1, wr) ∧ (∀ E v, Rep E a0 v → Rep E a v) ∧ HLe H0 H) : MutOk Tryd.prog 50 args bs a H n1 wr :=
  mut_ev (cx := cx50 L K (decL dec)) (cx50_ok L K _) fitTry Tryd.func50 (c := codeOf Tryd.f50) (by kernel_rfl) h ha
theorem leaf50 (n : Nat) (hn : n ≤ 1000) (k op v t i x : Int) (hk : k = 1 ∨ k = 2 ∨ k = 3) : MutOk Tryd.prog 50 [anyT (.nd k op v t i x .nil .nil), next20] (bs50 L K (n : Nat)) (.v (.int .u64 (leafV L K n))) [(0, some (cntB ((n + 1 : Nat) : Int)))] 2 [0] := by
  have hw := w64 n (by omega)
  have hm : IntKind.i64.wrap (((n + 1 : Nat) : Int) - 1) = (n : Int) := by
    have := wr_in (z := ((n + 1 : Nat) : Int) - 1) (by omega) (by omega)
    unfold wr at this
    rw [this]; omega
  unfold leafV
  rcases hk with rfl | rfl | rfl
  · refine pre_cellM k_lit a_nil a_nil (BsLe.refl _) ?_
    by_cases hc : n < K
    · have key := ev50_1t L K op v t i x (n : Int)
      simp only [hw, hm, Int.toNat_natCast] at key
      rw [if_pos hc]
      exact evM key ⟨decide_eq_true (by omega), by omega, ret_same⟩
    · have key := ev50_1f L K op v t i x (n : Int)
      simp only [hw] at key
      rw [if_neg hc]
      exact evM key ⟨decide_eq_false (by omega), _, _, rfl, v_of_lit, HLe.refl _⟩
  · refine pre_cellM k_lit a_nil a_nil (BsLe.refl _) ?_
    by_cases hc : n < K
    · have key := ev50_2t L K op v t i x (n : Int)
      simp only [hw, hm, Int.toNat_natCast] at key
      rw [if_pos hc]
      exact evM key ⟨decide_eq_true (by omega), by omega, ret_same⟩
    · have key := ev50_2f L K op v t i x (n : Int)
      simp only [hw] at key
      rw [if_neg hc]
      exact evM key ⟨decide_eq_false (by omega), _, _, rfl, v_of_lit, HLe.refl _⟩
  · refine pre_cellM k_lit a_nil a_nil (BsLe.refl _) ?_
    by_cases hc : n < K
    · have key := ev50_3t L K op v t i x (n : Int)
      simp only [hw, hm, Int.toNat_natCast] at key
      rw [if_pos hc]
      exact evM key ⟨decide_eq_true (by omega), by omega, ret_same⟩
    · have key := ev50_3f L K op v t i x (n : Int)
      simp only [hw] at key
      rw [if_neg hc]
      exact evM key ⟨decide_eq_false (by omega), _, _, rfl, v_of_lit, HLe.refl _⟩
theorem eval50 (hL : ∀ j, j < K → u64R (L j)) {t : Tr} (h : GT t) : nOk t → ∀ n : Nat, n + sz t ≤ 1000 →
    MutOk Tryd.prog 50 [anyT t, next20] (bs50 L K (n : Nat)) (.v (.int .u64 (evalT L K t n).1)) [(0, some (cntB ((evalT L K t n).2 : Nat)))] 2 [0] := by
  induction h with
  | num v h =>
    intro hn n hz
    rw [evalT_nd, if_pos rfl]
    refine pre_cellM k_lit a_nil a_nil (BsLe.refl _) ?_
    exact mut_stay (evM (ev50_0 L K 0 v 0 0 0 (n : Int)) ret_same) rfl (by simp) rfl
  | reg i h1 h2 => intro hn n hz; rw [evalT_nd, if_neg (by omega), if_neg (by omega), if_neg (by omega)]; exact leaf50 n (by omega) _ _ _ _ _ _ (by omega)
  | of t i _ _ _ _ => intro hn n hz; rw [evalT_nd, if_neg (by omega), if_neg (by omega), if_neg (by omega)]; exact leaf50 n (by omega) _ _ _ _ _ _ (by omega)
  | loc x _ _ _ => intro hn n hz; rw [evalT_nd, if_neg (by omega), if_neg (by omega), if_neg (by omega)]; exact leaf50 n (by omega) _ _ _ _ _ _ (by omega)
  | one op l s1 s2 hl ih =>
    intro hn n hz
    have hz' : sz (.nd 4 op 0 0 0 0 l .nil) = sz l + 0 + 1 := rfl
    rw [evalT_nd, if_neg (by omega), if_pos rfl]
    have key := ev50_4 L K op 0 0 0 0 (n : Int) l
    have ih := ih hn.2.1 n (by omega)
    unfold M50 at key
    simp only [EV, CN, treeOf_tr, Int.toNat_natCast] at key
    refine pre_cellM k_lit a_any a_nil (BsLe.refl _) ?_
    exact evM key ⟨ih, one95 _ _, ret_same⟩
  | two op l r s1 s2 hl hr i1 i2 =>
    intro hn n hz
    have hz' : sz (.nd 5 op 0 0 0 0 l r) = sz l + sz r + 1 := rfl
    rw [evalT_nd, if_neg (by omega), if_neg (by omega), if_pos rfl]
    have key := ev50_5 L K op 0 0 0 0 (n : Int) l r
    have e1 := eval_sz (L := L) (K := K) l n
    have i1 := i1 hn.2.1 n (by omega)
    have i2 := i2 hn.2.2 (evalT L K l n).2 (by omega)
    unfold M50 at key
    simp only [EV, CN, treeOf_tr, Int.toNat_natCast] at key
    refine pre_cellM k_lit a_any a_any (BsLe.refl _) ?_
    exact evM key ⟨i1, i2, do96 _ _ _ (eval_R hL hl hn.2.1 n).1 (eval_R hL hr hn.2.2 _).1, ret_same⟩
end
end Go.Proofs.YtdlghljhgbakjaaDoor

/-
  PART: the law ExprSame: its table.
-/
namespace Go.Proofs.YtdlghljhgbakjaaDoor
open Go.RowKit
def itmOf : List AV → Itm
  | [a0, a1, a2, a3, a4, a5] => ⟨intA a0, intA a1, intA a2, intA a3, intA a4, intA a5⟩
  | _ => ⟨0, 0, 0, 0, 0, 0⟩
def rowX : AV → Nat → Itm
  | .sl _ _ get _ _ => fun j => itmOf (get j)
  | _ => fun _ => itmOf []
def rowN : AV → Nat
  | .sl n _ _ _ _ => n
  | _ => 0
noncomputable section
def good12 (r : AV) : AV := .tup [.v (.int .i64 (endT (rowX r) (rowN r) (rowN r) 0).1), .v (.bool (goodE (rowX r) (rowN r)))]
/-- Contracts that leave all as it was. -/
def tabS (f : Nat) (args : List AV) : Option (Tree AV) := match f, args with
  | 11, [] => some (.ret (.lit (.bool true)))
  | 12, [r] => some (ctrT 12 [r] (good12 r))
  | 14, [.agg a, .agg b] => some (ctrT 14 [.agg a, .agg b] (.v (.bool (alikeB (itmOf a) (itmOf b)))))
  | 15, [.any φ, .any ψ] => some (ctrT 15 [.any φ, .any ψ] (.v (.bool (sameB (treeOf φ) (treeOf ψ)))))
  | 16, [.any φ] => some (ctrT 16 [.any φ] (.v (bytesV (textB (treeOf φ)))))
  | _, _ => none
theorem tabS_ok : TabOk Tryd.prog tabS := by
  intro f args t a ht hh
  unfold tabS at ht
  split at ht <;> cases ht
  · cases hh; exact wakes11
  all_goals
    obtain ⟨h1, h2⟩ := hh
    cases h2
    exact h1
def tabSF (f : Nat) (args : List AV) : Option (Tree AV) := match f, args with
  | 13, [r, p, m] => some (.side (FrzOk Tryd.prog 13 [r, p, m] (ansOf (rowX r) (rowN r) (intA p) (intA m))) (.ret (ansOf (rowX r) (rowN r) (intA p) (intA m))))
  | _, _ => none
theorem tabSF_ok : TabFOk Tryd.prog tabSF := by
  intro f args t a ht hh
  unfold tabSF at ht
  split at ht
  · cases ht
    obtain ⟨h1, h2⟩ := hh
    cases h2
    exact h1
  · cases ht
noncomputable def cxS (dec : Nat → St → Option Bool) : Cx := ⟨Tryd.prog, ctrOf2 tabS tabSF, dec⟩
theorem cxS_ok (dec : Nat → St → Option Bool) : CtrOk (cxS dec) := ctrOf2_ok tabS_ok tabSF_ok dec
end
end Go.Proofs.YtdlghljhgbakjaaDoor

/-
  PART: the leaves of a tree, told one by one to a function that looks at a row: the table.
-/
namespace Go.Proofs.YtdlghljhgbakjaaDoor
open Go.RowKit
def kT : Tr → Int | .nil => 0 | .nd k _ _ _ _ _ _ _ => k
def nT : Tr → Int | .nil => 0 | .nd _ _ n _ _ _ _ _ => n
def tT : Tr → Int | .nil => 0 | .nd _ _ _ t _ _ _ _ => t
def iT : Tr → Int | .nil => 0 | .nd _ _ _ _ i _ _ _ => i
def xT : Tr → Int | .nil => 0 | .nd _ _ _ _ _ x _ _ => x
def lv : Tr → Nat
  | .nil => 1
  | .nd k _ _ _ _ _ l r => if k = 4 then lv l else if k = 5 then lv l + lv r else 1
noncomputable section
def cellL (t : Tr) : AV := cellK (.v (.int .u8 (kT t))) 0 (nT t) (tT t) (iT t) (xT t) nilA nilA
def ansLeaf (R : Nat → Itm) (p : Int) : AV := .tup [cellL (leafTr (R p.toNat)), .v (.int .i64 (((p.toNat + 1 : Nat)) : Int))]
def tabFW (R : Nat → Itm) (f : Nat) (args : List AV) : Option (Tree AV) := match f, args with
  | 13, [r, p, m] => some (.side (FrzOk Tryd.prog 13 [r, p, m] (ansLeaf R (intA p))) (.ret (ansLeaf R (intA p))))
  | _, _ => none
theorem tabFW_ok (R : Nat → Itm) : TabFOk Tryd.prog (tabFW R) := by
  intro f args t a ht hh
  unfold tabFW at ht
  split at ht
  · cases ht
    obtain ⟨h1, h2⟩ := hh
    cases h2
    exact h1
  · cases ht
def do57 : AV := .fn (.func 57) [] [.ptr 0 0]
def in26 : AV := .fn (.func 26) [] [.ptr 1 0, .ptr 2 0, .ptr 3 0]
def bsW (R : Nat → Itm) (M : Nat) (c : Int) (o : Bool) : List Blk := [.fix 52 [in26], cntB c, .fix 22 [rowA M R], .fix 4 [.v (.bool o)]]
def tabMW (f : Nat) (args : List AV) (bs : List Blk) : Option (Tree MRes) := match f, args, bs with
  | 58, [.any φ, .fn g a b], [b0, .fix ty [c], b2, .fix ty' [o]] =>
    let r : MRes := (.tup [], [(1, some (cntB (intA c + (lv (treeOf φ) : Nat)))), (3, some (.fix 4 [o]))], 4, [1, 3])
    some (.side (MutOk Tryd.prog 58 [.any φ, .fn g a b] [b0, .fix ty [c], b2, .fix ty' [o]] r.1 r.2.1 r.2.2.1 r.2.2.2) (.ret r))
  | _, _, _ => none
theorem tabMW_ok : TabMOk Tryd.prog tabMW := by
  intro f args bs t r ht hh
  unfold tabMW at ht
  split at ht
  · cases ht
    obtain ⟨h1, h2⟩ := hh
    cases h2
    exact h1
  · cases ht
def noP (_ : Nat) (_ : List AV) : Option (Tree AV) := none
theorem noP_ok {P : Program} : TabOk P noP := fun _ _ _ _ h => nomatch h
def cxW (R : Nat → Itm) (dec : Nat → St → Option Bool) : Cx := ⟨Tryd.prog, ctrOf3 noP (tabFW R) tabMW, dec⟩
theorem cxW_ok (R : Nat → Itm) (dec : Nat → St → Option Bool) : CtrOk (cxW R dec) := ctrOf3_ok noP_ok (tabFW_ok R) tabMW_ok dec
end
end Go.Proofs.YtdlghljhgbakjaaDoor

/-
  PART: the leaves of a tree, told one by one: the normal forms.
-/
namespace Go.Proofs.YtdlghljhgbakjaaDoor
open Go.RowKit
noncomputable section
theorem ev58_0 (R : Nat → Itm) (M : Nat) (c v t i x : Int) (o : Bool) : bodM (cxW R (decL [(20,false)])) Tryd.f58 [cellK (lkA 0) 0 v t i x nilA nilA, do57] (bsW R M c o) =
    Tree.side (decide (c ≥ ↑M) = false → (0 : Int) ≤ c ∧ c < ↑M) (Tree.side ((if decide (c ≥ ↑M) = true then true else (0 : Int) != (R c.toNat).k) = false) (Tree.side (FrzOk Tryd.prog (13 : Nat) [AV.sl M (nat_lit 6) (fun (i : Nat) => [AV.v (Value.int IntKind.u8 (R i).k), AV.v (Value.int IntKind.u8 (R i).op), AV.v (Value.int IntKind.u64 (R i).n), AV.v (Value.int IntKind.u8 (R i).t), AV.v (Value.int IntKind.u8 (R i).i), AV.v (Value.int IntKind.u8 (R i).x)]) false false, AV.v (Value.int IntKind.i64 c), AV.lit (Value.int IntKind.i64 (Int.ofNat (nat_lit 2)))] (AV.tup [AV.fz [AV.v (Value.int IntKind.u8 (kT (leafTr (R (intA (AV.v (Value.int IntKind.i64 c))).toNat)))), AV.v (Value.int IntKind.u8 (Int.ofNat (nat_lit 0))), AV.v (Value.int IntKind.u64 (nT (leafTr (R (intA (AV.v (Value.int IntKind.i64 c))).toNat)))), AV.v (Value.int IntKind.u8 (tT (leafTr (R (intA (AV.v (Value.int IntKind.i64 c))).toNat)))), AV.v (Value.int IntKind.u8 (iT (leafTr (R (intA (AV.v (Value.int IntKind.i64 c))).toNat)))), AV.v (Value.int IntKind.u8 (xT (leafTr (R (intA (AV.v (Value.int IntKind.i64 c))).toNat)))), AV.lit (Value.pointer none), AV.lit (Value.pointer none)] (nat_lit 0), AV.v (Value.int IntKind.i64 ↑((intA (AV.v (Value.int IntKind.i64 c))).toNat + (1 : Nat)))])) (Tree.ret (some (AV.tup [], [(nat_lit 1, some (Blk.fix (nat_lit 3) [AV.v (Value.int IntKind.i64 (IntKind.i64.wrap (c + (1 : Int))))])), (nat_lit 3, some (Blk.fix (nat_lit 4) [AV.v (Value.bool (if o = true then (0 : Int) == kT (leafTr (R (intA (AV.v (Value.int IntKind.i64 c))).toNat)) && ((0 : Int) == (0 : Int) && (v == nT (leafTr (R (intA (AV.v (Value.int IntKind.i64 c))).toNat)) && (t == tT (leafTr (R (intA (AV.v (Value.int IntKind.i64 c))).toNat)) && (i == iT (leafTr (R (intA (AV.v (Value.int IntKind.i64 c))).toNat)) && x == xT (leafTr (R (intA (AV.v (Value.int IntKind.i64 c))).toNat)))))) else false))]))], nat_lit 4, [nat_lit 1, nat_lit 3]))))) := by kernel_rfl
theorem ev58_1 (R : Nat → Itm) (M : Nat) (c v t i x : Int) (o : Bool) : bodM (cxW R (decL [(20,false)])) Tryd.f58 [cellK (lkA 1) 0 v t i x nilA nilA, do57] (bsW R M c o) =
    Tree.side (decide (c ≥ ↑M) = false → (0 : Int) ≤ c ∧ c < ↑M) (Tree.side ((if decide (c ≥ ↑M) = true then true else (1 : Int) != (R c.toNat).k) = false) (Tree.side (FrzOk Tryd.prog (13 : Nat) [AV.sl M (nat_lit 6) (fun (i : Nat) => [AV.v (Value.int IntKind.u8 (R i).k), AV.v (Value.int IntKind.u8 (R i).op), AV.v (Value.int IntKind.u64 (R i).n), AV.v (Value.int IntKind.u8 (R i).t), AV.v (Value.int IntKind.u8 (R i).i), AV.v (Value.int IntKind.u8 (R i).x)]) false false, AV.v (Value.int IntKind.i64 c), AV.lit (Value.int IntKind.i64 (Int.ofNat (nat_lit 2)))] (AV.tup [AV.fz [AV.v (Value.int IntKind.u8 (kT (leafTr (R (intA (AV.v (Value.int IntKind.i64 c))).toNat)))), AV.v (Value.int IntKind.u8 (Int.ofNat (nat_lit 0))), AV.v (Value.int IntKind.u64 (nT (leafTr (R (intA (AV.v (Value.int IntKind.i64 c))).toNat)))), AV.v (Value.int IntKind.u8 (tT (leafTr (R (intA (AV.v (Value.int IntKind.i64 c))).toNat)))), AV.v (Value.int IntKind.u8 (iT (leafTr (R (intA (AV.v (Value.int IntKind.i64 c))).toNat)))), AV.v (Value.int IntKind.u8 (xT (leafTr (R (intA (AV.v (Value.int IntKind.i64 c))).toNat)))), AV.lit (Value.pointer none), AV.lit (Value.pointer none)] (nat_lit 0), AV.v (Value.int IntKind.i64 ↑((intA (AV.v (Value.int IntKind.i64 c))).toNat + (1 : Nat)))])) (Tree.ret (some (AV.tup [], [(nat_lit 1, some (Blk.fix (nat_lit 3) [AV.v (Value.int IntKind.i64 (IntKind.i64.wrap (c + (1 : Int))))])), (nat_lit 3, some (Blk.fix (nat_lit 4) [AV.v (Value.bool (if o = true then (1 : Int) == kT (leafTr (R (intA (AV.v (Value.int IntKind.i64 c))).toNat)) && ((0 : Int) == (0 : Int) && (v == nT (leafTr (R (intA (AV.v (Value.int IntKind.i64 c))).toNat)) && (t == tT (leafTr (R (intA (AV.v (Value.int IntKind.i64 c))).toNat)) && (i == iT (leafTr (R (intA (AV.v (Value.int IntKind.i64 c))).toNat)) && x == xT (leafTr (R (intA (AV.v (Value.int IntKind.i64 c))).toNat)))))) else false))]))], nat_lit 4, [nat_lit 1, nat_lit 3]))))) := by kernel_rfl
theorem ev58_2 (R : Nat → Itm) (M : Nat) (c v t i x : Int) (o : Bool) : bodM (cxW R (decL [(20,false)])) Tryd.f58 [cellK (lkA 2) 0 v t i x nilA nilA, do57] (bsW R M c o) =
    Tree.side (decide (c ≥ ↑M) = false → (0 : Int) ≤ c ∧ c < ↑M) (Tree.side ((if decide (c ≥ ↑M) = true then true else (2 : Int) != (R c.toNat).k) = false) (Tree.side (FrzOk Tryd.prog (13 : Nat) [AV.sl M (nat_lit 6) (fun (i : Nat) => [AV.v (Value.int IntKind.u8 (R i).k), AV.v (Value.int IntKind.u8 (R i).op), AV.v (Value.int IntKind.u64 (R i).n), AV.v (Value.int IntKind.u8 (R i).t), AV.v (Value.int IntKind.u8 (R i).i), AV.v (Value.int IntKind.u8 (R i).x)]) false false, AV.v (Value.int IntKind.i64 c), AV.lit (Value.int IntKind.i64 (Int.ofNat (nat_lit 2)))] (AV.tup [AV.fz [AV.v (Value.int IntKind.u8 (kT (leafTr (R (intA (AV.v (Value.int IntKind.i64 c))).toNat)))), AV.v (Value.int IntKind.u8 (Int.ofNat (nat_lit 0))), AV.v (Value.int IntKind.u64 (nT (leafTr (R (intA (AV.v (Value.int IntKind.i64 c))).toNat)))), AV.v (Value.int IntKind.u8 (tT (leafTr (R (intA (AV.v (Value.int IntKind.i64 c))).toNat)))), AV.v (Value.int IntKind.u8 (iT (leafTr (R (intA (AV.v (Value.int IntKind.i64 c))).toNat)))), AV.v (Value.int IntKind.u8 (xT (leafTr (R (intA (AV.v (Value.int IntKind.i64 c))).toNat)))), AV.lit (Value.pointer none), AV.lit (Value.pointer none)] (nat_lit 0), AV.v (Value.int IntKind.i64 ↑((intA (AV.v (Value.int IntKind.i64 c))).toNat + (1 : Nat)))])) (Tree.ret (some (AV.tup [], [(nat_lit 1, some (Blk.fix (nat_lit 3) [AV.v (Value.int IntKind.i64 (IntKind.i64.wrap (c + (1 : Int))))])), (nat_lit 3, some (Blk.fix (nat_lit 4) [AV.v (Value.bool (if o = true then (2 : Int) == kT (leafTr (R (intA (AV.v (Value.int IntKind.i64 c))).toNat)) && ((0 : Int) == (0 : Int) && (v == nT (leafTr (R (intA (AV.v (Value.int IntKind.i64 c))).toNat)) && (t == tT (leafTr (R (intA (AV.v (Value.int IntKind.i64 c))).toNat)) && (i == iT (leafTr (R (intA (AV.v (Value.int IntKind.i64 c))).toNat)) && x == xT (leafTr (R (intA (AV.v (Value.int IntKind.i64 c))).toNat)))))) else false))]))], nat_lit 4, [nat_lit 1, nat_lit 3]))))) := by kernel_rfl
theorem ev58_3 (R : Nat → Itm) (M : Nat) (c v t i x : Int) (o : Bool) : bodM (cxW R (decL [(20,false)])) Tryd.f58 [cellK (lkA 3) 0 v t i x nilA nilA, do57] (bsW R M c o) =
    Tree.side (decide (c ≥ ↑M) = false → (0 : Int) ≤ c ∧ c < ↑M) (Tree.side ((if decide (c ≥ ↑M) = true then true else (3 : Int) != (R c.toNat).k) = false) (Tree.side (FrzOk Tryd.prog (13 : Nat) [AV.sl M (nat_lit 6) (fun (i : Nat) => [AV.v (Value.int IntKind.u8 (R i).k), AV.v (Value.int IntKind.u8 (R i).op), AV.v (Value.int IntKind.u64 (R i).n), AV.v (Value.int IntKind.u8 (R i).t), AV.v (Value.int IntKind.u8 (R i).i), AV.v (Value.int IntKind.u8 (R i).x)]) false false, AV.v (Value.int IntKind.i64 c), AV.lit (Value.int IntKind.i64 (Int.ofNat (nat_lit 2)))] (AV.tup [AV.fz [AV.v (Value.int IntKind.u8 (kT (leafTr (R (intA (AV.v (Value.int IntKind.i64 c))).toNat)))), AV.v (Value.int IntKind.u8 (Int.ofNat (nat_lit 0))), AV.v (Value.int IntKind.u64 (nT (leafTr (R (intA (AV.v (Value.int IntKind.i64 c))).toNat)))), AV.v (Value.int IntKind.u8 (tT (leafTr (R (intA (AV.v (Value.int IntKind.i64 c))).toNat)))), AV.v (Value.int IntKind.u8 (iT (leafTr (R (intA (AV.v (Value.int IntKind.i64 c))).toNat)))), AV.v (Value.int IntKind.u8 (xT (leafTr (R (intA (AV.v (Value.int IntKind.i64 c))).toNat)))), AV.lit (Value.pointer none), AV.lit (Value.pointer none)] (nat_lit 0), AV.v (Value.int IntKind.i64 ↑((intA (AV.v (Value.int IntKind.i64 c))).toNat + (1 : Nat)))])) (Tree.ret (some (AV.tup [], [(nat_lit 1, some (Blk.fix (nat_lit 3) [AV.v (Value.int IntKind.i64 (IntKind.i64.wrap (c + (1 : Int))))])), (nat_lit 3, some (Blk.fix (nat_lit 4) [AV.v (Value.bool (if o = true then (3 : Int) == kT (leafTr (R (intA (AV.v (Value.int IntKind.i64 c))).toNat)) && ((0 : Int) == (0 : Int) && (v == nT (leafTr (R (intA (AV.v (Value.int IntKind.i64 c))).toNat)) && (t == tT (leafTr (R (intA (AV.v (Value.int IntKind.i64 c))).toNat)) && (i == iT (leafTr (R (intA (AV.v (Value.int IntKind.i64 c))).toNat)) && x == xT (leafTr (R (intA (AV.v (Value.int IntKind.i64 c))).toNat)))))) else false))]))], nat_lit 4, [nat_lit 1, nat_lit 3]))))) := by kernel_rfl

abbrev LV (t : Tr) : Int := (lv (treeOf (TrR t)) : Nat)
def M58 (R : Nat → Itm) (M : Nat) (t : Tr) (c : Int) (o : Bool) : Prop := MutOk Tryd.prog 58 [anyT t, do57] (bsW R M c o) (.tup []) [(1, some (cntB (c + LV t))), (3, some (.fix 4 [.v (.bool o)]))] 4 [1, 3]
theorem ev58_4 (R : Nat → Itm) (M : Nat) (c : Int) (o : Bool) (op v t i x : Int) (l : Tr) : bodM (cxW R (decL [])) Tryd.f58 [cellK (lkA 4) op v t i x (anyT l) nilA, do57] (bsW R M c o) =
    .side (M58 R M l c o) (.ret (some (.tup [], [(1, some (cntB (c + LV l))), (3, some (.fix 4 [.v (.bool o)]))], 4, [1, 3]))) := by kernel_rfl
theorem ev58_5 (R : Nat → Itm) (M : Nat) (c : Int) (o : Bool) (op v t i x : Int) (l r : Tr) : bodM (cxW R (decL [])) Tryd.f58 [cellK (lkA 5) op v t i x (anyT l) (anyT r), do57] (bsW R M c o) =
    .side (M58 R M l c o) (.side (M58 R M r (c + LV l) o) (.ret (some (.tup [], [(1, some (cntB (c + LV l + LV r))), (3, some (.fix 4 [.v (.bool o)]))], 4, [1, 3])))) := by kernel_rfl
end
end Go.Proofs.YtdlghljhgbakjaaDoor

/-
  PART: the leaves of a tree, told one by one to a function that looks at a row: proved.
-/
namespace Go.Proofs.YtdlghljhgbakjaaDoor
open Go.RowKit
/-- How many leaves a row has ahead of a place. -/
def cntL (X : Nat → Itm) : Nat → Nat
  | 0 => 0
  | n + 1 => if (X n).k < 4 then cntL X n + 1 else cntL X n
theorem cntL_succ (X : Nat → Itm) (n : Nat) : cntL X (n + 1) = if (X n).k < 4 then cntL X n + 1 else cntL X n := rfl
theorem cntL_le (X : Nat → Itm) : ∀ n, cntL X n ≤ n
  | 0 => Nat.le_refl 0
  | n + 1 => by have := cntL_le X n; rw [cntL_succ]; split <;> omega
theorem cntL_mono (X : Nat → Itm) {m : Nat} : ∀ {n : Nat}, m ≤ n → cntL X m ≤ cntL X n := by
  intro n h
  induction n with
  | zero => obtain rfl : m = 0 := by omega
            exact Nat.le_refl _
  | succ n ih =>
    by_cases e : m = n + 1
    · rw [e]; exact Nat.le_refl _
    · have := ih (by omega)
      rw [cntL_succ]; split <;> omega
/-- A row's leaves, as a row. -/
structure LvRow (X : Nat → Itm) (E : Nat) (R : Nat → Itm) (M : Nat) : Prop where
  len : M = cntL X E
  at_ : ∀ j, j < E → (X j).k < 4 → R (cntL X j) = X j
theorem nd_fields {a : Itm} (h : leafB a = true) : leafTr a = .nd a.k 0 (nT (leafTr a)) (tT (leafTr a)) (iT (leafTr a)) (xT (leafTr a)) .nil .nil ∧ kT (leafTr a) = a.k := by
  obtain ⟨n, t, i, x, e⟩ := leafTr_k h
  rw [e]
  exact ⟨rfl, rfl⟩
theorem lit_argF {f : Nat} {r p : AV} {m : Value} {a : AV} (h : FrzOk Tryd.prog f [r, p, .v m] a) : FrzOk Tryd.prog f [r, p, .lit m] a :=
  h.pre fun E vs hr => by
    cases hr with | cons h1 h2 => cases h2 with | cons h2 h3 => cases h3 with | cons h3 h4 => exact .cons h1 (.cons h2 (.cons (v_of_lit _ _ h3) h4))
section
variable {X R : Nat → Itm} {E M : Nat}
theorem of13 (hM : M ≤ 1000) {p : Nat} (hp : p < M) (hl : leafB (R p) = true) : FrzOk Tryd.prog 13 [rowA M R, .v (.int .i64 (p : Int)), .lit (.int .i64 2)] (ansLeaf R (p : Int)) := by
  have h := lit_argF (of_ok R M hM 2 (by omega) p (by omega))
  refine h.imp fun E v hv => ?_
  have e : ofT R M 2 p = (leafTr (R p), p + 1) := ofT_leaf (by omega) hl
  have hv : Rep E (.tup [anyT (ofT R M (2 : Int).toNat (p : Int).toNat).1, .v (.int .i64 ((ofT R M (2 : Int).toNat (p : Int).toNat).2 : Nat))]) v := hv
  have e2 : (2 : Int).toNat = 2 := rfl
  rw [e2, Int.toNat_natCast, e] at hv
  show Rep E (.tup [cellL (leafTr (R (p : Int).toNat)), .v (.int .i64 ((((p : Int).toNat + 1 : Nat)) : Int))]) v
  rw [Int.toNat_natCast]
  cases hv with
  | tup h =>
    rename_i cs
    refine .tup ?_
    generalize cs.toList = l at h
    cases h with
    | cons h0 ht =>
      refine .cons ?_ ht
      obtain ⟨e3, e4⟩ := nd_fields hl
      rw [e3] at h0
      unfold cellL
      rw [e4]
      exact rep_cell k_same a_nil a_nil h0
set_option maxRecDepth 100000 in
theorem walk_leaf (hM : M ≤ 1000) (hR : LvRow X E R M) {p : Nat} (hp : p < E) (hl : leafB (X p) = true) (o : Bool) : MutOk Tryd.prog 58 [anyT (leafTr (X p)), do57] (bsW R M (cntL X p : Nat) o) (.tup []) [(1, some (cntB ((cntL X (p + 1) : Nat) : Int))), (3, some (.fix 4 [.v (.bool o)]))] 4 [1, 3] := by
  have hk := leafB_k hl
  have hlt : (X p).k < 4 := by omega
  have hRp := hR.at_ p hp hlt
  have hc : cntL X (p + 1) = cntL X p + 1 := by rw [cntL_succ, if_pos hlt]
  have hcM : cntL X p < M := by
    rw [hR.len]
    have := cntL_mono X (m := p + 1) (n := E) hp
    omega
  have h13 := of13 (R := R) hM hcM (by rw [hRp]; exact hl)
  have hw := w64 (cntL X p) (by omega)
  obtain ⟨e3, e4⟩ := nd_fields hl
  have hkk : kT (leafTr (X p)) = (X p).k := e4
  have hd : decide (((cntL X p : Nat) : Int) ≥ (M : Int)) = false := decide_eq_false (by omega)
  rw [hc, e3]
  rcases hk with k | k | k | k
  · have key := ev58_0 R M (cntL X p : Nat) (nT (leafTr (X p))) (tT (leafTr (X p))) (iT (leafTr (X p))) (xT (leafTr (X p))) o
    simp only [hw, intA, Int.toNat_natCast, hRp, hkk, k] at key
    rw [k]
    refine pre_cellM k_lit a_nil a_nil (BsLe.refl _) (mut_ev (cx := cxW R _) (cxW_ok R _) fitTry Tryd.func58 (c := codeOf Tryd.f58) (by kernel_rfl) key ⟨fun _ => by omega, ?_, ?_, _, _, rfl, fun _ _ h => h, ?_⟩)
    · rw [hd]; rfl
    · have := h13
      unfold ansLeaf cellL at this
      simp only [Int.toNat_natCast, hRp, hkk, k] at this
      exact this
    · have : (if o = true then (0 : Int) == 0 && ((0 : Int) == 0 && (nT (leafTr (X p)) == nT (leafTr (X p)) && (tT (leafTr (X p)) == tT (leafTr (X p)) && (iT (leafTr (X p)) == iT (leafTr (X p)) && xT (leafTr (X p)) == xT (leafTr (X p)))))) else false) = o := by cases o <;> simp
      rw [this]; exact HLe.refl _
  · have key := ev58_1 R M (cntL X p : Nat) (nT (leafTr (X p))) (tT (leafTr (X p))) (iT (leafTr (X p))) (xT (leafTr (X p))) o
    simp only [hw, intA, Int.toNat_natCast, hRp, hkk, k] at key
    rw [k]
    refine pre_cellM k_lit a_nil a_nil (BsLe.refl _) (mut_ev (cx := cxW R _) (cxW_ok R _) fitTry Tryd.func58 (c := codeOf Tryd.f58) (by kernel_rfl) key ⟨fun _ => by omega, ?_, ?_, _, _, rfl, fun _ _ h => h, ?_⟩)
    · rw [hd]; rfl
    · have := h13
      unfold ansLeaf cellL at this
      simp only [Int.toNat_natCast, hRp, hkk, k] at this
      exact this
    · have : (if o = true then (1 : Int) == 1 && ((0 : Int) == 0 && (nT (leafTr (X p)) == nT (leafTr (X p)) && (tT (leafTr (X p)) == tT (leafTr (X p)) && (iT (leafTr (X p)) == iT (leafTr (X p)) && xT (leafTr (X p)) == xT (leafTr (X p)))))) else false) = o := by cases o <;> simp
      rw [this]; exact HLe.refl _
  · have key := ev58_2 R M (cntL X p : Nat) (nT (leafTr (X p))) (tT (leafTr (X p))) (iT (leafTr (X p))) (xT (leafTr (X p))) o
    simp only [hw, intA, Int.toNat_natCast, hRp, hkk, k] at key
    rw [k]
    refine pre_cellM k_lit a_nil a_nil (BsLe.refl _) (mut_ev (cx := cxW R _) (cxW_ok R _) fitTry Tryd.func58 (c := codeOf Tryd.f58) (by kernel_rfl) key ⟨fun _ => by omega, ?_, ?_, _, _, rfl, fun _ _ h => h, ?_⟩)
    · rw [hd]; rfl
    · have := h13
      unfold ansLeaf cellL at this
      simp only [Int.toNat_natCast, hRp, hkk, k] at this
      exact this
    · have : (if o = true then (2 : Int) == 2 && ((0 : Int) == 0 && (nT (leafTr (X p)) == nT (leafTr (X p)) && (tT (leafTr (X p)) == tT (leafTr (X p)) && (iT (leafTr (X p)) == iT (leafTr (X p)) && xT (leafTr (X p)) == xT (leafTr (X p)))))) else false) = o := by cases o <;> simp
      rw [this]; exact HLe.refl _
  · have key := ev58_3 R M (cntL X p : Nat) (nT (leafTr (X p))) (tT (leafTr (X p))) (iT (leafTr (X p))) (xT (leafTr (X p))) o
    simp only [hw, intA, Int.toNat_natCast, hRp, hkk, k] at key
    rw [k]
    refine pre_cellM k_lit a_nil a_nil (BsLe.refl _) (mut_ev (cx := cxW R _) (cxW_ok R _) fitTry Tryd.func58 (c := codeOf Tryd.f58) (by kernel_rfl) key ⟨fun _ => by omega, ?_, ?_, _, _, rfl, fun _ _ h => h, ?_⟩)
    · rw [hd]; rfl
    · have := h13
      unfold ansLeaf cellL at this
      simp only [Int.toNat_natCast, hRp, hkk, k] at this
      exact this
    · have : (if o = true then (3 : Int) == 3 && ((0 : Int) == 0 && (nT (leafTr (X p)) == nT (leafTr (X p)) && (tT (leafTr (X p)) == tT (leafTr (X p)) && (iT (leafTr (X p)) == iT (leafTr (X p)) && xT (leafTr (X p)) == xT (leafTr (X p)))))) else false) = o := by cases o <;> simp
      rw [this]; exact HLe.refl _
theorem lv_rd {p e : Nat} {t : Tr} (h : Rd X p t e) : cntL X e = cntL X p + lv t := by
  induction h with
  | leaf p hl =>
    have hk := leafB_k hl
    have : lv (leafTr (X p)) = 1 := by
      obtain ⟨n, t, i, x, e⟩ := leafTr_k hl
      rw [e]
      show (if (X p).k = 4 then _ else _) = _
      rw [if_neg (by omega), if_neg (by omega)]
    rw [this, cntL_succ, if_pos (by omega)]
  | one p e l k s hr ih =>
    have : lv (.nd 4 (X p).op 0 0 0 0 l .nil) = lv l := rfl
    rw [this, ih, cntL_succ, if_neg (by omega)]
  | two p q e l r k s hr hr2 i1 i2 =>
    have : lv (.nd 5 (X p).op 0 0 0 0 l r) = lv l + lv r := rfl
    rw [this, i2, i1, cntL_succ, if_neg (by omega)]
    omega
set_option maxRecDepth 100000 in
theorem walk58 (hM : M ≤ 1000) (hR : LvRow X E R M) (o : Bool) {p e : Nat} {t : Tr} (h : Rd X p t e) : e ≤ E →
    MutOk Tryd.prog 58 [anyT t, do57] (bsW R M (cntL X p : Nat) o) (.tup []) [(1, some (cntB ((cntL X e : Nat) : Int))), (3, some (.fix 4 [.v (.bool o)]))] 4 [1, 3] := by
  induction h with
  | leaf p hl => intro he; exact walk_leaf hM hR (by omega) hl o
  | one p e l k s hr ih =>
    intro he
    have hlv := lv_rd hr
    have ih := ih he
    have hc : cntL X (p + 1) = cntL X p := by rw [cntL_succ, if_neg (by omega)]
    rw [hc] at ih hlv
    have key := ev58_4 R M (cntL X p : Nat) o (X p).op 0 0 0 0 l
    unfold M58 at key
    simp only [LV, treeOf_tr] at key
    rw [hlv] at ih ⊢
    rw [Int.natCast_add] at ih ⊢
    exact pre_cellM k_lit a_any a_nil (BsLe.refl _) (mut_ev (cx := cxW R _) (cxW_ok R _) fitTry Tryd.func58 (c := codeOf Tryd.f58) (by kernel_rfl) key ⟨ih, ret_same⟩)
  | two p q e l r k s hr hr2 i1 i2 =>
    intro he
    have hlt := hr2.lt
    have h1 := lv_rd hr
    have h2 := lv_rd hr2
    have i1 := i1 (by omega)
    have i2 := i2 he
    have hc : cntL X (p + 1) = cntL X p := by rw [cntL_succ, if_neg (by omega)]
    rw [hc] at i1 h1
    have key := ev58_5 R M (cntL X p : Nat) o (X p).op 0 0 0 0 l r
    unfold M58 at key
    simp only [LV, treeOf_tr] at key
    rw [h2] at i2 ⊢
    rw [h1] at i1 i2 ⊢
    simp only [Int.natCast_add] at i1 i2 ⊢
    exact pre_cellM k_lit a_any a_any (BsLe.refl _) (mut_ev (cx := cxW R _) (cxW_ok R _) fitTry Tryd.func58 (c := codeOf Tryd.f58) (by kernel_rfl) key ⟨i1, i2, ret_same⟩)
end
end Go.Proofs.YtdlghljhgbakjaaDoor

/-
  PART: the law ExprSame: its stages.
-/
namespace Go.Proofs.YtdlghljhgbakjaaDoor
open Go.RowKit
noncomputable section
noncomputable def c3 : Code := codeOf Tryd.f3
noncomputable def res3 : St → Option AV := resF Tryd.prog Tryd.f3.results.toList
noncomputable def body3 : Code := cin (cin (cr (cl (behind 8 c3))))
noncomputable def a3 : Code := cl (cl (behind 8 c3))
noncomputable def tail3 : Code := cr (behind 8 c3)
theorem code3 : c3 = seqs (firsts 8 c3) (.seq (.seq a3 (.block 0 (.loop body3))) tail3) := by kernel_rfl
def ds3a : List (Nat × Bool) := [(0, false), (1, false), (4, false), (5, false), (9, false), (11, false), (13, false)]
def ds3b : List (Nat × Bool) := [(0, false), (1, false), (4, false), (5, false), (9, false), (11, false), (13, true), (14, true)]
noncomputable def pre3 (dec : List (Nat × Bool)) (M N : Nat) (X Y : Nat → Itm) : Tree Lf := (codeE (cxS (decL dec)) (evs (cxS (decL dec)) 60) (joins (firsts 8 c3)) (entry [rowA M X, rowA N Y])).map (lfR 0 ds3a true res3)
end
end Go.Proofs.YtdlghljhgbakjaaDoor

/-
  PART: the law ExprSame: its run.
-/
namespace Go.Proofs.YtdlghljhgbakjaaDoor
open Go.RowKit
noncomputable section
variable (M N : Nat) (X Y : Nat → Itm) (T U : Tr) (e : Int) (sm : Bool) (i : Int)
abbrev eX (X : Nat → Itm) (M : Nat) : Int := (endT X M M 0).1
abbrev tX (X : Nat → Itm) (M : Nat) : Tr := (ofT X M 20 0).1
def G12 : Prop := PureOk Tryd.prog 12 [rowA M X] (.tup [.v (.int .i64 (eX X M)), .v (.bool (goodE X M))])
def F13 : Prop := FrzOk Tryd.prog 13 [rowA M X, .lit (.int .i64 0), .lit (.int .i64 20)] (ansOf X M 0 20)
def st3 : St := { sl := [(0, rowA M X), (1, rowA N Y), (4, .lit (.bool false)), (5, .v (.int .i64 e)), (9, anyT T), (11, anyT U), (13, .v (.bool sm))], hp := [], nx := 0, rd := [], wr := [], ws := [], wb := [] }
def inv3 : St := { sl := [(0, rowA M X), (1, rowA N Y), (4, .lit (.bool false)), (5, .v (.int .i64 e)), (9, anyT T), (11, anyT U), (13, .v (.bool sm)), (14, .v (.int .i64 i))], hp := [], nx := 0, rd := [], wr := [], ws := [], wb := [] }
def badLen3 : Bool := if decide ((M : Int) > 60) = true then true else decide ((N : Int) > 60)
def bad3 : Bool := if (!goodE X M) = true then true else !goodE Y N
theorem pre3_t : pre3 [(22, true)] M N X Y = .side (badLen3 M N = true) (.ret (.out (.lit (.bool true)))) := by kernel_rfl
theorem pre3_b : pre3 [(22, false), (39, true)] M N X Y = .side (badLen3 M N = false) (.side (G12 M X) (.side (G12 N Y) (.side (bad3 M N X Y = true) (.ret (.out (.lit (.bool true))))))) := by kernel_rfl
theorem pre3_g : pre3 [(22, false), (39, false)] M N X Y = .side (badLen3 M N = false) (.side (G12 M X) (.side (G12 N Y) (.side (bad3 M N X Y = false) (.side (F13 M X) (.side (F13 N Y)
    (.ret (.go .norm (some (st3 M N X Y (tX X M) (tX Y N) (eX X M) (eX X M == eX Y N))))))))))  := by kernel_rfl
theorem init3 : (codeE (cxS (decL [])) (evs (cxS (decL [])) 60) a3 (st3 M N X Y T U e sm)).map (lfR 0 ds3b true res3) = .ret (.go .norm (some (inv3 M N X Y T U e sm 0))) := by kernel_rfl
def in3 (dec : List (Nat × Bool)) : Tree Lf := (codeE (cxS (decL dec)) (evs (cxS (decL dec)) 60) body3 (inv3 M N X Y T U e sm i)).map (lfR 0 ds3b true res3)
def go3 : Bool := if decide (i < e) = true then sm else false
theorem stop3 : in3 M N X Y T U e sm i [(59, false)] = .side (go3 e sm i = false) (.ret (.go (.exit 0) (some (inv3 M N X Y T U e sm i)))) := by kernel_rfl
theorem next3 : in3 M N X Y T U e sm i [(59, true)] = .side (go3 e sm i = true) (.side (0 ≤ i ∧ i < (M : Int)) (.side (0 ≤ i ∧ i < (N : Int)) (.side (PureOk Tryd.prog 14 [itmA (X i.toNat), itmA (Y i.toNat)] (.v (.bool (alikeB (X i.toNat) (Y i.toNat)))))
    (.ret (.go .norm (some (inv3 M N X Y T U e (alikeB (X i.toNat) (Y i.toNat)) (wr (i + 1)))))))))  := by kernel_rfl
end
end Go.Proofs.YtdlghljhgbakjaaDoor
