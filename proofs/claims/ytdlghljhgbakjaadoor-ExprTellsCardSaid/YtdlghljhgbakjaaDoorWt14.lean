/-
  PARTS, one behind the other: HD HE HF HG EY EZ HH FA HI HJ.
-/
import Derived.Test.YtdlghljhgbakjaaDoorWt13
/-
  PART: rows and trees, plainly: a row whose tree may be begins with an expression.
-/
namespace Go.Proofs.YtdlghljhgbakjaaDoor
open Go.RowKit
section
variable {X : Nat → Itm} {N : Nat}
theorem rd_of_good : ∀ (m p : Nat), goodT (ofT X N m p).1 = true → Rd X p (ofT X N m p).1 (ofT X N m p).2 ∧ (ofT X N m p).2 ≤ N
  | 0, p, h => by cases h
  | m + 1, p, h => by
    have i1 := rd_of_good m (p + 1)
    have i2 := rd_of_good m (ofT X N m (p + 1)).2
    rw [ofT] at h ⊢
    by_cases hp : N ≤ p
    · rw [if_pos hp] at h; cases h
    · rw [if_neg hp] at h ⊢
      simp only [] at h ⊢
      by_cases k0 : (X p).k = 0
      · rw [if_pos k0] at h ⊢
        have hl : leafB (X p) = true := by unfold leafB; rw [if_pos k0]
        have := Rd.leaf (X := X) p hl
        unfold leafTr at this
        rw [if_pos k0] at this
        exact ⟨this, by show p + 1 ≤ N; omega⟩
      rw [if_neg k0] at h ⊢
      by_cases k1 : (X p).k = 1
      · rw [if_pos k1] at h ⊢
        have hl : leafB (X p) = true := by
          unfold leafB; rw [if_neg k0, if_pos k1]
          simpa [goodT, isNil] using h
        have := Rd.leaf (X := X) p hl
        unfold leafTr at this
        rw [if_neg k0, if_pos k1] at this
        exact ⟨this, by show p + 1 ≤ N; omega⟩
      rw [if_neg k1] at h ⊢
      by_cases k2 : (X p).k = 2
      · rw [if_pos k2] at h ⊢
        have hl : leafB (X p) = true := by
          unfold leafB; rw [if_neg k0, if_neg k1, if_pos k2]
          simpa [goodT, isNil] using h
        have := Rd.leaf (X := X) p hl
        unfold leafTr at this
        rw [if_neg k0, if_neg k1, if_pos k2] at this
        exact ⟨this, by show p + 1 ≤ N; omega⟩
      rw [if_neg k2] at h ⊢
      by_cases k3 : (X p).k = 3
      · rw [if_pos k3] at h ⊢
        have hl : leafB (X p) = true := by
          unfold leafB; rw [if_neg k0, if_neg k1, if_neg k2, if_pos k3]
          simpa [goodT, isNil, Bool.and_assoc] using h
        have := Rd.leaf (X := X) p hl
        unfold leafTr at this
        rw [if_neg k0, if_neg k1, if_neg k2] at this
        exact ⟨this, by show p + 1 ≤ N; omega⟩
      rw [if_neg k3] at h ⊢
      by_cases k4 : (X p).k = 4
      · rw [if_pos k4] at h ⊢
        have hg : (sidesE (X p).op == 1) = true ∧ goodT (ofT X N m (p + 1)).1 = true := by
          simpa [goodT, isNil] using h
        obtain ⟨h1, h2⟩ := i1 hg.2
        exact ⟨.one p _ _ k4 hg.1 h1, h2⟩
      rw [if_neg k4] at h ⊢
      by_cases k5 : (X p).k = 5
      · rw [if_pos k5] at h ⊢
        have hg : ((sidesE (X p).op == 2) = true ∧ goodT (ofT X N m (p + 1)).1 = true) ∧ goodT (ofT X N m (ofT X N m (p + 1)).2).1 = true := by
          simpa [goodT, isNil] using h
        obtain ⟨h1, h2⟩ := i1 hg.1.2
        obtain ⟨h3, h4⟩ := i2 hg.2
        exact ⟨.two p _ _ _ _ k5 hg.1.1 h1 h3, h4⟩
      rw [if_neg k5] at h
      exfalso
      simp [goodT, k0, k1, k2, k3, k4, k5] at h
theorem partsI_one {a : Itm} (k : a.k = 4) (s : (sidesE a.op == 1) = true) : partsI a = 1 := by unfold partsI; rw [if_pos (by simp [k]; simpa using s)]
theorem partsI_two {a : Itm} (k : a.k = 5) (s : (sidesE a.op == 2) = true) : partsI a = 2 := by
  unfold partsI; rw [if_neg (by simp [k]), if_pos (by simp [k]; simpa using s)]
theorem partsI_leaf {a : Itm} (h : leafB a = true) : partsI a = 0 := by
  have := leafB_k h
  unfold partsI
  rw [if_neg (by simp; omega), if_neg (by simp; omega), if_pos h]
theorem end_of_rd {p e : Nat} {t : Tr} (h : Rd X p t e) : e ≤ N → ∀ f, N - p ≤ f → endT X N f p = ((e : Int), ((dep t : Nat) : Int)) := by
  induction h with
  | leaf p hl =>
    intro he f hf
    obtain ⟨f, rfl⟩ : ∃ f', f = f' + 1 := ⟨f - 1, by omega⟩
    have hd : dep (leafTr (X p)) = 1 := by
      obtain ⟨n, t, i, x, e⟩ := leafTr_k hl
      rw [e]; rfl
    unfold endT
    rw [if_neg (by omega), partsI_leaf hl, if_neg (by omega), if_pos rfl, hd]
    rfl
  | one p e l k s hr ih =>
    intro he f hf
    have := hr.lt
    obtain ⟨f, rfl⟩ : ∃ f', f = f' + 1 := ⟨f - 1, by omega⟩
    have ih := ih he f (by omega)
    unfold endT
    rw [if_neg (by omega), partsI_one k s, if_neg (by omega), if_neg (by omega)]
    simp only [ih]
    rw [if_neg (by omega), if_pos trivial, dep_one]
    refine Prod.ext rfl ?_
    show max 0 ((dep l : Nat) : Int) + 1 = ((dep l + 1 : Nat) : Int)
    omega
  | two p q e l r k s hr hr2 i1 i2 =>
    intro he f hf
    have := hr.lt
    have := hr2.lt
    obtain ⟨f, rfl⟩ : ∃ f', f = f' + 1 := ⟨f - 1, by omega⟩
    have i1 := i1 (by omega) f (by omega)
    have i2 := i2 he f (by omega)
    unfold endT
    rw [if_neg (by omega), partsI_two k s, if_neg (by omega), if_neg (by omega)]
    simp only [i1, Int.toNat_natCast]
    rw [if_neg (by omega), if_neg (by omega)]
    simp only [i2]
    rw [if_neg (by omega), dep_two]
    refine Prod.ext rfl ?_
    show max (max 0 ((dep l : Nat) : Int)) ((dep r : Nat) : Int) + 1 = ((max (dep l) (dep r) + 1 : Nat) : Int)
    omega
theorem may_good : mayT (ofT X N 20 0).1 = goodE X N := by
  cases hg : goodE X N with
  | true => exact (good_tree hg).2.2
  | false =>
    cases hm : mayT (ofT X N 20 0).1 with
    | false => rfl
    | true =>
      unfold mayT at hm
      split at hm
      · rename_i h1
        obtain ⟨h2, h3⟩ := rd_of_good 20 0 hm
        have h4 := end_of_rd (N := N) h2 h3 N (by omega)
        have h5 := dep_of (of_decide_eq_true h1)
        unfold goodE at hg
        rw [h4, if_pos (by simp)] at hg
        have := of_decide_eq_false hg
        exfalso
        apply this
        show ((dep _ : Nat) : Int) ≤ 12
        omega
      · cases hm
/-- The leaves of the first places. -/
def lvsOf (X : Nat → Itm) : Nat → Nat → Itm
  | 0, _ => ⟨0, 0, 0, 0, 0, 0⟩
  | n + 1, j => if (X n).k < 4 ∧ j = cntL X n then X n else lvsOf X n j
theorem lvsOf_succ (X : Nat → Itm) (n j : Nat) : lvsOf X (n + 1) j = if (X n).k < 4 ∧ j = cntL X n then X n else lvsOf X n j := rfl
theorem lvsOf_at : ∀ E j, j < E → (X j).k < 4 → lvsOf X E (cntL X j) = X j
  | 0, j, h, _ => absurd h (Nat.not_lt_zero j)
  | E + 1, j, h, hk => by
    rw [lvsOf_succ]
    by_cases e : j = E
    · subst e; rw [if_pos ⟨hk, rfl⟩]
    · have h1 := cntL_mono X (m := j + 1) (n := E) (by omega)
      rw [cntL_succ, if_pos hk] at h1
      rw [if_neg (by omega)]
      exact lvsOf_at E j (by omega) hk
theorem lvRow (E : Nat) : LvRow X E (lvsOf X E) (cntL X E) := ⟨rfl, fun j h1 h2 => lvsOf_at E j h1 h2⟩
end
end Go.Proofs.YtdlghljhgbakjaaDoor

/-
  PART: the law ExprTells: its table, its stages.
-/
namespace Go.Proofs.YtdlghljhgbakjaaDoor
open Go.RowKit
noncomputable section
/-- Contracts that leave all as it was. -/
def tab5 (X : Nat → Itm) (N : Nat) (L : Nat → Int) (K : Nat) (f : Nat) (args : List AV) : Option (Tree AV) := match f, args with
  | 11, [] => some (.ret (.lit (.bool true)))
  | 12, [r] => some (ctrT 12 [r] (.tup [.v (.int .i64 (eX X N)), .v (.bool (goodE X N))]))
  | 15, [.any φ, .any ψ] => some (ctrT 15 [.any φ, .any ψ] (.v (.bool (sameB (treeOf φ) (treeOf ψ)))))
  | 16, [.any φ] => some (ctrT 16 [.any φ] (.v (bytesV (textB (treeOf φ)))))
  | 17, [.any φ] => some (ctrT 17 [.any φ] (.v (.bool (mayT (treeOf φ)))))
  | 19, [.any φ] => some (ctrT 19 [.any φ] (.v (.int .i64 (depthT (treeOf φ) 13))))
  | 22, [r, p] => some (ctrT 22 [r, p] (ansE X N (intA p)))
  | 23, [r, p] => some (ctrT 23 [r, p] (ans23 X N (intA p)))
  | 24, [r, p, l, n] => some (ctrT 24 [r, p, l, n] (ans24 X N L K (intA p) (intA n)))
  | _, _ => none
theorem tab5_ok (X : Nat → Itm) (N : Nat) (L : Nat → Int) (K : Nat) : TabOk Tryd.prog (tab5 X N L K) := by
  intro f args t a ht hh
  unfold tab5 at ht
  split at ht <;> cases ht
  · cases hh; exact wakes11
  all_goals
    obtain ⟨h1, h2⟩ := hh
    cases h2
    exact h1
def tab5M (L : Nat → Int) (K : Nat) (f : Nat) (args : List AV) (bs : List Blk) : Option (Tree MRes) := match Nat.beq f 50 with
  | true => tabM50 L K f args bs
  | false => tabMW f args bs
theorem tab5M_ok (L : Nat → Int) (K : Nat) : TabMOk Tryd.prog (tab5M L K) := by
  intro f args bs t r ht hh
  unfold tab5M at ht
  split at ht
  · exact tabM50_ok L K f args bs t r ht hh
  · exact tabMW_ok f args bs t r ht hh
def cx5 (X : Nat → Itm) (N : Nat) (L : Nat → Int) (K : Nat) (dec : Nat → St → Option Bool) : Cx := ⟨Tryd.prog, ctrOf3 (tab5 X N L K) tabSF (tab5M L K), dec⟩
theorem cx5_ok (X : Nat → Itm) (N : Nat) (L : Nat → Int) (K : Nat) (dec : Nat → St → Option Bool) : CtrOk (cx5 X N L K dec) := ctrOf3_ok (tab5_ok X N L K) tabSF_ok (tab5M_ok L K) dec
def c5 : Code := codeOf Tryd.f5
def res5 : St → Option AV := resF Tryd.prog Tryd.f5.results.toList
def body5 : Code := cin (cin (cr (cl (behind 15 c5))))
def a5 : Code := cl (cl (behind 15 c5))
def tail5 : Code := cr (behind 15 c5)
theorem code5 : c5 = seqs (firsts 15 c5) (.seq (.seq a5 (.block 0 (.loop body5))) tail5) := by kernel_rfl
def ds5a : List (Nat × Bool) := [(0, false), (4, false), (5, false), (7, false), (9, false), (11, false), (13, false), (14, false), (16, false), (18, false), (19, false), (20, false), (21, false)]
def ds5b : List (Nat × Bool) := [(0, false), (4, false), (5, false), (7, false), (9, false), (11, false), (13, false), (14, false), (16, false), (18, false), (19, false), (20, false), (21, false), (22, true)]
def args5 (X : Nat → Itm) (N : Nat) (L : Nat → Int) (K : Nat) : List AV := [rowA N X, rowL K L]
def pre5 (dec : List (Nat × Bool)) (X : Nat → Itm) (N : Nat) (L : Nat → Int) (K : Nat) : Tree Lf := (codeE (cx5 X N L K (decL dec)) (evs (cx5 X N L K (decL dec)) 60) (joins (firsts 15 c5)) (entry (args5 X N L K))).map (lfR 0 ds5a false res5)
end
end Go.Proofs.YtdlghljhgbakjaaDoor

/-
  PART: the law ExprTells: what is ahead of its loop.
-/
namespace Go.Proofs.YtdlghljhgbakjaaDoor
open Go.RowKit
noncomputable section
section
variable (X : Nat → Itm) (N : Nat) (L : Nat → Int) (K : Nat)
def tX5 : Tr := (ofT X N 20 0).1
def bad5 : Bool := if decide ((N : Int) > 60) = true then true else decide ((K : Int) > 100)
def F13' : Prop := FrzOk Tryd.prog 13 [rowA N X, .lit (.int .i64 0), .lit (.int .i64 20)] (.tup [anyT (tX5 X N), .v (.int .i64 ((ofT X N 20 0).2 : Nat))])
def may17 (T : Tr) : Prop := PureOk Tryd.prog 17 [anyT T] (.v (.bool (mayT (treeOf (TrR T)))))
def txt16' (T : Tr) : Prop := PureOk Tryd.prog 16 [anyT T] (.v (bytesV (textB (treeOf (TrR T)))))
def same15' (T : Tr) : Prop := PureOk Tryd.prog 15 [anyT T, anyT T] (.v (.bool (sameB (treeOf (TrR T)) (treeOf (TrR T)))))
theorem pre5_t : pre5 [(30,true)] X N L K = .side (bad5 N K = true) (.ret (.out (.lit (.bool true)))) := by kernel_rfl
theorem pre5_b : pre5 [(30,false),(45,false),(7,true),(51,true)] X N L K =
    .side (bad5 N K = false) (.side (F13' X N) (.side (G12 N X) (.side (may17 (tX5 X N)) (.side ((!(mayT (treeOf (TrR (tX5 X N))) == goodE X N)) = false) (.side (may17 (tX5 X N)) (.side ((!mayT (treeOf (TrR (tX5 X N)))) = true) (.side ((!goodE X N) = true)
      (.side (txt16' (tX5 X N)) (.side (((B (textB (treeOf (TrR (tX5 X N))))).toList == (B []).toList) = true → same15' (tX5 X N))
        (.ret (.out (.v (.bool (if ((B (textB (treeOf (TrR (tX5 X N))))).toList == (B []).toList) = true then !sameB (treeOf (TrR (tX5 X N))) (treeOf (TrR (tX5 X N))) else false)))))))))))))) := by kernel_rfl
def hp5 (c : Int) : List (Nat × Option Blk) := [(0, some (cntB c)), (1, some (.fix 3 [.lit (.int .i64 0)])), (2, some (.fix 4 [.lit (.bool true)])), (3, some (.fix 22 [.lit (.slice none 0 0)]))]
def sl5 (T : Tr) (e v d w m : Int) (s : Bs) : List (Nat × AV) := [(0, rowA N X), (4, .lit (.bool false)), (5, anyT T), (7, .v (.int .i64 e)), (9, .ptr 0 0), (11, .v (.int .u64 v)), (13, .v (.int .i64 d)), (14, .v (bytesV s)), (16, .v (.int .u64 w)), (18, .v (.int .i64 m)), (19, .ptr 1 0), (20, .ptr 2 0), (21, .ptr 3 0)]
def st5 (T : Tr) (e v c d w m : Int) (s : Bs) : St := { sl := sl5 X N T e v d w m s, hp := hp5 c, nx := 4, rd := [], wr := [], ws := [], wb := [] }
def M50' (T : Tr) : Prop := MutOk Tryd.prog 50 [anyT T, next20] [.fix 3 [.lit (.int .i64 0)], .fix 42 [rowL K L]] (.v (.int .u64 (EV L K T 0))) [(0, some (cntB (CN L K T 0)))] 2 [0]
def End22 : Prop := PureOk Tryd.prog 22 [rowA N X, .lit (.int .i64 0)] (ansE X N 0)
def Txt23 : Prop := PureOk Tryd.prog 23 [rowA N X, .lit (.int .i64 0)] (ans23 X N 0)
def Val24 : Prop := PureOk Tryd.prog 24 [rowA N X, .lit (.int .i64 0), rowL K L, .lit (.int .i64 0)] (ans24 X N L K 0 0)
theorem pre5_g : pre5 [(30,false),(45,false),(7,false),(51,false)] X N L K =
    .side (bad5 N K = false) (.side (F13' X N) (.side (G12 N X) (.side (may17 (tX5 X N)) (.side ((!(mayT (treeOf (TrR (tX5 X N))) == goodE X N)) = false) (.side (may17 (tX5 X N)) (.side ((!mayT (treeOf (TrR (tX5 X N)))) = false) (.side (M50' L K (tX5 X N)) (.side ((!goodE X N) = false)
      (.side (End22 X N) (.side (Txt23 X N) (.side (Val24 X N L K) (.ret (.go .norm (some (st5 X N (tX5 X N) (eX X N) (EV L K (tX5 X N) 0) (CN L K (tX5 X N) 0) (endT X N N 0).2 (evX X N L K 0 0) (cnX X N L K 0 0) (txX X N 0)))))))))))))))) := by kernel_rfl
end
end
end Go.Proofs.YtdlghljhgbakjaaDoor

/-
  PART: the law ExprTells: its loop's states.
-/
namespace Go.Proofs.YtdlghljhgbakjaaDoor
open Go.RowKit
noncomputable section
/-- What stays through the loop. -/
structure Q5 where
  N : Nat
  X : Nat → Itm
  T : Tr
  e : Int
  v : Int
  c : Int
  d : Int
  w : Int
  m : Int
  s : Bs
variable (q : Q5)
def slQ (q : Q5) : List (Nat × AV) := [(0, rowA q.N q.X), (4, .lit (.bool false)), (5, anyT q.T), (7, .v (.int .i64 q.e)), (9, .ptr 0 0), (11, .v (.int .u64 q.v)), (13, .v (.int .i64 q.d)), (14, .v (bytesV q.s)), (16, .v (.int .u64 q.w)), (18, .v (.int .i64 q.m)), (19, .ptr 1 0), (20, .ptr 2 0), (21, .ptr 3 0)]
def stQ (q : Q5) : St := { sl := slQ q, hp := hp5 q.c, nx := 4, rd := [], wr := [], ws := [], wb := [] }
def invA (q : Q5) (i : Int) : St := { sl := slQ q ++ [(22, .v (.int .i64 i))], hp := hp5 q.c, nx := 4, rd := [], wr := [], ws := [], wb := [] }
def hpB (c : Int) (n : Nat) (get : Nat → List AV) : List (Nat × Option Blk) := [(0, some (cntB c)), (1, some (cntB 0)), (2, some (.fix 4 [.v (.bool true)])), (3, some (.fix 22 [.own 4 n 6 false])), (4, some (.arr 32 n 6 get))]
def invB (q : Q5) (i : Int) (n : Nat) (get : Nat → List AV) : St := { sl := slQ q ++ [(22, .v (.int .i64 i))], hp := hpB q.c n get, nx := 5, rd := [], wr := [], ws := [], wb := [] }
def rnd5 (dec : List (Nat × Bool)) (gb : Bool) (s : St) : Tree Lf := (codeE (cx5 q.X q.N (fun _ => 0) 0 (decL dec)) (evs (cx5 q.X q.N (fun _ => 0) 0 (decL dec)) 60) body5 s).map (lfR 0 ds5b gb res5)
def appI (n : Nat) (Y : Nat → Itm) (a : Itm) (j : Nat) : Itm := ⟨if decide (j < n) = true then (Y j).k else a.k, if decide (j < n) = true then (Y j).op else a.op, if decide (j < n) = true then (Y j).n else a.n, if decide (j < n) = true then (Y j).t else a.t, if decide (j < n) = true then (Y j).i else a.i, if decide (j < n) = true then (Y j).x else a.x⟩
def sizeI (n : Nat) : Prop := n * Tryd.prog.bytesOf 32 ≤ maxAppend ∧ n ≤ maxAppend
def wr64 (z : Int) : Int := IntKind.i64.wrap z
section
variable (i : Int) (n : Nat) (Y : Nat → Itm)
theorem r5B_t : rnd5 q [(91,true),(99,true)] true (invB q i n fun j => itmC (Y j)) = .side (decide (i < q.e) = true) (.side (0 ≤ i ∧ i < (q.N : Int)) (.side (decide ((q.X i.toNat).k < 4) = true) (.side (0 ≤ i ∧ i < (q.N : Int)) (.side (sizeI (n + 1)) (.ret (.go .norm (some (invB q (wr64 (i + 1)) (n + 1) fun j => itmC (appI n Y (q.X i.toNat) j))))))))) := by kernel_rfl
theorem r5B_f : rnd5 q [(91,true),(99,false)] true (invB q i n fun j => itmC (Y j)) = .side (decide (i < q.e) = true) (.side (0 ≤ i ∧ i < (q.N : Int)) (.side (decide ((q.X i.toNat).k < 4) = false) (.ret (.go .norm (some (invB q (wr64 (i + 1)) n fun j => itmC (Y j))))))) := by kernel_rfl
theorem r5B_x : rnd5 q [(91,false)] true (invB q i n fun j => itmC (Y j)) = .side (decide (i < q.e) = false) (.ret (.go (.exit 0) (some (invB q i n fun j => itmC (Y j))))) := by kernel_rfl
theorem init5 : (codeE (cx5 q.X q.N (fun _ => 0) 0 (decL [])) (evs (cx5 q.X q.N (fun _ => 0) 0 (decL [])) 60) a5 (stQ q)).map (lfR 0 ds5b false res5) = .ret (.go .norm (some (invA q 0))) := by kernel_rfl
end
theorem nil5 : St.nilOwnB? 0 ds5b true 3 0 32 6 (invA q 0) = some (invB q 0 0 fun _ => fit 6 []) := by kernel_rfl
def ds5c : List (Nat × Bool) := [(4, false), (5, false), (9, false), (11, false), (13, false), (14, false), (16, false), (18, false), (19, false), (20, false), (21, false)]
def finS (q : Q5) (M : Nat) (R : Nat → Itm) : St := { sl := [(4, .lit (.bool false)), (5, anyT q.T), (9, .ptr 0 0), (11, .v (.int .u64 q.v)), (13, .v (.int .i64 q.d)), (14, .v (bytesV q.s)), (16, .v (.int .u64 q.w)), (18, .v (.int .i64 q.m)), (19, .ptr 1 0), (20, .ptr 2 0), (21, .ptr 3 0)], hp := [(0, some (cntB q.c)), (1, some (cntB 0)), (2, some (.fix 4 [.v (.bool true)])), (3, some (.fix 22 [rowA M R]))], nx := 4, rd := [], wr := [], ws := [], wb := [] }
theorem can5 (i : Int) (n : Nat) (Y : Nat → Itm) : canon 0 ds5c true ((invB q i n fun j => itmC (Y j)).freezeB 4 6 fun j => itmC (Y j)) = some (finS q n Y) := by kernel_rfl
theorem frz5 (i : Int) (n : Nat) (Y : Nat → Itm) (hn : 0 < n) : St.freezeB? ds5c true 4 (invB q i n fun j => itmC (Y j)) = some (finS q n Y) := by
  have : St.freezeB? ds5c true 4 (invB q i n fun j => itmC (Y j)) = if 0 < n then canon 0 ds5c true ((invB q i n fun j => itmC (Y j)).freezeB 4 6 fun j => itmC (Y j)) else none := rfl
  rw [this, if_pos hn]; exact can5 q i n Y
def end5 (q : Q5) (M : Nat) (R : Nat → Itm) : Tree Lf := (codeE (cx5 q.X q.N (fun _ => 0) 0 (decL [(7,true)])) (evs (cx5 q.X q.N (fun _ => 0) 0 (decL [(7,true)])) 60) tail5 (finS q M R)).map (lfR 0 [] false res5)
end
end Go.Proofs.YtdlghljhgbakjaaDoor

/-
  PART: the law ExprSame answers true.
-/
namespace Go.Proofs.YtdlghljhgbakjaaDoor
open Go.RowKit
noncomputable section
section
variable (M N : Nat) (X Y : Nat → Itm) (T U : Tr) (e : Int) (sm : Bool) (i : Int)
def same15 : Prop := PureOk Tryd.prog 15 [anyT T, anyT U] (.v (.bool (sameB (treeOf (TrR T)) (treeOf (TrR U)))))
def txt16 (T : Tr) : Prop := PureOk Tryd.prog 16 [anyT T] (.v (bytesV (textB (treeOf (TrR T)))))
theorem tail3_eq : (codeE (cxS (decL [])) (evs (cxS (decL [])) 60) tail3 (inv3 M N X Y T U e sm i)).map (lfR 0 [] false res3) =
    .side (same15 T U) (.side ((sameB (treeOf (TrR T)) (treeOf (TrR U)) == sm) = true → txt16 T ∧ txt16 U)
      (.ret (.out (.v (.bool (if (sameB (treeOf (TrR T)) (treeOf (TrR U)) == sm) = true then ((B (textB (treeOf (TrR T)))).toList == (B (textB (treeOf (TrR U)))).toList) == sm else false)))))) := by kernel_rfl
end
structure K3 where
  i : Nat
  sm : Bool
structure J3 (M N : Nat) (X Y : Nat → Itm) (k : K3) : Prop where
  le : (k.i : Int) ≤ eX X M
  sm : k.sm = true ↔ eX X M = eX Y N ∧ ∀ j, j < k.i → alikeB (X j) (Y j) = true
def Inv3 (M N : Nat) (X Y : Nat → Itm) (k : K3) : St := inv3 M N X Y (tX X M) (tX Y N) (eX X M) k.sm (k.i : Nat)
def Out3 (M N : Nat) (X Y : Nat → Itm) (s : St) : Prop := ∃ k : K3, s = Inv3 M N X Y k ∧ (k.sm = true ↔ eX X M = eX Y N ∧ ∀ j, j < (eX X M).toNat → alikeB (X j) (Y j) = true)
variable {M N : Nat} {X Y : Nat → Itm} {B : Start}
theorem round3 (hB : B.nx0 = 0) (hT : codeOk B.N body3 = true) (hM : M ≤ 60) (hN : N ≤ 60) (h0 : 0 ≤ eX X M) (h1 : 0 ≤ eX Y N) {O : AV → Prop} (k : K3) (hk : J3 M N X Y k) :
    WpC Tryd.prog B body3 (Inv3 M N X Y k) (Round B res3 (Inv3 M N X Y) (J3 M N X Y) (fun k => (eX X M).toNat - k.i) 0 k (Out3 M N X Y) O) := by
  have lX : ((0 : Nat) : Int) < eX X M ∧ eX X M ≤ M := (endT_le X M M 0).2.1 h0
  have lY : ((0 : Nat) : Int) < eX Y N ∧ eX Y N ≤ N := (endT_le Y N N 0).2.1 h1
  obtain ⟨i, sm⟩ := k
  obtain ⟨hle, hs⟩ := hk
  simp only at hle hs
  cases hg : go3 (eX X M) sm (i : Nat) with
  | false =>
    refine wpc_endH (cx := cxS (decL [(59, false)])) (n := 60) (ds := ds3b) (gb := true) (res := res3) (O := O) (cxS_ok _) fitTry hT ?_
    rw [hB]
    show (in3 M N X Y (tX X M) (tX Y N) (eX X M) sm (i : Nat) [(59, false)]).wp _
    rw [stop3]
    refine ⟨hg, rfl, _, .refl _, ⟨i, sm⟩, rfl, ?_⟩
    show sm = true ↔ _
    unfold go3 at hg
    cases sm with
    | true =>
      have hi : ¬ ((i : Int) < eX X M) := by
        intro hlt
        rw [if_pos (decide_eq_true hlt)] at hg
        cases hg
      have : (eX X M).toNat = i := by omega
      rw [this]; exact hs
    | false =>
      refine ⟨fun h => (by cases h), fun ⟨h2, h3⟩ => hs.2 ⟨h2, fun j hj => h3 j (by omega)⟩⟩
  | true =>
    have hlt : (i : Int) < eX X M ∧ sm = true := by
      unfold go3 at hg
      split at hg
      · rename_i h; exact ⟨of_decide_eq_true h, hg⟩
      · cases hg
    obtain ⟨hlt, rfl⟩ := hlt
    obtain ⟨he, ha⟩ := hs.1 rfl
    have ti : ((i : Nat) : Int).toNat = i := Int.toNat_natCast i
    have w1 : wr ((i : Int) + 1) = ((i + 1 : Nat) : Int) := by rw [wr_in (by omega) (by omega)]; omega
    refine wpc_endH (cx := cxS (decL [(59, true)])) (n := 60) (ds := ds3b) (gb := true) (res := res3) (O := O) (cxS_ok _) fitTry hT ?_
    rw [hB]
    show (in3 M N X Y (tX X M) (tX Y N) (eX X M) true (i : Nat) [(59, true)]).wp _
    rw [next3, w1, ti]
    refine ⟨hg, ⟨by omega, by omega⟩, ⟨by omega, by omega⟩, alike14_ok _ _, ⟨i + 1, alikeB (X i) (Y i)⟩, .refl _, ⟨by show ((i + 1 : Nat) : Int) ≤ _; omega, ?_⟩, by show (eX X M).toNat - (i + 1) < (eX X M).toNat - i; omega⟩
    show alikeB (X i) (Y i) = true ↔ _
    refine ⟨fun h => ⟨he, fun j hj => ?_⟩, fun ⟨_, h⟩ => h i (by show i < i + 1; omega)⟩
    have hj : j < i + 1 := hj
    by_cases hji : j = i
    · rw [hji]; exact h
    · exact ha j (by omega)
end
end Go.Proofs.YtdlghljhgbakjaaDoor

/-
  PART: the law ExprSame answers true: the run.
-/
namespace Go.Proofs.YtdlghljhgbakjaaDoor
open Go.RowKit
noncomputable section
theorem lit_arg2 {f : Nat} {r a : AV} {p m : Int} (h : FrzOk Tryd.prog f [r, .v (.int .i64 p), .v (.int .i64 m)] a) : FrzOk Tryd.prog f [r, .lit (.int .i64 p), .lit (.int .i64 m)] a :=
  h.pre fun E vs hr => by
    cases hr with | cons h1 h2 => cases h2 with | cons h2 h3 => cases h3 with | cons h3 h4 => exact .cons h1 (.cons (c_lit _ _ h2) (.cons (c_lit _ _ h3) h4))
theorem bloop (bs : ByteArray) : ∀ k i r, bs.size - i = k → ByteArray.toList.loop bs i r = r.reverse ++ bs.data.toList.drop i := by
  intro k
  induction k with
  | zero =>
    intro i r h
    unfold ByteArray.toList.loop
    rw [if_neg (by omega), List.drop_eq_nil_of_le (by rw [Array.length_toList]; show bs.size ≤ i; omega), List.append_nil]
  | succ k ih =>
    intro i r h
    have hi : i < bs.data.size := by show i < bs.size; omega
    unfold ByteArray.toList.loop
    rw [if_pos (by show i < bs.size; omega), ih (i + 1) _ (by omega)]
    have hd : bs.data.toList.drop i = bs.data[i] :: bs.data.toList.drop (i + 1) := by
      rw [List.drop_eq_getElem_cons (i := i) (by rw [Array.length_toList]; exact hi)]
      simp
    rw [hd]
    have : bs.get! i = bs.data[i] := by
      show bs.data[i]! = _
      rw [getElem!_pos bs.data i hi]
    simp [this]
theorem B_toList (l : List UInt8) : (B l).toList = l := by
  show ByteArray.toList.loop (B l) 0 [] = l
  rw [bloop _ _ _ _ rfl]; simp [B]
theorem law3_frz (M N : Nat) (X Y : Nat → Itm) (hX : ∀ j, okI6 (X j)) (hY : ∀ j, okI6 (Y j)) : FrzOk Tryd.prog 3 [rowA M X, rowA N Y] (.lit (.bool true)) := by
  let O : AV → Prop := fun a' => ∀ E v, Rep E a' v → Rep E (.lit (.bool true)) v
  refine frz_of_ends fitTry Tryd.func3 (c := c3) (by kernel_rfl) (Nat.le_of_ble_eq_true (by kernel_rfl)) (O := O) (fun E w hd hf => ?_) fun a' h => h
  rw [code3]
  cases hb : badLen3 M N with
  | true =>
    refine wpc_stageR (cx := cxS (decL [(22, true)])) (n := 60) (ds := ds3a) (gb := true) (res := res3) (O := O) (cxS_ok _) fitTry (by simp [firsts]) (by kernel_rfl) ?_ ends_ret
    show (pre3 [(22, true)] M N X Y).wp _
    rw [pre3_t]
    exact ⟨hb, fun E v hv => hv⟩
  | false =>
    have hM : M ≤ 60 ∧ N ≤ 60 := by
      unfold badLen3 at hb
      split at hb
      · cases hb
      · rename_i h1
        have h2 := of_decide_eq_false hb
        simp at h1
        omega
    have g1 : G12 M X := good12_ok X M (by omega)
    have g2 : G12 N Y := good12_ok Y N (by omega)
    cases hq : bad3 M N X Y with
    | true =>
      refine wpc_stageR (cx := cxS (decL [(22, false), (39, true)])) (n := 60) (ds := ds3a) (gb := true) (res := res3) (O := O) (cxS_ok _) fitTry (by simp [firsts]) (by kernel_rfl) ?_ ends_ret
      show (pre3 [(22, false), (39, true)] M N X Y).wp _
      rw [pre3_b]
      exact ⟨hb, g1, g2, hq, fun E v hv => hv⟩
    | false =>
      have hg : goodE X M = true ∧ goodE Y N = true := by
        unfold bad3 at hq
        cases h1 : goodE X M <;> cases h2 : goodE Y N <;> simp_all
      have f1 : F13 M X := lit_arg2 (of_ok X M (by omega) 20 (by omega) 0 (by omega))
      have f2 : F13 N Y := lit_arg2 (of_ok Y N (by omega) 20 (by omega) 0 (by omega))
      have x0 : 0 ≤ eX X M := (good_tree hg.1).1
      have y0 : 0 ≤ eX Y N := (good_tree hg.2).1
      refine wpc_stageR (cx := cxS (decL [(22, false), (39, false)])) (n := 60) (ds := ds3a) (gb := true) (res := res3) (O := O) (cxS_ok _) fitTry (by simp [firsts]) (by kernel_rfl) ?_ ends_ret
      show (pre3 [(22, false), (39, false)] M N X Y).wp _
      rw [pre3_g]
      refine ⟨hb, g1, g2, hq, f1, f2, ?_⟩
      show WpC _ _ _ _ _
      refine wpc_ioloop (cx := cxS (decL [])) (n := 60) (ds := ds3b) (gb := true) (res := res3) (O := O) (cxS_ok _) fitTry (Inv3 M N X Y) (J3 M N X Y) (fun k => (eX X M).toNat - k.i) (Out3 M N X Y) (by kernel_rfl) ?_ (fun k hk => round3 rfl (by kernel_rfl) hM.1 hM.2 x0 y0 k hk) ends_ret ?_
      · show ((codeE (cxS (decL [])) (evs (cxS (decL [])) 60) a3 (st3 M N X Y (tX X M) (tX Y N) (eX X M) (eX X M == eX Y N))).map (lfR 0 ds3b true res3)).wp _
        rw [init3]
        exact ⟨rfl, ⟨0, eX X M == eX Y N⟩, .refl _, ⟨x0, by show (eX X M == eX Y N) = true ↔ _; rw [beq_iff_eq]; exact ⟨fun h => ⟨h, fun j hj => absurd hj (Nat.not_lt_zero j)⟩, fun h => h.1⟩⟩⟩
      · rintro s ⟨k, rfl, hk⟩
        obtain ⟨l1, l2⟩ := alike_law hX hY hg.1 hg.2 hk
        refine wpc_of_lfR (cx := cxS (decL [])) (n := 60) (ds := []) (gb := false) (res := res3) (O := O) (cxS_ok _) fitTry (by kernel_rfl) ?_ ends_ret
        show ((codeE (cxS (decL [])) (evs (cxS (decL [])) 60) tail3 (inv3 M N X Y (tX X M) (tX Y N) (eX X M) k.sm (k.i : Nat))).map (lfR 0 [] false res3)).wp _
        rw [tail3_eq]
        refine ⟨?_, fun _ => ⟨?_, ?_⟩, ?_⟩
        · unfold same15; rw [treeOf_tr, treeOf_tr]; exact same15_ok _ _
        · unfold txt16; rw [treeOf_tr]; exact text16_ok _ (okT_of X M hX 20 0)
        · unfold txt16; rw [treeOf_tr]; exact text16_ok _ (okT_of Y N hY 20 0)
        · intro E v hv
          rw [treeOf_tr, treeOf_tr, l1] at hv
          have e1 : (if (k.sm == k.sm) = true then ((B (textB (tX X M))).toList == (B (textB (tX Y N))).toList) == k.sm else false) = true := by
            rw [if_pos (by simp), B_toList, B_toList]
            cases hs : k.sm with
            | true =>
              have := l2.2 hs
              simp [this]
            | false =>
              have : textB (tX X M) ≠ textB (tX Y N) := fun h => by rw [l2.1 h] at hs; cases hs
              simp [this]
          rw [e1] at hv
          cases hv with
          | v _ _ => exact .lit _ rfl
end
end Go.Proofs.YtdlghljhgbakjaaDoor

/-
  PART: the law ExprTells answers true: its loop, what is behind it.
-/
namespace Go.Proofs.YtdlghljhgbakjaaDoor
open Go.RowKit
noncomputable section
section
variable (q : Q5) (M : Nat) (R : Nat → Itm)
def dep19' (T : Tr) : Prop := PureOk Tryd.prog 19 [anyT T] (.v (.int .i64 (depthT (treeOf (TrR T)) 13)))
def fin5 (q : Q5) (M : Nat) : Bool := if ((B (textB (treeOf (TrR q.T)))).toList == (B q.s).toList) = true then if (q.v == q.w) = true then if (q.c == q.m) = true then if (depthT (treeOf (TrR q.T)) 13 == q.d) = true then if true = true then 0 + LV q.T == (M : Int) else false else false else false else false else false
theorem end5_eq : end5 q M R = .side (may17 q.T) (.side (mayT (treeOf (TrR q.T)) = true) (.side (M58 R M q.T 0 true) (.side (txt16' q.T) (.side (((B (textB (treeOf (TrR q.T)))).toList == (B q.s).toList) = true → (q.v == q.w) = true → (q.c == q.m) = true → dep19' q.T) (.ret (.out (.v (.bool (fin5 q M))))))))) := by kernel_rfl
end
def Inv5 (q : Q5) (i : Nat) : St := invB q (i : Nat) (cntL q.X i) fun j => itmC (lvsOf q.X i j)
def J5 (q : Q5) (i : Nat) : Prop := (i : Int) ≤ q.e
def Out5 (q : Q5) (s : St) : Prop := ∃ i : Nat, s = Inv5 q i ∧ (i : Int) = q.e
theorem sizeI_ok {n : Nat} (h : n ≤ 1000) : sizeI n := by
  have h1 : Tryd.prog.bytesOf 32 ≤ 1000 := Nat.le_of_ble_eq_true (by kernel_rfl)
  have h3 : maxAppend = 1099511627776 := by decide
  unfold sizeI
  have := Nat.mul_le_mul h h1
  omega
theorem appI_eq (n : Nat) (Y : Nat → Itm) (a : Itm) (j : Nat) : appI n Y a j = if j < n then Y j else a := by
  unfold appI
  by_cases h : j < n
  · simp [h]
  · simp [h]
theorem lvs_low (X : Nat → Itm) (i : Nat) (hk : (X i).k < 4) (j : Nat) (hj : j < cntL X i + 1) : appI (cntL X i) (lvsOf X i) (X i) j = lvsOf X (i + 1) j := by
  rw [appI_eq, lvsOf_succ]
  by_cases h : j < cntL X i
  · rw [if_pos h, if_neg (by omega)]
  · rw [if_neg h, if_pos ⟨hk, by omega⟩]
section
variable {q : Q5} {B : Start}
theorem round5 (hB : B.nx0 = 0) (hT : codeOk B.N body5 = true) (hN : q.N ≤ 60) (he : q.e ≤ q.N) {O : AV → Prop} (i : Nat) (hk : J5 q i) :
    WpC Tryd.prog B body5 (Inv5 q i) (Round B res5 (Inv5 q) (J5 q) (fun i => q.e.toNat - i) 0 i (Out5 q) O) := by
  have hk : (i : Int) ≤ q.e := hk
  have hc := cntL_le q.X i
  have w1 : wr64 ((i : Int) + 1) = ((i + 1 : Nat) : Int) := w64 i (by omega)
  by_cases hlt : (i : Int) < q.e
  · by_cases h4 : (q.X i).k < 4
    · refine wpc_endH (cx := cx5 q.X q.N (fun _ => 0) 0 (decL [(91,true),(99,true)])) (n := 60) (ds := ds5b) (gb := true) (res := res5) (O := O) (cx5_ok _ _ _ _ _) fitTry hT ?_
      rw [hB]
      show (rnd5 q [(91,true),(99,true)] true (invB q (i : Nat) (cntL q.X i) fun j => itmC (lvsOf q.X i j))).wp _
      rw [r5B_t, w1, Int.toNat_natCast]
      refine ⟨decide_eq_true hlt, by omega, decide_eq_true h4, by omega, sizeI_ok (by omega), i + 1, ?_, by show ((i + 1 : Nat) : Int) ≤ q.e; omega, by show q.e.toNat - (i + 1) < q.e.toNat - i; omega⟩
      have hcs : cntL q.X (i + 1) = cntL q.X i + 1 := by rw [cntL_succ, if_pos h4]
      refine hold_rows (s := invB q ((i + 1 : Nat) : Int) (cntL q.X i + 1) fun j => itmC (appI (cntL q.X i) (lvsOf q.X i) (q.X i) j)) (m := Inv5 q (i + 1)) rfl rfl ?_
      unfold Inv5
      rw [hcs]
      exact .same (.same (.same (.same (.row (fun j hj => by rw [lvs_low q.X i h4 j hj]) .nil))))
    · refine wpc_endH (cx := cx5 q.X q.N (fun _ => 0) 0 (decL [(91,true),(99,false)])) (n := 60) (ds := ds5b) (gb := true) (res := res5) (O := O) (cx5_ok _ _ _ _ _) fitTry hT ?_
      rw [hB]
      show (rnd5 q [(91,true),(99,false)] true (invB q (i : Nat) (cntL q.X i) fun j => itmC (lvsOf q.X i j))).wp _
      rw [r5B_f, w1, Int.toNat_natCast]
      refine ⟨decide_eq_true hlt, by omega, decide_eq_false h4, i + 1, ?_, by show ((i + 1 : Nat) : Int) ≤ q.e; omega, by show q.e.toNat - (i + 1) < q.e.toNat - i; omega⟩
      have hcs : cntL q.X (i + 1) = cntL q.X i := by rw [cntL_succ, if_neg h4]
      have hf : (fun j => itmC (lvsOf q.X (i + 1) j)) = fun j => itmC (lvsOf q.X i j) := funext fun j => by rw [lvsOf_succ, if_neg (fun h => h4 h.1)]
      show HoldLe B _ (invB q ((i + 1 : Nat) : Int) (cntL q.X (i + 1)) fun j => itmC (lvsOf q.X (i + 1) j))
      rw [hcs, hf]
      exact .refl _
  · refine wpc_endH (cx := cx5 q.X q.N (fun _ => 0) 0 (decL [(91,false)])) (n := 60) (ds := ds5b) (gb := true) (res := res5) (O := O) (cx5_ok _ _ _ _ _) fitTry hT ?_
    rw [hB]
    show (rnd5 q [(91,false)] true (invB q (i : Nat) (cntL q.X i) fun j => itmC (lvsOf q.X i j))).wp _
    rw [r5B_x]
    exact ⟨decide_eq_false hlt, rfl, _, .refl _, i, rfl, by omega⟩
end
end
end Go.Proofs.YtdlghljhgbakjaaDoor

/-
  PART: the law ExprSame: from any arguments.
-/
namespace Go.Proofs.YtdlghljhgbakjaaDoor
open Go.RowKit
theorem Rep.sl_congr {E : Env} {n k : Nat} {get get' : Nat → List AV} {nl nl' full : Bool} {v : Value} (h : ∀ i, i < n → get i = get' i) (hv : Rep E (.sl n k get nl full) v) : Rep E (.sl n k get' nl' false) v := by
  cases hv with
  | slNil hn => exact .slNil hn
  | slEmp hn hf => exact .slEmp hn fun e => by cases e
  | sl q1 q2 q3 q4 q5 q6 => exact .sl q1 q2 (fun e => by cases e) q4 (fun i hi => h i hi ▸ q5 i hi) q6
noncomputable section
def ksI6 : List Ck := [.int .u8, .int .u8, .int .u64, .int .u8, .int .u8, .int .u8]
def ksE2 : List (Bool × List Ck) := [(false, [.row ksI6]), (false, [.row ksI6])]
theorem wf_u64 {z : Int} (h : (Lit.int .u64 z).wf = true) : 0 ≤ z ∧ z ≤ 18446744073709551615 := by
  simp only [Lit.wf, Bool.and_eq_true, decide_eq_true_eq] at h; exact ⟨h.1, h.2⟩
theorem wf_u8 {z : Int} (h : (Lit.int .u8 z).wf = true) : 0 ≤ z ∧ z ≤ 255 := by
  simp only [Lit.wf, Bool.and_eq_true, decide_eq_true_eq] at h; exact ⟨h.1, h.2⟩
theorem itm_of {l : List AV} (h : Shps ksI6 l) : l = itmC (itmOf l) ∧ okI6 (itmOf l) := by
  unfold ksI6 at h
  cases h with | cons h0 t => cases t with | cons h1 t => cases t with | cons h2 t => cases t with | cons h3 t => cases t with | cons h4 t => cases t with | cons h5 t => cases t with | nil =>
  cases h0; cases h1; cases h2; cases h3; cases h4; cases h5
  rename_i h2 _ h3 _ h4 _ _
  refine ⟨rfl, wf_u64 (by assumption), (wf_u8 (by assumption)).1, (wf_u8 (by assumption)).1⟩
/-- The items of a row that is told. -/
def itmX (n : Nat) (g : Nat → List AV) (j : Nat) : Itm := if j < n then itmOf (g j) else ⟨0, 0, 0, 0, 0, 0⟩
theorem itmX_ok {n : Nat} {g : Nat → List AV} (h : ∀ i, i < n → Shps ksI6 (g i)) (j : Nat) : okI6 (itmX n g j) := by
  unfold itmX
  split
  · rename_i hj; exact (itm_of (h j hj)).2
  · exact ⟨⟨by decide, by decide⟩, by decide, by decide⟩
theorem itmX_eq {n : Nat} {g : Nat → List AV} (h : ∀ i, i < n → Shps ksI6 (g i)) (j : Nat) (hj : j < n) : g j = itmC (itmX n g j) := by
  unfold itmX
  rw [if_pos hj]; exact (itm_of (h j hj)).1
theorem args_e2 {al : List AV} (h : ArgsOk ksE2 al) : ∃ (M N : Nat) (X Y : Nat → Itm), (∀ j, okI6 (X j)) ∧ (∀ j, okI6 (Y j)) ∧ ∀ E vs, Reps E al vs → Reps E [rowA M X, rowA N Y] vs := by
  unfold ksE2 at h
  cases h with | cons h0 t => cases t with | cons h1 t => cases t with | nil =>
  cases h0 with | cons h0 t0 => cases t0 with | nil =>
  cases h1 with | cons h1 t1 => cases t1 with | nil =>
  cases h0 with
  | row _ n0 g0 hn0 hs0 =>
    cases h1 with
    | row _ n1 g1 hn1 hs1 =>
      refine ⟨n0, n1, itmX n0 g0, itmX n1 g1, itmX_ok hs0, itmX_ok hs1, fun E vs hv => ?_⟩
      cases hv with | cons r0 t => cases t with | cons r1 t =>
      exact .cons (r0.sl_congr fun i hi => itmX_eq hs0 i hi) (.cons (r1.sl_congr fun i hi => itmX_eq hs1 i hi) t)
theorem args3 : argShs Tryd.prog 6 Tryd.f3.params.toList = some ksE2 := by kernel_rfl
/-- A law's run from what it answers. -/
theorem runs_of_frz {P : Program} {f : Nat} {fn : Func} {c : Code} (hfit : Fit P) (hfn : P.funcs[f]? = some fn) (hb : fn.body = some c) {ks : List (Bool × List Ck)} (h : ∀ al, ArgsOk ks al → ∃ args, (∀ E vs, Reps E al vs → Reps E args vs) ∧ FrzOk P f args (.lit (.bool true))) : LawRuns P f ks := by
  intro w hg vals al hok hargs
  obtain ⟨args, hA, hF⟩ := h al hok
  rcases hF none (frozenE w hg) w vals (fun v w' => v = .bool true ∧ Quiet w w') (fun _ h => h) (frozenE_ok w hg) (hA _ _ hargs) (fun v w' E' _ _ _ _ hr hq => ⟨by cases hr; rfl, hq⟩) with ⟨u, h1, _⟩ | ⟨_, h2⟩
  · have hname' : ¬ fn.name = "runtime.NumGoroutine" := by simpa using (fit_func hfit hfn hb).2
    have e : Sem.run P (callFunc f vals) w = .ok (.enter f vals) w := by simp [callFunc, hfn, hname', hb]
    rw [e] at h1
    cases h1
  · exact h2
theorem law3_runs : LawRuns Tryd.prog 3 ksE2 := runs_of_frz fitTry Tryd.func3 (c := c3) (by kernel_rfl) fun al hok => by
  obtain ⟨M, N, X, Y, hX, hY, hA⟩ := args_e2 hok
  exact ⟨_, hA, law3_frz M N X Y hX hY⟩
end
end Go.Proofs.YtdlghljhgbakjaaDoor

/-
  PART: the law ExprTells answers true: the run.
-/
namespace Go.Proofs.YtdlghljhgbakjaaDoor
open Go.RowKit
noncomputable section
theorem sz_rd {X : Nat → Itm} {p e : Nat} {t : Tr} (h : Rd X p t e) : sz t = e - p := by
  induction h with
  | leaf p hl =>
    obtain ⟨n, t, i, x, e⟩ := leafTr_k hl
    rw [e]; show 0 + 0 + 1 = _; omega
  | one p e l k s hr ih =>
    have := hr.lt
    show sz l + 0 + 1 = _; omega
  | two p q e l r k s hr hr2 i1 i2 =>
    have := hr.lt
    have := hr2.lt
    show sz l + sz r + 1 = _; omega
theorem lit_r4 {f : Nat} {r l a : AV} {p n : Value} (h : PureOk Tryd.prog f [r, .v p, l, .v n] a) : PureOk Tryd.prog f [r, .lit p, l, .lit n] a :=
  h.pre fun E vs hr => by
    cases hr with | cons h1 h2 => cases h2 with | cons h2 h3 => cases h3 with | cons h3 h4 => cases h4 with | cons h4 h5 => exact .cons h1 (.cons (v_of_lit _ _ h2) (.cons h3 (.cons (v_of_lit _ _ h4) h5)))
theorem fix_lit {ty : TypeId} {v : Value} : BlkLe (.fix ty [.lit v]) (.fix ty [.v v]) := fun E x o h => by
  obtain ⟨h1, c, h2, h3, h4⟩ := h
  refine ⟨h1, c, h2, ?_, h4⟩
  generalize c.toList = l at h3
  cases h3 with
  | cons a b => exact .cons (v_of_lit _ _ a) b
set_option maxRecDepth 100000 in
theorem law5_frz (N K : Nat) (X : Nat → Itm) (L : Nat → Int) (hX : ∀ j, okI6 (X j)) (hL : ∀ j, j < K → u64R (L j)) : FrzOk Tryd.prog 5 (args5 X N L K) (.lit (.bool true)) := by
  let O : AV → Prop := fun a' => ∀ E v, Rep E a' v → Rep E (.lit (.bool true)) v
  have outT : ∀ b : Bool, b = true → O (.v (.bool b)) := fun b hb E v hv => by
    subst hb
    cases hv with
    | v _ _ => exact .lit _ rfl
  refine frz_of_ends fitTry Tryd.func5 (c := c5) (by kernel_rfl) (Nat.le_of_ble_eq_true (by kernel_rfl)) (O := O) (fun E w hd hf => ?_) fun a' h => h
  rw [code5]
  cases hb : bad5 N K with
  | true =>
    refine wpc_stageR (cx := cx5 X N L K (decL [(30,true)])) (n := 60) (ds := ds5a) (gb := false) (res := res5) (O := O) (cx5_ok _ _ _ _ _) fitTry (by simp [firsts]) (by kernel_rfl) ?_ ends_ret
    show (pre5 [(30,true)] X N L K).wp _
    rw [pre5_t]
    exact ⟨hb, fun E v hv => hv⟩
  | false =>
    have hNK : N ≤ 60 ∧ K ≤ 100 := by
      unfold bad5 at hb
      split at hb
      · cases hb
      · rename_i h1
        have h2 := of_decide_eq_false hb
        simp at h1
        omega
    have f13 : F13' X N := lit_arg2 (of_ok X N (by omega) 20 (by omega) 0 (by omega))
    have g12 : G12 N X := good12_ok X N (by omega)
    have mt : mayT (treeOf (TrR (tX5 X N))) = goodE X N := by rw [treeOf_tr]; exact may_good
    have m17 : may17 (tX5 X N) := by unfold may17; rw [treeOf_tr]; exact may_ok _
    have hok : okT (tX5 X N) := okT_of X N hX 20 0
    have t16 : txt16' (tX5 X N) := by unfold txt16'; rw [treeOf_tr]; exact text16_ok _ hok
    cases hg : goodE X N with
    | false =>
      have hm : mayT (tX5 X N) = false := may_good.trans hg
      refine wpc_stageR (cx := cx5 X N L K (decL [(30,false),(45,false),(7,true),(51,true)])) (n := 60) (ds := ds5a) (gb := false) (res := res5) (O := O) (cx5_ok _ _ _ _ _) fitTry (by simp [firsts]) (by kernel_rfl) ?_ ends_ret
      show (pre5 [(30,false),(45,false),(7,true),(51,true)] X N L K).wp _
      rw [pre5_b, mt, hg]
      refine ⟨hb, f13, g12, m17, rfl, m17, rfl, rfl, t16, fun _ => ?_, outT _ ?_⟩
      · unfold same15'; rw [treeOf_tr]; exact same15_ok _ _
      · rw [treeOf_tr]
        have h1 : textB (tX5 X N) = [] := by unfold textB; rw [hm]; rfl
        have h2 : sameB (tX5 X N) (tX5 X N) = false := by unfold sameB; rw [hm]; rfl
        rw [h1, h2]
        simp
    | true =>
      obtain ⟨e0, hrd, hm⟩ := good_tree hg
      have hrd : Rd X 0 (tX5 X N) (eX X N).toNat := hrd
      have hm : mayT (tX5 X N) = true := hm
      have he : eX X N ≤ N := ((endT_le X N N 0).2.1 e0).2
      have e0 : 0 ≤ eX X N := e0
      have hen : (eX X N).toNat ≤ N := by omega
      obtain ⟨hGT, hnO⟩ := GT_rd hX hrd
      have hdep : dep (tX5 X N) ≤ 12 := by
        unfold mayT at hm
        split at hm
        · rename_i h1; exact dep_of (of_decide_eq_true h1)
        · cases hm
      have hend := end_of_rd (N := N) hrd hen N (by omega)
      have ho := ofT_rd (N := N) hrd hen 100 (by omega)
      have hsz := sz_rd hrd
      have m50 : M50' L K (tX5 X N) := by
        have h := eval50 (K := K) hL hGT hnO 0 (by omega)
        unfold M50' EV CN
        rw [treeOf_tr]
        exact h.pre (fun _ _ h => h) (.cons fix_lit (.cons (BlkLe.refl _) .nil))
      have e22 : End22 X N := lit_arg (end_ok X N (by omega) N 0 (by omega) (by omega))
      have t23 : Txt23 X N := by
        have h := text23 hX (by omega) hrd hen (by omega)
        unfold Txt23 ans23 txX enX
        have e1 : (0 : Int).toNat = 0 := rfl
        rw [e1, ho]
        exact lit_arg h
      have v24 : Val24 X N L K := by
        have h := value24 hX hL (by omega) (by omega) hrd hen (by omega) 0 (by omega)
        unfold Val24 ans24 evX cnX enX
        have e1 : (0 : Int).toNat = 0 := rfl
        rw [e1, ho]
        exact lit_r4 h
      refine wpc_stageR (cx := cx5 X N L K (decL [(30,false),(45,false),(7,false),(51,false)])) (n := 60) (ds := ds5a) (gb := false) (res := res5) (O := O) (cx5_ok _ _ _ _ _) fitTry (by simp [firsts]) (by kernel_rfl) ?_ ends_ret
      show (pre5 [(30,false),(45,false),(7,false),(51,false)] X N L K).wp _
      rw [pre5_g, mt, hg]
      refine ⟨hb, f13, g12, m17, rfl, m17, rfl, m50, rfl, e22, t23, v24, ?_⟩
      let q : Q5 := ⟨N, X, tX5 X N, eX X N, EV L K (tX5 X N) 0, CN L K (tX5 X N) 0, (endT X N N 0).2, evX X N L K 0 0, cnX X N L K 0 0, txX X N 0⟩
      show WpC _ _ _ (stQ q) _
      refine wpc_ioloop (cx := cx5 q.X q.N (fun _ => 0) 0 (decL [])) (n := 60) (ds := ds5b) (gb := false) (res := res5) (O := O) (cx5_ok _ _ _ _ _) fitTry (Inv5 q) (J5 q) (fun i => q.e.toNat - i) (Out5 q) (by kernel_rfl) ?_ (fun i hi => round5 rfl (by kernel_rfl) hNK.1 he i hi) ends_ret ?_
      · show ((codeE (cx5 q.X q.N (fun _ => 0) 0 (decL [])) (evs (cx5 q.X q.N (fun _ => 0) 0 (decL [])) 60) a5 (stQ q)).map (lfR 0 ds5b false res5)).wp _
        rw [init5]
        refine ⟨rfl, 0, (nilOwnB_le (nil5 q)).trans ?_, e0⟩
        exact hold_rows (s := invB q 0 0 fun _ => fit 6 []) (m := Inv5 q 0) rfl rfl (.same (.same (.same (.same (.row (fun j hj => absurd hj (Nat.not_lt_zero j)) .nil)))))
      · rintro s ⟨i, rfl, hi⟩
        have hi : (i : Int) = eX X N := hi
        have hin : i = (eX X N).toNat := by omega
        have hlv := lv_rd hrd
        have h0 : cntL X 0 = 0 := rfl
        have hlv2 : cntL X i = lv (tX5 X N) := by rw [hin]; omega
        have hpos : 0 < cntL X i := by
          rw [hlv2]
          have : ∀ t : Tr, GT t → 0 < lv t := fun t h => by
            induction h with
            | one op l _ _ _ ih => exact ih
            | two op l r _ _ _ _ i1 _ => show 0 < lv l + lv r; omega
            | _ => exact Nat.one_pos
          exact this _ hGT
        refine wpc_pre (freezeB_le (ds := ds5c) (gb := true) (x := 4) (m := finS q (cntL X i) (lvsOf X i)) rfl (frz5 q (i : Nat) (cntL X i) (lvsOf X i) hpos)) ?_
        refine wpc_of_lfR (cx := cx5 q.X q.N (fun _ => 0) 0 (decL [(7,true)])) (n := 60) (ds := []) (gb := false) (res := res5) (O := O) (cx5_ok _ _ _ _ _) fitTry (by kernel_rfl) ?_ ends_ret
        show (end5 q (cntL X i) (lvsOf X i)).wp _
        rw [end5_eq]
        refine ⟨m17, mt.trans hg, ?_, t16, fun _ _ _ => ?_, outT _ ?_⟩
        · show M58 (lvsOf X i) (cntL X i) (tX5 X N) 0 true
          unfold M58 LV
          rw [treeOf_tr, ← hlv2, hin]
          have h := walk58 (M := cntL X (eX X N).toNat) (by have := cntL_le X (eX X N).toNat; omega) (lvRow (X := X) (eX X N).toNat) true hrd (Nat.le_refl _)
          rw [Int.zero_add]
          exact h
        · unfold dep19'; rw [treeOf_tr]; exact depth19_ok _
        · show fin5 q (cntL X i) = true
          unfold fin5
          show (if ((B (textB (treeOf (TrR (tX5 X N))))).toList == (B (txX X N 0)).toList) = true then if (EV L K (tX5 X N) 0 == evX X N L K 0 0) = true then if (CN L K (tX5 X N) 0 == cnX X N L K 0 0) = true then if (depthT (treeOf (TrR (tX5 X N))) 13 == (endT X N N 0).2) = true then if true = true then 0 + LV (tX5 X N) == ((cntL X i : Nat) : Int) else false else false else false else false else false) = true
          unfold EV CN LV txX evX cnX
          have e1 : (0 : Int).toNat = 0 := rfl
          have h1 : textB (tX5 X N) = text (tX5 X N) := by unfold textB; rw [hm]; rfl
          have h2 : depthT (tX5 X N) 13 = ((dep (tX5 X N) : Nat) : Int) := by
            have := depthT_dep (tX5 X N) 13
            have h3 : ((13 : Nat) : Int) = 13 := rfl
            rw [h3] at this
            rw [this]; omega
          rw [e1, ho, treeOf_tr, h1, h2, hend, hlv2]
          simp
end
end Go.Proofs.YtdlghljhgbakjaaDoor

/-
  PART: the law ExprTells: from any arguments.
-/
namespace Go.Proofs.YtdlghljhgbakjaaDoor
open Go.RowKit
noncomputable section
def ks5 : List (Bool × List Ck) := [(false, [.row ksI6]), (false, [.row [.int .u64]])]
def u64Of (n : Nat) (g : Nat → List AV) (j : Nat) : Int := if j < n then (match g j with | [a] => intA a | _ => 0) else 0
theorem u64Of_ok {n : Nat} {g : Nat → List AV} (h : ∀ i, i < n → Shps [.int .u64] (g i)) (j : Nat) (hj : j < n) : g j = [.v (.int .u64 (u64Of n g j))] ∧ u64R (u64Of n g j) := by
  have h1 := h j hj
  unfold u64Of
  rw [if_pos hj]
  generalize g j = l at h1
  cases h1 with | cons h0 t => cases t with | nil =>
  cases h0 with
  | int _ z hz =>
    have := wf_u64 hz
    exact ⟨rfl, this.1, by show z < _; omega⟩
theorem args_5 {al : List AV} (h : ArgsOk ks5 al) : ∃ (N K : Nat) (X : Nat → Itm) (L : Nat → Int), (∀ j, okI6 (X j)) ∧ (∀ j, j < K → u64R (L j)) ∧ ∀ E vs, Reps E al vs → Reps E (args5 X N L K) vs := by
  unfold ks5 at h
  cases h with | cons h0 t => cases t with | cons h1 t => cases t with | nil =>
  cases h0 with | cons h0 t0 => cases t0 with | nil =>
  cases h1 with | cons h1 t1 => cases t1 with | nil =>
  cases h0 with
  | row _ n0 g0 hn0 hs0 =>
    cases h1 with
    | row _ n1 g1 hn1 hs1 =>
      refine ⟨n0, n1, itmX n0 g0, u64Of n1 g1, itmX_ok hs0, fun j hj => (u64Of_ok hs1 j hj).2, fun E vs hv => ?_⟩
      cases hv with | cons r0 t => cases t with | cons r1 t =>
      exact .cons (r0.sl_congr fun i hi => itmX_eq hs0 i hi) (.cons (r1.sl_congr fun i hi => (u64Of_ok hs1 i hi).1) t)
theorem argsSh5 : argShs Tryd.prog 6 Tryd.f5.params.toList = some ks5 := by kernel_rfl
theorem law5_runs : LawRuns Tryd.prog 5 ks5 := runs_of_frz fitTry Tryd.func5 (c := c5) (by kernel_rfl) fun al hok => by
  obtain ⟨N, K, X, L, hX, hL, hA⟩ := args_5 hok
  exact ⟨_, hA, law5_frz N K X L hX hL⟩
end
end Go.Proofs.YtdlghljhgbakjaaDoor
