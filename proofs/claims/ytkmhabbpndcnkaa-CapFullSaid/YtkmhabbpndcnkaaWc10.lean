/-
  PARTS, one behind the other: TJ TK TL TM TN TO TP TQ TR.
-/
import Derived.Test.YtkmhabbpndcnkaaWc9
/-
  PART: caps: a capped row, plainly.
-/
namespace Go.Proofs.Ytkmhabbpndcnkaa
open Go.RowKit
noncomputable section
/-- A row with its gaps filled. -/
def capRow (i : Int) (last : Int) : List RIt → List RIt
  | [] => [capR i last (last + 1)]
  | x :: l => if decide (x.p > last) = true then capR i last x.p :: x :: capRow i x.q l else x :: capRow i x.q l
def capX (i : Int) (x : List Int) : RIt := capR i (x.getD 0 0) (x.getD 1 0)
theorem fold_step {N : Nat} {i : Int} : ∀ {xs : List (List Int)} {L L' : List RIt}, xs.foldlM (refStep N i) L = some L' → L' = L ++ xs.map (capX i)
  | [], L, L', h => by cases h; simp
  | x :: xs, L, L', h => by
    rw [List.foldlM_cons] at h
    cases hs : refStep N i L x with
    | none => rw [hs] at h; cases h
    | some L1 =>
      rw [hs] at h
      have ih := fold_step (xs := xs) (L := L1) (L' := L') h
      unfold refStep at hs
      split at hs
      · rename_i hc
        cases hs
        rw [ih, refAdd_ok hc]
        simp [capX]
      · cases hs
theorem fold_loc {N : Nat} {L0 : List RIt} : ∀ {l : List Nat} {L L' : List RIt}, l.foldlM (refCapLoc N L0) L = some L' → L' = L ++ l.flatMap fun i : Nat => (gapsR 0 (rlist L0 i)).map (capX i)
  | [], L, L', h => by cases h; simp
  | i :: l, L, L', h => by
    rw [List.foldlM_cons] at h
    cases hs : refCapLoc N L0 L i with
    | none => rw [hs] at h; cases h
    | some L1 =>
      rw [hs] at h
      have ih := fold_loc (l := l) (L := L1) (L' := L') h
      rw [ih, fold_step hs]
      simp
theorem flat_one {α : Type} (A : Nat → List α) (i : Nat) : ∀ N : Nat, (List.range N).flatMap (fun j => if j = i then A j else []) = if i < N then A i else []
  | 0 => rfl
  | N + 1 => by
    rw [List.range_succ, List.flatMap_append, flat_one A i N]
    by_cases h : i < N
    · rw [if_pos h, if_pos (by omega)]
      have : ¬ N = i := by omega
      simp [this]
    · rw [if_neg h]
      by_cases h2 : N = i
      · subst h2; simp
      · have : ¬ i < N + 1 := by omega
        simp [h2, this]
theorem at_cap {N : Nat} {L0 L' : List RIt} (h : refCap N L0 = some L') {i : Nat} (hi : i < N) : at_ L' i = at_ L0 i ++ (gapsR 0 (rlist L0 i)).map (capX i) := by
  rw [fold_loc h]
  unfold at_
  rw [List.filter_append]
  congr 1
  rw [List.filter_flatMap]
  have e : (fun j : Nat => List.filter (fun x : RIt => decide (x.loc = (i : Int))) ((gapsR 0 (rlist L0 j)).map (capX j))) = fun j => if j = i then (gapsR 0 (rlist L0 j)).map (capX j) else [] := by
    funext j
    by_cases hj : j = i
    · rw [if_pos hj]
      subst hj
      refine List.filter_eq_self.2 fun x hx => ?_
      obtain ⟨y, _, rfl⟩ := List.mem_map.1 hx
      simp [capX, capR]
    · rw [if_neg hj]
      refine List.filter_eq_nil_iff.2 fun x hx => ?_
      obtain ⟨y, _, rfl⟩ := List.mem_map.1 hx
      simp [capX, capR]
      omega
  rw [e, flat_one, if_pos hi]
theorem capRow_perm (i : Int) : ∀ (l : List RIt) (last : Int), (capRow i last l).Perm (l ++ (gapsR last l).map (capX i))
  | [], last => .refl _
  | x :: l, last => by
    have ih := capRow_perm i l x.q
    unfold capRow gapsR
    by_cases h : decide (x.p > last) = true
    · rw [if_pos h, if_pos h, List.map_cons]
      refine (List.Perm.cons _ (List.Perm.cons _ ih)).trans ?_
      show (capX i [last, x.p] :: x :: (l ++ (gapsR x.q l).map (capX i))).Perm ((x :: l) ++ capX i [last, x.p] :: (gapsR x.q l).map (capX i))
      exact (List.perm_middle (l₁ := x :: l)).symm
    · rw [if_neg h, if_neg h]
      exact ih.cons x
/-- Neighbours, as a chain. -/
def Chained (last : Int) : List RIt → Prop
  | [] => True
  | x :: l => last ≤ x.p ∧ x.p < x.q ∧ Chained x.q l
def Cont (last : Int) : List RIt → Prop
  | [] => True
  | x :: l => x.p = last ∧ Cont x.q l
theorem capRow_cont (i : Int) : ∀ (l : List RIt) (last : Int), Chained last l → Cont last (capRow i last l)
  | [], last, _ => ⟨rfl, trivial⟩
  | x :: l, last, h => by
    have ih := capRow_cont i l x.q h.2.2
    unfold capRow
    by_cases hc : decide (x.p > last) = true
    · rw [if_pos hc]; exact ⟨rfl, rfl, ih⟩
    · rw [if_neg hc]
      have := h.1
      simp at hc
      exact ⟨by omega, ih⟩
theorem capRow_up (i : Int) : ∀ (l : List RIt) (last : Int), Chained last l → Up (capRow i last l) ∧ ∀ x ∈ capRow i last l, last < x.q
  | [], last, _ => ⟨List.pairwise_cons.2 ⟨fun _ h => (by cases h), List.Pairwise.nil⟩, fun x hx => by rcases List.mem_cons.1 hx with rfl | hx; (show last < last + 1; omega); cases hx⟩
  | x :: l, last, h => by
    obtain ⟨i1, i2⟩ := capRow_up i l x.q h.2.2
    have h1 := h.1
    have h2 := h.2.1
    unfold capRow
    by_cases hc : decide (x.p > last) = true
    · have hc' : x.p > last := by simpa using hc
      rw [if_pos hc]
      have hx : Up (x :: capRow i x.q l) := List.pairwise_cons.2 ⟨i2, i1⟩
      refine ⟨List.pairwise_cons.2 ⟨fun y hy => ?_, hx⟩, fun y hy => ?_⟩
      · show x.p < y.q
        rcases List.mem_cons.1 hy with rfl | hy
        · exact h2
        · have := i2 y hy; omega
      · rcases List.mem_cons.1 hy with rfl | hy
        · show last < x.p; omega
        · rcases List.mem_cons.1 hy with rfl | hy
          · omega
          · have := i2 y hy; omega
    · rw [if_neg hc]
      refine ⟨List.pairwise_cons.2 ⟨i2, i1⟩, fun y hy => ?_⟩
      rcases List.mem_cons.1 hy with rfl | hy
      · omega
      · have := i2 y hy; omega
def keepB (x : RIt) : Bool := !(x.res && decide (x.own < 0))
theorem capRow_keep (i : Int) : ∀ (l : List RIt) (last : Int), (capRow i last l).filter keepB = l.filter keepB
  | [], last => rfl
  | x :: l, last => by
    have ih := capRow_keep i l x.q
    unfold capRow
    by_cases hc : decide (x.p > last) = true
    · rw [if_pos hc]
      have : keepB (capR i last x.p) = false := rfl
      rw [List.filter_cons, if_neg (by rw [this]; simp), List.filter_cons, List.filter_cons, ih]
    · rw [if_neg hc, List.filter_cons, List.filter_cons, ih]
theorem capRow_last (i : Int) : ∀ (l : List RIt) (last : Int), ∃ A e, capRow i last l = A ++ [capR i e (e + 1)] ∧ l.length ≤ A.length
  | [], last => ⟨[], last, rfl, Nat.le_refl _⟩
  | x :: l, last => by
    obtain ⟨A, e, h1, h2⟩ := capRow_last i l x.q
    unfold capRow
    by_cases hc : decide (x.p > last) = true
    · rw [if_pos hc, h1]; exact ⟨capR i last x.p :: x :: A, e, rfl, by simp; omega⟩
    · rw [if_neg hc, h1]; exact ⟨x :: A, e, rfl, by simpa using h2⟩
end
end Go.Proofs.Ytkmhabbpndcnkaa

/-
  PART: caps: the rows of a capped memory, plainly.
-/
namespace Go.Proofs.Ytkmhabbpndcnkaa
open Go.RowKit
noncomputable section
theorem chained_near : ∀ {l : List RIt} {x : RIt}, (∀ j, j + 1 < (x :: l).length → ((x :: l).getD j rz).q ≤ ((x :: l).getD (j + 1) rz).p ∧ ((x :: l).getD (j + 1) rz).p < ((x :: l).getD (j + 1) rz).q) → Chained x.q l
  | [], _, _ => trivial
  | y :: l, x, h => by
    have h0 := h 0 (by simp)
    exact ⟨h0.1, h0.2, chained_near fun j hj => h (j + 1) (by simpa using hj)⟩
/-- A location's row begins with what it began with. -/
theorem row_head {N : Nat} {L : List RIt} (h : GoodL N L) {i : Nat} (hi : i < N) : ∃ x l, rlist L i = x :: l ∧ x.p = 0 ∧ x.q = 0 ∧ Chained 0 l := by
  have hu := up_rlist i h
  obtain ⟨y0, m0, l0, q0, r0⟩ := h.start i hi
  have hmem := mem_rlist.2 ⟨m0, l0⟩
  have hnear : ∀ j, j + 1 < (rlist L i).length → ((rlist L i).getD j rz).q ≤ ((rlist L i).getD (j + 1) rz).p ∧ ((rlist L i).getD (j + 1) rz).p < ((rlist L i).getD (j + 1) rz).q := fun j hj => (near h i hj).2
  have hok : ∀ x ∈ rlist L i, okS x.p x.q = true := fun x hx => (h.may x (mem_rlist.1 hx).1).2.2.1
  generalize rlist L i = l at hu hmem hnear hok ⊢
  cases l with
  | nil => cases hmem
  | cons x l =>
    have hx := (okS_iff _ _).1 (hok x (List.mem_cons_self ..))
    have hq : x.q = 0 := by
      rcases List.mem_cons.1 hmem with rfl | hm
      · exact q0
      · have := (List.pairwise_cons.1 hu).1 y0 hm
        omega
    have hc := chained_near hnear
    rw [hq] at hc
    exact ⟨x, l, rfl, by omega, hq, hc⟩
theorem gapsR_head {x : RIt} {l : List RIt} (hp : x.p = 0) (hq : x.q = 0) : gapsR 0 (x :: l) = gapsR 0 l := by
  show (if decide (x.p > 0) = true then [0, x.p] :: gapsR x.q l else gapsR x.q l) = _
  rw [hp, if_neg (by decide), hq]
theorem rlist_cap {N : Nat} {L0 L' : List RIt} (h0 : GoodL N L0) (h' : GoodL N L') (h : refCap N L0 = some L') {i : Nat} (hi : i < N) : ∃ x l, rlist L0 i = x :: l ∧ x.p = 0 ∧ x.q = 0 ∧ Chained 0 l ∧ rlist L' i = x :: capRow i 0 l := by
  obtain ⟨x, l, e, hp, hq, hc⟩ := row_head h0 hi
  refine ⟨x, l, e, hp, hq, hc, ?_⟩
  obtain ⟨u1, u2⟩ := capRow_up i l 0 hc
  have hup : Up (x :: capRow i 0 l) := List.pairwise_cons.2 ⟨fun y hy => by have := u2 y hy; omega, u1⟩
  refine List.Perm.eq_of_pairwise (le := fun a b : RIt => a.q < b.q) (fun a b _ _ h1 h2 => by omega) (up_rlist i h') hup ?_
  refine (rlist_perm i L').trans ?_
  rw [at_cap h hi, e, gapsR_head hp hq]
  refine List.Perm.trans ?_ ((capRow_perm i l 0).cons x).symm
  have := (rlist_perm i L0).symm
  rw [e] at this
  exact this.append_right _
theorem cont_get : ∀ {R : List RIt} {e : Int}, Cont e R → ∀ j, j < R.length → (R.getD j rz).p = if j = 0 then e else (R.getD (j - 1) rz).q
  | [], e, _, j, hj => by simp at hj
  | x :: R, e, h, 0, _ => h.1
  | x :: R, e, h, j + 1, hj => by
    have ih := cont_get h.2 j (by simpa using hj)
    rw [if_neg (by omega)]
    show (R.getD j rz).p = _
    rw [ih]
    cases j with
    | zero => rfl
    | succ j => rfl
/-- What a capped row is like. -/
structure Full (l R : List RIt) : Prop where
  cont : ∀ j, j < R.length → (R.getD j rz).p = if j = 0 then 0 else (R.getD (j - 1) rz).q
  keep : R.filter keepB = l.filter keepB
  two : 2 ≤ R.length
  last : (R.getD (R.length - 1) rz).res = true
theorem full_of {N : Nat} {L0 L' : List RIt} (h0 : GoodL N L0) (h' : GoodL N L') (h : refCap N L0 = some L') {i : Nat} (hi : i < N) : Full (rlist L0 i) (rlist L' i) := by
  obtain ⟨x, l, e, hp, hq, hc, e'⟩ := rlist_cap h0 h' h hi
  have hcont : Cont 0 (x :: capRow i 0 l) := ⟨hp, by rw [hq]; exact capRow_cont i l 0 hc⟩
  obtain ⟨A, z, ea, ha⟩ := capRow_last i l 0
  rw [e, e']
  refine ⟨fun j hj => cont_get hcont j hj, ?_, ?_, ?_⟩
  · rw [List.filter_cons, List.filter_cons, capRow_keep]
  · rw [ea]; simp
  · rw [ea]
    have : (x :: (A ++ [capR i z (z + 1)])).getD ((x :: (A ++ [capR i z (z + 1)])).length - 1) rz = capR i z (z + 1) := by
      simp [List.getD]
    rw [this]; rfl
theorem filter_at {p : RIt → Bool} : ∀ {l : List RIt} {j : Nat}, j < l.length → p (l.getD j rz) = true → ((l.take j).filter p).length < (l.filter p).length ∧ (l.filter p).getD ((l.take j).filter p).length rz = l.getD j rz
  | [], j, h, _ => by simp at h
  | x :: l, 0, _, hp => by
    have hp : p x = true := hp
    simp [hp]
  | x :: l, j + 1, h, hp => by
    have ih := filter_at (l := l) (j := j) (by simpa using h) hp
    simp only [List.take_succ_cons, List.filter_cons]
    by_cases hx : p x = true
    · rw [if_pos hx, if_pos hx]
      exact ⟨by simpa using ih.1, by simpa using ih.2⟩
    · rw [if_neg hx, if_neg hx]
      exact ih
/-- Where there is no room. -/
theorem no_room {R : List RIt} {x : RIt} (hf : ∀ j, j < R.length → (R.getD j rz).p = if j = 0 then 0 else (R.getD (j - 1) rz).q) (ha : ∀ y ∈ R, apartR y x = true) (hx : okS x.p x.q = true) (hq : x.q ≠ 0) (hR : R ≠ []) : (R.getD (R.length - 1) rz).q ≤ x.p := by
  have hxo := (okS_iff _ _).1 hx
  have key : ∀ j, j < R.length → (R.getD j rz).q ≤ x.p := by
    intro j
    induction j with
    | zero =>
      intro hj
      have h1 := hf 0 hj
      have h2 := ha _ (getD_mem hj)
      simp only [apartR, rapartB, decide_eq_true_eq] at h2
      have h3 := (okS_iff _ _).1 h2.1
      rw [if_pos rfl] at h1
      omega
    | succ j ih =>
      intro hj
      have h0 := ih (by omega)
      have h1 := hf (j + 1) hj
      have h2 := ha _ (getD_mem hj)
      simp only [apartR, rapartB, decide_eq_true_eq] at h2
      have h3 := (okS_iff _ _).1 h2.1
      rw [if_neg (by omega)] at h1
      have h4 : (R.getD (j + 1) rz).p = (R.getD j rz).q := h1
      omega
  exact key _ (by have := List.length_pos_iff.2 hR; omega)
end
end Go.Proofs.Ytkmhabbpndcnkaa

/-
  PART: caps: the law CapFull, its pieces.
-/
namespace Go.Proofs.Ytkmhabbpndcnkaa
open Go.RowKit
noncomputable section
noncomputable def c10 : Code := codeOf Try.f10
noncomputable def res10 : St → Option AV := resF Try.prog Try.f10.results.toList
def args10 (U : List Int) (n : Nat) (X : Nat → RIt) (x : RIt) : List AV := [rowU U, rowX n X, .agg x.cells]
noncomputable def d10 : Code := behind 2 c10
noncomputable def e10 : Code := behind 4 d10
theorem code10 : c10 = seqs (firsts 2 c10) d10 := by kernel_rfl
theorem coded10 : d10 = seqs (firsts 4 d10) e10 := by kernel_rfl
noncomputable def a10 : Code := cl (cl e10)
noncomputable def body10 : Code := cin (cin (cr (cl e10)))
noncomputable def tail10 : Code := cr e10
theorem codee10 : e10 = .seq (.seq a10 (.block 0 (.loop body10))) tail10 := by kernel_rfl
noncomputable def blk10 : Code := cin (cl (cr body10))
noncomputable def nxt10 : Code := cr (cr body10)
theorem cbody10 : body10 = seqs [cl body10] (.seq (.block 1 blk10) nxt10) := by kernel_rfl
noncomputable def l1_10 : Code := cl (behind 3 blk10)   -- the first loop with what it begins with
noncomputable def rb10 : Code := cr (behind 3 blk10)
theorem cblk10 : blk10 = seqs (firsts 3 blk10) (.seq (.seq (cl l1_10) (.block 2 (.loop (cin (cin (cr l1_10)))))) rb10) := by kernel_rfl
noncomputable def l2_10 : Code := cl (behind 2 rb10)
noncomputable def end10 : Code := cr (behind 2 rb10)
theorem crb10 : rb10 = seqs (firsts 2 rb10) (.seq (.seq (cl l2_10) (.block 4 (.loop (cin (cin (cr l2_10)))))) end10) := by kernel_rfl
noncomputable def ib1_10 : Code := cin (cin (cr l1_10))
noncomputable def ib2_10 : Code := cin (cin (cr l2_10))
def hp10 (x : RIt) (m c : PM) : List (Nat × Option Blk) := [(0, some (.fix 96 x.cells)), (1, some (.fix 81 (memCells m))), (2, some (.fix 81 (memCells c)))]
def sl10 (U : List Int) : List (Nat × AV) := [(0, rowU U), (5, .ptr 0 0), (6, .lit (.bool false)), (7, .ptr 1 0), (10, .ptr 2 0)]
def ds10a : List (Nat × Bool) := [(0, false), (1, false), (5, false), (6, false)]
def ds10b : List (Nat × Bool) := [(0, false), (5, false), (6, false), (7, false), (10, false)]
def ds10c : List (Nat × Bool) := ds10b ++ [(12, true)]
def st10a (U : List Int) (n : Nat) (X : Nat → RIt) (x : RIt) : St := { sl := [(0, rowU U), (1, rowX n X), (5, .ptr 0 0), (6, .lit (.bool false))], hp := [(0, some (.fix 96 x.cells))], nx := 1, rd := [], wr := [], ws := [], wb := [] }
def st10b (U : List Int) (x : RIt) (m c : PM) : St := { sl := sl10 U, hp := hp10 x m c, nx := 3, rd := [], wr := [], ws := [], wb := [] }
def inv10 (U : List Int) (x : RIt) (m c : PM) (i : Int) : St := { sl := sl10 U ++ [(12, iv i)], hp := hp10 x m c, nx := 3, rd := [], wr := [], ws := [], wb := [] }
/-- The contracts of the law. -/
noncomputable def cxF (dec : List (Nat × Bool)) : Cx := cxC dec
section
variable (U : List Int) (n : Nat) (X : Nat → RIt) (x : RIt) (N : Nat) (L : List RIt) (m c : PM) (i : Int)
theorem ev10a : (codeE cxW3 (evs cxW3 60) (joins (firsts 2 c10)) (entry (args10 U n X x))).map (lfR 0 ds10a true res10) = .br (badU n U) (.ret (.out (.lit (.bool true)))) (.ret (.go .norm (some (st10a U n X x)))) := by kernel_rfl
theorem ev10b : (codeE (cxT U n X N L [(53, true), (56, true)]) (evs (cxT U n X N L [(53, true), (56, true)]) 60) (joins (firsts 4 d10)) (st10a U n X x)).map (lfR 0 ds10b true res10) =
    .side (rowU U = rowU U ∧ rowX n X = rowX n X) (.side (memA (pmOf N L) = memA (pmOf N L)) (.side ((capE N L != 0) = true) (.side ((capE N L == 4) = true) (.ret (.out (.lit (.bool true))))))) := by kernel_rfl
theorem ev10c : (codeE (cxT U n X N L [(53, false)]) (evs (cxT U n X N L [(53, false)]) 60) (joins (firsts 4 d10)) (st10a U n X x)).map (lfR 0 ds10b true res10) =
    .side (rowU U = rowU U ∧ rowX n X = rowX n X) (.side (memA (pmOf N L) = memA (pmOf N L)) (.side ((capE N L != 0) = false) (.ret (.go .norm (some (st10b U x (pmOf N L) (capPM N L))))))) := by kernel_rfl
theorem ev10d : (codeE (cxC []) (evs (cxC []) 60) a10 (st10b U x m c)).map (lfR 0 ds10c true res10) = .ret (.go .norm (some (inv10 U x m c 0))) := by kernel_rfl
theorem ev10e : (codeE (cxC []) (evs (cxC []) 60) (cl body10) (inv10 U x m c i)).map (lfR 0 ds10c true res10) = .br (decide (i < (U.length : Int))) (.ret (.go .norm (some (inv10 U x m c i)))) (.ret (.go (.exit 0) (some (inv10 U x m c i)))) := by kernel_rfl
end
end
end Go.Proofs.Ytkmhabbpndcnkaa

/-
  PART: caps: the law CapFull, its inner pieces.
-/
namespace Go.Proofs.Ytkmhabbpndcnkaa
open Go.RowKit
noncomputable section
def getK (Ks : List It) : Nat → List AV := fun j => (Ks.getD j itz).cells
/-- The first inner loop's states. -/
def pre10 (U : List Int) (x : RIt) (m c : PM) (i : Int) (all : List It) : St := { sl := sl10 U ++ [(12, iv i), (13, .lit (.slice none 0 0)), (14, rowI all), (15, iv 0)], hp := hp10 x m c, nx := 3, rd := [], wr := [], ws := [], wb := [] }
def pri10 (U : List Int) (x : RIt) (m c : PM) (i : Int) (all : List It) : St := { sl := sl10 U ++ [(12, iv i), (13, .lit (.slice none 0 0)), (14, rowI all), (15, iv 0), (16, iv 0)], hp := hp10 x m c, nx := 3, rd := [], wr := [], ws := [], wb := [] }
def prj10 (U : List Int) (x : RIt) (m c : PM) (i : Int) (all : List It) : St := { sl := sl10 U ++ [(12, iv i), (13, .own 3 0 13 false), (14, rowI all), (15, iv 0), (16, iv 0)], hp := hp10 x m c ++ [(3, some (.arr 102 0 13 fun _ => fit 13 []))], nx := 4, rd := [], wr := [], ws := [], wb := [] }
def in1_10 (U : List Int) (x : RIt) (m c : PM) (i : Int) (all : List It) (a : Nat) (g : Nat → List AV) (e j : Int) : St := { sl := sl10 U ++ [(12, iv i), (13, .own 3 a 13 false), (14, rowI all), (15, iv e), (16, iv j)], hp := hp10 x m c ++ [(3, some (.arr 102 a 13 g))], nx := 4, rd := [], wr := [], ws := [], wb := [] }
/-- The second's. -/
def mid10 (U : List Int) (x : RIt) (m c : PM) (i : Int) (all : List It) (a : Nat) (g : Nat → List AV) (was : List It) : St := { sl := sl10 U ++ [(12, iv i), (13, .own 3 a 13 false), (14, rowI all), (17, iv 0), (18, rowI was)], hp := hp10 x m c ++ [(3, some (.arr 102 a 13 g))], nx := 4, rd := [], wr := [], ws := [], wb := [] }
def in2_10 (U : List Int) (x : RIt) (m c : PM) (i : Int) (all : List It) (a : Nat) (g : Nat → List AV) (was : List It) (k j : Int) : St := { sl := sl10 U ++ [(12, iv i), (13, .own 3 a 13 false), (14, rowI all), (17, iv k), (18, rowI was), (19, iv j)], hp := hp10 x m c ++ [(3, some (.arr 102 a 13 g))], nx := 4, rd := [], wr := [], ws := [], wb := [] }
def ds10d : List (Nat × Bool) := ds10b ++ [(12, true), (13, false), (14, false), (15, true)]
def ds10e : List (Nat × Bool) := ds10d ++ [(16, true)]
def ds10f : List (Nat × Bool) := ds10b ++ [(12, true), (13, false), (14, false), (17, true), (18, false)]
def ds10g : List (Nat × Bool) := ds10f ++ [(19, true)]
section
variable (U : List Int) (x : RIt) (m c : PM) (i : Int) (all was : List It) (a : Nat) (Ks : List It) (e j k : Int)
theorem ev10f : (codeE (cxC []) (evs (cxC []) 60) (joins (firsts 3 blk10)) (inv10 U x m c i)).map (lfR 0 ds10d true res10) = .side (PmInR c) (.ret (.go .norm (some (pre10 U x m c i (listM (pmR c) i))))) := by kernel_rfl
theorem ev10g : (codeE (cxC []) (evs (cxC []) 60) (cl l1_10) (pre10 U x m c i all)).map (lfR 0 ds10e true res10) = .ret (.go .norm (some (pri10 U x m c i all))) := by kernel_rfl
theorem nil10 : St.nilOwn? 0 ds10e 13 102 13 (pri10 U x m c i all) = some (prj10 U x m c i all) := by kernel_rfl
theorem ev10h : (codeE (cxC []) (evs (cxC []) 60) (joins (firsts 2 rb10)) (in1_10 U x m c i all a (getK Ks) e j)).map (lfR 0 ds10f true res10) = .side (PmInR m) (.ret (.go .norm (some (mid10 U x m c i all a (getK Ks) (listM (pmR m) i))))) := by kernel_rfl
theorem ev10i : (codeE (cxC []) (evs (cxC []) 60) (cl l2_10) (mid10 U x m c i all a (getK Ks) was)).map (lfR 0 ds10g true res10) = .ret (.go .norm (some (in2_10 U x m c i all a (getK Ks) was 0 0))) := by kernel_rfl
end
noncomputable def rnA10 (dec : List (Nat × Bool)) (U : List Int) (x : RIt) (m c : PM) (i : Int) (all : List It) (a : Nat) (Ks : List It) (e j : Int) : Tree Lf := (codeE (cxC dec) (evs (cxC dec) 60) ib1_10 (in1_10 U x m c i all a (getK Ks) e j)).map (lfR 0 ds10e true res10)
noncomputable def rnB10 (dec : List (Nat × Bool)) (U : List Int) (x : RIt) (m c : PM) (i : Int) (all : List It) (a : Nat) (Ks : List It) (was : List It) (k j : Int) : Tree Lf := (codeE (cxC dec) (evs (cxC dec) 60) ib2_10 (in2_10 U x m c i all a (getK Ks) was k j)).map (lfR 0 ds10g true res10)
end
end Go.Proofs.Ytkmhabbpndcnkaa

/-
  PART: caps: the law CapFull, its rounds.
-/
namespace Go.Proofs.Ytkmhabbpndcnkaa
open Go.RowKit
noncomputable section
def sizeK (n : Nat) : Prop := n * Try.prog.bytesOf 102 ≤ maxAppend ∧ n ≤ maxAppend
def appK (a : Nat) (Ks : List It) (y : It) : Nat → List AV := fun i => mixC 13 (decide (i < a)) (getK Ks i) y.cells
section
variable (U : List Int) (x : RIt) (m c : PM) (i : Int) (all was : List It) (a : Nat) (Ks : List It) (e j k : Int)
theorem stopA10 : rnA10 [(71, false)] U x m c i all a Ks e j =
    .side (decide (j < (all.length : Int)) = false) ((.ret (.go (.exit 2) (some (in1_10 U x m c i all a (getK Ks) e j))))) := by kernel_rfl
theorem putA10 : rnA10 [(71, true),(81, false),(94, true)] U x m c i all a Ks e j =
    .side (decide (j < (all.length : Int)) = true) ( .side (ixL all j) ( .side (fOk (itA all j)) ( .side ((frU (itA all j) != e) = false) ( .side (ixL all j) ( .side (fOk (itA all j)) ( .side (ixL all j) ( .side ((!(itA all j).res) = true) ( .side (ixL all j) ( .side (sizeK (a + 1)) ((.ret (.go .norm (some (in1_10 U x m c i all (a + 1) (appK a Ks (itA all j)) (toU (itA all j)) (IntKind.i64.wrap (j + 1)))))))))))))))) := by kernel_rfl
theorem putB10 : rnA10 [(71, true),(81, false),(94, false),(101, true)] U x m c i all a Ks e j =
    .side (decide (j < (all.length : Int)) = true) ( .side (ixL all j) ( .side (fOk (itA all j)) ( .side ((frU (itA all j) != e) = false) ( .side (ixL all j) ( .side (fOk (itA all j)) ( .side (ixL all j) ( .side ((!(itA all j).res) = false) ( .side (ixL all j) ( .side (decide ((itA all j).own ≥ 0) = true) ( .side (ixL all j) ( .side (sizeK (a + 1)) ((.ret (.go .norm (some (in1_10 U x m c i all (a + 1) (appK a Ks (itA all j)) (toU (itA all j)) (IntKind.i64.wrap (j + 1)))))))))))))))))) := by kernel_rfl
theorem dropA10 : rnA10 [(71, true),(81, false),(94, false),(101, false)] U x m c i all a Ks e j =
    .side (decide (j < (all.length : Int)) = true) ( .side (ixL all j) ( .side (fOk (itA all j)) ( .side ((frU (itA all j) != e) = false) ( .side (ixL all j) ( .side (fOk (itA all j)) ( .side (ixL all j) ( .side ((!(itA all j).res) = false) ( .side (ixL all j) ( .side (decide ((itA all j).own ≥ 0) = false) ((.ret (.go .norm (some (in1_10 U x m c i all a (getK Ks) (toU (itA all j)) (IntKind.i64.wrap (j + 1)))))))))))))))) := by kernel_rfl
theorem stopB10 : rnB10 [(115, false)] U x m c i all a Ks was k j =
    .side (decide (j < (was.length : Int)) = false) ((.ret (.go (.exit 4) (some (in2_10 U x m c i all a (getK Ks) was k j))))) := by kernel_rfl
theorem skipB10 : rnB10 [(115, true),(123, true),(130, true)] U x m c i all a Ks was k j =
    .side (decide (j < (was.length : Int)) = true) ( .side (ixL was j) ( .side ((itA was j).res = true) ( .side (ixL was j) ( .side (decide ((itA was j).own < 0) = true) ((.ret (.go .norm (some (in2_10 U x m c i all a (getK Ks) was k (IntKind.i64.wrap (j + 1))))))))))) := by kernel_rfl
theorem hitB10 : rnB10 [(115, true),(123, false),(135, false),(145, false)] U x m c i all a Ks was k j =
    .side (decide (j < (was.length : Int)) = true) ( .side (ixL was j) ( .side ((itA was j).res = false) ( .side (decide (k ≥ (a : Int)) = false) ( .side (0 ≤ k ∧ k < (a : Int)) ( .side (k.toNat < a) ( .side (ixL was j) ( .side ((!eqI (itA Ks k) (itA was j)) = false) ((.ret (.go .norm (some (in2_10 U x m c i all a (getK Ks) was (IntKind.i64.wrap (k + 1)) (IntKind.i64.wrap (j + 1)))))))))))))) := by kernel_rfl
theorem hitC10 : rnB10 [(115, true),(123, true),(130, false),(135, false),(145, false)] U x m c i all a Ks was k j =
    .side (decide (j < (was.length : Int)) = true) ( .side (ixL was j) ( .side ((itA was j).res = true) ( .side (ixL was j) ( .side (decide ((itA was j).own < 0) = false) ( .side (decide (k ≥ (a : Int)) = false) ( .side (0 ≤ k ∧ k < (a : Int)) ( .side (k.toNat < a) ( .side (ixL was j) ( .side ((!eqI (itA Ks k) (itA was j)) = false) ((.ret (.go .norm (some (in2_10 U x m c i all a (getK Ks) was (IntKind.i64.wrap (k + 1)) (IntKind.i64.wrap (j + 1)))))))))))))))) := by kernel_rfl
theorem ev10j : (codeE (cxC [(152, false),(157, false),(166, false)]) (evs (cxC [(152, false),(157, false),(166, false)]) 60) end10 (in2_10 U x m c i all a (getK Ks) was k j)).map (lfR 0 ds10c true res10) =
    .side ((k != (a : Int)) = false) ( .side (decide ((all.length : Int) < 2) = false) ( .side (ixL all (IntKind.i64.wrap ((all.length : Int) - 1))) ( .side ((!(itA all (IntKind.i64.wrap ((all.length : Int) - 1))).res) = false) ((.ret (.go .norm (some (inv10 U x m c i)))))))) := by kernel_rfl
theorem ev10k : (codeE (cxC []) (evs (cxC []) 60) nxt10 (inv10 U x m c i)).map (lfR 0 ds10c true res10) =
    (.ret (.go .norm (some (inv10 U x m c (IntKind.i64.wrap (i + 1)))))) := by kernel_rfl
end
end
end Go.Proofs.Ytkmhabbpndcnkaa

/-
  PART: caps: the law CapFull, its end.
-/
namespace Go.Proofs.Ytkmhabbpndcnkaa
open Go.RowKit
noncomputable section
def tabR7 (f : Nat) (args : List AV) : Option (Tree AV) := match f, args with
  | 53, [] => some (.ret (.lit (.bool true)))
  | f, args => tabR6 f args
theorem tabR7_ok : TabFOk Try.prog tabR7 := by
  intro f args t a ht hh
  unfold tabR7 at ht
  split at ht
  · cases ht; cases hh; exact wakes53_frz
  · exact tabR6_ok _ _ _ _ ht hh
noncomputable def cxG7 (dec : List (Nat × Bool)) : Cx := ⟨Try.prog, ctrOf2 (opened tabM5) tabR7, decM dec⟩
theorem cxG7_ok (dec : List (Nat × Bool)) : CtrOk (cxG7 dec) := ctrOf2_ok (opened_ok tabM5_ok) tabR7_ok _
noncomputable def cxB7 (dec : List (Nat × Bool)) : Cx := ⟨Try.prog, ctrOf2 (opened tabM6) tabR7, decM dec⟩
theorem cxB7_ok (dec : List (Nat × Bool)) : CtrOk (cxB7 dec) := ctrOf2_ok (opened_ok tabM6_ok) tabR7_ok _
noncomputable def fin10 (cx : Cx) (U : List Int) (x : RIt) (m c : PM) (i : Int) : Tree Lf := (codeE cx (evs cx 60) tail10 (inv10 U x m c i)).map (lfR 0 [] false res10)
def xP (x : RIt) : RIt := ritOf x.cells
def yP (x : RIt) : It := toIt (xP x)
def adP (c : PM) (x : RIt) : PM × Int := addM (pmR c) (itOf (yP x).cells)
section
variable (U : List Int) (x : RIt) (m c : PM) (i : Int)
theorem no10 : fin10 (cxG7 [(176, false)]) U x m c i =
    .side (IsR x.cells ∧ okS (xP x).p (xP x).q = true) ( .side (PmInR c) ( .side (IsIt (yP x).cells) ( .side (((adP c x).2 == 0) = false) ((.ret (.out (.lit (.bool true)))))))) := by kernel_rfl
theorem yes10 : fin10 (cxG7 [(176, true), (184, true), (198, true), (203, true)]) U x m c i =
    .side (IsR x.cells ∧ okS (xP x).p (xP x).q = true) ( .side (PmInR c) ( .side (IsIt (yP x).cells) ( .side (((adP c x).2 == 0) = true) ( .side (PmInR c) ( .side (decide (((listM (pmR c) x.loc).length : Int) > 0) = true) ( .side (fOk (yP x)) ( .side (ixL (listM (pmR c) x.loc) (IntKind.i64.wrap (((listM (pmR c) x.loc).length : Int) - 1))) ( .side (fOk (itA (listM (pmR c) x.loc) (IntKind.i64.wrap (((listM (pmR c) x.loc).length : Int) - 1)))) ( .side (decide (frU (yP x) ≥ toU (itA (listM (pmR c) x.loc) (IntKind.i64.wrap (((listM (pmR c) x.loc).length : Int) - 1)))) = true) ( .side ((!(Op.floatEq .f64 (F (yP x).a) 0 && Op.floatEq .f64 (F (yP x).b) 0)) = true) ((.ret (.out (.lit (.bool true))))))))))))))) := by kernel_rfl
theorem bad10 : fin10 (cxB7 [(176, false)]) U x m c i =
    .side (IsR x.cells ∧ okS (xP x).p (xP x).q = false) ( .side (PmInR c) ( .side (badR (xP x) = badC (rawIt (badR (xP x)))) ( .side (((1 : Int) == 0) = false) ((.ret (.out (.lit (.bool true)))))))) := by kernel_rfl
end
end
end Go.Proofs.Ytkmhabbpndcnkaa

/-
  PART: caps: the law CapFull, its inner loops.
-/
namespace Go.Proofs.Ytkmhabbpndcnkaa
open Go.RowKit
noncomputable section
theorem mixI (c : Bool) (x y : It) : mixC 13 c x.cells y.cells = if c = true then x.cells else y.cells := by
  cases c <;> kernel_rfl
theorem appK_eq {Ks : List It} {y : It} {a : Nat} (ha : a = Ks.length) : ∀ i, i < a + 1 → appK a Ks y i = getK (Ks ++ [y]) i := fun i hi => by
  subst ha
  unfold appK getK
  rw [mixI]
  by_cases h : i < Ks.length
  · rw [if_pos (by simpa using h)]
    simp [List.getD, List.getElem?_append_left h]
  · have : i = Ks.length := by omega
    subst this
    rw [if_neg (by simp)]
    simp [List.getD]
theorem sizeK_of {n : Nat} (h : n ≤ 500) : sizeK n := by
  have e : Try.prog.bytesOf 102 ≤ 1000000 := Nat.le_of_ble_eq_true (by kernel_rfl)
  have : n * Try.prog.bytesOf 102 ≤ 500 * 1000000 := Nat.mul_le_mul h e
  have : (500 * 1000000 : Nat) ≤ maxAppend := by decide
  have : (500 : Nat) ≤ maxAppend := by decide
  exact ⟨by omega, by omega⟩
def endT (R : List RIt) (j : Nat) : Int := if j = 0 then 0 else (R.getD (j - 1) rz).q
structure KA where
  j : Nat
  Ks : List It
def JA (R : List RIt) (k : KA) : Prop := k.j ≤ R.length ∧ k.Ks = ((R.take k.j).filter keepB).map toIt
structure KB where
  j : Nat
  k : Nat
def JB (l : List RIt) (q : KB) : Prop := q.j ≤ l.length ∧ q.k = ((l.take q.j).filter keepB).length
theorem take_filter {p : RIt → Bool} {l : List RIt} {j : Nat} (h : j < l.length) : (l.take (j + 1)).filter p = (l.take j).filter p ++ if p (l.getD j rz) = true then [l.getD j rz] else [] := by
  have e : l.take (j + 1) = l.take j ++ [l.getD j rz] := by
    rw [List.take_add_one]
    simp [List.getD, h]
  rw [e, List.filter_append, List.filter_cons, List.filter_nil]
section
variable {U : List Int} {x : RIt} {m c : PM} {i : Int} {l R : List RIt} {B : Start}
def IA (U : List Int) (x : RIt) (m c : PM) (i : Int) (R : List RIt) (k : KA) : St := in1_10 U x m c i (R.map toIt) k.Ks.length (getK k.Ks) (endT R k.j) k.j
theorem itA_map {R : List RIt} {j : Nat} (h : j < R.length) : itA (R.map toIt) (j : Int) = toIt (R.getD j rz) := by
  unfold itA; rw [Int.toNat_natCast, toIt_getD h]
theorem pw {j : Nat} (h : j ≤ 100000) : IntKind.i64.wrap ((j : Int) + 1) = ((j + 1 : Nat) : Int) := by rw [IntWalk.i64_in _ (by omega)]; rfl
set_option maxRecDepth 100000 in
theorem roundA (hB : B.nx0 = 0) (hN : codeOk B.N ib1_10 = true) (hF : Full l R) (hok : ∀ y ∈ R, okS y.p y.q = true ∧ RVz y) (hlen : R.length ≤ 300) {O : AV → Prop} (k : KA) (hk : JA R k) :
    WpC Try.prog B ib1_10 (IA U x m c i R k) (Round B res10 (IA U x m c i R) (JA R) (fun k => R.length - k.j) 2 k (fun s => ∃ e j, s = in1_10 U x m c i (R.map toIt) ((R.filter keepB).map toIt).length (getK ((R.filter keepB).map toIt)) e j) O) := by
  obtain ⟨hj, hKs⟩ := hk
  have hal : (R.map toIt).length = R.length := List.length_map ..
  have hKl : k.Ks.length ≤ R.length := by
    rw [hKs, List.length_map]
    exact Nat.le_trans (List.length_filter_le _ _) (by rw [List.length_take]; omega)
  by_cases hlt : k.j < R.length
  · have hr := hok _ (getD_mem hlt)
    have hit := toIt_ok hr.1 hr.2
    have hy := itA_map hlt
    have c1 : decide ((k.j : Int) < ((R.map toIt).length : Int)) = true := by rw [hal]; exact decide_eq_true (by omega)
    have c2 : ixL (R.map toIt) k.j := ⟨by omega, by rw [hal]; omega⟩
    have c3 := it_fOk hit
    have c4 : (frU (toIt (R.getD k.j rz)) != endT R k.j) = false := by
      rw [frU_eq hit, show endS (toIt (R.getD k.j rz)).a (toIt (R.getD k.j rz)).b (toIt (R.getD k.j rz)).a = (R.getD k.j rz).p from from_toIt hr.1, hF.cont k.j hlt]
      exact ne_false rfl
    have c5 : toU (toIt (R.getD k.j rz)) = endT R (k.j + 1) := by
      rw [toU_eq hit, show endS (toIt (R.getD k.j rz)).a (toIt (R.getD k.j rz)).b (toIt (R.getD k.j rz)).b = (R.getD k.j rz).q from end_toIt hr.1]
      rfl
    have hw := pw (j := k.j) (by omega)
    have hm : R.length - (k.j + 1) < R.length - k.j := by omega
    have put : keepB (R.getD k.j rz) = true → RoundH B (IA U x m c i R) (JA R) (fun k => R.length - k.j) 2 k (fun s => ∃ e j, s = in1_10 U x m c i (R.map toIt) ((R.filter keepB).map toIt).length (getK ((R.filter keepB).map toIt)) e j) .norm
        (in1_10 U x m c i (R.map toIt) (k.Ks.length + 1) (appK k.Ks.length k.Ks (toIt (R.getD k.j rz))) (toU (toIt (R.getD k.j rz))) (IntKind.i64.wrap ((k.j : Int) + 1))) := fun hkeep => by
      rw [hw, c5]
      refine ⟨⟨k.j + 1, k.Ks ++ [toIt (R.getD k.j rz)]⟩, ?_, ⟨hlt, ?_⟩, hm⟩
      · have e : (k.Ks ++ [toIt (R.getD k.j rz)]).length = k.Ks.length + 1 := by simp
        unfold IA
        rw [e]
        exact hold_rows rfl rfl (.same (.same (.same (.row (appK_eq rfl) .nil))))
      · show k.Ks ++ _ = _
        rw [take_filter hlt, if_pos hkeep, List.map_append, ← hKs]; rfl
    cases hres : (R.getD k.j rz).res with
    | false =>
      refine wpc_endH (cx := cxC [(71, true), (81, false), (94, true)]) (n := 60) (ds := ds10e) (gb := true) (cxC_ok _) fitTry hN ?_
      rw [hB]
      show (rnA10 [(71, true), (81, false), (94, true)] U x m c i (R.map toIt) k.Ks.length k.Ks (endT R k.j) k.j).wp _
      rw [putA10, hy]
      exact ⟨c1, c2, c3, c4, c2, c3, c2, by show (!(R.getD k.j rz).res) = true; rw [hres]; rfl, c2, sizeK_of (by omega), put (by unfold keepB; rw [hres]; rfl)⟩
    | true =>
      by_cases ho : (R.getD k.j rz).own ≥ 0
      · refine wpc_endH (cx := cxC [(71, true), (81, false), (94, false), (101, true)]) (n := 60) (ds := ds10e) (gb := true) (cxC_ok _) fitTry hN ?_
        rw [hB]
        show (rnA10 [(71, true), (81, false), (94, false), (101, true)] U x m c i (R.map toIt) k.Ks.length k.Ks (endT R k.j) k.j).wp _
        rw [putB10, hy]
        exact ⟨c1, c2, c3, c4, c2, c3, c2, by show (!(R.getD k.j rz).res) = false; rw [hres]; rfl, c2, decide_eq_true ho, c2, sizeK_of (by omega), put (by unfold keepB; rw [hres, decide_eq_false (by omega)]; rfl)⟩
      · refine wpc_endH (cx := cxC [(71, true), (81, false), (94, false), (101, false)]) (n := 60) (ds := ds10e) (gb := true) (cxC_ok _) fitTry hN ?_
        rw [hB]
        show (rnA10 [(71, true), (81, false), (94, false), (101, false)] U x m c i (R.map toIt) k.Ks.length k.Ks (endT R k.j) k.j).wp _
        rw [dropA10, hy, hw, c5]
        refine ⟨c1, c2, c3, c4, c2, c3, c2, by show (!(R.getD k.j rz).res) = false; rw [hres]; rfl, c2, decide_eq_false ho, ⟨k.j + 1, k.Ks⟩, .refl _, ⟨hlt, ?_⟩, hm⟩
        show k.Ks = _
        rw [take_filter hlt, if_neg (by unfold keepB; rw [hres, decide_eq_true (by omega)]; simp), List.append_nil]; exact hKs
  · refine wpc_endH (cx := cxC [(71, false)]) (n := 60) (ds := ds10e) (gb := true) (cxC_ok _) fitTry hN ?_
    rw [hB]
    show (rnA10 [(71, false)] U x m c i (R.map toIt) k.Ks.length k.Ks (endT R k.j) k.j).wp _
    rw [stopA10]
    have e : k.j = R.length := by omega
    rw [e, List.take_length] at hKs
    exact ⟨by rw [hal]; exact decide_eq_false (by omega), rfl, _, .refl _, endT R k.j, k.j, by rw [hKs]⟩
def IB (U : List Int) (x : RIt) (m c : PM) (i : Int) (R l : List RIt) (q : KB) : St := in2_10 U x m c i (R.map toIt) ((l.filter keepB).map toIt).length (getK ((l.filter keepB).map toIt)) (l.map toIt) q.k q.j
set_option maxRecDepth 100000 in
theorem roundB (hB : B.nx0 = 0) (hN : codeOk B.N ib2_10 = true) (hok : ∀ y ∈ l, okS y.p y.q = true ∧ RVz y) (hlen : l.length ≤ 300) {O : AV → Prop} (q : KB) (hk : JB l q) :
    WpC Try.prog B ib2_10 (IB U x m c i R l q) (Round B res10 (IB U x m c i R l) (JB l) (fun q => l.length - q.j) 4 q (fun s => s = IB U x m c i R l ⟨l.length, (l.filter keepB).length⟩) O) := by
  obtain ⟨hj, hkk⟩ := hk
  have hal : (l.map toIt).length = l.length := List.length_map ..
  have hkl : q.k ≤ l.length := by rw [hkk]; exact Nat.le_trans (List.length_filter_le _ _) (by rw [List.length_take]; omega)
  by_cases hlt : q.j < l.length
  · have hr := hok _ (getD_mem hlt)
    have hit := toIt_ok hr.1 hr.2
    have hy := itA_map hlt
    have c1 : decide ((q.j : Int) < ((l.map toIt).length : Int)) = true := by rw [hal]; exact decide_eq_true (by omega)
    have c2 : ixL (l.map toIt) q.j := ⟨by omega, by rw [hal]; omega⟩
    have hw := pw (j := q.j) (by omega)
    have hwk := pw (j := q.k) (by omega)
    have hm : l.length - (q.j + 1) < l.length - q.j := by omega
    have hit2 : keepB (l.getD q.j rz) = true → decide ((q.k : Int) ≥ (((l.filter keepB).map toIt).length : Int)) = false ∧ (0 ≤ (q.k : Int) ∧ (q.k : Int) < (((l.filter keepB).map toIt).length : Int)) ∧ (q.k : Int).toNat < ((l.filter keepB).map toIt).length ∧ (!eqI (itA ((l.filter keepB).map toIt) q.k) (toIt (l.getD q.j rz))) = false := fun hkeep => by
      obtain ⟨f1, f2⟩ := filter_at hlt hkeep
      rw [← hkk] at f1 f2
      rw [itA_map f1, f2, eqI_self hit, List.length_map, Int.toNat_natCast]
      exact ⟨decide_eq_false (by omega), ⟨by omega, by omega⟩, f1, rfl⟩
    have next : keepB (l.getD q.j rz) = true → RoundH B (IB U x m c i R l) (JB l) (fun q => l.length - q.j) 4 q (fun s => s = IB U x m c i R l ⟨l.length, (l.filter keepB).length⟩) .norm
        (in2_10 U x m c i (R.map toIt) ((l.filter keepB).map toIt).length (getK ((l.filter keepB).map toIt)) (l.map toIt) (IntKind.i64.wrap ((q.k : Int) + 1)) (IntKind.i64.wrap ((q.j : Int) + 1))) := fun hkeep => by
      rw [hw, hwk]
      refine ⟨⟨q.j + 1, q.k + 1⟩, .refl _, ⟨hlt, ?_⟩, hm⟩
      show q.k + 1 = _
      rw [take_filter hlt, if_pos hkeep, List.length_append, ← hkk]; rfl
    cases hres : (l.getD q.j rz).res with
    | false =>
      have hkeep : keepB (l.getD q.j rz) = true := by unfold keepB; rw [hres]; rfl
      obtain ⟨d1, d2, d3, d4⟩ := hit2 hkeep
      refine wpc_endH (cx := cxC [(115, true), (123, false), (135, false), (145, false)]) (n := 60) (ds := ds10g) (gb := true) (cxC_ok _) fitTry hN ?_
      rw [hB]
      show (rnB10 [(115, true), (123, false), (135, false), (145, false)] U x m c i (R.map toIt) ((l.filter keepB).map toIt).length ((l.filter keepB).map toIt) (l.map toIt) q.k q.j).wp _
      rw [hitB10, hy]
      exact ⟨c1, c2, hres, d1, d2, d3, c2, d4, next hkeep⟩
    | true =>
      by_cases ho : (l.getD q.j rz).own < 0
      · refine wpc_endH (cx := cxC [(115, true), (123, true), (130, true)]) (n := 60) (ds := ds10g) (gb := true) (cxC_ok _) fitTry hN ?_
        rw [hB]
        show (rnB10 [(115, true), (123, true), (130, true)] U x m c i (R.map toIt) ((l.filter keepB).map toIt).length ((l.filter keepB).map toIt) (l.map toIt) q.k q.j).wp _
        rw [skipB10, hy, hw]
        refine ⟨c1, c2, hres, c2, decide_eq_true ho, ⟨q.j + 1, q.k⟩, .refl _, ⟨hlt, ?_⟩, hm⟩
        show q.k = _
        rw [take_filter hlt, if_neg (by unfold keepB; rw [hres, decide_eq_true ho]; simp), List.append_nil]; exact hkk
      · have hkeep : keepB (l.getD q.j rz) = true := by unfold keepB; rw [hres, decide_eq_false ho]; rfl
        obtain ⟨d1, d2, d3, d4⟩ := hit2 hkeep
        refine wpc_endH (cx := cxC [(115, true), (123, true), (130, false), (135, false), (145, false)]) (n := 60) (ds := ds10g) (gb := true) (cxC_ok _) fitTry hN ?_
        rw [hB]
        show (rnB10 [(115, true), (123, true), (130, false), (135, false), (145, false)] U x m c i (R.map toIt) ((l.filter keepB).map toIt).length ((l.filter keepB).map toIt) (l.map toIt) q.k q.j).wp _
        rw [hitC10, hy]
        exact ⟨c1, c2, hres, c2, decide_eq_false ho, d1, d2, d3, c2, d4, next hkeep⟩
  · refine wpc_endH (cx := cxC [(115, false)]) (n := 60) (ds := ds10g) (gb := true) (cxC_ok _) fitTry hN ?_
    rw [hB]
    show (rnB10 [(115, false)] U x m c i (R.map toIt) ((l.filter keepB).map toIt).length ((l.filter keepB).map toIt) (l.map toIt) q.k q.j).wp _
    rw [stopB10]
    have e : q.j = l.length := by omega
    rw [e, List.take_length] at hkk
    exact ⟨by rw [hal]; exact decide_eq_false (by omega), rfl, _, .refl _, by unfold IB; rw [e, hkk]⟩
end
end
end Go.Proofs.Ytkmhabbpndcnkaa

/-
  PART: caps: the law CapFull answers true.
-/
namespace Go.Proofs.Ytkmhabbpndcnkaa
open Go.RowKit
noncomputable section
section
variable {U : List Int} {x : RIt} {N : Nat} {L0 L' : List RIt} {B : Start}
theorem rows_ok {N : Nat} {L : List RIt} (h : BS N L) (i : Int) : (∀ y ∈ rlist L i, okS y.p y.q = true ∧ RVz y) ∧ (rlist L i).length ≤ 300 := by
  refine ⟨fun y hy => ?_, ?_⟩
  · have hm := (mem_rlist.1 hy).1
    exact ⟨(h.rel.good.may y hm).2.2.1, rel_vz h.rel y hm⟩
  · rw [length_rlist]
    have : (at_ L i).length ≤ L.length := List.length_filter_le _ _
    have := h.len
    omega
def Inv10 (U : List Int) (x : RIt) (N : Nat) (L0 L' : List RIt) (i : Nat) : St := inv10 U x (pmOf N L0) (pmOf N L') i
set_option maxRecDepth 100000 in
theorem block10 (hB : B.nx0 = 0) (hN : B.N = Try.f10.ntmps) (h0 : BS N L0) (h' : BS N L') (hc : refCap N L0 = some L') {i : Nat} (hi : i < N) :
    WpC Try.prog B blk10 (Inv10 U x N L0 L' i) fun e s => e = .norm ∧ s = Inv10 U x N L0 L' i := by
  have hF := full_of h0.rel.good h'.rel.good hc hi
  have hm0 := pmFitOf h0
  have hm' := pmFitOf h'
  obtain ⟨ok0, len0⟩ := rows_ok h0 i
  obtain ⟨ok', len'⟩ := rows_ok h' i
  have e0 : listM (pmOf N L0) i = (rlist L0 i).map toIt := h0.both.list i
  have e' : listM (pmOf N L') i = (rlist L' i).map toIt := h'.both.list i
  let O : AV → Prop := fun _ => False
  rw [cblk10]
  refine wpc_stageR (cx := cxC []) (n := 60) (ds := ds10d) (gb := true) (res := res10) (O := O) (cxC_ok _) fitTry (by simp [firsts]) (by rw [hN]; kernel_rfl) ?_ fun _ _ _ h => h.elim
  rw [hB]
  show ((codeE (cxC []) (evs (cxC []) 60) (joins (firsts 3 blk10)) (inv10 U x (pmOf N L0) (pmOf N L') i)).map (lfR 0 ds10d true res10)).wp _
  rw [ev10f, pmR_eq hm', e']
  refine ⟨pmInR hm', ?_⟩
  show WpC _ _ _ _ _
  refine wpc_ioloop (cx := cxC []) (n := 60) (ds := ds10e) (gb := true) (res := res10) (O := O) (cxC_ok _) fitTry (IA U x (pmOf N L0) (pmOf N L') i (rlist L' i)) (JA (rlist L' i)) (fun k => (rlist L' i).length - k.j) (fun s => ∃ e j, s = in1_10 U x (pmOf N L0) (pmOf N L') i ((rlist L' i).map toIt) (((rlist L' i).filter keepB).map toIt).length (getK (((rlist L' i).filter keepB).map toIt)) e j) (by rw [hN]; kernel_rfl) ?_ (fun k hk => roundA hB (by rw [hN]; kernel_rfl) hF ok' len' k hk) (fun _ _ _ h => h.elim) ?_
  · rw [hB]
    show ((codeE (cxC []) (evs (cxC []) 60) (cl l1_10) (pre10 U x (pmOf N L0) (pmOf N L') i ((rlist L' i).map toIt))).map (lfR 0 ds10e true res10)).wp _
    rw [ev10g]
    refine ⟨rfl, ⟨0, []⟩, ?_, ⟨Nat.zero_le _, rfl⟩⟩
    refine (nilOwn_le (by rw [hB]; exact nil10 U x (pmOf N L0) (pmOf N L') i ((rlist L' i).map toIt))).trans ?_
    exact hold_rows rfl rfl (.same (.same (.same (.row (fun j hj => absurd hj (Nat.not_lt_zero j)) .nil))))
  · rintro s ⟨e, j, rfl⟩
    rw [crb10]
    refine wpc_stageR (cx := cxC []) (n := 60) (ds := ds10f) (gb := true) (res := res10) (O := O) (cxC_ok _) fitTry (by simp [firsts]) (by rw [hN]; kernel_rfl) ?_ fun _ _ _ h => h.elim
    rw [hB]
    rw [ev10h, pmR_eq hm0, e0]
    refine ⟨pmInR hm0, ?_⟩
    show WpC _ _ _ _ _
    rw [hF.keep]
    refine wpc_ioloop (cx := cxC []) (n := 60) (ds := ds10g) (gb := true) (res := res10) (O := O) (cxC_ok _) fitTry (IB U x (pmOf N L0) (pmOf N L') i (rlist L' i) (rlist L0 i)) (JB (rlist L0 i)) (fun q => (rlist L0 i).length - q.j) (fun s => s = IB U x (pmOf N L0) (pmOf N L') i (rlist L' i) (rlist L0 i) ⟨(rlist L0 i).length, ((rlist L0 i).filter keepB).length⟩) (by rw [hN]; kernel_rfl) ?_ (fun k hk => roundB hB (by rw [hN]; kernel_rfl) ok0 len0 k hk) (fun _ _ _ h => h.elim) ?_
    · rw [hB]
      rw [ev10i]
      exact ⟨rfl, ⟨0, 0⟩, .refl _, ⟨Nat.zero_le _, rfl⟩⟩
    · rintro s rfl
      refine wpc_of_lfR (cx := cxC [(152, false), (157, false), (166, false)]) (n := 60) (ds := ds10c) (gb := true) (res := res10) (O := O) (cxC_ok _) fitTry (by rw [hN]; kernel_rfl) ?_ fun _ _ _ h => h.elim
      rw [hB]
      show ((codeE (cxC [(152, false), (157, false), (166, false)]) (evs (cxC [(152, false), (157, false), (166, false)]) 60) end10 (in2_10 U x (pmOf N L0) (pmOf N L') i ((rlist L' i).map toIt) (((rlist L0 i).filter keepB).map toIt).length (getK (((rlist L0 i).filter keepB).map toIt)) ((rlist L0 i).map toIt) ((rlist L0 i).filter keepB).length (rlist L0 i).length)).map (lfR 0 ds10c true res10)).wp _
      rw [ev10j]
      have htwo := hF.two
      have hw : IntKind.i64.wrap ((((rlist L' i).map toIt).length : Int) - 1) = (((rlist L' i).length - 1 : Nat) : Int) := by rw [List.length_map, IntWalk.i64_in _ (by omega)]; omega
      rw [hw, itA_map (by omega), List.length_map]
      refine ⟨ne_false rfl, decide_eq_false (by rw [List.length_map]; omega), ⟨by omega, by rw [List.length_map]; omega⟩, ?_, rfl, rfl⟩
      show (!((rlist L' i).getD ((rlist L' i).length - 1) rz).res) = false
      rw [hF.last]; rfl
set_option maxRecDepth 100000 in
theorem round10 (hB : B.nx0 = 0) (hN : B.N = Try.f10.ntmps) (hU : N = U.length) (h0 : BS N L0) (h' : BS N L') (hc : refCap N L0 = some L') {O : AV → Prop} (i : Nat) (hi : i ≤ N) :
    WpC Try.prog B body10 (Inv10 U x N L0 L' i) (Round B res10 (Inv10 U x N L0 L') (fun i => i ≤ N) (fun i => N - i) 0 i (fun s => s = Inv10 U x N L0 L' N) O) := by
  have hhi := h0.rel.hi
  rw [cbody10]
  refine wpc_stageR (cx := cxC []) (n := 60) (ds := ds10c) (gb := true) (res := res10) (O := O) (cxC_ok _) fitTry (by simp) (by rw [hN]; kernel_rfl) ?_ (fun s a h1 h2 => .inr (.inr ⟨rfl, a, h1, h2⟩))
  rw [hB]
  show ((codeE (cxC []) (evs (cxC []) 60) (cl body10) (inv10 U x (pmOf N L0) (pmOf N L') i)).map (lfR 0 ds10c true res10)).wp _
  rw [ev10e]
  refine ⟨fun hlt => ?_, fun hge => .inr (.inl ⟨rfl, _, .refl _, ?_⟩)⟩
  · have hlt : i < N := by have := of_decide_eq_true hlt; omega
    show WpC _ _ _ _ _
    refine wpc_seq (R1 := fun e s => e = .norm ∧ s = Inv10 U x N L0 L' i) (wpc_block (block10 hB hN h0 h' hc hlt) ?_ fun e s1 _ h => h) ?_ ?_
    · rintro s1 ⟨h, _⟩; cases h
    · rintro s1 ⟨_, rfl⟩
      refine wpc_endH (cx := cxC []) (n := 60) (ds := ds10c) (gb := true) (cxC_ok _) fitTry (by rw [hN]; kernel_rfl) ?_
      rw [hB]
      show ((codeE (cxC []) (evs (cxC []) 60) nxt10 (inv10 U x (pmOf N L0) (pmOf N L') i)).map (lfR 0 ds10c true res10)).wp _
      rw [ev10k, pw (by omega)]
      exact ⟨i + 1, .refl _, hlt, by show N - (i + 1) < N - i; omega⟩
    · rintro e s1 he ⟨h, _⟩; exact absurd h he
  · have e : i = N := by have := of_decide_eq_false hge; omega
    rw [e]; rfl
set_option maxRecDepth 100000 in
theorem tail10_ok (hB : B.nx0 = 0) (hN : B.N = Try.f10.ntmps) (h0 : BS N L0) (h' : BS N L') (hc : refCap N L0 = some L') (hx : RVz x) {R : Ex → St → Prop} {O : AV → Prop} (hO : O (.lit (.bool true))) (ho : ∀ s a, res10 s = some a → O a → R .ret s) : WpC Try.prog B tail10 (Inv10 U x N L0 L' N) R := by
  have hm' := pmFitOf h'
  have hin := pmInR hm'
  have ex : xP x = x := ritOf_cells hx
  have hxc : IsR x.cells := isR hx
  have hcode : codeOk B.N tail10 = true := by rw [hN]; kernel_rfl
  cases hs : okS x.p x.q with
  | false =>
    refine wpc_of_lfR (cx := cxB7 [(176, false)]) (n := 60) (ds := []) (gb := false) (res := res10) (O := O) (cxB7_ok _) fitTry hcode ?_ ho
    rw [hB]
    show (fin10 (cxB7 [(176, false)]) U x (pmOf N L0) (pmOf N L') N).wp _
    rw [bad10]
    exact ⟨⟨hxc, by rw [ex]; exact hs⟩, hin, rfl, rfl, hO⟩
  | true =>
    have hit := toIt_ok hs hx
    have ey : yP x = toIt x := by unfold yP; rw [ex]
    obtain ⟨e1, _⟩ := h'.add hs hx
    have ea : adP (pmOf N L') x = (pmOf N (refAdd N L' x).1, (refAdd N L' x).2) := by unfold adP; rw [pmR_eq hm', ey, itOf_cells hit, e1]
    by_cases hadd : (refAdd N L' x).2 = 0
    · have hb : refBad N x = false ∧ (at_ L' x.loc).any (fun y => !apartR y x) = false := by
        unfold refAdd at hadd
        split at hadd
        · exact absurd hadd (by decide : ¬ (1 : Int) = 0)
        · rename_i h1
          split at hadd
          · exact absurd hadd (by decide : ¬ (5 : Int) = 0)
          · rename_i h2
            exact ⟨by simpa using h1, by simpa using h2⟩
      have hloc : 0 ≤ x.loc ∧ x.loc < (N : Int) ∧ x.q ≠ 0 := by
        have := hb.1
        unfold refBad at this
        simp only [Bool.or_eq_false_iff, decide_eq_false_iff_not, beq_eq_false_iff_ne] at this
        omega
      obtain ⟨i, hi⟩ : ∃ i : Nat, x.loc = (i : Int) := ⟨x.loc.toNat, by omega⟩
      have hiN : i < N := by omega
      have hF := full_of h0.rel.good h'.rel.good hc hiN
      obtain ⟨ok', len'⟩ := rows_ok h' (i : Int)
      have htwo := hF.two
      have hlast := no_room (x := x) hF.cont (fun y hy => by
        have hm := (rlist_perm (i : Int) L').mem_iff.1 hy
        have h2 := List.any_eq_false.1 hb.2 y (by rw [hi]; exact hm)
        simpa using h2) hs hloc.2.2 (by intro h; rw [h] at htwo; simp at htwo)
      have el : listM (pmOf N L') x.loc = (rlist L' i).map toIt := by rw [hi]; exact h'.both.list i
      have hw : IntKind.i64.wrap ((((rlist L' i).map toIt).length : Int) - 1) = (((rlist L' i).length - 1 : Nat) : Int) := by rw [List.length_map, IntWalk.i64_in _ (by omega)]; omega
      have hzl := ok' _ (getD_mem (show (rlist L' i).length - 1 < (rlist L' i).length by omega))
      have hzit := toIt_ok hzl.1 hzl.2
      refine wpc_of_lfR (cx := cxG7 [(176, true), (184, true), (198, true), (203, true)]) (n := 60) (ds := []) (gb := false) (res := res10) (O := O) (cxG7_ok _) fitTry hcode ?_ ho
      rw [hB]
      show (fin10 (cxG7 [(176, true), (184, true), (198, true), (203, true)]) U x (pmOf N L0) (pmOf N L') N).wp _
      rw [yes10, ea, ey, pmR_eq hm', el, hw, itA_map (by omega)]
      refine ⟨⟨hxc, by rw [ex]; exact hs⟩, hin, isIt hit, (eq0_of hadd).2, hin, decide_eq_true (by rw [List.length_map]; omega), it_fOk hit, ⟨by omega, by rw [List.length_map]; omega⟩, it_fOk hzit, ?_, ?_, hO⟩
      · rw [frU_eq hit, toU_eq hzit, show endS (toIt x).a (toIt x).b (toIt x).a = x.p from from_toIt hs, show endS (toIt ((rlist L' i).getD ((rlist L' i).length - 1) rz)).a (toIt ((rlist L' i).getD ((rlist L' i).length - 1) rz)).b (toIt ((rlist L' i).getD ((rlist L' i).length - 1) rz)).b = ((rlist L' i).getD ((rlist L' i).length - 1) rz).q from end_toIt hzl.1]
        exact decide_eq_true hlast
      · have hxo := (okS_iff _ _).1 hs
        have hb0 : (toIt x).b ≠ 0 := by show x.q.toNat ≠ 0; omega
        have e2 : Op.floatEq .f64 (F (toIt x).b) 0 = false := (show Op.floatEq .f64 (F (toIt x).b) 0 = eqF (F (toIt x).b) 0 from rfl).trans ((eqF_zero hit.2.1).trans (decide_eq_false hb0))
        rw [e2]; simp
    · refine wpc_of_lfR (cx := cxG7 [(176, false)]) (n := 60) (ds := []) (gb := false) (res := res10) (O := O) (cxG7_ok _) fitTry hcode ?_ ho
      rw [hB]
      show (fin10 (cxG7 [(176, false)]) U x (pmOf N L0) (pmOf N L') N).wp _
      rw [no10, ea, ey]
      exact ⟨⟨hxc, by rw [ex]; exact hs⟩, hin, isIt hit, (ne0_of hadd).2, hO⟩
end
end
end Go.Proofs.Ytkmhabbpndcnkaa

/-
  PART: caps: the law CapFull, its run.
-/
namespace Go.Proofs.Ytkmhabbpndcnkaa
open Go.RowKit
noncomputable section
set_option maxRecDepth 100000 in
theorem full_frz (U : List Int) (n : Nat) {X : Nat → RIt} {x : RIt} (hX : ∀ i, RVz (X i)) (hx : RVz x) : FrzOk Try.prog 10 (args10 U n X x) (.lit (.bool true)) := by
  let O : AV → Prop := fun a' => ∀ E v, Rep E a' v → Rep E (.lit (.bool true)) v
  have hO : O (.lit (.bool true)) := fun E v hv => hv
  refine frz_of_ends fitTry Try.func10 (c := c10) (by kernel_rfl) (Nat.le_of_ble_eq_true (by kernel_rfl)) (O := O) (fun E w hd hf => ?_) fun a' h => h
  rw [code10]
  refine wpc_stageR (cx := cxW3) (n := 60) (ds := ds10a) (gb := true) (res := res10) (O := O) cxW3_ok fitTry (by simp [firsts]) (by kernel_rfl) ?_ ends_ret
  show ((codeE cxW3 (evs cxW3 60) (joins (firsts 2 c10)) (entry (args10 U n X x))).map (lfR 0 ds10a true res10)).wp _
  rw [ev10a]
  refine ⟨fun _ => hO, fun hbad => ?_⟩
  have hlen : n ≤ 150 ∧ 1 ≤ U.length ∧ U.length ≤ 4 := by
    unfold badU at hbad
    split at hbad
    · cases hbad
    · rename_i h1
      split at hbad
      · cases hbad
      · rename_i h2
        have h3 := of_decide_eq_false hbad
        simp at h1 h2
        omega
  show WpC _ _ _ _ _
  have hb := made_BS hlen.2.1 hlen.2.2 hX n
  rw [coded10]
  cases hc : refCap U.length (madeL U X n) with
  | none =>
    have hE : capE U.length (madeL U X n) = 4 := by unfold capE; rw [hc]; rfl
    refine wpc_stageR (cx := cxT U n X U.length (madeL U X n) [(53, true), (56, true)]) (n := 60) (ds := ds10b) (gb := true) (res := res10) (O := O) (cxT_ok hlen.2.1 hlen.2.2 hX hlen.1 _) fitTry (by simp [firsts]) (by kernel_rfl) ?_ ends_ret
    show ((codeE (cxT U n X U.length (madeL U X n) [(53, true), (56, true)]) (evs (cxT U n X U.length (madeL U X n) [(53, true), (56, true)]) 60) (joins (firsts 4 d10)) (st10a U n X x)).map (lfR 0 ds10b true res10)).wp _
    rw [ev10b, hE]
    exact ⟨⟨rfl, rfl⟩, rfl, rfl, rfl, hO⟩
  | some L' =>
    have hE : capE U.length (madeL U X n) = 0 := by unfold capE; rw [hc]; rfl
    have hP : capPM U.length (madeL U X n) = pmOf U.length L' := by unfold capPM; rw [hc]; rfl
    have hb' : BS U.length L' := by
      have := capRL_BS hb
      unfold capRL at this
      rw [hc] at this
      exact this
    refine wpc_stageR (cx := cxT U n X U.length (madeL U X n) [(53, false)]) (n := 60) (ds := ds10b) (gb := true) (res := res10) (O := O) (cxT_ok hlen.2.1 hlen.2.2 hX hlen.1 _) fitTry (by simp [firsts]) (by kernel_rfl) ?_ ends_ret
    show ((codeE (cxT U n X U.length (madeL U X n) [(53, false)]) (evs (cxT U n X U.length (madeL U X n) [(53, false)]) 60) (joins (firsts 4 d10)) (st10a U n X x)).map (lfR 0 ds10b true res10)).wp _
    rw [ev10c, hE, hP]
    refine ⟨⟨rfl, rfl⟩, rfl, rfl, ?_⟩
    show WpC _ _ _ _ _
    rw [codee10]
    refine wpc_ioloop (cx := cxC []) (n := 60) (ds := ds10c) (gb := true) (res := res10) (O := O) (cxC_ok _) fitTry (Inv10 U x U.length (madeL U X n) L') (fun i => i ≤ U.length) (fun i => U.length - i) (fun s => s = Inv10 U x U.length (madeL U X n) L' U.length) (by kernel_rfl) ?_ (fun i hi => round10 rfl rfl rfl hb hb' hc i hi) ends_ret ?_
    · show ((codeE (cxC []) (evs (cxC []) 60) a10 (st10b U x (pmOf U.length (madeL U X n)) (pmOf U.length L'))).map (lfR 0 ds10c true res10)).wp _
      rw [ev10d]
      exact ⟨rfl, 0, .refl _, Nat.zero_le _⟩
    · rintro s rfl
      exact tail10_ok rfl rfl hb hb' hc hx hO ends_ret
def ksFull : List (Bool × List Ck) := [(false, [.row [.int .u64]]), (false, [.row ksItem]), (true, ksItem)]
theorem args_full {al : List AV} (h : ArgsOk ksFull al) : ∃ (U : List Int) (n : Nat) (X : Nat → RIt) (x : RIt), (∀ i, RVz (X i)) ∧ RVz x ∧ ∀ E vs, Reps E al vs → Reps E (args10 U n X x) vs := by
  unfold ksFull at h
  cases h with | cons h0 t => cases t with | cons h1 t => cases t with | cons h2 t => cases t with | nil =>
  obtain ⟨l2, rfl, h2⟩ := h2
  cases h0 with | cons h0 t0 => cases t0 with | nil =>
  cases h1 with | cons h1 t1 => cases t1 with | nil =>
  cases h0 with
  | row _ n0 g0 hn0 hs0 =>
    cases h1 with
    | row _ n1 g1 hn1 hs1 =>
      refine ⟨uOf n0 g0, n1, fun i => ritOf (g1 i), ritOf l2, fun i => rvz_ritOf _, rvz_ritOf _, fun E vs hv => ?_⟩
      cases hv with | cons r0 t => cases t with | cons r1 t => cases t with | cons r2 t =>
      exact .cons (rowU_of (fun i hi => u1_of (hs0 i hi)) r0) (.cons (r1.sl_congr fun i hi => item_of (hs1 i hi)) (.cons (by rw [← item_of h2]; exact r2) t))
theorem args10_eq : argShs Try.prog 6 Try.f10.params.toList = some ksFull := by kernel_rfl
theorem law10_runs : LawRuns Try.prog 10 ksFull := runs_of_frz fitTry Try.func10 (c := c10) (by kernel_rfl) fun al hok => by
  obtain ⟨U, n, X, x, hX, hx, hA⟩ := args_full hok
  exact ⟨_, hA, full_frz U n hX hx⟩
end
end Go.Proofs.Ytkmhabbpndcnkaa
