/-
  PART: law 13 (TviewPlays): the table of both texts; a round.
-/
import Derived.Test.YtkmhabbpndcnkaaPE
import Derived.Test.YtkmhabbpndcnkaaPB
namespace Go.Proofs.Ytkmhabbpndcnkaa
open Go.RowKit
/-- No cell below 0. -/
def LL (n : Nat) (f : Nat → Int) (i : Nat) : Int := ((List.range n).map f).getD i 0
theorem LL_eq {n : Nat} (f : Nat → Int) {i : Nat} (hi : i < n) : LL n f i = f i := by
  unfold LL
  simp [List.getD, hi]
def tabU (f : Nat) (args : List AV) : Option (Tree AV) := match f, args with
  | 28, [a, b, c] => match viewsC a, byteC b, rowC c with
    | some x, some md, some s => some (.ret (fenceA x s md))
    | _, _, _ => none
  | 29, [a, b, c, d, e] => match viewsC a, intC b, intC c, byteC d, viewC e with
    | some x, some l, some t, some md, some m => some (.side (∀ j, j < 48 → 0 ≤ x j) (.ret (writeGA x m l t md)))
    | _, _, _, _, _ => none
  | 30, [a, b, c, d, e] => match viewsC a, intC b, intC c, byteC d, viewC e with
    | some x, some l, some t, some md, some m => some (.side (∀ j, j < 48 → 0 ≤ x j) (.ret (readA x m l t md)))
    | _, _, _, _, _ => none
  | f, args => tabT f args
theorem tabU_ok : TabOk Try.prog tabU := by
  intro f args t a ht hh
  unfold tabU at ht
  split at ht
  · split at ht
    · rename_i h1 h2 h3
      cases ht; cases hh
      refine (rfence_pure _ _ _).pre fun E vs h => ?_
      cases h with | cons q1 h => cases h with | cons q2 h => cases h with | cons q3 h => cases h with | nil =>
      exact .cons (viewsC_ok h1 q1) (.cons (byteC_ok h2 q2) (.cons (rowC_ok h3 q3) .nil))
    · cases ht
  · split at ht
    · rename_i h1 h2 h3 h4 h5
      cases ht
      obtain ⟨hp, hh⟩ := hh
      cases hh
      refine (rwrite_pure _ _ _ _ _ hp).pre fun E vs h => ?_
      cases h with | cons q1 h => cases h with | cons q2 h => cases h with | cons q3 h => cases h with | cons q4 h => cases h with | cons q5 h => cases h with | nil =>
      exact .cons (viewsC_ok h1 q1) (.cons (intC_ok h2 q2) (.cons (intC_ok h3 q3) (.cons (byteC_ok h4 q4) (.cons (viewC_ok h5 q5) .nil))))
    · cases ht
  · split at ht
    · rename_i h1 h2 h3 h4 h5
      cases ht
      obtain ⟨hp, hh⟩ := hh
      cases hh
      refine (rread_pure _ _ _ _ _ hp).pre fun E vs h => ?_
      cases h with | cons q1 h => cases h with | cons q2 h => cases h with | cons q3 h => cases h with | cons q4 h => cases h with | cons q5 h => cases h with | nil =>
      exact .cons (viewsC_ok h1 q1) (.cons (intC_ok h2 q2) (.cons (intC_ok h3 q3) (.cons (byteC_ok h4 q4) (.cons (viewC_ok h5 q5) .nil))))
    · cases ht
  · exact tabT_ok _ _ _ _ ht hh
noncomputable def cxU (dec : Nat → Option Bool) : Cx := ⟨Try.prog, ctrOf tabU, dec⟩
theorem cxU_ok (dec : Nat → Option Bool) : CtrOk (cxU dec) := (ctrOf_ok tabU_ok).withDec dec
noncomputable def c6 : Code := codeOf Try.f6
noncomputable def body6 : Code := cin (cin (cr (cl (behind 5 c6))))
section
variable (n : Nat) (d md lo to : Nat → Int) (M : Nat → Nat → Int)
def inv6 (f s : Nat → Int) (i : Int) : St :=
  { sl := [(0, .sl n 12 (acts d md lo to M) false false), (3, .ptr 0 0), (4, .ptr 1 0), (5, .ptr 2 0), (6, .ptr 3 0), (7, iv i)],
    hp := [(0, some (.fix 37 (ivs 48 f))), (1, some (.fix 51 (ivs 48 f))), (2, some (.fix 22 (ivs 4 s))), (3, some (.fix 22 (ivs 4 s)))], nx := 4, rd := [], wr := [], ws := [], wb := [] }
def ds6 : List (Nat × Bool) := [(0, false), (3, false), (4, false), (5, false), (6, false), (7, true)]
def nF (f s : Nat → Int) (d md l t : Int) (m : Nat → Int) (j : Nat) : Int := if (d == 0) = true then fenceE f s md j else if (d == 1) = true then writeGE f l t md j else readE f m l t md j
def nS (f s : Nat → Int) (d md : Int) (j : Nat) : Int := if (d == 0) = true then fenceS f s md j else s j
def nB (f : Nat → Int) (d md l t : Int) : Bool := if (d == 0) = true then !noFence md else if (d == 1) = true then writeGB f l t md else readB f l t md
def sideA (f : Nat → Int) (d md l t : Int) (m : Nat → Int) : Prop :=
  (d == 0) = false → ((d == 1) = true → (∀ j, j < 48 → 0 ≤ LL 48 f j) ∧ (!eqv (sentGE f m l t md) (sentGE f m l t md) 0) = false) ∧ ((d == 1) = false → ∀ j, j < 48 → 0 ≤ LL 48 f j)
def sideB (g s2 : Nat → Int) (b : Bool) : Bool := if (!(b == b)) = true then true else if (!eqvs g g) = true then true else !eq4 s2 s2 0
def decU : Nat → Option Bool := decL [(111, false), (125, false)]
def tree6 (f s : Nat → Int) (i : Nat) : Tree Lf :=
  .br (decide ((i : Int) < (n : Int))) (.side (0 ≤ (i : Int) ∧ (i : Int) < (n : Int)) (.side (sideA f (d i) (md i) (lo i) (to i) (M i))
      (.side (sideB (nF f s (d i) (md i) (lo i) (to i) (M i)) (nS f s (d i) (md i)) (nB f (d i) (md i) (lo i) (to i)) = false)
        (.ret (.go .norm (some (inv6 n d md lo to M (nF f s (d i) (md i) (lo i) (to i) (M i)) (nS f s (d i) (md i)) (IntKind.i64.wrap ((i : Int) + 1)))))))))
    (.ret (.go (.exit 0) (some (inv6 n d md lo to M f s i))))
theorem round6 (f s : Nat → Int) (i : Nat) : (codeE (cxU decU) (evs (cxU decU) 60) body6 (inv6 n d md lo to M f s i)).map (lfOf 0 ds6 true 2) = tree6 n d md lo to M f s i := by kernel_rfl
end
end Go.Proofs.Ytkmhabbpndcnkaa
