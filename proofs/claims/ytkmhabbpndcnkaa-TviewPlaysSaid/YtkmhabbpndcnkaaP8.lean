/-
  PART: law 13's loop (TviewGrows): what a round does.
-/
import Derived.Test.YtkmhabbpndcnkaaP7
import Derived.Test.YtkmhabbpndcnkaaNX
namespace Go.Proofs.Ytkmhabbpndcnkaa
open Go.RowKit
noncomputable def c5 : Code := codeOf Try.f5
noncomputable def body5 : Code := cin (cin (cr (cl (behind 5 c5))))
structure K5 where
  f : Nat → Int
  s : Nat → Int
  kn : Nat → Int
  i : Nat
section
variable (n : Nat) (d md lo to : Nat → Int) (M : Nat → Nat → Int)
def acts (i : Nat) : List AV := [.v (.int .u8 (d i)), .v (.int .u8 (md i)), iv (lo i), iv (to i)] ++ ivs 8 (M i)
def inv5 (f s kn : Nat → Int) (i : Int) : St :=
  { sl := [(0, .sl n 12 (acts d md lo to M) false false), (3, .ptr 0 0), (4, .ptr 1 0), (5, .ptr 2 0), (6, iv i)],
    hp := [(0, some (.fix 37 (ivs 48 f))), (1, some (.fix 22 (ivs 4 s))), (2, some (.fix 22 (ivs 4 kn)))], nx := 3, rd := [], wr := [], ws := [], wb := [] }
def ds5 : List (Nat × Bool) := [(0, false), (3, false), (4, false), (5, false), (6, true)]
def outF : Tree Lf := .ret (.out (.lit (.bool false)))
def knF (kn : Nat → Int) (l t : Int) (j : Nat) : Int := if decide (l = ((j : Nat) : Int)) = true then (if t > pick4 l kn 0 then t else pick4 l kn 0) else kn j
def eqv (f g : Nat → Int) (o : Nat) : Bool := eq4 f g o && eq4 f g (o + 4)
def eqvs (f g : Nat → Int) : Bool := eqv f g 0 && (eqv f g 8 && (((eqv f g 16 && eqv f g 24) && eqv f g 32) && eqv f g 40))
def bad0 (f g sent s s2 : Nat → Int) (is : Bool) : Bool :=
  if (!mayVE g) = true then true else if (!withinB (part f 0) (part g 0)) = true then true else if (!withinB (part f 8) (part g 8)) = true then true else if (!mayB sent) = true then true
  else if (!is) = true then (if (!eqvs g f) = true then true else !eq4 s2 s 0) else false
def bad1 (f g s s2 : Nat → Int) (k : Nat) : Bool := if (!withinB (part f (16 + 8 * k)) (part g (16 + 8 * k))) = true then true else decide (s2 k < s k)
def learns (is : Bool) (d md : Int) : Bool := if is = true then (if (d == 1) = true then true else if decide (d > 1) = true then md != 1 else false) else false
/-- What is asked behind an act. -/
def checks (f g sent s s2 kn : Nat → Int) (is : Bool) (d md l t i : Int) (mk : (Nat → Int) → (Nat → Int) → (Nat → Int) → Int → Tree Lf) : Tree Lf :=
  .br (bad0 f g sent s s2 is) outF (.br (bad1 f g s s2 0) outF (.br (bad1 f g s s2 1) outF (.br (bad1 f g s s2 2) outF (.br (bad1 f g s s2 3) outF
    (.side (learns is d md = true → (0 ≤ l ∧ l < 4) ∧ (0 ≤ l ∧ l < 4) ∧ (0 ≤ l ∧ l < 4) ∧ 0 ≤ l ∧ l < 4)
      (.br (learns is d md) (.br (decide (pick4 l g 0 < pick4 l (knF kn l t) 0)) outF (mk g s2 (knF kn l t) i)) (mk g s2 kn i)))))))
def goes (f s kn : Nat → Int) (i : Int) : Tree Lf := .ret (.go .norm (some (inv5 n d md lo to M f s kn (IntKind.i64.wrap (i + 1)))))
def tree5 (f s kn : Nat → Int) (i : Nat) : Tree Lf :=
  .br (decide ((i : Int) < (n : Int))) (.side (0 ≤ (i : Int) ∧ (i : Int) < (n : Int)) (.br (!mayB (M i)) (goes n d md lo to M f s kn i)
    (.side ((d i == 0) = false → (d i == 1) = false → readB f (lo i) (to i) (md i) = true → 0 ≤ lo i ∧ lo i < 4)
      (.br (d i == 0) (checks f (fenceE f s (md i)) (fun _ => 0) s (fenceS f s (md i)) kn (!noFence (md i)) (d i) (md i) (lo i) (to i) i (goes n d md lo to M))
        (.br (d i == 1) (checks f (writeGE f (lo i) (to i) (md i)) (sentGE f (M i) (lo i) (to i) (md i)) s s kn (writeGB f (lo i) (to i) (md i)) (d i) (md i) (lo i) (to i) i (goes n d md lo to M))
          (.br (if readB f (lo i) (to i) (md i) = true then decide (to i < pick4 (lo i) kn 0) else false) outF
            (checks f (readE f (M i) (lo i) (to i) (md i)) (fun _ => 0) s s kn (readB f (lo i) (to i) (md i)) (d i) (md i) (lo i) (to i) i (goes n d md lo to M))))))))
    (.ret (.go (.exit 0) (some (inv5 n d md lo to M f s kn i))))
theorem round5 (f s kn : Nat → Int) (i : Nat) : (codeE cxT (evs cxT 60) body5 (inv5 n d md lo to M f s kn i)).map (lfOf 0 ds5 true 2) = tree5 n d md lo to M f s kn i := by kernel_rfl
end
end Go.Proofs.Ytkmhabbpndcnkaa
