/-
  PART: law 9 (SpanOrder): the law's run.
-/
import Derived.Test.YtkmhabbpndcnkaaQ5
import Derived.IntWalk
namespace Go.Proofs.Ytkmhabbpndcnkaa
open Go.RowKit
def I2 (x y : Nat) : Prop := IsF x ∧ IsF y
def I4 (x y z w : Nat) : Prop := I2 x y ∧ I2 z w
def zeq (x y : Nat) : Bool := eqF x 0 && eqF y 0
def apF (x y z w : Nat) : Bool := apartS (unF x) (unF y) (unF z) (unF w)
def toF (x y z w : Nat) : Bool := touchS (unF x) (unF y) (unF z) (unF w)
def coF (x y z w : Nat) : Int := compS (unF x) (unF y) (unF z) (unF w)
def enF (x y z : Nat) : Int := endS (unF x) (unF y) (unF z)
section
variable (x0 x1 y0 y1 z0 z1 : Nat) (K : Int)
def u0F : Nat := F (timesS (unF x0) (unF x1) K (unF x0))
def u1F : Nat := F (timesS (unF x0) (unF x1) K (unF x1))
def neg (c : Int) : Int := IntKind.i64.wrap (0 - c)
def s93 : Prop := (!(apF x0 x1 y0 y1 == apF y0 y1 x0 x1)) = false → I4 x0 x1 y0 y1 ∧ I4 y0 y1 x0 x1 ∧ ((coF x0 x1 y0 y1 != neg (coF y0 y1 x0 x1)) = false → I4 x0 x1 y0 y1)
def c93 : Bool := if (!(apF x0 x1 y0 y1 == apF y0 y1 x0 x1)) = true then true else if (coF x0 x1 y0 y1 != neg (coF y0 y1 x0 x1)) = true then true else !((coF x0 x1 y0 y1 == 0) == (eqF x0 y0 && eqF x1 y1))
def s117 : Prop := (!zeq x0 x1) = true → (!zeq y0 y1) = true → I4 x0 x1 y0 y1 ∧ I2 x0 x1 ∧ I2 y0 y1 ∧ (decide (enF x0 x1 x1 ≤ enF y0 y1 y0) = false → I2 y0 y1 ∧ I2 x0 x1)
def c117 : Bool := if (!zeq x0 x1) = true then (if (!zeq y0 y1) = true then (if decide (enF x0 x1 x1 ≤ enF y0 y1 y0) = true then !(apF x0 x1 y0 y1 == true) else !(apF x0 x1 y0 y1 == decide (enF y0 y1 y1 ≤ enF x0 x1 x0))) else false) else false
def s133 : Prop := decide (coF x0 x1 y0 y1 < 0) = true → I4 y0 y1 z0 z1 ∧ (decide (coF y0 y1 z0 z1 < 0) = true → I4 x0 x1 z0 z1)
def c133 : Bool := if decide (coF x0 x1 y0 y1 < 0) = true then (if decide (coF y0 y1 z0 z1 < 0) = true then decide (coF x0 x1 z0 z1 ≥ 0) else false) else false
def e0 : Bool := enF (u0F x0 x1 K) (u1F x0 x1 K) (u0F x0 x1 K) == IntKind.i64.wrap (K * enF x0 x1 x0)
def e1 : Bool := enF (u0F x0 x1 K) (u1F x0 x1 K) (u1F x0 x1 K) == IntKind.i64.wrap (K * enF x0 x1 x1)
def I4u : Prop := I4 (u0F x0 x1 K) (u1F x0 x1 K) (u0F y0 y1 K) (u1F y0 y1 K)
def eA : Bool := apF (u0F x0 x1 K) (u1F x0 x1 K) (u0F y0 y1 K) (u1F y0 y1 K) == apF x0 x1 y0 y1
def eT : Bool := toF (u0F x0 x1 K) (u1F x0 x1 K) (u0F y0 y1 K) (u1F y0 y1 K) == toF x0 x1 y0 y1
def eC : Bool := coF (u0F x0 x1 K) (u1F x0 x1 K) (u0F y0 y1 K) (u1F y0 y1 K) == coF x0 x1 y0 y1
def tB (x0 x1 : Nat) (K : Int) : Bool := timesB (unF x0) (unF x1) K
def sLast : Prop := tB x0 x1 K = true → tB y0 y1 K = true → I2 (u0F x0 x1 K) (u1F x0 x1 K) ∧ I2 x0 x1 ∧ (e0 x0 x1 K = true → I2 (u0F x0 x1 K) (u1F x0 x1 K) ∧ I2 x0 x1 ∧ (e1 x0 x1 K = true → I4u x0 x1 y0 y1 K ∧ I4 x0 x1 y0 y1 ∧
  (eA x0 x1 y0 y1 K = true → I4u x0 x1 y0 y1 K ∧ I4 x0 x1 y0 y1 ∧ (eT x0 x1 y0 y1 K = true → I4u x0 x1 y0 y1 K ∧ I4 x0 x1 y0 y1))))
def bLast : Bool := if tB x0 x1 K = true then (if tB y0 y1 K = true then (if e0 x0 x1 K = true then (if e1 x0 x1 K = true then (if eA x0 x1 y0 y1 K = true then (if eT x0 x1 y0 y1 K = true then eC x0 x1 y0 y1 K else false) else false) else false) else false) else false) else false
def tree8 : Tree AV := .side (I4 x0 x1 y0 y1) (.side (I4 y0 y1 x0 x1) (.side (s93 x0 x1 y0 y1) (.side (c93 x0 x1 y0 y1 = false) (.side (s117 x0 x1 y0 y1) (.side (c117 x0 x1 y0 y1 = false)
  (.side (I4 x0 x1 y0 y1) (.side (s133 x0 x1 y0 y1 z0 z1) (.side (c133 x0 x1 y0 y1 z0 z1 = false) (.side (I2 x0 x1) (.side (I2 y0 y1) (.side (sLast x0 x1 y0 y1 K) (.ret (.v (.bool (bLast x0 x1 y0 y1 K)))))))))))))))
end
section
variable (a0 a1 b0 b1 c0 c1 n : Int)
def rm (z : Int) : Int := (IntKind.i64.wrap z).tmod 1000
def p0 (a b : Int) : Nat := F (partS (rm a) (rm b) (rm a))
def p1 (a b : Int) : Nat := F (partS (rm a) (rm b) (rm b))
def c65 : Bool := if (!okS (rm a0) (rm a1)) = true then true else if (!okS (rm b0) (rm b1)) = true then true else !okS (rm c0) (rm c1)
def kk (n : Int) : Int := IntKind.i64.wrap (1 + IntKind.i64.wrap n)
def six (t : Tree AV) : Tree AV := .side ((1000 : Int) ≠ 0) (.side ((1000 : Int) ≠ 0) (.side ((1000 : Int) ≠ 0) (.side ((1000 : Int) ≠ 0) (.side ((1000 : Int) ≠ 0) (.side ((1000 : Int) ≠ 0) t)))))
def args8 : List AV := [.agg [.v (.int .u16 a0), .v (.int .u16 a1)], .agg [.v (.int .u16 b0), .v (.int .u16 b1)], .agg [.v (.int .u16 c0), .v (.int .u16 c1)], .v (.int .u8 n)]
theorem eval8 : ((evs (cxS7 (decL [(65, false), (93, false), (117, false), (133, false)])) 60).call 8 (args8 a0 a1 b0 b1 c0 c1 n) .nil).ans = six (.side (c65 a0 a1 b0 b1 c0 c1 = false) (tree8 (p0 a0 a1) (p1 a0 a1) (p0 b0 b1) (p1 b0 b1) (p0 c0 c1) (p1 c0 c1) (kk n))) := by kernel_rfl
theorem eval8w : ((evs (cxS7 (decL [(65, true)])) 60).call 8 (args8 a0 a1 b0 b1 c0 c1 n) .nil).ans = six (.side (c65 a0 a1 b0 b1 c0 c1 = true) (.ret (.lit (.bool true)))) := by kernel_rfl
end
end Go.Proofs.Ytkmhabbpndcnkaa
