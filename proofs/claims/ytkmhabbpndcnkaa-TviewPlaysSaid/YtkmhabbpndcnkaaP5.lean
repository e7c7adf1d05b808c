/-
  PART: contracts of tview's functions: May, Write.
-/
import Derived.Test.YtkmhabbpndcnkaaP4
namespace Go.Proofs.Ytkmhabbpndcnkaa
open Go.RowKit
def part (f : Nat → Int) (o : Nat) : Nat → Int := fun j => f (o + j)
def mayVE (f : Nat → Int) : Bool :=
  if (if (if (if (if mayB (part f 0) = true then (if mayB (part f 8) = true then withinB (part f 0) (part f 8) else false) else false) = true then (if mayB (part f 16) = true then withinB (part f 16) (part f 0) else false) else false) = true then
    (if mayB (part f 24) = true then withinB (part f 24) (part f 0) else false) else false) = true then (if mayB (part f 32) = true then withinB (part f 32) (part f 0) else false) else false) = true then (if mayB (part f 40) = true then withinB (part f 40) (part f 0) else false) else false
theorem mayV_pure (f : Nat → Int) : PureOk Try.prog 27 [.agg (ivs 48 f)] (.v (.bool (mayVE f))) :=
  pure_hitV (t := .ret (.v (.bool (mayVE f)))) (by kernel_rfl) rfl (by kernel_rfl)
def noWrite (t md k : Int) : Bool := if (!decide (t ≥ 0)) = true then true else if (md != 1) = true then (if (md != 2) = true then (if (md != 4) = true then true else decide (t ≤ k)) else decide (t ≤ k)) else decide (t ≤ k)
/-- Behind a write: each view that it concerns, with the time. -/
def relW (f : Nat → Int) (l t : Int) (o : Nat) : Nat → Int := joinF (part f o) (atE l t true)
def writeX (f : Nat → Int) (l t md : Int) (i : Nat) : Int :=
  if i < 16 then (if (md == 4) = true then (if (md == 1) = true then relW f l t (i / 8 * 8) (i % 8) else relW f l t (i / 8 * 8) (i % 8)) else if (md == 1) = true then relW f l t (i / 8 * 8) (i % 8) else relW f l t (i / 8 * 8) (i % 8))
  else if decide (l = (((i - 16) / 8 : Nat) : Int)) = true then
    (if (md == 4) = true then (if (md == 1) = true then joinF (relW f l t (i / 8 * 8)) (relW f l t 0) (i % 8) else joinF (relW f l t (i / 8 * 8)) (relW f l t 0) (i % 8)) else if (md == 1) = true then relW f l t (i / 8 * 8) (i % 8) else relW f l t (i / 8 * 8) (i % 8))
  else (if (md == 4) = true then (if (md == 1) = true then f i else f i) else if (md == 1) = true then f i else f i)
def writeE (f : Nat → Int) (l t md : Int) (i : Nat) : Int := if noWrite t md (f (4 + l.toNat)) = true then f i else writeX f l t md i
def sentE (f m : Nat → Int) (l t md : Int) (i : Nat) : Int := if noWrite t md (f (4 + l.toNat)) = true then 0 else if (md == 4) = true then (if (md == 1) = true then 0 else joinF (joinF (relW f l t (16 + 8 * l.toNat)) (relW f l t 0)) m i) else if (md == 1) = true then 0 else joinF (relW f l t (16 + 8 * l.toNat)) m i
def writeA (f m : Nat → Int) (l t md : Int) : AV := .tup [.agg (ivs 48 (writeE f l t md)), .agg (ivs 8 (sentE f m l t md)), .v (.bool !noWrite t md (f (4 + l.toNat)))]
theorem write_pure0 (f m : Nat → Int) (t md : Int) : PureOk Try.prog 25 [.agg (ivs 48 f), .lit (.int .i64 0), iv t, .v (.int .u8 md), .agg (ivs 8 m)] (writeA f m 0 t md) :=
  pure_hitV (t := .ret (writeA f m 0 t md)) (by kernel_rfl) rfl (by kernel_rfl)
theorem write_pure1 (f m : Nat → Int) (t md : Int) : PureOk Try.prog 25 [.agg (ivs 48 f), .lit (.int .i64 1), iv t, .v (.int .u8 md), .agg (ivs 8 m)] (writeA f m 1 t md) :=
  pure_hitV (t := .ret (writeA f m 1 t md)) (by kernel_rfl) rfl (by kernel_rfl)
theorem write_pure2 (f m : Nat → Int) (t md : Int) : PureOk Try.prog 25 [.agg (ivs 48 f), .lit (.int .i64 2), iv t, .v (.int .u8 md), .agg (ivs 8 m)] (writeA f m 2 t md) :=
  pure_hitV (t := .ret (writeA f m 2 t md)) (by kernel_rfl) rfl (by kernel_rfl)
theorem write_pure3 (f m : Nat → Int) (t md : Int) : PureOk Try.prog 25 [.agg (ivs 48 f), .lit (.int .i64 3), iv t, .v (.int .u8 md), .agg (ivs 8 m)] (writeA f m 3 t md) :=
  pure_hitV (t := .ret (writeA f m 3 t md)) (by kernel_rfl) rfl (by kernel_rfl)
end Go.Proofs.Ytkmhabbpndcnkaa
