/-
  PART: contracts of tview's functions: Read.
-/
import Derived.Test.YtkmhabbpndcnkaaP3
namespace Go.Proofs.Ytkmhabbpndcnkaa
open Go.RowKit
theorem pure_hitV {f : Nat} {args : List AV} {t : Tree AV} {a : AV} (h : ((evs cxV 60).call f args .nil).ans = t) (ha : t.hit a) (hp : plainA 4 a = true) : PureOk Try.prog f args a :=
  pure_ans (cx := cxV) cxV_ok fitTry (n := 60) (by rw [h]; exact ha) hp
def thereB (l t : Int) : Bool := if decide (l ≥ 0) = true then (if decide (l < 4) = true then decide (t ≥ 0) else false) else false
theorem thereB_le {l t : Int} (h : thereB l t = true) : 0 ≤ l ∧ l < 4 := by
  unfold thereB at h
  by_cases h1 : l ≥ 0 <;> by_cases h2 : l < 4 <;> simp_all
def pick4 (l : Int) (f : Nat → Int) (o : Nat) : Int := if decide (l = ((3 : Nat) : Int)) = true then f (o + 3) else if decide (l = ((2 : Nat) : Int)) = true then f (o + 2) else if decide (l = ((1 : Nat) : Int)) = true then f (o + 1) else f o
def noRead (l t md : Int) : Bool := if (!thereB l t) = true then true else if decide (md < 1) = true then true else decide (md > 3)
def knownE (f : Nat → Int) (l md : Int) : Int := if (md != 1) = true then pick4 l f 4 else pick4 l f 0
def readX (f m : Nat → Int) (l t md : Int) (i : Nat) : Int :=
  if i < 8 then (if (md == 3) = true then joinF (joinF f (atE l t (md != 1))) m i else joinF f (atE l t (md != 1)) i)
  else if i < 16 then (if (md != 1) = true then joinF (joinF (fun j => f (j + 8)) (atE l t (md != 1))) m (i - 8) else joinF (fun j => f (j + 8)) (atE l t (md != 1)) (i - 8))
  else f i
def readE (f m : Nat → Int) (l t md : Int) (i : Nat) : Int := if noRead l t md = true then f i else if decide (t < knownE f l md) = true then f i else readX f m l t md i
def readB (f : Nat → Int) (l t md : Int) : Bool := if noRead l t md = true then false else !decide (t < knownE f l md)
theorem read_pure (f m : Nat → Int) (l t md : Int) : PureOk Try.prog 26 [.agg (ivs 48 f), iv l, iv t, .v (.int .u8 md), .agg (ivs 8 m)] (.tup [.agg (ivs 48 (readE f m l t md)), .v (.bool (readB f l t md))]) :=
  pure_hitV (t := .side (noRead l t md = false → (0 ≤ l ∧ l < 4) ∧ ((md != 1) = true → 0 ≤ l ∧ l < 4)) (.ret (.tup [.agg (ivs 48 (readE f m l t md)), .v (.bool (readB f l t md))]))) (by kernel_rfl)
    ⟨fun h => by
      have hb : thereB l t = true := by cases hb : thereB l t <;> simp_all [noRead]
      have := thereB_le hb
      exact ⟨this, fun _ => this⟩, rfl⟩ (by kernel_rfl)
end Go.Proofs.Ytkmhabbpndcnkaa
