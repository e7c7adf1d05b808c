/-
  PART: layer 3's known expressions; the table.
-/
import Derived.Test.YtdlghljhgbakjaaDoorEE0
namespace Go.Proofs.YtdlghljhgbakjaaDoor
open Go.RowKit
theorem noDec_ok : CtrOk (cx0 fun _ => none) := cx0_ok _
def digS (z : Int) (t : Tree AV) : Tree AV := .side (0 ≤ z ∧ z ≤ IntKind.i64.wrap (z + 1) ∧ IntKind.i64.wrap (z + 1) ≤ ((36 : Nat) : Int)) t
theorem wakes11 : PureOk Tryd.prog 11 [] (.lit (.bool true)) :=
  pure_hitX (cx := cx0 fun _ => none) (cx0_ok _) rfl (n := 60) (t := digS (IntKind.i64.wrap 1) (digS (IntKind.i64.wrap 0) (digS (IntKind.i64.wrap 2) (.ret (.lit (.bool true)))))) (by kernel_rfl) ⟨by decide, by decide, by decide, rfl⟩ (by kernel_rfl)
def tabE (f : Nat) (args : List AV) : Option (Tree AV) := match f, args with
  | 11, [] => some (.ret (.lit (.bool true)))
  | _, _ => none
theorem tabE_ok : TabOk Tryd.prog tabE := by
  intro f args t a ht hh
  unfold tabE at ht
  split at ht
  · cases ht; cases hh
    exact wakes11
  · cases ht
noncomputable def cxE (dec : Nat → Option Bool) : Cx := ⟨Tryd.prog, ctrOf tabE, dec⟩
theorem cxE_ok (dec : Nat → Option Bool) : CtrOk (cxE dec) := (ctrOf_ok tabE_ok).withDec dec
end Go.Proofs.YtdlghljhgbakjaaDoor
