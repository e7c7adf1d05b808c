/-
  PART: the table of View's contracts.
-/
import Derived.Test.YtkmhabbpndcnkaaP2
namespace Go.Proofs.Ytkmhabbpndcnkaa
open Go.RowKit
def boolC : AV → Option Bool
  | .v (.bool b) => some b
  | .lit (.bool b) => some b
  | _ => none
def viewC : AV → Option (Nat → Int)
  | .agg l => timesC 8 l
  | _ => none
def tabV (f : Nat) (args : List AV) : Option (Tree AV) := match f, args with
  | 14, [a, .sl n k get _ _] => match Nat.beq n 1 && Nat.beq k 8 with
    | true => match viewC a, timesC 8 (get 0) with
      | some x, some y => some (.ret (.agg (ivs 8 (joinF x y))))
      | _, _ => none
    | false => none
  | 15, [a, b] => match viewC a, viewC b with
    | some x, some y => some (.ret (.v (.bool (withinB x y))))
    | _, _ => none
  | 16, [a] => match viewC a with
    | some x => some (.ret (.v (.bool (mayB x))))
    | none => none
  | 19, [a, b, c] => match intC a, intC b, boolC c with
    | some l, some t, some p => some (.ret (.agg (ivs 8 (atE l t p))))
    | _, _, _ => none
  | _, _ => none
theorem boolC_ok {E : Env} {a : AV} {b : Bool} (h : boolC a = some b) {v : Value} (hv : Rep E a v) : Rep E (.v (.bool b)) v := by
  unfold boolC at h
  split at h
  · cases h; exact hv
  · cases h; cases hv; exact .v _ rfl
  · cases h
theorem viewC_ok {E : Env} {a : AV} {f : Nat → Int} (h : viewC a = some f) {v : Value} (hv : Rep E a v) : Rep E (.agg (ivs 8 f)) v := by
  unfold viewC at h
  split at h
  · cases hv with
    | agg hr ho => exact .agg (timesC_ok h hr) ho
  · cases h
theorem tabV_ok : TabOk Try.prog tabV := by
  intro f args t a ht hh
  unfold tabV at ht
  split at ht
  · rename_i a0 n k get nl full
    split at ht
    · rename_i hb
      simp only [Bool.and_eq_true] at hb
      obtain rfl := Nat.eq_of_beq_eq_true hb.1
      obtain rfl := Nat.eq_of_beq_eq_true hb.2
      split at ht
      · rename_i x y hx hy
        cases ht; cases hh
        refine (join_pure x y).pre fun E vs h => ?_
        cases h with | cons h t => cases t with | cons h2 t => cases t with | nil =>
        refine .cons (viewC_ok hx h) (.cons ?_ .nil)
        cases h2 with
        | slNil hn => cases hn
        | slEmp hn _ => cases hn
        | sl q1 q2 q3 q4 q5 q6 => exact .sl q1 q2 (fun h => by cases h) q4 (fun i hi => by
            obtain rfl : i = 0 := by omega
            exact timesC_ok hy (q5 0 hi)) q6
      · cases ht
    · cases ht
  · rename_i a0 b0
    split at ht
    · rename_i x y hx hy
      cases ht; cases hh
      refine (within_pure x y).pre fun E vs h => ?_
      cases h with | cons h t => cases t with | cons h2 t => cases t with | nil =>
      exact .cons (viewC_ok hx h) (.cons (viewC_ok hy h2) .nil)
    · cases ht
  · rename_i a0
    split at ht
    · rename_i x hx
      cases ht; cases hh
      refine (may_pure x).pre fun E vs h => ?_
      cases h with | cons h t => cases t with | nil =>
      exact .cons (viewC_ok hx h) .nil
    · cases ht
  · rename_i a0 b0 c0
    split at ht
    · rename_i l t' p hl ht' hp
      cases ht; cases hh
      refine (at_pure0 l t' p).pre fun E vs h => ?_
      cases h with | cons h t => cases t with | cons h2 t => cases t with | cons h3 t => cases t with | nil =>
      exact .cons (intC_ok hl h) (.cons (intC_ok ht' h2) (.cons (boolC_ok hp h3) .nil))
    · cases ht
  · cases ht
noncomputable def cxV : Cx := ⟨Try.prog, ctrOf tabV, fun _ => none⟩
theorem cxV_ok : CtrOk cxV := ctrOf_ok tabV_ok
end Go.Proofs.Ytkmhabbpndcnkaa
