/-
  PART: contracts of tview's functions: Write at any location; the table.
-/
import Derived.Test.YtkmhabbpndcnkaaP6
namespace Go.Proofs.Ytkmhabbpndcnkaa
open Go.RowKit
theorem there_pure (l t : Int) : PureOk Try.prog 79 [iv l, iv t] (.v (.bool (thereB l t))) :=
  pure_hit (t := .ret (.v (.bool (thereB l t)))) (by kernel_rfl) rfl (by kernel_rfl)
/-- Where there is none. -/
def tabAway (f : Nat) (args : List AV) : Option (Tree AV) := match f, args with
  | 79, [a, b] => match intC a, intC b with
    | some l, some t => some (.side (thereB l t = false) (.ret (.lit (.bool false))))
    | _, _ => none
  | _, _ => none
theorem tabAway_ok : TabOk Try.prog tabAway := by
  intro f args t a ht hh
  unfold tabAway at ht
  split at ht
  · rename_i a0 b0
    split at ht
    · rename_i l t' hl ht'
      cases ht
      obtain ⟨h1, h2⟩ := hh
      cases h2
      have := (there_pure l t').pre (args := [a0, b0]) fun E vs h => by
        cases h with | cons h t => cases t with | cons h2 t => cases t with | nil =>
        exact .cons (intC_ok hl h) (.cons (intC_ok ht' h2) .nil)
      rw [h1] at this
      exact this.imp fun v hv E => by cases hv E; exact .lit _ rfl
    · cases ht
  · cases ht
noncomputable def cxAway : Cx := ⟨Try.prog, ctrOf tabAway, fun _ => none⟩
theorem cxAway_ok : CtrOk cxAway := ctrOf_ok tabAway_ok
theorem Rep.tup_inv {E : Env} {l : List AV} {v : Value} (h : Rep E (.tup l) v) : ∃ vs : List Value, v = .tuple vs.toArray ∧ Reps E l vs := by
  cases h with | @tup _ cs h => exact ⟨cs.toList, by simp, h⟩
theorem Rep.agg_inv {E : Env} {l : List AV} {v : Value} (h : Rep E (.agg l) v) : ∃ vs : List Value, v = .agg vs.toArray ∧ Reps E l vs ∧ One vs := by
  cases h with | @agg _ cs h ho => exact ⟨cs.toList, by simp, h, ho⟩
theorem Rep.tup_mk {E : Env} {l : List AV} {vs : List Value} (h : Reps E l vs) : Rep E (.tup l) (.tuple vs.toArray) := .tup (by simpa using h)
theorem Rep.agg_mk {E : Env} {l : List AV} {vs : List Value} (h : Reps E l vs) (ho : One vs) : Rep E (.agg l) (.agg vs.toArray) := .agg (by simpa using h) (by simpa using ho)
/-- Closed ones made open. -/
theorem Reps.gen {E : Env} {l : List AV} {vs : List Value} (d : Nat) (h : Reps E l vs) : Reps E (l.map (genA d)) vs := h.mapR fun a _ v => genA_ok d a v
theorem write_away (f m : Nat → Int) (l t md : Int) (h : thereB l t = false) : PureOk Try.prog 25 [.agg (ivs 48 f), iv l, iv t, .v (.int .u8 md), .agg (ivs 8 m)] (.tup [.agg (ivs 48 f), .agg (ivs 8 fun _ => 0), .v (.bool false)]) :=
  (pure_ans (cx := cxAway) cxAway_ok fitTry (n := 60) (a := .tup [.agg (ivs 48 f), .agg ((List.range 8).map fun _ => .lit (.int .i64 0)), .lit (.bool false)])
    (by rw [show ((evs cxAway 60).call 25 [.agg (ivs 48 f), iv l, iv t, .v (.int .u8 md), .agg (ivs 8 m)] .nil).ans = .side (thereB l t = false) (.ret (.tup [.agg (ivs 48 f), .agg ((List.range 8).map fun _ => .lit (.int .i64 0)), .lit (.bool false)])) by kernel_rfl]; exact ⟨h, rfl⟩) (d := 4) (by kernel_rfl)).imp fun v hv E => genA_ok 3 _ v (hv E)
def relP (f : Nat → Int) (l : Int) (j : Nat) : Int := if decide (l = ((3 : Nat) : Int)) = true then f (40 + j) else if decide (l = ((2 : Nat) : Int)) = true then f (32 + j) else if decide (l = ((1 : Nat) : Int)) = true then f (24 + j) else f (16 + j)
def writeGE (f : Nat → Int) (l t md : Int) (i : Nat) : Int := if thereB l t = true then (if noWrite t md (pick4 l f 4) = true then f i else writeX f l t md i) else f i
def sentG (f m : Nat → Int) (l t md : Int) (i : Nat) : Int := if (md == 4) = true then (if (md == 1) = true then 0 else joinF (joinF (joinF (relP f l) (atE l t true)) (relW f l t 0)) m i) else if (md == 1) = true then 0 else joinF (joinF (relP f l) (atE l t true)) m i
def sentGE (f m : Nat → Int) (l t md : Int) (i : Nat) : Int := if thereB l t = true then (if noWrite t md (pick4 l f 4) = true then 0 else sentG f m l t md i) else 0
def writeGB (f : Nat → Int) (l t md : Int) : Bool := if thereB l t = true then !noWrite t md (pick4 l f 4) else false
def writeGA (f m : Nat → Int) (l t md : Int) : AV := .tup [.agg (ivs 48 (writeGE f l t md)), .agg (ivs 8 (sentGE f m l t md)), .v (.bool (writeGB f l t md))]
theorem write_pure (f m : Nat → Int) (l t md : Int) : PureOk Try.prog 25 [.agg (ivs 48 f), iv l, iv t, .v (.int .u8 md), .agg (ivs 8 m)] (writeGA f m l t md) := by
  by_cases h : thereB l t = true
  · have hl := thereB_le h
    have hor : l = 0 ∨ l = 1 ∨ l = 2 ∨ l = 3 := by omega
    have hp : pick4 l f 4 = f (4 + l.toNat) := by rcases hor with rfl | rfl | rfl | rfl <;> simp [pick4]
    have hr : relP f l = part f (16 + 8 * l.toNat) := by
      funext j
      rcases hor with rfl | rfl | rfl | rfl <;> simp [relP, part]
    have e : writeGA f m l t md = writeA f m l t md := by
      unfold writeGA writeA
      rw [show writeGE f l t md = writeE f l t md from funext fun i => by simp [writeGE, writeE, h, hp], show sentGE f m l t md = sentE f m l t md from funext fun i => by simp only [sentGE, sentE, sentG, h, hp, hr, if_true]; rfl, show writeGB f l t md = !noWrite t md (f (4 + l.toNat)) by simp [writeGB, h, hp]]
    rw [e]
    have key : ∀ n : Int, PureOk Try.prog 25 [.agg (ivs 48 f), .lit (.int .i64 n), iv t, .v (.int .u8 md), .agg (ivs 8 m)] (writeA f m n t md) → PureOk Try.prog 25 [.agg (ivs 48 f), iv n, iv t, .v (.int .u8 md), .agg (ivs 8 m)] (writeA f m n t md) := fun n h => h.pre fun E vs h => by
      cases h with | cons h t => cases t with | cons h2 t =>
      cases h2
      exact .cons h (.cons (.lit _ rfl) t)
    rcases hor with rfl | rfl | rfl | rfl
    · exact key _ (write_pure0 f m t md)
    · exact key _ (write_pure1 f m t md)
    · exact key _ (write_pure2 f m t md)
    · exact key _ (write_pure3 f m t md)
  · have h : thereB l t = false := by simpa using h
    have e : writeGA f m l t md = .tup [.agg (ivs 48 f), .agg (ivs 8 fun _ => 0), .v (.bool false)] := by
      unfold writeGA
      rw [show writeGE f l t md = f from funext fun i => by simp [writeGE, h], show sentGE f m l t md = fun _ => 0 from funext fun i => by simp [sentGE, h], show writeGB f l t md = false by simp [writeGB, h]]
    rw [e]
    exact write_away f m l t md h
def viewsC : AV → Option (Nat → Int)
  | .agg l => timesC 48 l
  | _ => none
def rowC : AV → Option (Nat → Int)
  | .agg l => timesC 4 l
  | _ => none
def byteC : AV → Option Int
  | .v (.int .u8 z) => some z
  | .lit (.int .u8 z) => some z
  | _ => none
theorem viewsC_ok {E : Env} {a : AV} {f : Nat → Int} (h : viewsC a = some f) {v : Value} (hv : Rep E a v) : Rep E (.agg (ivs 48 f)) v := by
  unfold viewsC at h
  split at h
  · cases hv with
    | agg hr ho => exact .agg (timesC_ok h hr) ho
  · cases h
theorem rowC_ok {E : Env} {a : AV} {f : Nat → Int} (h : rowC a = some f) {v : Value} (hv : Rep E a v) : Rep E (.agg (ivs 4 f)) v := by
  unfold rowC at h
  split at h
  · cases hv with
    | agg hr ho => exact .agg (timesC_ok h hr) ho
  · cases h
theorem byteC_ok {E : Env} {a : AV} {z : Int} (h : byteC a = some z) {v : Value} (hv : Rep E a v) : Rep E (.v (.int .u8 z)) v := by
  unfold byteC at h
  split at h
  · cases h; exact hv
  · cases h; cases hv; exact .v _ rfl
  · cases h
def readA (f m : Nat → Int) (l t md : Int) : AV := .tup [.agg (ivs 48 (readE f m l t md)), .v (.bool (readB f l t md))]
/-- The table of views and of a thread's views. -/
def tabT (f : Nat) (args : List AV) : Option (Tree AV) := match f, args with
  | 24, [a, b, c] => match viewsC a, byteC b, rowC c with
    | some x, some md, some s => some (.ret (fenceA x s md))
    | _, _, _ => none
  | 25, [a, b, c, d, e] => match viewsC a, intC b, intC c, byteC d, viewC e with
    | some x, some l, some t, some md, some m => some (.ret (writeGA x m l t md))
    | _, _, _, _, _ => none
  | 26, [a, b, c, d, e] => match viewsC a, intC b, intC c, byteC d, viewC e with
    | some x, some l, some t, some md, some m => some (.ret (readA x m l t md))
    | _, _, _, _, _ => none
  | 27, [a] => match viewsC a with
    | some x => some (.ret (.v (.bool (mayVE x))))
    | _ => none
  | f, args => tabV f args
theorem tabT_ok : TabOk Try.prog tabT := by
  intro f args t a ht hh
  unfold tabT at ht
  split at ht
  · split at ht
    · rename_i h1 h2 h3
      cases ht; cases hh
      refine (fence_pure _ _ _).pre fun E vs h => ?_
      cases h with | cons q1 h => cases h with | cons q2 h => cases h with | cons q3 h => cases h with | nil =>
      exact .cons (viewsC_ok h1 q1) (.cons (byteC_ok h2 q2) (.cons (rowC_ok h3 q3) .nil))
    · cases ht
  · split at ht
    · rename_i h1 h2 h3 h4 h5
      cases ht; cases hh
      refine (write_pure _ _ _ _ _).pre fun E vs h => ?_
      cases h with | cons q1 h => cases h with | cons q2 h => cases h with | cons q3 h => cases h with | cons q4 h => cases h with | cons q5 h => cases h with | nil =>
      exact .cons (viewsC_ok h1 q1) (.cons (intC_ok h2 q2) (.cons (intC_ok h3 q3) (.cons (byteC_ok h4 q4) (.cons (viewC_ok h5 q5) .nil))))
    · cases ht
  · split at ht
    · rename_i h1 h2 h3 h4 h5
      cases ht; cases hh
      refine (read_pure _ _ _ _ _).pre fun E vs h => ?_
      cases h with | cons q1 h => cases h with | cons q2 h => cases h with | cons q3 h => cases h with | cons q4 h => cases h with | cons q5 h => cases h with | nil =>
      exact .cons (viewsC_ok h1 q1) (.cons (intC_ok h2 q2) (.cons (intC_ok h3 q3) (.cons (byteC_ok h4 q4) (.cons (viewC_ok h5 q5) .nil))))
    · cases ht
  · split at ht
    · rename_i h1
      cases ht; cases hh
      refine (mayV_pure _).pre fun E vs h => ?_
      cases h with | cons q1 h => cases h with | nil =>
      exact .cons (viewsC_ok h1 q1) .nil
    · cases ht
  · exact tabV_ok _ _ _ _ ht hh
noncomputable def cxT : Cx := ⟨Try.prog, ctrOf tabT, fun _ => none⟩
theorem cxT_ok : CtrOk cxT := ctrOf_ok tabT_ok
end Go.Proofs.Ytkmhabbpndcnkaa
