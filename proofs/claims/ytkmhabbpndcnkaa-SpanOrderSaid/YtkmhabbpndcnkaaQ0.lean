/-
  PART: spans: times as floats; contracts of Trunc and time.
-/
import Derived.Test.YtkmhabbpndcnkaaFL
import Derived.Test.YtkmhabbpndcnkaaP3
import Derived.Test.YtkmhabbpndcnkaaNX
namespace Go.Proofs.Ytkmhabbpndcnkaa
open Go.RowKit
def IsF (x : Nat) : Prop := ∃ n : Nat, n ≤ 2 ^ 40 ∧ x = F n
/-- The whole number of a float. -/
def unF (x : Nat) : Nat := (((Ieee.double.read x).toInt .zero).getD 0).toNat
theorem lt53 {n : Nat} (h : n ≤ 2 ^ 40) : n < 2 ^ 53 := Nat.lt_of_le_of_lt h (by decide)
theorem unF_F {n : Nat} (h : n ≤ 2 ^ 40) : unF (F n) = n := by
  unfold unF
  rw [toInt_F n (lt53 h)]
  rfl
theorem toIntegral_F (x : Nat) (s : Bool) (m : Nat) (e : Int) (h : FloatKind.f64.decode x = .number s m e) : Extern.MathFloor.toIntegral "math.archTrunc" .zero #[.float .f64 x] = pure (.float .f64 (FloatKind.f64.encode ((Ieee.Datum.number s m e).integral .zero))) := by
  show Extern.MathFloor.toIntegral.match_1 (motive := fun _ => Sem Value) (FloatKind.f64.decode x) _ _ = _
  rw [h]
theorem trunc_ext (n : Nat) (h : n ≤ 2 ^ 40) : semVal Try.prog (callFunc 112 #[.float .f64 (F n)]) = some (.value (.float .f64 (F n))) := by
  have e : semVal Try.prog (callFunc 112 #[.float .f64 (F n)]) = semVal Try.prog (do let v ← Extern.MathFloor.toIntegral "math.archTrunc" .zero #[.float .f64 (F n)]; pure (.value v)) := by kernel_rfl
  rw [e]
  have hi := integral_F n (lt53 h)
  obtain ⟨p, hp⟩ := read_F n (lt53 h)
  rw [hp] at hi
  rw [toIntegral_F (F n) _ _ _ hp, hi]
  have : FloatKind.f64.encode (.number false n 0) = F n := by rw [F_eq]; rfl
  rw [this]
  rfl
theorem ext_pure {f : Nat} {args : List Value} {v : Value} (hone : One args) (h : semVal Try.prog (callFunc f args.toArray) = some (.value v)) (hv : one1 v = true) : PureOk Try.prog f (args.map .v) (.v v) := by
  intro rr E w vals K hd hf hargs hK
  have e : vals = args.toArray := by
    have key : ∀ (l : List Value) (vs : List Value), Reps E (l.map .v) vs → vs = l := by
      intro l
      induction l with
      | nil => intro vs h; cases h; rfl
      | cons a l ih => intro vs h; cases h with | cons h1 h2 => cases h1; rw [ih _ h2]
    have := key args vals.toList hargs
    rw [← this]
  subst e
  exact .inl ⟨v, semVal_run h w, hK v w (fun E2 => .v _ hv) ⟨fun _ _ => rfl, Nat.le_refl _, rfl, rfl, rfl⟩⟩
theorem archTrunc_pure (n : Nat) (h : n ≤ 2 ^ 40) : PureOk Try.prog 112 [.v (.float .f64 (F n))] (.v (.float .f64 (F n))) :=
  ext_pure (args := [.float .f64 (F n)]) (fun v hv => by simp at hv; subst hv; rfl) (trunc_ext n h) rfl
def fltC : AV → Option Nat
  | .v (.float .f64 x) => some x
  | .lit (.float .f64 x) => some x
  | _ => none
theorem fltC_ok {E : Env} {a : AV} {x : Nat} (h : fltC a = some x) {v : Value} (hv : Rep E a v) : Rep E (.v (.float .f64 x)) v := by
  unfold fltC at h
  split at h
  · cases h; exact hv
  · cases h; cases hv; exact .v _ rfl
  · cases h
def tabF0 (f : Nat) (args : List AV) : Option (Tree AV) := match f, args with
  | 112, [a] => match fltC a with
    | some x => some (.side (IsF x) (.ret (.v (.float .f64 x))))
    | none => none
  | _, _ => none
theorem tabF0_ok : TabOk Try.prog tabF0 := by
  intro f args t a ht hh
  unfold tabF0 at ht
  split at ht
  · split at ht
    · rename_i x h1
      cases ht
      obtain ⟨⟨n, hn, rfl⟩, hh⟩ := hh
      cases hh
      refine (archTrunc_pure n hn).pre fun E vs h => ?_
      cases h with | cons q1 h => cases h with | nil =>
      exact .cons (fltC_ok h1 q1) .nil
    · cases ht
  · cases ht
noncomputable def cxF0 : Cx := ⟨Try.prog, ctrOf tabF0, fun _ => none⟩
theorem cxF0_ok : CtrOk cxF0 := ctrOf_ok tabF0_ok
theorem pure_hitX {cx : Cx} (hc : CtrOk cx) (hP : cx.P = Try.prog) {f : Nat} {args : List AV} {t : Tree AV} {a : AV} (h : ((evs cx 60).call f args .nil).ans = t) (ha : t.hit a) (hp : plainA 4 a = true) : PureOk Try.prog f args a := by
  have := pure_ans (cx := cx) hc (by rw [hP]; exact fitTry) (n := 60) (f := f) (args := args) (a := a) (by rw [h]; exact ha) hp
  rwa [hP] at this
end Go.Proofs.Ytkmhabbpndcnkaa
