/-
  PART: a function's run from its arguments, with open loops walked by the rules.
-/
import Derived.Test.YtdlghljhgbakjaaDoorENU
namespace Go.Proofs.YtdlghljhgbakjaaDoor
open Go.RowKit

/-- The package-level variables that are read hold what they are taken to hold. -/
def GlobW (w : World) : Prop := ∀ g c, GM g = some c → ∃ ty fr, w.heap[g]? = some (.cells c ty fr)
/-- All that stands at the start stays. -/
def frozenE (w : World) (hg : GlobW w) : Env := { ρ := fun _ => 0, dom := fun _ => False, vir := fun _ => false, cp := fun _ => 0, ln := fun _ => 0, fz := fun b => match w.heap[b]? with | some (.cells c _ _) => some c | _ => none, gok := fun g c h => by obtain ⟨ty, fr, hq⟩ := hg g c h; rw [hq] }
theorem frozenE_fz {w : World} {hg : GlobW w} {b : Nat} {c : Array Value} {ty : TypeId} {fr : Nat × Nat} (h : w.heap[b]? = some (.cells c ty fr)) : (frozenE w hg).fz b = some c := by
  show (match w.heap[b]? with | some (.cells c _ _) => some c | _ => none) = some c
  rw [h]
theorem frozenE_ok (w : World) (hg : GlobW w) : FzOk (frozenE w hg) w := fun b c hb => by
  have hb' : (match w.heap[b]? with | some (.cells c _ _) => some c | _ => none) = some c := hb
  split at hb'
  · rename_i c' ty fr he; cases hb'; exact ⟨ty, fr, he⟩
  · cases hb'
/-- A start at which only the arguments are known. -/
def begins (N : Nat) (E : Env) (w : World) (hd : ∀ x, ¬ E.dom x) (hf : FzOk E w) : Start :=
  { N := N, E0 := E, H0 := fun _ => none, nx0 := 0, w0 := w, sim := ⟨hf, fun _ _ h => absurd rfl h, fun _ _ h => absurd rfl h, (fun _ _ _ h => nomatch h), fun _ _ _ _ h => absurd rfl h⟩, bound := fun x hx => absurd hx (hd x) }
def entry (args : List AV) : St := { St.nil with sl := params 0 args }
section
variable {P : Program}
theorem calls_of_wpc {f : Nat} {fn : Func} {c : Code} (hfn : P.funcs[f]? = some fn) (hb : fn.body = some c) {args : List AV} {vals : Array Value} {w : World} {E : Env} {hd : ∀ x, ¬ E.dom x} {hf : FzOk E w} (hargs : Reps E args vals.toList) (hle : args.length ≤ fn.ntmps)
    {R : Ex → St → Prop} (h : WpC P (begins fn.ntmps E w hd hf) c (entry args) R) {V : Value → Prop}
    (hres : ∀ x s, R x s → (x = .norm ∨ x = .ret) ∧ (ressA P fn.results.toList s).wp fun b => ∀ E v, Rep E (oneA b.1) v → V v) :
    CallsIn Fence.wide 0 P f vals w fun e w' => ∃ v, e = .returned v ∧ V v ∧ Quiet w w' := by
  refine callsIn_of_wp hfn hb trivial ?_
  refine h none _ w _ ⟨E, Pst.refl (Start.sim (begins fn.ntmps E w hd hf)), params_fr (st := .nil) hargs hle, fun x hx => absurd hx (hd x), fun x hx => absurd rfl hx, rfl, Nat.le_refl _⟩ fun x s act' w' hR ⟨E', p, hfr, hbd, hwf, hdf, hnx⟩ => ?_
  obtain ⟨hx, hw⟩ := hres x s hR
  obtain ⟨⟨as, s1⟩, hh, hV⟩ := Tree.wp_hit hw
  obtain ⟨_, k2⟩ := ressA_ok (N := fn.ntmps) hh
  obtain ⟨vs, r1, r2⟩ := k2 (fun _ => True) E' act' w' (fun _ _ => trivial) p.sim hfr
  have hpost : act'.defers = [] ∧ ∃ v, (results fn act'.tmps).run P w' = .ok v w' ∧ ∃ v', Ending.returned v = .returned v' ∧ V v' ∧ Quiet w w' :=
    ⟨hdf, _, results_run r1, _, rfl, hV E' _ (oneA_ok r2), ⟨fun b hb => (p.frame b hb fun x hx => by cases hx).1, p.size, p.os, p.tape, p.output⟩⟩
  rcases hx with rfl | rfl
  · exact hpost
  · exact hpost
/-- A contract of a function with open loops. -/
theorem pure_of_wpc {f : Nat} {fn : Func} {c : Code} (hfit : Fit P) (hfn : P.funcs[f]? = some fn) (hb : fn.body = some c) {args : List AV} (hle : args.length ≤ fn.ntmps) {a : AV}
    {R : Ex → St → Prop} (h : ∀ (E : Env) (w : World) (hd : ∀ x, ¬ E.dom x) (hf : FzOk E w), WpC P (begins fn.ntmps E w hd hf) c (entry args) R)
    (hres : ∀ x s, R x s → (x = .norm ∨ x = .ret) ∧ (ressA P fn.results.toList s).wp fun b => ∀ E v, Rep E (oneA b.1) v → ∀ E2, Rep E2 a v) : PureOk P f args a := by
  intro rr E w vals K hd hf hargs hK
  have hname' : ¬ fn.name = "runtime.NumGoroutine" := by simpa using (fit_func hfit hfn hb).2
  refine .inr ⟨by simp [callFunc, hfn, hname', hb], ?_⟩
  have hc : CallsIn Fence.wide 0 P f vals w fun e w' => ∃ v, e = .returned v ∧ K v w' :=
    (calls_of_wpc (hd := hd) (hf := hf) hfn hb hargs hle (h E w hd hf) (V := fun v => ∀ E2, Rep E2 a v) hres).mono fun e w' ⟨v, h1, h2, h3⟩ => ⟨v, h1, hK v w' h2 h3⟩
  cases rr with
  | none => exact hc
  | some l => exact hc.inRound l
theorem Quiet.below {w w' : World} (h : Quiet w w') : Below w.heap.size w w' := ⟨h.os, h.tape, h.output, h.size, fun k hk => h.old k hk⟩
end
end Go.Proofs.YtdlghljhgbakjaaDoor
