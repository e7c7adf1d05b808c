/-
  PARTS, one behind the other: P0.
-/
import Derived.Test.YtdlghljhgbakjaaDoorWp4
import Derived.Test.YtdlghljhgbakjaaDoorProg
/-
  PART: the program fits the evaluator; contracts by evaluation.
-/
namespace Go.Proofs.YtdlghljhgbakjaaDoor
open Go.RowKit
theorem fitTry : Fit Tryd.prog := ⟨by kernel_rfl, by kernel_rfl⟩
/-- The answers alone. -/
noncomputable def Tree.ans : Tree (AV × St) → Tree AV
  | .ret b => .ret b.1
  | .br c t e => .br c t.ans e.ans
  | .side p t => .side p t.ans
  | .fail => .fail
theorem Tree.ans_hit : ∀ {t : Tree (AV × St)} {a : AV}, t.ans.hit a → ∃ s, t.hit (a, s)
  | .ret b, a, h => by cases h; exact ⟨b.2, rfl⟩
  | .br _ _ _, a, h => by
    rcases h with ⟨h1, h2⟩ | ⟨h1, h2⟩
    · obtain ⟨s, k⟩ := Tree.ans_hit h2; exact ⟨s, .inl ⟨h1, k⟩⟩
    · obtain ⟨s, k⟩ := Tree.ans_hit h2; exact ⟨s, .inr ⟨h1, k⟩⟩
  | .side _ t, a, h => by
    obtain ⟨s, k⟩ := Tree.ans_hit (t := t) h.2; exact ⟨s, h.1, k⟩
  | .fail, a, h => h.elim
theorem pure_ans {cx : Cx} (hc : CtrOk cx) (hfit : Fit cx.P) {n f : Nat} {args : List AV} {a : AV} (h : ((evs cx n).call f args .nil).ans.hit a) {d : Nat} (hp : plainA d a = true) : PureOk cx.P f args a :=
  let ⟨_, k⟩ := Tree.ans_hit h
  pure_of (evs_ok hc hfit n).calls k hp
theorem PureOk.pre {P : Program} {f : Nat} {args args' : List AV} {a : AV} (h : PureOk P f args' a) (ha : ∀ E vs, Reps E args vs → Reps E args' vs) : PureOk P f args a :=
  fun rr E w vals K hd hf hargs hK => h rr E w vals K hd hf (ha E _ hargs) hK
noncomputable def decL : List (Nat × Bool) → Nat → St → Option Bool
  | [], _, _ => none
  | (t, b) :: l, d, st => match Nat.beq t d with
    | true => some b
    | false => decL l d st
noncomputable def cx0 (dec : Nat → St → Option Bool) : Cx := ⟨Tryd.prog, fun _ _ _ => none, dec⟩
theorem cx0_ok (dec : Nat → St → Option Bool) : CtrOk (cx0 dec) := ⟨fun _ _ _ _ h => (by cases h), fun _ _ _ _ _ _ h => (by cases h)⟩
theorem pure_hitX {cx : Cx} (hc : CtrOk cx) (hP : cx.P = Tryd.prog) {n f : Nat} {args : List AV} {t : Tree AV} {a : AV} (h : ((evs cx n).call f args .nil).ans = t) (ha : t.hit a) (hp : plainA 4 a = true) : PureOk Tryd.prog f args a := by
  have := pure_ans (cx := cx) hc (by rw [hP]; exact fitTry) (n := n) (f := f) (args := args) (a := a) (by rw [h]; exact ha) hp
  rwa [hP] at this
/-- A law without a loop that is open. -/
theorem lawRuns_of_pure {f : Nat} {fn : Func} {c : Code} (hfn : Tryd.prog.funcs[f]? = some fn) (hb : fn.body = some c) {ks : List (Bool × List Ck)}
    (h : ∀ al, ArgsOk ks al → ∃ al' b, (∀ E vs, Reps E al vs → Reps E al' vs) ∧ PureOk Tryd.prog f al' b ∧ IsTrue b) : LawRuns Tryd.prog f ks := by
  intro w hg vals al hok hargs
  obtain ⟨al', b, hA, hp, ht⟩ := h al hok
  have hname' : ¬ fn.name = "runtime.NumGoroutine" := by simpa using (fit_func fitTry hfn hb).2
  rcases hp none (frozenE w hg) w vals (fun v w' => v = .bool true ∧ Quiet w w') (fun _ h => h) (frozenE_ok w hg) (hA _ _ hargs) (fun v w' hv hq => ⟨ht (frozenE w hg) v (hv _), hq⟩) with ⟨v, h1, _⟩ | ⟨_, h2⟩
  · have : (callFunc f vals).run Tryd.prog w = .ok (.enter f vals) w := by simp [callFunc, hfn, hname', hb]
    rw [this] at h1
    cases h1
  · exact CallsIn.mono h2 fun e w' ⟨v, h3, h4, h5⟩ => ⟨v, h3, h4, h5⟩
end Go.Proofs.YtdlghljhgbakjaaDoor
