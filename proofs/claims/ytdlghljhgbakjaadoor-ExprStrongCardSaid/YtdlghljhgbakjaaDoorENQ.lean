/-
  PART: calls and all: the evaluator is right.
-/
import Derived.Test.YtdlghljhgbakjaaDoorENP
namespace Go.Proofs.YtdlghljhgbakjaaDoor
open Go.RowKit

/-- Contracts that are given are so. -/
structure CtrOk (cx : Cx) : Prop where
  all : ∀ f args st t, cx.ctr f args st = some t → t.All (GrewS st)
  ok : ∀ f args st t a st', cx.ctr f args st = some t → t.hit (a, st') → CallOk cx.P f args st a st'
section
variable {cx : Cx} {r : Evs} {P : Program}
theorem params_look (l : List AV) : ∀ (i d : Nat), look (params i l) d = if i ≤ d ∧ d < i + l.length then l.getD (d - i) .unk else .unk := by
  induction l with
  | nil => intro i d; simp [params, look]
  | cons a l ih =>
    intro i d
    simp only [params, look_cons, ih]
    by_cases h : i = d
    · subst h; simp
    · rw [if_neg h]
      by_cases h2 : i + 1 ≤ d ∧ d < i + 1 + l.length
      · rw [if_pos h2, if_pos (by simp; omega)]
        obtain ⟨k, rfl⟩ : ∃ k, d = i + 1 + k := ⟨d - (i + 1), by omega⟩
        rw [show i + 1 + k - (i + 1) = k by omega, show i + 1 + k - i = k + 1 by omega]
        simp
      · rw [if_neg h2, if_neg (by simp; omega)]
theorem params_fr {E : Env} {st : St} {args : List AV} {vals : Array Value} {N : Nat} (h : Reps E args vals.toList) (hle : args.length ≤ N) {D : List Deferred} : Fr N E { st with sl := params 0 args, ws := [], rd := [], wr := [], wb := [], wc := [] } { tmps := vals ++ Array.replicate (N - vals.size) undef, defers := D } := by
  have hlen : args.length = vals.size := by rw [h.len]; simp
  refine ⟨by simp; omega, fun d => ?_⟩
  show Rep E (look (params 0 args) d) _
  rw [params_look]
  by_cases hd : 0 ≤ d ∧ d < 0 + args.length
  · rw [if_pos hd]
    have hd' : d < args.length := by omega
    have hg : args[d]? = some args[d] := List.getElem?_eq_getElem hd'
    obtain ⟨v, h1, h2⟩ := h.get hg
    have h3 : (vals ++ Array.replicate (N - vals.size) undef).getD d undef = v := by
      rw [Array.getD_eq_getD_getElem?, Array.getElem?_append_left (by omega), ← Array.getElem?_toList, h1]; rfl
    rw [h3]
    have h4 : args.getD (d - 0) .unk = args[d] := by simp [List.getD, hg]
    rw [h4]; exact h2
  · rw [if_neg hd]; exact .unk _
theorem all_ressA {s0 : St} (P : Program) : ∀ (rs : List ResultVar) (s : St), Grew s0 s → (ressA P rs s).All fun b => Grew s0 b.2
  | [], s, h => h
  | rv :: rs, s, h => by
    refine Tree.All.bind (Q := fun b => Grew s0 b.2) ?_ fun b hb => (all_ressA P rs b.2 hb).bind fun b' hb' => hb'
    unfold resA
    split
    · exact h
    · split
      · exact (all_load _ _).imp fun b hb => h.trans hb.1
      · trivial
theorem grew_start {st s : St} {l : List (Nat × AV)} (a : AV) (g : Grew { st with sl := l, ws := [], rd := [], wr := [], wb := [], wc := [] } s) : Grew st.start { s with sl := [(0, a)], ws := [0] } :=
  ⟨g.wf, g.nx, g.rd, g.wr, fun x h => (by cases h), fun x h => (by cases h), fun d hd => by
    show look [(0, a)] d = look [] d
    rw [look_cons, if_neg]
    rintro rfl; exact hd (List.mem_cons_self ..), g.blkb, g.blkr, g.wbr, fun e h => (by cases h), g.cell⟩
theorem all_inside (hr : CallsAll r) (hl : CodeAll r) (fn : Func) (c : Code) (args : List AV) (st : St) : (insideE cx r fn c args st).All (GrewX st.start) := by
  unfold insideE
  refine (all_codeE hr hl c _).bind fun x hx => ?_
  obtain ⟨e, s⟩ := x
  have key : ((ressA cx.P fn.results.toList s).bind fun (as, s') => .ret (.ret, { s' with sl := [(0, oneA as)], ws := [0] }) : Tree (Ex × St)).All (GrewX st.start) :=
    (all_ressA cx.P _ s hx).bind fun b hb => grew_start _ hb
  cases e with
  | norm => exact key
  | ret => exact key
  | exit id => trivial
  | goto l => trivial
theorem collapse_ok {s0 : St} (h0 : s0.forked = s0) : ∀ {t : Tree (Ex × St)}, t.All (GrewX s0) → (collapse s0 t).All (GrewX s0) ∧ ∀ x m, (collapse s0 t).hit (x, m) → ∃ s, t.hit (x, s) ∧ Wkn s m
  | .ret b, h => ⟨h, fun x m hh => ⟨m, hh, .refl _⟩⟩
  | .br c t e, h => by
    obtain ⟨a1, k1⟩ := collapse_ok h0 h.1
    obtain ⟨a2, k2⟩ := collapse_ok h0 h.2
    obtain ⟨q1, q2⟩ := forkT_ok (c := c) (s0 := s0) (by rw [h0]; exact a1) (by rw [h0]; exact a2)
    refine ⟨q1, fun x m hh => ?_⟩
    obtain ⟨r1, r2⟩ := q2 x m hh
    cases c with
    | true =>
      obtain ⟨s, h1, h2⟩ := r1 rfl
      obtain ⟨s', h3, h4⟩ := k1 x s h1
      exact ⟨s', .inl ⟨rfl, h3⟩, h4.trans h2⟩
    | false =>
      obtain ⟨s, h1, h2⟩ := r2 rfl
      obtain ⟨s', h3, h4⟩ := k2 x s h1
      exact ⟨s', .inr ⟨rfl, h3⟩, h4.trans h2⟩
  | .side p t, h => by
    obtain ⟨a1, k1⟩ := collapse_ok (t := t) h0 h
    refine ⟨a1, fun x m hh => ?_⟩
    obtain ⟨s, h1, h2⟩ := k1 x m hh.2
    exact ⟨s, ⟨hh.1, h1⟩, h2⟩
  | .fail, h => ⟨trivial, fun x m hh => hh.elim⟩
theorem all_bodyE (hr : CallsAll r) (hl : CodeAll r) (fn : Func) (c : Code) (args : List AV) (st : St) : (bodyE cx r fn c args st).All (GrewS st) := by
  unfold bodyE
  split
  · trivial
  · refine (collapse_ok rfl (all_inside hr hl fn c args st)).1.bind fun x hx => ?_
    obtain ⟨k1, k2, _⟩ := back_ok (st := st) (st0 := st.start) ⟨rfl, rfl, rfl, rfl, rfl⟩ hx (look x.2.sl 0)
    exact ⟨k1, k2⟩
theorem all_callE (hc : CtrOk cx) (hr : CallsAll r) (hl : CodeAll r) : CallsAll ⟨codeE cx r, callE cx r, jumpE cx r⟩ := fun f args st => by
  show (callE cx r f args st).All (GrewS st)
  unfold callE
  split
  · rename_i t ht; exact hc.all f args st t ht
  · split
    · trivial
    · split
      · exact all_bodyE hr hl ..
      · split
        · split
          · exact gs_refl ..
          · trivial
        · trivial
theorem fit_func (hfit : Fit P) {f : Nat} {fn : Func} (hf : P.funcs[f]? = some fn) {c : Code} (hb : fn.body = some c) : codeOk fn.ntmps c = true ∧ (fn.name == "runtime.NumGoroutine") = false := by
  have h := List.all_eq_true.1 hfit.funcs fn (by
    have := Array.mem_of_getElem? hf
    simpa using this)
  unfold funcOk at h
  rw [hb] at h
  simpa using h
theorem body_sound (hP : cx.P = P) (hfit : Fit P) (hE : EvsOk P r) {f : Nat} {fn : Func} {c : Code} (hf : P.funcs[f]? = some fn) (hb : fn.body = some c) {args : List AV} {st : St} {a : AV} {st' : St} (h : (bodyE cx r fn c args st).hit (a, st')) : CallOk P f args st a st' := by
  have hall := (all_bodyE hE.callsAll hE.all fn c args st).hit h
  obtain ⟨hgrew, hsl⟩ := hall
  obtain ⟨hcode, hname⟩ := fit_func hfit hf hb
  unfold bodyE at h
  split at h
  · exact h.elim
  · rename_i hle
    have hle : args.length ≤ fn.ntmps := Nat.le_of_ble_eq_true hle
    obtain ⟨⟨x0, m⟩, hm, hm2⟩ := Tree.hit_bind h
    cases hm2
    obtain ⟨hcall, hcol⟩ := collapse_ok rfl (all_inside (cx := cx) hE.callsAll hE.all fn c args st)
    have gm : Grew st.start m := hcall.hit hm
    obtain ⟨sl, hin, hwk⟩ := hcol x0 m hm
    unfold insideE at hin
    obtain ⟨⟨e, s⟩, h1, h2⟩ := Tree.hit_bind hin
    have g1 : Grew _ s := (all_codeE hE.callsAll hE.all c _).hit h1
    have hs := code_sound hP hfit hE c _ e s h1
    have key : (toExit e = .normal ∨ toExit e = .ret) → ((ressA cx.P fn.results.toList s).bind fun (as, s') => Tree.ret (Ex.ret, { s' with sl := [(0, oneA as)], ws := [0] })).hit (x0, sl) → CallOk P f args st (look m.sl 0) (m.back st (look m.sl 0)) := fun he h2 => by
      obtain ⟨⟨as, s1⟩, h3, h4⟩ := Tree.hit_bind h2
      cases h4
      subst hP
      obtain ⟨⟨g2, f1, f2, f3, f4, f5⟩, k2⟩ := ressA_ok (N := fn.ntmps) h3
      obtain ⟨b1, b2, b3, b4, b5⟩ := back_ok (st := st) (st0 := st.start) ⟨rfl, rfl, rfl, rfl, rfl⟩ gm (look m.sl 0)
      refine ⟨hgrew, hsl, ?_⟩
      intro rr FP E w vals K hwf hcov hfree hS hargs hK
      refine .inr ⟨?_, ?_⟩
      · have hname' : ¬ fn.name = "runtime.NumGoroutine" := by simpa using hname
        simp [callFunc, hf, hname', hb]
      · have hnxs : s.nx ≤ m.nx := by rw [← f3]; exact hwk.nx
        have hwide : CallsIn Fence.wide 0 cx.P f vals w fun e w' => ∃ v, e = .returned v ∧ K v w' := by
          refine callsIn_of_wp hf hb trivial ?_
          have hc0 := b4 FP hcov
          have hc1 : Cov FP { st with sl := params 0 args, ws := [], rd := [], wr := [], wb := [], wc := [] } s1 := fun x hx => hc0 x (by
            rcases hx with hx | hx | ⟨q1, q2⟩
            · exact .inl (hwk.rd x hx)
            · exact .inr (.inl (hwk.wr x hx))
            · exact .inr (.inr ⟨q1, Nat.lt_of_lt_of_le q2 hwk.nx⟩))
          refine hs fn.ntmps [] none FP E _ w _ hcode hwf (cov_l hc1 g2.gs) (fun x q1 q2 => hfree x q1 (by rw [b3]; exact Nat.lt_of_lt_of_le q2 hnxs)) hS (params_fr hargs hle) rfl fun E' act' w' q1 q2 q3 => ?_
          obtain ⟨vs, r1, r2⟩ := k2 FP E' act' w' (cov_r hc1 g1.nx) q3.sim q1
          have hpost : act'.defers = [] ∧ ∃ v, (results fn act'.tmps).run cx.P w' = .ok v w' ∧ ∃ v', Ending.returned v = .returned v' ∧ K v' w' := by
            refine ⟨q2, _, results_run r1, _, rfl, hK E' _ w' (hwk.slot E' 0 _ (oneA_ok r2)) ?_⟩
            rw [b3]
            refine b5 FP E E' w w' hwf ?_
            refine Pst.wkn (s := { s1 with sl := [(0, oneA as)], ws := [0] }) ?_ hwk (fun x hx => (g1.trans g2).wf hwf x hx)
            show Pst FP E E' (hget st.hp) (hget s1.hp) st.nx s1.nx s1.wr w w'
            rw [f2, f3, f4]
            exact q3
          rcases he with he | he
          · rw [he]; exact hpost
          · rw [he]; exact hpost
        cases rr with
        | none => exact hwide
        | some l => exact hwide.inRound l
    cases e with
    | norm => exact key (.inl rfl) h2
    | ret => exact key (.inr rfl) h2
    | exit id => exact h2.elim
    | goto l => exact h2.elim
theorem call_sound (hc : CtrOk cx) (hP : cx.P = P) (hfit : Fit P) (hE : EvsOk P r) : CallsOk P ⟨codeE cx r, callE cx r, jumpE cx r⟩ := fun f args st a st' h => by
  subst hP
  have h' : (callE cx r f args st).hit (a, st') := h
  unfold callE at h'
  split at h'
  · rename_i t ht; exact hc.ok f args st t a st' ht h'
  · split at h'
    · exact h'.elim
    · rename_i fn hfn
      split at h'
      · rename_i c hb; exact body_sound rfl hfit hE hfn hb h'
      · split at h'
        · rename_i vs l hs
          split at h'
          · rename_i v hv
            cases h'
            refine ⟨.refl _, rfl, fun rr FP E w vals K hwf hcov hfree hS hargs hK => .inl ⟨v, ?_, hK E v w (litOr_rep l v) (.refl hS)⟩⟩
            have hvals : vals = vs.toArray := by rw [← scals_rep hs hargs]
            rw [hvals]
            exact semVal_run hv w
          · exact h'.elim
        · exact h'.elim
/-- The evaluator is right. -/
theorem evs_ok (hc : CtrOk cx) (hfit : Fit cx.P) : ∀ n, EvsOk cx.P (evs cx n)
  | 0 => ⟨fun _ _ _ _ h => h.elim, fun _ _ _ _ _ h => h.elim, ⟨fun _ _ => trivial, fun _ _ _ => trivial⟩, fun _ _ _ _ _ h => h.elim, fun _ _ _ => trivial⟩
  | n + 1 => by
    have ih := evs_ok hc hfit n
    exact ⟨fun c st x st' h => loop_sound rfl hfit ih c st x st' h, fun c rest st x st' h => jump_sound rfl hfit ih c rest st x st' h, ⟨fun c st => all_codeE ih.callsAll ih.all c st, fun c rest st => all_jumpE ih.callsAll ih.all c rest st⟩, call_sound hc rfl hfit ih, all_callE hc ih.callsAll ih.all⟩
end
end Go.Proofs.YtdlghljhgbakjaaDoor
