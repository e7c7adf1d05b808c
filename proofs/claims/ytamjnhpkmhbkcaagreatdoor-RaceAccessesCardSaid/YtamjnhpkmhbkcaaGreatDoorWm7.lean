/-
  PARTS, one behind the other: P0 Q1 QS Q2 Q3 Q4 W0.
-/
import Derived.Test.YtamjnhpkmhbkcaaGreatDoorWm6
import Derived.Test.YtamjnhpkmhbkcaaGreatDoorProg
import Derived.RecoverIn
import Derived.Shelf.LaysM
import Derived.Shelf.Pu.ParseUintPublic10
import Derived.Shelf.Pu.ErrVarParseUint
import Derived.Shelf.Strings.Search1
import Derived.Shelf.Strings.Search2
import Derived.Shelf.Strings.Search3
import Derived.Shelf.Strings.Shaped
/-
  PART: the program fits the evaluator; contracts by evaluation.
-/
namespace Go.Proofs.YtamjnhpkmhbkcaaGreatDoor
open Go.RowKit
theorem fitTry : Fit Tryz.prog := ⟨by kernel_rfl, by kernel_rfl⟩
/-- The answers alone. -/
noncomputable def Tree.ans : Tree (AV × St) → Tree AV
  | .ret b => .ret b.1
  | .br c t e => .br c t.ans e.ans
  | .side p t => .side p t.ans
  | .fail => .fail
theorem Tree.ans_hit : ∀ {t : Tree (AV × St)} {a : AV}, t.ans.hit a → ∃ s, t.hit (a, s)
  | .ret b, a, h => by cases h; exact ⟨b.2, rfl⟩
  | .br _ _ _, a, h => by
    rcases h with ⟨h1, h2⟩ | ⟨h1, h2⟩
    · obtain ⟨s, k⟩ := Tree.ans_hit h2; exact ⟨s, .inl ⟨h1, k⟩⟩
    · obtain ⟨s, k⟩ := Tree.ans_hit h2; exact ⟨s, .inr ⟨h1, k⟩⟩
  | .side _ t, a, h => by
    obtain ⟨s, k⟩ := Tree.ans_hit (t := t) h.2; exact ⟨s, h.1, k⟩
  | .fail, a, h => h.elim
theorem pure_ans {cx : Cx} (hc : CtrOk cx) (hfit : Fit cx.P) {n f : Nat} {args : List AV} {a : AV} (h : ((evs cx n).call f args .nil).ans.hit a) {d : Nat} (hp : plainA d a = true) : PureOk cx.P f args a :=
  let ⟨_, k⟩ := Tree.ans_hit h
  pure_of (evs_ok hc hfit n).calls k hp
theorem PureOk.pre {P : Program} {f : Nat} {args args' : List AV} {a : AV} (h : PureOk P f args' a) (ha : ∀ E vs, Reps E args vs → Reps E args' vs) : PureOk P f args a :=
  fun rr E w vals K hd hf hargs hK => h rr E w vals K hd hf (ha E _ hargs) hK
noncomputable def decL : List (Nat × Bool) → Nat → St → Option Bool
  | [], _, _ => none
  | (t, b) :: l, d, st => match Nat.beq t d with
    | true => some b
    | false => decL l d st
noncomputable def cx0 (dec : Nat → St → Option Bool) : Cx := ⟨Tryz.prog, fun _ _ _ => none, dec⟩
theorem cx0_ok (dec : Nat → St → Option Bool) : CtrOk (cx0 dec) := ⟨fun _ _ _ _ h => (by cases h), fun _ _ _ _ _ _ h => (by cases h)⟩
theorem pure_hitX {cx : Cx} (hc : CtrOk cx) (hP : cx.P = Tryz.prog) {n f : Nat} {args : List AV} {t : Tree AV} {a : AV} (h : ((evs cx n).call f args .nil).ans = t) (ha : t.hit a) (hp : plainA 4 a = true) : PureOk Tryz.prog f args a := by
  have := pure_ans (cx := cx) hc (by rw [hP]; exact fitTry) (n := n) (f := f) (args := args) (a := a) (by rw [h]; exact ha) hp
  rwa [hP] at this
/-- A law without a loop that is open. -/
theorem lawRuns_of_pure {f : Nat} {fn : Func} {c : Code} (hfn : Tryz.prog.funcs[f]? = some fn) (hb : fn.body = some c) {ks : List (Bool × List Ck)}
    (h : ∀ al, ArgsOk ks al → ∃ al' b, (∀ E vs, Reps E al vs → Reps E al' vs) ∧ PureOk Tryz.prog f al' b ∧ IsTrue b) : LawRuns Tryz.prog f ks := by
  intro w hg vals al hok hargs
  obtain ⟨al', b, hA, hp, ht⟩ := h al hok
  have hname' : ¬ fn.name = "runtime.NumGoroutine" := by simpa using (fit_func fitTry hfn hb).2
  rcases hp none (frozenE w hg) w vals (fun v w' => v = .bool true ∧ Quiet w w') (fun _ h => h) (frozenE_ok w hg) (hA _ _ hargs) (fun v w' hv hq => ⟨ht (frozenE w hg) v (hv _), hq⟩) with ⟨v, h1, _⟩ | ⟨_, h2⟩
  · have : (callFunc f vals).run Tryz.prog w = .ok (.enter f vals) w := by simp [callFunc, hfn, hname', hb]
    rw [this] at h1
    cases h1
  · exact CallsIn.mono h2 fun e w' ⟨v, h3, h4, h5⟩ => ⟨v, h3, h4, h5⟩
end Go.Proofs.YtamjnhpkmhbkcaaGreatDoor

/-
  PART: a function that defers one function which recovers: the rules; parse.Parse by them.
-/
namespace Go.Proofs.YtamjnhpkmhbkcaaGreatDoor
open Go.RowKit
/-- As Hold: these calls are deferred. -/
def HoldD (B : Start) (D : List Deferred) (s : St) (act : Act) (w : World) : Prop :=
  ∃ E, Pst (fun _ => True) B.E0 E B.H0 (hget s.hp) B.nx0 s.nx (List.range B.nx0) B.w0 w ∧ Fr B.N E s act ∧ (∀ x, E.dom x → x < s.nx) ∧ Wf s ∧ act.defers = D ∧ B.nx0 ≤ s.nx
def WpD (P : Program) (B : Start) (D : List Deferred) (c : Code) (s : St) (R : Ex → St → Act → World → Prop) : Prop :=
  ∀ (act : Act) (w : World) (Q : Exit → Act → World → Prop), HoldD B D s act w → (∀ x s' act' w', R x s' act' w' → Q (toExit x) act' w') → c.wpIn (wideR B.rr) 0 P Q act w
section
variable {P : Program} {B : Start} {D : List Deferred} {c a b : Code} {s : St} {R R1 : Ex → St → Act → World → Prop}
theorem wpd_ev {cx : Cx} {n : Nat} (hc : CtrOk cx) (hfit : Fit cx.P) (hcode : codeOk B.N c = true) (h : (codeE cx (evs cx n) c s).wp fun b => ∀ act' w', HoldD B D b.2 act' w' → R b.1 b.2 act' w') : WpD cx.P B D c s R := by
  intro act w Q ⟨E, p, hf, hb, hwf, hd, hnx⟩ hQ
  obtain ⟨⟨x, s'⟩, hh, hR⟩ := Tree.wp_hit h
  have hE := evs_ok hc hfit n
  have g : Grew s s' := (all_codeE (cx := cx) hE.callsAll hE.all c s).hit hh
  refine code_sound rfl hfit hE c s x s' hh B.N D B.rr (fun _ => True) E act w Q hcode hwf (fun _ _ => trivial) (fun x h1 _ hx => absurd (hb x hx) (Nat.not_lt.2 h1)) p.sim hf hd fun E' act' w' k1 k2 k3 => ?_
  refine hQ x s' act' w' (hR act' w' ⟨E', ?_, k1, fun y hy => ?_, g.wf hwf, k2, Nat.le_trans hnx g.nx⟩)
  · have p1 := p.more (wr' := List.range B.nx0 ++ s'.wr) fun x hx => List.mem_append.2 (.inl hx)
    have k4 := k3.more (wr' := List.range B.nx0 ++ s'.wr) fun x hx => List.mem_append.2 (.inr hx)
    exact (Pst.trans B.sim (fun _ _ => trivial) p1 k4 hnx g.nx).cut fun x _ hx => List.mem_range.2 hx
  · rcases k3.dom y hy with h | h
    · exact Nat.lt_of_lt_of_le (hb y h) g.nx
    · exact h.2
theorem wpd_seq (ha : WpD P B D a s fun x s1 act w => match x with | .norm => ∀ Q, (∀ x s' act' w', R x s' act' w' → Q (toExit x) act' w') → b.wpIn (wideR B.rr) 0 P Q act w | x => R x s1 act w) : WpD P B D (.seq a b) s R := fun act w Q hs hQ => by
  refine wpIn_seq (ha act w _ hs fun x s1 act' w' k1 => ?_)
  cases x with
  | norm => exact k1 Q hQ
  | exit id => exact hQ _ s1 act' w' k1
  | goto l => exact hQ _ s1 act' w' k1
  | ret => exact hQ _ s1 act' w' k1
/-- Pieces by the evaluator, one behind the other; what is behind them. -/
theorem wpd_evs {cx : Cx} {n : Nat} (hc : CtrOk cx) (hfit : Fit cx.P) : ∀ (l : List Code) (s : St), l ≠ [] → (l.all fun a => codeOk B.N a) = true →
    (codeE cx (evs cx n) (joins l) s).wp (fun b => match b.1 with | .norm => WpD cx.P B D c b.2 R | x => ∀ act' w', HoldD B D b.2 act' w' → R x b.2 act' w') → WpD cx.P B D (seqs l c) s R
  | [], _, h, _, _ => absurd rfl h
  | [a], s, _, hok, h => by
    simp only [List.all_cons, List.all_nil, Bool.and_true] at hok
    refine wpd_seq (wpd_ev hc hfit hok (Tree.wp_imp (fun q hq act' w' hH => ?_) h))
    obtain ⟨x, s'⟩ := q
    cases x with
    | norm => exact fun Q hQ => hq act' w' Q hH hQ
    | exit id => exact hq act' w' hH
    | goto l => exact hq act' w' hH
    | ret => exact hq act' w' hH
  | a :: b :: l, s, _, hok, h => by
    simp only [List.all_cons, Bool.and_eq_true] at hok
    have h' := Tree.wp_bind (show ((codeE cx (evs cx n) a s).bind fun (e, s) => match e with | .norm => codeE cx (evs cx n) (joins (b :: l)) s | e => .ret (e, s)).wp _ from h)
    refine wpd_seq (wpd_ev hc hfit hok.1 (Tree.wp_imp (fun q hq act' w' hH => ?_) h'))
    obtain ⟨x, s'⟩ := q
    cases x with
    | norm => exact fun Q hQ => wpd_evs hc hfit (b :: l) s' (by simp) (by simp [hok.2]) hq act' w' Q hH hQ
    | exit id => exact hq act' w' hH
    | goto l => exact hq act' w' hH
    | ret => exact hq act' w' hH
/-- A region that makes a function of three slots and defers it. -/
theorem wpd_defer {id g d1 d2 d3 dt : Nat} {ty1 ty2 : TypeId} {ps1 ps2 : String} {af1 af2} {ops : Array Oper}
    (hops : ops = #[{ dst := some dt, op := .makeFunc (.func g) #[] #[.tmp d1, .tmp d2, .tmp d3], type := ty1, pos := ps1, after := af1, guard := none }, { dst := none, op := .defer { callee := .value (.tmp dt), args := #[], argTypes := #[] }, type := ty2, pos := ps2, after := af2, guard := none }])
    (hdt : dt < B.N) (hrr : B.rr = none)
    (h : ∀ v1 v2 v3, WpD P B ({ target := .fn (.func g) #[v1, v2, v3], args := #[] } :: D) c (s.put (some dt) .unk) R) : WpD P B D (.seq (.region id ops false) c) s R := by
  intro act w Q ⟨E, p, hf, hb, hwf, hd, hnx⟩ hQ
  subst hops
  refine wpIn_seq (wpIn_region ?_)
  have hmf : ∀ (fn : Fn) (first cap : Array Value) (w : World), (Instr.makeFunc fn first cap).run P w = .ok (.func fn first cap) w := fun _ _ _ _ => rfl
  have hsz : dt < act.tmps.size := by rw [hf.size]; exact hdt
  have hro : (wideR B.rr).round = none := hrr
  have hfn : ∀ f, (wideR B.rr).fn f := fun _ => trivial
  simp [wpOpsIn, Region.wanted, go_sem, hmf, hsz, hro, Oper.semAt_none, Exit.then, hfn]
  refine h _ _ _ _ w Q ⟨E, p, ⟨?_, fun d => ?_⟩, hb, hwf, by rw [hd], hnx⟩ hQ
  · rw [Array.size_setIfInBounds]; exact hf.size
  · rw [getD_put hsz]
    show Rep E (look ((dt, AV.unk) :: s.sl) d) _
    rw [look_cons]
    by_cases e : dt = d
    · rw [if_pos e, if_pos e]; exact .unk _
    · rw [if_neg e, if_neg e]; exact hf.slot d
/-- These deferred calls do nothing where the function returns. -/
def Idle (P : Program) (D : List Deferred) : Prop := ∀ (fn : Func) (tmps : Array Value) (R : Ending → World → Prop) (w : World), LeavesIn Fence.wide 0 P fn tmps R [] .returning w → LeavesIn Fence.wide 0 P fn tmps R D .returning w
theorem idle_nil : Idle P [] := fun _ _ _ _ h => h
theorem idle_one {g : Nat} {gn : Func} {gc : Code} {cap : Array Value} (hfit : Fit P) (hg : P.funcs[g]? = some gn) (hgb : gn.body = some gc)
    (h : ∀ w, CallsDIn Fence.wide 0 P g cap .returning w fun e u' w' => e = .returned (.tuple #[]) ∧ u' = .returning ∧ w' = w) : Idle P [{ target := .fn (.func g) cap, args := #[] }] := by
  intro fn tmps R w hR
  have hname' : ¬ gn.name = "runtime.NumGoroutine" := by simpa using (fit_func hfit hg hgb).2
  refine leavesIn_cons (f := g) (args := cap) (by simp) (by simp [Fence.wide]) ?_ (fun _ _ => trivial) ?_
  · simp [invoke, callFunc, hg, hname', hgb, go_sem]
  · refine (h w).mono ?_
    rintro e u' w'' ⟨rfl, rfl, rfl⟩
    simpa [settle] using hR
/-- Of a function that defers. -/
theorem frz_of_wpd {f : Nat} {fn : Func} {c : Code} (hfit : Fit P) (hfn : P.funcs[f]? = some fn) (hb : fn.body = some c) {args : List AV} (hle : args.length ≤ fn.ntmps) {a : AV} {d : Nat}
    (h : ∀ (E : Env) (w : World) (hd : ∀ x, ¬ E.dom x) (hf : FzOk E w), WpD P (begins fn.ntmps E w hd hf) [] c (entry args) fun x s act w' => x = .ret ∧ (∃ D', Idle P D' ∧ HoldD (begins fn.ntmps E w hd hf) D' s act w') ∧ (ressA P fn.results.toList s).wp fun b => ∀ E v, Rep E (frzD b.2.hp d (oneA b.1)) v → Rep E a v) : FrzOk P f args a := by
  intro rr E w vals K hd hf hargs hK
  have hname' : ¬ fn.name = "runtime.NumGoroutine" := by simpa using (fit_func hfit hfn hb).2
  refine .inr ⟨by simp [callFunc, hfn, hname', hb], ?_⟩
  have hc : CallsIn Fence.wide 0 P f vals w fun e w' => ∃ v, e = .returned v ∧ K v w' := by
    refine callsIn_of_wp_defers hfn hb trivial ?_ rfl
    refine h E w hd hf _ w _ ⟨E, Pst.refl (Start.sim (begins fn.ntmps E w hd hf)), params_fr (st := .nil) hargs hle, fun x hx => absurd hx (hd x), fun x hx => absurd rfl hx, rfl, Nat.le_refl _⟩ fun x s act' w' ⟨hx, ⟨D', hI, E', p, hfr, hbd, hwf, hdf, hnx⟩, hw⟩ => ?_
    subst hx
    obtain ⟨⟨vs1, s1⟩, hh, hV⟩ := Tree.wp_hit hw
    obtain ⟨⟨_, _, e3, e4, _⟩, k2⟩ := ressA_ok (N := fn.ntmps) hh
    show LeavesIn Fence.wide 0 P fn act'.tmps (fun e w' => ∃ v, e = .returned v ∧ K v w') act'.defers .returning w'
    rw [hdf]
    refine hI _ _ _ _ ?_
    obtain ⟨vs, r1, r2⟩ := k2 (fun _ => True) E' act' w' (fun _ _ => trivial) p.sim hfr
    have p' : Pst (fun _ => True) E E' (fun _ => none) (hget s.hp) 0 s.nx [] w w' := p
    have p2 : Pst (fun _ => True) E E' (fun _ => none) (hget s1.hp) 0 s1.nx s1.wr w w' := by
      rw [e3, e4]
      exact p'.more fun x hx => by cases hx
    obtain ⟨E2, h1, h2, h3, h4, h5, h6⟩ := frz_post (s := s1) (d := d) p2 hd (oneA_ok r2)
    exact ⟨_, results_run r1, _, rfl, hK _ w' E2 h1 h2 h3 h4 (hV E2 _ h5) h6⟩
  cases rr with
  | none => exact hc
  | some l => exact hc.inRound l
end
end Go.Proofs.YtamjnhpkmhbkcaaGreatDoor

/-
  PART: contracts of the library's functions, laid over this program (written by the kit's lay-plain.mjs, cut by shelfcut.py).
-/
namespace Go.Proofs.YtamjnhpkmhbkcaaGreatDoor
open Go.Shelf Go.RowKit
def shf_lays144_ren : Go.Shelf.Ren := ⟨fun | 144 => 223 | 143 => 270 | 219 => 308 | 217 => 317 | 225 => 324 | 224 => 325 | 267 => 326 | 266 => 333 | 314 => 335 | n => n, fun | 9 => 9 | 4 => 4 | 3 => 3 | 5 => 5 | 46 => 310 | 146 => 369 | 51 => 368 | n => n, fun | 1 => 4 | n => n⟩
theorem shf_lays144 : Go.Proofs.Lays.n144 Tryz.prog shf_lays144_ren := {
  mixed := by kernel_rfl
  f143 := Tryz.func270.trans (congrArg some (by kernel_rfl))
  f144 := Tryz.func223.trans (congrArg some (by kernel_rfl))
  f217 := Tryz.func317.trans (congrArg some (by kernel_rfl))
  f219 := Tryz.func308.trans (congrArg some (by kernel_rfl))
  f224 := Tryz.func325.trans (congrArg some (by kernel_rfl))
  f225 := Tryz.func324.trans (congrArg some (by kernel_rfl))
  f266 := Tryz.func333.trans (congrArg some (by kernel_rfl))
  f267 := Tryz.func326.trans (congrArg some (by kernel_rfl))
  f314 := Tryz.func335.trans (congrArg some (by kernel_rfl))
  t3 := Tryz.underlying3
  a3 := Tryz.isAgg3
  z3 := Tryz.sizeOf3
  v3 := Tryz.zeroValue3
  t4 := Tryz.underlying4
  a4 := Tryz.isAgg4
  z4 := Tryz.sizeOf4
  v4 := Tryz.zeroValue4
  t5 := Tryz.underlying5
  a5 := Tryz.isAgg5
  z5 := Tryz.sizeOf5
  v5 := Tryz.zeroValue5
  t9 := Tryz.underlying9
  a9 := Tryz.isAgg9
  z9 := Tryz.sizeOf9
  v9 := Tryz.zeroValue9
  t46 := Tryz.underlying310
  a46 := Tryz.isAgg310
  z46 := Tryz.sizeOf310
  v46 := Tryz.zeroValue310
  t51 := Tryz.underlying368
  a51 := Tryz.isAgg368
  z51 := Tryz.sizeOf368
  v51 := Tryz.zeroValue368
  t146 := Tryz.underlying369
  a146 := Tryz.isAgg369
  z146 := Tryz.sizeOf369
  v146 := Tryz.zeroValue369
  g1 := by kernel_rfl }
theorem shf_strings_Contains (s sub : ByteArray) (m : Int) (w : World) (hs : s.size < 4294967281) (hm : w.cell? ⟨4, 0, none⟩ = some (.int .i64 m)) :
    Calls Tryz.prog 223 #[.string s, .string sub] w fun e w' => e = .returned (.bool (Lib.contains s.data.toList sub.data.toList)) ∧ w' = w := Any.strings_Contains shf_lays144 s sub m w hs hm
def shf_laysPu14_ren : Go.Shelf.Ren := ⟨fun | 14 => 160 | 16 => 221 | 17 => 222 | 19 => 264 | 20 => 265 | 21 => 266 | 22 => 267 | 23 => 268 | 24 => 269 | 25 => 306 | 27 => 213 | 26 => 307 | 28 => 257 | 29 => 305 | 30 => 238 | 31 => 239 | 32 => 240 | 33 => 241 | 35 => 284 | 34 => 283 | 36 => 285 | 37 => 286 | 38 => 287 | 39 => 315 | 40 => 316 | n => n, fun | 9 => 9 | 3 => 3 | 22 => 42 | 24 => 221 | 25 => 289 | 4 => 4 | 34 => 395 | 5 => 5 | 36 => 310 | 37 => 217 | 0 => 0 | 39 => 396 | 21 => 21 | 44 => 427 | 47 => 316 | 50 => 437 | 48 => 435 | 2 => 2 | 52 => 373 | 55 => 376 | 59 => 408 | 60 => 368 | 20 => 20 | 61 => 409 | 65 => 440 | 66 => 441 | 67 => 58 | n => n, fun | 0 => 5 | 1 => 6 | 2 => 1 | 3 => 7 | 4 => 8 | n => n⟩
theorem shf_laysPu14 : Go.Proofs.LaysPu.n14 Tryz.prog shf_laysPu14_ren := {
  mixed := by kernel_rfl
  f14 := Tryz.func160.trans (congrArg some (by kernel_rfl))
  f16 := Tryz.func221.trans (congrArg some (by kernel_rfl))
  f17 := Tryz.func222.trans (congrArg some (by kernel_rfl))
  f19 := Tryz.func264.trans (congrArg some (by kernel_rfl))
  f20 := Tryz.func265.trans (congrArg some (by kernel_rfl))
  f21 := Tryz.func266.trans (congrArg some (by kernel_rfl))
  f22 := Tryz.func267.trans (congrArg some (by kernel_rfl))
  f23 := Tryz.func268.trans (congrArg some (by kernel_rfl))
  f24 := Tryz.func269.trans (congrArg some (by kernel_rfl))
  f25 := Tryz.func306.trans (congrArg some (by kernel_rfl))
  f26 := Tryz.func307.trans (congrArg some (by kernel_rfl))
  f27 := Tryz.func213.trans (congrArg some (by kernel_rfl))
  f28 := Tryz.func257.trans (congrArg some (by kernel_rfl))
  f29 := Tryz.func305.trans (congrArg some (by kernel_rfl))
  f30 := Tryz.func238.trans (congrArg some (by kernel_rfl))
  f31 := Tryz.func239.trans (congrArg some (by kernel_rfl))
  f32 := Tryz.func240.trans (congrArg some (by kernel_rfl))
  f33 := Tryz.func241.trans (congrArg some (by kernel_rfl))
  f34 := Tryz.func283.trans (congrArg some (by kernel_rfl))
  f35 := Tryz.func284.trans (congrArg some (by kernel_rfl))
  f36 := Tryz.func285.trans (congrArg some (by kernel_rfl))
  f37 := Tryz.func286.trans (congrArg some (by kernel_rfl))
  f38 := Tryz.func287.trans (congrArg some (by kernel_rfl))
  f39 := Tryz.func315.trans (congrArg some (by kernel_rfl))
  f40 := Tryz.func316.trans (congrArg some (by kernel_rfl))
  t0 := Tryz.underlying0
  a0 := Tryz.isAgg0
  z0 := Tryz.sizeOf0
  v0 := Tryz.zeroValue0
  i0 := by kernel_rfl
  t2 := Tryz.underlying2
  a2 := Tryz.isAgg2
  z2 := Tryz.sizeOf2
  v2 := Tryz.zeroValue2
  i2 := by kernel_rfl
  t3 := Tryz.underlying3
  a3 := Tryz.isAgg3
  z3 := Tryz.sizeOf3
  v3 := Tryz.zeroValue3
  i3 := by kernel_rfl
  t4 := Tryz.underlying4
  a4 := Tryz.isAgg4
  z4 := Tryz.sizeOf4
  v4 := Tryz.zeroValue4
  i4 := by kernel_rfl
  t5 := Tryz.underlying5
  a5 := Tryz.isAgg5
  z5 := Tryz.sizeOf5
  v5 := Tryz.zeroValue5
  i5 := by kernel_rfl
  t9 := Tryz.underlying9
  a9 := Tryz.isAgg9
  z9 := Tryz.sizeOf9
  v9 := Tryz.zeroValue9
  i9 := by kernel_rfl
  t20 := Tryz.underlying20
  a20 := Tryz.isAgg20
  z20 := Tryz.sizeOf20
  v20 := Tryz.zeroValue20
  i20 := by kernel_rfl
  t21 := Tryz.underlying21
  a21 := Tryz.isAgg21
  z21 := Tryz.sizeOf21
  v21 := Tryz.zeroValue21
  i21 := by kernel_rfl
  t22 := Tryz.underlying42
  a22 := Tryz.isAgg42
  z22 := Tryz.sizeOf42
  v22 := Tryz.zeroValue42
  i22 := by kernel_rfl
  t24 := Tryz.underlying221
  a24 := Tryz.isAgg221
  z24 := Tryz.sizeOf221
  v24 := Tryz.zeroValue221
  i24 := by kernel_rfl
  t25 := Tryz.underlying289
  a25 := Tryz.isAgg289
  z25 := Tryz.sizeOf289
  v25 := Tryz.zeroValue289
  i25 := by kernel_rfl
  t34 := Tryz.underlying395
  a34 := Tryz.isAgg395
  z34 := Tryz.sizeOf395
  v34 := Tryz.zeroValue395
  i34 := by kernel_rfl
  c34 := by kernel_rfl
  t36 := Tryz.underlying310
  a36 := Tryz.isAgg310
  z36 := Tryz.sizeOf310
  v36 := Tryz.zeroValue310
  i36 := by kernel_rfl
  t37 := Tryz.underlying217
  a37 := Tryz.isAgg217
  z37 := Tryz.sizeOf217
  v37 := Tryz.zeroValue217
  i37 := by kernel_rfl
  t39 := Tryz.underlying396
  a39 := Tryz.isAgg396
  z39 := Tryz.sizeOf396
  v39 := Tryz.zeroValue396
  i39 := by kernel_rfl
  t44 := Tryz.underlying427
  a44 := Tryz.isAgg427
  z44 := Tryz.sizeOf427
  v44 := Tryz.zeroValue427
  i44 := by kernel_rfl
  t47 := Tryz.underlying316
  a47 := Tryz.isAgg316
  z47 := Tryz.sizeOf316
  v47 := Tryz.zeroValue316
  i47 := by kernel_rfl
  t48 := Tryz.underlying435
  a48 := Tryz.isAgg435
  z48 := Tryz.sizeOf435
  v48 := Tryz.zeroValue435
  i48 := by kernel_rfl
  t50 := Tryz.underlying437
  a50 := Tryz.isAgg437
  z50 := Tryz.sizeOf437
  v50 := Tryz.zeroValue437
  i50 := by kernel_rfl
  t52 := Tryz.underlying373
  a52 := Tryz.isAgg373
  z52 := Tryz.sizeOf373
  v52 := Tryz.zeroValue373
  i52 := by kernel_rfl
  t55 := Tryz.underlying376
  a55 := Tryz.isAgg376
  z55 := Tryz.sizeOf376
  v55 := Tryz.zeroValue376
  i55 := by kernel_rfl
  t59 := Tryz.underlying408
  a59 := Tryz.isAgg408
  z59 := Tryz.sizeOf408
  v59 := Tryz.zeroValue408
  i59 := by kernel_rfl
  t60 := Tryz.underlying368
  a60 := Tryz.isAgg368
  z60 := Tryz.sizeOf368
  v60 := Tryz.zeroValue368
  i60 := by kernel_rfl
  t61 := Tryz.underlying409
  a61 := Tryz.isAgg409
  z61 := Tryz.sizeOf409
  t65 := Tryz.underlying440
  a65 := Tryz.isAgg440
  z65 := Tryz.sizeOf440
  v65 := Tryz.zeroValue440
  i65 := by kernel_rfl
  t66 := Tryz.underlying441
  a66 := Tryz.isAgg441
  z66 := Tryz.sizeOf441
  v66 := Tryz.zeroValue441
  i66 := by kernel_rfl
  t67 := Tryz.underlying58
  a67 := Tryz.isAgg58
  z67 := Tryz.sizeOf58
  v67 := Tryz.zeroValue58
  i67 := by kernel_rfl
  g0 := by kernel_rfl
  m0 := by kernel_rfl
  g1 := by kernel_rfl
  m1 := by kernel_rfl
  g2 := by kernel_rfl
  m2 := by kernel_rfl
  g3 := by kernel_rfl
  m3 := by kernel_rfl
  g4 := by kernel_rfl
  m4 := by kernel_rfl }
theorem shf_strconv_ParseUint_10_at64_ok (s : ByteArray) (hmax : s.size ≤ 9223372036854775806) (u : Nat) (h : Lib.parseUintB 64 s.data.toList = .ok u) (w : World) :
    Calls Tryz.prog 160 #[.string s, .int .i64 10, .int .i64 64] w fun e w' => e = .returned (.tuple #[.int .u64 u, .nilIface]) ∧ (w' = w ∨ w' = Lib.bytesWorld w 5 s) := Any.strconv_ParseUint_10_at64_ok shf_laysPu14 s hmax u h w
theorem shf_strconv_ParseUint_10_at64_range (s : ByteArray) (hlim : s.size ≤ 281474976710656) (h : Lib.parseUintB 64 s.data.toList = .range) (ev : Value) (w : World) (hv : w.cell? ⟨6, 0, none⟩ = some ev) (hev : ev = .nilIface ∨ ∃ te pe, ev = .iface te pe) :
    Calls Tryz.prog 160 #[.string s, .int .i64 10, .int .i64 64] w fun e w' => ∃ N, e = .returned (.tuple #[.int .u64 18446744073709551615, .iface 396 (.pointer (some ⟨N, 0, none⟩))]) ∧ w.heap.size ≤ N ∧ w'.heap[N]? = some (.cells #[.string ⟨#[80, 97, 114, 115, 101, 85, 105, 110, 116]⟩, .string s, ev] 427 (0, 0)) ∧ Below w.heap.size w w' := Any.strconv_ParseUint_10_at64_range shf_laysPu14 s hlim h ev w hv hev
end Go.Proofs.YtamjnhpkmhbkcaaGreatDoor

/-
  PART: contracts out of calls that are proved by other means; strings.Contains, strconv.ParseUint where their parts are closed; a table with them.
-/
namespace Go.Proofs.YtamjnhpkmhbkcaaGreatDoor
open Go.RowKit
theorem pure_of_below {P : Program} {f : Nat} {fn : Func} {c : Code} (hfit : Fit P) (hfn : P.funcs[f]? = some fn) (hb : fn.body = some c) {args : List AV} {v0 : Value} (h1 : one1 v0 = true)
    (h : ∀ (E : Env) (w : World) (vals : Array Value), FzOk E w → Reps E args vals.toList → Calls P f vals w fun e w' => e = .returned v0 ∧ Below w.heap.size w w') : PureOk P f args (.v v0) := by
  intro rr E w vals K hd hf hr hK
  have hname' : ¬ fn.name = "runtime.NumGoroutine" := by simpa using (fit_func hfit hfn hb).2
  refine .inr ⟨by simp [callFunc, hfn, hname', hb], ?_⟩
  have hc : CallsIn Fence.wide 0 P f vals w fun e w' => ∃ v, e = .returned v ∧ K v w' := callsIn_wide.2 ((h E w vals hf hr).mono fun e w' ⟨h2, h3⟩ => by
    subst h2
    exact ⟨v0, rfl, hK v0 _ (fun E => .v _ h1) ⟨fun b hb => h3.block b hb, h3.size, h3.os, h3.tape, h3.output⟩⟩)
  cases rr with
  | none => exact hc
  | some l => exact hc.inRound l
theorem frz_of_calls {P : Program} {f : Nat} {fn : Func} {c : Code} (hfit : Fit P) (hfn : P.funcs[f]? = some fn) (hb : fn.body = some c) {args : List AV} {a : AV}
    (h : ∀ (E : Env) (w : World) (vals : Array Value), FzOk E w → Reps E args vals.toList → Calls P f vals w fun e w' => ∃ v, e = .returned v ∧ Rep E a v ∧ Below w.heap.size w w') : FrzOk P f args a := by
  intro rr E w vals K hd hf hr hK
  have hname' : ¬ fn.name = "runtime.NumGoroutine" := by simpa using (fit_func hfit hfn hb).2
  refine .inr ⟨by simp [callFunc, hfn, hname', hb], ?_⟩
  have hc : CallsIn Fence.wide 0 P f vals w fun e w' => ∃ v, e = .returned v ∧ K v w' := callsIn_wide.2 ((h E w vals hf hr).mono fun e w' ⟨v, h2, h3, h4⟩ => by
    have hq : Quiet w w' := ⟨fun b hb => h4.block b hb, h4.size, h4.os, h4.tape, h4.output⟩
    exact ⟨v, h2, hK v w' E hd (fun _ _ h => h) (fun _ _ => rfl) (fun b c hb => by
      obtain ⟨ty, fr, h⟩ := hf b c hb
      exact ⟨ty, fr, (hq.old b (blkW_some_lt h)).trans h⟩) h3 hq⟩)
  cases rr with
  | none => exact hc
  | some l => exact hc.inRound l
theorem int_cell {E : Env} {w : World} (hf : FzOk E w) : ∃ z, w.cell? ⟨4, 0, none⟩ = some (.int .i64 z) := by
  obtain ⟨c, h1, z, h2⟩ := (E.gok 4).2 .int rfl
  obtain ⟨ty, fr, h3⟩ := hf 4 c h1
  subst h2
  refine ⟨z, ?_⟩
  have h3 : w.heap[4]? = some (.cells #[.int .i64 z] ty fr) := h3
  simp [World.cell?, h3]
theorem contains_lit (S l : ByteArray) (hS : S.size < 4294967281) : PureOk Tryz.prog 223 [.lit (.string S), .lit (.string l)] (.v (.bool (Lib.contains S.data.toList l.data.toList))) :=
  pure_of_below fitTry Tryz.func223 (c := codeOf Tryz.f223) (by kernel_rfl) rfl fun E w vals hf hr => by
    obtain ⟨z, hz⟩ := int_cell hf
    have hv : vals = #[.string S, .string l] := Array.ext' (by
      generalize vals.toList = vs at hr
      cases hr with | cons h1 h => cases h with | cons h2 h => cases h; cases h1; cases h2; rfl)
    subst hv
    exact (shf_strings_Contains S l z w hS hz).mono fun e w' ⟨q1, q2⟩ => ⟨q1, q2 ▸ Below.refl _ _⟩
noncomputable section
noncomputable def numL (s : ByteArray) : List AV := [.lit (.string s), .lit (.int .i64 10), .lit (.int .i64 64)]
theorem num_lit {s : ByteArray} {u : Nat} (hl : s.size ≤ 9223372036854775806) (h : Lib.parseUintB 64 s.data.toList = .ok u) : FrzOk Tryz.prog 160 (numL s) (.tup [.lit (.int .u64 (u : Nat)), .lit .nilIface]) :=
  frz_of_calls fitTry Tryz.func160 (c := codeOf Tryz.f160) (by kernel_rfl) fun E w vals hf hr => by
    have hv : vals = #[.string s, .int .i64 10, .int .i64 64] := Array.ext' (by
      unfold numL at hr
      generalize vals.toList = vs at hr
      cases hr with | cons h1 h => cases h with | cons h2 h => cases h with | cons h3 h => cases h; cases h1; cases h2; cases h3; rfl)
    subst hv
    refine (shf_strconv_ParseUint_10_at64_ok s hl u h w).mono fun e w' ⟨h1, h2⟩ => ⟨_, h1, .tup (.cons (.lit _ rfl) (.cons (.lit _ rfl) .nil)), ?_⟩
    rcases h2 with rfl | rfl
    · exact Below.refl _ _
    · exact Lib.bytesWorld_below w 5 s
/-- strings.Contains. -/
noncomputable def tabC (f : Nat) (args : List AV) : Option (Tree AV) := match f, args with
  | 223, [.lit (.string S), .lit (.string l)] => some (closed true (S.size < 4294967281) (.ret (.lit (.bool (Lib.contains S.data.toList l.data.toList)))))
  | _, _ => none
theorem lit_of_v {v : Value} : ∀ E u, Rep E (.v v) u → Rep E (.lit v) u := fun E u h => by cases h with | v v h => exact .lit _ h
theorem v_of_lit {v : Value} : ∀ E u, Rep E (.lit v) u → Rep E (.v v) u := fun E u h => by cases h with | lit v h => exact .v _ h
theorem tabC_ok : TabOk Tryz.prog tabC := by
  intro f args t a ht hh
  unfold tabC at ht
  split at ht
  · cases ht
    obtain ⟨h1, h4⟩ := closed_hit hh
    cases h4
    exact (contains_lit _ _ h1).imp fun v hv E => lit_of_v _ _ (hv E)
  · cases ht
/-- strconv.ParseUint. -/
noncomputable def tabN (f : Nat) (args : List AV) : Option (Tree AV) := match f, args with
  | 160, [.lit (.string s), .lit (.int .i64 10), .lit (.int .i64 64)] => match Lib.parseUintB 64 s.data.toList with
    | .ok u => some (closed true (s.size ≤ 9223372036854775806) (.ret (.tup [.lit (.int .u64 (u : Nat)), .lit .nilIface])))
    | _ => none
  | _, _ => none
theorem tabN_ok : TabFOk Tryz.prog tabN := by
  intro f args t a ht hh
  unfold tabN at ht
  split at ht
  · split at ht
    · rename_i hu
      cases ht
      obtain ⟨h1, h4⟩ := closed_hit hh
      cases h4
      exact num_lit h1 hu
    · cases ht
  · cases ht
noncomputable def cxC (dec : Nat → St → Option Bool) : Cx := ⟨Tryz.prog, ctrOf2 tabC tabN, dec⟩
theorem cxC_ok (dec : Nat → St → Option Bool) : CtrOk (cxC dec) := ctrOf2_ok tabC_ok tabN_ok dec
end
end Go.Proofs.YtamjnhpkmhbkcaaGreatDoor

/-
  PART: parse.Parse: what it answers where nothing panics, by evaluation.
-/
namespace Go.Proofs.YtamjnhpkmhbkcaaGreatDoor
open Go.RowKit
theorem Tree.hit_wp {α : Type} {Q : α → Prop} : ∀ {t : Tree α} {a : α}, t.hit a → Q a → t.wp Q
  | .ret b, a, h, q => by cases h; exact q
  | .br c t e, a, h, q => by
    rcases h with ⟨h1, h2⟩ | ⟨h1, h2⟩
    · exact ⟨fun _ => Tree.hit_wp h2 q, fun h => (by rw [h1] at h; cases h)⟩
    · exact ⟨fun h => (by rw [h1] at h; cases h), fun _ => Tree.hit_wp h2 q⟩
  | .side p t, a, h, q => ⟨h.1, Tree.hit_wp (t := t) h.2 q⟩
  | .fail, a, h, _ => h.elim
noncomputable section
noncomputable def c26 : Code := codeOf Tryz.f26
noncomputable def c93 : Code := codeOf Tryz.f93
def opsR : Code → Array Oper
  | .region _ ops _ => ops
  | _ => #[]
noncomputable def ops26 : Array Oper := opsR (cl (behind 3 c26))
noncomputable def tl26 : Code := behind 4 c26
theorem code26 : c26 = seqs (firsts 3 c26) (.seq (.region 4 ops26 false) tl26) := by kernel_rfl
theorem idle93 (v1 v2 v3 : Value) (w : World) : CallsDIn Fence.wide 0 Tryz.prog 93 #[v1, v2, v3] .returning w fun e u' w' => e = .returned (.tuple #[]) ∧ u' = .returning ∧ w' = w := by
  refine callsDIn_of_wpSIn Tryz.func93 rfl trivial fun c₀ cs hu => ?_
  have hfn : ∀ f, Fence.wide.fn f := fun _ => trivial
  apply wpSIn_seq
  apply wpSIn_region
  simp [wpOpsSIn, go_sem, recoverD, hu, Tryz.ntmps93, Exit.thenS, hfn]
  apply wpSIn_seq
  apply wpSIn_region
  simp [wpOpsSIn, go_sem, Exit.thenS, hfn, Tryz.underlying20]
  refine wpSIn_cond (t := false) (by simp [Act.eval, Array.replicate]) ?_
  simp only [Bool.false_eq_true, if_false]
  refine wpSIn_of_wpIn rfl (wpIn_skip ?_)
  cases c₀
  simp_all [bodyPostS, results, Tryz.results93]
theorem parse_idle (v1 v2 v3 : Value) : Idle Tryz.prog [{ target := .fn (.func 93) #[v1, v2, v3], args := #[] }] :=
  idle_one fitTry Tryz.func93 (gc := c93) (by kernel_rfl) fun w => idle93 v1 v2 v3 w
noncomputable def outT (s : St) : Tree AV := (ressA Tryz.prog Tryz.f26.results.toList s).map fun b => frzD b.2.hp 40 (oneA b.1)
noncomputable def ifRet (x : Ex) (t : Tree AV) : Tree AV := match x with
  | .ret => t
  | _ => .fail
/-- What Parse answers. -/
noncomputable def parseT (cx : Cx) (n : Nat) (args : List AV) : Tree AV :=
  (codeE cx (evs cx n) (joins (firsts 3 c26)) (entry args)).bind fun b => match b.1 with
    | .ret => outT b.2
    | .norm => (codeE cx (evs cx n) tl26 (b.2.put (some 18) .unk)).bind fun q => ifRet q.1 (outT q.2)
    | _ => .fail
theorem outT_wp {s : St} {Q : AV → Prop} (h : (outT s).wp Q) : (ressA Tryz.prog Tryz.f26.results.toList s).wp fun b => Q (frzD b.2.hp 40 (oneA b.1)) := Tree.wp_map h
theorem ifRet_wp {x : Ex} {t : Tree AV} {Q : AV → Prop} (h : (ifRet x t).wp Q) : x = .ret ∧ t.wp Q := by
  cases x with
  | ret => exact ⟨rfl, h⟩
  | norm => exact h.elim
  | exit id => exact h.elim
  | goto l => exact h.elim
theorem parse_frz {cx : Cx} (hc : CtrOk cx) (hP : cx.P = Tryz.prog) {n : Nat} {args : List AV} (hle : args.length ≤ Tryz.f26.ntmps) {a : AV} (h : (parseT cx n args).wp fun b => ∀ E v, Rep E b v → Rep E a v) : FrzOk Tryz.prog 26 args a := by
  refine frz_of_wpd (d := 40) fitTry Tryz.func26 (c := c26) (by kernel_rfl) hle fun E w hd hf => ?_
  rw [code26]
  have hfit : Fit cx.P := by rw [hP]; exact fitTry
  rw [← hP]
  refine wpd_evs hc hfit _ _ (by simp [firsts]) (show (firsts 3 c26).all (fun a => codeOk Tryz.f26.ntmps a) = true by kernel_rfl) (Tree.wp_imp (fun b hb => ?_) (Tree.wp_bind h))
  obtain ⟨x, s⟩ := b
  cases x with
  | ret => exact fun act' w' hH => ⟨rfl, ⟨[], idle_nil, hH⟩, hP ▸ outT_wp hb⟩
  | exit id => exact hb.elim
  | goto l => exact hb.elim
  | norm =>
    refine wpd_defer (g := 93) (d1 := 2) (d2 := 3) (d3 := 4) (dt := 18) (show ops26 = _ from rfl) (show 18 < Tryz.f26.ntmps by decide) rfl fun v1 v2 v3 => ?_
    refine wpd_ev hc hfit (show codeOk Tryz.f26.ntmps tl26 = true by kernel_rfl) (Tree.wp_imp (fun q hq act' w' hH => ?_) (Tree.wp_bind hb))
    obtain ⟨h1, h2⟩ := ifRet_wp hq
    exact ⟨h1, ⟨_, hP ▸ parse_idle v1 v2 v3, hH⟩, hP ▸ outT_wp h2⟩
end
end Go.Proofs.YtamjnhpkmhbkcaaGreatDoor

/-
  PART: closed runs: a table with Parse; the wakes.
-/
namespace Go.Proofs.YtamjnhpkmhbkcaaGreatDoor
open Go.RowKit
noncomputable section
/-- lex.Lex of closed texts: its tokens stay as they are. -/
noncomputable def tabL (f : Nat) (args : List AV) : Option (Tree AV) := match f, args with
  | 92, [.lit (.string s)] => match ((evs (cxC (decL [])) 200).call 92 [.lit (.string s)] .nil).frz with
    | .ret a => some (.ret a)
    | _ => none
  | f, args => tabN f args
theorem tabL_ok : TabFOk Tryz.prog tabL := by
  intro f args t a ht hh
  unfold tabL at ht
  split at ht
  · split at ht
    · rename_i b hb
      cases ht
      cases hh
      exact frz_ev (cx := cxC (decL [])) (cxC_ok _) fitTry hb (fun E v h => h)
    · cases ht
  · exact tabN_ok _ _ _ _ ht hh
noncomputable def cxL (dec : Nat → St → Option Bool) : Cx := ⟨Tryz.prog, ctrOf2 tabC tabL, dec⟩
theorem cxL_ok (dec : Nat → St → Option Bool) : CtrOk (cxL dec) := ctrOf2_ok tabC_ok tabL_ok dec
/-- parse.Parse of closed texts. -/
noncomputable def tabZ (f : Nat) (args : List AV) : Option (Tree AV) := match f, args with
  | 26, [.lit (.string s)] => match parseT (cxL (decL [])) 200 [.lit (.string s)] with
    | .ret a => some (.ret a)
    | _ => none
  | f, args => tabL f args
theorem tabZ_ok : TabFOk Tryz.prog tabZ := by
  intro f args t a ht hh
  unfold tabZ at ht
  split at ht
  · split at ht
    · rename_i b hb
      cases ht
      cases hh
      exact parse_frz (args := [.lit (.string _)]) (cxL_ok _) rfl (show (1:Nat) ≤ Tryz.f26.ntmps by decide) (by rw [hb]; exact fun E v h => h)
    · cases ht
  · exact tabL_ok _ _ _ _ ht hh
noncomputable def cxZ (dec : Nat → St → Option Bool) : Cx := ⟨Tryz.prog, ctrOf2 tabC tabZ, dec⟩
theorem cxZ_ok (dec : Nat → St → Option Bool) : CtrOk (cxZ dec) := ctrOf2_ok tabC_ok tabZ_ok dec
def Tree.kind {α : Type} : Tree α → List Nat
  | .ret _ => [1]
  | .br _ t e => 2 :: (t.kind ++ e.kind)
  | .side _ t => 3 :: t.kind
  | .fail => [0]
def txt06 : ByteArray := ⟨#[105, 110, 105, 116, 32, 120, 32, 61, 32, 51, 59, 32, 116, 104, 114, 101, 97, 100, 32, 123, 32, 115, 116, 111, 114, 101, 40, 121, 44, 32, 49, 44, 32, 114, 108, 120, 41, 59, 32, 125, 32, 101, 120, 105, 115, 116, 115, 32, 120, 59]⟩
end
end Go.Proofs.YtamjnhpkmhbkcaaGreatDoor

/-
  PART: closed runs by tables of closed calls.
-/
namespace Go.Proofs.YtamjnhpkmhbkcaaGreatDoor
open Go.RowKit
noncomputable section
noncomputable def cxR (T U : List Ent) : Cx := ⟨Tryz.prog, ctrR (tabOr (tabR T) tabC) (tabOr (tabR U) tabN), fun _ _ => none⟩
theorem cxR_ok {T U : List Ent} (hT : EntsPure Tryz.prog T) (hU : EntsOk Tryz.prog U) : CtrOk (cxR T U) := ctrR_ok (tabOr_p (tabR_pure hT) tabC_ok) (tabOr_f (tabR_ok hU) tabN_ok) _
/-- A closed call's answer as data; Parse's. -/
noncomputable def runR (T U : List Ent) (f : Nat) (args : RV) : Option RV := reiT ((evs (cxR T U) 1000).call f args.l .nil).frz60
noncomputable def parR (T U : List Ent) (args : RV) : Option RV := reiT (parseT (cxR T U) 1000 args.l)
theorem runR_ok {T U : List Ent} (hT : EntsPure Tryz.prog T) (hU : EntsOk Tryz.prog U) {f : Nat} {args r : RV} (h : runR T U f args = some r) : FrzOk Tryz.prog f args.l r.a :=
  rv_ev (cx := cxR T U) (cxR_ok hT hU) fitTry h
theorem parR_ok {T U : List Ent} (hT : EntsPure Tryz.prog T) (hU : EntsOk Tryz.prog U) {args r : RV} (hle : args.l.length ≤ Tryz.f26.ntmps) (h : parR T U args = some r) : FrzOk Tryz.prog 26 args.l r.a := by
  obtain ⟨a, h1, h2⟩ := reiT_some h
  refine parse_frz (cx := cxR T U) (cxR_ok hT hU) rfl (n := 1000) hle ?_
  rw [h1]
  exact fun E v hv => reify_ok 60 _ _ h2 v hv
/-- As data, of a call that leaves all as it was. -/
noncomputable def pureT : Tree AV → Option RV
  | .ret a => match plainA 8 a with
    | true => reify true 60 a
    | false => none
  | _ => none
noncomputable def runP (T U : List Ent) (f : Nat) (args : RV) : Option RV := pureT ((evs (cxR T U) 1000).call f args.l .nil).ans
theorem PureOk.impR {P : Program} {f : Nat} {args : List AV} {a b : AV} (h : PureOk P f args a) (hab : ∀ E v, Rep E a v → Rep E b v) : PureOk P f args b :=
  fun rr E w vals K hd hf hargs hK => h rr E w vals K hd hf hargs fun v w' hv hq => hK v w' (fun E2 => hab E2 v (hv E2)) hq
theorem runP_ok {T U : List Ent} (hT : EntsPure Tryz.prog T) (hU : EntsOk Tryz.prog U) {f : Nat} {args r : RV} (h : runP T U f args = some r) : PureOk Tryz.prog f args.l r.a := by
  unfold runP pureT at h
  split at h
  · rename_i a ha
    split at h
    · rename_i hp
      exact (pure_ans (cx := cxR T U) (cxR_ok hT hU) fitTry (n := 1000) (f := f) (args := args.l) (a := a) (by rw [ha]; rfl) hp).impR fun E v hv => reify_ok 60 _ _ h v hv
    · cases h
  · cases h
noncomputable def oneR (v : Value) : RV := .cons (.lit v) .nil
end
end Go.Proofs.YtamjnhpkmhbkcaaGreatDoor
