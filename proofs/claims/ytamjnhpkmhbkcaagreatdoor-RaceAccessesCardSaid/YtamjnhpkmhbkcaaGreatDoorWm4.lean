/-
  PARTS, one behind the other: NY.
-/
import Derived.Test.YtamjnhpkmhbkcaaGreatDoorWm3
/-
  PART: contracts whose answers may lead to new blocks: these are taken to stay as they are from then on.
-/
namespace Go.Proofs.YtamjnhpkmhbkcaaGreatDoor
open Go.RowKit

/-- A value with all that it leads to, taken to stay as it is. -/
def ix1 (nl : Bool) (n i : Nat) : Nat := match nl && Nat.beq n 1 with
  | true => 0
  | false => i
theorem ix1_eq {nl : Bool} {n i : Nat} (h : i < n) : ix1 nl n i = i := by
  unfold ix1
  split
  · rename_i hb
    simp only [Bool.and_eq_true] at hb
    have := Nat.eq_of_beq_eq_true hb.2
    omega
  · rfl
def frzD (hp : List (Nat × Option Blk)) : Nat → AV → AV
  | 0, _ => .unk
  | d + 1, a => match a with
    | .lit v => .lit v
    | .v v => .v v
    | .agg l => .agg (l.map (frzD hp d))
    | .tup l => .tup (l.map (frzD hp d))
    | .fz cs off => .fz (cs.map (frzD hp d)) off
    | .fn f a b => .fn f (a.map (frzD hp d)) (b.map (frzD hp d))
    | .any φ => .any φ
    | .sl n k get nl full => .sl n k (fun i => (get i).map (frzD hp d)) nl full
    | .ptr x off => match hget hp x with
      | some (.fix _ cs) => .fz (cs.map (frzD hp d)) off
      | _ => .unk
    | .own x n k nl => match hget hp x with
      | some (.arr _ _ k' get) => match Nat.beq k k' with
        | true => .sl n k (fun i => (get (ix1 nl n i)).map (frzD hp d)) nl false
        | false => .unk
      | _ => .unk
    | _ => .unk
/-- A contract: of these arguments that answer; what was there stays, what is new stays from then on. -/
def FrzOk (P : Program) (f : Nat) (args : List AV) (a : AV) : Prop :=
  ∀ (r : Option Nat) (E : Env) (w : World) (vals : Array Value) (K : Value → World → Prop), (∀ x, ¬ E.dom x) → FzOk E w → Reps E args vals.toList →
    (∀ v w' (E' : Env), (∀ x, ¬ E'.dom x) → (∀ b c, E.fz b = some c → E'.fz b = some c) → (∀ b, b < w.heap.size → E'.fz b = E.fz b) → FzOk E' w' → Rep E' a v → Quiet w w' → K v w') →
    (∃ v, (callFunc f vals).run P w = .ok (.value v) w ∧ K v w) ∨ ((callFunc f vals).run P w = .ok (.enter f vals) w ∧ CallsIn (wideR r) 0 P f vals w fun e w' => ∃ v, e = .returned v ∧ K v w')
section
variable {P : Program} {E E' : Env}
theorem frzD_ok {hp : List (Nat × Option Blk)} {w : World} (hS : Sim (fun _ => True) E (hget hp) w) (hfz : ∀ b c, E.fz b = some c → E'.fz b = some c)
    (hnew : ∀ x, hget hp x ≠ none → E.vir x = false → ∀ c ty fr, blkW w (E.ρ x) = some (.cells c ty fr) → E'.fz (E.ρ x) = some c) : ∀ (d : Nat) (a : AV) (v : Value), Rep E a v → Rep E' (frzD hp d a) v
  | 0, a, v, h => .unk v
  | d + 1, a, v, h => by
    have ih := frzD_ok hS hfz hnew d
    have ihs : ∀ {l : List AV} {vs : List Value}, Reps E l vs → Reps E' (l.map (frzD hp d)) vs := fun h => h.mapR fun a _ v => ih a v
    unfold frzD
    match h with
    | .lit v h => exact .lit v h
    | .v v h => exact .v v h
    | .agg h ho => exact .agg (ihs h) ho
    | .tup h => exact .tup (ihs h)
    | .fz h hs hr ho => exact .fz (hfz _ _ h) (by rw [List.length_map]; exact hs) (by rw [List.length_map]; exact ihs hr) (by rw [List.length_map]; exact ho)
    | .slNil hn => exact .slNil hn
    | .slEmp hn hf => exact .slEmp hn hf
    | .sl h hs hf hc hr ho => exact .sl (hfz _ _ h) hs hf hc (fun i hi => ihs (hr i hi)) ho
    | .fn h h' => exact .fn (ihs h) (ihs h')
    | .any h ho => exact .any (fun fz' hf => h fz' fun b c hb => hf b c (hfz b c hb)) ho
    | @Rep.ptr _ x off hd =>
      simp only []
      split
      · rename_i ty cs hb
        obtain ⟨hv, c, hc1, hc2, hc3⟩ := blk_fix hS trivial hb
        obtain ⟨hw1, hw2⟩ := hc2.whole
        have := Rep.fz (E := E') (cs := cs.map (frzD hp d)) (off := off) (base := 0) (hnew x (by rw [hb]; simp) hv _ _ _ hc1) (by rw [List.length_map]; exact hw2) (by rw [List.length_map]; exact ihs hw1) ((hc3.drop _).take _)
        rwa [Nat.zero_add] at this
      · exact .unk _
    | @Rep.own _ x n k nl hd hv hn =>
      simp only []
      split
      · rename_i ty m k' get hb
        split
        · rename_i hk
          obtain rfl := Nat.eq_of_beq_eq_true hk
          have hB := hS.blk x _ trivial hb
          obtain ⟨hm, hB⟩ := hB
          rcases hB with ⟨hv', _⟩ | ⟨_, c, _, h1, _, h2, h3, h4, h5⟩
          · rw [hv] at hv'; cases hv'
          · have hnm : n = m := hn.trans hm.symm
            subst hnm
            have := Rep.sl (E := E') (n := n) (k := k) (off := 0) (cap := E.cp x) (get := fun i => (get (ix1 nl n i)).map (frzD hp d)) (nl := nl) (full := false) (hnew x (by rw [hb]; simp) hv _ _ _ h1)
              (by rw [Nat.zero_add, h2]; exact Nat.mul_le_mul_right _ h3) (fun h => by cases h) h3 (fun i hi => by rw [Nat.zero_add]; exact (by rw [ix1_eq hi]; exact ihs (h5 i hi))) ((h4.drop _).take _)
            exact this
        · exact .unk _
      · exact .unk _
    | @Rep.ownNil _ x n k nl hd hv hn hl =>
      simp only []
      split
      · split
        · exact .slNil hn
        · exact .unk _
      · exact .unk _
    | .pti _ _ _ => exact .unk _
    | .pe _ => exact .unk _
    | .slv _ => exact .unk _
    | .mp _ => exact .unk _
    | .unk v => exact .unk _
/-- The world behind a run: what stood stays, new rows of cells stay from now on. -/
def Env.after (E : Env) (n : Nat) (w' : World) (hf : ∀ b c, E.fz b = some c → ∃ ty fr, blkW w' b = some (.cells c ty fr)) : Env :=
  { ρ := fun _ => 0, dom := fun _ => False, vir := fun _ => false, cp := fun _ => 0, ln := fun _ => 0,
    fz := fun b => if b < n then E.fz b else match blkW w' b with | some (.cells c _ _) => some c | _ => none,
    gok := fun g => (E.gok g).mono fun c h => by
      by_cases hb : g < n
      · rw [if_pos hb]; exact h
      · rw [if_neg hb]; obtain ⟨ty, fr, hq⟩ := hf g c h; rw [hq] }
theorem Env.after_fz {n : Nat} {w' : World} (hf : ∀ b c, E.fz b = some c → ∃ ty fr, blkW w' b = some (.cells c ty fr)) {b : Nat} {c : Array Value} (h : E.fz b = some c) : (E.after n w' hf).fz b = some c := by
  show (if b < n then E.fz b else match blkW w' b with | some (.cells c _ _) => some c | _ => none) = some c
  by_cases hb : b < n
  · rw [if_pos hb]; exact h
  · rw [if_neg hb]; obtain ⟨ty, fr, hq⟩ := hf b c h; rw [hq]
theorem Env.after_ok {n : Nat} {w' : World} (hf : ∀ b c, E.fz b = some c → ∃ ty fr, blkW w' b = some (.cells c ty fr)) : FzOk (E.after n w' hf) w' := fun b c h => by
  have h' : (if b < n then E.fz b else match blkW w' b with | some (.cells c _ _) => some c | _ => none) = some c := h
  by_cases hb : b < n
  · rw [if_pos hb] at h'; exact hf b c h'
  · rw [if_neg hb] at h'
    split at h'
    · rename_i c' ty fr he; cases h'; exact ⟨ty, fr, he⟩
    · cases h'
/-- What a piece of a run that began with no blocks of its own leaves. -/
theorem frz_post {w w' : World} {s : St} {E : Env} (p : Pst (fun _ => True) E E' (fun _ => none) (hget s.hp) 0 s.nx s.wr w w') (hd : ∀ x, ¬ E.dom x) {a : AV} {v : Value} {d : Nat} (hv : Rep E' a v) :
    ∃ E2 : Env, (∀ x, ¬ E2.dom x) ∧ (∀ b c, E.fz b = some c → E2.fz b = some c) ∧ (∀ b, b < w.heap.size → E2.fz b = E.fz b) ∧ FzOk E2 w' ∧ Rep E2 (frzD s.hp d a) v ∧ Quiet w w' := by
  have old : ∀ b, b < w.heap.size → blkW w' b = blkW w b ∧ E'.fz b = E.fz b := fun b hb => p.frame b hb fun x _ hx => absurd hx (Nat.not_lt_zero x)
  refine ⟨E'.after w.heap.size w' p.sim.fz, fun _ h => h, fun b c h => Env.after_fz _ (p.le.fz b c h), fun b hb => ?_, Env.after_ok _, ?_, ⟨fun b hb => (old b hb).1, p.size, p.os, p.tape, p.output⟩⟩
  · show (if b < w.heap.size then E'.fz b else _) = _
    rw [if_pos hb]; exact (old b hb).2
  · refine frzD_ok p.sim (fun b c h => Env.after_fz _ h) (fun x hx hvir c ty fr hb => ?_) d a v hv
    have hge : w.heap.size ≤ E'.ρ x := by
      have hdom := p.sim.dom x trivial hx
      rcases p.dom x hdom with h | h
      · exact absurd h (hd x)
      · rcases p.news x h.1 h.2 trivial hx hvir with h | ⟨y, _, hy, _⟩
        · exact h
        · exact absurd hy (Nat.not_lt_zero y)
    show (if E'.ρ x < w.heap.size then E'.fz (E'.ρ x) else match blkW w' (E'.ρ x) with | some (.cells c _ _) => some c | _ => none) = some c
    rw [if_neg (by omega), hb]
theorem FrzOk.pre {f : Nat} {args args' : List AV} {a : AV} (h : FrzOk P f args' a) (ha : ∀ E vs, Reps E args vs → Reps E args' vs) : FrzOk P f args a :=
  fun rr E w vals K hd hf hargs hK => h rr E w vals K hd hf (ha E _ hargs) hK
theorem FrzOk.imp {f : Nat} {args : List AV} {a b : AV} (h : FrzOk P f args a) (hab : ∀ E v, Rep E a v → Rep E b v) : FrzOk P f args b :=
  fun rr E w vals K hd hf hargs hK => h rr E w vals K hd hf hargs fun v w' E' h1 h2 h3 h4 h5 h6 => hK v w' E' h1 h2 h3 h4 (hab E' v h5) h6
theorem FrzOk.of_pure {f : Nat} {args : List AV} {a : AV} (h : PureOk P f args a) : FrzOk P f args a :=
  fun rr E w vals K hd hf hargs hK => h rr E w vals K hd hf hargs fun v w' hv hq => hK v w' E hd (fun _ _ h => h) (fun _ _ => rfl) (fun b c hb => by
    obtain ⟨ty, fr, h⟩ := hf b c hb
    exact ⟨ty, fr, (hq.old b (blkW_some_lt h)).trans h⟩) (hv E) hq
/-- By evaluation. -/
theorem frz_of {r : Evs} (hE : CallsOk P r) {f : Nat} {args : List AV} {a : AV} {s : St} (h : (r.call f args .nil).hit (a, s)) (d : Nat) : FrzOk P f args (frzD s.hp d a) := by
  intro rr E w vals K hd hfz hargs hK
  have ok := hE f args .nil a s h
  refine ok.run rr (fun _ => True) E w vals K (fun x hx => by exact absurd rfl hx) (fun _ _ => trivial) (fun x _ _ hx => hd x hx) ⟨hfz, fun x _ hn => absurd rfl hn, fun x _ hn => absurd rfl hn, fun x B _ hB => (by cases hB), fun x y _ _ hn => absurd rfl hn⟩ hargs fun E' v w' hv p => ?_
  obtain ⟨E2, h1, h2, h3, h4, h5, h6⟩ := frz_post (s := s) (d := d) p hd hv
  exact hK v w' E2 h1 h2 h3 h4 h5 h6
/-- Of a function with open loops. -/
theorem frz_of_wpc {f : Nat} {fn : Func} {c : Code} (hfit : Fit P) (hfn : P.funcs[f]? = some fn) (hb : fn.body = some c) {args : List AV} (hle : args.length ≤ fn.ntmps) {a : AV} {d : Nat}
    {R : Ex → St → Prop} (h : ∀ (E : Env) (w : World) (hd : ∀ x, ¬ E.dom x) (hf : FzOk E w), WpC P (begins fn.ntmps E w hd hf) c (entry args) R)
    (hres : ∀ x s, R x s → (x = .norm ∨ x = .ret) ∧ (ressA P fn.results.toList s).wp fun b => ∀ E v, Rep E (frzD b.2.hp d (oneA b.1)) v → Rep E a v) : FrzOk P f args a := by
  intro rr E w vals K hd hf hargs hK
  have hname' : ¬ fn.name = "runtime.NumGoroutine" := by simpa using (fit_func hfit hfn hb).2
  refine .inr ⟨by simp [callFunc, hfn, hname', hb], ?_⟩
  have hc : CallsIn Fence.wide 0 P f vals w fun e w' => ∃ v, e = .returned v ∧ K v w' := by
    refine callsIn_of_wp_marks hfn hb trivial ?_ rfl
    refine h E w hd hf _ w _ ⟨E, Pst.refl (Start.sim (begins fn.ntmps E w hd hf)), params_fr (st := .nil) hargs hle, fun x hx => absurd hx (hd x), fun x hx => absurd rfl hx, Ext.none (fun _ _ h => nomatch h) rfl, Nat.le_refl _⟩ fun x s act' w' hR ⟨E', p, hfr, hbd, hwf, hdf, hnx⟩ => ?_
    obtain ⟨hx, hw⟩ := hres x s hR
    obtain ⟨⟨as, s1⟩, hh, hV⟩ := Tree.wp_hit hw
    obtain ⟨⟨_, _, e3, e4, _⟩, k2⟩ := ressA_ok (N := fn.ntmps) hh
    have hpost : LeavesInM Fence.wide 0 P fn act'.tmps (fun e w' => ∃ v, e = .returned v ∧ K v w') act'.defers .returning w' := by
      refine leaves_out (B := begins fn.ntmps E w hd hf) p hdf fun w3 p3 => ?_
      obtain ⟨vs, r1, r2⟩ := k2 (fun _ => True) E' act' w3 (fun _ _ => trivial) p3.sim hfr
      have p' : Pst (fun _ => True) E E' (fun _ => none) (hget s.hp) 0 s.nx [] w w3 := p3
      have p2 : Pst (fun _ => True) E E' (fun _ => none) (hget s1.hp) 0 s1.nx s1.wr w w3 := by
        rw [e3, e4]
        exact p'.more fun x hx => by cases hx
      obtain ⟨E2, h1, h2, h3, h4, h5, h6⟩ := frz_post (s := s1) (d := d) p2 hd (oneA_ok r2)
      exact ⟨_, results_run r1, _, rfl, hK _ w3 E2 h1 h2 h3 h4 (hV E2 _ h5) h6⟩
    rcases hx with rfl | rfl
    · exact hpost
    · exact hpost
  cases rr with
  | none => exact hc
  | some l => exact hc.inRound l
/-- A table of such contracts, behind one of those that leave all as it was. -/
def ctrOf2 (tabP tabF : Nat → List AV → Option (Tree AV)) (f : Nat) (args : List AV) (st : St) : Option (Tree (AV × St)) :=
  match tabP f (args.map (frz st.hp 4)) with
  | some t => some (t.bind fun a => .ret (a, st.reads (args.flatMap (frzIds st.hp 4))))
  | none => match tabF f (args.map (strip 8)) with
    | some t => some (t.bind fun a => .ret (a, st))
    | none => none
def TabFOk (P : Program) (tab : Nat → List AV → Option (Tree AV)) : Prop := ∀ f args t a, tab f args = some t → t.hit a → FrzOk P f args a
theorem ctrOf2_ok {tabP tabF : Nat → List AV → Option (Tree AV)} (h : TabOk P tabP) (h2 : TabFOk P tabF) (dec : Nat → St → Option Bool) : CtrOk ⟨P, ctrOf2 tabP tabF, dec⟩ := by
  have h1 := ctrOf_ok h
  have all : ∀ u : Tree AV, u.All fun _ => True := fun u => by induction u <;> simp_all [Tree.All]
  refine ⟨fun f args st t ht => ?_, fun f args st t a st' ht hh => ?_⟩
  · have ht' : ctrOf2 tabP tabF f args st = some t := ht
    unfold ctrOf2 at ht'
    split at ht'
    · rename_i u hu
      exact h1.all f args st t (by show ctrOf tabP f args st = some t; unfold ctrOf; rw [hu]; exact ht')
    · split at ht'
      · cases ht'
        exact (all _).bind fun a _ => ⟨Grew.refl st, rfl⟩
      · cases ht'
  · have ht' : ctrOf2 tabP tabF f args st = some t := ht
    unfold ctrOf2 at ht'
    split at ht'
    · rename_i u hu
      exact h1.ok f args st t a st' (by show ctrOf tabP f args st = some t; unfold ctrOf; rw [hu]; exact ht') hh
    · split at ht'
      · rename_i u hu
        cases ht'
        obtain ⟨a', q1, q2⟩ := Tree.hit_bind hh
        cases q2
        have hp := h2 f _ u _ hu q1
        refine ⟨Grew.refl st, rfl, fun rr FP E w vals K hwf hcov hfree hS hargs hK => ?_⟩
        let E1 : Env := { E with dom := fun _ => False }
        have hE1 : ∀ b c, E.fz b = some c → E1.fz b = some c := fun _ _ h => h
        refine hp rr E1 w vals K (fun _ h => h) (fun b c hb => hS.fz b c hb) (hargs.mapR fun b _ v hv => strip_ok (E' := E1) hE1 8 b v hv) fun v w' E' k1 k2 k3 k4 k5 k6 => ?_
        let E2 : Env := { E with fz := E'.fz, gok := E'.gok }
        have l2 : E.le E2 := ⟨fun _ h => h, fun _ _ => rfl, fun _ _ => rfl, fun _ _ => rfl, fun _ _ => rfl, fun b c hb => k2 b c hb⟩
        have l3 : E'.le E2 := ⟨fun x h => absurd h (k1 x), fun x h => absurd h (k1 x), fun x h => absurd h (k1 x), fun x h => absurd h (k1 x), fun x h => absurd h (k1 x), fun _ _ h => h⟩
        have s2 := k6.sim hS
        refine hK E2 v w' (k5.mono l3) ⟨⟨l2, fun _ hx => .inl hx, ⟨k4, hS.dom, fun x hx hn hv => ?_, fun x B hx hB => (s2.blk x B hx hB).mono l2 (hS.dom x hx (by rw [hB]; simp)), hS.inj⟩, fun b hb _ => ⟨k6.old b hb, k3 b hb⟩, fun _ h1 h2 => absurd h2 (by show ¬ _ < st.nx; omega), k6.size, k6.os, k6.tape, k6.output⟩, fun _ _ _ hn => hn⟩
        have := hS.low x hx hn hv
        refine ⟨Nat.lt_of_lt_of_le this.1 k6.size, ?_⟩
        show E'.fz (E.ρ x) = none
        rw [k3 _ this.1]; exact this.2
      · cases ht'
end
end Go.Proofs.YtamjnhpkmhbkcaaGreatDoor
