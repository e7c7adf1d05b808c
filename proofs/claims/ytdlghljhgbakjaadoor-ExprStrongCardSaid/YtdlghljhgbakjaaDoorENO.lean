/-
  PART: code and calls: what the evaluator says is so.
-/
import Derived.Test.YtdlghljhgbakjaaDoorENN
import Derived.LoopNIn
namespace Go.Proofs.YtdlghljhgbakjaaDoor
open Go.RowKit

def toExit : Ex → Exit
  | .norm => .normal
  | .exit id => .exit id
  | .goto l => .goto l
  | .ret => .ret
/-- What is asked of a program once: its functions' slots, regions, names; the orders that it draws. -/
structure Fit (P : Program) : Prop where
  funcs : P.funcs.toList.all funcOk = true
  mixed : P.follows .mixedOrders = true
/-- What the evaluator says of a piece of code is so. -/
def CodeOk (P : Program) (c : Code) (st : St) (x : Ex) (st' : St) : Prop :=
  ∀ (N : Nat) (D : List Deferred) (rr : Option Nat) (FP : Nat → Prop) (E : Env) (act : Act) (w : World) (Q : Exit → Act → World → Prop), codeOk N c = true → Wf st → Cov FP st st' → Free E st.nx st'.nx → Sim FP E (hget st.hp) w → Fr N E st act → act.defers = D →
    (∀ E' act' w', Fr N E' st' act' → act'.defers = D → Pst FP E E' (hget st.hp) (hget st'.hp) st.nx st'.nx st'.wr w w' → Q (toExit x) act' w') → c.wpIn (wideR rr) 0 P Q act w
/-- Of a loop: in so many rounds. -/
def RoundsOk (P : Program) (c : Code) (st : St) (x : Ex) (st' : St) : Prop :=
  ∃ m, ∀ (N : Nat) (D : List Deferred) (rr : Option Nat) (FP : Nat → Prop) (E : Env) (act : Act) (w : World) (Q : Exit → Act → World → Prop), codeOk N c = true → Wf st → Cov FP st st' → Free E st.nx st'.nx → Sim FP E (hget st.hp) w → Fr N E st act → act.defers = D →
    (∀ E' act' w', Fr N E' st' act' → act'.defers = D → Pst FP E E' (hget st.hp) (hget st'.hp) st.nx st'.nx st'.wr w w' → Q (toExit x) act' w') → Code.roundsIn (wideR rr) 0 P c Q m act w
/-- A scope whose jumps are gone one by one: so many. -/
def _root_.Go.Code.jumpsIn (F : Fence) (n : Nat) (P : Program) (c : Code) (Q : Exit → Act → World → Prop) : Nat → Code → Act → World → Prop
  | 0, _, _, _ => False
  | m + 1, rest, a, w => rest.wpIn F n P (fun e a w => match e with
    | .goto l => (∃ rest', findLabel c l = some rest' ∧ Code.jumpsIn F n P c Q m rest' a w) ∨ (findLabel c l = none ∧ Q (.goto l) a w)
    | e => Q e a w) a w
theorem stepR_scope {P : Program} {b : Frame} {a : Act} {w : World} {cs : List Frame} {k : List Item} {c : Code} :
    step P (lone (b.atR a (.code (.scope c) :: k)) cs w) = .next (lone (b.atR a (.code c :: .inScope c :: k)) cs w) :=
  step_lone_go (by simp [stepG, stepG.exec, Frame.atR])
theorem stepR_inScope {P : Program} {b : Frame} {a : Act} {w : World} {cs : List Frame} {k : List Item} {c : Code} :
    step P (lone (b.atR a (.inScope c :: k)) cs w) = .next (lone (b.atR a k) cs w) :=
  step_lone_go (by simp [stepG, stepG.exec, Frame.atR])
theorem wpIn_scope_jumps {F : Fence} {n : Nat} {P : Program} {Q : Exit → Act → World → Prop} {a : Act} {w : World} {c : Code} (m : Nat) (h : Code.jumpsIn F n P c Q m c a w) : (Code.scope c).wpIn F n P Q a w := by
  intro b k cs hro hb hr
  have key : ∀ m rest a w, Code.jumpsIn F n P c Q m rest a w →
      ∃ e a' w', Q e a' w' ∧ ArrivesIn (Machine.fenced P F) P (lone (b.atR a (.code rest :: .inScope c :: k)) cs w) b k cs e a' w' := by
    intro m
    induction m with
    | zero => intro rest a w h; exact h.elim
    | succ m ih =>
      intro rest a w h
      obtain ⟨e, a₁, w₁, hq, harr⟩ := h b (.inScope c :: k) cs hro hb hr
      cases e with
      | normal => exact ⟨.normal, a₁, w₁, hq, StepsIn.trans harr (.one (fenced_calm hb hr rfl) stepR_inScope)⟩
      | exit id =>
        have hx : exitTo id (.inScope c :: k) = exitTo id k := by simp [exitTo]
        exact ⟨_, a₁, w₁, hq, fun k' hk => harr.1 k' (by rw [hx]; exact hk), fun hr' hk => harr.2 hr' (by rw [hx]; exact hk)⟩
      | goto l =>
        rcases hq with ⟨rest', hf, hj⟩ | ⟨hf, hq⟩
        · have hg : gotoIn l (.inScope c :: k) = some (.code rest' :: .inScope c :: k) := by simp [gotoIn, hf]
          obtain ⟨e₂, a₂, w₂, hq₂, harr₂⟩ := ih rest' a₁ w₁ hj
          exact ⟨e₂, a₂, w₂, hq₂, .of_steps (harr.1 _ hg) harr₂⟩
        · have hx : gotoIn l (.inScope c :: k) = gotoIn l k := by simp [gotoIn, hf]
          exact ⟨_, a₁, w₁, hq, fun k' hk => harr.1 k' (by rw [hx]; exact hk), fun hr' hk => harr.2 hr' (by rw [hx]; exact hk)⟩
      | ret => exact ⟨_, a₁, w₁, hq, harr⟩
      | panic ch => exact ⟨_, a₁, w₁, hq, harr⟩
      | outgrown => exact ⟨_, a₁, w₁, hq, harr⟩
  obtain ⟨e, a', w', hq, harr⟩ := key m c a w h
  exact ⟨e, a', w', hq, .of_steps (.one (fenced_calm hb hr rfl) stepR_scope) harr⟩
theorem codeOk_label {N : Nat} : ∀ {c : Code} {l : Nat} {rest : Code}, findLabel c l = some rest → codeOk N c = true → codeOk N rest = true
  | .seq a b, l, rest, h, hc => by
    simp only [codeOk, Bool.and_eq_true] at hc
    unfold findLabel at h
    split at h
    · rename_i r hr
      cases h
      simp only [codeOk, Bool.and_eq_true]
      exact ⟨codeOk_label hr hc.1, hc.2⟩
    · exact codeOk_label h hc.2
  | .label l', l, rest, h, hc => by
    unfold findLabel at h
    split at h
    · cases h; rfl
    · cases h
  | .skip, _, _, h, _ => by cases h
  | .region _ _ _, _, _, h, _ => by cases h
  | .cond _ _ _, _, _, h, _ => by cases h
  | .block _ _, _, _, h, _ => by cases h
  | .loop _, _, _, h, _ => by cases h
  | .exit _, _, _, h, _ => by cases h
  | .goto _, _, _, h, _ => by cases h
  | .ret, _, _, h, _ => by cases h
  | .rangeFunc _ _ _ _, _, _, h, _ => by cases h
  | .scope _, _, _, h, _ => by cases h
  | .refuse _, _, _, h, _ => by cases h
def JumpsOk (P : Program) (c rest : Code) (st : St) (x : Ex) (st' : St) : Prop :=
  ∃ m, ∀ (N : Nat) (D : List Deferred) (rr : Option Nat) (FP : Nat → Prop) (E : Env) (act : Act) (w : World) (Q : Exit → Act → World → Prop), codeOk N c = true → codeOk N rest = true → Wf st → Cov FP st st' → Free E st.nx st'.nx → Sim FP E (hget st.hp) w → Fr N E st act → act.defers = D →
    (∀ E' act' w', Fr N E' st' act' → act'.defers = D → Pst FP E E' (hget st.hp) (hget st'.hp) st.nx st'.nx st'.wr w w' → Q (toExit x) act' w') → Code.jumpsIn (wideR rr) 0 P c Q m rest act w
structure CodeAll (r : Evs) : Prop where
  code : ∀ c st, (r.code c st).All (GrewX st)
  jump : ∀ c rest st, (r.jump c rest st).All (GrewX st)
structure EvsOk (P : Program) (r : Evs) : Prop where
  loop : ∀ c st x st', (r.code (.loop c) st).hit (x, st') → x ≠ .norm ∧ RoundsOk P c st x st'
  jumps : ∀ c rest st x st', (r.jump c rest st).hit (x, st') → JumpsOk P c rest st x st'
  all : CodeAll r
  calls : CallsOk P r
  callsAll : CallsAll r
section
variable {cx : Cx} {r : Evs} {P : Program}
theorem all_onGoto (hl : CodeAll r) (c : Code) {st : St} {b : Ex × St} (h : GrewX st b) : (onGoto r c b).All (GrewX st) := by
  obtain ⟨e, s⟩ := b
  unfold onGoto
  split
  · split
    · exact (hl.jump c _ s).imp fun y hy => Grew.trans h hy
    · exact h
  · exact h
theorem all_codeE (hr : CallsAll r) (hl : CodeAll r) : ∀ (c : Code) (st : St), (codeE cx r c st).All (GrewX st)
  | .skip, st => .refl st
  | .label _, st => .refl st
  | .region _ ops draw, st => all_opsE hr _ _ _ st
  | .seq a b, st => (all_codeE hr hl a st).bind fun x hx => by
      obtain ⟨e, s⟩ := x
      cases e with
      | norm => exact (all_codeE hr hl b s).imp fun y hy => Grew.trans hx hy
      | exit id => exact hx
      | goto l => exact hx
      | ret => exact hx
  | .cond c a b, st => by
      unfold codeE
      split
      · split
        · exact all_codeE hr hl a st
        · exact all_codeE hr hl b st
      · exact (decT_ok (all_codeE hr hl a _) (all_codeE hr hl b _)).1
      · trivial
  | .block id c, st => (all_codeE hr hl c st).bind fun x hx => by
      obtain ⟨e, s⟩ := x
      show (match eqEx e (.exit id) with | true => _ | false => _ : Tree (Ex × St)).All (GrewX st)
      split
      · exact hx
      · exact hx
  | .loop c, st => (all_codeE hr hl c st).bind fun x hx => by
      obtain ⟨e, s⟩ := x
      cases e with
      | norm => exact (hl.code (.loop c) s).imp fun y hy => Grew.trans hx hy
      | exit id => exact hx
      | goto l => exact hx
      | ret => exact hx
  | .exit _, st => .refl st
  | .goto _, st => .refl st
  | .ret, st => .refl st
  | .rangeFunc .., _ => trivial
  | .scope c, st => (all_codeE hr hl c st).bind fun x hx => all_onGoto hl c hx
  | .refuse _, _ => trivial
theorem free_mid {E E' : Env} {FP : Nat → Prop} {H H' : Nat → Option Blk} {nx nx1 nx2 : Nat} {wr : List Nat} {w w' : World} (h : Free E nx nx2) (p : Pst FP E E' H H' nx nx1 wr w w') (h1 : nx ≤ nx1) : Free E' nx1 nx2 := fun x g1 g2 hd => by
  rcases p.dom x hd with h' | h'
  · exact h x (by omega) g2 h'
  · omega
theorem cov_l {FP : Nat → Prop} {a b c : St} (h : Cov FP a c) (k : Gs b c) : Cov FP a b := fun x hx => h x (by
  rcases hx with hx | hx | ⟨h1, h2⟩
  · exact .inl (k.rd x hx)
  · exact .inr (.inl (k.wr x hx))
  · exact .inr (.inr ⟨h1, Nat.lt_of_lt_of_le h2 k.nx⟩))
theorem cov_r {FP : Nat → Prop} {a b c : St} (h : Cov FP a c) (k : a.nx ≤ b.nx) : Cov FP b c := fun x hx => h x (by
  rcases hx with hx | hx | ⟨h1, h2⟩
  · exact .inl hx
  · exact .inr (.inl hx)
  · exact .inr (.inr ⟨by omega, h2⟩))
/-- Weakened at the end. -/
theorem CodeOk.wkn {c : Code} {st : St} {x : Ex} {s m : St} (h : CodeOk P c st x s) (k : Wkn s m) (hwf : Wf st → Wf s) : CodeOk P c st x m := fun N D rr FP E act w Q hc hw hcov hfree hS hf hd hQ =>
  h N D rr FP E act w Q hc hw (fun y hy => hcov y (by
    rcases hy with hy | hy | ⟨h1, h2⟩
    · exact .inl (k.rd y hy)
    · exact .inr (.inl (k.wr y hy))
    · exact .inr (.inr ⟨h1, Nat.lt_of_lt_of_le h2 k.nx⟩))) (fun y h1 h2 => hfree y h1 (Nat.lt_of_lt_of_le h2 k.nx)) hS hf hd fun E' act' w' k1 k2 k3 => hQ E' act' w' (k1.wkn k) k2 (k3.wkn k (hwf hw))
/-- What is behind a piece in a scope, its jump gone. -/
theorem goto_sound (hE : EvsOk P r) {c rest : Code} {st s : St} {e x : Ex} {st' : St} (ih : CodeOk P rest st e s) (g1 : Grew st s) (h2 : (onGoto r c (e, s)).hit (x, st')) : JumpsOk P c rest st x st' := by
  have stop : (∀ l, e = .goto l → findLabel c l = none) → (x, st') = (e, s) → JumpsOk P c rest st x st' := fun hne heq => by
    cases heq
    refine ⟨1, fun N D rr FP E act w Q hc hcr hw hcov hfree hS hf hd hQ => ?_⟩
    refine ih N D rr FP E act w _ hcr hw hcov hfree hS hf hd fun E' act' w' k1 k2 k3 => ?_
    have q := hQ E' act' w' k1 k2 k3
    cases e with
    | norm => exact q
    | exit id => exact q
    | goto l => exact .inr ⟨hne l rfl, q⟩
    | ret => exact q
  cases e with
  | goto l =>
    unfold onGoto at h2
    dsimp only at h2
    split at h2
    · rename_i rest' hf'
      obtain ⟨m, hm⟩ := hE.jumps c rest' s x st' h2
      have g2 : Grew s st' := (hE.all.jump c rest' s).hit h2
      refine ⟨m + 1, fun N D rr FP E act w Q hc hcr hw hcov hfree hS hf hd hQ => ?_⟩
      refine ih N D rr FP E act w _ hcr hw (cov_l hcov g2.gs) (fun y h1 h2 => hfree y h1 (Nat.lt_of_lt_of_le h2 g2.nx)) hS hf hd fun E' act' w' k1 k2 k3 => ?_
      have k3' := k3.more g2.wr
      exact .inl ⟨rest', hf', hm N D rr FP E' act' w' Q hc (codeOk_label hf' hc) (g1.wf hw) (cov_r hcov g1.nx) (free_mid hfree k3 g1.nx) k3.sim k1 k2 fun E'' act'' w'' q1 q2 q3 => hQ E'' act'' w'' q1 q2 (Pst.trans hS (fun y hy => hcov y (.inr (.inl hy))) k3' q3 g1.nx g2.nx)⟩
    · rename_i hf'
      exact stop (fun l' hl' => by cases hl'; exact hf') h2.symm
  | norm => exact stop (fun l hl => by cases hl) h2.symm
  | exit id => exact stop (fun l hl => by cases hl) h2.symm
  | ret => exact stop (fun l hl => by cases hl) h2.symm
theorem code_sound (hP : cx.P = P) (hfit : Fit P) (hE : EvsOk P r) : ∀ (c : Code) (st : St) (x : Ex) (st' : St), (codeE cx r c st).hit (x, st') → CodeOk P c st x st'
  | .skip, st, x, st', h => by cases h; exact fun N D rr FP E act w Q hc hw hcov hfree hS hf hd hQ => wpIn_skip (hQ E act w hf hd (.refl hS))
  | .label l, st, x, st', h => by cases h; exact fun N D rr FP E act w Q hc hw hcov hfree hS hf hd hQ => wpIn_label (hQ E act w hf hd (.refl hS))
  | .exit id, st, x, st', h => by cases h; exact fun N D rr FP E act w Q hc hw hcov hfree hS hf hd hQ => wpIn_exit (hQ E act w hf hd (.refl hS))
  | .goto l, st, x, st', h => by cases h; exact fun N D rr FP E act w Q hc hw hcov hfree hS hf hd hQ => wpIn_goto (hQ E act w hf hd (.refl hS))
  | .ret, st, x, st', h => by cases h; exact fun N D rr FP E act w Q hc hw hcov hfree hS hf hd hQ => wpIn_ret (hQ E act w hf hd (.refl hS))
  | .rangeFunc .., st, x, st', h => h.elim
  | .scope c, st, x, st', h => by
    obtain ⟨⟨e, s⟩, h1, h2⟩ := Tree.hit_bind h
    have ih := code_sound hP hfit hE c st e s h1
    have g1 : Grew st s := (all_codeE hE.callsAll hE.all c st).hit h1
    obtain ⟨m, hm⟩ := goto_sound hE ih g1 h2
    exact fun N D rr FP E act w Q hc hw hcov hfree hS hf hd hQ => wpIn_scope_jumps m (hm N D rr FP E act w Q hc hc hw hcov hfree hS hf hd hQ)
  | .refuse _, st, x, st', h => h.elim
  | .region id ops draw, st, x, st', h => by
    obtain ⟨rfl, recs', s, hpath, hwk, hws, hok⟩ := path_of hE.callsAll _ _ _ _ _ _ h
    refine CodeOk.wkn (s := s) ?_ hwk hws
    intro N D rr FP E act w Q hc hw hcov hfree hS hf hd hQ
    simp only [codeOk, Bool.and_eq_true] at hc
    have hdst : ∀ o, o ∈ ops.toList → DstIn N o := fun o ho d hd => by
      have := List.all_eq_true.1 hc.1 o ho
      rw [hd] at this
      simpa [Nat.blt_eq] using this
    cases draw with
    | false =>
      refine wpIn_region ?_
      have := path_seq (N := N) (D := D) (rr := rr) (Q := Q) hP hE.callsAll hE.calls hpath (fun j o hj => by simpa using hj) hdst E act w hw hcov hfree hS hf hd hQ
      rwa [List.range_eq_range', ← Array.length_toList]
    | true =>
      have hreg : regionOk ops = true := by simpa using hc.2
      exact path_draw hP hE.callsAll hE.calls hfit.mixed hreg hpath (hok rfl) hdst E act w hw hcov hfree hS hf hd hQ
  | .seq a b, st, x, st', h => by
    obtain ⟨⟨e, s⟩, h1, h2⟩ := Tree.hit_bind h
    have ih1 := code_sound hP hfit hE a st e s h1
    have g1 : Grew st s := (all_codeE hE.callsAll hE.all a st).hit h1
    intro N D rr FP E act w Q hc hw hcov hfree hS hf hd hQ
    simp only [codeOk, Bool.and_eq_true] at hc
    refine wpIn_seq ?_
    have stop : e ≠ .norm → (x, st') = (e, s) → a.wpIn (wideR rr) 0 P (Exit.then (b.wpIn (wideR rr) 0 P Q) Q) act w := fun hne heq => by
      cases heq
      refine ih1 N D rr FP E act w _ hc.1 hw hcov hfree hS hf hd fun E' act' w' k1 k2 k3 => ?_
      cases x with
      | norm => exact absurd rfl hne
      | exit id => exact hQ E' act' w' k1 k2 k3
      | goto l => exact hQ E' act' w' k1 k2 k3
      | ret => exact hQ E' act' w' k1 k2 k3
    cases e with
    | norm =>
      have ih2 := code_sound hP hfit hE b s x st' h2
      have g2 : Grew s st' := (all_codeE hE.callsAll hE.all b s).hit h2
      refine ih1 N D rr FP E act w _ hc.1 hw (cov_l hcov g2.gs) (fun y h1 h2 => hfree y h1 (Nat.lt_of_lt_of_le h2 g2.nx)) hS hf hd fun E' act' w' k1 k2 k3 => ?_
      have k3' := k3.more g2.wr
      exact ih2 N D rr FP E' act' w' Q hc.2 (g1.wf hw) (cov_r hcov g1.nx) (free_mid hfree k3 g1.nx) k3.sim k1 k2 fun E'' act'' w'' q1 q2 q3 => hQ E'' act'' w'' q1 q2 (Pst.trans hS (fun y hy => hcov y (.inr (.inl hy))) k3' q3 g1.nx g2.nx)
    | exit id => exact stop (by simp) h2.symm
    | goto l => exact stop (by simp) h2.symm
    | ret => exact stop (by simp) h2.symm
  | .cond c a b, st, x, st', h => by
    unfold codeE at h
    split at h
    · rename_i e hb
      cases e with
      | true =>
        have ih := code_sound hP hfit hE a st x st' h
        intro N D rr FP E act w Q hc hw hcov hfree hS hf hd hQ
        simp only [codeOk, Bool.and_eq_true] at hc
        exact wpIn_cond_true (boolOf_rep hb (hf.val c)) (ih N D rr FP E act w Q hc.1 hw hcov hfree hS hf hd hQ)
      | false =>
        have ih := code_sound hP hfit hE b st x st' h
        intro N D rr FP E act w Q hc hw hcov hfree hS hf hd hQ
        simp only [codeOk, Bool.and_eq_true] at hc
        exact wpIn_cond_false (boolOf_rep hb (hf.val c)) (ih N D rr FP E act w Q hc.2 hw hcov hfree hS hf hd hQ)
    · rename_i e hb
      obtain ⟨_, hfk⟩ := decT_ok (c := e) (s0 := st) (all_codeE hE.callsAll hE.all a _) (all_codeE hE.callsAll hE.all b _)
      obtain ⟨f1, f2⟩ := hfk x st' h
      cases e with
      | true =>
        obtain ⟨s, k1, k2⟩ := f1 rfl
        have ih := code_sound hP hfit hE a st.forked x s k1
        have g : Grew st.forked s := (all_codeE hE.callsAll hE.all a _).hit k1
        have ih' := CodeOk.wkn ih k2 g.wf
        intro N D rr FP E act w Q hc hw hcov hfree hS hf hd hQ
        simp only [codeOk, Bool.and_eq_true] at hc
        exact wpIn_cond_true (boolOf_rep hb (hf.val c)) (ih' N D rr FP E act w Q hc.1 hw hcov hfree hS ⟨hf.size, hf.slot⟩ hd hQ)
      | false =>
        obtain ⟨s, k1, k2⟩ := f2 rfl
        have ih := code_sound hP hfit hE b st.forked x s k1
        have g : Grew st.forked s := (all_codeE hE.callsAll hE.all b _).hit k1
        have ih' := CodeOk.wkn ih k2 g.wf
        intro N D rr FP E act w Q hc hw hcov hfree hS hf hd hQ
        simp only [codeOk, Bool.and_eq_true] at hc
        exact wpIn_cond_false (boolOf_rep hb (hf.val c)) (ih' N D rr FP E act w Q hc.2 hw hcov hfree hS ⟨hf.size, hf.slot⟩ hd hQ)
    · exact h.elim
  | .block id c, st, x, st', h => by
    obtain ⟨⟨e, s⟩, h1, h2⟩ := Tree.hit_bind h
    have ih := code_sound hP hfit hE c st e s h1
    intro N D rr FP E act w Q hc hw hcov hfree hS hf hd hQ
    refine wpIn_block ?_
    simp only [] at h2
    split at h2
    · rename_i he
      obtain rfl := eqEx_eq he
      cases h2
      refine ih N D rr FP E act w _ hc hw hcov hfree hS hf hd fun E' act' w' k1 k2 k3 => ?_
      show (if id = id then _ else _)
      rw [if_pos rfl]; exact hQ E' act' w' k1 k2 k3
    · rename_i he
      cases h2
      refine ih N D rr FP E act w _ hc hw hcov hfree hS hf hd fun E' act' w' k1 k2 k3 => ?_
      have := hQ E' act' w' k1 k2 k3
      cases x with
      | norm => exact this
      | exit id' =>
        show (if id' = id then _ else _)
        have hne : ¬ id' = id := fun e => by subst e; simp [eqEx] at he
        rw [if_neg hne]; exact this
      | goto l => exact this
      | ret => exact this
  | .loop c, st, x, st', h => by
    obtain ⟨⟨e, s⟩, h1, h2⟩ := Tree.hit_bind h
    have ih := code_sound hP hfit hE c st e s h1
    have g1 : Grew st s := (all_codeE hE.callsAll hE.all c st).hit h1
    intro N D rr FP E act w Q hc hw hcov hfree hS hf hd hQ
    have stop : e ≠ .norm → (x, st') = (e, s) → (Code.loop c).wpIn (wideR rr) 0 P Q act w := fun hne heq => by
      cases heq
      refine wpIn_loop_rounds 1 ?_
      rw [roundsIn_succ]
      refine ih N D rr FP E act w _ hc hw hcov hfree hS hf hd fun E' act' w' k1 k2 k3 => ?_
      cases x with
      | norm => exact absurd rfl hne
      | exit id => exact hQ E' act' w' k1 k2 k3
      | goto l => exact hQ E' act' w' k1 k2 k3
      | ret => exact hQ E' act' w' k1 k2 k3
    cases e with
    | norm =>
      obtain ⟨_, m, hm⟩ := hE.loop c s x st' h2
      have g2 : Grew s st' := (hE.all.code (.loop c) s).hit h2
      refine wpIn_loop_rounds (m + 1) ?_
      rw [roundsIn_succ]
      refine ih N D rr FP E act w _ hc hw (cov_l hcov g2.gs) (fun y h1 h2 => hfree y h1 (Nat.lt_of_lt_of_le h2 g2.nx)) hS hf hd fun E' act' w' k1 k2 k3 => ?_
      have k3' := k3.more g2.wr
      exact hm N D rr FP E' act' w' Q hc (g1.wf hw) (cov_r hcov g1.nx) (free_mid hfree k3 g1.nx) k3.sim k1 k2 fun E'' act'' w'' q1 q2 q3 => hQ E'' act'' w'' q1 q2 (Pst.trans hS (fun y hy => hcov y (.inr (.inl hy))) k3' q3 g1.nx g2.nx)
    | exit id => exact stop (by simp) h2.symm
    | goto l => exact stop (by simp) h2.symm
    | ret => exact stop (by simp) h2.symm
/-- A jump, likewise. -/
theorem jump_sound (hP : cx.P = P) (hfit : Fit P) (hE : EvsOk P r) (c rest : Code) (st : St) (x : Ex) (st' : St) (h : (jumpE cx r c rest st).hit (x, st')) : JumpsOk P c rest st x st' := by
  obtain ⟨⟨e, s⟩, h1, h2⟩ := Tree.hit_bind h
  exact goto_sound hE (code_sound hP hfit hE rest st e s h1) ((all_codeE hE.callsAll hE.all rest st).hit h1) h2
theorem all_jumpE (hr : CallsAll r) (hl : CodeAll r) (c rest : Code) (st : St) : (jumpE cx r c rest st).All (GrewX st) := (all_codeE hr hl rest st).bind fun x hx => all_onGoto hl c hx
/-- A loop's rounds, likewise. -/
theorem loop_sound (hP : cx.P = P) (hfit : Fit P) (hE : EvsOk P r) (c : Code) (st : St) (x : Ex) (st' : St) (h : (codeE cx r (.loop c) st).hit (x, st')) : x ≠ .norm ∧ RoundsOk P c st x st' := by
  obtain ⟨⟨e, s⟩, h1, h2⟩ := Tree.hit_bind h
  have ih := code_sound hP hfit hE c st e s h1
  have g1 : Grew st s := (all_codeE hE.callsAll hE.all c st).hit h1
  have stop : e ≠ .norm → (x, st') = (e, s) → x ≠ .norm ∧ RoundsOk P c st x st' := fun hne heq => by
    cases heq
    refine ⟨hne, 1, fun N D rr FP E act w Q hc hw hcov hfree hS hf hd hQ => ?_⟩
    rw [roundsIn_succ]
    refine ih N D rr FP E act w _ hc hw hcov hfree hS hf hd fun E' act' w' k1 k2 k3 => ?_
    cases x with
    | norm => exact absurd rfl hne
    | exit id => exact hQ E' act' w' k1 k2 k3
    | goto l => exact hQ E' act' w' k1 k2 k3
    | ret => exact hQ E' act' w' k1 k2 k3
  cases e with
  | norm =>
    obtain ⟨hne, m, hm⟩ := hE.loop c s x st' h2
    have g2 : Grew s st' := (hE.all.code (.loop c) s).hit h2
    refine ⟨hne, m + 1, fun N D rr FP E act w Q hc hw hcov hfree hS hf hd hQ => ?_⟩
    rw [roundsIn_succ]
    refine ih N D rr FP E act w _ hc hw (cov_l hcov g2.gs) (fun y h1 h2 => hfree y h1 (Nat.lt_of_lt_of_le h2 g2.nx)) hS hf hd fun E' act' w' k1 k2 k3 => ?_
    have k3' := k3.more g2.wr
    exact hm N D rr FP E' act' w' Q hc (g1.wf hw) (cov_r hcov g1.nx) (free_mid hfree k3 g1.nx) k3.sim k1 k2 fun E'' act'' w'' q1 q2 q3 => hQ E'' act'' w'' q1 q2 (Pst.trans hS (fun y hy => hcov y (.inr (.inl hy))) k3' q3 g1.nx g2.nx)
  | exit id => exact stop (by simp) h2.symm
  | goto l => exact stop (by simp) h2.symm
  | ret => exact stop (by simp) h2.symm
end
end Go.Proofs.YtdlghljhgbakjaaDoor
