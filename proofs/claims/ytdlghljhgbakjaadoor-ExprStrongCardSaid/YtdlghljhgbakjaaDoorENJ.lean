/-
  PART: regions: a way through a region; regions that go in the text's order.
-/
import Derived.Test.YtdlghljhgbakjaaDoorENI
namespace Go.Proofs.YtdlghljhgbakjaaDoor
open Go.RowKit

section
variable {cx : Cx} {r : Evs} {ops : Array Oper} {draw : Bool}
theorem all_opYes (hr : CallsAll r) (o : Oper) (st : St) : (opYes cx r draw o st).All (fun b => Grew st b.2) := by
  unfold opYes
  cases draw with
  | true =>
    refine (all_op hr o (st := st.fresh)).bind fun b hb => ?_
    obtain ⟨g, hsl⟩ := hb
    have : Grew st (b.2.logs st) :=
      ⟨g.wf, g.nx, fun x h => mem_uni.2 (.inr h), fun x h => mem_uni.2 (.inr h), g.ws, g.wb, g.slot, g.blkb, fun x hx => g.blkr x fun h => hx (mem_uni.2 (.inl h)), fun x hx => (g.wbr x hx).imp id fun h => mem_uni.2 (.inl h), g.wc, g.cell⟩
    exact this.trans (.put _ _ _)
  | false =>
    refine (all_op hr o (st := st)).bind fun b hb => ?_
    exact hb.1.trans (.put _ _ _)
theorem opNo_grew (o : Oper) (st : St) : Grew st (opNo o st) := .put _ _ _
theorem forked_put (st : St) (d : Nat) (a : AV) : Grew st.forked (st.forked.put (some d) a) := .put _ _ _
theorem forked_wf {st : St} (h : Wf st) : Wf st.forked := h
theorem all_opsE (hr : CallsAll r) : ∀ (l : List Oper) (i : Nat) (recs : List (Nat × Rec)) (st : St), (opsE cx r ops draw l i recs st).All (GrewX st)
  | [], i, recs, st => by
    unfold opsE
    split
    · exact .refl st
    · split
      · exact .refl st
      · trivial
  | o :: l, i, recs, st => by
    have yes : ∀ st, ((opYes cx r draw o st).bind fun (q, s) => opsE cx r ops draw l (i + 1) ((i, q) :: recs) s).All (GrewX st) := fun st =>
      (all_opYes hr o st).bind fun b hb => (all_opsE hr l (i + 1) ((i, b.1) :: recs) b.2).imp fun c hc => hb.trans hc
    have no : ∀ st, (opsE cx r ops draw l (i + 1) recs (opNo o st)).All (GrewX st) := fun st =>
      (all_opsE hr l (i + 1) recs (opNo o st)).imp fun c hc => (opNo_grew o st).trans hc
    unfold opsE
    split
    · exact yes st
    · split
      · trivial
      · rename_i d _ _
        split
        · split
          · exact yes st
          · exact no st
        · dsimp only
          split
          · exact (decT_ok ((yes _).imp fun c hc => (forked_put ..).trans hc) ((no _).imp fun c hc => (forked_put ..).trans hc)).1
          · exact (decT_ok ((no _).imp fun c hc => (forked_put ..).trans hc) ((yes _).imp fun c hc => (forked_put ..).trans hc)).1
        · split
          · exact no st
          · trivial
/-- Is an operation wanted, by what a state says? -/
def Want (ops : Array Oper) (o : Oper) (st : St) (b : Bool) : Prop :=
  (o.guard = none ∧ b = true) ∨ ∃ d w, guardOf ops o = some (d, w) ∧ ((∃ v l, boolOf (look st.sl d) = some (v, l) ∧ b = (v == w)) ∨ (look st.sl d = .tup [] ∧ b = false))
/-- One way through a region. -/
inductive Path (cx : Cx) (r : Evs) (ops : Array Oper) (draw : Bool) : List Oper → Nat → List (Nat × Rec) → St → List (Nat × Rec) → St → Prop
  | nil (i recs st) : Path cx r ops draw [] i recs st recs st
  | yes {o l i recs st q s recs' st'} (hg : Want ops o st true) (h : (opYes cx r draw o st).hit (q, s)) (t : Path cx r ops draw l (i + 1) ((i, q) :: recs) s recs' st') : Path cx r ops draw (o :: l) i recs st recs' st'
  | no {o l i recs st recs' st'} (hg : Want ops o st false) (t : Path cx r ops draw l (i + 1) recs (opNo o st) recs' st') : Path cx r ops draw (o :: l) i recs st recs' st'
  | asm {o l i recs st recs' st'} (d : Nat) (b lt : Bool) (he : boolOf (look st.sl d) = some (b, lt)) (t : Path cx r ops draw (o :: l) i recs (st.forked.put (some d) (.lit (.bool b))) recs' st') : Path cx r ops draw (o :: l) i recs st recs' st'
theorem path_of (hr : CallsAll r) : ∀ (l : List Oper) (i : Nat) (recs : List (Nat × Rec)) (st : St) (x : Ex) (m : St), (opsE cx r ops draw l i recs st).hit (x, m) →
    x = .norm ∧ ∃ recs' s, Path cx r ops draw l i recs st recs' s ∧ Wkn s m ∧ (Wf st → Wf s) ∧ (draw = true → okRecs (Region.before ops) recs' = true)
  | [], i, recs, st, x, m, h => by
    unfold opsE at h
    split at h
    · cases h; exact ⟨rfl, recs, st, .nil .., .refl _, id, fun h => by cases h⟩
    · split at h
      · rename_i hok; cases h; exact ⟨rfl, recs, st, .nil .., .refl _, id, fun _ => hok⟩
      · exact h.elim
  | o :: l, i, recs, st, x, m, h => by
    have yes : ∀ st m, Want ops o st true → ((opYes cx r draw o st).bind fun (q, s) => opsE cx r ops draw l (i + 1) ((i, q) :: recs) s).hit (x, m) →
        x = .norm ∧ ∃ recs' s, Path cx r ops draw (o :: l) i recs st recs' s ∧ Wkn s m ∧ (Wf st → Wf s) ∧ (draw = true → okRecs (Region.before ops) recs' = true) := by
      intro st m hg h
      obtain ⟨⟨q, s⟩, h1, h2⟩ := Tree.hit_bind h
      have hws := ((all_opYes hr o st).hit h1).wf
      obtain ⟨rfl, recs', s', k1, k2, k3, k4⟩ := path_of hr l (i + 1) ((i, q) :: recs) s x m h2
      exact ⟨rfl, recs', s', .yes hg h1 k1, k2, fun h => k3 (hws h), k4⟩
    have no : ∀ st m, Want ops o st false → (opsE cx r ops draw l (i + 1) recs (opNo o st)).hit (x, m) →
        x = .norm ∧ ∃ recs' s, Path cx r ops draw (o :: l) i recs st recs' s ∧ Wkn s m ∧ (Wf st → Wf s) ∧ (draw = true → okRecs (Region.before ops) recs' = true) := by
      intro st m hg h
      obtain ⟨rfl, recs', s', k1, k2, k3, k4⟩ := path_of hr l (i + 1) recs (opNo o st) x m h
      exact ⟨rfl, recs', s', .no hg k1, k2, fun h => k3 ((opNo_grew o st).wf h), k4⟩
    have ayes : ∀ st, ((opYes cx r draw o st).bind fun (q, s) => opsE cx r ops draw l (i + 1) ((i, q) :: recs) s).All (GrewX st) := fun st =>
      (all_opYes hr o st).bind fun b hb => (all_opsE hr l (i + 1) ((i, b.1) :: recs) b.2).imp fun c hc => hb.trans hc
    have ano : ∀ st, (opsE cx r ops draw l (i + 1) recs (opNo o st)).All (GrewX st) := fun st =>
      (all_opsE hr l (i + 1) recs (opNo o st)).imp fun c hc => (opNo_grew o st).trans hc
    unfold opsE at h
    split at h
    · rename_i hg; exact yes st m (.inl ⟨hg, rfl⟩) h
    · rename_i jj w hgd
      split at h
      · exact h.elim
      · rename_i d w' hgo
        have hw' : w' = w := by
          unfold guardOf at hgo
          rw [hgd] at hgo
          split at hgo
          · cases hgo
          · rename_i j2 w2 he
            cases he
            split at hgo
            · split at hgo
              · cases hgo; rfl
              · cases hgo
            · cases hgo
        subst hw'
        split at h
        · rename_i b hb
          split at h
          · rename_i hbw; exact yes st m (.inr ⟨d, w', hgo, .inl ⟨b, true, hb, hbw.symm⟩⟩) h
          · rename_i hbw; exact no st m (.inr ⟨d, w', hgo, .inl ⟨b, true, hb, hbw.symm⟩⟩) h
        · rename_i e hb
          have hlk : ∀ b, boolOf (look (st.forked.put (some d) (.lit (.bool b))).sl d) = some (b, true) := fun b => by
            show boolOf (look ((d, .lit (.bool b)) :: st.sl) d) = _
            rw [look_cons, if_pos rfl]; rfl
          dsimp only at h
          split at h
          · obtain ⟨_, hf⟩ := decT_ok (c := e) (s0 := st) ((ayes (st.forked.put (some d) (.lit (.bool true)))).imp fun c hc => (forked_put ..).trans hc) ((ano (st.forked.put (some d) (.lit (.bool false)))).imp fun c hc => (forked_put ..).trans hc)
            obtain ⟨f1, f2⟩ := hf x m h
            cases e with
            | true =>
              obtain ⟨s1, k1, k2⟩ := f1 rfl
              obtain ⟨rfl, recs', s', q1, q2, q3⟩ := yes _ s1 (.inr ⟨d, true, hgo, .inl ⟨true, true, hlk true, rfl⟩⟩) k1
              exact ⟨rfl, recs', s', .asm d true false hb q1, q2.trans k2, q3⟩
            | false =>
              obtain ⟨s1, k1, k2⟩ := f2 rfl
              obtain ⟨rfl, recs', s', q1, q2, q3⟩ := no _ s1 (.inr ⟨d, true, hgo, .inl ⟨false, true, hlk false, rfl⟩⟩) k1
              exact ⟨rfl, recs', s', .asm d false false hb q1, q2.trans k2, q3⟩
          · obtain ⟨_, hf⟩ := decT_ok (c := e) (s0 := st) ((ano (st.forked.put (some d) (.lit (.bool true)))).imp fun c hc => (forked_put ..).trans hc) ((ayes (st.forked.put (some d) (.lit (.bool false)))).imp fun c hc => (forked_put ..).trans hc)
            obtain ⟨f1, f2⟩ := hf x m h
            cases e with
            | true =>
              obtain ⟨s1, k1, k2⟩ := f1 rfl
              obtain ⟨rfl, recs', s', q1, q2, q3⟩ := no _ s1 (.inr ⟨d, false, hgo, .inl ⟨true, true, hlk true, rfl⟩⟩) k1
              exact ⟨rfl, recs', s', .asm d true false hb q1, q2.trans k2, q3⟩
            | false =>
              obtain ⟨s1, k1, k2⟩ := f2 rfl
              obtain ⟨rfl, recs', s', q1, q2, q3⟩ := yes _ s1 (.inr ⟨d, false, hgo, .inl ⟨false, true, hlk false, rfl⟩⟩) k1
              exact ⟨rfl, recs', s', .asm d false false hb q1, q2.trans k2, q3⟩
        · split at h
          · rename_i hlk; exact no st m (.inr ⟨d, w', hgo, .inr ⟨hlk, rfl⟩⟩) h
          · exact h.elim
/-! Frames. -/
structure Fr (N : Nat) (E : Env) (st : St) (act : Act) : Prop where
  size : act.tmps.size = N
  slot : ∀ d, Rep E (look st.sl d) (act.tmps.getD d undef)
theorem Fr.mono {N : Nat} {E E' : Env} {st : St} {act : Act} (h : Fr N E st act) (hl : E.le E') : Fr N E' st act := ⟨h.size, fun d => (h.slot d).mono hl⟩
theorem Fr.wkn {N : Nat} {E : Env} {st m : St} {act : Act} (h : Fr N E st act) (k : Wkn st m) : Fr N E m act := ⟨h.size, fun d => k.slot E d _ (h.slot d)⟩
theorem getD_put {t : Array Value} {d : Nat} {v : Value} (hd : d < t.size) (e : Nat) : (t.setIfInBounds d v).getD e undef = if d = e then v else t.getD e undef := by
  by_cases h : d = e
  · subst h; rw [if_pos rfl]; simp [hd]
  · rw [if_neg h]; simp [Array.getElem?_setIfInBounds_ne h]
/-- The operation's slot is one of the frame's. -/
def DstIn (N : Nat) (o : Oper) : Prop := ∀ d, o.dst = some d → d < N
theorem Fr.put {N : Nat} {E : Env} {st : St} {act : Act} {o : Oper} {a : AV} {v : Value} (h : Fr N E st act) (hd : DstIn N o) (hv : Rep E a v) : Fr N E (st.put o.dst a) (act.put o.dst v) := by
  cases ho : o.dst with
  | none => exact h
  | some d =>
    have hlt := hd d ho
    refine ⟨by show (act.tmps.setIfInBounds d v).size = N; simpa using h.size, fun e => ?_⟩
    show Rep E (look ((d, a) :: st.sl) e) ((act.tmps.setIfInBounds d v).getD e undef)
    rw [look_cons, getD_put (by rw [h.size]; exact hlt)]
    by_cases he : d = e
    · rw [if_pos he, if_pos he]; exact hv
    · rw [if_neg he, if_neg he]; exact h.slot e
theorem global_rep {E : Env} {act : Act} (g : Nat) : Rep E (gmA g) (act.eval (.global g)) := by
  unfold gmA
  split
  · rename_i c hc
    split
    · rename_i hone
      have ho := one_of_all hone
      have := Rep.fz (E := E) (b := g) (base := 0) (off := 0) (cs := c.toList.map .lit) (E.gok g c hc) (by simp) (by rw [List.drop_zero, List.length_map, List.take_length]; exact Reps.lits _ ho) (by rw [List.drop_zero, List.length_map, List.take_length]; exact ho)
      exact this
    · exact .unk _
  · exact .unk _
theorem Fr.val {N : Nat} {E : Env} {st : St} {act : Act} (h : Fr N E st act) (x : Operand) : Rep E (st.val x) (act.eval x) := by
  cases x with
  | tmp t => exact h.slot t
  | const v => exact constR v
  | global g => exact global_rep g
  | func f => exact .fn .nil .nil
theorem yielded_bool {ops : Array Oper} {o : Oper} {d : Nat} {w : Bool} (hg : guardOf ops o = some (d, w)) (tmps : Array Value) : ∃ j, o.guard = some (j, w) ∧ yielded ops tmps j = match tmps.getD d undef with | .bool b => some b | _ => none := by
  unfold guardOf at hg
  split at hg
  · cases hg
  · rename_i j w' hgd
    split at hg
    · rename_i p hp
      split at hg
      · rename_i d' hd
        cases hg
        refine ⟨j, hgd, ?_⟩
        unfold yielded
        simp only [hp, Option.bind_some, hd]
        rw [Array.getD_eq_getD_getElem?]
        cases tmps[d]? with
        | none => rfl
        | some v => cases v <;> rfl
      · cases hg
    · cases hg
theorem want_ok {E : Env} {st : St} {act : Act} {o : Oper} {b : Bool} (h : Want ops o st b) (hs : ∀ d w, guardOf ops o = some (d, w) → Rep E (look st.sl d) (act.tmps.getD d undef)) : Region.wanted o (yielded ops act.tmps) = b := by
  rcases h with ⟨hg, rfl⟩ | ⟨d, w, hg, h⟩
  · unfold Region.wanted; rw [hg]
  · obtain ⟨j, hj, hy⟩ := yielded_bool hg act.tmps
    have hR := hs d w hg
    unfold Region.wanted
    rw [hj]
    simp only [hy]
    rcases h with ⟨v, l, hv, rfl⟩ | ⟨hv, rfl⟩
    · rw [boolOf_rep hv hR]
      cases v <;> cases w <;> rfl
    · rw [hv] at hR
      generalize act.tmps.getD d undef = u at hR
      cases hR
      rfl
/-! Along a way. -/
structure Gs (s s' : St) : Prop where
  wf : Wf s → Wf s'
  nx : s.nx ≤ s'.nx
  rd : ∀ x, x ∈ s.rd → x ∈ s'.rd
  wr : ∀ x, x ∈ s.wr → x ∈ s'.wr
theorem Grew.gs {s s' : St} (g : Grew s s') : Gs s s' := ⟨g.wf, g.nx, g.rd, g.wr⟩
theorem Gs.trans {a b c : St} (h : Gs a b) (k : Gs b c) : Gs a c := ⟨fun d => k.wf (h.wf d), Nat.le_trans h.nx k.nx, fun x d => k.rd x (h.rd x d), fun x d => k.wr x (h.wr x d)⟩
theorem gs_asm (st : St) (d : Nat) (a : AV) : Gs st (st.forked.put (some d) a) := ⟨fun h => h, Nat.le_refl _, fun _ h => h, fun _ h => h⟩
theorem path_gs (hr : CallsAll r) {l : List Oper} {i : Nat} {recs recs' : List (Nat × Rec)} {st st' : St} (h : Path cx r ops draw l i recs st recs' st') : Gs st st' := by
  induction h with
  | nil => exact (Grew.refl _).gs
  | yes hg h t ih => exact ((all_opYes hr _ _).hit h).gs.trans ih
  | no hg t ih => exact (opNo_grew _ _).gs.trans ih
  | asm d b lt he t ih => exact (gs_asm _ _ _).trans ih
theorem Pst.more {FP : Nat → Prop} {E E' : Env} {H H' : Nat → Option Blk} {nx nx' : Nat} {wr wr' : List Nat} {w w' : World} (p : Pst FP E E' H H' nx nx' wr w w') (h : ∀ x, x ∈ wr → x ∈ wr') : Pst FP E E' H H' nx nx' wr' w w' :=
  ⟨⟨p.le, p.dom, p.sim, fun b hb hx => p.frame b hb fun x hx' => hx x (h x hx'), fun x h1 h2 hF hn hv => (p.news x h1 h2 hF hn hv).imp id fun ⟨y, hy, q⟩ => ⟨y, h y hy, q⟩, p.size, p.os, p.tape, p.output⟩, p.old⟩
theorem boolOf_lit {E : Env} {a : AV} {b l : Bool} (h : boolOf a = some (b, l)) (v : Value) : Rep E a v ↔ Rep E (.lit (.bool b)) v :=
  ⟨fun hv => by rw [boolOf_rep h hv]; exact .lit _ rfl, fun hv => by cases hv; exact rep_boolOf h⟩
theorem asm_rep {st : St} {d : Nat} {b l : Bool} (he : boolOf (look st.sl d) = some (b, l)) (E : Env) (e : Nat) (v : Value) : Rep E (look (st.forked.put (some d) (.lit (.bool b))).sl e) v ↔ Rep E (look st.sl e) v := by
  show Rep E (look ((d, .lit (.bool b)) :: st.sl) e) v ↔ _
  rw [look_cons]
  by_cases h : d = e
  · subst h; rw [if_pos rfl]; exact (boolOf_lit he v).symm
  · rw [if_neg h]
/-- A region in the text's order. -/
theorem path_seq {P : Program} (hP : cx.P = P) (hr : CallsAll r) (hok : CallsOk P r) {N : Nat} {D : List Deferred} {rr : Option Nat} {Q : Exit → Act → World → Prop} {FP : Nat → Prop} {l : List Oper} {i : Nat} {recs recs' : List (Nat × Rec)} {st st' : St}
    (h : Path cx r ops false l i recs st recs' st') : (∀ j o, l[j]? = some o → ops[i + j]? = some o) → (∀ o, o ∈ l → DstIn N o) → ∀ (E : Env) (act : Act) (w : World), Wf st → Cov FP st st' → Free E st.nx st'.nx → Sim FP E (hget st.hp) w → Fr N E st act → act.defers = D →
    (∀ E' act' w', Fr N E' st' act' → act'.defers = D → Pst FP E E' (hget st.hp) (hget st'.hp) st.nx st'.nx st'.wr w w' → Q .normal act' w') → wpOpsIn (wideR rr) 0 P ops Q (List.range' i l.length) act w := by
  subst hP
  have hdf : ∀ (o : Oper) (act : Act) (v : Value), (act.put o.dst v).defers = act.defers := fun o act v => by cases ho : o.dst <;> rfl
  induction h with
  | nil i recs st => exact fun _ _ E act w _ _ _ hS hf hd hQ => hQ E act w hf hd (Pst.refl hS)
  | @yes o l i recs st q s recs' st' hg h t ih =>
    intro hl hdst E act w hwf hcov hfree hS hf hd hQ
    have hgs := path_gs hr t
    have hgr := ((all_opYes hr _ _).hit h : Grew st s)
    unfold opYes at h
    simp only [] at h
    obtain ⟨⟨a, s1⟩, h1, h2⟩ := Tree.hit_bind h
    cases h2
    have ok := op_sound hok h1
    have hcovs : Cov FP st s1 := fun x hx => hcov x (by
      rcases hx with hx | hx | ⟨h1, h2⟩
      · exact .inl (hgs.rd x ((Grew.put s1 o.dst a).rd x hx))
      · exact .inr (.inl (hgs.wr x ((Grew.put s1 o.dst a).wr x hx)))
      · exact .inr (.inr ⟨h1, Nat.lt_of_lt_of_le h2 (Nat.le_trans (Grew.put s1 o.dst a).nx hgs.nx)⟩))
    have hnx1 : (s1.put o.dst a).nx = s1.nx := by cases o.dst <;> rfl
    have hhp1 : (s1.put o.dst a).hp = s1.hp := by cases o.dst <;> rfl
    have hwr1 : (s1.put o.dst a).wr = s1.wr := by cases o.dst <;> rfl
    rw [List.length_cons, List.range'_succ, wpOpsIn_cons]
    have ho := hl 0 o rfl
    rw [Nat.add_zero] at ho
    unfold wpOpIn
    rw [ho]
    simp only [want_ok hg (fun d w _ => hf.slot d), if_true]
    refine ok.run rr FP E act w _ _ hwf hcovs (fun x h1 h2 => hfree x h1 (Nat.lt_of_lt_of_le h2 (by rw [← hnx1]; exact hgs.nx))) hS (fun x _ => hf.val x) fun E' v w' hv hp => ?_
    have hf' : Fr N E' (s1.put o.dst a) (act.put o.dst v) := by
      have h0 : Fr N E' st act := hf.mono hp.le
      have h1 : Fr N E' s1 act := ⟨h0.size, fun d => by rw [ok.sl]; exact h0.slot d⟩
      exact h1.put (hdst o (List.mem_cons_self ..)) hv
    have hp' : Pst FP E E' (hget st.hp) (hget (s1.put o.dst a).hp) st.nx (s1.put o.dst a).nx st'.wr w w' := by
      rw [hnx1, hhp1]
      exact hp.more fun x hx => hgs.wr x (by rw [hwr1]; exact hx)
    refine ih (fun j o' hj => by have := hl (j + 1) o' hj; rwa [show i + (j + 1) = i + 1 + j by omega] at this) (fun o' ho' => hdst o' (List.mem_cons_of_mem _ ho')) E' (act.put o.dst v) w' (hgr.wf hwf) (fun x hx => hcov x ?_) (fun x h1 h2 hd' => ?_) hp'.sim hf' ((hdf o act v).trans hd) fun E'' act'' w'' k1 k2 k3 => hQ E'' act'' w'' k1 k2 (Pst.trans hS (fun x hx => hcov x (.inr (.inl hx))) hp' k3 hgr.nx hgs.nx)
    · rcases hx with hx | hx | ⟨h1, h2⟩
      · exact .inl hx
      · exact .inr (.inl hx)
      · exact .inr (.inr ⟨Nat.le_trans hgr.nx h1, h2⟩)
    · rcases hp'.dom x hd' with h | h
      · exact hfree x (Nat.le_trans hgr.nx h1) h2 h
      · exact absurd h.2 (Nat.not_lt.2 h1)
  | @no o l i recs st recs' st' hg t ih =>
    intro hl hdst E act w hwf hcov hfree hS hf hd hQ
    have hgs := path_gs hr t
    have hnx1 : (opNo o st).nx = st.nx := by unfold opNo; cases o.dst <;> rfl
    have hhp1 : (opNo o st).hp = st.hp := by unfold opNo; cases o.dst <;> rfl
    rw [List.length_cons, List.range'_succ, wpOpsIn_cons]
    have ho := hl 0 o rfl
    rw [Nat.add_zero] at ho
    unfold wpOpIn
    rw [ho]
    simp only [want_ok hg (fun d w _ => hf.slot d), Bool.false_eq_true, if_false]
    refine ⟨fun _ _ => trivial, ?_⟩
    have hf' : Fr N E (opNo o st) (act.put o.dst undef) := hf.put (hdst o (List.mem_cons_self ..)) (.tup .nil)
    rw [hnx1, hhp1] at ih
    exact ih (fun j o' hj => by have := hl (j + 1) o' hj; rwa [show i + (j + 1) = i + 1 + j by omega] at this) (fun o' ho' => hdst o' (List.mem_cons_of_mem _ ho')) E (act.put o.dst undef) w ((opNo_grew o st).wf hwf) (fun x hx => hcov x (by rw [hnx1] at hx; exact hx)) hfree hS hf' ((hdf o act undef).trans hd) hQ
  | @asm o l i recs st recs' st' d b lt he t ih =>
    intro hl hdst E act w hwf hcov hfree hS hf hd hQ
    exact ih hl hdst E act w hwf hcov hfree hS ⟨hf.size, fun e => (asm_rep he E e _).2 (hf.slot e)⟩ hd hQ
end
end Go.Proofs.YtdlghljhgbakjaaDoor
