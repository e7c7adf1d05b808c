/-
  PART: calls: what the evaluator says of a function's body is so.
-/
import Derived.Test.YtdlghljhgbakjaaDoorENO
namespace Go.Proofs.YtdlghljhgbakjaaDoor
open Go.RowKit

section
variable {P : Program} {st st' s : St} {a : AV}
theorem load_ptr {t : TypeId} {x off : Nat} (h : (loadA P t (.ptr x off) st).hit (a, s)) : s = st.read x ∧ ∀ (FP : Nat → Prop) (E : Env) (w : World), FP x → Sim FP E (hget st.hp) w → ∃ v, (loadVar t ⟨E.ρ x, off, none⟩).run P w = .ok v w ∧ Rep E a v := by
  unfold loadA at h
  split at h
  · rename_i n ag hs ha
    simp only [] at h
    split at h
    · rename_i ty cs hb
      split at h
      · rename_i r hc
        cases h
        refine ⟨rfl, fun FP E w hF hS => ?_⟩
        obtain ⟨_, c, hc1, hc2, hc3⟩ := blk_fix hS hF hb
        obtain ⟨hw1, hw2⟩ := hc2.whole
        obtain ⟨v, hl, hr⟩ := load_cut (P := P) hc1 hs ha hw1 hw2 ((hc3.drop _).take _) hc
        rw [Nat.zero_add] at hl
        exact ⟨v, hl, hr⟩
      · exact h.elim
    · exact h.elim
  · exact h.elim
def resRun (tmps : Array Value) : ResultVar → Sem Value
  | .tmp t => pure (tmps.getD t undef)
  | .cell a t => do loadVar t (← asAddr (tmps.getD a undef))
theorem resA_ok {N : Nat} {rv : ResultVar} (h : (resA P st rv).hit (a, s)) : (Grew st s ∧ s.sl = st.sl ∧ s.hp = st.hp ∧ s.nx = st.nx ∧ s.wr = st.wr ∧ s.wb = st.wb) ∧ ∀ (FP : Nat → Prop) (E : Env) (act : Act) (w : World), Cov FP st s → Sim FP E (hget st.hp) w → Fr N E st act →
    ∃ v, (resRun act.tmps rv).run P w = .ok v w ∧ Rep E a v := by
  unfold resA at h
  split at h
  · rename_i t
    cases h
    exact ⟨⟨.refl _, rfl, rfl, rfl, rfl, rfl⟩, fun FP E act w _ _ hf => ⟨_, rfl, hf.slot t⟩⟩
  · rename_i b t
    split at h
    · rename_i x off hl
      obtain ⟨rfl, hk⟩ := load_ptr h
      refine ⟨⟨.read _ _, rfl, rfl, rfl, rfl, rfl⟩, fun FP E act w hc hS hf => ?_⟩
      obtain ⟨v, h1, h2⟩ := hk FP E w (hc x (.inl (mem_ins.2 (.inl rfl)))) hS
      obtain ⟨_, he⟩ := rep_ptr (hl ▸ hf.slot b)
      refine ⟨v, ?_, h2⟩
      simp only [resRun, he]
      simpa [asAddr] using h1
    · exact h.elim
theorem ressA_ok {N : Nat} : ∀ {rs : List ResultVar} {st s : St} {as : List AV}, (ressA P rs st).hit (as, s) → (Grew st s ∧ s.sl = st.sl ∧ s.hp = st.hp ∧ s.nx = st.nx ∧ s.wr = st.wr ∧ s.wb = st.wb) ∧ ∀ (FP : Nat → Prop) (E : Env) (act : Act) (w : World), Cov FP st s → Sim FP E (hget st.hp) w → Fr N E st act →
    ∃ vs, (rs.mapM (resRun act.tmps)).run P w = .ok vs w ∧ Reps E as vs
  | [], st, s, as, h => by
    cases h
    exact ⟨⟨.refl _, rfl, rfl, rfl, rfl, rfl⟩, fun FP E act w _ _ _ => ⟨[], by simp, .nil⟩⟩
  | rv :: rs, st, s, as, h => by
    obtain ⟨⟨a, s1⟩, h1, h2⟩ := Tree.hit_bind h
    obtain ⟨⟨bs, s2⟩, h3, h4⟩ := Tree.hit_bind h2
    cases h4
    obtain ⟨⟨g1, e1, e2, e3, e4, e5⟩, k1⟩ := resA_ok (N := N) h1
    obtain ⟨⟨g2, f1, f2, f3, f4, f5⟩, k2⟩ := ressA_ok (N := N) h3
    refine ⟨⟨g1.trans g2, f1.trans e1, f2.trans e2, f3.trans e3, f4.trans e4, f5.trans e5⟩, fun FP E act w hc hS hf => ?_⟩
    obtain ⟨v, q1, q2⟩ := k1 FP E act w (cov_l hc g2.gs) hS hf
    obtain ⟨vs, q3, q4⟩ := k2 FP E act w (cov_r hc g1.nx) (by rw [e2]; exact hS) ⟨hf.size, fun d => by rw [e1]; exact hf.slot d⟩
    refine ⟨v :: vs, ?_, .cons q2 q4⟩
    rw [List.mapM_cons]
    simp [q1, q3]
theorem results_run {fn : Func} {tmps : Array Value} {vs : List Value} {w : World} (h : (fn.results.toList.mapM (resRun tmps)).run P w = .ok vs w) : (results fn tmps).run P w = .ok (if h : vs.toArray.size = 1 then vs.toArray[0] else .tuple vs.toArray) w := by
  have : results fn tmps = (do let vs ← fn.results.mapM (resRun tmps); pure (if h : vs.size = 1 then vs[0] else .tuple vs)) := by
    unfold results
    congr 1
  rw [this, Array.mapM_eq_mapM_toList]
  simp [h]
theorem oneA_ok {E : Env} {as : List AV} {vs : List Value} (h : Reps E as vs) : Rep E (oneA as) (if h : vs.toArray.size = 1 then vs.toArray[0] else .tuple vs.toArray) := by
  have hl := h.len
  unfold oneA
  split
  · rename_i x
    cases h with
    | cons h t => cases t; exact h
  · rename_i l hne
    have : ¬ vs.toArray.size = 1 := fun e => by
      have : as.length = 1 := by rw [hl]; simpa using e
      match as, this with
      | [x], _ => exact hne x rfl
    rw [dif_neg this]
    exact .tup h
theorem hget_upd (hp : List (Nat × Option Blk)) : ∀ (l : List Nat) (base : List (Nat × Option Blk)) (x : Nat), hget (upd hp l base) x = if x ∈ l then hget hp x else hget base x
  | [], base, x => by simp [upd]
  | y :: l, base, x => by
    simp only [upd, hget_cons, hget_upd hp l base x, List.mem_cons]
    by_cases h : y = x
    · subst h; simp
    · rw [if_neg h]
      have : ¬ x = y := fun e => h e.symm
      simp [this]
/-- What comes back of a call. -/
theorem back_ok {st0 : St} (hst0 : st0.hp = st.hp ∧ st0.nx = st.nx ∧ st0.rd = [] ∧ st0.wr = [] ∧ st0.wb = []) (g : Grew st0 s) (a : AV) :
    Grew st (s.back st a) ∧ (s.back st a).sl = st.sl ∧ (s.back st a).nx = s.nx ∧ (∀ FP, Cov FP st (s.back st a) → Cov FP st0 s) ∧
    ∀ (FP : Nat → Prop) (E E' : Env) (w w' : World), Wf st → Pst FP E E' (hget st.hp) (hget s.hp) st.nx s.nx s.wr w w' → Pst FP E E' (hget st.hp) (hget (s.back st a).hp) st.nx s.nx (s.back st a).wr w w' := by
  obtain ⟨e1, e2, e3, e4, e5⟩ := hst0
  generalize hold : (s.wr.filter fun x => Nat.blt x st.nx || Nat.ble s.nx x) = old
  generalize hnew : (reach s.hp st.nx 4 (idsA 5 a ++ old.flatMap (idsB s.hp)) []) = new
  have hb : s.back st a = { s with sl := st.sl, ws := st.ws, hp := upd s.hp old (upd s.hp new st.hp), rd := uni (s.rd.filter fun x => Nat.blt x st.nx || Nat.ble s.nx x) st.rd, wr := uni old (uni new st.wr), wb := uni old (uni new st.wb), wc := new.map (fun x => (x, none)) ++ (s.wc ++ st.wc) } := by
    unfold St.back; rw [hold]; dsimp only; rw [hnew]
  rw [hb]
  have hh : ∀ x, hget (upd s.hp old (upd s.hp new st.hp)) x = if x ∈ old ∨ x ∈ new then hget s.hp x else hget st.hp x := fun x => by
    rw [hget_upd, hget_upd]
    by_cases h1 : x ∈ old <;> by_cases h2 : x ∈ new <;> simp [h1, h2]
  have hnx : st.nx ≤ s.nx := by rw [← e2]; exact g.nx
  have mem_old : ∀ x, x ∈ s.wr → (x < st.nx ∨ s.nx ≤ x) → x ∈ old := fun x hx h => by
    rw [← hold]
    refine List.mem_filter.2 ⟨hx, ?_⟩
    rcases h with h | h
    · simp [Nat.blt_eq, h]
    · simp [Nat.ble_eq, h]
  have wfs : Wf st → Wf s := fun h => g.wf (by unfold Wf; rw [e1, e2]; exact h)
  have al : Wf st → ∀ x, hget (upd s.hp old (upd s.hp new st.hp)) x ≠ none → hget (upd s.hp old (upd s.hp new st.hp)) x = hget s.hp x := fun hwf x hx => by
    rw [hh] at hx ⊢
    by_cases h : x ∈ old ∨ x ∈ new
    · rw [if_pos h]
    · rw [if_neg h] at hx ⊢
      have hlt := hwf x hx
      have hnw : x ∉ s.wr := fun hw => h (.inl (mem_old x hw (.inl hlt)))
      rw [g.blkr x hnw, e1]
  refine ⟨⟨fun hwf x hx => ?_, hnx, fun x h => mem_uni.2 (.inr h), fun x h => mem_uni.2 (.inr (mem_uni.2 (.inr h))), fun x h => h, fun x h => mem_uni.2 (.inr (mem_uni.2 (.inr h))), fun d hd => rfl, fun x hx => ?_, fun x hx => ?_, fun x hx => ?_, fun e he => List.mem_append.2 (.inr (List.mem_append.2 (.inr he))), fun x => ?_⟩, rfl, rfl, fun FP hc x hx => ?_, fun FP E E' w w' hwf p => ?_⟩
  · have := al hwf x hx
    rw [this] at hx
    exact wfs hwf x hx
  · rw [hh, if_neg]
    rintro (h | h)
    · exact hx (mem_uni.2 (.inl h))
    · exact hx (mem_uni.2 (.inr (mem_uni.2 (.inl h))))
  · rw [hh, if_neg]
    rintro (h | h)
    · exact hx (mem_uni.2 (.inl h))
    · exact hx (mem_uni.2 (.inr (mem_uni.2 (.inl h))))
  · rcases mem_uni.1 hx with h | h
    · exact .inr (mem_uni.2 (.inl h))
    · rcases mem_uni.1 h with h | h
      · exact .inr (mem_uni.2 (.inr (mem_uni.2 (.inl h))))
      · exact .inl h
  · by_cases hn : x ∈ new
    · exact .inl fun j => cov_all (List.mem_append.2 (.inl (List.mem_map.2 ⟨x, hn, rfl⟩))) j
    · by_cases ho : x ∈ old
      · have hc := (g.cell x).wc (b := new.map (fun x => (x, none)) ++ (s.wc ++ st.wc)) fun e he => List.mem_append.2 (.inr (List.mem_append.2 (.inl he)))
        have hx : hget (upd s.hp old (upd s.hp new st.hp)) x = hget s.hp x := by rw [hh, if_pos (.inl ho)]
        unfold Kept at hc ⊢
        rw [e1] at hc
        show _ ∨ hget (upd s.hp old (upd s.hp new st.hp)) x = _ ∨ ∃ ty cs cs', _ ∧ hget (upd s.hp old (upd s.hp new st.hp)) x = _ ∧ _ ∧ _
        rw [hx]; exact hc
      · refine .inr (.inl ?_)
        show hget (upd s.hp old (upd s.hp new st.hp)) x = _
        rw [hh, if_neg (by simp [ho, hn])]
  · by_cases hr : st.nx ≤ x ∧ x < s.nx
    · exact hc x (.inr (.inr hr))
    · have hr' : x < st.nx ∨ s.nx ≤ x := by omega
      rcases hx with hx | hx | hx
      · refine hc x (.inl (mem_uni.2 (.inl (List.mem_filter.2 ⟨hx, ?_⟩))))
        rcases hr' with h | h
        · simp [Nat.blt_eq, h]
        · simp [Nat.ble_eq, h]
      · exact hc x (.inr (.inl (mem_uni.2 (.inl (mem_old x hx hr')))))
      · rw [e2] at hx; exact absurd hx hr
  · have alv : ∀ x, hget (upd s.hp old (upd s.hp new st.hp)) x ≠ none → hget s.hp x ≠ none := fun x hx => by rw [← al hwf x hx]; exact hx
    refine ⟨⟨p.le, p.dom, ⟨p.sim.fz, fun x hF hn => p.sim.dom x hF (alv x hn), fun x hF hn hv => p.sim.low x hF (alv x hn) hv, fun x B hF hB => ?_, fun x y hx hy hnx hny => p.sim.inj x y hx hy (alv x hnx) (alv y hny)⟩,
      fun b hb hx => p.frame b hb fun x hx' hlt => hx x (mem_uni.2 (.inl (mem_old x hx' (.inl hlt)))) hlt, fun x h1 h2 hF hn hv => ?_, p.size, p.os, p.tape, p.output⟩, fun x hx hF hn => p.old x hx hF (alv x hn)⟩
    · have := al hwf x (by rw [hB]; simp)
      exact p.sim.blk x B hF (by rw [← this]; exact hB)
    · rcases p.news x h1 h2 hF (alv x hn) hv with h | ⟨y, hy, hlt, h⟩
      · exact .inl h
      · exact .inr ⟨y, mem_uni.2 (.inl (mem_old y hy (.inl hlt))), hlt, h⟩
end
end Go.Proofs.YtdlghljhgbakjaaDoor
