/-
  PART: a region that draws its order: the theorem.
-/
import Derived.Test.YtdlghljhgbakjaaDoorENM
namespace Go.Proofs.YtdlghljhgbakjaaDoor
open Go.RowKit

section
variable {cx : Cx} {r : Evs} {ops : Array Oper} {P : Program}
theorem Sim.cut {FP FPi : Nat → Prop} {E : Env} {Hm Hi : Nat → Option Blk} {w : World} (h : Sim FP E Hm w) (hF : ∀ x, FPi x → FP x) (ha : ∀ x, FPi x → Hm x = Hi x) : Sim FPi E Hi w :=
  ⟨h.fz, fun x hx hn => h.dom x (hF x hx) (by rw [ha x hx]; exact hn), fun x hx hn hv => h.low x (hF x hx) (by rw [ha x hx]; exact hn) hv, fun x B hx hB => h.blk x B (hF x hx) (by rw [ha x hx]; exact hB),
   fun x y hx hy hnx hny => h.inj x y (hF x hx) (hF y hy) (by rw [ha x hx]; exact hnx) (by rw [ha y hy]; exact hny)⟩
theorem Pst.wide {FP : Nat → Prop} {E E' : Env} {H H' : Nat → Option Blk} {nx nx' : Nat} {wr : List Nat} {w w' : World} (p : Pst FP E E' H H' nx nx wr w w') (h : ∀ x, H' x ≠ none → x < nx) : Pst FP E E' H H' nx nx' wr w w' :=
  ⟨⟨p.le, fun x hx => (p.dom x hx).imp id fun h => absurd h.1 (by omega), p.sim, p.frame, fun x h1 _ _ hn _ => absurd (h x hn) (by omega), p.size, p.os, p.tape, p.output⟩, p.old⟩
theorem operand_name {o : Oper} {t : Nat} (h : Operand.tmp t ∈ o.op.operands) : t ∈ namesOf ops o := by
  unfold namesOf
  refine List.mem_append.2 (.inr (List.mem_append.2 (.inl ?_)))
  exact List.mem_filterMap.2 ⟨.tmp t, by simpa using h, rfl⟩
theorem guard_name {o : Oper} {d : Nat} {w : Bool} (h : guardOf ops o = some (d, w)) : d ∈ namesOf ops o := by
  unfold namesOf
  refine List.mem_append.2 (.inr (List.mem_append.2 (.inr ?_)))
  rw [h]; simp
theorem dst_name {o : Oper} {d : Nat} (h : o.dst = some d) : d ∈ namesOf ops o := by
  unfold namesOf
  refine List.mem_append.2 (.inl ?_)
  rw [h]; simp
theorem path_draw (hP : cx.P = P) (hr : CallsAll r) (hok : CallsOk P r) (hmix : P.follows .mixedOrders = true) (hreg : regionOk ops = true) {id N : Nat} {D : List Deferred} {rr : Option Nat} {Q : Exit → Act → World → Prop} {FP : Nat → Prop} {recs' : List (Nat × Rec)} {st st' : St}
    (h : Path cx r ops true ops.toList 0 [] st recs' st') (hrec : okRecs (Region.before ops) recs' = true) (hdst : ∀ o, o ∈ ops.toList → DstIn N o) (E : Env) (act : Act) (w : World) (hwf : Wf st) (hcov : Cov FP st st') (hfree : Free E st.nx st'.nx) (hS : Sim FP E (hget st.hp) w) (hf : Fr N E st act) (hd : act.defers = D)
    (hQ : ∀ E' act' w', Fr N E' st' act' → act'.defers = D → Pst FP E E' (hget st.hp) (hget st'.hp) st.nx st'.nx st'.wr w w' → Q .normal act' w') : (Code.region id ops true).wpIn (wideR rr) 0 P Q act w := by
  subst hP
  obtain ⟨L, hch, hrecs⟩ := chain_of h
  rw [List.append_nil] at hrecs
  subst hrecs
  have F := chain_steps hr hch
  obtain ⟨hlen, _⟩ := chain_len hch
  have hn : L.length = ops.size := by rw [hlen]; simp
  have hdf : ∀ (o : Oper) (act : Act) (v : Value), (act.put o.dst v).defers = act.defers := fun o act v => by cases ho : o.dst <;> rfl
  have hnx0 : ∀ k, k ≤ L.length → st.nx ≤ (stAt st L k).nx := fun k hk => by have := F.nx_le (Nat.zero_le k) hk; rwa [stAt_zero] at this
  have hnxn : ∀ k, k ≤ L.length → (stAt st L k).nx ≤ st'.nx := fun k hk => by rw [F.fin.nx]; exact F.nx_le hk (Nat.le_refl _)
  have hback : ∀ i o, ops[i]? = some o → ∀ e ∈ o.after, Region.binds .any e = true → e.on < i := fun i o ho => (regionOk_spec hreg ho).2
  refine wpIn_region_any hmix ?_
  have key : ∀ (fuel : Nat) (listed : Array Bool) (act1 : Act) (w1 : World) (E1 : Env) (Hm : Nat → Option Blk), leftN listed ops.size ≤ fuel → listed.size = ops.size → Closed ops (fun j => j < L.length ∧ listed.getD j true = true) →
      Mid cx ops N D FP st st' L E w (fun j => j < L.length ∧ listed.getD j true = true) E1 act1 w1 Hm → wpAnyIn (wideR rr) 0 cx.P .any ops Q fuel listed act1 w1 := by
    have fin : ∀ (listed : Array Bool) (act1 : Act) (w1 : World) (E1 : Env) (Hm : Nat → Option Blk), Region.ready .any ops listed = [] → Mid cx ops N D FP st st' L E w (fun j => j < L.length ∧ listed.getD j true = true) E1 act1 w1 Hm → Q .normal act1 w1 := by
      intro listed act1 w1 E1 Hm hrd M
      have hall := all_listed hback hrd
      have hcut : ∀ Wr : Nat → Prop, CutAt L.length (fun j => j < L.length ∧ listed.getD j true = true) Wr L.length := fun Wr => ⟨Nat.le_refl _, fun j hj _ => ⟨hj, hall j (by omega)⟩, fun j h1 h2 => absurd h1 (by omega)⟩
      have hHm : Hm = hget st'.hp := funext fun x => by rw [M.hm x _ (hcut _), F.fin.hp]
      have p := M.pst
      rw [hHm] at p
      exact hQ E1 act1 w1 ⟨M.size, fun d => (F.fin.slot E1 d _).2 (M.slot d _ (hcut _))⟩ M.defers p
    intro fuel
    induction fuel with
    | zero =>
      intro listed act1 w1 E1 Hm hl hsz hcl M
      have hrd : Region.ready .any ops listed = [] := by
        rw [List.eq_nil_iff_forall_not_mem]
        intro i hi
        obtain ⟨h0, o, ho, _⟩ := mem_ready.1 hi
        have := left_set (Array.getElem?_eq_some_iff.1 ho).1 h0
        omega
      exact ⟨hrd, fin listed act1 w1 E1 Hm hrd M⟩
    | succ fuel ih =>
      intro listed act1 w1 E1 Hm hl hsz hcl M
      refine ⟨fun hrd => fin listed act1 w1 E1 Hm hrd M, fun i hi => ?_⟩
      obtain ⟨h0, o, ho, hedges⟩ := mem_ready.1 hi
      have hi' : i < ops.size := (Array.getElem?_eq_some_iff.1 ho).1
      have hiL : i < L.length := by omega
      have hnT : ¬ (i < L.length ∧ listed.getD i true = true) := fun hc => by rw [h0] at hc; cases hc.2
      have hedge : ∀ e, e ∈ o.after → Region.binds .any e = true → e.on < L.length ∧ listed.getD e.on true = true := fun e he hb => by
        have h1 := hedges e he hb
        have h2 := hback i o ho e he hb
        have : e.on < listed.size := by omega
        refine ⟨by omega, ?_⟩
        simp [this] at h1 ⊢
        exact h1
      have hahead := ahead_listed hcl i o ho hedge
      have hbehind : ∀ j, (j < L.length ∧ listed.getD j true = true) → ((Region.before ops).getD j 0).testBit i = true → False := fun j hT hb => by
        have hj : j < ops.size := by omega
        exact hnT (ahead_listed hcl j ops[j] (Array.getElem?_eq_getElem hj) (fun e he hb' => hcl j _ (Array.getElem?_eq_getElem hj) hT e he hb') i hb)
      have hord := (regionOk_spec hreg ho).1
      -- slots that the operation names
      have slotLt : ∀ d, d ∈ namesOf ops o → ∀ j, WrS ops j d → j < i → (j < L.length ∧ listed.getD j true = true) := fun d hd j ⟨p, hp, hpd⟩ hj => by
        refine hahead j ?_
        have := hord j p d hp hpd hd (by omega)
        rwa [show Nat.max i j = i from Nat.max_eq_left (by omega), show Nat.min i j = j from Nat.min_eq_right (by omega)] at this
      have slotGt : ∀ d, d ∈ namesOf ops o → ∀ j, WrS ops j d → i < j → ¬ (j < L.length ∧ listed.getD j true = true) := fun d hd j ⟨p, hp, hpd⟩ hj hT => by
        refine hbehind j hT ?_
        have := hord j p d hp hpd hd (by omega)
        rwa [show Nat.max i j = j from Nat.max_eq_right (by omega), show Nat.min i j = i from Nat.min_eq_left (by omega)] at this
      have hp : L[i]? = some L[i] := List.getElem?_eq_getElem hiL
      obtain ⟨hsame, hgood, hpost⟩ := chain_get hch i o L[i] (by simpa using ho) hp
      generalize L[i] = p at hp hsame hgood hpost
      have hpre : ∀ d, d ∈ namesOf ops o → Rep E1 (look p.pre.sl d) (act1.tmps.getD d undef) := fun d hd => by
        rw [hsame.slot]
        refine M.slot d i ⟨by omega, fun j hj hw => slotLt d hd j hw hj, fun j hj hjn hw => ?_⟩
        rcases Nat.lt_or_ge i j with h | h
        · exact slotGt d hd j hw h
        · obtain rfl : j = i := by omega
          exact hnT
      have hwfp : Wf p.pre := by
        have := F.wf_le hwf (Nat.le_of_lt hiL)
        unfold Wf at this ⊢
        rw [hsame.hp, hsame.nx]; exact this
      have hT' : ∀ j, (j < L.length ∧ (listed.setIfInBounds i true).getD j true = true) ↔ ((j < L.length ∧ listed.getD j true = true) ∨ j = i) := fun j => by
        by_cases e : i = j
        · subst e
          have : i < listed.size := by omega
          simp [this, hiL]
        · rw [getD_set_ne true e]
          exact ⟨.inl, fun h => h.resolve_right (fun h => e h.symm)⟩
      have hcl' : Closed ops (fun j => j < L.length ∧ (listed.setIfInBounds i true).getD j true = true) := fun j q hq hj e he hb => by
        refine (hT' _).2 (.inl ?_)
        rcases (hT' _).1 hj with hj | rfl
        · exact hcl j q hq hj e he hb
        · rw [ho] at hq; cases hq
          exact hedge e he hb
      have hleft : leftN (listed.setIfInBounds i true) ops.size ≤ fuel := by have := left_set hi' h0; omega
      have hNd : DstIn N o := hdst o (List.mem_of_getElem? (by simpa using ho))
      have hputsz : ∀ v, (act1.put o.dst v).tmps.size = N := fun v => by
        cases hdd : o.dst with
        | none => exact M.size
        | some d => show (act1.tmps.setIfInBounds d v).size = N; simpa using M.size
      -- slots behind the operation
      have hslots : ∀ (E' : Env) (a : AV) (v : Value), E1.le E' → Rep E' a v → (∀ d, o.dst = some d → look p.post.sl d = a) → ∀ d k, CutAt L.length (fun j => j < L.length ∧ (listed.setIfInBounds i true).getD j true = true) (WrS ops · d) k → Rep E' (look (stAt st L k).sl d) ((act1.put o.dst v).tmps.getD d undef) := by
        intro E' a v hle hv hpa d k ⟨c1, c2, c3⟩
        by_cases hdd : o.dst = some d
        · have hwi : WrS ops i d := ⟨o, ho, hdd⟩
          have hik : i < k := by
            rcases Nat.lt_or_ge i k with h | h
            · exact h
            · exact absurd ((hT' i).2 (.inr rfl)) (c3 i h hiL hwi)
          have hno : ∀ j, i + 1 ≤ j → j < k → ¬ WrS ops j d := fun j h1 h2 hw => by
            have := (hT' j).1 (c2 j h2 hw)
            rcases this with h | h
            · exact slotGt d (dst_name hdd) j hw (by omega) h
            · omega
          rw [← F.slot_le (show i + 1 ≤ k by omega) c1 hno, hpost, hpa d hdd, hdd]
          show Rep E' a ((act1.tmps.setIfInBounds d v).getD d undef)
          rw [getD_put (by rw [M.size]; exact hNd d hdd), if_pos rfl]
          exact hv
        · have hget : (act1.put o.dst v).tmps.getD d undef = act1.tmps.getD d undef := by
            cases hoo : o.dst with
            | none => rfl
            | some e =>
              show (act1.tmps.setIfInBounds e v).getD d undef = _
              rw [getD_put (by rw [M.size]; exact hNd e hoo), if_neg (fun h => hdd (by rw [hoo, h]))]
          rw [hget]
          refine (M.slot d k ⟨c1, fun j h1 h2 => ?_, fun j h1 h2 hw hT => c3 j h1 h2 hw ((hT' j).2 (.inl hT))⟩).mono hle
          rcases (hT' j).1 (c2 j h1 h2) with h | rfl
          · exact h
          · obtain ⟨o', ho', hd'⟩ := h2
            rw [ho] at ho'; cases ho'
            exact absurd hd' hdd
      unfold wpOpIn
      rw [ho]
      simp only []
      rw [want_ok hgood.1 fun d w hg => hpre d (guard_name hg)]
      cases hb : p.b with
      | false =>
        simp only [Bool.false_eq_true, if_false]
        refine ⟨fun _ _ => trivial, ?_⟩
        have hpo := hgood.2.2 hb
        refine ih _ _ _ E1 Hm hleft (by simpa using hsz) hcl' ⟨hputsz _, (hdf o act1 undef).trans M.defers, hslots E1 (.tup []) undef (.refl E1) (.tup .nil) (fun d hdd => by rw [hpo, opNo, hdd, look_put_same]), fun x k hc => ?_, M.pst, fun x hx => ?_, M.low⟩
        · obtain ⟨c1, c2, c3⟩ := hc
          refine M.hm x k ⟨c1, fun j h1 h2 => ?_, fun j h1 h2 hw hT => c3 j h1 h2 hw ((hT' j).2 (.inl hT))⟩
          rcases (hT' j).1 (c2 j h1 h2) with h | rfl
          · exact h
          · obtain ⟨p', hp', hb', _⟩ := h2
            rw [hp] at hp'; cases hp'
            rw [hb] at hb'; cases hb'
        · rcases M.dom x hx with h | ⟨j, h1, h2, h3⟩
          · exact .inl h
          · exact .inr ⟨j, h1, (hT' j).2 (.inl h2), h3⟩
      | true =>
        simp only [if_true]
        obtain ⟨a, s, k1, k2, k3⟩ := opYes_true (hgood.2.1 hb)
        have ok := op_sound hok k1
        have gs : Grew p.pre.fresh s := ok.grew
        have hpn : p.post.nx = s.nx := by rw [k3, (put_rest _ _ _).2.1]; rfl
        have hph : p.post.hp = s.hp := by rw [k3, (put_rest _ _ _).1]; rfl
        have hprd : ∀ x, x ∈ s.rd → x ∈ p.post.rd := fun x hx => by rw [k3, (put_rest _ _ _).2.2.1]; exact mem_uni.2 (.inl hx)
        have hpwr : ∀ x, x ∈ s.wr → x ∈ p.post.wr := fun x hx => by rw [k3, (put_rest _ _ _).2.2.2]; exact mem_uni.2 (.inl hx)
        have hlogs := F.logs_le (show i + 1 ≤ L.length by omega) (Nat.le_refl _)
        rw [hpost] at hlogs
        have hrd' : ∀ x, x ∈ s.rd → x ∈ st'.rd := fun x hx => by rw [F.fin.rd]; exact hlogs.1 x (hprd x hx)
        have hwr' : ∀ x, x ∈ s.wr → x ∈ st'.wr := fun x hx => by rw [F.fin.wr]; exact hlogs.2 x (hpwr x hx)
        have hprn : p.pre.nx = (stAt st L i).nx := hsame.nx
        have hpsn : s.nx = (stAt st L (i + 1)).nx := by rw [hpost, hpn]
        have hlo : st.nx ≤ p.pre.nx := by rw [hprn]; exact hnx0 i (by omega)
        have hhi : s.nx ≤ st'.nx := by rw [hpsn]; exact hnxn (i + 1) (by omega)
        let FPi : Nat → Prop := fun x => x ∈ s.rd ∨ x ∈ s.wr ∨ (p.pre.nx ≤ x ∧ x < s.nx)
        have hFi : ∀ x, FPi x → FP x := fun x hx => by
          rcases hx with h | h | h
          · exact hcov x (.inl (hrd' x h))
          · exact hcov x (.inr (.inl (hwr' x h)))
          · exact hcov x (.inr (.inr ⟨by omega, by omega⟩))
        have hnew : ∀ x, p.pre.nx ≤ x → x < s.nx → ¬ E1.dom x := fun x h1 h2 hdm => by
          rcases M.dom x hdm with h | ⟨j, hj, hTj, g1, g2⟩
          · exact hfree x (by omega) (by omega) h
          · rcases Nat.lt_trichotomy j i with h | rfl | h
            · have := F.nx_le (show j + 1 ≤ i by omega) (by omega)
              omega
            · exact hnT hTj
            · have := F.nx_le (show i + 1 ≤ j by omega) (by omega)
              omega
        have hag : ∀ x, FPi x → Hm x = hget p.pre.hp x := fun x hx => by
          have touch : (x ∈ s.rd ∨ x ∈ s.wr) → Hm x = hget p.pre.hp x := fun ht => by
            rw [hsame.hp]
            have hpq : x ∈ p.q.rd ∨ x ∈ p.q.wr := by rw [k2]; exact ht
            refine M.hm x i ⟨by omega, fun j hj ⟨p', hp', hb', hw'⟩ => ?_, fun j hj hjn ⟨p', hp', hb', hw'⟩ hT => ?_⟩
            · have := recs_order hrec hp' hp hj hb' hb (meets_of (.inr ⟨hw', hpq⟩))
              rw [Nat.zero_add, Nat.zero_add] at this
              exact hahead j this
            · rcases Nat.lt_or_ge i j with h | h
              · have := recs_order hrec hp hp' h hb hb' (meets_of (.inl ⟨hw', hpq⟩))
                rw [Nat.zero_add, Nat.zero_add] at this
                exact hbehind j hT this
              · obtain rfl : j = i := by omega
                exact hnT hT
          rcases hx with h | h | ⟨h1, h2⟩
          · exact touch (.inl h)
          · exact touch (.inr h)
          · have e1 : hget p.pre.hp x = none := by
              cases hh : hget p.pre.hp x with
              | none => rfl
              | some B => have := hwfp x (by rw [hh]; simp); omega
            have e2 : Hm x = none := by
              cases hh : Hm x with
              | none => rfl
              | some B => exact absurd (M.pst.sim.dom x (hFi x (.inr (.inr ⟨h1, h2⟩))) (by rw [hh]; simp)) (hnew x h1 h2)
            rw [e1, e2]
        refine ok.run rr FPi E1 act1 w1 _ _ hwfp (fun x hx => hx) hnew (M.pst.sim.cut hFi hag) (fun x hx => ?_) fun E' v w' hv hpst => ?_
        · cases x with
          | tmp t => exact hpre t (operand_name hx)
          | const c => exact constR c
          | global g => exact global_rep g
          | func f => exact .fn .nil .nil
        · have hwfs : Wf s := gs.wf hwfp
          have plift := Pst.lift (nx0 := st.nx) (nxn := st'.nx) (wrn := st'.wr) hS M.pst hpst (fun x hx => ⟨.inr (.inl hx), hFi x (.inr (.inl hx)), hwr' x hx⟩) hag hlo hhi (fun x _ hn => hwfs x hn) (fun x hx hn => M.low x hn)
          refine ih _ _ _ E' _ hleft (by simpa using hsz) hcl' ⟨hputsz _, (hdf o act1 v).trans M.defers, hslots E' a v hpst.le hv (fun d hdd => by rw [k3, hdd, look_put_same]), fun x k hc => ?_, plift, fun x hx => ?_, fun x hn => ?_⟩
          · obtain ⟨c1, c2, c3⟩ := hc
            by_cases hx : x ∈ s.wr
            · simp only [if_pos hx]
              have hwi : WrB L i x := ⟨p, hp, hb, by rw [k2]; exact hx⟩
              have hik : i < k := by
                rcases Nat.lt_or_ge i k with h | h
                · exact h
                · exact absurd ((hT' i).2 (.inr rfl)) (c3 i h hiL hwi)
              have hno : ∀ j, i + 1 ≤ j → j < k → ¬ WrB L j x := fun j h1 h2 hw => by
                obtain ⟨p', hp', hb', hw'⟩ := hw
                rcases (hT' j).1 (c2 j h2 ⟨p', hp', hb', hw'⟩) with h | h
                · have := recs_order hrec hp hp' (by omega) hb hb' (meets_of (.inl ⟨hw', .inr (by rw [k2]; exact hx)⟩))
                  rw [Nat.zero_add, Nat.zero_add] at this
                  exact hbehind j h this
                · omega
              rw [F.blk_le (show i + 1 ≤ k by omega) c1 hno, hpost, hph]
            · simp only [if_neg hx]
              refine M.hm x k ⟨c1, fun j h1 h2 => ?_, fun j h1 h2 hw hT => c3 j h1 h2 hw ((hT' j).2 (.inl hT))⟩
              rcases (hT' j).1 (c2 j h1 h2) with h | rfl
              · exact h
              · obtain ⟨p', hp', hb', hw'⟩ := h2
                rw [hp] at hp'; cases hp'
                rw [k2] at hw'; exact absurd hw' hx
          · rcases hpst.dom x hx with h | h
            · rcases M.dom x h with h | ⟨j, h1, h2, h3⟩
              · exact .inl h
              · exact .inr ⟨j, h1, (hT' j).2 (.inl h2), h3⟩
            · exact .inr ⟨i, hiL, (hT' i).2 (.inr rfl), by have : p.pre.fresh.nx = (stAt st L i).nx := hprn; omega, by omega⟩
          · by_cases hx : x ∈ s.wr
            · simp only [if_pos hx] at hn
              have := hwfs x hn; omega
            · simp only [if_neg hx] at hn; exact M.low x hn
  refine key ops.size (Array.replicate ops.size false) act w.drew E (hget st.hp) ?_ (by simp) ?_ ⟨hf.size, hd, fun d k hc => ?_, fun x k hc => ?_, Pst.wide (Pst.same (nx := st.nx) (wr := st'.wr) hS (.drew w)) (fun x hn => hwf x hn), fun x hx => .inl hx, fun x hn => Nat.lt_of_lt_of_le (hwf x hn) (by have := hnxn 0 (Nat.zero_le _); rwa [stAt_zero] at this)⟩
  · unfold leftN
    have := List.countP_le_length (p := fun i => !(Array.replicate ops.size false).getD i true) (l := List.range ops.size)
    simpa using this
  · intro i o ho hT
    have hi : i < ops.size := (Array.getElem?_eq_some_iff.1 ho).1
    have := hT.2
    simp [hi] at this
  · obtain ⟨c1, c2, c3⟩ := hc
    have := F.slot_le (i := 0) (d := d) (Nat.zero_le k) c1 (fun j _ h2 hw => by
      have hT := c2 j h2 hw
      have hj : j < ops.size := by omega
      have := hT.2
      simp [hj] at this) E (act.tmps.getD d undef)
    rw [stAt_zero] at this
    exact this.1 (hf.slot d)
  · obtain ⟨c1, c2, c3⟩ := hc
    have := F.blk_le (i := 0) (x := x) (Nat.zero_le k) c1 (fun j _ h2 hw => by
      have hT := c2 j h2 hw
      have hj : j < ops.size := by omega
      have := hT.2
      simp [hj] at this)
    rw [stAt_zero] at this
    exact this.symm
end
end Go.Proofs.YtdlghljhgbakjaaDoor
