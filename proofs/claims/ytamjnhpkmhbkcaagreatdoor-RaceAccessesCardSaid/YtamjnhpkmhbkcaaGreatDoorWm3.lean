/-
  PARTS, one behind the other: NN NO NP NQ NR NS NT NU NV NW NX.
-/
import Derived.Test.YtamjnhpkmhbkcaaGreatDoorWm2
import Derived.LoopNIn
import Derived.OpenShut
import Derived.DataReads
import Derived.Carry
import Derived.ProofKit
import Derived.Stop.Joined
/-
  PART: a region that draws its order: the theorem.
-/
namespace Go.Proofs.YtamjnhpkmhbkcaaGreatDoor
open Go.RowKit

section
variable {cx : Cx} {r : Evs} {ops : Array Oper} {P : Program}
theorem Sim.cut {FP FPi : Nat → Prop} {E : Env} {Hm Hi : Nat → Option Blk} {w : World} (h : Sim FP E Hm w) (hF : ∀ x, FPi x → FP x) (ha : ∀ x, FPi x → Hm x = Hi x) : Sim FPi E Hi w :=
  ⟨h.fz, fun x hx hn => h.dom x (hF x hx) (by rw [ha x hx]; exact hn), fun x hx hn hv => h.low x (hF x hx) (by rw [ha x hx]; exact hn) hv, fun x B hx hB => h.blk x B (hF x hx) (by rw [ha x hx]; exact hB),
   fun x y hx hy hnx hny => h.inj x y (hF x hx) (hF y hy) (by rw [ha x hx]; exact hnx) (by rw [ha y hy]; exact hny)⟩
theorem Pst.wide {FP : Nat → Prop} {E E' : Env} {H H' : Nat → Option Blk} {nx nx' : Nat} {wr : List Nat} {w w' : World} (p : Pst FP E E' H H' nx nx wr w w') (h : ∀ x, H' x ≠ none → x < nx) : Pst FP E E' H H' nx nx' wr w w' :=
  ⟨⟨p.le, fun x hx => (p.dom x hx).imp id fun h => absurd h.1 (by omega), p.sim, p.frame, fun x h1 _ _ hn _ => absurd (h x hn) (by omega), p.size, p.os, p.tape, p.output⟩, p.old⟩
theorem operand_name {o : Oper} {t : Nat} (h : Operand.tmp t ∈ o.op.operands) : t ∈ namesOf ops o := by
  unfold namesOf
  refine List.mem_append.2 (.inr (List.mem_append.2 (.inl ?_)))
  exact List.mem_filterMap.2 ⟨.tmp t, by simpa using h, rfl⟩
theorem guard_name {o : Oper} {d : Nat} {w : Bool} (h : guardOf ops o = some (d, w)) : d ∈ namesOf ops o := by
  unfold namesOf
  refine List.mem_append.2 (.inr (List.mem_append.2 (.inr ?_)))
  rw [h]; simp
theorem dst_name {o : Oper} {d : Nat} (h : o.dst = some d) : d ∈ namesOf ops o := by
  unfold namesOf
  refine List.mem_append.2 (.inl ?_)
  rw [h]; simp
theorem path_draw (hP : cx.P = P) (hr : CallsAll r) (hok : CallsOk P r) (hmix : P.follows .mixedOrders = true) (hreg : regionOk ops = true) {id N : Nat} {D : List Deferred} {rr : Option Nat} {Q : Exit → Act → World → Prop} {FP : Nat → Prop} {recs' : List (Nat × Rec)} {st st' : St}
    (h : Path cx r ops true ops.toList 0 [] st recs' st') (hrec : okRecs (Region.before ops) recs' = true) (hdst : ∀ o, o ∈ ops.toList → DstIn N o) (E : Env) (act : Act) (w : World) (hwf : Wf st) (hcov : Cov FP st st') (hfree : Free E st.nx st'.nx) (hS : Sim FP E (hget st.hp) w) (hf : Fr N E st act) (hd : act.defers = D)
    (hQ : ∀ E' act' w', Fr N E' st' act' → act'.defers = D → Pst FP E E' (hget st.hp) (hget st'.hp) st.nx st'.nx st'.wr w w' → Q .normal act' w') : (Code.region id ops true).wpIn (wideR rr) 0 P Q act w := by
  subst hP
  obtain ⟨L, hch, hrecs⟩ := chain_of h
  rw [List.append_nil] at hrecs
  subst hrecs
  have F := chain_steps hr hch
  obtain ⟨hlen, _⟩ := chain_len hch
  have hn : L.length = ops.size := by rw [hlen]; simp
  have hdf : ∀ (o : Oper) (act : Act) (v : Value), (act.put o.dst v).defers = act.defers := fun o act v => by cases ho : o.dst <;> rfl
  have hnx0 : ∀ k, k ≤ L.length → st.nx ≤ (stAt st L k).nx := fun k hk => by have := F.nx_le (Nat.zero_le k) hk; rwa [stAt_zero] at this
  have hnxn : ∀ k, k ≤ L.length → (stAt st L k).nx ≤ st'.nx := fun k hk => by rw [F.fin.nx]; exact F.nx_le hk (Nat.le_refl _)
  have hback : ∀ i o, ops[i]? = some o → ∀ e ∈ o.after, Region.binds .any e = true → e.on < i := fun i o ho => (regionOk_spec hreg ho).2
  refine wpIn_region_any hmix ?_
  have key : ∀ (fuel : Nat) (listed : Array Bool) (act1 : Act) (w1 : World) (E1 : Env) (Hm : Nat → Option Blk), leftN listed ops.size ≤ fuel → listed.size = ops.size → Closed ops (fun j => j < L.length ∧ listed.getD j true = true) →
      Mid cx ops N D FP st st' L E w (fun j => j < L.length ∧ listed.getD j true = true) E1 act1 w1 Hm → wpAnyIn (wideR rr) 0 cx.P .any ops Q fuel listed act1 w1 := by
    have fin : ∀ (listed : Array Bool) (act1 : Act) (w1 : World) (E1 : Env) (Hm : Nat → Option Blk), Region.ready .any ops listed = [] → Mid cx ops N D FP st st' L E w (fun j => j < L.length ∧ listed.getD j true = true) E1 act1 w1 Hm → Q .normal act1 w1 := by
      intro listed act1 w1 E1 Hm hrd M
      have hall := all_listed hback hrd
      have hcut : ∀ Wr : Nat → Prop, CutAt L.length (fun j => j < L.length ∧ listed.getD j true = true) Wr L.length := fun Wr => ⟨Nat.le_refl _, fun j hj _ => ⟨hj, hall j (by omega)⟩, fun j h1 h2 => absurd h1 (by omega)⟩
      have hHm : Hm = hget st'.hp := funext fun x => by rw [M.hm x _ (hcut _), F.fin.hp]
      have p := M.pst
      rw [hHm] at p
      exact hQ E1 act1 w1 ⟨M.size, fun d => (F.fin.slot E1 d _).2 (M.slot d _ (hcut _))⟩ M.defers p
    intro fuel
    induction fuel with
    | zero =>
      intro listed act1 w1 E1 Hm hl hsz hcl M
      have hrd : Region.ready .any ops listed = [] := by
        rw [List.eq_nil_iff_forall_not_mem]
        intro i hi
        obtain ⟨h0, o, ho, _⟩ := mem_ready.1 hi
        have := left_set (Array.getElem?_eq_some_iff.1 ho).1 h0
        omega
      exact ⟨hrd, fin listed act1 w1 E1 Hm hrd M⟩
    | succ fuel ih =>
      intro listed act1 w1 E1 Hm hl hsz hcl M
      refine ⟨fun hrd => fin listed act1 w1 E1 Hm hrd M, fun i hi => ?_⟩
      obtain ⟨h0, o, ho, hedges⟩ := mem_ready.1 hi
      have hi' : i < ops.size := (Array.getElem?_eq_some_iff.1 ho).1
      have hiL : i < L.length := by omega
      have hnT : ¬ (i < L.length ∧ listed.getD i true = true) := fun hc => by rw [h0] at hc; cases hc.2
      have hedge : ∀ e, e ∈ o.after → Region.binds .any e = true → e.on < L.length ∧ listed.getD e.on true = true := fun e he hb => by
        have h1 := hedges e he hb
        have h2 := hback i o ho e he hb
        have : e.on < listed.size := by omega
        refine ⟨by omega, ?_⟩
        simp [this] at h1 ⊢
        exact h1
      have hahead := ahead_listed hcl i o ho hedge
      have hbehind : ∀ j, (j < L.length ∧ listed.getD j true = true) → ((Region.before ops).getD j 0).testBit i = true → False := fun j hT hb => by
        have hj : j < ops.size := by omega
        exact hnT (ahead_listed hcl j ops[j] (Array.getElem?_eq_getElem hj) (fun e he hb' => hcl j _ (Array.getElem?_eq_getElem hj) hT e he hb') i hb)
      have hord := (regionOk_spec hreg ho).1
      -- slots that the operation names
      have slotLt : ∀ d, d ∈ namesOf ops o → ∀ j, WrS ops j d → j < i → (j < L.length ∧ listed.getD j true = true) := fun d hd j ⟨p, hp, hpd⟩ hj => by
        refine hahead j ?_
        have := hord j p d hp hpd hd (by omega)
        rwa [show Nat.max i j = i from Nat.max_eq_left (by omega), show Nat.min i j = j from Nat.min_eq_right (by omega)] at this
      have slotGt : ∀ d, d ∈ namesOf ops o → ∀ j, WrS ops j d → i < j → ¬ (j < L.length ∧ listed.getD j true = true) := fun d hd j ⟨p, hp, hpd⟩ hj hT => by
        refine hbehind j hT ?_
        have := hord j p d hp hpd hd (by omega)
        rwa [show Nat.max i j = j from Nat.max_eq_right (by omega), show Nat.min i j = i from Nat.min_eq_left (by omega)] at this
      have hp : L[i]? = some L[i] := List.getElem?_eq_getElem hiL
      obtain ⟨hsame, hgood, hpost⟩ := chain_get hch i o L[i] (by simpa using ho) hp
      generalize L[i] = p at hp hsame hgood hpost
      have hpre : ∀ d, d ∈ namesOf ops o → Rep E1 (look p.pre.sl d) (act1.tmps.getD d undef) := fun d hd => by
        rw [hsame.slot]
        refine M.slot d i ⟨by omega, fun j hj hw => slotLt d hd j hw hj, fun j hj hjn hw => ?_⟩
        rcases Nat.lt_or_ge i j with h | h
        · exact slotGt d hd j hw h
        · obtain rfl : j = i := by omega
          exact hnT
      have hwfp : Wf p.pre := by
        have := F.wf_le hwf (Nat.le_of_lt hiL)
        unfold Wf at this ⊢
        rw [hsame.hp, hsame.nx]; exact this
      have hT' : ∀ j, (j < L.length ∧ (listed.setIfInBounds i true).getD j true = true) ↔ ((j < L.length ∧ listed.getD j true = true) ∨ j = i) := fun j => by
        by_cases e : i = j
        · subst e
          have : i < listed.size := by omega
          simp [this, hiL]
        · rw [getD_set_ne true e]
          exact ⟨.inl, fun h => h.resolve_right (fun h => e h.symm)⟩
      have hcl' : Closed ops (fun j => j < L.length ∧ (listed.setIfInBounds i true).getD j true = true) := fun j q hq hj e he hb => by
        refine (hT' _).2 (.inl ?_)
        rcases (hT' _).1 hj with hj | rfl
        · exact hcl j q hq hj e he hb
        · rw [ho] at hq; cases hq
          exact hedge e he hb
      have hleft : leftN (listed.setIfInBounds i true) ops.size ≤ fuel := by have := left_set hi' h0; omega
      have hNd : DstIn N o := hdst o (List.mem_of_getElem? (by simpa using ho))
      have hputsz : ∀ v, (act1.put o.dst v).tmps.size = N := fun v => by
        cases hdd : o.dst with
        | none => exact M.size
        | some d => show (act1.tmps.setIfInBounds d v).size = N; simpa using M.size
      -- slots behind the operation
      have hslots : ∀ (E' : Env) (a : AV) (v : Value), E1.le E' → Rep E' a v → (∀ d, o.dst = some d → look p.post.sl d = a) → ∀ d k, CutAt L.length (fun j => j < L.length ∧ (listed.setIfInBounds i true).getD j true = true) (WrS ops · d) k → Rep E' (look (stAt st L k).sl d) ((act1.put o.dst v).tmps.getD d undef) := by
        intro E' a v hle hv hpa d k ⟨c1, c2, c3⟩
        by_cases hdd : o.dst = some d
        · have hwi : WrS ops i d := ⟨o, ho, hdd⟩
          have hik : i < k := by
            rcases Nat.lt_or_ge i k with h | h
            · exact h
            · exact absurd ((hT' i).2 (.inr rfl)) (c3 i h hiL hwi)
          have hno : ∀ j, i + 1 ≤ j → j < k → ¬ WrS ops j d := fun j h1 h2 hw => by
            have := (hT' j).1 (c2 j h2 hw)
            rcases this with h | h
            · exact slotGt d (dst_name hdd) j hw (by omega) h
            · omega
          rw [← F.slot_le (show i + 1 ≤ k by omega) c1 hno, hpost, hpa d hdd, hdd]
          show Rep E' a ((act1.tmps.setIfInBounds d v).getD d undef)
          rw [getD_put (by rw [M.size]; exact hNd d hdd), if_pos rfl]
          exact hv
        · have hget : (act1.put o.dst v).tmps.getD d undef = act1.tmps.getD d undef := by
            cases hoo : o.dst with
            | none => rfl
            | some e =>
              show (act1.tmps.setIfInBounds e v).getD d undef = _
              rw [getD_put (by rw [M.size]; exact hNd e hoo), if_neg (fun h => hdd (by rw [hoo, h]))]
          rw [hget]
          refine (M.slot d k ⟨c1, fun j h1 h2 => ?_, fun j h1 h2 hw hT => c3 j h1 h2 hw ((hT' j).2 (.inl hT))⟩).mono hle
          rcases (hT' j).1 (c2 j h1 h2) with h | rfl
          · exact h
          · obtain ⟨o', ho', hd'⟩ := h2
            rw [ho] at ho'; cases ho'
            exact absurd hd' hdd
      unfold wpOpIn
      rw [ho]
      simp only []
      rw [want_ok hgood.1 fun d w hg => hpre d (guard_name hg)]
      cases hb : p.b with
      | false =>
        simp only [Bool.false_eq_true, if_false]
        refine ⟨fun _ _ => trivial, ?_⟩
        have hpo := hgood.2.2 hb
        refine ih _ _ _ E1 Hm hleft (by simpa using hsz) hcl' ⟨hputsz _, (hdf o act1 undef).trans M.defers, hslots E1 (.tup []) undef (.refl E1) (.tup .nil) (fun d hdd => by rw [hpo, opNo, hdd, look_put_same]), fun x k hc => ?_, M.pst, fun x hx => ?_, M.low⟩
        · obtain ⟨c1, c2, c3⟩ := hc
          refine M.hm x k ⟨c1, fun j h1 h2 => ?_, fun j h1 h2 hw hT => c3 j h1 h2 hw ((hT' j).2 (.inl hT))⟩
          rcases (hT' j).1 (c2 j h1 h2) with h | rfl
          · exact h
          · obtain ⟨p', hp', hb', _⟩ := h2
            rw [hp] at hp'; cases hp'
            rw [hb] at hb'; cases hb'
        · rcases M.dom x hx with h | ⟨j, h1, h2, h3⟩
          · exact .inl h
          · exact .inr ⟨j, h1, (hT' j).2 (.inl h2), h3⟩
      | true =>
        simp only [if_true]
        obtain ⟨a, s, k1, k2, k3⟩ := opYes_true (hgood.2.1 hb)
        have ok := op_sound hok k1
        have gs : Grew p.pre.fresh s := ok.grew
        have hpn : p.post.nx = s.nx := by rw [k3, (put_rest _ _ _).2.1]; rfl
        have hph : p.post.hp = s.hp := by rw [k3, (put_rest _ _ _).1]; rfl
        have hprd : ∀ x, x ∈ s.rd → x ∈ p.post.rd := fun x hx => by rw [k3, (put_rest _ _ _).2.2.1]; exact mem_uni.2 (.inl hx)
        have hpwr : ∀ x, x ∈ s.wr → x ∈ p.post.wr := fun x hx => by rw [k3, (put_rest _ _ _).2.2.2]; exact mem_uni.2 (.inl hx)
        have hlogs := F.logs_le (show i + 1 ≤ L.length by omega) (Nat.le_refl _)
        rw [hpost] at hlogs
        have hrd' : ∀ x, x ∈ s.rd → x ∈ st'.rd := fun x hx => by rw [F.fin.rd]; exact hlogs.1 x (hprd x hx)
        have hwr' : ∀ x, x ∈ s.wr → x ∈ st'.wr := fun x hx => by rw [F.fin.wr]; exact hlogs.2 x (hpwr x hx)
        have hprn : p.pre.nx = (stAt st L i).nx := hsame.nx
        have hpsn : s.nx = (stAt st L (i + 1)).nx := by rw [hpost, hpn]
        have hlo : st.nx ≤ p.pre.nx := by rw [hprn]; exact hnx0 i (by omega)
        have hhi : s.nx ≤ st'.nx := by rw [hpsn]; exact hnxn (i + 1) (by omega)
        let FPi : Nat → Prop := fun x => x ∈ s.rd ∨ x ∈ s.wr ∨ (p.pre.nx ≤ x ∧ x < s.nx)
        have hFi : ∀ x, FPi x → FP x := fun x hx => by
          rcases hx with h | h | h
          · exact hcov x (.inl (hrd' x h))
          · exact hcov x (.inr (.inl (hwr' x h)))
          · exact hcov x (.inr (.inr ⟨by omega, by omega⟩))
        have hnew : ∀ x, p.pre.nx ≤ x → x < s.nx → ¬ E1.dom x := fun x h1 h2 hdm => by
          rcases M.dom x hdm with h | ⟨j, hj, hTj, g1, g2⟩
          · exact hfree x (by omega) (by omega) h
          · rcases Nat.lt_trichotomy j i with h | rfl | h
            · have := F.nx_le (show j + 1 ≤ i by omega) (by omega)
              omega
            · exact hnT hTj
            · have := F.nx_le (show i + 1 ≤ j by omega) (by omega)
              omega
        have hag : ∀ x, FPi x → Hm x = hget p.pre.hp x := fun x hx => by
          have touch : (x ∈ s.rd ∨ x ∈ s.wr) → Hm x = hget p.pre.hp x := fun ht => by
            rw [hsame.hp]
            have hpq : x ∈ p.q.rd ∨ x ∈ p.q.wr := by rw [k2]; exact ht
            refine M.hm x i ⟨by omega, fun j hj ⟨p', hp', hb', hw'⟩ => ?_, fun j hj hjn ⟨p', hp', hb', hw'⟩ hT => ?_⟩
            · have := recs_order hrec hp' hp hj hb' hb (meets_of (.inr ⟨hw', hpq⟩))
              rw [Nat.zero_add, Nat.zero_add] at this
              exact hahead j this
            · rcases Nat.lt_or_ge i j with h | h
              · have := recs_order hrec hp hp' h hb hb' (meets_of (.inl ⟨hw', hpq⟩))
                rw [Nat.zero_add, Nat.zero_add] at this
                exact hbehind j hT this
              · obtain rfl : j = i := by omega
                exact hnT hT
          rcases hx with h | h | ⟨h1, h2⟩
          · exact touch (.inl h)
          · exact touch (.inr h)
          · have e1 : hget p.pre.hp x = none := by
              cases hh : hget p.pre.hp x with
              | none => rfl
              | some B => have := hwfp x (by rw [hh]; simp); omega
            have e2 : Hm x = none := by
              cases hh : Hm x with
              | none => rfl
              | some B => exact absurd (M.pst.sim.dom x (hFi x (.inr (.inr ⟨h1, h2⟩))) (by rw [hh]; simp)) (hnew x h1 h2)
            rw [e1, e2]
        refine ok.run rr FPi E1 act1 w1 _ _ hwfp (fun x hx => hx) hnew (M.pst.sim.cut hFi hag) (fun x hx => ?_) fun E' v w' hv hpst => ?_
        · cases x with
          | tmp t => exact hpre t (operand_name hx)
          | const c => exact constR c
          | global g => exact global_rep g
          | func f => exact .fn .nil .nil
        · have hwfs : Wf s := gs.wf hwfp
          have plift := Pst.lift (nx0 := st.nx) (nxn := st'.nx) (wrn := st'.wr) hS M.pst hpst (fun x hx => ⟨.inr (.inl hx), hFi x (.inr (.inl hx)), hwr' x hx⟩) hag hlo hhi (fun x _ hn => hwfs x hn) (fun x hx hn => M.low x hn)
          refine ih _ _ _ E' _ hleft (by simpa using hsz) hcl' ⟨hputsz _, (hdf o act1 v).trans M.defers, hslots E' a v hpst.le hv (fun d hdd => by rw [k3, hdd, look_put_same]), fun x k hc => ?_, plift, fun x hx => ?_, fun x hn => ?_⟩
          · obtain ⟨c1, c2, c3⟩ := hc
            by_cases hx : x ∈ s.wr
            · simp only [if_pos hx]
              have hwi : WrB L i x := ⟨p, hp, hb, by rw [k2]; exact hx⟩
              have hik : i < k := by
                rcases Nat.lt_or_ge i k with h | h
                · exact h
                · exact absurd ((hT' i).2 (.inr rfl)) (c3 i h hiL hwi)
              have hno : ∀ j, i + 1 ≤ j → j < k → ¬ WrB L j x := fun j h1 h2 hw => by
                obtain ⟨p', hp', hb', hw'⟩ := hw
                rcases (hT' j).1 (c2 j h2 ⟨p', hp', hb', hw'⟩) with h | h
                · have := recs_order hrec hp hp' (by omega) hb hb' (meets_of (.inl ⟨hw', .inr (by rw [k2]; exact hx)⟩))
                  rw [Nat.zero_add, Nat.zero_add] at this
                  exact hbehind j h this
                · omega
              rw [F.blk_le (show i + 1 ≤ k by omega) c1 hno, hpost, hph]
            · simp only [if_neg hx]
              refine M.hm x k ⟨c1, fun j h1 h2 => ?_, fun j h1 h2 hw hT => c3 j h1 h2 hw ((hT' j).2 (.inl hT))⟩
              rcases (hT' j).1 (c2 j h1 h2) with h | rfl
              · exact h
              · obtain ⟨p', hp', hb', hw'⟩ := h2
                rw [hp] at hp'; cases hp'
                rw [k2] at hw'; exact absurd hw' hx
          · rcases hpst.dom x hx with h | h
            · rcases M.dom x h with h | ⟨j, h1, h2, h3⟩
              · exact .inl h
              · exact .inr ⟨j, h1, (hT' j).2 (.inl h2), h3⟩
            · exact .inr ⟨i, hiL, (hT' i).2 (.inr rfl), by have : p.pre.fresh.nx = (stAt st L i).nx := hprn; omega, by omega⟩
          · by_cases hx : x ∈ s.wr
            · simp only [if_pos hx] at hn
              have := hwfs x hn; omega
            · simp only [if_neg hx] at hn; exact M.low x hn
  refine key ops.size (Array.replicate ops.size false) act w.drew E (hget st.hp) ?_ (by simp) ?_ ⟨hf.size, hd, fun d k hc => ?_, fun x k hc => ?_, Pst.wide (Pst.same (nx := st.nx) (wr := st'.wr) hS (.drew w)) (fun x hn => hwf x hn), fun x hx => .inl hx, fun x hn => Nat.lt_of_lt_of_le (hwf x hn) (by have := hnxn 0 (Nat.zero_le _); rwa [stAt_zero] at this)⟩
  · unfold leftN
    have := List.countP_le_length (p := fun i => !(Array.replicate ops.size false).getD i true) (l := List.range ops.size)
    simpa using this
  · intro i o ho hT
    have hi : i < ops.size := (Array.getElem?_eq_some_iff.1 ho).1
    have := hT.2
    simp [hi] at this
  · obtain ⟨c1, c2, c3⟩ := hc
    have := F.slot_le (i := 0) (d := d) (Nat.zero_le k) c1 (fun j _ h2 hw => by
      have hT := c2 j h2 hw
      have hj : j < ops.size := by omega
      have := hT.2
      simp [hj] at this) E (act.tmps.getD d undef)
    rw [stAt_zero] at this
    exact this.1 (hf.slot d)
  · obtain ⟨c1, c2, c3⟩ := hc
    have := F.blk_le (i := 0) (x := x) (Nat.zero_le k) c1 (fun j _ h2 hw => by
      have hT := c2 j h2 hw
      have hj : j < ops.size := by omega
      have := hT.2
      simp [hj] at this)
    rw [stAt_zero] at this
    exact this.symm
end
end Go.Proofs.YtamjnhpkmhbkcaaGreatDoor

/-
  PART: code and calls: what the evaluator says is so.
-/
namespace Go.Proofs.YtamjnhpkmhbkcaaGreatDoor
open Go.RowKit

def toExit : Ex → Exit
  | .norm => .normal
  | .exit id => .exit id
  | .goto l => .goto l
  | .ret => .ret
/-- What is asked of a program once: its functions' slots, regions, names; the orders that it draws. -/
structure Fit (P : Program) : Prop where
  funcs : P.funcs.toList.all funcOk = true
  mixed : P.follows .mixedOrders = true
/-- What the evaluator says of a piece of code is so. -/
def CodeOk (P : Program) (c : Code) (st : St) (x : Ex) (st' : St) : Prop :=
  ∀ (N : Nat) (D : List Deferred) (rr : Option Nat) (FP : Nat → Prop) (E : Env) (act : Act) (w : World) (Q : Exit → Act → World → Prop), codeOk N c = true → Wf st → Cov FP st st' → Free E st.nx st'.nx → Sim FP E (hget st.hp) w → Fr N E st act → act.defers = D →
    (∀ E' act' w', Fr N E' st' act' → act'.defers = D → Pst FP E E' (hget st.hp) (hget st'.hp) st.nx st'.nx st'.wr w w' → Q (toExit x) act' w') → c.wpIn (wideR rr) 0 P Q act w
/-- Of a loop: in so many rounds. -/
def RoundsOk (P : Program) (c : Code) (st : St) (x : Ex) (st' : St) : Prop :=
  ∃ m, ∀ (N : Nat) (D : List Deferred) (rr : Option Nat) (FP : Nat → Prop) (E : Env) (act : Act) (w : World) (Q : Exit → Act → World → Prop), codeOk N c = true → Wf st → Cov FP st st' → Free E st.nx st'.nx → Sim FP E (hget st.hp) w → Fr N E st act → act.defers = D →
    (∀ E' act' w', Fr N E' st' act' → act'.defers = D → Pst FP E E' (hget st.hp) (hget st'.hp) st.nx st'.nx st'.wr w w' → Q (toExit x) act' w') → Code.roundsIn (wideR rr) 0 P c Q m act w
/-- A scope whose jumps are gone one by one: so many. -/
def _root_.Go.Code.jumpsIn (F : Fence) (n : Nat) (P : Program) (c : Code) (Q : Exit → Act → World → Prop) : Nat → Code → Act → World → Prop
  | 0, _, _, _ => False
  | m + 1, rest, a, w => rest.wpIn F n P (fun e a w => match e with
    | .goto l => (∃ rest', findLabel c l = some rest' ∧ Code.jumpsIn F n P c Q m rest' a w) ∨ (findLabel c l = none ∧ Q (.goto l) a w)
    | e => Q e a w) a w
theorem stepR_scope {P : Program} {b : Frame} {a : Act} {w : World} {cs : List Frame} {k : List Item} {c : Code} :
    step P (lone (b.atR a (.code (.scope c) :: k)) cs w) = .next (lone (b.atR a (.code c :: .inScope c :: k)) cs w) :=
  step_lone_go (by simp [stepG, stepG.exec, Frame.atR])
theorem stepR_inScope {P : Program} {b : Frame} {a : Act} {w : World} {cs : List Frame} {k : List Item} {c : Code} :
    step P (lone (b.atR a (.inScope c :: k)) cs w) = .next (lone (b.atR a k) cs w) :=
  step_lone_go (by simp [stepG, stepG.exec, Frame.atR])
theorem wpIn_scope_jumps {F : Fence} {n : Nat} {P : Program} {Q : Exit → Act → World → Prop} {a : Act} {w : World} {c : Code} (m : Nat) (h : Code.jumpsIn F n P c Q m c a w) : (Code.scope c).wpIn F n P Q a w := by
  intro b k cs hro hb hr
  have key : ∀ m rest a w, Code.jumpsIn F n P c Q m rest a w →
      ∃ e a' w', Q e a' w' ∧ ArrivesIn (Machine.fenced P F) P (lone (b.atR a (.code rest :: .inScope c :: k)) cs w) b k cs e a' w' := by
    intro m
    induction m with
    | zero => intro rest a w h; exact h.elim
    | succ m ih =>
      intro rest a w h
      obtain ⟨e, a₁, w₁, hq, harr⟩ := h b (.inScope c :: k) cs hro hb hr
      cases e with
      | normal => exact ⟨.normal, a₁, w₁, hq, StepsIn.trans harr (.one (fenced_calm hb hr rfl) stepR_inScope)⟩
      | exit id =>
        have hx : exitTo id (.inScope c :: k) = exitTo id k := by simp [exitTo]
        exact ⟨_, a₁, w₁, hq, fun k' hk => harr.1 k' (by rw [hx]; exact hk), fun hr' hk => harr.2 hr' (by rw [hx]; exact hk)⟩
      | goto l =>
        rcases hq with ⟨rest', hf, hj⟩ | ⟨hf, hq⟩
        · have hg : gotoIn l (.inScope c :: k) = some (.code rest' :: .inScope c :: k) := by simp [gotoIn, hf]
          obtain ⟨e₂, a₂, w₂, hq₂, harr₂⟩ := ih rest' a₁ w₁ hj
          exact ⟨e₂, a₂, w₂, hq₂, .of_steps (harr.1 _ hg) harr₂⟩
        · have hx : gotoIn l (.inScope c :: k) = gotoIn l k := by simp [gotoIn, hf]
          exact ⟨_, a₁, w₁, hq, fun k' hk => harr.1 k' (by rw [hx]; exact hk), fun hr' hk => harr.2 hr' (by rw [hx]; exact hk)⟩
      | ret => exact ⟨_, a₁, w₁, hq, harr⟩
      | panic ch => exact ⟨_, a₁, w₁, hq, harr⟩
      | outgrown => exact ⟨_, a₁, w₁, hq, harr⟩
  obtain ⟨e, a', w', hq, harr⟩ := key m c a w h
  exact ⟨e, a', w', hq, .of_steps (.one (fenced_calm hb hr rfl) stepR_scope) harr⟩
theorem codeOk_label {N : Nat} : ∀ {c : Code} {l : Nat} {rest : Code}, findLabel c l = some rest → codeOk N c = true → codeOk N rest = true
  | .seq a b, l, rest, h, hc => by
    simp only [codeOk, Bool.and_eq_true] at hc
    unfold findLabel at h
    split at h
    · rename_i r hr
      cases h
      simp only [codeOk, Bool.and_eq_true]
      exact ⟨codeOk_label hr hc.1, hc.2⟩
    · exact codeOk_label h hc.2
  | .label l', l, rest, h, hc => by
    unfold findLabel at h
    split at h
    · cases h; rfl
    · cases h
  | .skip, _, _, h, _ => by cases h
  | .region _ _ _, _, _, h, _ => by cases h
  | .cond _ _ _, _, _, h, _ => by cases h
  | .block _ _, _, _, h, _ => by cases h
  | .loop _, _, _, h, _ => by cases h
  | .exit _, _, _, h, _ => by cases h
  | .goto _, _, _, h, _ => by cases h
  | .ret, _, _, h, _ => by cases h
  | .rangeFunc _ _ _ _, _, _, h, _ => by cases h
  | .scope _, _, _, h, _ => by cases h
  | .refuse _, _, _, h, _ => by cases h
def JumpsOk (P : Program) (c rest : Code) (st : St) (x : Ex) (st' : St) : Prop :=
  ∃ m, ∀ (N : Nat) (D : List Deferred) (rr : Option Nat) (FP : Nat → Prop) (E : Env) (act : Act) (w : World) (Q : Exit → Act → World → Prop), codeOk N c = true → codeOk N rest = true → Wf st → Cov FP st st' → Free E st.nx st'.nx → Sim FP E (hget st.hp) w → Fr N E st act → act.defers = D →
    (∀ E' act' w', Fr N E' st' act' → act'.defers = D → Pst FP E E' (hget st.hp) (hget st'.hp) st.nx st'.nx st'.wr w w' → Q (toExit x) act' w') → Code.jumpsIn (wideR rr) 0 P c Q m rest act w
structure CodeAll (r : Evs) : Prop where
  code : ∀ c st, (r.code c st).All (GrewX st)
  jump : ∀ c rest st, (r.jump c rest st).All (GrewX st)
structure EvsOk (P : Program) (r : Evs) : Prop where
  loop : ∀ c st x st', (r.code (.loop c) st).hit (x, st') → x ≠ .norm ∧ RoundsOk P c st x st'
  jumps : ∀ c rest st x st', (r.jump c rest st).hit (x, st') → JumpsOk P c rest st x st'
  all : CodeAll r
  calls : CallsOk P r
  callsAll : CallsAll r
section
variable {cx : Cx} {r : Evs} {P : Program}
theorem all_onGoto (hl : CodeAll r) (c : Code) {st : St} {b : Ex × St} (h : GrewX st b) : (onGoto r c b).All (GrewX st) := by
  obtain ⟨e, s⟩ := b
  unfold onGoto
  split
  · split
    · exact (hl.jump c _ s).imp fun y hy => Grew.trans h hy
    · exact h
  · exact h
theorem all_codeE (hr : CallsAll r) (hl : CodeAll r) : ∀ (c : Code) (st : St), (codeE cx r c st).All (GrewX st)
  | .skip, st => .refl st
  | .label _, st => .refl st
  | .region _ ops draw, st => all_opsE hr _ _ _ st
  | .seq a b, st => (all_codeE hr hl a st).bind fun x hx => by
      obtain ⟨e, s⟩ := x
      cases e with
      | norm => exact (all_codeE hr hl b s).imp fun y hy => Grew.trans hx hy
      | exit id => exact hx
      | goto l => exact hx
      | ret => exact hx
  | .cond c a b, st => by
      unfold codeE
      split
      · split
        · exact all_codeE hr hl a st
        · exact all_codeE hr hl b st
      · exact (decT_ok (all_codeE hr hl a _) (all_codeE hr hl b _)).1
      · trivial
  | .block id c, st => (all_codeE hr hl c st).bind fun x hx => by
      obtain ⟨e, s⟩ := x
      show (match eqEx e (.exit id) with | true => _ | false => _ : Tree (Ex × St)).All (GrewX st)
      split
      · exact hx
      · exact hx
  | .loop c, st => (all_codeE hr hl c st).bind fun x hx => by
      obtain ⟨e, s⟩ := x
      cases e with
      | norm => exact (hl.code (.loop c) s).imp fun y hy => Grew.trans hx hy
      | exit id => exact hx
      | goto l => exact hx
      | ret => exact hx
  | .exit _, st => .refl st
  | .goto _, st => .refl st
  | .ret, st => .refl st
  | .rangeFunc .., _ => trivial
  | .scope c, st => (all_codeE hr hl c st).bind fun x hx => all_onGoto hl c hx
  | .refuse _, _ => trivial
theorem free_mid {E E' : Env} {FP : Nat → Prop} {H H' : Nat → Option Blk} {nx nx1 nx2 : Nat} {wr : List Nat} {w w' : World} (h : Free E nx nx2) (p : Pst FP E E' H H' nx nx1 wr w w') (h1 : nx ≤ nx1) : Free E' nx1 nx2 := fun x g1 g2 hd => by
  rcases p.dom x hd with h' | h'
  · exact h x (by omega) g2 h'
  · omega
theorem cov_l {FP : Nat → Prop} {a b c : St} (h : Cov FP a c) (k : Gs b c) : Cov FP a b := fun x hx => h x (by
  rcases hx with hx | hx | ⟨h1, h2⟩
  · exact .inl (k.rd x hx)
  · exact .inr (.inl (k.wr x hx))
  · exact .inr (.inr ⟨h1, Nat.lt_of_lt_of_le h2 k.nx⟩))
theorem cov_r {FP : Nat → Prop} {a b c : St} (h : Cov FP a c) (k : a.nx ≤ b.nx) : Cov FP b c := fun x hx => h x (by
  rcases hx with hx | hx | ⟨h1, h2⟩
  · exact .inl hx
  · exact .inr (.inl hx)
  · exact .inr (.inr ⟨by omega, h2⟩))
/-- Weakened at the end. -/
theorem CodeOk.wkn {c : Code} {st : St} {x : Ex} {s m : St} (h : CodeOk P c st x s) (k : Wkn s m) (hwf : Wf st → Wf s) : CodeOk P c st x m := fun N D rr FP E act w Q hc hw hcov hfree hS hf hd hQ =>
  h N D rr FP E act w Q hc hw (fun y hy => hcov y (by
    rcases hy with hy | hy | ⟨h1, h2⟩
    · exact .inl (k.rd y hy)
    · exact .inr (.inl (k.wr y hy))
    · exact .inr (.inr ⟨h1, Nat.lt_of_lt_of_le h2 k.nx⟩))) (fun y h1 h2 => hfree y h1 (Nat.lt_of_lt_of_le h2 k.nx)) hS hf hd fun E' act' w' k1 k2 k3 => hQ E' act' w' (k1.wkn k) k2 (k3.wkn k (hwf hw))
/-- What is behind a piece in a scope, its jump gone. -/
theorem goto_sound (hE : EvsOk P r) {c rest : Code} {st s : St} {e x : Ex} {st' : St} (ih : CodeOk P rest st e s) (g1 : Grew st s) (h2 : (onGoto r c (e, s)).hit (x, st')) : JumpsOk P c rest st x st' := by
  have stop : (∀ l, e = .goto l → findLabel c l = none) → (x, st') = (e, s) → JumpsOk P c rest st x st' := fun hne heq => by
    cases heq
    refine ⟨1, fun N D rr FP E act w Q hc hcr hw hcov hfree hS hf hd hQ => ?_⟩
    refine ih N D rr FP E act w _ hcr hw hcov hfree hS hf hd fun E' act' w' k1 k2 k3 => ?_
    have q := hQ E' act' w' k1 k2 k3
    cases e with
    | norm => exact q
    | exit id => exact q
    | goto l => exact .inr ⟨hne l rfl, q⟩
    | ret => exact q
  cases e with
  | goto l =>
    unfold onGoto at h2
    dsimp only at h2
    split at h2
    · rename_i rest' hf'
      obtain ⟨m, hm⟩ := hE.jumps c rest' s x st' h2
      have g2 : Grew s st' := (hE.all.jump c rest' s).hit h2
      refine ⟨m + 1, fun N D rr FP E act w Q hc hcr hw hcov hfree hS hf hd hQ => ?_⟩
      refine ih N D rr FP E act w _ hcr hw (cov_l hcov g2.gs) (fun y h1 h2 => hfree y h1 (Nat.lt_of_lt_of_le h2 g2.nx)) hS hf hd fun E' act' w' k1 k2 k3 => ?_
      have k3' := k3.more g2.wr
      exact .inl ⟨rest', hf', hm N D rr FP E' act' w' Q hc (codeOk_label hf' hc) (g1.wf hw) (cov_r hcov g1.nx) (free_mid hfree k3 g1.nx) k3.sim k1 k2 fun E'' act'' w'' q1 q2 q3 => hQ E'' act'' w'' q1 q2 (Pst.trans hS (fun y hy => hcov y (.inr (.inl hy))) k3' q3 g1.nx g2.nx)⟩
    · rename_i hf'
      exact stop (fun l' hl' => by cases hl'; exact hf') h2.symm
  | norm => exact stop (fun l hl => by cases hl) h2.symm
  | exit id => exact stop (fun l hl => by cases hl) h2.symm
  | ret => exact stop (fun l hl => by cases hl) h2.symm
theorem code_sound (hP : cx.P = P) (hfit : Fit P) (hE : EvsOk P r) : ∀ (c : Code) (st : St) (x : Ex) (st' : St), (codeE cx r c st).hit (x, st') → CodeOk P c st x st'
  | .skip, st, x, st', h => by cases h; exact fun N D rr FP E act w Q hc hw hcov hfree hS hf hd hQ => wpIn_skip (hQ E act w hf hd (.refl hS))
  | .label l, st, x, st', h => by cases h; exact fun N D rr FP E act w Q hc hw hcov hfree hS hf hd hQ => wpIn_label (hQ E act w hf hd (.refl hS))
  | .exit id, st, x, st', h => by cases h; exact fun N D rr FP E act w Q hc hw hcov hfree hS hf hd hQ => wpIn_exit (hQ E act w hf hd (.refl hS))
  | .goto l, st, x, st', h => by cases h; exact fun N D rr FP E act w Q hc hw hcov hfree hS hf hd hQ => wpIn_goto (hQ E act w hf hd (.refl hS))
  | .ret, st, x, st', h => by cases h; exact fun N D rr FP E act w Q hc hw hcov hfree hS hf hd hQ => wpIn_ret (hQ E act w hf hd (.refl hS))
  | .rangeFunc .., st, x, st', h => h.elim
  | .scope c, st, x, st', h => by
    obtain ⟨⟨e, s⟩, h1, h2⟩ := Tree.hit_bind h
    have ih := code_sound hP hfit hE c st e s h1
    have g1 : Grew st s := (all_codeE hE.callsAll hE.all c st).hit h1
    obtain ⟨m, hm⟩ := goto_sound hE ih g1 h2
    exact fun N D rr FP E act w Q hc hw hcov hfree hS hf hd hQ => wpIn_scope_jumps m (hm N D rr FP E act w Q hc hc hw hcov hfree hS hf hd hQ)
  | .refuse _, st, x, st', h => h.elim
  | .region id ops draw, st, x, st', h => by
    obtain ⟨rfl, recs', s, hpath, hwk, hws, hok⟩ := path_of hE.callsAll _ _ _ _ _ _ h
    refine CodeOk.wkn (s := s) ?_ hwk hws
    intro N D rr FP E act w Q hc hw hcov hfree hS hf hd hQ
    simp only [codeOk, Bool.and_eq_true] at hc
    have hdst : ∀ o, o ∈ ops.toList → DstIn N o := fun o ho d hd => by
      have := List.all_eq_true.1 hc.1 o ho
      rw [hd] at this
      simpa [Nat.blt_eq] using this
    cases draw with
    | false =>
      refine wpIn_region ?_
      have := path_seq (N := N) (D := D) (rr := rr) (Q := Q) hP hE.callsAll hE.calls hpath (fun j o hj => by simpa using hj) hdst E act w hw hcov hfree hS hf hd hQ
      rwa [List.range_eq_range', ← Array.length_toList]
    | true =>
      have hreg : regionOk ops = true := by simpa using hc.2
      exact path_draw hP hE.callsAll hE.calls hfit.mixed hreg hpath (hok rfl) hdst E act w hw hcov hfree hS hf hd hQ
  | .seq a b, st, x, st', h => by
    obtain ⟨⟨e, s⟩, h1, h2⟩ := Tree.hit_bind h
    have ih1 := code_sound hP hfit hE a st e s h1
    have g1 : Grew st s := (all_codeE hE.callsAll hE.all a st).hit h1
    intro N D rr FP E act w Q hc hw hcov hfree hS hf hd hQ
    simp only [codeOk, Bool.and_eq_true] at hc
    refine wpIn_seq ?_
    have stop : e ≠ .norm → (x, st') = (e, s) → a.wpIn (wideR rr) 0 P (Exit.then (b.wpIn (wideR rr) 0 P Q) Q) act w := fun hne heq => by
      cases heq
      refine ih1 N D rr FP E act w _ hc.1 hw hcov hfree hS hf hd fun E' act' w' k1 k2 k3 => ?_
      cases x with
      | norm => exact absurd rfl hne
      | exit id => exact hQ E' act' w' k1 k2 k3
      | goto l => exact hQ E' act' w' k1 k2 k3
      | ret => exact hQ E' act' w' k1 k2 k3
    cases e with
    | norm =>
      have ih2 := code_sound hP hfit hE b s x st' h2
      have g2 : Grew s st' := (all_codeE hE.callsAll hE.all b s).hit h2
      refine ih1 N D rr FP E act w _ hc.1 hw (cov_l hcov g2.gs) (fun y h1 h2 => hfree y h1 (Nat.lt_of_lt_of_le h2 g2.nx)) hS hf hd fun E' act' w' k1 k2 k3 => ?_
      have k3' := k3.more g2.wr
      exact ih2 N D rr FP E' act' w' Q hc.2 (g1.wf hw) (cov_r hcov g1.nx) (free_mid hfree k3 g1.nx) k3.sim k1 k2 fun E'' act'' w'' q1 q2 q3 => hQ E'' act'' w'' q1 q2 (Pst.trans hS (fun y hy => hcov y (.inr (.inl hy))) k3' q3 g1.nx g2.nx)
    | exit id => exact stop (by simp) h2.symm
    | goto l => exact stop (by simp) h2.symm
    | ret => exact stop (by simp) h2.symm
  | .cond c a b, st, x, st', h => by
    unfold codeE at h
    split at h
    · rename_i e hb
      cases e with
      | true =>
        have ih := code_sound hP hfit hE a st x st' h
        intro N D rr FP E act w Q hc hw hcov hfree hS hf hd hQ
        simp only [codeOk, Bool.and_eq_true] at hc
        exact wpIn_cond_true (boolOf_rep hb (hf.val c)) (ih N D rr FP E act w Q hc.1 hw hcov hfree hS hf hd hQ)
      | false =>
        have ih := code_sound hP hfit hE b st x st' h
        intro N D rr FP E act w Q hc hw hcov hfree hS hf hd hQ
        simp only [codeOk, Bool.and_eq_true] at hc
        exact wpIn_cond_false (boolOf_rep hb (hf.val c)) (ih N D rr FP E act w Q hc.2 hw hcov hfree hS hf hd hQ)
    · rename_i e hb
      obtain ⟨_, hfk⟩ := decT_ok (c := e) (s0 := st) (all_codeE hE.callsAll hE.all a _) (all_codeE hE.callsAll hE.all b _)
      obtain ⟨f1, f2⟩ := hfk x st' h
      cases e with
      | true =>
        obtain ⟨s, k1, k2⟩ := f1 rfl
        have ih := code_sound hP hfit hE a st.forked x s k1
        have g : Grew st.forked s := (all_codeE hE.callsAll hE.all a _).hit k1
        have ih' := CodeOk.wkn ih k2 g.wf
        intro N D rr FP E act w Q hc hw hcov hfree hS hf hd hQ
        simp only [codeOk, Bool.and_eq_true] at hc
        exact wpIn_cond_true (boolOf_rep hb (hf.val c)) (ih' N D rr FP E act w Q hc.1 hw hcov hfree hS ⟨hf.size, hf.slot⟩ hd hQ)
      | false =>
        obtain ⟨s, k1, k2⟩ := f2 rfl
        have ih := code_sound hP hfit hE b st.forked x s k1
        have g : Grew st.forked s := (all_codeE hE.callsAll hE.all b _).hit k1
        have ih' := CodeOk.wkn ih k2 g.wf
        intro N D rr FP E act w Q hc hw hcov hfree hS hf hd hQ
        simp only [codeOk, Bool.and_eq_true] at hc
        exact wpIn_cond_false (boolOf_rep hb (hf.val c)) (ih' N D rr FP E act w Q hc.2 hw hcov hfree hS ⟨hf.size, hf.slot⟩ hd hQ)
    · exact h.elim
  | .block id c, st, x, st', h => by
    obtain ⟨⟨e, s⟩, h1, h2⟩ := Tree.hit_bind h
    have ih := code_sound hP hfit hE c st e s h1
    intro N D rr FP E act w Q hc hw hcov hfree hS hf hd hQ
    refine wpIn_block ?_
    simp only [] at h2
    split at h2
    · rename_i he
      obtain rfl := eqEx_eq he
      cases h2
      refine ih N D rr FP E act w _ hc hw hcov hfree hS hf hd fun E' act' w' k1 k2 k3 => ?_
      show (if id = id then _ else _)
      rw [if_pos rfl]; exact hQ E' act' w' k1 k2 k3
    · rename_i he
      cases h2
      refine ih N D rr FP E act w _ hc hw hcov hfree hS hf hd fun E' act' w' k1 k2 k3 => ?_
      have := hQ E' act' w' k1 k2 k3
      cases x with
      | norm => exact this
      | exit id' =>
        show (if id' = id then _ else _)
        have hne : ¬ id' = id := fun e => by subst e; simp [eqEx] at he
        rw [if_neg hne]; exact this
      | goto l => exact this
      | ret => exact this
  | .loop c, st, x, st', h => by
    obtain ⟨⟨e, s⟩, h1, h2⟩ := Tree.hit_bind h
    have ih := code_sound hP hfit hE c st e s h1
    have g1 : Grew st s := (all_codeE hE.callsAll hE.all c st).hit h1
    intro N D rr FP E act w Q hc hw hcov hfree hS hf hd hQ
    have stop : e ≠ .norm → (x, st') = (e, s) → (Code.loop c).wpIn (wideR rr) 0 P Q act w := fun hne heq => by
      cases heq
      refine wpIn_loop_rounds 1 ?_
      rw [roundsIn_succ]
      refine ih N D rr FP E act w _ hc hw hcov hfree hS hf hd fun E' act' w' k1 k2 k3 => ?_
      cases x with
      | norm => exact absurd rfl hne
      | exit id => exact hQ E' act' w' k1 k2 k3
      | goto l => exact hQ E' act' w' k1 k2 k3
      | ret => exact hQ E' act' w' k1 k2 k3
    cases e with
    | norm =>
      obtain ⟨_, m, hm⟩ := hE.loop c s x st' h2
      have g2 : Grew s st' := (hE.all.code (.loop c) s).hit h2
      refine wpIn_loop_rounds (m + 1) ?_
      rw [roundsIn_succ]
      refine ih N D rr FP E act w _ hc hw (cov_l hcov g2.gs) (fun y h1 h2 => hfree y h1 (Nat.lt_of_lt_of_le h2 g2.nx)) hS hf hd fun E' act' w' k1 k2 k3 => ?_
      have k3' := k3.more g2.wr
      exact hm N D rr FP E' act' w' Q hc (g1.wf hw) (cov_r hcov g1.nx) (free_mid hfree k3 g1.nx) k3.sim k1 k2 fun E'' act'' w'' q1 q2 q3 => hQ E'' act'' w'' q1 q2 (Pst.trans hS (fun y hy => hcov y (.inr (.inl hy))) k3' q3 g1.nx g2.nx)
    | exit id => exact stop (by simp) h2.symm
    | goto l => exact stop (by simp) h2.symm
    | ret => exact stop (by simp) h2.symm
/-- A jump, likewise. -/
theorem jump_sound (hP : cx.P = P) (hfit : Fit P) (hE : EvsOk P r) (c rest : Code) (st : St) (x : Ex) (st' : St) (h : (jumpE cx r c rest st).hit (x, st')) : JumpsOk P c rest st x st' := by
  obtain ⟨⟨e, s⟩, h1, h2⟩ := Tree.hit_bind h
  exact goto_sound hE (code_sound hP hfit hE rest st e s h1) ((all_codeE hE.callsAll hE.all rest st).hit h1) h2
theorem all_jumpE (hr : CallsAll r) (hl : CodeAll r) (c rest : Code) (st : St) : (jumpE cx r c rest st).All (GrewX st) := (all_codeE hr hl rest st).bind fun x hx => all_onGoto hl c hx
/-- A loop's rounds, likewise. -/
theorem loop_sound (hP : cx.P = P) (hfit : Fit P) (hE : EvsOk P r) (c : Code) (st : St) (x : Ex) (st' : St) (h : (codeE cx r (.loop c) st).hit (x, st')) : x ≠ .norm ∧ RoundsOk P c st x st' := by
  obtain ⟨⟨e, s⟩, h1, h2⟩ := Tree.hit_bind h
  have ih := code_sound hP hfit hE c st e s h1
  have g1 : Grew st s := (all_codeE hE.callsAll hE.all c st).hit h1
  have stop : e ≠ .norm → (x, st') = (e, s) → x ≠ .norm ∧ RoundsOk P c st x st' := fun hne heq => by
    cases heq
    refine ⟨hne, 1, fun N D rr FP E act w Q hc hw hcov hfree hS hf hd hQ => ?_⟩
    rw [roundsIn_succ]
    refine ih N D rr FP E act w _ hc hw hcov hfree hS hf hd fun E' act' w' k1 k2 k3 => ?_
    cases x with
    | norm => exact absurd rfl hne
    | exit id => exact hQ E' act' w' k1 k2 k3
    | goto l => exact hQ E' act' w' k1 k2 k3
    | ret => exact hQ E' act' w' k1 k2 k3
  cases e with
  | norm =>
    obtain ⟨hne, m, hm⟩ := hE.loop c s x st' h2
    have g2 : Grew s st' := (hE.all.code (.loop c) s).hit h2
    refine ⟨hne, m + 1, fun N D rr FP E act w Q hc hw hcov hfree hS hf hd hQ => ?_⟩
    rw [roundsIn_succ]
    refine ih N D rr FP E act w _ hc hw (cov_l hcov g2.gs) (fun y h1 h2 => hfree y h1 (Nat.lt_of_lt_of_le h2 g2.nx)) hS hf hd fun E' act' w' k1 k2 k3 => ?_
    have k3' := k3.more g2.wr
    exact hm N D rr FP E' act' w' Q hc (g1.wf hw) (cov_r hcov g1.nx) (free_mid hfree k3 g1.nx) k3.sim k1 k2 fun E'' act'' w'' q1 q2 q3 => hQ E'' act'' w'' q1 q2 (Pst.trans hS (fun y hy => hcov y (.inr (.inl hy))) k3' q3 g1.nx g2.nx)
  | exit id => exact stop (by simp) h2.symm
  | goto l => exact stop (by simp) h2.symm
  | ret => exact stop (by simp) h2.symm
end
end Go.Proofs.YtamjnhpkmhbkcaaGreatDoor

/-
  PART: calls: what the evaluator says of a function's body is so.
-/
namespace Go.Proofs.YtamjnhpkmhbkcaaGreatDoor
open Go.RowKit

section
variable {P : Program} {st st' s : St} {a : AV}
theorem load_ptr {t : TypeId} {x off : Nat} (h : (loadA P t (.ptr x off) st).hit (a, s)) : s = st.read x ∧ ∀ (FP : Nat → Prop) (E : Env) (w : World), FP x → Sim FP E (hget st.hp) w → ∃ v, (loadVar t ⟨E.ρ x, off, none⟩).run P w = .ok v w ∧ Rep E a v := by
  unfold loadA at h
  split at h
  · rename_i n ag hs ha
    simp only [] at h
    split at h
    · rename_i ty cs hb
      split at h
      · rename_i r hc
        cases h
        refine ⟨rfl, fun FP E w hF hS => ?_⟩
        obtain ⟨_, c, hc1, hc2, hc3⟩ := blk_fix hS hF hb
        obtain ⟨hw1, hw2⟩ := hc2.whole
        obtain ⟨v, hl, hr⟩ := load_cut (P := P) hc1 hs ha hw1 hw2 ((hc3.drop _).take _) hc
        rw [Nat.zero_add] at hl
        exact ⟨v, hl, hr⟩
      · exact h.elim
    · exact h.elim
  · exact h.elim
def resRun (tmps : Array Value) : ResultVar → Sem Value
  | .tmp t => pure (tmps.getD t undef)
  | .cell a t => do loadVar t (← asAddr (tmps.getD a undef))
theorem resA_ok {N : Nat} {rv : ResultVar} (h : (resA P st rv).hit (a, s)) : (Grew st s ∧ s.sl = st.sl ∧ s.hp = st.hp ∧ s.nx = st.nx ∧ s.wr = st.wr ∧ s.wb = st.wb) ∧ ∀ (FP : Nat → Prop) (E : Env) (act : Act) (w : World), Cov FP st s → Sim FP E (hget st.hp) w → Fr N E st act →
    ∃ v, (resRun act.tmps rv).run P w = .ok v w ∧ Rep E a v := by
  unfold resA at h
  split at h
  · rename_i t
    cases h
    exact ⟨⟨.refl _, rfl, rfl, rfl, rfl, rfl⟩, fun FP E act w _ _ hf => ⟨_, rfl, hf.slot t⟩⟩
  · rename_i b t
    split at h
    · rename_i x off hl
      obtain ⟨rfl, hk⟩ := load_ptr h
      refine ⟨⟨.read _ _, rfl, rfl, rfl, rfl, rfl⟩, fun FP E act w hc hS hf => ?_⟩
      obtain ⟨v, h1, h2⟩ := hk FP E w (hc x (.inl (mem_ins.2 (.inl rfl)))) hS
      obtain ⟨_, he⟩ := rep_ptr (hl ▸ hf.slot b)
      refine ⟨v, ?_, h2⟩
      simp only [resRun, he]
      simpa [asAddr] using h1
    · exact h.elim
theorem ressA_ok {N : Nat} : ∀ {rs : List ResultVar} {st s : St} {as : List AV}, (ressA P rs st).hit (as, s) → (Grew st s ∧ s.sl = st.sl ∧ s.hp = st.hp ∧ s.nx = st.nx ∧ s.wr = st.wr ∧ s.wb = st.wb) ∧ ∀ (FP : Nat → Prop) (E : Env) (act : Act) (w : World), Cov FP st s → Sim FP E (hget st.hp) w → Fr N E st act →
    ∃ vs, (rs.mapM (resRun act.tmps)).run P w = .ok vs w ∧ Reps E as vs
  | [], st, s, as, h => by
    cases h
    exact ⟨⟨.refl _, rfl, rfl, rfl, rfl, rfl⟩, fun FP E act w _ _ _ => ⟨[], by simp, .nil⟩⟩
  | rv :: rs, st, s, as, h => by
    obtain ⟨⟨a, s1⟩, h1, h2⟩ := Tree.hit_bind h
    obtain ⟨⟨bs, s2⟩, h3, h4⟩ := Tree.hit_bind h2
    cases h4
    obtain ⟨⟨g1, e1, e2, e3, e4, e5⟩, k1⟩ := resA_ok (N := N) h1
    obtain ⟨⟨g2, f1, f2, f3, f4, f5⟩, k2⟩ := ressA_ok (N := N) h3
    refine ⟨⟨g1.trans g2, f1.trans e1, f2.trans e2, f3.trans e3, f4.trans e4, f5.trans e5⟩, fun FP E act w hc hS hf => ?_⟩
    obtain ⟨v, q1, q2⟩ := k1 FP E act w (cov_l hc g2.gs) hS hf
    obtain ⟨vs, q3, q4⟩ := k2 FP E act w (cov_r hc g1.nx) (by rw [e2]; exact hS) ⟨hf.size, fun d => by rw [e1]; exact hf.slot d⟩
    refine ⟨v :: vs, ?_, .cons q2 q4⟩
    rw [List.mapM_cons]
    simp [q1, q3]
theorem results_run {fn : Func} {tmps : Array Value} {vs : List Value} {w : World} (h : (fn.results.toList.mapM (resRun tmps)).run P w = .ok vs w) : (results fn tmps).run P w = .ok (if h : vs.toArray.size = 1 then vs.toArray[0] else .tuple vs.toArray) w := by
  have : results fn tmps = (do let vs ← fn.results.mapM (resRun tmps); pure (if h : vs.size = 1 then vs[0] else .tuple vs)) := by
    unfold results
    congr 1
  rw [this, Array.mapM_eq_mapM_toList]
  simp [h]
theorem oneA_ok {E : Env} {as : List AV} {vs : List Value} (h : Reps E as vs) : Rep E (oneA as) (if h : vs.toArray.size = 1 then vs.toArray[0] else .tuple vs.toArray) := by
  have hl := h.len
  unfold oneA
  split
  · rename_i x
    cases h with
    | cons h t => cases t; exact h
  · rename_i l hne
    have : ¬ vs.toArray.size = 1 := fun e => by
      have : as.length = 1 := by rw [hl]; simpa using e
      match as, this with
      | [x], _ => exact hne x rfl
    rw [dif_neg this]
    exact .tup h
theorem hget_upd (hp : List (Nat × Option Blk)) : ∀ (l : List Nat) (base : List (Nat × Option Blk)) (x : Nat), hget (upd hp l base) x = if x ∈ l then hget hp x else hget base x
  | [], base, x => by simp [upd]
  | y :: l, base, x => by
    simp only [upd, hget_cons, hget_upd hp l base x, List.mem_cons]
    by_cases h : y = x
    · subst h; simp
    · rw [if_neg h]
      have : ¬ x = y := fun e => h e.symm
      simp [this]
/-- What comes back of a call. -/
theorem back_ok {st0 : St} (hst0 : st0.hp = st.hp ∧ st0.nx = st.nx ∧ st0.rd = [] ∧ st0.wr = [] ∧ st0.wb = []) (g : Grew st0 s) (a : AV) :
    Grew st (s.back st a) ∧ (s.back st a).sl = st.sl ∧ (s.back st a).nx = s.nx ∧ (∀ FP, Cov FP st (s.back st a) → Cov FP st0 s) ∧
    ∀ (FP : Nat → Prop) (E E' : Env) (w w' : World), Wf st → Pst FP E E' (hget st.hp) (hget s.hp) st.nx s.nx s.wr w w' → Pst FP E E' (hget st.hp) (hget (s.back st a).hp) st.nx s.nx (s.back st a).wr w w' := by
  obtain ⟨e1, e2, e3, e4, e5⟩ := hst0
  generalize hold : (s.wr.filter fun x => Nat.blt x st.nx || Nat.ble s.nx x) = old
  generalize hnew : (reach s.hp st.nx 12 (idsO s.hp 7 a ++ old.flatMap (idsB2 s.hp)) []) = new
  have hb : s.back st a = { s with sl := st.sl, ws := st.ws, hp := upd s.hp old (upd s.hp new st.hp), rd := uni (s.rd.filter fun x => Nat.blt x st.nx || Nat.ble s.nx x) st.rd, wr := uni old (uni new st.wr), wb := uni old (uni new st.wb), wc := new.map (fun x => (x, none)) ++ (s.wc ++ st.wc) } := by
    unfold St.back; rw [hold]; dsimp only; rw [hnew]
  rw [hb]
  have hh : ∀ x, hget (upd s.hp old (upd s.hp new st.hp)) x = if x ∈ old ∨ x ∈ new then hget s.hp x else hget st.hp x := fun x => by
    rw [hget_upd, hget_upd]
    by_cases h1 : x ∈ old <;> by_cases h2 : x ∈ new <;> simp [h1, h2]
  have hnx : st.nx ≤ s.nx := by rw [← e2]; exact g.nx
  have mem_old : ∀ x, x ∈ s.wr → (x < st.nx ∨ s.nx ≤ x) → x ∈ old := fun x hx h => by
    rw [← hold]
    refine List.mem_filter.2 ⟨hx, ?_⟩
    rcases h with h | h
    · simp [Nat.blt_eq, h]
    · simp [Nat.ble_eq, h]
  have wfs : Wf st → Wf s := fun h => g.wf (by unfold Wf; rw [e1, e2]; exact h)
  have al : Wf st → ∀ x, hget (upd s.hp old (upd s.hp new st.hp)) x ≠ none → hget (upd s.hp old (upd s.hp new st.hp)) x = hget s.hp x := fun hwf x hx => by
    rw [hh] at hx ⊢
    by_cases h : x ∈ old ∨ x ∈ new
    · rw [if_pos h]
    · rw [if_neg h] at hx ⊢
      have hlt := hwf x hx
      have hnw : x ∉ s.wr := fun hw => h (.inl (mem_old x hw (.inl hlt)))
      rw [g.blkr x hnw, e1]
  refine ⟨⟨fun hwf x hx => ?_, hnx, fun x h => mem_uni.2 (.inr h), fun x h => mem_uni.2 (.inr (mem_uni.2 (.inr h))), fun x h => h, fun x h => mem_uni.2 (.inr (mem_uni.2 (.inr h))), fun d hd => rfl, fun x hx => ?_, fun x hx => ?_, fun x hx => ?_, fun e he => List.mem_append.2 (.inr (List.mem_append.2 (.inr he))), fun x => ?_⟩, rfl, rfl, fun FP hc x hx => ?_, fun FP E E' w w' hwf p => ?_⟩
  · have := al hwf x hx
    rw [this] at hx
    exact wfs hwf x hx
  · rw [hh, if_neg]
    rintro (h | h)
    · exact hx (mem_uni.2 (.inl h))
    · exact hx (mem_uni.2 (.inr (mem_uni.2 (.inl h))))
  · rw [hh, if_neg]
    rintro (h | h)
    · exact hx (mem_uni.2 (.inl h))
    · exact hx (mem_uni.2 (.inr (mem_uni.2 (.inl h))))
  · rcases mem_uni.1 hx with h | h
    · exact .inr (mem_uni.2 (.inl h))
    · rcases mem_uni.1 h with h | h
      · exact .inr (mem_uni.2 (.inr (mem_uni.2 (.inl h))))
      · exact .inl h
  · by_cases hn : x ∈ new
    · exact .inl fun j => cov_all (List.mem_append.2 (.inl (List.mem_map.2 ⟨x, hn, rfl⟩))) j
    · by_cases ho : x ∈ old
      · have hc := (g.cell x).wc (b := new.map (fun x => (x, none)) ++ (s.wc ++ st.wc)) fun e he => List.mem_append.2 (.inr (List.mem_append.2 (.inl he)))
        have hx : hget (upd s.hp old (upd s.hp new st.hp)) x = hget s.hp x := by rw [hh, if_pos (.inl ho)]
        unfold Kept at hc ⊢
        rw [e1] at hc
        show _ ∨ hget (upd s.hp old (upd s.hp new st.hp)) x = _ ∨ ∃ ty cs cs', _ ∧ hget (upd s.hp old (upd s.hp new st.hp)) x = _ ∧ _ ∧ _
        rw [hx]; exact hc
      · refine .inr (.inl ?_)
        show hget (upd s.hp old (upd s.hp new st.hp)) x = _
        rw [hh, if_neg (by simp [ho, hn])]
  · by_cases hr : st.nx ≤ x ∧ x < s.nx
    · exact hc x (.inr (.inr hr))
    · have hr' : x < st.nx ∨ s.nx ≤ x := by omega
      rcases hx with hx | hx | hx
      · refine hc x (.inl (mem_uni.2 (.inl (List.mem_filter.2 ⟨hx, ?_⟩))))
        rcases hr' with h | h
        · simp [Nat.blt_eq, h]
        · simp [Nat.ble_eq, h]
      · exact hc x (.inr (.inl (mem_uni.2 (.inl (mem_old x hx hr')))))
      · rw [e2] at hx; exact absurd hx hr
  · have alv : ∀ x, hget (upd s.hp old (upd s.hp new st.hp)) x ≠ none → hget s.hp x ≠ none := fun x hx => by rw [← al hwf x hx]; exact hx
    refine ⟨⟨p.le, p.dom, ⟨p.sim.fz, fun x hF hn => p.sim.dom x hF (alv x hn), fun x hF hn hv => p.sim.low x hF (alv x hn) hv, fun x B hF hB => ?_, fun x y hx hy hnx hny => p.sim.inj x y hx hy (alv x hnx) (alv y hny)⟩,
      fun b hb hx => p.frame b hb fun x hx' hlt => hx x (mem_uni.2 (.inl (mem_old x hx' (.inl hlt)))) hlt, fun x h1 h2 hF hn hv => ?_, p.size, p.os, p.tape, p.output⟩, fun x hx hF hn => p.old x hx hF (alv x hn)⟩
    · have := al hwf x (by rw [hB]; simp)
      exact p.sim.blk x B hF (by rw [← this]; exact hB)
    · rcases p.news x h1 h2 hF (alv x hn) hv with h | ⟨y, hy, hlt, h⟩
      · exact .inl h
      · exact .inr ⟨y, mem_uni.2 (.inl (mem_old y hy (.inl hlt))), hlt, h⟩
end
end Go.Proofs.YtamjnhpkmhbkcaaGreatDoor

/-
  PART: calls and all: the evaluator is right.
-/
namespace Go.Proofs.YtamjnhpkmhbkcaaGreatDoor
open Go.RowKit

/-- Contracts that are given are so. -/
structure CtrOk (cx : Cx) : Prop where
  all : ∀ f args st t, cx.ctr f args st = some t → t.All (GrewS st)
  ok : ∀ f args st t a st', cx.ctr f args st = some t → t.hit (a, st') → CallOk cx.P f args st a st'
section
variable {cx : Cx} {r : Evs} {P : Program}
theorem params_look (l : List AV) : ∀ (i d : Nat), look (params i l) d = if i ≤ d ∧ d < i + l.length then l.getD (d - i) .unk else .unk := by
  induction l with
  | nil => intro i d; simp [params, look]
  | cons a l ih =>
    intro i d
    simp only [params, look_cons, ih]
    by_cases h : i = d
    · subst h; simp
    · rw [if_neg h]
      by_cases h2 : i + 1 ≤ d ∧ d < i + 1 + l.length
      · rw [if_pos h2, if_pos (by simp; omega)]
        obtain ⟨k, rfl⟩ : ∃ k, d = i + 1 + k := ⟨d - (i + 1), by omega⟩
        rw [show i + 1 + k - (i + 1) = k by omega, show i + 1 + k - i = k + 1 by omega]
        simp
      · rw [if_neg h2, if_neg (by simp; omega)]
theorem params_fr {E : Env} {st : St} {args : List AV} {vals : Array Value} {N : Nat} (h : Reps E args vals.toList) (hle : args.length ≤ N) {D : List Deferred} : Fr N E { st with sl := params 0 args, ws := [], rd := [], wr := [], wb := [], wc := [] } { tmps := vals ++ Array.replicate (N - vals.size) undef, defers := D } := by
  have hlen : args.length = vals.size := by rw [h.len]; simp
  refine ⟨by simp; omega, fun d => ?_⟩
  show Rep E (look (params 0 args) d) _
  rw [params_look]
  by_cases hd : 0 ≤ d ∧ d < 0 + args.length
  · rw [if_pos hd]
    have hd' : d < args.length := by omega
    have hg : args[d]? = some args[d] := List.getElem?_eq_getElem hd'
    obtain ⟨v, h1, h2⟩ := h.get hg
    have h3 : (vals ++ Array.replicate (N - vals.size) undef).getD d undef = v := by
      rw [Array.getD_eq_getD_getElem?, Array.getElem?_append_left (by omega), ← Array.getElem?_toList, h1]; rfl
    rw [h3]
    have h4 : args.getD (d - 0) .unk = args[d] := by simp [List.getD, hg]
    rw [h4]; exact h2
  · rw [if_neg hd]; exact .unk _
theorem all_ressA {s0 : St} (P : Program) : ∀ (rs : List ResultVar) (s : St), Grew s0 s → (ressA P rs s).All fun b => Grew s0 b.2
  | [], s, h => h
  | rv :: rs, s, h => by
    refine Tree.All.bind (Q := fun b => Grew s0 b.2) ?_ fun b hb => (all_ressA P rs b.2 hb).bind fun b' hb' => hb'
    unfold resA
    split
    · exact h
    · split
      · exact (all_load _ _).imp fun b hb => h.trans hb.1
      · trivial
theorem grew_start {st s : St} {l : List (Nat × AV)} (a : AV) (g : Grew { st with sl := l, ws := [], rd := [], wr := [], wb := [], wc := [] } s) : Grew st.start { s with sl := [(0, a)], ws := [0] } :=
  ⟨g.wf, g.nx, g.rd, g.wr, fun x h => (by cases h), fun x h => (by cases h), fun d hd => by
    show look [(0, a)] d = look [] d
    rw [look_cons, if_neg]
    rintro rfl; exact hd (List.mem_cons_self ..), g.blkb, g.blkr, g.wbr, fun e h => (by cases h), g.cell⟩
theorem all_inside (hr : CallsAll r) (hl : CodeAll r) (fn : Func) (c : Code) (args : List AV) (st : St) : (insideE cx r fn c args st).All (GrewX st.start) := by
  unfold insideE
  refine (all_codeE hr hl c _).bind fun x hx => ?_
  obtain ⟨e, s⟩ := x
  have key : ((ressA cx.P fn.results.toList s).bind fun (as, s') => .ret (.ret, { s' with sl := [(0, oneA as)], ws := [0] }) : Tree (Ex × St)).All (GrewX st.start) :=
    (all_ressA cx.P _ s hx).bind fun b hb => grew_start _ hb
  cases e with
  | norm => exact key
  | ret => exact key
  | exit id => trivial
  | goto l => trivial
theorem collapse_ok {s0 : St} (h0 : s0.forked = s0) : ∀ {t : Tree (Ex × St)}, t.All (GrewX s0) → (collapse s0 t).All (GrewX s0) ∧ ∀ x m, (collapse s0 t).hit (x, m) → ∃ s, t.hit (x, s) ∧ Wkn s m
  | .ret b, h => ⟨h, fun x m hh => ⟨m, hh, .refl _⟩⟩
  | .br c t e, h => by
    obtain ⟨a1, k1⟩ := collapse_ok h0 h.1
    obtain ⟨a2, k2⟩ := collapse_ok h0 h.2
    obtain ⟨q1, q2⟩ := forkT_ok (c := c) (s0 := s0) (by rw [h0]; exact a1) (by rw [h0]; exact a2)
    refine ⟨q1, fun x m hh => ?_⟩
    obtain ⟨r1, r2⟩ := q2 x m hh
    cases c with
    | true =>
      obtain ⟨s, h1, h2⟩ := r1 rfl
      obtain ⟨s', h3, h4⟩ := k1 x s h1
      exact ⟨s', .inl ⟨rfl, h3⟩, h4.trans h2⟩
    | false =>
      obtain ⟨s, h1, h2⟩ := r2 rfl
      obtain ⟨s', h3, h4⟩ := k2 x s h1
      exact ⟨s', .inr ⟨rfl, h3⟩, h4.trans h2⟩
  | .side p t, h => by
    obtain ⟨a1, k1⟩ := collapse_ok (t := t) h0 h
    refine ⟨a1, fun x m hh => ?_⟩
    obtain ⟨s, h1, h2⟩ := k1 x m hh.2
    exact ⟨s, ⟨hh.1, h1⟩, h2⟩
  | .fail, h => ⟨trivial, fun x m hh => hh.elim⟩
theorem all_bodyE (hr : CallsAll r) (hl : CodeAll r) (fn : Func) (c : Code) (args : List AV) (st : St) : (bodyE cx r fn c args st).All (GrewS st) := by
  unfold bodyE
  split
  · trivial
  · refine (collapse_ok rfl (all_inside hr hl fn c args st)).1.bind fun x hx => ?_
    obtain ⟨k1, k2, _⟩ := back_ok (st := st) (st0 := st.start) ⟨rfl, rfl, rfl, rfl, rfl⟩ hx (look x.2.sl 0)
    exact ⟨k1, k2⟩
theorem all_callE (hc : CtrOk cx) (hr : CallsAll r) (hl : CodeAll r) : CallsAll ⟨codeE cx r, callE cx r, jumpE cx r⟩ := fun f args st => by
  show (callE cx r f args st).All (GrewS st)
  unfold callE
  split
  · rename_i t ht; exact hc.all f args st t ht
  · split
    · trivial
    · split
      · exact all_bodyE hr hl ..
      · split
        · exact gs_refl ..
        · split
          · split
            · exact gs_refl ..
            · trivial
          · trivial
theorem fit_func (hfit : Fit P) {f : Nat} {fn : Func} (hf : P.funcs[f]? = some fn) {c : Code} (hb : fn.body = some c) : codeOk fn.ntmps c = true ∧ (fn.name == "runtime.NumGoroutine") = false := by
  have h := List.all_eq_true.1 hfit.funcs fn (by
    have := Array.mem_of_getElem? hf
    simpa using this)
  unfold funcOk at h
  rw [hb] at h
  simpa using h
theorem body_sound (hP : cx.P = P) (hfit : Fit P) (hE : EvsOk P r) {f : Nat} {fn : Func} {c : Code} (hf : P.funcs[f]? = some fn) (hb : fn.body = some c) {args : List AV} {st : St} {a : AV} {st' : St} (h : (bodyE cx r fn c args st).hit (a, st')) : CallOk P f args st a st' := by
  have hall := (all_bodyE hE.callsAll hE.all fn c args st).hit h
  obtain ⟨hgrew, hsl⟩ := hall
  obtain ⟨hcode, hname⟩ := fit_func hfit hf hb
  unfold bodyE at h
  split at h
  · exact h.elim
  · rename_i hle
    have hle : args.length ≤ fn.ntmps := Nat.le_of_ble_eq_true hle
    obtain ⟨⟨x0, m⟩, hm, hm2⟩ := Tree.hit_bind h
    cases hm2
    obtain ⟨hcall, hcol⟩ := collapse_ok rfl (all_inside (cx := cx) hE.callsAll hE.all fn c args st)
    have gm : Grew st.start m := hcall.hit hm
    obtain ⟨sl, hin, hwk⟩ := hcol x0 m hm
    unfold insideE at hin
    obtain ⟨⟨e, s⟩, h1, h2⟩ := Tree.hit_bind hin
    have g1 : Grew _ s := (all_codeE hE.callsAll hE.all c _).hit h1
    have hs := code_sound hP hfit hE c _ e s h1
    have key : (toExit e = .normal ∨ toExit e = .ret) → ((ressA cx.P fn.results.toList s).bind fun (as, s') => Tree.ret (Ex.ret, { s' with sl := [(0, oneA as)], ws := [0] })).hit (x0, sl) → CallOk P f args st (look m.sl 0) (m.back st (look m.sl 0)) := fun he h2 => by
      obtain ⟨⟨as, s1⟩, h3, h4⟩ := Tree.hit_bind h2
      cases h4
      subst hP
      obtain ⟨⟨g2, f1, f2, f3, f4, f5⟩, k2⟩ := ressA_ok (N := fn.ntmps) h3
      obtain ⟨b1, b2, b3, b4, b5⟩ := back_ok (st := st) (st0 := st.start) ⟨rfl, rfl, rfl, rfl, rfl⟩ gm (look m.sl 0)
      refine ⟨hgrew, hsl, ?_⟩
      intro rr FP E w vals K hwf hcov hfree hS hargs hK
      refine .inr ⟨?_, ?_⟩
      · have hname' : ¬ fn.name = "runtime.NumGoroutine" := by simpa using hname
        simp [callFunc, hf, hname', hb]
      · have hnxs : s.nx ≤ m.nx := by rw [← f3]; exact hwk.nx
        have hwide : CallsIn Fence.wide 0 cx.P f vals w fun e w' => ∃ v, e = .returned v ∧ K v w' := by
          refine callsIn_of_wp hf hb trivial ?_
          have hc0 := b4 FP hcov
          have hc1 : Cov FP { st with sl := params 0 args, ws := [], rd := [], wr := [], wb := [], wc := [] } s1 := fun x hx => hc0 x (by
            rcases hx with hx | hx | ⟨q1, q2⟩
            · exact .inl (hwk.rd x hx)
            · exact .inr (.inl (hwk.wr x hx))
            · exact .inr (.inr ⟨q1, Nat.lt_of_lt_of_le q2 hwk.nx⟩))
          refine hs fn.ntmps [] none FP E _ w _ hcode hwf (cov_l hc1 g2.gs) (fun x q1 q2 => hfree x q1 (by rw [b3]; exact Nat.lt_of_lt_of_le q2 hnxs)) hS (params_fr hargs hle) rfl fun E' act' w' q1 q2 q3 => ?_
          obtain ⟨vs, r1, r2⟩ := k2 FP E' act' w' (cov_r hc1 g1.nx) q3.sim q1
          have hpost : act'.defers = [] ∧ ∃ v, (results fn act'.tmps).run cx.P w' = .ok v w' ∧ ∃ v', Ending.returned v = .returned v' ∧ K v' w' := by
            refine ⟨q2, _, results_run r1, _, rfl, hK E' _ w' (hwk.slot E' 0 _ (oneA_ok r2)) ?_⟩
            rw [b3]
            refine b5 FP E E' w w' hwf ?_
            refine Pst.wkn (s := { s1 with sl := [(0, oneA as)], ws := [0] }) ?_ hwk (fun x hx => (g1.trans g2).wf hwf x hx)
            show Pst FP E E' (hget st.hp) (hget s1.hp) st.nx s1.nx s1.wr w w'
            rw [f2, f3, f4]
            exact q3
          rcases he with he | he
          · rw [he]; exact hpost
          · rw [he]; exact hpost
        cases rr with
        | none => exact hwide
        | some l => exact hwide.inRound l
    cases e with
    | norm => exact key (.inl rfl) h2
    | ret => exact key (.inr rfl) h2
    | exit id => exact h2.elim
    | goto l => exact h2.elim
theorem run_noEsc {f : Nat} {fn : Func} (hfn : P.funcs[f]? = some fn) (hb : fn.body = none) (hn : isNoEsc fn = true) (v : Value) (w : World) : (callFunc f #[v]).run P w = .ok (.value v) w := by
  unfold isNoEsc at hn
  simp only [Bool.and_eq_true, Bool.or_eq_true, beq_iff_eq] at hn
  obtain ⟨h1, h2⟩ := hn
  have e1 : (fn.name == "runtime.NumGoroutine") = false := by rw [h1]; decide
  have e2 : Extern.findNext fn = none := by
    unfold Extern.findNext
    rcases h2 with h2 | h2
    · rw [h1, h2]; kernel_rfl
    · rw [h1, h2]; kernel_rfl
  have e3 : Extern.find fn = some Extern.AbiNoEscape.same := by
    unfold Extern.find
    rw [h1]
    show (_ <|> _) = _
    have : (Extern.allGenericRows.lookup "internal/abi.NoEscape").map (· fn.targs fn.params fn.resultTypes) = none := by
      rw [show Extern.allGenericRows.lookup "internal/abi.NoEscape" = none by kernel_rfl]; rfl
    simp only [this]
    rw [show Extern.allTypedRows.lookup "internal/abi.NoEscape" = none by kernel_rfl, show Extern.allRows.lookup "internal/abi.NoEscape" = some Extern.AbiNoEscape.same by kernel_rfl]
    rfl
  have e4 : (Extern.AbiNoEscape.same #[v]).run P w = .ok v w := rfl
  have e5 : ¬ fn.name = "runtime.NumGoroutine" := by simpa using e1
  simp [callFunc, hfn, hb, e5, e2, e3, e4]
theorem call_sound (hc : CtrOk cx) (hP : cx.P = P) (hfit : Fit P) (hE : EvsOk P r) : CallsOk P ⟨codeE cx r, callE cx r, jumpE cx r⟩ := fun f args st a st' h => by
  subst hP
  have h' : (callE cx r f args st).hit (a, st') := h
  unfold callE at h'
  split at h'
  · rename_i t ht; exact hc.ok f args st t a st' ht h'
  · split at h'
    · exact h'.elim
    · rename_i fn hfn
      split at h'
      · rename_i c hb; exact body_sound rfl hfit hE hfn hb h'
      · rename_i hb
        split at h'
        · rename_i hne
          cases h'
          refine ⟨.refl _, rfl, fun rr FP E w vals K hwf hcov hfree hS hargs hK => ?_⟩
          obtain ⟨v, hv, hr⟩ : ∃ v, vals = #[v] ∧ Rep E a v := by
            obtain ⟨l⟩ := vals
            cases hargs with | cons h t => cases t; exact ⟨_, rfl, h⟩
          subst hv
          exact .inl ⟨v, run_noEsc hfn hb (by assumption) v w, hK E v w hr (.refl hS)⟩
        · split at h'
          · rename_i vs l hs
            split at h'
            · rename_i v hv
              cases h'
              refine ⟨.refl _, rfl, fun rr FP E w vals K hwf hcov hfree hS hargs hK => .inl ⟨v, ?_, hK E v w (litOr_rep l v) (.refl hS)⟩⟩
              have hvals : vals = vs.toArray := by rw [← scals_rep hs hargs]
              rw [hvals]
              exact semVal_run hv w
            · exact h'.elim
          · exact h'.elim
/-- The evaluator is right. -/
theorem evs_ok (hc : CtrOk cx) (hfit : Fit cx.P) : ∀ n, EvsOk cx.P (evs cx n)
  | 0 => ⟨fun _ _ _ _ h => h.elim, fun _ _ _ _ _ h => h.elim, ⟨fun _ _ => trivial, fun _ _ _ => trivial⟩, fun _ _ _ _ _ h => h.elim, fun _ _ _ => trivial⟩
  | n + 1 => by
    have ih := evs_ok hc hfit n
    exact ⟨fun c st x st' h => loop_sound rfl hfit ih c st x st' h, fun c rest st x st' h => jump_sound rfl hfit ih c rest st x st' h, ⟨fun c st => all_codeE ih.callsAll ih.all c st, fun c rest st => all_jumpE ih.callsAll ih.all c rest st⟩, call_sound hc rfl hfit ih, all_callE hc ih.callsAll ih.all⟩
end
end Go.Proofs.YtamjnhpkmhbkcaaGreatDoor

/-
  PART: contracts of functions that leave memory as it is: known by a table; their arguments' blocks are frozen for the call.
-/
namespace Go.Proofs.YtamjnhpkmhbkcaaGreatDoor
open Go.RowKit

/-- A value that leads to no block of its own. -/
def strip : Nat → AV → AV
  | 0, _ => .unk
  | d + 1, a => match a with
    | .lit v => .lit v
    | .v v => .v v
    | .agg l => .agg (l.map (strip d))
    | .tup l => .tup (l.map (strip d))
    | .fz cs off => .fz (cs.map (strip d)) off
    | .sl n k get nl full => .sl n k (fun i => (get i).map (strip d)) nl full
    | .fn f a b => .fn f (a.map (strip d)) (b.map (strip d))
    | .any φ => .any φ
    | _ => .unk
/-- A value whose blocks are taken to stay as they are. -/
def frz (hp : List (Nat × Option Blk)) : Nat → AV → AV
  | 0, _ => .unk
  | d + 1, a => match a with
    | .lit v => .lit v
    | .v v => .v v
    | .agg l => .agg (l.map (frz hp d))
    | .tup l => .tup (l.map (frz hp d))
    | .fz cs off => .fz (cs.map (frz hp d)) off
    | .fn f a b => .fn f (a.map (frz hp d)) (b.map (frz hp d))
    | .any φ => .any φ
    | .sl n k get nl full => .sl n k (fun i => (get i).map (strip d)) nl full
    | .ptr x off => match hget hp x with
      | some (.fix _ cs) => .fz (cs.map (frz hp d)) off
      | _ => .unk
    | .own x n k nl => match hget hp x with
      | some (.arr _ m k' get) => match Nat.beq k k' with
        | true => .sl n k (fun i => (get i).map (strip d)) nl false
        | false => .unk
      | _ => .unk
    | _ => .unk
/-- The blocks that are looked at for that. -/
def frzIds (hp : List (Nat × Option Blk)) : Nat → AV → List Nat
  | 0, _ => []
  | d + 1, a => match a with
    | .agg l => l.flatMap (frzIds hp d)
    | .tup l => l.flatMap (frzIds hp d)
    | .fz cs _ => cs.flatMap (frzIds hp d)
    | .fn _ a b => a.flatMap (frzIds hp d) ++ b.flatMap (frzIds hp d)
    | .ptr x _ => x :: (match hget hp x with
      | some (.fix _ cs) => cs.flatMap (frzIds hp d)
      | _ => [])
    | .own x _ _ _ => [x]
    | _ => []
def plainA : Nat → AV → Bool
  | 0, _ => false
  | d + 1, a => match a with
    | .lit _ => true
    | .v _ => true
    | .agg l => l.all (plainA d)
    | .tup l => l.all (plainA d)
    | _ => false
def FzOk (E : Env) (w : World) : Prop := ∀ b c, E.fz b = some c → ∃ ty fr, blkW w b = some (.cells c ty fr)
/-- What was there is as it was. -/
structure Quiet (w w' : World) : Prop where
  old : ∀ b, b < w.heap.size → blkW w' b = blkW w b
  size : w.heap.size ≤ w'.heap.size
  os : w'.os = w.os
  tape : w'.tape = w.tape
  output : w'.output = w.output
/-- A contract: of these arguments that answer; memory stays. -/
def PureOk (P : Program) (f : Nat) (args : List AV) (a : AV) : Prop :=
  ∀ (r : Option Nat) (E : Env) (w : World) (vals : Array Value) (K : Value → World → Prop), (∀ x, ¬ E.dom x) → FzOk E w → Reps E args vals.toList → (∀ v w', (∀ E2, Rep E2 a v) → Quiet w w' → K v w') →
    (∃ v, (callFunc f vals).run P w = .ok (.value v) w ∧ K v w) ∨ ((callFunc f vals).run P w = .ok (.enter f vals) w ∧ CallsIn (wideR r) 0 P f vals w fun e w' => ∃ v, e = .returned v ∧ K v w')
section
variable {P : Program} {E E' : Env}
theorem Reps.mapR {g : AV → AV} {l : List AV} {vs : List Value} (h : Reps E l vs) (hg : ∀ a, a ∈ l → ∀ v, Rep E a v → Rep E' (g a) v) : Reps E' (l.map g) vs := by
  induction l generalizing vs with
  | nil => cases h; exact .nil
  | cons a l ih => cases h with
    | cons h t => exact .cons (hg a (List.mem_cons_self ..) _ h) (ih t fun b hb => hg b (List.mem_cons_of_mem _ hb))
theorem strip_ok (hfz : ∀ b c, E.fz b = some c → E'.fz b = some c) : ∀ (d : Nat) (a : AV) (v : Value), Rep E a v → Rep E' (strip d a) v
  | 0, a, v, h => .unk v
  | d + 1, a, v, h => by
    have ih := strip_ok hfz d
    have ihs : ∀ {l : List AV} {vs : List Value}, Reps E l vs → Reps E' (l.map (strip d)) vs := fun h => h.mapR fun a _ v => ih a v
    unfold strip
    match h with
    | .lit v h => exact .lit v h
    | .v v h => exact .v v h
    | .agg h ho => exact .agg (ihs h) ho
    | .tup h => exact .tup (ihs h)
    | .fz h hs hr ho => exact .fz (hfz _ _ h) (by rw [List.length_map]; exact hs) (by rw [List.length_map]; exact ihs hr) (by rw [List.length_map]; exact ho)
    | .slNil hn => exact .slNil hn
    | .slEmp hn hf => exact .slEmp hn hf
    | .sl h hs hf hc hr ho => exact .sl (hfz _ _ h) hs hf hc (fun i hi => ihs (hr i hi)) ho
    | .fn h h' => exact .fn (ihs h) (ihs h')
    | .any h ho => exact .any (fun fz' hf => h fz' fun b c hb => hf b c (hfz b c hb)) ho
    | .ptr _ => exact .unk _
    | .pti _ _ _ => exact .unk _
    | .pe _ => exact .unk _
    | .own _ _ _ => exact .unk _
    | .ownNil _ _ _ _ => exact .unk _
    | .slv _ => exact .unk _
    | .mp _ => exact .unk _
    | .unk v => exact .unk _
theorem frz_ok {FP : Nat → Prop} {hp : List (Nat × Option Blk)} {w : World} (hS : Sim FP E (hget hp) w) (hfz : ∀ b c ty fr, blkW w b = some (.cells c ty fr) → E'.fz b = some c) :
    ∀ (d : Nat) (a : AV) (v : Value), (∀ x, x ∈ frzIds hp d a → FP x) → Rep E a v → Rep E' (frz hp d a) v
  | 0, a, v, hF, h => .unk v
  | d + 1, a, v, hF, h => by
    have hfz' : ∀ b c, E.fz b = some c → E'.fz b = some c := fun b c hb => by
      obtain ⟨ty, fr, hq⟩ := hS.fz b c hb; exact hfz b c ty fr hq
    have ih := frz_ok hS hfz d
    have ihs : ∀ {l : List AV} {vs : List Value}, (∀ x, x ∈ l.flatMap (frzIds hp d) → FP x) → Reps E l vs → Reps E' (l.map (frz hp d)) vs := fun hF h => h.mapR fun a ha v => ih a v fun x hx => hF x (List.mem_flatMap.2 ⟨a, ha, hx⟩)
    have ss : ∀ {l : List AV} {vs : List Value}, Reps E l vs → Reps E' (l.map (strip d)) vs := fun h => h.mapR fun a _ v => strip_ok hfz' d a v
    unfold frz
    unfold frzIds at hF
    match h, hF with
    | .lit v h, _ => exact .lit v h
    | .v v h, _ => exact .v v h
    | .agg h ho, hF => exact .agg (ihs hF h) ho
    | .tup h, hF => exact .tup (ihs hF h)
    | .fz h hs hr ho, hF => exact .fz (hfz' _ _ h) (by rw [List.length_map]; exact hs) (by rw [List.length_map]; exact ihs hF hr) (by rw [List.length_map]; exact ho)
    | .slNil hn, _ => exact .slNil hn
    | .slEmp hn hf, _ => exact .slEmp hn hf
    | .sl h hs hf hc hr ho, _ => exact .sl (hfz' _ _ h) hs hf hc (fun i hi => ss (hr i hi)) ho
    | .any h ho, _ => exact .any (fun fz' hf => h fz' fun b c hb => hf b c (hfz' b c hb)) ho
    | .fn h h', hF => exact .fn (ihs (fun x hx => hF x (List.mem_append.2 (.inl hx))) h) (ihs (fun x hx => hF x (List.mem_append.2 (.inr hx))) h')
    | @Rep.ptr _ x off hd, hF =>
      simp only [] at hF ⊢
      split
      · rename_i ty cs hb
        rw [hb] at hF
        obtain ⟨_, c, hc1, hc2, hc3⟩ := blk_fix hS (hF x (List.mem_cons_self ..)) hb
        obtain ⟨hw1, hw2⟩ := hc2.whole
        have := Rep.fz (E := E') (cs := cs.map (frz hp d)) (off := off) (base := 0) (hfz _ _ _ _ hc1) (by rw [List.length_map]; exact hw2) (by rw [List.length_map]; exact ihs (fun x hx => hF x (List.mem_cons_of_mem _ hx)) hw1) ((hc3.drop _).take _)
        rwa [Nat.zero_add] at this
      · exact .unk _
    | @Rep.own _ x n k nl hd hv hn, hF =>
      simp only [] at hF ⊢
      split
      · rename_i ty m k' get hb
        split
        · rename_i hk
          obtain rfl := Nat.eq_of_beq_eq_true hk
          have hB := hS.blk x _ (hF x (List.mem_cons_self ..)) hb
          obtain ⟨hm, hB⟩ := hB
          rcases hB with ⟨hv', _⟩ | ⟨_, c, _, h1, _, h2, h3, h4, h5⟩
          · rw [hv] at hv'; cases hv'
          · have hnm : n = m := hn.trans hm.symm
            subst hnm
            have := Rep.sl (E := E') (n := n) (k := k) (off := 0) (cap := E.cp x) (get := fun i => (get i).map (strip d)) (nl := nl) (full := false) (hfz _ _ _ _ h1)
              (by rw [Nat.zero_add, h2]; exact Nat.mul_le_mul_right _ h3) (fun h => by cases h) h3 (fun i hi => by rw [Nat.zero_add]; exact ss (h5 i hi)) ((h4.drop _).take _)
            exact this
        · exact .unk _
      · exact .unk _
    | @Rep.ownNil _ x n k nl hd hv hn hl, hF =>
      simp only [] at hF ⊢
      split
      · split
        · exact .slNil hn
        · exact .unk _
      · exact .unk _
    | .pti _ _ _, _ => exact .unk _
    | .pe _, _ => exact .unk _
    | .slv _, _ => exact .unk _
    | .mp _, _ => exact .unk _
    | .unk v, _ => exact .unk _
theorem plain_ok : ∀ (d : Nat) (a : AV) (v : Value), plainA d a = true → Rep E a v → Rep E' a v
  | 0, a, v, hp, h => by simp [plainA] at hp
  | d + 1, a, v, hp, h => by
    unfold plainA at hp
    have ihs : ∀ {l : List AV} {vs : List Value}, l.all (plainA d) = true → Reps E l vs → Reps E' l vs := fun hl h => by
      have := h.mapR (g := fun a => a) (E' := E') fun a ha v hv => plain_ok d a v (List.all_eq_true.1 hl a ha) hv
      simpa using this
    match h, hp with
    | .lit v h, _ => exact .lit v h
    | .v v h, _ => exact .v v h
    | .agg h ho, hp => exact .agg (ihs hp h) ho
    | .tup h, hp => exact .tup (ihs hp h)
/-- A contract by evaluation. -/
def St.nil : St := ⟨[], [], 0, [], [], [], [], []⟩
theorem pure_of {r : Evs} (hE : CallsOk P r) {f : Nat} {args : List AV} {a : AV} {s : St} (h : (r.call f args .nil).hit (a, s)) {d : Nat} (hp : plainA d a = true) : PureOk P f args a := by
  intro rr E w vals K hd hfz hargs hK
  have ok := hE f args .nil a s h
  refine ok.run rr (fun _ => True) E w vals K (fun x hx => by exact absurd rfl hx) (fun _ _ => trivial) (fun x _ _ hx => hd x hx) ⟨hfz, fun x _ hn => absurd rfl hn, fun x _ hn => absurd rfl hn, fun x B _ hB => (by cases hB), fun x y _ _ hn => absurd rfl hn⟩ hargs fun E' v w' hv p => ?_
  refine hK v w' (fun E2 => plain_ok d a v hp hv) ⟨fun b hb => (p.frame b hb fun x _ hx => ?_).1, p.size, p.os, p.tape, p.output⟩
  exact absurd hx (Nat.not_lt_zero x)
theorem PureOk.imp {f : Nat} {args : List AV} {a b : AV} (h : PureOk P f args a) (hab : ∀ v, (∀ E, Rep E a v) → ∀ E, Rep E b v) : PureOk P f args b :=
  fun rr E w vals K hd hfz hargs hK => h rr E w vals K hd hfz hargs fun v w' hv hq => hK v w' (hab v hv) hq
def St.reads (st : St) (l : List Nat) : St := { st with rd := uni l st.rd }
/-- A table of contracts, for an evaluator. -/
def ctrOf (tab : Nat → List AV → Option (Tree AV)) (f : Nat) (args : List AV) (st : St) : Option (Tree (AV × St)) :=
  match tab f (args.map (frz st.hp 4)) with
  | some t => some (t.bind fun a => .ret (a, st.reads (args.flatMap (frzIds st.hp 4))))
  | none => none
def TabOk (P : Program) (tab : Nat → List AV → Option (Tree AV)) : Prop := ∀ f args t a, tab f args = some t → t.hit a → PureOk P f args a
theorem Quiet.sim {FP : Nat → Prop} {H : Nat → Option Blk} {w w' : World} (hS : Sim FP E H w) (q : Quiet w w') : Sim FP E H w' := by
  refine ⟨fun b c hb => ?_, hS.dom, fun x hx hn hv => ?_, fun x B hx hB => ?_, hS.inj⟩
  · obtain ⟨ty, fr, h⟩ := hS.fz b c hb
    exact ⟨ty, fr, (q.old b (blkW_some_lt h)).trans h⟩
  · have := hS.low x hx hn hv
    exact ⟨Nat.lt_of_lt_of_le this.1 q.size, this.2⟩
  · have hb := hS.blk x B hx hB
    have hn : H x ≠ none := by rw [hB]; simp
    by_cases hv : E.vir x = true
    · cases B with
      | fix ty cs => exact absurd hb.1 (by rw [hv]; simp)
      | map sh zv get has nl => exact absurd hb.1 (by rw [hv]; simp)
      | arr ty n k get =>
        obtain ⟨hq, hb⟩ := hb
        rcases hb with hb | hb
        · exact ⟨hq, .inl hb⟩
        · exact absurd hb.1 (by rw [hv]; simp)
    · rw [q.old _ (hS.low x hx hn (by simpa using hv)).1]; exact hb
/-- Which ways are known is no matter. -/
theorem CtrOk.withDec {cx : Cx} (h : CtrOk cx) (d : Nat → St → Option Bool) : CtrOk { cx with dec := d } := ⟨h.all, h.ok⟩
theorem ctrOf_ok {tab : Nat → List AV → Option (Tree AV)} (h : TabOk P tab) : CtrOk ⟨P, ctrOf tab, fun _ _ => none⟩ := by
  have gr : ∀ (st : St) (l : List Nat), Grew st (st.reads l) := fun st l => ⟨id, Nat.le_refl _, fun _ h => mem_uni.2 (.inr h), fun _ h => h, fun _ h => h, fun _ h => h, fun _ _ => rfl, fun _ _ => rfl, fun _ _ => rfl, fun _ h => .inl h, fun _ h => h, fun _ => .inr (.inl rfl)⟩
  refine ⟨fun f args st t ht => ?_, fun f args st t a st' ht hh => ?_⟩
  · have ht' : ctrOf tab f args st = some t := ht
    unfold ctrOf at ht'
    split at ht'
    · rename_i u hu
      cases ht'
      have : ∀ u : Tree AV, u.All fun _ => True := fun u => by induction u <;> simp_all [Tree.All]
      exact (this u).bind fun a _ => ⟨gr _ _, rfl⟩
    · cases ht'
  · have ht' : ctrOf tab f args st = some t := ht
    unfold ctrOf at ht'
    split at ht'
    · rename_i u hu
      cases ht'
      obtain ⟨a', h1, h2⟩ := Tree.hit_bind hh
      cases h2
      have hp := h f _ u _ hu h1
      refine ⟨gr _ _, rfl, fun rr FP E w vals K hwf hcov hfree hS hargs hK => ?_⟩
      let E1 : Env := { E with dom := fun _ => False, fz := fun b => match blkW w b with | some (.cells c _ _) => some c | _ => none, gok := fun g => (E.gok g).mono fun c hg => by obtain ⟨ty, fr, hq⟩ := hS.fz g c hg; rw [hq] }
      refine hp rr E1 w vals K (fun _ h => h) (fun b c hb => ?_) ?_ fun v w' hv hq => hK E v w' (hv E) ?_
      · show ∃ ty fr, blkW w b = some (.cells c ty fr)
        have hb' : (match blkW w b with | some (.cells c _ _) => some c | _ => none) = some c := hb
        split at hb'
        · rename_i c' ty fr he; cases hb'; exact ⟨ty, fr, he⟩
        · cases hb'
      · refine hargs.mapR fun b hb v hv => frz_ok (E' := E1) hS (fun b c ty fr he => ?_) 4 b v (fun x hx => hcov x (.inl (mem_uni.2 (.inl (List.mem_flatMap.2 ⟨b, hb, hx⟩))))) hv
        show (match blkW w b with | some (.cells c _ _) => some c | _ => none) = some c
        rw [he]
      · refine ⟨⟨.refl E, fun _ hx => .inl hx, hq.sim hS, fun b hb _ => ⟨hq.old b hb, rfl⟩, fun _ h1 h2 => absurd h2 (by show ¬ _ < st.nx; omega), hq.size, hq.os, hq.tape, hq.output⟩, fun _ _ _ hn => hn⟩
    · cases ht'
end
end Go.Proofs.YtamjnhpkmhbkcaaGreatDoor

/-
  PART: code from a state that stands for all worlds that fit: rules for sequences, blocks, open loops; states made canonical (new names).
-/
namespace Go.Proofs.YtamjnhpkmhbkcaaGreatDoor
open Go.RowKit

/-- All ways end well. -/
def Tree.wp {α : Type} (Q : α → Prop) : Tree α → Prop
  | .ret a => Q a
  | .br c t e => (c = true → t.wp Q) ∧ (c = false → e.wp Q)
  | .side p t => p ∧ t.wp Q
  | .fail => False
theorem Tree.wp_hit {α : Type} {Q : α → Prop} : ∀ {t : Tree α}, t.wp Q → ∃ a, t.hit a ∧ Q a
  | .ret a, h => ⟨a, rfl, h⟩
  | .br true _ _, h => let ⟨a, h1, h2⟩ := Tree.wp_hit (h.1 rfl); ⟨a, .inl ⟨rfl, h1⟩, h2⟩
  | .br false _ _, h => let ⟨a, h1, h2⟩ := Tree.wp_hit (h.2 rfl); ⟨a, .inr ⟨rfl, h1⟩, h2⟩
  | .side _ t, h => let ⟨a, h1, h2⟩ := Tree.wp_hit (t := t) h.2; ⟨a, ⟨h.1, h1⟩, h2⟩
  | .fail, h => h.elim
theorem Tree.wp_bind {α β : Type} {Q : β → Prop} {f : α → Tree β} : ∀ {t : Tree α}, (t.bind f).wp Q → t.wp fun a => (f a).wp Q
  | .ret _, h => h
  | .br _ _ _, h => ⟨fun hc => Tree.wp_bind (h.1 hc), fun hc => Tree.wp_bind (h.2 hc)⟩
  | .side _ t, h => ⟨h.1, Tree.wp_bind (t := t) h.2⟩
  | .fail, h => h
theorem Tree.wp_imp {α : Type} {Q Q' : α → Prop} (hq : ∀ a, Q a → Q' a) : ∀ {t : Tree α}, t.wp Q → t.wp Q'
  | .ret a, h => hq a h
  | .br _ _ _, h => ⟨fun hc => Tree.wp_imp hq (h.1 hc), fun hc => Tree.wp_imp hq (h.2 hc)⟩
  | .side _ t, h => ⟨h.1, Tree.wp_imp (t := t) hq h.2⟩
  | .fail, h => h

/-- Where a function's run began. -/
structure Start where
  N : Nat
  E0 : Env
  H0 : Nat → Option Blk
  nx0 : Nat
  w0 : World
  sim : Sim (fun _ => True) E0 H0 w0
  bound : ∀ x, E0.dom x → x < nx0
  Z : Nat → Option (Array Value) := fun _ => none   -- cells that stay, wherever they lie
  rr : Option Nat := none                           -- the loop in whose round it is
  nm : Bool := false                                -- no marks
/-- A range over a function has left its mark. -/
def markD (r : Nat) : Deferred := { target := .collected r, args := #[] }
structure Ext (B : Start) (E : Env) (act : Act) (w : World) : Prop where
  z : ∀ b c, B.Z b = some c → E.fz b = some c
  marks : ∃ rs : List Nat, act.defers = rs.map markD ∧ rs.Nodup ∧ ∀ r ∈ rs, B.w0.heap.size ≤ r ∧ blkW w r = some (.deferred (some []))
  nm : B.nm = true → act.defers = []
theorem Ext.none {B : Start} {E : Env} {act : Act} {w : World} (hz : ∀ b c, B.Z b = some c → E.fz b = some c) (h : act.defers = []) : Ext B E act w := ⟨hz, ⟨[], h, List.nodup_nil, fun _ h => by cases h⟩, fun _ => h⟩
theorem Ext.env {B : Start} {E E' : Env} {act : Act} {w : World} (h : Ext B E act w) (hf : ∀ b c, E.fz b = some c → E'.fz b = some c) : Ext B E' act w := ⟨fun b c hb => hf b c (h.z b c hb), h.marks, h.nm⟩
/-- Cells, or a map. -/
inductive Solid : Obj → Prop
  | cells (c : Array Value) (ty : TypeId) (fr : Nat × Nat) : Solid (.cells c ty fr)
  | map (es : Array MapEntry) (clock : Nat) : Solid (.map es clock)
/-- A tracked block holds cells, or is a map. -/
theorem Sim.cells {FP : Nat → Prop} {E : Env} {H : Nat → Option Blk} {w : World} (hS : Sim FP E H w) {x : Nat} (hF : FP x) (hn : H x ≠ none) (hv : E.vir x = false) : ∃ ob, blkW w (E.ρ x) = some ob ∧ Solid ob := by
  cases hB : H x with
  | none => exact absurd hB hn
  | some B =>
    have h := hS.blk x B hF hB
    cases B with
    | fix ty cs => obtain ⟨_, c, h, _⟩ := h; exact ⟨_, h, .cells ..⟩
    | map sh zv get has nl => obtain ⟨_, es, clock, h, _⟩ := h; exact ⟨_, h, .map ..⟩
    | arr ty n k get =>
      obtain ⟨_, h⟩ := h
      rcases h with ⟨h, _⟩ | ⟨_, c, _, h, _⟩
      · rw [hv] at h; cases h
      · exact ⟨_, h, .cells ..⟩
/-- Blocks that are no cells may turn. -/
theorem Sim.turn {FP : Nat → Prop} {E : Env} {H : Nat → Option Blk} {w w' : World} (hS : Sim FP E H w) (h : ∀ b ob, blkW w b = some ob → Solid ob → blkW w' b = blkW w b) (hs : w.heap.size ≤ w'.heap.size) : Sim FP E H w' := by
  refine ⟨fun b c hb => ?_, hS.dom, fun x hF hn hv => ⟨Nat.lt_of_lt_of_le (hS.low x hF hn hv).1 hs, (hS.low x hF hn hv).2⟩, fun x B hF hB => ?_, hS.inj⟩
  · obtain ⟨ty, fr, hq⟩ := hS.fz b c hb
    exact ⟨ty, fr, (h b _ hq (.cells ..)).trans hq⟩
  · have hb := hS.blk x B hF hB
    cases hv : E.vir x with
    | true =>
      cases B with
      | fix ty cs => obtain ⟨q, _⟩ := hb; rw [hv] at q; cases q
      | map sh zv get has nl => obtain ⟨q, _⟩ := hb; rw [hv] at q; cases q
      | arr ty n k get =>
        obtain ⟨q1, q2⟩ := hb
        refine ⟨q1, .inl ?_⟩
        rcases q2 with q2 | ⟨q2, _⟩
        · exact q2
        · rw [hv] at q2; cases q2
    | false =>
      obtain ⟨ob, hc, hso⟩ := hS.cells hF (by rw [hB]; simp) hv
      rw [h _ _ hc hso]; exact hb
theorem Pst.turn {FP : Nat → Prop} {E E' : Env} {H H' : Nat → Option Blk} {nx nx' : Nat} {wr : List Nat} {w w1 w2 : World} (p : Pst FP E E' H H' nx nx' wr w w1) (h : ∀ b ob, blkW w1 b = some ob → Solid ob → blkW w2 b = blkW w1 b) (hs : w1.heap.size ≤ w2.heap.size)
    (ho : ∀ b, b < w.heap.size → blkW w2 b = blkW w1 b) (h1 : w2.os = w1.os) (h2 : w2.tape = w1.tape) (h3 : w2.output = w1.output) : Pst FP E E' H H' nx nx' wr w w2 :=
  ⟨⟨p.le, p.dom, p.sim.turn h hs, fun b hb hx => ⟨(ho b hb).trans (p.frame b hb hx).1, (p.frame b hb hx).2⟩, p.news, Nat.le_trans p.size hs, h1.trans p.os, h2.trans p.tape, h3.trans p.output⟩, p.old⟩
/-- Blocks for deferred calls, shut. -/
def shut (rs : List Nat) (w : World) : World := rs.foldl (fun w r => w.putObj r (.deferred none)) w
theorem shut_size : ∀ (rs : List Nat) (w : World), (shut rs w).heap.size = w.heap.size
  | [], _ => rfl
  | r :: rs, w => (shut_size rs _).trans World.putObj_size
theorem shut_other : ∀ (rs : List Nat) (w : World) (b : Nat), b ∉ rs → blkW (shut rs w) b = blkW w b
  | [], _, _, _ => rfl
  | r :: rs, w, b, h => by
    have h' : b ≠ r ∧ b ∉ rs := ⟨fun e => h (e ▸ List.mem_cons_self ..), fun e => h (List.mem_cons_of_mem _ e)⟩
    exact (shut_other rs _ b h'.2).trans (World.putObj_heap_other h'.1)
theorem shut_rest : ∀ (rs : List Nat) (w : World), (shut rs w).os = w.os ∧ (shut rs w).tape = w.tape ∧ (shut rs w).output = w.output
  | [], _ => ⟨rfl, rfl, rfl⟩
  | r :: rs, w => shut_rest rs (w.putObj r (.deferred none))
theorem leaves_marks {P : Program} {F : Fence} {n : Nat} {fn : Func} {tmps : Array Value} {R : Ending → World → Prop} : ∀ (rs : List Nat) (w : World), rs.Nodup → (∀ r ∈ rs, blkW w r = some (.deferred (some []))) → LeavesIn F n P fn tmps R [] .returning (shut rs w) → LeavesInM F n P fn tmps R (rs.map markD) .returning w
  | [], _, _, _, h => h
  | r :: rs, w, hn, hr, h => by
    have hn' := List.nodup_cons.1 hn
    refine ⟨by simp, .inl ⟨r, _, rfl, run_takeDeferred (hr r (List.mem_cons_self ..)), leaves_marks rs _ hn'.2 (fun q hq => ?_) h⟩⟩
    have hne : q ≠ r := fun e => hn'.1 (e ▸ hq)
    exact (World.putObj_heap_other hne).trans (hr q (List.mem_cons_of_mem _ hq))
/-- A function's way out, past its marks. -/
theorem leaves_out {P : Program} {F : Fence} {n : Nat} {fn : Func} {B : Start} {E E' : Env} {H H' : Nat → Option Blk} {nx nx' : Nat} {wr : List Nat} {act : Act} {w : World} {R : Ending → World → Prop} (p : Pst (fun _ => True) E E' H H' nx nx' wr B.w0 w) (hd : Ext B E' act w)
    (h : ∀ w', Pst (fun _ => True) E E' H H' nx nx' wr B.w0 w' → LeavesIn F n P fn act.tmps R [] .returning w') : LeavesInM F n P fn act.tmps R act.defers .returning w := by
  obtain ⟨rs, h1, h2, h3⟩ := hd.marks
  rw [h1]
  have hno : ∀ b ob, blkW w b = some ob → Solid ob → b ∉ rs := fun b ob hb hso hr => by
    rw [(h3 b hr).2] at hb; cases hb; cases hso
  obtain ⟨e1, e2, e3⟩ := shut_rest rs w
  exact leaves_marks rs w h2 (fun r hr => (h3 r hr).2) (h _ (p.turn (fun b ob hb hso => shut_other rs w b (hno b ob hb hso)) (by rw [shut_size]; exact Nat.le_refl _) (fun b hb => shut_other rs w b fun hr => absurd hb (Nat.not_lt.2 (h3 b hr).1)) e1 e2 e3))
def Hold (B : Start) (s : St) (act : Act) (w : World) : Prop :=
  ∃ E, Pst (fun _ => True) B.E0 E B.H0 (hget s.hp) B.nx0 s.nx (List.range B.nx0) B.w0 w ∧ Fr B.N E s act ∧ (∀ x, E.dom x → x < s.nx) ∧ Wf s ∧ Ext B E act w ∧ B.nx0 ≤ s.nx
/-- Code, from a state, in all worlds that fit. -/
def WpC (P : Program) (B : Start) (c : Code) (s : St) (R : Ex → St → Prop) : Prop :=
  ∀ (act : Act) (w : World) (Q : Exit → Act → World → Prop), Hold B s act w → (∀ x s' act' w', R x s' → Hold B s' act' w' → Q (toExit x) act' w') → c.wpIn (wideR B.rr) 0 P Q act w
def HoldLe (B : Start) (s m : St) : Prop := ∀ act w, Hold B s act w → Hold B m act w
section
variable {P : Program} {B : Start} {c a b : Code} {s : St} {R R1 : Ex → St → Prop}
theorem Pst.cut {FP : Nat → Prop} {E E' : Env} {H H' : Nat → Option Blk} {nx nx' : Nat} {wr wr' : List Nat} {w w' : World} (p : Pst FP E E' H H' nx nx' wr w w') (h : ∀ x, x ∈ wr → x < nx → x ∈ wr') : Pst FP E E' H H' nx nx' wr' w w' :=
  ⟨⟨p.le, p.dom, p.sim, fun b hb hx => p.frame b hb fun x hx' hlt => hx x (h x hx' hlt) hlt, fun x h1 h2 hF hn hv => (p.news x h1 h2 hF hn hv).imp id fun ⟨y, hy, hlt, q⟩ => ⟨y, h y hy hlt, hlt, q⟩, p.size, p.os, p.tape, p.output⟩, p.old⟩
/-- By the evaluator. -/
theorem wpc_ev {cx : Cx} {n : Nat} (hc : CtrOk cx) (hfit : Fit cx.P) (hcode : codeOk B.N c = true) (h : (codeE cx (evs cx n) c s).wp fun b => R b.1 b.2) : WpC cx.P B c s R := by
  intro act w Q ⟨E, p, hf, hb, hwf, hd, hnx⟩ hQ
  obtain ⟨⟨x, s'⟩, hh, hR⟩ := Tree.wp_hit h
  have hE := evs_ok hc hfit n
  have g : Grew s s' := (all_codeE (cx := cx) hE.callsAll hE.all c s).hit hh
  refine code_sound rfl hfit hE c s x s' hh B.N act.defers B.rr (fun _ => True) E act w Q hcode hwf (fun _ _ => trivial) (fun x h1 _ hx => absurd (hb x hx) (Nat.not_lt.2 h1)) p.sim hf rfl fun E' act' w' k1 k2 k3 => ?_
  refine hQ x s' act' w' hR ⟨E', ?_, k1, fun y hy => ?_, g.wf hwf, ⟨fun b c hb => k3.le.fz b c (hd.z b c hb), ?_, fun hb => k2.trans (hd.nm hb)⟩, Nat.le_trans hnx g.nx⟩
  · have p1 := p.more (wr' := List.range B.nx0 ++ s'.wr) fun x hx => List.mem_append.2 (.inl hx)
    have k4 := k3.more (wr' := List.range B.nx0 ++ s'.wr) fun x hx => List.mem_append.2 (.inr hx)
    exact (Pst.trans B.sim (fun _ _ => trivial) p1 k4 hnx g.nx).cut fun x _ hx => List.mem_range.2 hx
  · rcases k3.dom y hy with h | h
    · exact Nat.lt_of_lt_of_le (hb y h) g.nx
    · exact h.2
  · obtain ⟨rs, q1, q2, q3⟩ := hd.marks
    refine ⟨rs, k2.trans q1, q2, fun r hr => ⟨(q3 r hr).1, ?_⟩⟩
    have hb := (q3 r hr).2
    rw [(k3.frame r (blkW_some_lt hb) fun x _ _ hn hv e => by obtain ⟨ob, hc, hso⟩ := p.sim.cells trivial hn hv; rw [← e, hb] at hc; cases hc; cases hso).1]
    exact hb
theorem wpc_imp (h : WpC P B c s R1) (hR : ∀ x s', R1 x s' → R x s') : WpC P B c s R := fun act w Q hs hQ => h act w Q hs fun x s' act' w' k1 k2 => hQ x s' act' w' (hR x s' k1) k2
/-- Weakened ahead. -/
theorem wpc_pre {m : St} (hm : HoldLe B s m) (h : WpC P B c m R) : WpC P B c s R := fun act w Q hs hQ => h act w Q (hm act w hs) hQ
/-- Weakened behind. -/
theorem wpc_post (h : WpC P B c s R1) (hR : ∀ x s', R1 x s' → ∃ m, HoldLe B s' m ∧ R x m) : WpC P B c s R := fun act w Q hs hQ => h act w Q hs fun x s' act' w' k1 k2 => let ⟨m, h1, h2⟩ := hR x s' k1; hQ x m act' w' h2 (h1 act' w' k2)
theorem wpc_seq (ha : WpC P B a s R1) (hb : ∀ s1, R1 .norm s1 → WpC P B b s1 R) (hx : ∀ x s1, x ≠ .norm → R1 x s1 → R x s1) : WpC P B (.seq a b) s R := fun act w Q hs hQ => by
  refine wpIn_seq (ha act w _ hs fun x s1 act' w' k1 k2 => ?_)
  cases x with
  | norm => exact hb s1 k1 act' w' Q k2 hQ
  | exit id => exact hQ _ s1 act' w' (hx _ s1 (by simp) k1) k2
  | goto l => exact hQ _ s1 act' w' (hx _ s1 (by simp) k1) k2
  | ret => exact hQ _ s1 act' w' (hx _ s1 (by simp) k1) k2
theorem wpc_block {id : Nat} (hc : WpC P B c s R1) (h1 : ∀ s1, R1 (.exit id) s1 → R .norm s1) (h2 : ∀ x s1, x ≠ .exit id → R1 x s1 → R x s1) : WpC P B (.block id c) s R := fun act w Q hs hQ => by
  refine wpIn_block (hc act w _ hs fun x s1 act' w' k1 k2 => ?_)
  cases x with
  | norm => exact hQ _ s1 act' w' (h2 _ s1 (by simp) k1) k2
  | exit id' =>
    show (if id' = id then _ else _)
    by_cases e : id' = id
    · rw [if_pos e]; subst e; exact hQ _ s1 act' w' (h1 s1 k1) k2
    · rw [if_neg e]; exact hQ _ s1 act' w' (h2 _ s1 (by simpa using e) k1) k2
  | goto l => exact hQ _ s1 act' w' (h2 _ s1 (by simp) k1) k2
  | ret => exact hQ _ s1 act' w' (h2 _ s1 (by simp) k1) k2
theorem wpc_cond {x : Operand} {e l : Bool} (hx : boolOf (s.val x) = some (e, l)) (ha : e = true → WpC P B a s R) (hb : e = false → WpC P B b s R) : WpC P B (.cond x a b) s R := fun act w Q hs hQ => by
  have hs' := hs
  obtain ⟨E, p, hf, _⟩ := hs
  cases e with
  | true => exact wpIn_cond_true (boolOf_rep hx (hf.val x)) (ha rfl act w Q hs' hQ)
  | false => exact wpIn_cond_false (boolOf_rep hx (hf.val x)) (hb rfl act w Q hs' hQ)
/-- An open loop, by what each round keeps. -/
theorem wpc_loop {ι : Type} (Inv : ι → St) (J : ι → Prop) (m : ι → Nat) (Out : Ex → St → Prop)
    (h : ∀ k, J k → WpC P B c (Inv k) fun x s => (x = .norm ∧ ∃ k', J k' ∧ m k' < m k ∧ HoldLe B s (Inv k')) ∨ (x ≠ .norm ∧ Out x s)) (k : ι) (hk : J k) : WpC P B (.loop c) (Inv k) Out := fun act w Q hs hQ => by
  refine wpIn_loop_rounds (m k + 1) ?_
  have key : ∀ (n : Nat) (k : ι) (act : Act) (w : World), m k < n → J k → Hold B (Inv k) act w → Code.roundsIn (wideR B.rr) 0 P c Q n act w := by
    intro n
    induction n with
    | zero => intro k act w hm; exact absurd hm (Nat.not_lt_zero _)
    | succ n ih =>
      intro k act w hm hk hs
      rw [roundsIn_succ]
      refine h k hk act w _ hs fun x s1 act' w' k1 k2 => ?_
      rcases k1 with ⟨rfl, k', h1, h2, h3⟩ | ⟨h1, h2⟩
      · exact ih k' act' w' (by omega) h1 (h3 act' w' k2)
      · cases x with
        | norm => exact absurd rfl h1
        | exit id => exact hQ _ s1 act' w' h2 k2
        | goto l => exact hQ _ s1 act' w' h2 k2
        | ret => exact hQ _ s1 act' w' h2 k2
  exact key (m k + 1) k act w (by omega) hk hs
end
end Go.Proofs.YtamjnhpkmhbkcaaGreatDoor

/-
  PART: states made canonical: some slots kept, the blocks that they lead to under new names, closed numbers made open.
-/
namespace Go.Proofs.YtamjnhpkmhbkcaaGreatDoor
open Go.RowKit

def idxN : List Nat → Nat → Nat → Option Nat
  | [], _, _ => none
  | y :: l, x, i => match Nat.beq y x with
    | true => some i
    | false => idxN l x (i + 1)
/-- The new name of a block. -/
def newN (nx0 : Nat) (L : List Nat) (x : Nat) : Option Nat := match Nat.blt x nx0 with
  | true => some x
  | false => idxN L x nx0
def renA (nx0 : Nat) (L : List Nat) : Nat → AV → AV
  | 0, _ => .unk
  | d + 1, a => match a with
    | .lit v => .lit v
    | .v v => .v v
    | .agg l => .agg (l.map (renA nx0 L d))
    | .tup l => .tup (l.map (renA nx0 L d))
    | .fz cs off => .fz (cs.map (renA nx0 L d)) off
    | .fn f a b => .fn f (a.map (renA nx0 L d)) (b.map (renA nx0 L d))
    | .any φ => .any φ
    | .sl n k get nl full => .sl n k (fun i => (get i).map (renA nx0 L d)) nl full
    | .ptr x off => match newN nx0 L x with
      | some y => .ptr y off
      | none => .unk
    | .pti x base i str n off => match newN nx0 L x with
      | some y => .pti y base i str n off
      | none => .unk
    | .pe x i k off il => match newN nx0 L x with
      | some y => .pe y i k off il
      | none => .unk
    | .own x n k nl => match newN nx0 L x with
      | some y => .own y n k nl
      | none => .unk
    | .slv x off n k => match newN nx0 L x with
      | some y => .slv y off n k
      | none => .unk
    | .mp x => match newN nx0 L x with
      | some y => .mp y
      | none => .unk
    | .unk => .unk
/-- Closed numbers made open. -/
def genA : Nat → AV → AV
  | 0, a => a
  | d + 1, a => match a with
    | .lit v => .v v
    | .agg l => .agg (l.map (genA d))
    | .tup l => .tup (l.map (genA d))
    | .own x n k _ => .own x n k false
    | .sl n k get _ full => .sl n k get false full
    | a => a
def oldN (nx0 : Nat) (L : List Nat) (y : Nat) : Nat := match Nat.blt y nx0 with
  | true => y
  | false => L.getD (y - nx0) 0
def genB (g : Bool) : Blk → Blk
  | .fix ty cs => .fix ty (match g with | true => cs.map (genA 3) | false => cs)
  | b => b
def renB (nx0 : Nat) (L : List Nat) : Blk → Blk
  | .map sh zv get has nl => .map sh zv get has nl
  | .fix ty cs => .fix ty (cs.map (renA nx0 L 4))
  | .arr ty n k get => .arr ty n k (fun i => (get i).map (renA nx0 L 4))
def distinct : List Nat → Bool
  | [] => true
  | x :: l => !l.elem x && distinct l
def idsH (hp : List (Nat × Option Blk)) (x : Nat) : List Nat := idsB hp x
/-- The blocks that some lead to, in the order in which they are met. -/
def meet (hp : List (Nat × Option Blk)) (nx0 : Nat) : Nat → List Nat → List Nat → List Nat
  | 0, _, acc => acc
  | _, [], acc => acc
  | d + 1, x :: l, acc => match Nat.blt x nx0 || acc.elem x with
    | true => meet hp nx0 d l acc
    | false => meet hp nx0 d (idsH hp x ++ l) (acc ++ [x])
def names (nx0 : Nat) : Nat → List Nat → List (Nat × Nat)
  | _, [] => []
  | i, x :: l => (nx0 + i, x) :: names nx0 (i + 1) l
def olds : Nat → List (Nat × Nat)
  | 0 => []
  | n + 1 => olds n ++ [(n, n)]
/-- Slots to be kept; whether their closed numbers are made open. -/
def canon (nx0 : Nat) (ds : List (Nat × Bool)) (gb : Bool) (s : St) : Option St :=
  let L := meet s.hp nx0 60 (ds.flatMap fun d => idsA 5 (look s.sl d.1)) []
  match distinct L && L.all (fun x => Nat.ble nx0 x) with
  | true => some { sl := ds.map fun d => (d.1, match d.2 with | true => genA 3 (renA nx0 L 5 (look s.sl d.1)) | false => renA nx0 L 5 (look s.sl d.1)),
                   hp := (olds nx0 ++ names nx0 0 L).map fun p => (p.1, (hget s.hp p.2).map fun b => genB gb (renB nx0 L b)), nx := nx0 + L.length, rd := [], wr := [], ws := [], wb := [], wc := [] }
  | false => none
section
variable {E : Env} {nx0 : Nat} {L : List Nat}
/-- The world under the new names. -/
def Env.ren (E : Env) (nx0 : Nat) (L : List Nat) : Env :=
  { ρ := fun y => E.ρ (oldN nx0 L y), dom := fun y => E.dom (oldN nx0 L y) ∧ y < nx0 + L.length, vir := fun y => E.vir (oldN nx0 L y), cp := fun y => E.cp (oldN nx0 L y), ln := fun y => E.ln (oldN nx0 L y), fz := E.fz, gok := E.gok }
theorem idxN_ok : ∀ (L : List Nat) (x i y : Nat), idxN L x i = some y → ∃ j, y = i + j ∧ L[j]? = some x
  | [], x, i, y, h => by cases h
  | z :: L, x, i, y, h => by
    unfold idxN at h
    split at h
    · rename_i hb
      obtain rfl := Nat.eq_of_beq_eq_true hb
      cases h; exact ⟨0, rfl, rfl⟩
    · obtain ⟨j, h1, h2⟩ := idxN_ok L x (i + 1) y h
      exact ⟨j + 1, by omega, by simpa using h2⟩
theorem newN_ok {x y : Nat} (h : newN nx0 L x = some y) : oldN nx0 L y = x ∧ y < nx0 + L.length := by
  unfold newN at h
  split at h
  · rename_i hb
    cases h
    have hb' : x < nx0 := by simpa [Nat.blt_eq] using hb
    unfold oldN; rw [hb]
    exact ⟨rfl, by omega⟩
  · obtain ⟨j, rfl, hj⟩ := idxN_ok L x nx0 y h
    have hlt := (List.getElem?_eq_some_iff.1 hj).1
    have hb : Nat.blt (nx0 + j) nx0 = false := by
      cases hq : Nat.blt (nx0 + j) nx0 with
      | false => rfl
      | true => rw [Nat.blt_eq] at hq; omega
    unfold oldN; rw [hb]
    refine ⟨?_, by omega⟩
    simp [List.getD, hj]
theorem renA_ok : ∀ (d : Nat) (a : AV) (v : Value), Rep E a v → Rep (E.ren nx0 L) (renA nx0 L d a) v
  | 0, a, v, h => .unk v
  | d + 1, a, v, h => by
    have ihs : ∀ {l : List AV} {vs : List Value}, Reps E l vs → Reps (E.ren nx0 L) (l.map (renA nx0 L d)) vs := fun h => h.mapR fun a _ v => renA_ok d a v
    have dm : ∀ {x y : Nat}, newN nx0 L x = some y → E.dom x → (E.ren nx0 L).dom y := fun {x y} hn hd => by
      obtain ⟨h1, h2⟩ := newN_ok hn
      exact ⟨by rw [h1]; exact hd, h2⟩
    have at' : ∀ {x y : Nat}, newN nx0 L x = some y → (E.ren nx0 L).ρ y = E.ρ x ∧ (E.ren nx0 L).vir y = E.vir x ∧ (E.ren nx0 L).cp y = E.cp x ∧ (E.ren nx0 L).ln y = E.ln x := fun {x y} hn => by
      obtain ⟨h1, _⟩ := newN_ok hn
      refine ⟨?_, ?_, ?_, ?_⟩ <;> simp only [Env.ren, h1]
    unfold renA
    match h with
    | .lit v h => exact .lit v h
    | .v v h => exact .v v h
    | .agg h ho => exact .agg (ihs h) ho
    | .tup h => exact .tup (ihs h)
    | .fz h hs hr ho => exact .fz (E := E.ren nx0 L) h (by rw [List.length_map]; exact hs) (by rw [List.length_map]; exact ihs hr) (by rw [List.length_map]; exact ho)
    | .slNil hn => exact .slNil hn
    | .slEmp hn hf => exact .slEmp hn hf
    | .sl h hs hf hc hr ho => exact .sl (E := E.ren nx0 L) h hs hf hc (fun i hi => ihs (hr i hi)) ho
    | .fn h h' => exact .fn (ihs h) (ihs h')
    | .any h ho => exact .any h ho
    | .unk v => exact .unk _
    | @Rep.ptr _ x off hd =>
      simp only []
      split
      · rename_i y hn; rw [← (at' hn).1]; exact .ptr (dm hn hd)
      · exact .unk _
    | @Rep.pti _ x base str n off i hd h0 h1 =>
      simp only []
      split
      · rename_i y hn; rw [← (at' hn).1]; exact .pti (dm hn hd) h0 h1
      · exact .unk _
    | @Rep.pe _ x i k off il hd =>
      simp only []
      split
      · rename_i y hn; rw [← (at' hn).1]; exact .pe (dm hn hd)
      · exact .unk _
    | @Rep.own _ x n k nl hd hv hn' =>
      simp only []
      split
      · rename_i y hn
        obtain ⟨a1, a2, a3, a4⟩ := at' hn
        rw [← a1, ← a3]; exact .own (dm hn hd) (a2.trans hv) (hn'.trans a4.symm)
      · exact .unk _
    | @Rep.ownNil _ x n k nl hd hv hn' hl =>
      simp only []
      split
      · rename_i y hn
        obtain ⟨a1, a2, a3, a4⟩ := at' hn
        exact .ownNil (dm hn hd) (a2.trans hv) hn' (hl.trans a4.symm)
      · exact .unk _
    | @Rep.slv _ x off n k _ hd =>
      simp only []
      split
      · rename_i y hn; rw [← (at' hn).1]; exact .slv (dm hn hd)
      · exact .unk _
    | @Rep.mp _ x hd =>
      simp only []
      split
      · rename_i y hn; rw [← (at' hn).1]; exact .mp (dm hn hd)
      · exact .unk _
theorem genA_ok : ∀ (d : Nat) (a : AV) (v : Value), Rep E a v → Rep E (genA d a) v
  | 0, a, v, h => h
  | d + 1, a, v, h => by
    have ihs : ∀ {l : List AV} {vs : List Value}, Reps E l vs → Reps E (l.map (genA d)) vs := fun h => h.mapR fun a _ v => genA_ok d a v
    unfold genA
    match h with
    | .lit v h => exact .v v h
    | .v v h => exact .v v h
    | .agg h ho => exact .agg (ihs h) ho
    | .tup h => exact .tup (ihs h)
    | .fz h hs hr ho => exact .fz h hs hr ho
    | .slNil hn => exact .slNil hn
    | .slEmp hn hf => exact .slEmp hn hf
    | .sl h hs hf hc hr ho => exact .sl h hs hf hc hr ho
    | .fn h h' => exact .fn h h'
    | .any h ho => exact .any h ho
    | .unk v => exact .unk _
    | .ptr h => exact .ptr h
    | .pti h h0 h1 => exact .pti h h0 h1
    | .pe h => exact .pe h
    | .own h hv hn => exact .own h hv hn
    | .ownNil h hv hn hl => exact .ownNil h hv hn hl
    | .slv h => exact .slv h
    | .mp h => exact .mp h
theorem genB_ok {x : Nat} {g : Bool} {b : Blk} {o : Option Obj} (h : BlkR E x b o) : BlkR E x (genB g b) o := by
  cases b with
  | arr ty n k get => exact h
  | map sh zv get has nl => exact h
  | fix ty cs =>
    cases g with
    | false => exact h
    | true =>
      obtain ⟨h1, c, h2, h3, h4⟩ := h
      exact ⟨h1, c, h2, h3.mapR fun a _ v => genA_ok 3 a v, h4⟩
theorem renB_ok {y : Nat} {b : Blk} {o : Option Obj} (h : BlkR E (oldN nx0 L y) b o) : BlkR (E.ren nx0 L) y (renB nx0 L b) o := by
  cases b with
  | fix ty cs =>
    obtain ⟨h1, c, h2, h3, h4⟩ := h
    exact ⟨h1, c, h2, h3.mapR fun a _ v => renA_ok 4 a v, h4⟩
  | arr ty n k get =>
    obtain ⟨h0, h⟩ := h
    refine ⟨h0, ?_⟩
    rcases h with h | ⟨h1, c, fr, h2, hu, h3, h4, h5, h6⟩
    · exact .inl h
    · exact .inr ⟨h1, c, fr, h2, hu, h3, h4, h5, fun i hi => (h6 i hi).mapR fun a _ v => renA_ok 4 a v⟩
  | map sh zv get has nl => exact h
theorem olds_mem : ∀ (n : Nat) (p : Nat × Nat), p ∈ olds n → p.1 < n ∧ p.2 = p.1
  | 0, p, h => by cases h
  | n + 1, p, h => by
    unfold olds at h
    rcases List.mem_append.1 h with h | h
    · have := olds_mem n p h; exact ⟨by omega, this.2⟩
    · simp at h; subst h; exact ⟨Nat.lt_succ_self n, rfl⟩
theorem names_mem : ∀ (L : List Nat) (i : Nat) (p : Nat × Nat), p ∈ names nx0 i L → ∃ j, p.1 = nx0 + i + j ∧ L[j]? = some p.2
  | [], i, p, h => by cases h
  | x :: L, i, p, h => by
    unfold names at h
    rcases List.mem_cons.1 h with h | h
    · subst h; exact ⟨0, rfl, rfl⟩
    · obtain ⟨j, h1, h2⟩ := names_mem L (i + 1) p h
      exact ⟨j + 1, by omega, by simpa using h2⟩
theorem pair_old {p : Nat × Nat} (h : p ∈ olds nx0 ++ names nx0 0 L) : oldN nx0 L p.1 = p.2 ∧ p.1 < nx0 + L.length := by
  rcases List.mem_append.1 h with h | h
  · obtain ⟨h1, h2⟩ := olds_mem _ _ h
    have : Nat.blt p.1 nx0 = true := by simpa [Nat.blt_eq] using h1
    unfold oldN; rw [this]
    exact ⟨h2.symm, by omega⟩
  · obtain ⟨j, h1, h2⟩ := names_mem _ _ _ h
    have hlt := (List.getElem?_eq_some_iff.1 h2).1
    have hb : Nat.blt p.1 nx0 = false := by
      cases hq : Nat.blt p.1 nx0 with
      | false => rfl
      | true => rw [Nat.blt_eq] at hq; omega
    unfold oldN; rw [hb]
    refine ⟨?_, by omega⟩
    have : p.1 - nx0 = j := by omega
    simp [List.getD, this, h2]
theorem hget_map {f : Nat → Option Blk} : ∀ {l : List (Nat × Nat)} {y : Nat} {B : Blk}, hget (l.map fun p => (p.1, f p.2)) y = some B → ∃ p, p ∈ l ∧ p.1 = y ∧ f p.2 = some B
  | [], y, B, h => by cases h
  | p :: l, y, B, h => by
    simp only [List.map_cons, hget_cons] at h
    by_cases e : p.1 = y
    · rw [if_pos e] at h; exact ⟨p, List.mem_cons_self .., e, h⟩
    · rw [if_neg e] at h
      obtain ⟨q, h1, h2⟩ := hget_map h
      exact ⟨q, List.mem_cons_of_mem _ h1, h2⟩
theorem distinct_ok : ∀ {L : List Nat}, distinct L = true → ∀ (i j x : Nat), L[i]? = some x → L[j]? = some x → i = j
  | [], _, i, j, x, h, _ => by simp at h
  | z :: L, h, i, j, x, h1, h2 => by
    simp only [distinct, Bool.and_eq_true, Bool.not_eq_true'] at h
    have nin : ∀ (k : Nat), L[k]? = some z → False := fun k hk => by
      have := List.mem_of_getElem? hk
      have h' : L.elem z = true := by simpa using this
      rw [h'] at h; cases h.1
    cases i with
    | zero =>
      simp at h1; subst h1
      cases j with
      | zero => rfl
      | succ j => simp at h2; exact (nin j h2).elim
    | succ i =>
      simp at h1
      cases j with
      | zero => simp at h2; subst h2; exact (nin i h1).elim
      | succ j => simp at h2; rw [distinct_ok h.2 i j x h1 h2]
theorem look_map {ds : List (Nat × Bool)} {f : Nat × Bool → AV} {s : St} (hf : ∀ p v, Rep E (look s.sl p.1) v → Rep (E.ren nx0 L) (f p) v) (d : Nat) (v : Value) (h : Rep E (look s.sl d) v) : Rep (E.ren nx0 L) (look (ds.map fun p => (p.1, f p)) d) v := by
  induction ds with
  | nil => exact .unk v
  | cons p ds ih =>
    simp only [List.map_cons, look_cons]
    by_cases e : p.1 = d
    · rw [if_pos e]; subst e; exact hf p v h
    · rw [if_neg e]; exact ih
theorem canon_ok {B : Start} {ds : List (Nat × Bool)} {gb : Bool} {s m : St} (h : canon B.nx0 ds gb s = some m) : HoldLe B s m := by
  unfold canon at h
  dsimp only at h
  generalize meet s.hp B.nx0 60 (ds.flatMap fun d => idsA 5 (look s.sl d.1)) [] = L at h
  split at h
  · rename_i hL
    simp only [Bool.and_eq_true] at hL
    obtain ⟨hdis, hge⟩ := hL
    cases h
    intro act w ⟨E, p, hf, hb, hwf, hd, hnx⟩
    have hm : ∀ y B', hget (((olds B.nx0 ++ names B.nx0 0 L)).map fun q => (q.1, (hget s.hp q.2).map fun b => genB gb (renB B.nx0 L b))) y = some B' → ∃ b, hget s.hp (oldN B.nx0 L y) = some b ∧ B' = genB gb (renB B.nx0 L b) ∧ y < B.nx0 + L.length := fun y B' hB => by
      obtain ⟨q, h1, h2, h3⟩ := hget_map (f := fun x => (hget s.hp x).map fun b => genB gb (renB B.nx0 L b)) hB
      obtain ⟨k1, k2⟩ := pair_old h1
      subst h2
      cases hg : hget s.hp q.2 with
      | none => rw [hg] at h3; cases h3
      | some b =>
        rw [hg] at h3
        exact ⟨b, by rw [k1]; exact hg, by cases h3; rfl, k2⟩
    have al : ∀ y, hget (((olds B.nx0 ++ names B.nx0 0 L)).map fun q => (q.1, (hget s.hp q.2).map fun b => genB gb (renB B.nx0 L b))) y ≠ none → hget s.hp (oldN B.nx0 L y) ≠ none ∧ y < B.nx0 + L.length := fun y hy => by
      cases hB : hget (((olds B.nx0 ++ names B.nx0 0 L)).map fun q => (q.1, (hget s.hp q.2).map fun b => genB gb (renB B.nx0 L b))) y with
      | none => exact absurd hB hy
      | some B' =>
        obtain ⟨b, h1, _, h3⟩ := hm y B' hB
        exact ⟨by rw [h1]; simp, h3⟩
    have lo : ∀ y, y < B.nx0 → oldN B.nx0 L y = y := fun y hy => by
      have : Nat.blt y B.nx0 = true := by simpa [Nat.blt_eq] using hy
      unfold oldN; rw [this]
    have hi : ∀ y, B.nx0 ≤ y → y < B.nx0 + L.length → L[y - B.nx0]? = some (oldN B.nx0 L y) ∧ B.nx0 ≤ oldN B.nx0 L y := fun y h1 h2 => by
      have hq : Nat.blt y B.nx0 = false := by
        cases hq : Nat.blt y B.nx0 with
        | false => rfl
        | true => rw [Nat.blt_eq] at hq; omega
      have hlt : y - B.nx0 < L.length := by omega
      have h3 : L[y - B.nx0]? = some (oldN B.nx0 L y) := by
        unfold oldN; rw [hq]
        simp [List.getD, List.getElem?_eq_getElem hlt]
      exact ⟨h3, Nat.le_of_ble_eq_true (List.all_eq_true.1 hge _ (List.mem_of_getElem? h3))⟩
    refine ⟨E.ren B.nx0 L, ⟨⟨⟨fun x hx => ?_, fun x hx => ?_, fun x hx => ?_, fun x hx => ?_, fun x hx => ?_, p.le.fz⟩, fun y hy => ?_, ⟨p.sim.fz, fun y hF hn => ?_, fun y hF hn hv => ?_, fun y B' hF hB => ?_, fun y z _ _ hny hnz hvy hvz he => ?_⟩, p.frame, fun y h1 h2 hF hn hv => ?_, p.size, p.os, p.tape, p.output⟩, fun y hy hF hn => ?_⟩, ⟨hf.size, fun d => ?_⟩, fun y hy => hy.2, fun y hy => (al y hy).2, hd.env (fun _ _ h => h), Nat.le_add_right _ _⟩
    · have hlt := B.bound x hx
      exact ⟨by rw [lo x hlt]; exact p.le.dom x hx, by omega⟩
    · show E.ρ (oldN B.nx0 L x) = _
      rw [lo x (B.bound x hx)]; exact p.le.ρ x hx
    · show E.vir (oldN B.nx0 L x) = _
      rw [lo x (B.bound x hx)]; exact p.le.vir x hx
    · show E.cp (oldN B.nx0 L x) = _
      rw [lo x (B.bound x hx)]; exact p.le.cp x hx
    · show E.ln (oldN B.nx0 L x) = _
      rw [lo x (B.bound x hx)]; exact p.le.ln x hx
    · rcases Nat.lt_or_ge y B.nx0 with h | h
      · have h1 := hy.1
        rw [lo y h] at h1
        rcases p.dom y h1 with h2 | h2
        · exact .inl h2
        · exact absurd h2.1 (Nat.not_le.2 h)
      · exact .inr ⟨h, hy.2⟩
    · obtain ⟨h1, h2⟩ := al y hn
      exact ⟨p.sim.dom _ trivial h1, h2⟩
    · exact p.sim.low _ trivial (al y hn).1 hv
    · obtain ⟨b, h1, rfl, _⟩ := hm y B' hB
      exact genB_ok (renB_ok (p.sim.blk _ b trivial h1))
    · obtain ⟨h1, h2⟩ := al y hny
      obtain ⟨h3, h4⟩ := al z hnz
      have heq := p.sim.inj _ _ trivial trivial h1 h3 hvy hvz he
      rcases Nat.lt_or_ge y B.nx0 with hy | hy
      · rcases Nat.lt_or_ge z B.nx0 with hz | hz
        · rw [lo y hy, lo z hz] at heq; exact heq
        · have := (hi z hz h4).2
          rw [← heq, lo y hy] at this; omega
      · rcases Nat.lt_or_ge z B.nx0 with hz | hz
        · have := (hi y hy h2).2
          rw [heq, lo z hz] at this; omega
        · have k1 := (hi y hy h2).1
          have k2 := (hi z hz h4).1
          rw [heq] at k1
          have := distinct_ok hdis _ _ _ k1 k2
          omega
    · obtain ⟨k1, k2⟩ := al y hn
      exact p.news _ (hi y h1 k2).2 (hwf _ k1) trivial k1 hv
    · have := (al y hn).1
      rw [lo y hy] at this
      exact p.old y hy trivial this
    · refine look_map (s := s) (fun q v hv => ?_) d _ (hf.slot d)
      cases q.2 with
      | true => exact genA_ok 3 _ _ (renA_ok 5 _ _ hv)
      | false => exact renA_ok 5 _ _ hv
  · cases h
end
end Go.Proofs.YtamjnhpkmhbkcaaGreatDoor

/-
  PART: arguments: what an argument reads as tells its shape: numbers, bools, strings, rows of these.
-/
namespace Go.Proofs.YtamjnhpkmhbkcaaGreatDoor
open Go.RowKit

/-- Kinds of cells. -/
inductive Ck where
  | int (k : IntKind)
  | bool
  | str
  | flt (k : FloatKind)
  | row (ks : List Ck)
mutual
inductive Shp : Ck → AV → Prop
  | int (k : IntKind) (z : Int) (h : (Lit.int k z).wf = true) : Shp (.int k) (.v (.int k z))
  | bool (b : Bool) : Shp .bool (.v (.bool b))
  | str (s : ByteArray) (h : s.size ≤ maxLen) : Shp .str (.v (.string s))
  | flt (k : FloatKind) (x : Nat) (v : Value) (h : one1 v = true) : Shp (.flt k) (.v v)
  | row (ks : List Ck) (n : Nat) (get : Nat → List AV) (hn : n ≤ maxLen) (h : ∀ i, i < n → Shps ks (get i)) : Shp (.row ks) (.sl n ks.length get false false)
inductive Shps : List Ck → List AV → Prop
  | nil : Shps [] []
  | cons {k : Ck} {a : AV} {ks : List Ck} {l : List AV} (h : Shp k a) (t : Shps ks l) : Shps (k :: ks) (a :: l)
end
def shFs (sh : TypeId → Option (List Ck)) (P : Program) : Nat → List Field → Option (List Ck)
  | _, [] => some []
  | off, f :: fs => match sh f.type with
    | some ks => match Nat.beq f.offset off && Nat.beq ks.length (P.cellsOf f.type) with
      | true => match shFs sh P (off + ks.length) fs with
        | some r => some (ks ++ r)
        | none => none
      | false => none
    | none => none
def repK : Nat → List Ck → List Ck
  | 0, _ => []
  | m + 1, ks => ks ++ repK m ks
/-- The cells of a type. -/
def shT (P : Program) : Nat → TypeId → Option (List Ck)
  | 0, _ => none
  | n + 1, t => match P.underlying t with
    | some .bool => some [.bool]
    | some (.int k) => some [.int k]
    | some .string => some [.str]
    | some (.slice e) => match shT P n e with
      | some ks => match Nat.beq ks.length (P.cellsOf e) && Nat.blt 0 ks.length with
        | true => some [.row ks]
        | false => none
      | none => none
    | some (.array m e) => match shT P n e with
      | some ks => match Nat.beq ks.length (P.cellsOf e) && Nat.beq (repK m ks).length (P.cellsOf t) with
        | true => some (repK m ks)
        | false => none
      | none => none
    | some (.struct fs) => match shFs (shT P n) P 0 fs.toList with
      | some ks => match Nat.beq ks.length (P.cellsOf t) with
        | true => some ks
        | false => none
      | none => none
    | _ => none
section
variable {H : Type} {enc : TypeId × Value → H} {P : Program} {w : World} {base : Nat} {spare : Nat → Bool} {held : Bool} {E : Env}
theorem Shps.app {ks ks' : List Ck} {l l' : List AV} (h : Shps ks l) (h' : Shps ks' l') : Shps (ks ++ ks') (l ++ l') := by
  induction ks generalizing l with
  | nil => cases h; exact h'
  | cons k ks ih => cases h with
    | cons h t => exact .cons h (ih t)
theorem Shps.len {ks : List Ck} {l : List AV} (h : Shps ks l) : l.length = ks.length := by
  induction ks generalizing l with
  | nil => cases h; rfl
  | cons k ks ih => cases h with
    | cons h t => simp [ih t]
/-- Some cells, told. -/
def Told (E : Env) (ks : List Ck) (cs : List Value) : Prop := ∃ l, Reps E l cs ∧ Shps ks l ∧ One cs
theorem Told.app {ks ks' : List Ck} {cs cs' : List Value} (h : Told E ks cs) (h' : Told E ks' cs') : Told E (ks ++ ks') (cs ++ cs') :=
  let ⟨l, a, b, c⟩ := h
  let ⟨l', a', b', c'⟩ := h'
  ⟨l ++ l', a.app a', b.app b', c.app c'⟩
theorem Told.len {ks : List Ck} {cs : List Value} (h : Told E ks cs) : cs.length = ks.length :=
  let ⟨_, a, b, _⟩ := h
  a.len.symm.trans b.len
theorem told_fs {sh : TypeId → Option (List Ck)} {cs : List Value} : ∀ {fs : List Field} {off : Nat} {ks : List Ck}, shFs sh P off fs = some ks →
    (∀ f, f ∈ fs → ∀ ks, sh f.type = some ks → Told E ks ((cs.drop f.offset).take (P.cellsOf f.type))) → Told E ks ((cs.drop off).take ks.length)
  | [], off, ks, h, _ => by cases h; exact ⟨[], by simpa using Reps.nil, .nil, fun v hv => by simp at hv⟩
  | f :: fs, off, ks, h, hf => by
    unfold shFs at h
    split at h
    · rename_i k1 hk1
      split at h
      · rename_i hb
        simp only [Bool.and_eq_true] at hb
        have e1 := Nat.eq_of_beq_eq_true hb.1
        have e2 := Nat.eq_of_beq_eq_true hb.2
        split at h
        · rename_i r hr
          cases h
          have h1 := hf f (List.mem_cons_self ..) k1 hk1
          have h2 := told_fs hr fun g hg => hf g (List.mem_cons_of_mem _ hg)
          rw [e1, ← e2] at h1
          rw [List.length_append, List.take_add, List.drop_drop]
          exact h1.app h2
        · cases h
      · cases h
    · cases h
theorem told_rep {cs : List Value} {ks : List Ck} : ∀ (m off : Nat), (∀ i, i < m → Told E ks ((cs.drop (off + i * ks.length)).take ks.length)) → Told E (repK m ks) ((cs.drop off).take (repK m ks).length)
  | 0, off, _ => ⟨[], by simpa [repK] using Reps.nil, .nil, fun v hv => by simp [repK] at hv⟩
  | m + 1, off, h => by
    have h1 := h 0 (Nat.succ_pos m)
    rw [Nat.zero_mul, Nat.add_zero] at h1
    have h2 := told_rep m (off + ks.length) fun i hi => by
      have := h (i + 1) (by omega)
      rwa [Nat.add_mul, Nat.one_mul, Nat.add_comm (i * ks.length), ← Nat.add_assoc] at this
    unfold repK
    rw [List.length_append, List.take_add, List.drop_drop]
    exact h1.app h2
/-- The row of cells at an address. -/
theorem cells_at {a : Addr} {n : Nat} {cs : List Value} (h : w.cells? base a n = some cs) (hn : 0 < n) : a.spot = none ∧ ∃ c ty fr, w.heap[a.block]? = some (.cells c ty fr) ∧ a.off + n ≤ c.size ∧ (c.toList.drop a.off).take n = cs := by
  obtain ⟨_, hl, hc⟩ := World.cells?_some h
  have get : ∀ i, i < n → ∃ v, w.cell? (a.add i) = some v ∧ cs[i]? = some v := fun i hi => by
    have h1 := hc i hi
    rw [List.getElem?_eq_getElem (show i < cs.length by omega)] at h1
    exact ⟨_, h1, List.getElem?_eq_getElem (by omega)⟩
  obtain ⟨v0, h0, _⟩ := get 0 hn
  have ha0 : a.add 0 = a := by simp [Addr.add]
  rw [ha0] at h0
  unfold World.cell? at h0
  split at h0
  · rename_i c ty fr hb
    split at h0
    · cases h0
    · rename_i hs
      have hs' : a.spot = none := by
        cases hq : a.spot with
        | none => rfl
        | some x => rw [hq] at hs; simp at hs
      have cell : ∀ i, w.cell? (a.add i) = c[a.off + i]? := fun i => by
        unfold Addr.add World.cell?
        by_cases hi : i = 0
        · subst hi; simp [hb, hs']
        · simp [hi, hb]
      have hle : a.off + n ≤ c.size := by
        obtain ⟨v, h1, _⟩ := get (n - 1) (by omega)
        rw [cell] at h1
        have := (Array.getElem?_eq_some_iff.1 h1).1
        omega
      refine ⟨hs', c, ty, fr, hb, hle, ?_⟩
      apply List.ext_getElem?
      intro i
      rw [List.getElem?_take]
      split
      · rename_i hi
        obtain ⟨v, h1, h2⟩ := get i hi
        rw [cell] at h1
        rw [List.getElem?_drop, Array.getElem?_toList, h1, h2]
      · rw [List.getElem?_eq_none (by omega)]
  · cases h0
theorem one_append {cs : List Value} {k : Nat} : ∀ (n off : Nat), (∀ i, i < n → One ((cs.drop (off + i * k)).take k)) → One ((cs.drop off).take (n * k))
  | 0, off, _ => by rw [Nat.zero_mul, List.take_zero]; exact fun v hv => by cases hv
  | n + 1, off, h => by
    have h1 := h 0 (Nat.succ_pos n)
    rw [Nat.zero_mul, Nat.add_zero] at h1
    have h2 := one_append n (off + k) fun i hi => by
      have := h (i + 1) (by omega)
      rwa [Nat.add_mul, Nat.one_mul, Nat.add_comm (i * k), ← Nat.add_assoc] at this
    rw [Nat.add_mul, Nat.one_mul, Nat.add_comm (n * k), List.take_add, List.drop_drop]
    exact h1.app h2
theorem told : ∀ (n : Nat) (t : TypeId) (ks : List Ck), shT P n t = some ks → (∀ b c ty fr, w.heap[b]? = some (.cells c ty fr) → E.fz b = some c) →
    ∀ (fuel : Nat) (cs : List Value) (x : DataW H × List MemPlace), DataW.trod enc P w base spare held fuel t cs = some x → Told E ks cs
  | 0, t, ks, h, _, fuel, cs, x, hx => by cases h
  | n + 1, t, ks, h, hfz, fuel, cs, x, hx => by
    unfold shT at h
    split at h
    · rename_i ht; cases h
      obtain ⟨b, rfl, _⟩ := DataW.trod_bool ht hx
      exact ⟨[.v (.bool b)], .cons (.v _ rfl) .nil, .cons (.bool b) .nil, one_single rfl⟩
    · rename_i k ht; cases h
      obtain ⟨z, rfl, _, hw⟩ := DataW.trod_int ht hx
      exact ⟨[.v (.int k z)], .cons (.v _ rfl) .nil, .cons (.int k z hw) .nil, one_single rfl⟩
    · rename_i ht; cases h
      obtain ⟨s, rfl, _, hs⟩ := DataW.trod_string ht hx
      exact ⟨[.v (.string s)], .cons (.v _ rfl) .nil, .cons (.str s hs) .nil, one_single rfl⟩
    · rename_i e ht
      split at h
      · rename_i ks1 hks
        split at h
        · rename_i hb
          cases h
          simp only [Bool.and_eq_true] at hb
          have e1 := Nat.eq_of_beq_eq_true hb.1
          have e2 : 0 < ks1.length := by simpa [Nat.blt_eq] using hb.2
          rcases DataW.trod_slice ht hx with ⟨rfl, _⟩ | ⟨a, len, cap, elems, rest, m, _, rfl, _, hbase, hl, hm, hlen, hel, _⟩
          · exact ⟨[.sl 0 ks1.length (fun _ => []) false false], .cons (.slNil rfl) .nil, .cons (.row ks1 0 _ (Nat.zero_le _) fun i hi => absurd hi (Nat.not_lt_zero i)) .nil, one_single rfl⟩
          · rw [← e1] at hel
            have each : ∀ i, i < len → ∃ cs', w.cells? base (a.add (i * ks1.length)) ks1.length = some cs' ∧ Told E ks1 cs' := fun i hi => by
              have h1 := hel i hi
              rw [List.getElem?_eq_getElem (show i < elems.length by omega), Option.bind_eq_some_iff] at h1
              obtain ⟨cs', h2, h3⟩ := h1
              exact ⟨cs', h2, told n e ks1 hks hfz m cs' _ h3⟩
            by_cases h0 : len = 0
            · exact ⟨[.sl len ks1.length (fun _ => []) false false], .cons (.slEmp h0 fun h => by cases h) .nil, .cons (.row ks1 len _ (by omega) fun i hi => absurd hi (by omega)) .nil, one_single rfl⟩
            · obtain ⟨cs0, hc0, _⟩ := each 0 (by omega)
              rw [Nat.zero_mul, show a.add 0 = a by simp [Addr.add]] at hc0
              obtain ⟨hspot, c, ty, fr, hblk, _, _⟩ := cells_at hc0 e2
              have at' : ∀ i, i < len → a.off + i * ks1.length + ks1.length ≤ c.size ∧ Told E ks1 ((c.toList.drop (a.off + i * ks1.length)).take ks1.length) := fun i hi => by
                obtain ⟨cs', h1, h2⟩ := each i hi
                obtain ⟨_, c', ty', fr', hb', hle, hcs⟩ := cells_at h1 e2
                have hadd : (a.add (i * ks1.length)).block = a.block ∧ (a.add (i * ks1.length)).off = a.off + i * ks1.length := by
                  unfold Addr.add; split <;> simp_all
                rw [hadd.1, hblk] at hb'
                cases hb'
                rw [hadd.2] at hle hcs
                exact ⟨hle, by rw [hcs]; exact h2⟩
              have hsz : a.off + len * ks1.length ≤ c.size := by
                have h1 := (at' (len - 1) (by omega)).1
                have : (len - 1) * ks1.length + ks1.length = len * ks1.length := by
                  rw [← Nat.succ_mul]; congr 1; omega
                omega
              let get : Nat → List AV := fun i => if hi : i < len then Classical.choose (at' i hi).2 else []
              have hget : ∀ i (hi : i < len), Reps E (get i) ((c.toList.drop (a.off + i * ks1.length)).take ks1.length) ∧ Shps ks1 (get i) ∧ One ((c.toList.drop (a.off + i * ks1.length)).take ks1.length) := fun i hi => by
                have := Classical.choose_spec (at' i hi).2
                show Reps E (if hi : i < len then Classical.choose (at' i hi).2 else []) _ ∧ Shps ks1 (if hi : i < len then Classical.choose (at' i hi).2 else []) ∧ _
                rw [dif_pos hi]; exact this
              have ha : a = ⟨a.block, a.off, none⟩ := by cases a; simp_all
              refine ⟨[.sl len ks1.length get false false], .cons ?_ .nil, .cons (.row ks1 len get (by omega) fun i hi => (hget i hi).2.1) .nil, one_single rfl⟩
              rw [ha]
              exact .sl (hfz _ _ _ _ hblk) hsz (fun h => by cases h) hl (fun i hi => (hget i hi).1) (one_append len a.off fun i hi => (hget i hi).2.2)
        · cases h
      · cases h
    · rename_i m e ht
      split at h
      · rename_i ks1 hks
        split at h
        · rename_i hb
          cases h
          simp only [Bool.and_eq_true] at hb
          have e1 := Nat.eq_of_beq_eq_true hb.1
          have e2 := Nat.eq_of_beq_eq_true hb.2
          obtain ⟨xs, m', _, _, hl, hlen, hf⟩ := DataW.trod_array ht hx
          rw [← e1] at hf
          have := told_rep (E := E) (cs := cs) (ks := ks1) m 0 fun i hi => by
            have h1 := hf i hi
            rw [List.getElem?_eq_getElem (show i < xs.length by omega)] at h1
            rw [Nat.zero_add]
            exact told n e ks1 hks hfz m' _ _ h1
          rwa [List.drop_zero, List.take_of_length_le (by omega)] at this
        · cases h
      · cases h
    · rename_i fs ht
      split at h
      · rename_i ks1 hks
        split at h
        · rename_i hb
          cases h
          have e2 := Nat.eq_of_beq_eq_true hb
          obtain ⟨xs, m', _, _, hl, hlen, hf⟩ := DataW.trod_struct ht hx
          have := told_fs (E := E) (cs := cs) hks fun f hfm ks hk => by
            obtain ⟨i, hi⟩ := List.getElem?_of_mem hfm
            have hi' : fs[i]? = some f := by simpa using hi
            have hlt := (Array.getElem?_eq_some_iff.1 hi').1
            have h1 := hf i f hi'
            rw [List.getElem?_eq_getElem (show i < xs.length by omega)] at h1
            exact told n f.type ks hk hfz m' _ _ h1
          rwa [List.drop_zero, List.take_of_length_le (by omega)] at this
        · cases h
      · cases h
    · cases h
end
end Go.Proofs.YtamjnhpkmhbkcaaGreatDoor

/-
  PART: a function's run from its arguments, with open loops walked by the rules.
-/
namespace Go.Proofs.YtamjnhpkmhbkcaaGreatDoor
open Go.RowKit

/-- The package-level variables that are read hold what they are taken to hold. -/
def cellsAt (w : World) (b : Nat) : Option (Array Value) := match w.heap[b]? with | some (.cells c _ _) => some c | _ => none
def GlobW (w : World) : Prop := ∀ g, GOk g (cellsAt w g)
/-- All that stands at the start stays. -/
def frozenE (w : World) (hg : GlobW w) : Env := { ρ := fun _ => 0, dom := fun _ => False, vir := fun _ => false, cp := fun _ => 0, ln := fun _ => 0, fz := fun b => cellsAt w b, gok := hg }
theorem frozenE_fz {w : World} {hg : GlobW w} {b : Nat} {c : Array Value} {ty : TypeId} {fr : Nat × Nat} (h : w.heap[b]? = some (.cells c ty fr)) : (frozenE w hg).fz b = some c := by
  show (match w.heap[b]? with | some (.cells c _ _) => some c | _ => none) = some c
  rw [h]
theorem frozenE_ok (w : World) (hg : GlobW w) : FzOk (frozenE w hg) w := fun b c hb => by
  have hb' : (match w.heap[b]? with | some (.cells c _ _) => some c | _ => none) = some c := hb
  split at hb'
  · rename_i c' ty fr he; cases hb'; exact ⟨ty, fr, he⟩
  · cases hb'
/-- A start at which only the arguments are known. -/
def begins (N : Nat) (E : Env) (w : World) (hd : ∀ x, ¬ E.dom x) (hf : FzOk E w) : Start :=
  { N := N, E0 := E, H0 := fun _ => none, nx0 := 0, w0 := w, sim := ⟨hf, fun _ _ h => absurd rfl h, fun _ _ h => absurd rfl h, (fun _ _ _ h => nomatch h), fun _ _ _ _ h => absurd rfl h⟩, bound := fun x hx => absurd hx (hd x) }
def entry (args : List AV) : St := { St.nil with sl := params 0 args }
section
variable {P : Program}
theorem calls_of_wpc {f : Nat} {fn : Func} {c : Code} (hfn : P.funcs[f]? = some fn) (hb : fn.body = some c) {args : List AV} {vals : Array Value} {w : World} {E : Env} {hd : ∀ x, ¬ E.dom x} {hf : FzOk E w} (hargs : Reps E args vals.toList) (hle : args.length ≤ fn.ntmps)
    {R : Ex → St → Prop} (h : WpC P (begins fn.ntmps E w hd hf) c (entry args) R) {V : Value → Prop}
    (hres : ∀ x s, R x s → (x = .norm ∨ x = .ret) ∧ (ressA P fn.results.toList s).wp fun b => ∀ E v, Rep E (oneA b.1) v → V v) :
    CallsIn Fence.wide 0 P f vals w fun e w' => ∃ v, e = .returned v ∧ V v ∧ Quiet w w' := by
  refine callsIn_of_wp_marks hfn hb trivial ?_ rfl
  refine h _ w _ ⟨E, Pst.refl (Start.sim (begins fn.ntmps E w hd hf)), params_fr (st := .nil) hargs hle, fun x hx => absurd hx (hd x), fun x hx => absurd rfl hx, Ext.none (fun _ _ h => nomatch h) rfl, Nat.le_refl _⟩ fun x s act' w' hR ⟨E', p, hfr, hbd, hwf, hdf, hnx⟩ => ?_
  obtain ⟨hx, hw⟩ := hres x s hR
  obtain ⟨⟨as, s1⟩, hh, hV⟩ := Tree.wp_hit hw
  obtain ⟨_, k2⟩ := ressA_ok (N := fn.ntmps) hh
  have hpost : LeavesInM Fence.wide 0 P fn act'.tmps (fun e w' => ∃ v, e = .returned v ∧ V v ∧ Quiet w w') act'.defers .returning w' := by
    refine leaves_out (B := begins fn.ntmps E w hd hf) p hdf fun w2 p2 => ?_
    obtain ⟨vs, r1, r2⟩ := k2 (fun _ => True) E' act' w2 (fun _ _ => trivial) p2.sim hfr
    exact ⟨_, results_run r1, _, rfl, hV E' _ (oneA_ok r2), ⟨fun b hb => (p2.frame b hb fun x hx => by cases hx).1, p2.size, p2.os, p2.tape, p2.output⟩⟩
  rcases hx with rfl | rfl
  · exact hpost
  · exact hpost
/-- A contract of a function with open loops. -/
theorem pure_of_wpc {f : Nat} {fn : Func} {c : Code} (hfit : Fit P) (hfn : P.funcs[f]? = some fn) (hb : fn.body = some c) {args : List AV} (hle : args.length ≤ fn.ntmps) {a : AV}
    {R : Ex → St → Prop} (h : ∀ (E : Env) (w : World) (hd : ∀ x, ¬ E.dom x) (hf : FzOk E w), WpC P (begins fn.ntmps E w hd hf) c (entry args) R)
    (hres : ∀ x s, R x s → (x = .norm ∨ x = .ret) ∧ (ressA P fn.results.toList s).wp fun b => ∀ E v, Rep E (oneA b.1) v → ∀ E2, Rep E2 a v) : PureOk P f args a := by
  intro rr E w vals K hd hf hargs hK
  have hname' : ¬ fn.name = "runtime.NumGoroutine" := by simpa using (fit_func hfit hfn hb).2
  refine .inr ⟨by simp [callFunc, hfn, hname', hb], ?_⟩
  have hc : CallsIn Fence.wide 0 P f vals w fun e w' => ∃ v, e = .returned v ∧ K v w' :=
    (calls_of_wpc (hd := hd) (hf := hf) hfn hb hargs hle (h E w hd hf) (V := fun v => ∀ E2, Rep E2 a v) hres).mono fun e w' ⟨v, h1, h2, h3⟩ => ⟨v, h1, hK v w' h2 h3⟩
  cases rr with
  | none => exact hc
  | some l => exact hc.inRound l
theorem Quiet.below {w w' : World} (h : Quiet w w') : Below w.heap.size w w' := ⟨h.os, h.tape, h.output, h.size, fun k hk => h.old k hk⟩
end
end Go.Proofs.YtamjnhpkmhbkcaaGreatDoor

/-
  PART: the row of a law: of any arguments that can be read, the law's run returns true, what was there stays.
-/
namespace Go.Proofs.YtamjnhpkmhbkcaaGreatDoor
open Go.ChangeShapes Go.WideShapes Go.ChangeAt Go.WideMaps Go.WideElems Go.RowKit

/-- The shape of an argument of a type: whether it is a row of cells; its cells. -/
def argSh (P : Program) (n : Nat) (t : TypeId) : Option (Bool × List Ck) := match aggO P t, shT P n t with
  | some ag, some ks => match ag || Nat.beq ks.length 1 with
    | true => some (ag, ks)
    | false => none
  | _, _ => none
def argShs (P : Program) (n : Nat) : List TypeId → Option (List (Bool × List Ck))
  | [] => some []
  | t :: ts => match argSh P n t, argShs P n ts with
    | some x, some xs => some (x :: xs)
    | _, _ => none
def ArgOk : Bool × List Ck → AV → Prop
  | (true, ks), a => ∃ l, a = .agg l ∧ Shps ks l
  | (false, ks), a => Shps ks [a]
inductive ArgsOk : List (Bool × List Ck) → List AV → Prop
  | nil : ArgsOk [] []
  | cons {k : Bool × List Ck} {a : AV} {ks : List (Bool × List Ck)} {l : List AV} (h : ArgOk k a) (t : ArgsOk ks l) : ArgsOk (k :: ks) (a :: l)
section
variable {H : Type} {enc : TypeId × Value → H} {P : Program} {w : World}
theorem okWide_one {t : TypeId} {base : Nat} {v : Value} (ht : aggO P t = some false) (h : Value.okWide P w .any base t v) : ∀ cs, v ≠ .agg cs := by
  rintro cs rfl
  unfold aggO at ht
  unfold Value.okWide at h
  split at ht
  · cases ht
  · cases ht
  · rename_i d h1 h2 hd
    rw [hd] at h
    have hc : Cell.okWide P w .any base t (.agg cs) := by
      cases d <;> first | exact h | (exfalso; first | exact h1 _ rfl | exact h2 _ _ rfl)
    unfold Cell.okWide at hc
    rw [hd] at hc
    unfold Cell.ok at hc
    rw [hd] at hc
    cases d <;> simp at hc
  · cases ht
theorem okWide_agg {t : TypeId} {base : Nat} {v : Value} (ht : aggO P t = some true) (h : Value.okWide P w .any base t v) : ∃ cs, v = .agg cs := by
  unfold aggO at ht
  unfold Value.okWide at h
  split at ht
  · rename_i hd; rw [hd] at h; obtain ⟨cs, h1, _⟩ := h; exact ⟨cs, h1⟩
  · rename_i hd; rw [hd] at h; obtain ⟨cs, h1, _⟩ := h; exact ⟨cs, h1⟩
  · cases ht
  · cases ht
theorem cells_scalar {v : Value} (h : ∀ cs, v ≠ .agg cs) : v.cells.toList = [v] := by
  cases v <;> first | rfl | exact absurd rfl (h _)
theorem arg_told {n : Nat} {t : TypeId} {k : Bool × List Ck} {v : Value} {d : DataW H} {p : List MemPlace} {base : Nat} (hg : GlobW w) (hk : argSh P n t = some k) (hv : Value.okWide P w .any base t v)
    (h : DataW.Trod enc P w 0 (fun _ => true) true t v d p) : ∃ a, Rep (frozenE w hg) a v ∧ ArgOk k a := by
  unfold argSh at hk
  split at hk
  · rename_i ag ks h1 h2
    split at hk
    · rename_i hb
      cases hk
      obtain ⟨fuel, hf⟩ := h
      obtain ⟨l, r1, r2, r3⟩ := told (E := frozenE w hg) n t ks h2 (fun b c ty fr hb => frozenE_fz hb) fuel _ _ hf
      cases ag with
      | true =>
        obtain ⟨cs, rfl⟩ := okWide_agg h1 hv
        exact ⟨.agg l, .agg r1 r3, l, rfl, r2⟩
      | false =>
        have hl : ks.length = 1 := by simpa using Nat.eq_of_beq_eq_true hb
        have hc := cells_scalar (okWide_one h1 hv)
        rw [hc] at r1
        cases r1 with
        | cons q1 q2 => cases q2; exact ⟨_, q1, r2⟩
    · cases hk
  · cases hk
theorem args_told (hg : GlobW w) {n : Nat} {base : Nat} : ∀ {ts : List TypeId} {ks : List (Bool × List Ck)} {vs : List Value} {ds : List (DataW H)} {p : List MemPlace}, argShs P n ts = some ks →
    (∀ (j : Nat) t v, ts[j]? = some t → vs[j]? = some v → Value.okWide P w .any base t v) → DataW.TrodAll enc P w 0 (fun _ => true) true ts vs ds p → ∃ as, Reps (frozenE w hg) as vs ∧ ArgsOk ks as
  | [], ks, vs, ds, p, hk, hv, h => by
    obtain ⟨rfl, rfl, rfl⟩ := trodAll_nil h
    cases hk
    exact ⟨[], .nil, .nil⟩
  | t :: ts, ks, vs, ds, p, hk, hv, h => by
    obtain ⟨v, vs1, d, ds1, a, b, rfl, rfl, rfl, h1, h2⟩ := trodAll_cons h
    unfold argShs at hk
    split at hk
    · rename_i x xs e1 e2
      cases hk
      obtain ⟨a, q1, q2⟩ := arg_told hg e1 (hv 0 t v rfl rfl) h1
      obtain ⟨as, q3, q4⟩ := args_told hg e2 (fun j t' v' h1 h2 => hv (j + 1) t' v' (by simpa using h1) (by simpa using h2)) h2
      exact ⟨a :: as, .cons q1 q3, .cons q2 q4⟩
    · cases hk
theorem trodAll_carry (hl : laidOutB P = true) {w' : World} (hb : Below w.heap.size w w') : ∀ {ts : List TypeId} {vs : List Value} {ds : List (DataW H)} {p : List MemPlace}, (ts.all fun t => P.readableRec t && decide (t < P.types.size)) = true →
    DataW.TrodAll enc P w 0 (fun _ => true) true ts vs ds p → (∀ x ∈ p, x.block < w.heap.size) → DataW.TrodAll enc P w' 0 (fun b => decide (b < w.heap.size)) true ts vs ds p
  | [], vs, ds, p, _, h, _ => by
    obtain ⟨rfl, rfl, rfl⟩ := trodAll_nil h
    rfl
  | t :: ts, vs, ds, p, ha, h, hlt => by
    obtain ⟨v, vs1, d, ds1, a, b, rfl, rfl, rfl, h1, h2⟩ := trodAll_cons h
    simp only [List.all_cons, Bool.and_eq_true, decide_eq_true_eq] at ha
    exact ⟨a, b, Below.trod hl ha.1.1 ha.1.2 h1 hb fun x hx => hlt x (List.mem_append.2 (.inl hx)), trodAll_carry hl hb ha.2 h2 fun x hx => hlt x (List.mem_append.2 (.inr hx)), rfl⟩
end
/-- What a law's proof owes: its run, from arguments of the right shapes. -/
def LawRuns (P : Program) (f : Nat) (ks : List (Bool × List Ck)) : Prop :=
  ∀ (w : World) (hg : GlobW w) (vals : Array Value) (as : List AV), ArgsOk ks as → Reps (frozenE w hg) as vals.toList → CallsIn Fence.wide 0 P f vals w fun e w' => ∃ v, e = .returned v ∧ v = .bool true ∧ Quiet w w'
theorem law_lifted {C : Checked} {os : Os} (started : os.Started) (own : ownKnob C.prog.godebug = none) {f : Nat} {fn : Func} (noInit : C.prog.inits.idxOf? f = none) (hfn : C.prog.funcs[f]? = some fn)
    {spec : ChangeSpec} (hvars : spec.vars = []) {tb : TypeId} (hres : fn.resultTypes = #[tb]) (htb : C.prog.underlying tb = some .bool)
    (hspec : ∀ (H : Type) (ds : List (DataW H)), ds.length = fn.params.size → (spec.fn H ds).results = [.lit (.bool true)] ∧ (spec.fn H ds).args = ds ∧ (spec.fn H ds).vars = [])
    (hlaid : laidOutB C.prog = true) (hread : (fn.params.toList.all fun t => C.prog.readableRec t && decide (t < C.prog.types.size)) = true)
    {n : Nat} {ks : List (Bool × List Ck)} (hks : argShs C.prog n fn.params.toList = some ks) (hrun : LawRuns C.prog f ks) (hGM : ∀ W : World, GlobW W)
    (H : Type) (enc : TypeId × Value → H)
    (witness : ∃ (w : World) (tape : Tape) (i : Input), w.os = os ∧ (w.forCall tape i).Shaped C.prog ∧ i.vars = [] ∧ Input.okWide C.prog (w.forCall tape i) .any w.heap.size f i ∧
      spec.pre6 enc C.prog fn [] false (w.forCall tape i).memory i.args ∧ Assume.holds {} C.prog (lone (Frame.enter C.prog f i.args .normal) [] (w.forCall tape i))) :
    ReturnsInHanded {} C os f .any (spec.pre6 enc C.prog fn [] false) (spec.post enc C.prog fn false true false false) := by
  refine returnsInHanded_of_change own started noInit hfn witness ?_
  intro W base args ds gs before hval hW _ _
  have hW' := hW
  obtain ⟨p, q, hA, hV, rfl, hfz, hnd⟩ := hW
  rw [hvars] at hV
  obtain ⟨rfl, rfl⟩ := trodVars_none hV
  have hg : GlobW W := hGM W
  obtain ⟨as, r1, r2⟩ := args_told hg hks (fun j t v h1 h2 => hval j t v (by simpa using h1) (by simpa using h2)) hA
  have hlen : ∀ {ts : List TypeId} {vs : List Value} {ds : List (DataW H)} {p : List MemPlace}, DataW.TrodAll enc C.prog W 0 (fun _ => true) true ts vs ds p → ds.length = ts.length := by
    intro ts
    induction ts with
    | nil => intro vs ds p h; obtain ⟨rfl, rfl, rfl⟩ := trodAll_nil h; rfl
    | cons t ts ih => intro vs ds p h; obtain ⟨v, vs1, d, ds1, a, b, rfl, rfl, rfl, h1, h2⟩ := trodAll_cons h; simp [ih h2]
  have hds : (ds ++ []).length = fn.params.size := by rw [List.append_nil, hlen hA, Array.length_toList]
  obtain ⟨s1, s2, s3⟩ := hspec H (ds ++ []) hds
  have hlt : ∀ x ∈ p, x.block < W.heap.size := fun x hx => hW'.lt x (by simpa using hx)
  have hcalls := callsIn_wide.1 (hrun W hg args as r2 r1)
  refine hcalls.mono fun e W' ⟨v, he, hv, hq⟩ => ?_
  subst he hv
  refine ⟨_, rfl, _, _, _, [], p, [], hW', ?_, ?_, ?_, hq.below.frame _, fun h => by cases h⟩
  · rw [s1, hres]
    exact trodAll_mk1 (shut_bool htb true)
  · rw [s2, List.append_nil]
    exact trodAll_carry hlaid hq.below hread hA hlt
  · rw [s3, hvars]
    rfl
end Go.Proofs.YtamjnhpkmhbkcaaGreatDoor

/-
  PART: stages of a walk: pieces of code by the evaluator, their ends as short leaves; a loop in its block.
-/
namespace Go.Proofs.YtamjnhpkmhbkcaaGreatDoor
open Go.RowKit

def Tree.map {α β : Type} (f : α → β) : Tree α → Tree β
  | .ret a => .ret (f a)
  | .br c t e => .br c (t.map f) (e.map f)
  | .side p t => .side p (t.map f)
  | .fail => .fail
theorem Tree.wp_map {α β : Type} {f : α → β} {Q : β → Prop} : ∀ {t : Tree α}, (t.map f).wp Q → t.wp fun a => Q (f a)
  | .ret _, h => h
  | .br _ _ _, h => ⟨fun hc => Tree.wp_map (h.1 hc), fun hc => Tree.wp_map (h.2 hc)⟩
  | .side _ t, h => ⟨h.1, Tree.wp_map (t := t) h.2⟩
  | .fail, h => h
/-- How a piece ends: it goes on (its state made short), or the function returns. -/
inductive Lf where
  | go (x : Ex) (m : Option St)
  | out (a : AV)
def lfOf (nx0 : Nat) (ds : List (Nat × Bool)) (gb : Bool) (r : Nat) (b : Ex × St) : Lf := match b.1 with
  | .ret => .out (look b.2.sl r)
  | x => .go x (canon nx0 ds gb b.2)
def LfQ (R : Ex → St → Prop) (O : AV → Prop) : Lf → Prop
  | .go x (some m) => R x m
  | .go _ none => False
  | .out a => O a
/-- The answer is true. -/
def IsTrue (a : AV) : Prop := ∀ (E : Env) v, Rep E a v → v = .bool true
theorem isTrue_lit : IsTrue (.lit (.bool true)) := fun E v h => by cases h; rfl
theorem isTrue_v {b : Bool} (hb : b = true) : IsTrue (.v (.bool b)) := fun E v h => by cases h; rw [hb]
def joins : List Code → Code
  | [] => .skip
  | [a] => a
  | a :: l => .seq a (joins l)
def seqs : List Code → Code → Code
  | [], c => c
  | a :: l, c => .seq a (seqs l c)
section
variable {P : Program} {B : Start} {c : Code} {s : St} {R : Ex → St → Prop}
theorem wpc_of_lf {cx : Cx} {n : Nat} (hc : CtrOk cx) (hfit : Fit cx.P) {ds : List (Nat × Bool)} {gb : Bool} {r : Nat} {O : AV → Prop} (hcode : codeOk B.N c = true)
    (h : ((codeE cx (evs cx n) c s).map (lfOf B.nx0 ds gb r)).wp (LfQ R O)) (ho : ∀ s, O (look s.sl r) → R .ret s) : WpC cx.P B c s R := by
  refine wpc_post (wpc_ev (R := fun x s => LfQ R O (lfOf B.nx0 ds gb r (x, s))) hc hfit hcode (Tree.wp_map h)) fun x s' hq => ?_
  cases x with
  | ret => exact ⟨s', fun _ _ h => h, ho s' hq⟩
  | norm =>
    cases hm : canon B.nx0 ds gb s' with
    | none => simp only [lfOf, hm] at hq; exact hq.elim
    | some m => simp only [lfOf, hm] at hq; exact ⟨m, canon_ok hm, hq⟩
  | exit id =>
    cases hm : canon B.nx0 ds gb s' with
    | none => simp only [lfOf, hm] at hq; exact hq.elim
    | some m => simp only [lfOf, hm] at hq; exact ⟨m, canon_ok hm, hq⟩
  | goto l =>
    cases hm : canon B.nx0 ds gb s' with
    | none => simp only [lfOf, hm] at hq; exact hq.elim
    | some m => simp only [lfOf, hm] at hq; exact ⟨m, canon_ok hm, hq⟩
theorem wpc_skip (h : R .norm s) : WpC P B .skip s R := fun act w Q hs hQ => by
  refine wpIn_skip ?_
  exact hQ _ s act w h hs
/-- Some pieces ahead of others, by the evaluator. -/
theorem wpc_evs {cx : Cx} {n : Nat} (hc : CtrOk cx) (hfit : Fit cx.P) : ∀ (l : List Code) (s : St), l ≠ [] → (l.all fun a => codeOk B.N a) = true →
    (codeE cx (evs cx n) (joins l) s).wp (fun b => match b.1 with | .norm => WpC cx.P B c b.2 R | x => R x b.2) → WpC cx.P B (seqs l c) s R
  | [], _, h, _, _ => absurd rfl h
  | [a], s, _, hok, h => by
    simp only [List.all_cons, List.all_nil, Bool.and_true] at hok
    refine wpc_seq (wpc_ev (R := fun x s' => match x with | .norm => WpC cx.P B c s' R | x => R x s') hc hfit hok h) (fun s1 h1 => h1) fun x s1 hx h1 => ?_
    cases x <;> first | exact absurd rfl hx | exact h1
  | a :: b :: l, s, _, hok, h => by
    simp only [List.all_cons, Bool.and_eq_true] at hok
    have h' := Tree.wp_bind (show ((codeE cx (evs cx n) a s).bind fun (e, s) => match e with | .norm => codeE cx (evs cx n) (joins (b :: l)) s | e => .ret (e, s)).wp _ from h)
    refine wpc_seq (R1 := fun x s' => match x with | .norm => WpC cx.P B (seqs (b :: l) c) s' R | x => R x s') (wpc_ev hc hfit hok.1 (Tree.wp_imp (fun q hq => ?_) h')) (fun s1 h1 => h1) fun x s1 hx h1 => ?_
    · obtain ⟨x, s'⟩ := q
      cases x with
      | norm => exact wpc_evs hc hfit (b :: l) s' (by simp) (by simp [hok.2]) hq
      | exit id => exact hq
      | goto l => exact hq
      | ret => exact hq
    · cases x <;> first | exact absurd rfl hx | exact h1
/-- A stage: some pieces by the evaluator, what is behind them from the short states. -/
theorem wpc_stage {cx : Cx} {n : Nat} (hc : CtrOk cx) (hfit : Fit cx.P) {l : List Code} {ds : List (Nat × Bool)} {gb : Bool} {r : Nat} {O : AV → Prop} (hl : l ≠ []) (hok : (l.all fun a => codeOk B.N a) = true)
    (h : ((codeE cx (evs cx n) (joins l) s).map (lfOf B.nx0 ds gb r)).wp (LfQ (fun x m => match x with | .norm => WpC cx.P B c m R | x => R x m) O)) (ho : ∀ s, O (look s.sl r) → R .ret s) : WpC cx.P B (seqs l c) s R := by
  refine wpc_post (R1 := fun x s' => ∃ m, HoldLe B s' m ∧ R x m) (wpc_evs hc hfit l s hl hok (Tree.wp_imp (fun q hq => ?_) (Tree.wp_map h))) fun x s' h => h
  obtain ⟨x, s'⟩ := q
  cases x with
  | ret => exact ⟨s', fun _ _ h => h, ho s' hq⟩
  | norm =>
    cases hm : canon B.nx0 ds gb s' with
    | none => simp only [lfOf, hm] at hq; exact hq.elim
    | some m =>
      simp only [lfOf, hm] at hq
      exact wpc_pre (canon_ok hm) (wpc_imp hq fun x s1 h1 => ⟨s1, fun _ _ h => h, h1⟩)
  | exit id =>
    cases hm : canon B.nx0 ds gb s' with
    | none => simp only [lfOf, hm] at hq; exact hq.elim
    | some m => simp only [lfOf, hm] at hq; exact ⟨m, canon_ok hm, hq⟩
  | goto l =>
    cases hm : canon B.nx0 ds gb s' with
    | none => simp only [lfOf, hm] at hq; exact hq.elim
    | some m => simp only [lfOf, hm] at hq; exact ⟨m, canon_ok hm, hq⟩
/-- What a round does: it goes on, leaves the loop, or returns. -/
def RoundQ {ι : Type} (Inv : ι → St) (J : ι → Prop) (m : ι → Nat) (id : Nat) (k : ι) (Out : St → Prop) (x : Ex) (s : St) : Prop := match x with
  | .norm => ∃ k', s = Inv k' ∧ J k' ∧ m k' < m k
  | .exit id' => id' = id ∧ Out s
  | .ret => False
  | .goto _ => False
/-- A loop in its block: each round from a short state. -/
theorem wpc_bloop0 {ι : Type} {cx : Cx} {n : Nat} (hc : CtrOk cx) (hfit : Fit cx.P) {body : Code} {id : Nat} (Inv : ι → St) (J : ι → Prop) (m : ι → Nat) (Out : St → Prop) {ds : List (Nat × Bool)} {gb : Bool} {r : Nat} {O : AV → Prop} (hok : codeOk B.N body = true)
    (h : ∀ k, J k → ((codeE cx (evs cx n) body (Inv k)).map (lfOf B.nx0 ds gb r)).wp (LfQ (RoundQ Inv J m id k Out) O)) (k : ι) (hk : J k) :
    WpC cx.P B (.block id (.loop body)) (Inv k) fun x s => (x = .norm ∧ ∃ m, HoldLe B s m ∧ Out m) ∨ (x = .ret ∧ O (look s.sl r)) := by
  refine wpc_block (R1 := fun x s => (x = .exit id ∧ ∃ m, HoldLe B s m ∧ Out m) ∨ (x = .ret ∧ O (look s.sl r))) (wpc_loop Inv J m _ (fun k hk => ?_) k hk) ?_ ?_
  · refine wpc_imp (wpc_ev (R := fun x s => LfQ (RoundQ Inv J m id k Out) O (lfOf B.nx0 ds gb r (x, s))) hc hfit hok (Tree.wp_map (h k hk))) fun x s' hq => ?_
    cases x with
    | ret => exact .inr ⟨by simp, .inr ⟨rfl, hq⟩⟩
    | norm =>
      cases hm : canon B.nx0 ds gb s' with
      | none => simp only [lfOf, hm] at hq; exact hq.elim
      | some m' =>
        simp only [lfOf, hm] at hq
        obtain ⟨k', rfl, h2, h3⟩ := hq
        exact .inl ⟨rfl, k', h2, h3, canon_ok hm⟩
    | exit id' =>
      cases hm : canon B.nx0 ds gb s' with
      | none => simp only [lfOf, hm] at hq; exact hq.elim
      | some m =>
        simp only [lfOf, hm] at hq
        obtain ⟨rfl, h2⟩ := hq
        exact .inr ⟨by simp, .inl ⟨rfl, m, canon_ok hm, h2⟩⟩
    | goto l =>
      cases hm : canon B.nx0 ds gb s' with
      | none => simp only [lfOf, hm] at hq; exact hq.elim
      | some m => simp only [lfOf, hm] at hq; exact hq.elim
  · rintro s1 (⟨_, h2⟩ | ⟨h1, _⟩)
    · exact .inl ⟨rfl, h2⟩
    · cases h1
  · rintro x s1 hx (⟨h1, h2⟩ | ⟨h1, h2⟩)
    · exact absurd h1 hx
    · exact .inr ⟨h1, h2⟩
/-- Ahead of more. -/
theorem wpc_bloop {ι : Type} {cx : Cx} {n : Nat} (hc : CtrOk cx) (hfit : Fit cx.P) {body : Code} {id : Nat} (Inv : ι → St) (J : ι → Prop) (m : ι → Nat) (Out : St → Prop) {ds : List (Nat × Bool)} {gb : Bool} {r : Nat} {O : AV → Prop} (hok : codeOk B.N body = true)
    (h : ∀ k, J k → ((codeE cx (evs cx n) body (Inv k)).map (lfOf B.nx0 ds gb r)).wp (LfQ (RoundQ Inv J m id k Out) O)) (ho : ∀ s, O (look s.sl r) → R .ret s) (k : ι) (hk : J k) (hs : s = Inv k)
    (hout : ∀ s, Out s → WpC cx.P B c s R) : WpC cx.P B (.seq (.block id (.loop body)) c) s R := by
  subst hs
  refine wpc_seq (wpc_bloop0 hc hfit Inv J m Out hok h k hk) ?_ ?_
  · rintro s1 (⟨_, m, h1, h2⟩ | ⟨h1, _⟩)
    · exact wpc_pre h1 (hout m h2)
    · cases h1
  · rintro x s1 hx (⟨h1, _⟩ | ⟨rfl, h2⟩)
    · exact absurd h1 hx
    · exact ho s1 h2
/-- A loop with what it begins with. -/
theorem wpc_iloop {ι : Type} {cx : Cx} {n : Nat} (hc : CtrOk cx) (hfit : Fit cx.P) {a body : Code} {id : Nat} (Inv : ι → St) (J : ι → Prop) (m : ι → Nat) (Out : St → Prop) {ds : List (Nat × Bool)} {gb : Bool} {r : Nat} {O : AV → Prop} (hok : codeOk B.N body = true)
    (h : ∀ k, J k → ((codeE cx (evs cx n) body (Inv k)).map (lfOf B.nx0 ds gb r)).wp (LfQ (RoundQ Inv J m id k Out) O)) (ho : ∀ s, O (look s.sl r) → R .ret s) (hoka : codeOk B.N a = true)
    (hi : ((codeE cx (evs cx n) a s).map (lfOf B.nx0 ds gb r)).wp (LfQ (fun x m => x = .norm ∧ ∃ k, m = Inv k ∧ J k) fun _ => False))
    (hout : ∀ s, Out s → WpC cx.P B c s R) : WpC cx.P B (.seq (.seq a (.block id (.loop body))) c) s R := by
  refine wpc_seq (R1 := fun x s => (x = .norm ∧ ∃ m, HoldLe B s m ∧ Out m) ∨ (x = .ret ∧ O (look s.sl r))) (wpc_stage (l := [a]) hc hfit (r := r) (O := fun _ => False) (by simp) (by simp [hoka]) (Tree.wp_imp (fun q hq => ?_) hi) fun _ h => h.elim) ?_ ?_
  · cases q with
    | out a => exact hq
    | go x m =>
      cases m with
      | none => exact hq
      | some m =>
        obtain ⟨rfl, k, rfl, hk⟩ := hq
        exact wpc_bloop0 hc hfit Inv J _ Out hok h k hk
  · rintro s1 (⟨_, m, h1, h2⟩ | ⟨h1, _⟩)
    · exact wpc_pre h1 (hout m h2)
    · cases h1
  · rintro x s1 hx (⟨h1, _⟩ | ⟨rfl, h2⟩)
    · exact absurd h1 hx
    · exact ho s1 h2
/-! Parts of code. -/
def codeOf (fn : Func) : Code := match fn.body with
  | some c => c
  | none => .skip
def cl : Code → Code
  | .seq a _ => a
  | c => c
def cr : Code → Code
  | .seq _ b => b
  | c => c
def cin : Code → Code
  | .block _ c => c
  | .loop c => c
  | .scope c => c
  | c => c
/-- The first pieces of a row of so many, and what is behind them. -/
def firsts : Nat → Code → List Code
  | 0, _ => []
  | n + 1, c => cl c :: firsts n (cr c)
def behind : Nat → Code → Code
  | 0, c => c
  | n + 1, c => behind n (cr c)
end
end Go.Proofs.YtamjnhpkmhbkcaaGreatDoor
