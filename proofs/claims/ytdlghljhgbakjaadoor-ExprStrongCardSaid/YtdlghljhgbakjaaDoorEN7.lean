/-
  PART: operations that leave memory alone, and new variables.
-/
import Derived.Test.YtdlghljhgbakjaaDoorEN6
import Derived.Laws.StructEq
namespace Go.Proofs.YtdlghljhgbakjaaDoor
open Go.RowKit

section
variable {P : Program} {o : Oper} {st st' : St} {a : AV} {w : World} {E : Env}
theorem semVal_run {α : Type} {s : Sem α} {x : α} (h : semVal P s = some x) (w : World) : s.run P w = .ok x w := by
  induction s with
  | pure b => simp [semVal] at h; subst h; rfl
  | program k ih => simp only [semVal] at h; exact ih P h
  | mark m k ih => simp only [semVal] at h; exact ih h
  | _ => simp [semVal] at h
theorem nd_of {x : Op} (ho : o.op = x) (hx : ∀ c, x ≠ .defer c) : NoDefer o := fun c h => hx c (ho ▸ h)
theorem litOr_rep (l : Bool) (v : Value) : Rep E (litOr l v) v := by
  unfold litOr
  split
  · rename_i h; cases l
    · exact .v v h
    · exact .lit v h
  · exact .unk v
/-- An operation that answers by a computation that looks at no memory. -/
theorem quiet_of {st : St} {a : AV} (hd : NoDefer o) (h : ∀ (E : Env) (act : Act), (∀ x, x ∈ o.op.operands → Rep E (st.val x) (act.eval x)) → ∃ v, (∀ w, (execOp act.eval o).run P w = .ok (.value v) w) ∧ Rep E a v) : OpOk P o st a st :=
  .quiet hd (.refl st) rfl rfl rfl fun _ E act w _ _ hx => let ⟨v, hr, hv⟩ := h E act hx; ⟨v, hr w, hv⟩
theorem move_ok {x : Operand} (ho : o.op = .move x ∨ o.op = .assign x) : OpOk P o st (st.val x) st := by
  refine quiet_of (fun c h => by rcases ho with ho | ho <;> (rw [ho] at h; cases h)) fun E act hx => ⟨act.eval x, fun w => ?_, hx x (by rcases ho with ho | ho <;> (rw [ho]; exact mem1))⟩
  unfold execOp
  rcases ho with ho | ho <;> (rw [ho]; rfl)
theorem boolOf_rep {a : AV} {b l : Bool} (h : boolOf a = some (b, l)) {v : Value} (hv : Rep E a v) : v = .bool b := by
  unfold boolOf at h
  split at h
  · cases h; cases hv; rfl
  · cases h; cases hv; rfl
  · cases h
theorem pick_ok {c x y : Operand} {e : Bool} (ho : o.op = .pick c x y) (hc : ∃ l, boolOf (st.val c) = some (e, l)) {r : AV} (hr : ∀ (E : Env) v, (if e = true then Rep E (st.val x) v else Rep E (st.val y) v) → Rep E r v) : OpOk P o st r st := by
  obtain ⟨l, hc⟩ := hc
  refine quiet_of (nd_of ho (by simp)) fun E act hx => ⟨if e then act.eval x else act.eval y, fun w => ?_, hr E _ ?_⟩
  · have := boolOf_rep hc (hx c (by rw [ho]; simp [Op.operands]))
    unfold execOp
    rw [ho]
    simp [asBool, this]
  · have h1 := hx x (by rw [ho]; simp [Op.operands])
    have h2 := hx y (by rw [ho]; simp [Op.operands])
    cases e <;> simpa
/-! New variables. -/
theorem zero_info {t : TypeId} {cs : List AV} (h : zeroO P t = some cs) : ∃ i z, P.info? t = some i ∧ i.zero = some z ∧ cs = z.cells.toList.map .lit ∧ One z.cells.toList := by
  unfold zeroO at h
  split at h
  · rename_i i hi
    split at h
    · rename_i z hz
      split at h
      · rename_i ha; cases h; exact ⟨i, z, hi, hz, rfl, one_of_all ha⟩
      · cases h
    · cases h
  · cases h
theorem new_var {t : TypeId} {cs : List AV} (ho : NoDefer o) (hrun : ∀ (E : Env) (act : Act), (∀ x, x ∈ o.op.operands → Rep E (st.val x) (act.eval x)) → ∃ v : Value, (∀ w, (execOp act.eval o).run P w = .ok (.value (.pointer (some ⟨w.heap.size, 0, none⟩))) (w.alloc (.cells v.cells t))) ∧ Reps E cs v.cells.toList ∧ One v.cells.toList) :
    OpOk P o st (.ptr st.nx 0) (st.new (.fix t cs)) := by
  refine ⟨.new st _, rfl, fun r FP E act w K Q hwf hcov hfree hS hx hk => ?_⟩
  obtain ⟨v, hr, hR, hone⟩ := hrun E act hx
  have hnx : ¬ E.dom st.nx := hfree st.nx (Nat.le_refl _) (Nat.lt_succ_self _)
  have hF : FP st.nx := hcov st.nx (.inr (.inr ⟨Nat.le_refl _, Nat.lt_succ_self _⟩))
  have hl := Env.le_add (E := E) hnx w.heap.size 0 0 false
  refine op_value ho (hr w) (hk (E.add st.nx w.heap.size 0 0 false) _ _ ?_ ?_)
  · have : (E.add st.nx w.heap.size 0 0 false).ρ st.nx = w.heap.size := by simp [Env.add]
    have hd : (E.add st.nx w.heap.size 0 0 false).dom st.nx := Or.inl rfl
    have := Rep.ptr (off := 0) hd
    rwa [‹(E.add st.nx w.heap.size 0 0 false).ρ st.nx = w.heap.size›] at this
  · have hB : BlkR (E.add st.nx w.heap.size 0 0 false) st.nx (.fix t cs) (some (.cells v.cells t (0, 0))) := ⟨by simp [Env.add], _, rfl, hR.mono hl, hone⟩
    exact Pst.alloc hS hnx hF (mem_ins.2 (.inl rfl)) hB (fun y => hget_new y)
theorem alloc_ok {t : TypeId} {cs : List AV} (ho : o.op = .alloc t) (hz : zeroO P t = some cs) : OpOk P o st (.ptr st.nx 0) (st.new (.fix t cs)) := by
  obtain ⟨i, z, hi, hzz, rfl, hone⟩ := zero_info hz
  refine new_var (nd_of ho (by simp)) fun E act _ => ⟨z, fun w => ?_, .lits _ hone, hone⟩
  unfold execOp
  rw [ho]
  simp [Instr.alloc, zeroValue, typeInfo, hi, hzz, newVar, newRow]
theorem box_ok {t : TypeId} {x : Operand} (ho : o.op = .box t x) (hb : badA (st.val x) = false) : OpOk P o st (.ptr st.nx 0) (st.new (.fix t (cellsA (st.val x)))) := by
  refine new_var (nd_of ho (by simp)) fun E act hx => ?_
  obtain ⟨h1, h2⟩ := cellsR (hx x (by rw [ho]; exact mem1)) hb
  refine ⟨act.eval x, fun w => ?_, h1, h2⟩
  unfold execOp
  rw [ho]
  simp [Instr.box, newVar, newRow]
/-! Scalars. -/
theorem un1_ok {x : Operand} {f : Value → Sem Value} (hd : NoDefer o) (hm : x ∈ o.op.operands) (he : ∀ ρ : Operand → Value, execOp ρ o = do pure (.value (← f (ρ x)))) (h : (un1 P (st.val x) f st).hit (a, st')) : OpOk P o st a st' := by
  unfold un1 at h
  split at h
  · rename_i v l hs
    split at h
    · rename_i r hr
      cases h
      refine quiet_of hd fun E act hx => ⟨r, fun w => ?_, litOr_rep l r⟩
      obtain ⟨hv, _⟩ := scal_rep hs (hx x hm)
      rw [he, hv]
      simp [semVal_run hr w]
    · exact h.elim
  · exact h.elim
theorem conv_ok {src dst : TypeId} {x : Operand} (ho : o.op = .convert src dst x) (hd : NoDefer o) (h : (convA P src dst (st.val x) st).hit (a, st')) : OpOk P o st a st' := by
  have hm : x ∈ o.op.operands := by rw [ho]; exact mem1
  have he : ∀ ρ : Operand → Value, execOp ρ o = (do pure (.value (← convert src dst (ρ x)))) := fun ρ => by unfold execOp; rw [ho]
  unfold convA at h
  split at h
  · rename_i s b k hs hdst hsrc
    obtain ⟨h0, h⟩ := h
    cases h
    obtain ⟨n, hn⟩ := Option.isSome_iff_exists.1 h0
    refine quiet_of hd fun E act hx => ⟨.int k n, fun w => ?_, by rw [hn]; exact .v _ rfl⟩
    obtain ⟨hv, _⟩ := scal_rep hs (hx x hm)
    rw [he, hv]
    simp [run_convert_float_int (P := P) w src dst s k b n hsrc hdst hn]
  · exact un1_ok hd hm he h
theorem semVal_bind {α β : Type} {s : Sem α} {f : α → Sem β} {r : β} (h : semVal P (s.bind f) = some r) : ∃ x, semVal P s = some x ∧ semVal P (f x) = some r := by
  induction s with
  | pure b => exact ⟨b, rfl, h⟩
  | program k ih => simp only [Sem.bind, semVal] at h ⊢; exact ih P h
  | mark m k ih => simp only [Sem.bind, semVal] at h ⊢; exact ih h
  | _ => simp [Sem.bind, semVal] at h
theorem addOff_rep {x r : AV} {n : Nat} (h : addOff x n = some r) {v : Value} (hv : Rep E x v) : ∃ ad : Addr, v = .pointer (some ad) ∧ Rep E r (.pointer (some (ad.add n))) := by
  have hadd : ∀ b off : Nat, (⟨b, off, none⟩ : Addr).add n = ⟨b, off + n, none⟩ := fun b off => by unfold Addr.add; split <;> simp_all
  cases x <;> simp only [addOff, Option.some.injEq, reduceCtorEq] at h
  · subst h; obtain ⟨hd, rfl⟩ := rep_ptr hv; exact ⟨_, rfl, by rw [hadd]; exact .ptr hd⟩
  · subst h; obtain ⟨hd, h0, h1, rfl⟩ := rep_pti hv; exact ⟨_, rfl, by rw [hadd, Nat.add_assoc]; exact .pti hd h0 h1⟩
  · subst h; obtain ⟨hd, rfl⟩ := rep_pe hv; exact ⟨_, rfl, by rw [hadd, Nat.add_assoc]; exact .pe hd⟩
  · subst h; obtain ⟨b, base, c, h1, h2, h3, h4, rfl⟩ := rep_fz hv; exact ⟨_, rfl, by rw [hadd, Nat.add_assoc]; exact .fz h1 h2 h3 h4⟩
theorem fieldAddr_ok {s : TypeId} {x : Operand} {f : Nat} (ho : o.op = .fieldAddr s x f) (h : (pureA (fieldAddrA P s (st.val x) f) st).hit (a, st')) : OpOk P o st a st' := by
  unfold pureA at h
  split at h
  · rename_i r hr
    cases h
    unfold fieldAddrA at hr
    split at hr
    · rename_i fs hu
      split at hr
      · rename_i fd hf
        split at hr
        · rename_i n hs
          refine quiet_of (nd_of ho (by simp)) fun E act hx => ?_
          obtain ⟨ad, he, hR⟩ := addOff_rep hr (hx x (by rw [ho]; exact mem1))
          refine ⟨_, fun w => ?_, hR⟩
          unfold execOp
          rw [ho]
          simp [Instr.fieldAt, run_underlying hu, hf, he, Instr.sureAddr, fieldPlace, run_size hs]
        · cases hr
      · cases hr
    · cases hr
  · exact h.elim
theorem part_cut {t : TypeId} {n off : Nat} {ag : Bool} (hs : sizeO P t = some n) (ha : aggO P t = some ag) {cs : List AV} {r : AV} {c : Array Value} (hR : Reps E cs c.toList) (ho : One c.toList) (hc : cut cs off n ag = some r) :
    ∃ v, (∀ w, (part t c off).run P w = .ok v w) ∧ Rep E r v := by
  obtain ⟨k1, k2⟩ := cut_ok hc hR ho
  cases ag with
  | true =>
    refine ⟨.agg (c.extract off (off + n)), fun w => ?_, ?_⟩
    · simp [part, run_agg ha, run_size hs]
    · have := k1 rfl
      have e : c.extract off (off + n) = ((c.toList.drop off).take n).toArray := by
        apply Array.ext'
        simp [Array.toList_extract, List.extract]
      rw [e]; exact this
  | false =>
    obtain ⟨hn, v, hv, hr⟩ := k2 rfl
    refine ⟨v, fun w => ?_, hr⟩
    rw [Array.getElem?_toList] at hv
    simp [part, run_agg ha, hv]
theorem field_ok {s : TypeId} {x : Operand} {f : Nat} (ho : o.op = .field s x f) (h : (pureA (fieldA P s (st.val x) f) st).hit (a, st')) : OpOk P o st a st' := by
  unfold pureA at h
  split at h
  · rename_i r hr
    cases h
    unfold fieldA at hr
    split at hr
    · rename_i fs cs hu hv
      split at hr
      · rename_i fd hf
        split at hr
        · rename_i n ag hs ha
          refine quiet_of (nd_of ho (by simp)) fun E act hx => ?_
          have hx0 := hx x (by rw [ho]; exact mem1)
          rw [hv] at hx0
          obtain ⟨c, he, hR, hone⟩ : ∃ c : Array Value, act.eval x = .agg c ∧ Reps E cs c.toList ∧ One c.toList := by
            generalize act.eval x = u at hx0
            cases hx0; exact ⟨_, rfl, ‹_›, ‹_›⟩
          obtain ⟨v, hp, hR'⟩ := part_cut (P := P) hs ha hR hone hr
          refine ⟨v, fun w => ?_, hR'⟩
          unfold execOp
          rw [ho]
          simp [Instr.field, run_underlying hu, hf, he, asAgg, hp w]
        · cases hr
      · cases hr
    · cases hr
  · exact h.elim
theorem intOf_rep {a : AV} {z : Int} {l : Bool} (h : intOf a = some (z, l)) {v : Value} (hv : Rep E a v) : ∃ k, v = .int k z := by
  unfold intOf at h
  split at h
  · cases h; cases hv; exact ⟨_, rfl⟩
  · cases h; cases hv; exact ⟨_, rfl⟩
  · cases h
theorem indexAddr_ok {t : TypeId} {x i : Operand} (ho : o.op = .indexAddr t x i) (h : (withSt st (indexAddrA P t (st.val x) (st.val i))).hit (a, st')) : OpOk P o st a st' := by
  have key : ∀ r, (indexAddrA P t (st.val x) (st.val i)).hit r → OpOk P o st r st := by
    intro r h
    have hmx : x ∈ o.op.operands := by rw [ho]; simp [Op.operands]
    have hmi : i ∈ o.op.operands := by rw [ho]; simp [Op.operands]
    have hd : NoDefer o := nd_of ho (by simp)
    have hadd : ∀ b off n : Nat, (⟨b, off, none⟩ : Addr).add n = ⟨b, off + n, none⟩ := fun b off n => by unfold Addr.add; split <;> simp_all
    unfold indexAddrA at h
    split at h
    · rename_i len elem z lt hu hz
      split at h
      · rename_i k hs
        split at h
        · rename_i hb
          simp only [Bool.and_eq_true, decide_eq_true_eq] at hb
          unfold ofO at h
          split at h
          · rename_i r' hr
            cases h
            refine quiet_of hd fun E act hx => ?_
            obtain ⟨ad, he, hR⟩ := addOff_rep hr (hx x hmx)
            obtain ⟨kk, hi⟩ := intOf_rep hz (hx i hmi)
            refine ⟨_, fun w => ?_, hR⟩
            unfold execOp
            rw [ho]
            simp [Instr.indexAt, hi, asIntOf, run_underlying hu, he, Instr.sureAddr, hb.1, hb.2, run_size hs]
          · exact h.elim
        · exact h.elim
      · rename_i k hs
        split at h
        · rename_i b off hv
          obtain ⟨⟨h0, h1⟩, h⟩ := h
          cases h
          refine quiet_of hd fun E act hx => ?_
          obtain ⟨hdm, he⟩ := rep_ptr (hv ▸ hx x hmx)
          obtain ⟨kk, hi⟩ := intOf_rep hz (hx i hmi)
          refine ⟨.pointer (some ⟨E.ρ b, off + z.toNat * k + 0, none⟩), fun w => ?_, .pti hdm h0 h1⟩
          unfold execOp
          rw [ho]
          simp [Instr.indexAt, hi, asIntOf, run_underlying hu, he, Instr.sureAddr, h0, h1, run_size hs, hadd]
        · exact h.elim
      · exact h.elim
    · rename_i elem z lt hu hz
      split at h
      · rename_i k hs
        have run : ∀ (act : Act) (E : Env) (bse : Option Addr) (n c : Nat) (ad : Addr), Rep E (st.val i) (act.eval i) → act.eval x = .slice bse n c → bse = some ad → 0 ≤ z → z < (n : Int) → ∀ w, (execOp act.eval o).run P w = .ok (.value (.pointer (some (ad.add (z.toNat * k))))) w := by
          intro act E bse n c ad hxi he hbse h0 h1 w
          obtain ⟨kk, hi⟩ := intOf_rep hz hxi
          subst hbse
          unfold execOp
          rw [ho]
          simp [Instr.indexAt, hi, asIntOf, run_underlying hu, he, h0, h1, run_size hs]
        split at h
        · rename_i n k' get nl full hv
          split at h
          · rename_i hk
            obtain rfl := Nat.eq_of_beq_eq_true hk
            obtain ⟨h0, h1, h⟩ := within_hit h
            cases h
            refine quiet_of hd fun E act hx => ?_
            have hx0 := hx x hmx
            rw [hv] at hx0
            have hj : z.toNat < n := by omega
            generalize he : act.eval x = u at hx0
            cases hx0 with
            | slNil hn => omega
            | slEmp hn _ => omega
            | sl g1 g2 g3 g4 g5 g6 =>
              refine ⟨_, fun w => run act E _ _ _ _ (hx i hmi) he rfl h0 h1 w, ?_⟩
              rw [hadd]
              have hR := g5 z.toNat hj
              have hlen : (get z.toNat).length = k := by rw [hR.len, seg_len hj g2]
              have := Rep.fz (off := 0) g1 (cs := get z.toNat) (base := _ + z.toNat * k) (by rw [hlen]; exact seg_le hj g2) (by rw [hlen]; exact hR) (by rw [hlen]; exact one_seg hj g6)
              exact this
          · exact h.elim
        · rename_i y n k' nl hv
          split at h
          · rename_i hk
            obtain rfl := Nat.eq_of_beq_eq_true hk
            obtain ⟨h0, h1, h⟩ := within_hit h
            cases h
            refine quiet_of hd fun E act hx => ?_
            have hx0 := hx x hmx
            rw [hv] at hx0
            generalize he : act.eval x = u at hx0
            cases hx0 with
            | ownNil _ _ hn _ => omega
            | own g1 g2 _ =>
              refine ⟨_, fun w => run act E _ _ _ _ (hx i hmi) he rfl h0 h1 w, ?_⟩
              rw [hadd, Nat.zero_add]
              exact .pe (off := 0) g1
          · exact h.elim
        · rename_i y off n k' hv
          split at h
          · rename_i hk
            obtain rfl := Nat.eq_of_beq_eq_true hk
            split at h
            · rename_i hb
              simp only [Bool.and_eq_true, decide_eq_true_eq] at hb
              cases h
              refine quiet_of hd fun E act hx => ?_
              have hx0 := hx x hmx
              rw [hv] at hx0
              generalize he : act.eval x = u at hx0
              cases hx0 with
              | slv g1 =>
                refine ⟨_, fun w => run act E _ _ _ _ (hx i hmi) he rfl hb.1 hb.2 w, ?_⟩
                rw [hadd]
                exact .ptr g1
            · exact h.elim
          · rename_i hk
            obtain rfl := Nat.eq_of_beq_eq_true hk
            obtain ⟨⟨h0, h1⟩, h⟩ := h
            cases h
            refine quiet_of hd fun E act hx => ?_
            have hx0 := hx x hmx
            rw [hv] at hx0
            generalize he : act.eval x = u at hx0
            cases hx0 with
            | slv g1 =>
              refine ⟨_, fun w => run act E _ _ _ _ (hx i hmi) he rfl h0 h1 w, ?_⟩
              rw [hadd]
              exact .pti (off := 0) g1 h0 h1
          · exact h.elim
        · exact h.elim
      · exact h.elim
    · exact h.elim
  unfold withSt at h
  generalize indexAddrA P t (st.val x) (st.val i) = T at h key
  have bnd : ∀ T : Tree AV, (T.bind (fun a => Tree.ret (a, st))).hit (a, st') → T.hit a ∧ st' = st := by
    intro T
    induction T with
    | ret b => intro h; cases h; exact ⟨rfl, rfl⟩
    | br c t e ih1 ih2 =>
      rintro (⟨h1, h2⟩ | ⟨h1, h2⟩)
      · exact ⟨.inl ⟨h1, (ih1 h2).1⟩, (ih1 h2).2⟩
      · exact ⟨.inr ⟨h1, (ih2 h2).1⟩, (ih2 h2).2⟩
    | side p t ih => rintro ⟨h1, h2⟩; exact ⟨⟨h1, (ih h2).1⟩, (ih h2).2⟩
    | fail => exact fun h => h.elim
  obtain ⟨h1, rfl⟩ := bnd T h
  exact key a h1
end
end Go.Proofs.YtdlghljhgbakjaaDoor
