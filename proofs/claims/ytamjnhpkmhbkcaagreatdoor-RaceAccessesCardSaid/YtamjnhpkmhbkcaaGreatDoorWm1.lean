/-
  PARTS, one behind the other: N7 N8 N9 NA NB NC ND NE NF NFB.
-/
import Derived.Test.YtamjnhpkmhbkcaaGreatDoorWm0
import Derived.Laws.StructEq
import Derived.LaidEqlPtr
import Derived.Laws.Append
import Derived.Laws.BytesArg
import Derived.Laws.IdiomStrings
/-
  PART: operations that leave memory alone, and new variables.
-/
namespace Go.Proofs.YtamjnhpkmhbkcaaGreatDoor
open Go.RowKit

section
variable {P : Program} {o : Oper} {st st' : St} {a : AV} {w : World} {E : Env}
theorem semVal_run {α : Type} {s : Sem α} {x : α} (h : semVal P s = some x) (w : World) : s.run P w = .ok x w := by
  induction s with
  | pure b => simp [semVal] at h; subst h; rfl
  | program k ih => simp only [semVal] at h; exact ih P h
  | mark m k ih => simp only [semVal] at h; exact ih h
  | _ => simp [semVal] at h
theorem nd_of {x : Op} (ho : o.op = x) (hx : ∀ c, x ≠ .defer c) : NoDefer o := fun c h => hx c (ho ▸ h)
theorem litOr_rep (l : Bool) (v : Value) : Rep E (litOr l v) v := by
  unfold litOr
  split
  · rename_i h; cases l
    · exact .v v h
    · exact .lit v h
  · exact .unk v
/-- An operation that answers by a computation that looks at no memory. -/
theorem quiet_of {st : St} {a : AV} (hd : NoDefer o) (h : ∀ (E : Env) (act : Act), (∀ x, x ∈ o.op.operands → Rep E (st.val x) (act.eval x)) → ∃ v, (∀ w, (execOp act.eval o).run P w = .ok (.value v) w) ∧ Rep E a v) : OpOk P o st a st :=
  .quiet hd (.refl st) rfl rfl rfl fun _ E act w _ _ hx => let ⟨v, hr, hv⟩ := h E act hx; ⟨v, hr w, hv⟩
theorem move_ok {x : Operand} (ho : o.op = .move x ∨ o.op = .assign x) : OpOk P o st (st.val x) st := by
  refine quiet_of (fun c h => by rcases ho with ho | ho <;> (rw [ho] at h; cases h)) fun E act hx => ⟨act.eval x, fun w => ?_, hx x (by rcases ho with ho | ho <;> (rw [ho]; exact mem1))⟩
  unfold execOp
  rcases ho with ho | ho <;> (rw [ho]; rfl)
theorem boolOf_rep {a : AV} {b l : Bool} (h : boolOf a = some (b, l)) {v : Value} (hv : Rep E a v) : v = .bool b := by
  unfold boolOf at h
  split at h
  · cases h; cases hv; rfl
  · cases h; cases hv; rfl
  · cases h
theorem pick_ok {c x y : Operand} {e : Bool} (ho : o.op = .pick c x y) (hc : ∃ l, boolOf (st.val c) = some (e, l)) {r : AV} (hr : ∀ (E : Env) v, (if e = true then Rep E (st.val x) v else Rep E (st.val y) v) → Rep E r v) : OpOk P o st r st := by
  obtain ⟨l, hc⟩ := hc
  refine quiet_of (nd_of ho (by simp)) fun E act hx => ⟨if e then act.eval x else act.eval y, fun w => ?_, hr E _ ?_⟩
  · have := boolOf_rep hc (hx c (by rw [ho]; simp [Op.operands]))
    unfold execOp
    rw [ho]
    simp [asBool, this]
  · have h1 := hx x (by rw [ho]; simp [Op.operands])
    have h2 := hx y (by rw [ho]; simp [Op.operands])
    cases e <;> simpa
/-! New variables. -/
theorem zero_info {t : TypeId} {cs : List AV} (h : zeroO P t = some cs) : ∃ i z, P.info? t = some i ∧ i.zero = some z ∧ cs = z.cells.toList.map .lit ∧ One z.cells.toList := by
  unfold zeroO at h
  split at h
  · rename_i i hi
    split at h
    · rename_i z hz
      split at h
      · rename_i ha; cases h; exact ⟨i, z, hi, hz, rfl, one_of_all ha⟩
      · cases h
    · cases h
  · cases h
theorem new_var {t : TypeId} {cs : List AV} (ho : NoDefer o) (hrun : ∀ (E : Env) (act : Act), (∀ x, x ∈ o.op.operands → Rep E (st.val x) (act.eval x)) → ∃ v : Value, (∀ w, (execOp act.eval o).run P w = .ok (.value (.pointer (some ⟨w.heap.size, 0, none⟩))) (w.alloc (.cells v.cells t))) ∧ Reps E cs v.cells.toList ∧ One v.cells.toList) :
    OpOk P o st (.ptr st.nx 0) (st.new (.fix t cs)) := by
  refine ⟨.new st _, rfl, fun r FP E act w K Q hwf hcov hfree hS hx hk => ?_⟩
  obtain ⟨v, hr, hR, hone⟩ := hrun E act hx
  have hnx : ¬ E.dom st.nx := hfree st.nx (Nat.le_refl _) (Nat.lt_succ_self _)
  have hF : FP st.nx := hcov st.nx (.inr (.inr ⟨Nat.le_refl _, Nat.lt_succ_self _⟩))
  have hl := Env.le_add (E := E) hnx w.heap.size 0 0 false
  refine op_value ho (hr w) (hk (E.add st.nx w.heap.size 0 0 false) _ _ ?_ ?_)
  · have : (E.add st.nx w.heap.size 0 0 false).ρ st.nx = w.heap.size := by simp [Env.add]
    have hd : (E.add st.nx w.heap.size 0 0 false).dom st.nx := Or.inl rfl
    have := Rep.ptr (off := 0) hd
    rwa [‹(E.add st.nx w.heap.size 0 0 false).ρ st.nx = w.heap.size›] at this
  · have hB : BlkR (E.add st.nx w.heap.size 0 0 false) st.nx (.fix t cs) (some (.cells v.cells t (0, 0))) := ⟨by simp [Env.add], _, rfl, hR.mono hl, hone⟩
    exact Pst.alloc hS hnx hF (mem_ins.2 (.inl rfl)) hB (fun y => hget_new y)
theorem alloc_ok {t : TypeId} {cs : List AV} (ho : o.op = .alloc t) (hz : zeroO P t = some cs) : OpOk P o st (.ptr st.nx 0) (st.new (.fix t cs)) := by
  obtain ⟨i, z, hi, hzz, rfl, hone⟩ := zero_info hz
  refine new_var (nd_of ho (by simp)) fun E act _ => ⟨z, fun w => ?_, .lits _ hone, hone⟩
  unfold execOp
  rw [ho]
  simp [Instr.alloc, zeroValue, typeInfo, hi, hzz, newVar, newRow]
theorem box_ok {t : TypeId} {x : Operand} (ho : o.op = .box t x) (hb : badA (st.val x) = false) : OpOk P o st (.ptr st.nx 0) (st.new (.fix t (cellsA (st.val x)))) := by
  refine new_var (nd_of ho (by simp)) fun E act hx => ?_
  obtain ⟨h1, h2⟩ := cellsR (hx x (by rw [ho]; exact mem1)) hb
  refine ⟨act.eval x, fun w => ?_, h1, h2⟩
  unfold execOp
  rw [ho]
  simp [Instr.box, newVar, newRow]
/-! Scalars. -/
theorem un1_ok {x : Operand} {f : Value → Sem Value} (hd : NoDefer o) (hm : x ∈ o.op.operands) (he : ∀ ρ : Operand → Value, execOp ρ o = do pure (.value (← f (ρ x)))) (h : (un1 P (st.val x) f st).hit (a, st')) : OpOk P o st a st' := by
  unfold un1 at h
  split at h
  · rename_i v l hs
    split at h
    · rename_i r hr
      cases h
      refine quiet_of hd fun E act hx => ⟨r, fun w => ?_, litOr_rep l r⟩
      obtain ⟨hv, _⟩ := scal_rep hs (hx x hm)
      rw [he, hv]
      simp [semVal_run hr w]
    · exact h.elim
  · exact h.elim
theorem conv_ok {src dst : TypeId} {x : Operand} (ho : o.op = .convert src dst x) (hd : NoDefer o) (h : (convA P src dst (st.val x) st).hit (a, st')) : OpOk P o st a st' := by
  have hm : x ∈ o.op.operands := by rw [ho]; exact mem1
  have he : ∀ ρ : Operand → Value, execOp ρ o = (do pure (.value (← convert src dst (ρ x)))) := fun ρ => by unfold execOp; rw [ho]
  unfold convA at h
  split at h
  · rename_i s b k hs hdst hsrc
    obtain ⟨h0, h⟩ := h
    cases h
    obtain ⟨n, hn⟩ := Option.isSome_iff_exists.1 h0
    refine quiet_of hd fun E act hx => ⟨.int k n, fun w => ?_, by rw [hn]; exact .v _ rfl⟩
    obtain ⟨hv, _⟩ := scal_rep hs (hx x hm)
    rw [he, hv]
    simp [run_convert_float_int (P := P) w src dst s k b n hsrc hdst hn]
  · exact un1_ok hd hm he h
theorem semVal_bind {α β : Type} {s : Sem α} {f : α → Sem β} {r : β} (h : semVal P (s.bind f) = some r) : ∃ x, semVal P s = some x ∧ semVal P (f x) = some r := by
  induction s with
  | pure b => exact ⟨b, rfl, h⟩
  | program k ih => simp only [Sem.bind, semVal] at h ⊢; exact ih P h
  | mark m k ih => simp only [Sem.bind, semVal] at h ⊢; exact ih h
  | _ => simp [Sem.bind, semVal] at h
theorem addOff_rep {x r : AV} {n : Nat} (h : addOff x n = some r) {v : Value} (hv : Rep E x v) : ∃ ad : Addr, v = .pointer (some ad) ∧ Rep E r (.pointer (some (ad.add n))) := by
  have hadd : ∀ b off : Nat, (⟨b, off, none⟩ : Addr).add n = ⟨b, off + n, none⟩ := fun b off => by unfold Addr.add; split <;> simp_all
  cases x <;> simp only [addOff, Option.some.injEq, reduceCtorEq] at h
  · subst h; obtain ⟨hd, rfl⟩ := rep_ptr hv; exact ⟨_, rfl, by rw [hadd]; exact .ptr hd⟩
  · subst h; obtain ⟨hd, h0, h1, rfl⟩ := rep_pti hv; exact ⟨_, rfl, by rw [hadd, Nat.add_assoc]; exact .pti hd h0 h1⟩
  · subst h; obtain ⟨hd, rfl⟩ := rep_pe hv; exact ⟨_, rfl, by rw [hadd, Nat.add_assoc]; exact .pe hd⟩
  · subst h; obtain ⟨b, base, c, h1, h2, h3, h4, rfl⟩ := rep_fz hv; exact ⟨_, rfl, by rw [hadd, Nat.add_assoc]; exact .fz h1 h2 h3 h4⟩
theorem fieldAddr_ok {s : TypeId} {x : Operand} {f : Nat} (ho : o.op = .fieldAddr s x f) (h : (pureA (fieldAddrA P s (st.val x) f) st).hit (a, st')) : OpOk P o st a st' := by
  unfold pureA at h
  split at h
  · rename_i r hr
    cases h
    unfold fieldAddrA at hr
    split at hr
    · rename_i fs hu
      split at hr
      · rename_i fd hf
        split at hr
        · rename_i n hs
          refine quiet_of (nd_of ho (by simp)) fun E act hx => ?_
          obtain ⟨ad, he, hR⟩ := addOff_rep hr (hx x (by rw [ho]; exact mem1))
          refine ⟨_, fun w => ?_, hR⟩
          unfold execOp
          rw [ho]
          simp [Instr.fieldAt, run_underlying hu, hf, he, Instr.sureAddr, fieldPlace, run_size hs]
        · cases hr
      · cases hr
    · cases hr
  · exact h.elim
theorem part_cut {t : TypeId} {n off : Nat} {ag : Bool} (hs : sizeO P t = some n) (ha : aggO P t = some ag) {cs : List AV} {r : AV} {c : Array Value} (hR : Reps E cs c.toList) (ho : One c.toList) (hc : cut cs off n ag = some r) :
    ∃ v, (∀ w, (part t c off).run P w = .ok v w) ∧ Rep E r v := by
  obtain ⟨k1, k2⟩ := cut_ok hc hR ho
  cases ag with
  | true =>
    refine ⟨.agg (c.extract off (off + n)), fun w => ?_, ?_⟩
    · simp [part, run_agg ha, run_size hs]
    · have := k1 rfl
      have e : c.extract off (off + n) = ((c.toList.drop off).take n).toArray := by
        apply Array.ext'
        simp [Array.toList_extract, List.extract]
      rw [e]; exact this
  | false =>
    obtain ⟨hn, v, hv, hr⟩ := k2 rfl
    refine ⟨v, fun w => ?_, hr⟩
    rw [Array.getElem?_toList] at hv
    simp [part, run_agg ha, hv]
theorem field_ok {s : TypeId} {x : Operand} {f : Nat} (ho : o.op = .field s x f) (h : (pureA (fieldA P s (st.val x) f) st).hit (a, st')) : OpOk P o st a st' := by
  unfold pureA at h
  split at h
  · rename_i r hr
    cases h
    unfold fieldA at hr
    split at hr
    · rename_i fs cs hu hv
      split at hr
      · rename_i fd hf
        split at hr
        · rename_i n ag hs ha
          refine quiet_of (nd_of ho (by simp)) fun E act hx => ?_
          have hx0 := hx x (by rw [ho]; exact mem1)
          rw [hv] at hx0
          obtain ⟨c, he, hR, hone⟩ : ∃ c : Array Value, act.eval x = .agg c ∧ Reps E cs c.toList ∧ One c.toList := by
            generalize act.eval x = u at hx0
            cases hx0; exact ⟨_, rfl, ‹_›, ‹_›⟩
          obtain ⟨v, hp, hR'⟩ := part_cut (P := P) hs ha hR hone hr
          refine ⟨v, fun w => ?_, hR'⟩
          unfold execOp
          rw [ho]
          simp [Instr.field, run_underlying hu, hf, he, asAgg, hp w]
        · cases hr
      · cases hr
    · cases hr
  · exact h.elim
theorem intOf_rep {a : AV} {z : Int} {l : Bool} (h : intOf a = some (z, l)) {v : Value} (hv : Rep E a v) : ∃ k, v = .int k z := by
  unfold intOf at h
  split at h
  · cases h; cases hv; exact ⟨_, rfl⟩
  · cases h; cases hv; exact ⟨_, rfl⟩
  · cases h
theorem indexAddr_ok {t : TypeId} {x i : Operand} (ho : o.op = .indexAddr t x i) (h : (withSt st (indexAddrA P t (st.val x) (st.val i))).hit (a, st')) : OpOk P o st a st' := by
  have key : ∀ r, (indexAddrA P t (st.val x) (st.val i)).hit r → OpOk P o st r st := by
    intro r h
    have hmx : x ∈ o.op.operands := by rw [ho]; simp [Op.operands]
    have hmi : i ∈ o.op.operands := by rw [ho]; simp [Op.operands]
    have hd : NoDefer o := nd_of ho (by simp)
    have hadd : ∀ b off n : Nat, (⟨b, off, none⟩ : Addr).add n = ⟨b, off + n, none⟩ := fun b off n => by unfold Addr.add; split <;> simp_all
    unfold indexAddrA at h
    split at h
    · rename_i len elem z lt hu hz
      split at h
      · rename_i k hs
        split at h
        · rename_i hb
          simp only [Bool.and_eq_true, decide_eq_true_eq] at hb
          unfold ofO at h
          split at h
          · rename_i r' hr
            cases h
            refine quiet_of hd fun E act hx => ?_
            obtain ⟨ad, he, hR⟩ := addOff_rep hr (hx x hmx)
            obtain ⟨kk, hi⟩ := intOf_rep hz (hx i hmi)
            refine ⟨_, fun w => ?_, hR⟩
            unfold execOp
            rw [ho]
            simp [Instr.indexAt, hi, asIntOf, run_underlying hu, he, Instr.sureAddr, hb.1, hb.2, run_size hs]
          · exact h.elim
        · exact h.elim
      · rename_i k hs
        split at h
        · rename_i b off hv
          obtain ⟨⟨h0, h1⟩, h⟩ := h
          cases h
          refine quiet_of hd fun E act hx => ?_
          obtain ⟨hdm, he⟩ := rep_ptr (hv ▸ hx x hmx)
          obtain ⟨kk, hi⟩ := intOf_rep hz (hx i hmi)
          refine ⟨.pointer (some ⟨E.ρ b, off + z.toNat * k + 0, none⟩), fun w => ?_, .pti hdm h0 h1⟩
          unfold execOp
          rw [ho]
          simp [Instr.indexAt, hi, asIntOf, run_underlying hu, he, Instr.sureAddr, h0, h1, run_size hs, hadd]
        · exact h.elim
      · exact h.elim
    · rename_i elem z lt hu hz
      split at h
      · rename_i k hs
        have run : ∀ (act : Act) (E : Env) (bse : Option Addr) (n c : Nat) (ad : Addr), Rep E (st.val i) (act.eval i) → act.eval x = .slice bse n c → bse = some ad → 0 ≤ z → z < (n : Int) → ∀ w, (execOp act.eval o).run P w = .ok (.value (.pointer (some (ad.add (z.toNat * k))))) w := by
          intro act E bse n c ad hxi he hbse h0 h1 w
          obtain ⟨kk, hi⟩ := intOf_rep hz hxi
          subst hbse
          unfold execOp
          rw [ho]
          simp [Instr.indexAt, hi, asIntOf, run_underlying hu, he, h0, h1, run_size hs]
        split at h
        · rename_i n k' get nl full hv
          split at h
          · rename_i hk
            obtain rfl := Nat.eq_of_beq_eq_true hk
            obtain ⟨h0, h1, h⟩ := within_hit h
            cases h
            refine quiet_of hd fun E act hx => ?_
            have hx0 := hx x hmx
            rw [hv] at hx0
            have hj : z.toNat < n := by omega
            generalize he : act.eval x = u at hx0
            cases hx0 with
            | slNil hn => omega
            | slEmp hn _ => omega
            | sl g1 g2 g3 g4 g5 g6 =>
              refine ⟨_, fun w => run act E _ _ _ _ (hx i hmi) he rfl h0 h1 w, ?_⟩
              rw [hadd]
              have hR := g5 z.toNat hj
              have hlen : (get z.toNat).length = k := by rw [hR.len, seg_len hj g2]
              have := Rep.fz (off := 0) g1 (cs := get z.toNat) (base := _ + z.toNat * k) (by rw [hlen]; exact seg_le hj g2) (by rw [hlen]; exact hR) (by rw [hlen]; exact one_seg hj g6)
              exact this
          · exact h.elim
        · rename_i y n k' nl hv
          split at h
          · rename_i hk
            obtain rfl := Nat.eq_of_beq_eq_true hk
            obtain ⟨h0, h1, h⟩ := within_hit h
            cases h
            refine quiet_of hd fun E act hx => ?_
            have hx0 := hx x hmx
            rw [hv] at hx0
            generalize he : act.eval x = u at hx0
            cases hx0 with
            | ownNil _ _ hn _ => omega
            | own g1 g2 _ =>
              refine ⟨_, fun w => run act E _ _ _ _ (hx i hmi) he rfl h0 h1 w, ?_⟩
              rw [hadd, Nat.zero_add]
              exact .pe (off := 0) g1
          · exact h.elim
        · rename_i y off n k' hv
          split at h
          · rename_i hk
            obtain rfl := Nat.eq_of_beq_eq_true hk
            split at h
            · rename_i hb
              simp only [Bool.and_eq_true, decide_eq_true_eq] at hb
              cases h
              refine quiet_of hd fun E act hx => ?_
              have hx0 := hx x hmx
              rw [hv] at hx0
              generalize he : act.eval x = u at hx0
              cases hx0 with
              | slv g1 =>
                refine ⟨_, fun w => run act E _ _ _ _ (hx i hmi) he rfl hb.1 hb.2 w, ?_⟩
                rw [hadd]
                exact .ptr g1
            · exact h.elim
          · rename_i hk
            obtain rfl := Nat.eq_of_beq_eq_true hk
            obtain ⟨⟨h0, h1⟩, h⟩ := h
            cases h
            refine quiet_of hd fun E act hx => ?_
            have hx0 := hx x hmx
            rw [hv] at hx0
            generalize he : act.eval x = u at hx0
            cases hx0 with
            | slv g1 =>
              refine ⟨_, fun w => run act E _ _ _ _ (hx i hmi) he rfl h0 h1 w, ?_⟩
              rw [hadd]
              exact .pti (off := 0) g1 h0 h1
          · exact h.elim
        · exact h.elim
      · exact h.elim
    · exact h.elim
  unfold withSt at h
  generalize indexAddrA P t (st.val x) (st.val i) = T at h key
  have bnd : ∀ T : Tree AV, (T.bind (fun a => Tree.ret (a, st))).hit (a, st') → T.hit a ∧ st' = st := by
    intro T
    induction T with
    | ret b => intro h; cases h; exact ⟨rfl, rfl⟩
    | br c t e ih1 ih2 =>
      rintro (⟨h1, h2⟩ | ⟨h1, h2⟩)
      · exact ⟨.inl ⟨h1, (ih1 h2).1⟩, (ih1 h2).2⟩
      · exact ⟨.inr ⟨h1, (ih2 h2).1⟩, (ih2 h2).2⟩
    | side p t ih => rintro ⟨h1, h2⟩; exact ⟨⟨h1, (ih h2).1⟩, (ih h2).2⟩
    | fail => exact fun h => h.elim
  obtain ⟨h1, rfl⟩ := bnd T h
  exact key a h1
end
end Go.Proofs.YtamjnhpkmhbkcaaGreatDoor

/-
  PART: more operations that leave memory alone: index, build, equality, arithmetic.
-/
namespace Go.Proofs.YtamjnhpkmhbkcaaGreatDoor
open Go.RowKit

section
variable {P : Program} {o : Oper} {st st' : St} {a : AV} {w : World} {E : Env}
theorem hit_withSt {T : Tree AV} (h : (withSt st T).hit (a, st')) : T.hit a ∧ st' = st := by
  unfold withSt at h
  induction T with
  | ret b => cases h; exact ⟨rfl, rfl⟩
  | br c t e ih1 ih2 =>
    rcases h with ⟨h1, h2⟩ | ⟨h1, h2⟩
    · exact ⟨.inl ⟨h1, (ih1 h2).1⟩, (ih1 h2).2⟩
    · exact ⟨.inr ⟨h1, (ih2 h2).1⟩, (ih2 h2).2⟩
  | side p t ih => obtain ⟨h1, h2⟩ := h; exact ⟨⟨h1, (ih h2).1⟩, (ih h2).2⟩
  | fail => exact h.elim
theorem hit_ofO {x : Option AV} {r : AV} (h : (ofO x).hit r) : x = some r := by
  cases x with
  | none => exact h.elim
  | some y => cases h; rfl
theorem hit_pureA {x : Option AV} (h : (pureA x st).hit (a, st')) : x = some a ∧ st' = st := by
  cases x with
  | none => exact h.elim
  | some y => cases h; exact ⟨rfl, rfl⟩
theorem rep_agg {l : List AV} {v : Value} (h : Rep E (.agg l) v) : ∃ c : Array Value, v = .agg c ∧ Reps E l c.toList ∧ One c.toList := by cases h; exact ⟨_, rfl, ‹_›, ‹_›⟩
theorem rep_str {s : ByteArray} {a : AV} (ha : a = .lit (.string s) ∨ a = .v (.string s)) {v : Value} (h : Rep E a v) : v = .string s := by
  rcases ha with rfl | rfl <;> (cases h; rfl)
theorem str_at (s : ByteArray) (i : Nat) (h : i < s.size) : s[i] = s.data.getD i 0 := by
  unfold Array.getD
  rw [dif_pos (show i < s.data.size from h)]
  rfl
theorem index_ok {t : TypeId} {x i : Operand} (ho : o.op = .index t x i) (h : (withSt st (indexA P t (st.val x) (st.val i))).hit (a, st')) : OpOk P o st a st' := by
  obtain ⟨h, rfl⟩ := hit_withSt h
  have hmx : x ∈ o.op.operands := by rw [ho]; simp [Op.operands]
  have hmi : i ∈ o.op.operands := by rw [ho]; simp [Op.operands]
  have hd : NoDefer o := nd_of ho (by simp)
  have str : ∀ (s : ByteArray) (z : Int) (lt : Bool) (ax : AV), P.underlying t = some .string → (ax = .lit (.string s) ∨ ax = .v (.string s)) → st'.val x = ax → intOf (st'.val i) = some (z, lt) → 0 ≤ z → z < (s.size : Int) → ∀ r : AV, (∀ E, Rep E r (.int .u8 (s.data.getD z.toNat 0).toNat)) → OpOk P o st' r st' := by
    intro s z lt ax hu hax hv hz h0 h1 r hr
    refine quiet_of hd fun E act hx => ⟨.int .u8 (s.data.getD z.toNat 0).toNat, fun w => ?_, hr E⟩
    obtain ⟨kk, hi⟩ := intOf_rep hz (hx i hmi)
    have he := rep_str hax (hv ▸ hx x hmx)
    have hlt : z.toNat < s.size := by omega
    have hg : s[z.toNat]? = some (s.data.getD z.toNat 0) := by
      rw [getElem?_pos s z.toNat hlt, str_at]
    unfold execOp
    rw [ho]
    simp [Instr.index, hi, asIntOf, run_underlying hu, he, h0, hg]
  unfold indexA at h
  split at h
  · rename_i len elem cs z lt hu hv hz
    split at h
    · rename_i k ag hs ha
      split at h
      · rename_i hb
        simp only [Bool.and_eq_true, decide_eq_true_eq] at hb
        have hc := hit_ofO h
        refine quiet_of hd fun E act hx => ?_
        obtain ⟨c, he, hR, hone⟩ := rep_agg (hv ▸ hx x hmx)
        obtain ⟨kk, hi⟩ := intOf_rep hz (hx i hmi)
        obtain ⟨v, hp, hr⟩ := part_cut (P := P) hs ha hR hone hc
        refine ⟨v, fun w => ?_, hr⟩
        unfold execOp
        rw [ho]
        simp [Instr.index, hi, asIntOf, run_underlying hu, he, hb.1, hb.2, run_size hs, hp w]
      · exact h.elim
    · rename_i k ag hs ha
      split at h
      · rename_i r hc
        obtain ⟨⟨h0, h1⟩, h⟩ := h
        cases h
        refine quiet_of hd fun E act hx => ?_
        obtain ⟨c, he, hR, hone⟩ := rep_agg (hv ▸ hx x hmx)
        obtain ⟨kk, hi⟩ := intOf_rep hz (hx i hmi)
        obtain ⟨a', hp, hpr⟩ := pickI_ok (E := E) hc h0 h1
        obtain ⟨v, hp, hr⟩ := part_cut (P := P) hs ha hR hone hp
        refine ⟨v, fun w => ?_, hpr v hr⟩
        unfold execOp
        rw [ho]
        simp [Instr.index, hi, asIntOf, run_underlying hu, he, h0, h1, run_size hs, hp w]
      · exact h.elim
    · exact h.elim
  · rename_i s z hu hv hz
    split at h
    · rename_i b hb
      cases h
      have h0 : 0 ≤ z := by
        rcases Int.lt_or_le z 0 with h | h
        · rw [if_neg (by omega)] at hb; cases hb
        · exact h
      rw [if_pos h0] at hb
      have hlt : z.toNat < s.size := by
        rcases Nat.lt_or_ge z.toNat s.size with h | h
        · exact h
        · rw [getElem?_neg s z.toNat (by omega)] at hb; cases hb
      rw [getElem?_pos s z.toNat hlt, str_at] at hb
      have hbb : b = s.data.getD z.toNat 0 := by cases hb; rfl
      exact str s z true _ hu (.inl rfl) hv hz h0 (by omega) _ (fun E => by rw [hbb]; exact .lit _ rfl)
    · exact h.elim
  · rename_i s z hu hv hz
    obtain ⟨⟨h0, h1⟩, h⟩ := h
    cases h
    exact str s z false _ hu (.inl rfl) hv hz h0 h1 _ (fun E => .v _ rfl)
  · rename_i s z lt hu hv hz
    obtain ⟨⟨h0, h1⟩, h⟩ := h
    cases h
    exact str s z lt _ hu (.inr rfl) hv hz h0 h1 _ (fun E => .v _ rfl)
  · exact h.elim
theorem nilCheck_ok {x : Operand} (ho : o.op = .nilCheck x) (h : ∃ g : Value → Prop, (∀ E v, Rep E (st.val x) v → g v) ∧ ∀ v, g v → (∃ ad, v = .pointer (some ad)) ∨ ∃ f a c, v = .func (.func f) a c) : OpOk P o st (st.val x) st := by
  obtain ⟨g, hg, h⟩ := h
  refine quiet_of (nd_of ho (by simp)) fun E act hx => ⟨act.eval x, fun w => ?_, hx x (by rw [ho]; exact mem1)⟩
  unfold execOp
  rw [ho]
  rcases h _ (hg E _ (hx x (by rw [ho]; exact mem1))) with ⟨ad, he⟩ | ⟨f, b, c, he⟩
  · simp [he]
  · simp [he]
theorem Reps.mapv {ρ : Operand → Value} {l : List Operand} (h : ∀ x, x ∈ l → Rep E (st.val x) (ρ x)) : Reps E (l.map st.val) (l.map ρ) := by
  induction l with
  | nil => exact .nil
  | cons x l ih => exact .cons (h x (List.mem_cons_self ..)) (ih fun y hy => h y (List.mem_cons_of_mem _ hy))
theorem makeFunc_ok {f : Fn} {first cap : Array Operand} (ho : o.op = .makeFunc f first cap) : OpOk P o st (.fn f (first.toList.map st.val) (cap.toList.map st.val)) st := by
  refine quiet_of (nd_of ho (by simp)) fun E act hx => ⟨.func f (first.map act.eval) (cap.map act.eval), fun w => ?_, ?_⟩
  · unfold execOp
    rw [ho]
    rfl
  · refine .fn ?_ ?_
    · rw [Array.toList_map]; exact .mapv fun x hxm => hx x (by rw [ho]; simp [Op.operands]; exact .inl (by simpa using hxm))
    · rw [Array.toList_map]; exact .mapv fun x hxm => hx x (by rw [ho]; simp [Op.operands]; exact .inr (by simpa using hxm))
theorem extract_ok {t : Operand} {i : Nat} (ho : o.op = .extract t i) {l : List AV} (hv : st.val t = .tup l) (h : (pureA l[i]? st).hit (a, st')) : OpOk P o st a st' := by
  obtain ⟨h', rfl⟩ := hit_pureA h
  refine quiet_of (nd_of ho (by simp)) fun E act hx => ?_
  have hx0 := hx t (by rw [ho]; exact mem1)
  rw [hv] at hx0
  obtain ⟨c, he, hR⟩ : ∃ c : Array Value, act.eval t = .tuple c ∧ Reps E l c.toList := by
    generalize act.eval t = u at hx0
    cases hx0; exact ⟨_, rfl, ‹_›⟩
  obtain ⟨v, hv', hr⟩ := hR.get h'
  rw [Array.getElem?_toList] at hv'
  refine ⟨v, fun w => ?_, hr⟩
  unfold execOp
  rw [ho]
  simp [Instr.extract, he, hv']
/-! Build. -/
theorem foldl_set (l : List Value) : ∀ (off : Nat) (cs : Array Value), (l.zipIdx off).foldl (fun cs (p : Value × Nat) => cs.setIfInBounds p.2 p.1) cs = if off + l.length ≤ cs.size then (cs.toList.take off ++ (l ++ cs.toList.drop (off + l.length))).toArray else (l.zipIdx off).foldl (fun cs (p : Value × Nat) => cs.setIfInBounds p.2 p.1) cs := by
  induction l with
  | nil =>
    intro off cs
    split
    · simp
    · rfl
  | cons v l ih =>
    intro off cs
    split
    · rename_i h
      simp only [List.length_cons] at h
      rw [List.zipIdx_cons, List.foldl_cons, ih, if_pos (by simp; omega)]
      apply congrArg
      apply List.ext_getElem?
      intro i
      have hcz : cs.toList.length = cs.size := by simp
      rw [get_app3, get_app3]
      simp only [Array.toList_setIfInBounds, List.length_take, List.length_set, List.length_cons]
      have e1 : min (off + 1) cs.toList.length = off + 1 := by omega
      have e2 : min off cs.toList.length = off := by omega
      rw [e1, e2]
      by_cases h1 : i < off
      · rw [if_pos (by omega), if_pos h1, List.getElem?_take, List.getElem?_take, if_pos (by omega), if_pos h1, List.getElem?_set, if_neg (by omega)]
      · by_cases h2 : i = off
        · subst h2
          rw [if_pos (by omega), if_neg (by omega), if_pos (by omega), List.getElem?_take, if_pos (by omega), List.getElem?_set, if_pos rfl]
          simp [show i < cs.size by omega]
        · rw [if_neg (by omega), if_neg h1]
          have : i - off = (i - (off + 1)) + 1 := by omega
          rw [this]
          by_cases h3 : i - (off + 1) < l.length
          · rw [if_pos h3, if_pos (by omega)]; simp
          · rw [if_neg h3, if_neg (by omega), List.getElem?_drop, List.getElem?_drop, List.getElem?_set, if_neg (by omega)]
            congr 1; omega
    · rfl
theorem fill_ok {place place' : Nat → Option (Nat × Nat)} (hpl : ∀ i x, place i = some x → place' i = some x) : ∀ (parts : List (Nat × AV)) (cs : List AV) (r : List AV), fillA place parts cs = some r → ∀ (vals : List (Nat × Value)) (c : Array Value),
    List.map Prod.fst vals = List.map Prod.fst parts → (∀ (j : Nat) (p : Nat × AV) (q : Nat × Value), parts[j]? = some p → vals[j]? = some q → Rep E p.2 q.2) → Reps E cs c.toList → One c.toList →
    ∃ c', Instr.fill place' c vals = some c' ∧ Reps E r c'.toList ∧ One c'.toList
  | [], cs, r, h, vals, c, hf, _, hR, ho => by
    simp only [fillA] at h
    cases h
    cases vals with
    | nil => exact ⟨c, rfl, hR, ho⟩
    | cons => simp at hf
  | (i, av) :: parts, cs, r, h, vals, c, hf, hp, hR, ho => by
    simp only [fillA] at h
    split at h
    · rename_i off n hpi
      split at h
      · rename_i hb hl
        simp only [Bool.and_eq_true] at hl
        have hl1 := Nat.eq_of_beq_eq_true hl.1
        have hl2 := Nat.le_of_ble_eq_true hl.2
        cases vals with
        | nil => simp at hf
        | cons q vals =>
          obtain ⟨j, v⟩ := q
          simp only [List.map_cons, List.cons.injEq] at hf
          obtain ⟨rfl, hf⟩ := hf
          obtain ⟨k1, k2⟩ := cellsR (hp 0 (j, av) (j, v) rfl rfl) hb
          have hvl : (cellsA av).length = v.cells.toList.length := k1.len
          have hcl := hR.len
          have hcz : c.toList.length = c.size := by simp
          have hvz : v.cells.toList.length = v.cells.size := by simp
          have hfold : v.cells.zipIdx.foldl (fun cs (p : Value × Nat) => cs.setIfInBounds (off + p.2) p.1) c = (c.toList.take off ++ (v.cells.toList ++ c.toList.drop (off + v.cells.toList.length))).toArray := by
            have h1 := foldl_set v.cells.toList off c
            rw [if_pos (by omega)] at h1
            rw [← h1, ← Array.foldl_toList, Array.toList_zipIdx]
            have : ∀ (l : List Value) (s : Nat) (c : Array Value), (l.zipIdx s).foldl (fun cs (p : Value × Nat) => cs.setIfInBounds (off + p.2) p.1) c = (l.zipIdx (off + s)).foldl (fun cs (p : Value × Nat) => cs.setIfInBounds p.2 p.1) c := by
              intro l
              induction l with
              | nil => intro s c; rfl
              | cons x l ih => intro s c; rw [List.zipIdx_cons, List.zipIdx_cons, List.foldl_cons, List.foldl_cons, ih]; rfl
            have := this v.cells.toList 0 c
            simpa using this
          obtain ⟨c', g1, g2, g3⟩ := fill_ok hpl parts (splice cs off (cellsA av)) r h vals (c.toList.take off ++ (v.cells.toList ++ c.toList.drop (off + v.cells.toList.length))).toArray hf
            (fun j p q hp' hq' => hp (j + 1) p q (by simpa using hp') (by simpa using hq')) (by simpa using splice_ok hR k1) (by simpa using one_splice (n := v.cells.toList.length) (off := off) ho k2)
          refine ⟨c', ?_, g2, g3⟩
          simp only [Instr.fill, hpl _ _ hpi]
          have hno : ¬ (decide (v.cells.size ≠ n) || decide (off + v.cells.size > c.size)) = true := by
            simp only [Bool.or_eq_true, decide_eq_true_eq]
            rintro (h | h) <;> omega
          rw [if_neg hno, hfold]
          exact g1
      · cases h
    · cases h
theorem mapM_places (fs : List Field) (h : fs.all (fun f => (sizeO P f.type).isSome) = true) (w : World) : (fs.mapM (m := Sem) fun f => Prod.mk f.offset <$> sizeOf f.type).run P w = .ok (fs.map fun f => (f.offset, (sizeO P f.type).getD 0)) w := by
  induction fs with
  | nil => rfl
  | cons f fs ih =>
    simp only [List.all_cons, Bool.and_eq_true] at h
    obtain ⟨n, hn⟩ := Option.isSome_iff_exists.1 h.1
    have := ih h.2
    simp [List.mapM_cons, run_size hn, this, hn]
theorem mapM_places' (fs : Array Field) (h : fs.toList.all (fun f => (sizeO P f.type).isSome) = true) (w : World) : (fs.mapM (m := Sem) fun f => Prod.mk f.offset <$> sizeOf f.type).run P w = .ok (fs.toList.map fun f => (f.offset, (sizeO P f.type).getD 0)).toArray w := by
  have := mapM_places (P := P) fs.toList h w
  rw [Array.mapM_eq_mapM_toList]
  simp [this]
theorem build_ok {t : TypeId} {parts : Array (Nat × Operand)} (ho : o.op = .build t parts) (h : (pureA (buildA P t (parts.toList.map fun p => (p.1, st.val p.2))) st).hit (a, st')) : OpOk P o st a st' := by
  obtain ⟨h, rfl⟩ := hit_pureA h
  have hd : NoDefer o := nd_of ho (by simp)
  have hparts : ∀ (E : Env) (act : Act), (∀ x, x ∈ o.op.operands → Rep E (st'.val x) (act.eval x)) → ∀ (j : Nat) (p : Nat × AV) (q : Nat × Value), (parts.toList.map fun p => (p.1, st'.val p.2))[j]? = some p → ((parts.map fun (p : Nat × Operand) => (p.1, act.eval p.2)).toList)[j]? = some q → Rep E p.2 q.2 := by
    intro E act hx j p q h1 h2
    rw [Array.toList_map] at h2
    rw [List.getElem?_map] at h1 h2
    cases hj : parts.toList[j]? with
    | none => rw [hj] at h1; cases h1
    | some u =>
      rw [hj] at h1 h2
      cases h1; cases h2
      exact hx u.2 (by rw [ho]; simp [Op.operands]; exact ⟨u.1, by simpa using List.mem_of_getElem? hj⟩)
  unfold buildA at h
  split at h
  · rename_i cs hz
    obtain ⟨i, z, hi, hzz, rfl, hone⟩ := zero_info hz
    split at h
    · rename_i fs hu
      split at h
      · rename_i hall
        split at h
        · rename_i r hf
          cases h
          refine quiet_of hd fun E act hx => ?_
          obtain ⟨c', g1, g2, g3⟩ := fill_ok (E := E) (place' := fun i => (fs[i]?).map fun f => (f.offset, (sizeO P f.type).getD 0)) (fun i x hx => by
            split at hx
            · rename_i f hf
              split at hx
              · rename_i n hn; cases hx; simp [hf, hn]
              · cases hx
            · cases hx) _ _ _ hf ((parts.map fun (p : Nat × Operand) => (p.1, act.eval p.2)).toList) z.cells (by simp [List.map_map, Function.comp_def]) (hparts E act hx) (.lits _ hone) hone
          refine ⟨.agg c', fun w => ?_, .agg g2 g3⟩
          have hm := mapM_places' (P := P) fs hall w
          unfold execOp
          rw [ho]
          simp only [Array.toList_map] at g1
          simp [Instr.build, zeroValue, typeInfo, hi, hzz, run_underlying hu, hm, g1]
        · cases h
      · cases h
    · rename_i n elem hu
      split at h
      · rename_i k hs
        split at h
        · rename_i r hf
          cases h
          refine quiet_of hd fun E act hx => ?_
          obtain ⟨c', g1, g2, g3⟩ := fill_ok (E := E) (place' := fun i => some (i * k, k)) (fun i x hx => hx) _ _ _ hf ((parts.map fun (p : Nat × Operand) => (p.1, act.eval p.2)).toList) z.cells (by simp [List.map_map, Function.comp_def]) (hparts E act hx) (.lits _ hone) hone
          refine ⟨.agg c', fun w => ?_, .agg g2 g3⟩
          unfold execOp
          rw [ho]
          simp only [Array.toList_map] at g1
          simp [Instr.build, zeroValue, typeInfo, hi, hzz, run_underlying hu, run_size hs, g1]
        · cases h
      · cases h
    · cases h
  · cases h
end
end Go.Proofs.YtamjnhpkmhbkcaaGreatDoor

/-
  PART: equality and arithmetic.
-/
namespace Go.Proofs.YtamjnhpkmhbkcaaGreatDoor
open Go.RowKit

section
variable {P : Program} {o : Oper} {st st' : St} {a : AV} {w : World} {E : Env}
theorem andA_ok {a b r : AV} (h : andA a b = some r) : ∃ x y l m, boolOf a = some (x, l) ∧ boolOf b = some (y, m) ∧ ∀ E, Rep E r (.bool (x && y)) := by
  unfold andA at h
  split at h
  · rename_i x y h1 h2; cases h; exact ⟨x, y, _, _, h1, h2, fun E => .lit _ rfl⟩
  · rename_i x y h1 h2
    split at h
    · cases h; exact ⟨true, y, _, _, h1, h2, fun E => .v _ rfl⟩
    · cases h; exact ⟨false, y, _, _, h1, h2, fun E => .lit _ rfl⟩
  · rename_i x y h1 h2
    split at h
    · cases h; exact ⟨x, true, _, _, h1, h2, fun E => by rw [Bool.and_true]; exact .v _ rfl⟩
    · cases h; exact ⟨x, false, _, _, h1, h2, fun E => by rw [Bool.and_false]; exact .lit _ rfl⟩
  · rename_i x y h1 h2; cases h; exact ⟨x, y, _, _, h1, h2, fun E => .v _ rfl⟩
  · cases h
theorem rep_boolOf {a : AV} {x l : Bool} (h : boolOf a = some (x, l)) : Rep E a (.bool x) := by
  unfold boolOf at h
  split at h
  · cases h; exact .lit _ rfl
  · cases h; exact .v _ rfl
  · cases h
theorem boolOf_uni {E' : Env} {a : AV} {b : Bool} (h : Rep E a (.bool b)) (h2 : ∃ x l, boolOf a = some (x, l)) : Rep E' a (.bool b) := by
  obtain ⟨x, l, h2⟩ := h2
  have := boolOf_rep h2 h
  cases this
  exact rep_boolOf h2
theorem eqScal_ok {t : TypeId} {x y : Value} {d : TypeDesc} {r : Bool} (hu : P.underlying t = some d) (h : eqScal d x y = some r) (D : Nat) (w : World) : (Op.equalIn (D + 1) t x y).run P w = .ok r w := by
  unfold eqScal at h
  split at h
  · cases h; simp [Op.equalIn, run_underlying hu]
  · split at h
    · rename_i hk; cases h; have := of_decide_eq_true hk; subst this; simp [Op.equalIn, run_underlying hu]
    · cases h
  · split at h
    · rename_i hk; cases h; have := of_decide_eq_true hk; subst this; simp [Op.equalIn, run_underlying hu]
    · cases h
  · split at h
    · rename_i hk; cases h; have := of_decide_eq_true hk; subst this; simp [Op.equalIn, run_underlying hu]
    · cases h
  · cases h; simp [Op.equalIn, run_underlying hu]
  · cases h
theorem eqLeaf_ok {t : TypeId} {a b r : AV} {d : TypeDesc} (h : eqLeaf d a b = some r) (hu : P.underlying t = some d) {x y : Value} (hx : Rep E a x) (hy : Rep E b y) (D : Nat) :
    ∃ q, (∀ w, (Op.equalIn (D + 1) t x y).run P w = .ok q w) ∧ ∀ E', Rep E' r (.bool q) := by
  unfold eqLeaf at h
  split at h
  · rename_i x' lx y' ly h1 h2
    split at h
    · rename_i q hq
      cases h
      obtain ⟨rfl, _⟩ := scal_rep h1 hx
      obtain ⟨rfl, _⟩ := scal_rep h2 hy
      refine ⟨q, fun w => eqScal_ok hu hq D w, fun E' => ?_⟩
      split
      · exact .lit _ rfl
      · exact .v _ rfl
    · cases h
  · cases h
theorem rep_nilptr {v : Value} (h : Rep E (.lit (.pointer none)) v) : v = .pointer none := by cases h; rfl
theorem eqT_ok : ∀ (d : Nat) (t : TypeId) (a b r : AV), eqT P d t a b = some r → ∀ (E : Env) (x y : Value), Rep E a x → Rep E b y → ∀ (D : Nat), d ≤ D → ∃ q, (∀ w, (Op.equalIn D t x y).run P w = .ok q w) ∧ ∀ E', Rep E' r (.bool q) := by
  intro d
  induction d with
  | zero => intro t a b r h; simp [eqT] at h
  | succ d ih =>
    intro t a b r h E x y hx hy D hD
    obtain ⟨D, rfl⟩ : ∃ D', D = D' + 1 := ⟨D - 1, by omega⟩
    have hD' : d ≤ D := by omega
    unfold eqT at h
    split at h
    · rename_i fs hu
      split at h
      · rename_i xs ys
        split at h
        · rename_i hstood
          obtain ⟨c, rfl, hR, hone⟩ := rep_agg hx
          obtain ⟨c', rfl, hR', hone'⟩ := rep_agg hy
          have hf : P.fieldsOf t = fs := by simp [Program.fieldsOf, hu]
          suffices hsuf : ∃ q, (∀ w, (Op.eqFields D c c' fs.toList).run P w = .ok q w) ∧ ∀ E', Rep E' r (.bool q) by
            obtain ⟨q, h1, h2⟩ := hsuf
            exact ⟨q, fun w => by rw [run_equalIn_struct w D t c c' (by rw [hf]; exact hu) hstood, hf]; exact h1 w, h2⟩
          generalize fs.toList = L at h ⊢
          clear hf hu
          induction L generalizing r with
          | nil => simp only [allEqF] at h; cases h; exact ⟨true, fun w => rfl, fun E' => .lit _ rfl⟩
          | cons f L ihL =>
            simp only [allEqF] at h
            split at h
            · rename_i p q hp hq
              obtain ⟨u, v, l, m, h1, h2, h3⟩ := andA_ok h
              obtain ⟨q2, g1, g2⟩ := ihL q hq
              have hv : q2 = v := by have := boolOf_rep h2 (g2 E); cases this; rfl
              subst hv
              by_cases hn : f.name = "_"
              · have : (f.name == "_") = true := by simpa using hn
                rw [this] at hp
                simp only [] at hp
                cases hp
                cases h1
                refine ⟨q2, fun w => ?_, fun E' => by simpa using h3 E'⟩
                simp only [Op.eqFields]
                rw [if_neg (by simpa using hn)]
                exact g1 w
              · have hb : (f.name == "_") = false := by simpa using hn
                rw [hb] at hp
                simp only [] at hp
                split at hp
                · rename_i n ag hs ha
                  split at hp
                  · rename_i ax ay hcx hcy
                    obtain ⟨vx, p1, p2⟩ := part_cut (P := P) hs ha hR hone hcx
                    obtain ⟨vy, p3, p4⟩ := part_cut (P := P) hs ha hR' hone' hcy
                    obtain ⟨q1, g3, g4⟩ := ih f.type ax ay p hp E vx vy p2 p4 D hD'
                    have hu' : q1 = u := by have := boolOf_rep h1 (g4 E); cases this; rfl
                    subst hu'
                    refine ⟨q1 && q2, fun w => ?_, h3⟩
                    simp only [Op.eqFields]
                    rw [if_pos (by simpa using hn)]
                    simp only [Sem.run_bind, p1 w, p3 w, g3 w, Result.andThen_ok]
                    cases q1
                    · simp
                    · simpa using g1 w
                  · cases hp
                · cases hp
            · cases h
        · cases h
      · cases h
    · rename_i len e hu
      split at h
      · rename_i xs ys
        split at h
        · rename_i n ag hs ha
          obtain ⟨c, rfl, hR, hone⟩ := rep_agg hx
          obtain ⟨c', rfl, hR', hone'⟩ := rep_agg hy
          obtain ⟨i, hi, hin⟩ := size_info hs
          have hc : P.cellsOf e = n := by simp [Program.cellsOf, hi, hin]
          have app : ∀ (l m : List Nat), (∀ j, j ∈ l → ∃ v1 v2 q, ∀ w, (part e c (j * n)).run P w = .ok v1 w ∧ (part e c' (j * n)).run P w = .ok v2 w ∧ (Op.equalIn D e v1 v2).run P w = .ok q w) → ∀ q1 w, (Op.eqItems D e n c c' l).run P w = .ok q1 w →
              (Op.eqItems D e n c c' (l ++ m)).run P w = if q1 = true then (Op.eqItems D e n c c' m).run P w else .ok false w := by
            intro l m
            induction l with
            | nil => intro _ q1 w h; simp only [Op.eqItems, Sem.run_pure, Result.ok.injEq, and_true] at h; subst h; simp
            | cons j l ihl =>
              intro hp q1 w h
              obtain ⟨v1, v2, q, hk⟩ := hp j (List.mem_cons_self ..)
              obtain ⟨k1, k2, k3⟩ := hk w
              simp only [Op.eqItems, List.cons_append, Sem.run_bind, k1, k2, k3, Result.andThen_ok] at h ⊢
              cases q
              · simp only [Bool.not_false, if_true, Sem.run_pure, Result.ok.injEq, and_true] at h ⊢
                subst h; simp
              · simp only [Bool.not_true, Bool.false_eq_true, if_false] at h ⊢
                exact ihl (fun j hj => hp j (List.mem_cons_of_mem _ hj)) q1 w h
          have key : ∀ (k : Nat) (r : AV), allEq (fun i => match cut xs (i * n) n ag, cut ys (i * n) n ag with
              | some x, some y => eqT P d e x y
              | _, _ => none) k = some r → (∀ j, j ∈ List.range k → ∃ v1 v2 q, ∀ w, (part e c (j * n)).run P w = .ok v1 w ∧ (part e c' (j * n)).run P w = .ok v2 w ∧ (Op.equalIn D e v1 v2).run P w = .ok q w) ∧
              ∃ q, (∀ w, (Op.eqItems D e n c c' (List.range k)).run P w = .ok q w) ∧ ∀ E', Rep E' r (.bool q) := by
            intro k
            induction k with
            | zero => intro r h; simp only [allEq] at h; cases h; exact ⟨fun j hj => by simp at hj, true, fun w => rfl, fun E' => .lit _ rfl⟩
            | succ k ihk =>
              intro r h
              simp only [allEq] at h
              split at h
              · rename_i p q hp hq
                obtain ⟨u, v, l, m, h1, h2, h3⟩ := andA_ok h
                obtain ⟨gp, q1, g1, g2⟩ := ihk p hp
                have hu' : q1 = u := by have := boolOf_rep h1 (g2 E); cases this; rfl
                subst hu'
                split at hq
                · rename_i ax ay hcx hcy
                  obtain ⟨vx, p1, p2⟩ := part_cut (P := P) hs ha hR hone hcx
                  obtain ⟨vy, p3, p4⟩ := part_cut (P := P) hs ha hR' hone' hcy
                  obtain ⟨q2, g3, g4⟩ := ih e ax ay q hq E vx vy p2 p4 D hD'
                  have hv' : q2 = v := by have := boolOf_rep h2 (g4 E); cases this; rfl
                  subst hv'
                  refine ⟨fun j hj => ?_, q1 && q2, fun w => ?_, h3⟩
                  · rw [List.range_succ, List.mem_append] at hj
                    rcases hj with hj | hj
                    · exact gp j hj
                    · obtain rfl : j = k := by simpa using hj
                      exact ⟨vx, vy, q2, fun w => ⟨p1 w, p3 w, g3 w⟩⟩
                  rw [List.range_succ, app _ _ gp q1 w (g1 w)]
                  cases q1
                  · simp
                  · simp only [if_true, Op.eqItems, Sem.run_bind, p1 w, p3 w, g3 w, Result.andThen_ok, Bool.true_and]
                    cases q2 <;> simp
                · cases hq
              · cases h
          obtain ⟨_, q, h1, h2⟩ := key len r h
          exact ⟨q, fun w => by rw [run_equalIn_array w D c c' hu hi, hc]; exact h1 w, h2⟩
        · cases h
      · cases h
    · cases h
    · rename_i el hu
      split at h
      · cases h
        obtain ⟨b, base, c, _, _, _, _, rfl⟩ := rep_fz hx
        rw [rep_nilptr hy]
        exact ⟨false, fun w => by simp [Op.equalIn, run_underlying hu], fun E' => .lit _ rfl⟩
      · cases h
        obtain ⟨_, rfl⟩ := rep_ptr hx
        rw [rep_nilptr hy]
        exact ⟨false, fun w => by simp [Op.equalIn, run_underlying hu], fun E' => .lit _ rfl⟩
      · cases h
        obtain ⟨b, base, c, _, _, _, _, rfl⟩ := rep_fz hy
        rw [rep_nilptr hx]
        exact ⟨false, fun w => by simp [Op.equalIn, run_underlying hu], fun E' => .lit _ rfl⟩
      · cases h
        obtain ⟨_, rfl⟩ := rep_ptr hy
        rw [rep_nilptr hx]
        exact ⟨false, fun w => by simp [Op.equalIn, run_underlying hu], fun E' => .lit _ rfl⟩
      · cases h
        rw [rep_nilptr hx, rep_nilptr hy]
        exact ⟨true, fun w => by simp [Op.equalIn, run_underlying hu], fun E' => .lit _ rfl⟩
      · split at h
        · rename_i n hb hsz
          cases h
          simp only [Bool.and_eq_true] at hb
          obtain rfl := Nat.eq_of_beq_eq_true hb.1
          obtain rfl := Nat.eq_of_beq_eq_true hb.2
          obtain ⟨_, rfl⟩ := rep_ptr hx
          obtain ⟨_, rfl⟩ := rep_ptr hy
          obtain ⟨i, hi, _⟩ := size_info hsz
          exact ⟨true, fun w => by simp [Op.equalIn, run_underlying hu, sizeOf, typeInfo, hi, run_sameAddr_same], fun E' => .lit _ rfl⟩
        · cases h
      · cases h
    · rename_i hu
      split at h
      · cases h
        obtain ⟨g, f, c, rfl⟩ : ∃ g f c, x = .func g f c := by cases hx; exact ⟨_, _, _, rfl⟩
        cases hy
        exact ⟨false, fun w => by simp [Op.equalIn, run_underlying hu], fun E' => .lit _ rfl⟩
      · cases h
        cases hx; cases hy
        exact ⟨true, fun w => by simp [Op.equalIn, run_underlying hu], fun E' => .lit _ rfl⟩
      · cases h
    · rename_i hu
      split at h
      · cases h
        cases hx; cases hy
        exact ⟨true, fun w => by simp [Op.equalIn, run_underlying hu], fun E' => .lit _ rfl⟩
      · cases h
    · rename_i hu; exact eqLeaf_ok h hu hx hy D
    · cases h
end
end Go.Proofs.YtamjnhpkmhbkcaaGreatDoor

/-
  PART: arithmetic, builtins, slices of slices.
-/
namespace Go.Proofs.YtamjnhpkmhbkcaaGreatDoor
open Go.RowKit

section
variable {P : Program} {o : Oper} {st st' : St} {a : AV} {w : World} {E : Env}
theorem eqT_unk1 (d : Nat) (t : TypeId) (b : AV) : eqT P d t .unk b = none := by
  cases d with
  | zero => rfl
  | succ d => unfold eqT; split <;> first | rfl | (simp [eqLeaf, scal])
theorem eqT_unk2 (d : Nat) (t : TypeId) (a : AV) : eqT P d t a .unk = none := by
  cases d with
  | zero => rfl
  | succ d =>
    unfold eqT
    split
    · cases a <;> rfl
    · cases a <;> rfl
    · rfl
    · cases a <;> first | rfl | (rename_i v; cases v <;> first | rfl | (rename_i p; cases p <;> rfl))
    · cases a <;> first | rfl | (rename_i v; cases v <;> rfl)
    · cases a <;> first | rfl | (rename_i v; cases v <;> first | rfl | (rename_i p n c; cases p <;> first | rfl | (cases n <;> cases c <;> rfl)))
    · cases a <;> simp [eqLeaf, scal]
    · rfl
theorem eqT_any1 (φ : (Nat → Option (Array Value)) → Value → Prop) (d : Nat) (t : TypeId) (b : AV) : eqT P d t (.any φ) b = none := by
  cases d with
  | zero => rfl
  | succ d => unfold eqT; split <;> first | rfl | (simp [eqLeaf, scal])
theorem eqT_any2 (φ : (Nat → Option (Array Value)) → Value → Prop) (d : Nat) (t : TypeId) (a : AV) : eqT P d t a (.any φ) = none := by
  cases d with
  | zero => rfl
  | succ d =>
    unfold eqT
    split
    · cases a <;> rfl
    · cases a <;> rfl
    · rfl
    · cases a <;> first | rfl | (rename_i v; cases v <;> first | rfl | (rename_i p; cases p <;> rfl))
    · cases a <;> first | rfl | (rename_i v; cases v <;> rfl)
    · cases a <;> first | rfl | (rename_i v; cases v <;> first | rfl | (rename_i p n c; cases p <;> first | rfl | (cases n <;> cases c <;> rfl)))
    · cases a <;> simp [eqLeaf, scal]
    · rfl
theorem eqT_type {d : Nat} {t : TypeId} {a b r : AV} (h : eqT P d t a b = some r) : ∃ dsc, P.underlying t = some dsc ∧ ∀ ms, dsc ≠ .interface ms := by
  cases d with
  | zero => cases h
  | succ d =>
    unfold eqT at h
    split at h <;> first
      | (cases h; done)
      | exact ⟨_, ‹P.underlying t = some _›, fun ms e => by simp_all⟩
/-- Values that are no numbers, texts, truths. -/
def heavy : Value → Bool
  | .agg _ => true
  | .tuple _ => true
  | .pointer _ => true
  | .slice .. => true
  | .func .. => true
  | .map _ => true
  | _ => false
theorem heavy_of {a : AV} {v : Value} (h : scal a = none) (hu : a ≠ .unk) (hq : ∀ φ, a ≠ .any φ) (hv : Rep E a v) : heavy v = true := by
  cases hv <;> first | rfl | (cases h; done) | exact absurd rfl hu | exact absurd rfl (hq _)
theorem eqGuard_ok {op : BinOp} {t : TypeId} {x y : Operand} {a b : Value} (h : P.eqGuardType P.depth t = false) (hi : ∃ dsc, P.underlying t = some dsc ∧ ∀ ms, dsc ≠ .interface ms) (w : World) : (eqGuard op t x y a b).run P w = .ok () w := by
  obtain ⟨dsc, hu, hn⟩ := hi
  have h0 : (Op.eqGuardIn Op.maxDepth t .nilIface .nilIface).run P w = .ok false w := by
    show (Op.eqGuardIn (9999 + 1) t .nilIface .nilIface).run P w = _
    rw [Op.eqGuardIn]
    simp only [Sem.run_bind, run_underlying hu, Result.andThen_ok]
    cases dsc <;> first | rfl | exact absurd rfl (hn _)
  unfold eqGuard
  cases op <;> first
    | rfl
    | (simp only [Bool.not_true, Bool.false_eq_true, if_false]
       split
       · split
         · rfl
         · simp [h0]
       · simp [h]
       · rfl)
theorem binOp_heavy {t : TypeId} {x y : Value} (h : heavy x = true ∨ heavy y = true) : binOp .eql t x y = (do pure (.bool (← Op.equal t x y))) ∧ binOp .neq t x y = (do pure (.bool (!(← Op.equal t x y)))) := by
  cases x <;> cases y <;> first | exact ⟨rfl, rfl⟩ | (rcases h with h | h <;> cases h)
theorem ite_ok {c : Bool} {s : Sem Unit} {w : World} (h : s.run P w = .ok () w) : (if c = true then pure () else s : Sem Unit).run P w = .ok () w := by
  cases c
  · exact h
  · rfl
theorem eqGuard_tmp {op : BinOp} {t : TypeId} {x y : Operand} {a b : Value} (h : semVal P (eqGuard op t (.tmp 0) (.tmp 0) a b) = some ()) (w : World) : (eqGuard op t x y a b).run P w = .ok () w := by
  have h0 := semVal_run h w
  revert h0
  unfold eqGuard
  cases op <;> first
    | (intro _; rfl)
    | (simp only [Bool.not_true, Bool.false_eq_true, if_false]
       intro h0
       split at h0
       · simp only [Bool.or_self, Bool.false_eq_true, if_false] at h0
         exact ite_ok h0
       · exact h0
       · rfl)
theorem nd_bin {op : BinOp} {t u : TypeId} {x y : Operand} (ho : o.op = .binOp op t x y u) : NoDefer o := nd_of ho (by simp)
theorem exec_bin {op : BinOp} {t u : TypeId} {x y : Operand} (ho : o.op = .binOp op t x y u) {ρ : Operand → Value} {v : Value} {w : World} (h1 : (eqGuard op t x y (ρ x) (ρ y)).run P w = .ok () w) (h2 : (binOp op t (ρ x) (ρ y)).run P w = .ok v w) : (execOp ρ o).run P w = .ok (.value v) w := by
  unfold execOp
  rw [ho]
  simp [h1, h2]
theorem bin_ok {op : BinOp} {t u : TypeId} {x y : Operand} (ho : o.op = .binOp op t x y u) (h : (withSt st (binA P op t (st.val x) (st.val y))).hit (a, st')) : OpOk P o st a st' := by
  obtain ⟨h, rfl⟩ := hit_withSt h
  have hmx : x ∈ o.op.operands := by rw [ho]; simp [Op.operands]
  have hmy : y ∈ o.op.operands := by rw [ho]; simp [Op.operands]
  have hd := nd_bin ho
  unfold binA at h
  split at h
  · rename_i vx lx vy ly hsx hsy
    have vals : ∀ (E : Env) (act : Act), (∀ x, x ∈ o.op.operands → Rep E (st'.val x) (act.eval x)) → act.eval x = vx ∧ act.eval y = vy := fun E act hx => ⟨(scal_rep hsx (hx x hmx)).1, (scal_rep hsy (hx y hmy)).1⟩
    split at h
    · split at h
      · rename_i hk
        obtain rfl := of_decide_eq_true hk
        obtain ⟨h0, h⟩ := h
        cases h
        refine quiet_of hd fun E act hx => ?_
        obtain ⟨e1, e2⟩ := vals E act hx
        exact ⟨_, fun w => exec_bin ho (by rw [e1, e2]; rfl) (by rw [e1, e2]; simp [binOp, Op.intDiv, h0]), .v _ rfl⟩
      · exact h.elim
    · split at h
      · rename_i hk
        obtain rfl := of_decide_eq_true hk
        obtain ⟨h0, h⟩ := h
        cases h
        refine quiet_of hd fun E act hx => ?_
        obtain ⟨e1, e2⟩ := vals E act hx
        exact ⟨_, fun w => exec_bin ho (by rw [e1, e2]; rfl) (by rw [e1, e2]; simp [binOp, Op.intDiv, h0]), .v _ rfl⟩
      · exact h.elim
    · obtain ⟨h0, h⟩ := h
      cases h
      refine quiet_of hd fun E act hx => ?_
      obtain ⟨e1, e2⟩ := vals E act hx
      exact ⟨_, fun w => exec_bin ho (by rw [e1, e2]; rfl) (by rw [e1, e2]; simp [binOp, Op.shift, Int.not_lt.2 h0]), .v _ rfl⟩
    · obtain ⟨h0, h⟩ := h
      cases h
      refine quiet_of hd fun E act hx => ?_
      obtain ⟨e1, e2⟩ := vals E act hx
      exact ⟨_, fun w => exec_bin ho (by rw [e1, e2]; rfl) (by rw [e1, e2]; simp [binOp, Op.shift, Int.not_lt.2 h0]), .v _ rfl⟩
    · obtain ⟨h0, h⟩ := h
      cases h
      obtain ⟨⟨re, im⟩, hn⟩ := Option.isSome_iff_exists.1 h0
      refine quiet_of hd fun E act hx => ?_
      obtain ⟨e1, e2⟩ := vals E act hx
      refine ⟨.complex .f64 re im, fun w => exec_bin ho (by rw [e1, e2]; rfl) (by rw [e1, e2]; exact run_complex_mul w t _ _ _ _ re im hn), ?_⟩
      rw [hn]; exact .v _ rfl
    · rename_i m n _ _
      obtain ⟨h0, h⟩ := h
      cases h
      refine quiet_of hd fun E act hx => ?_
      obtain ⟨e1, e2⟩ := vals E act hx
      have hmax : ¬ (((m.size + n.size : Nat) : Int) > IntKind.i64.max) := by
        have : IntKind.i64.max = 9223372036854775807 := by decide
        rw [this]; omega
      exact ⟨_, fun w => exec_bin ho (by rw [e1, e2]; rfl) (by rw [e1, e2]; show (if ((m.size + n.size : Nat) : Int) > IntKind.i64.max then _ else _ : Sem Value).run P w = _; rw [if_neg hmax]; rfl), .v _ rfl⟩
    · split at h
      · rename_i r hr
        cases h
        obtain ⟨u', h1, h2⟩ := semVal_bind hr
        refine quiet_of hd fun E act hx => ?_
        obtain ⟨e1, e2⟩ := vals E act hx
        exact ⟨r, fun w => exec_bin ho (by rw [e1, e2]; exact eqGuard_tmp h1 w) (by rw [e1, e2]; exact semVal_run h2 w), litOr_rep _ r⟩
      · exact h.elim
  · rename_i hns
    have heq : ∀ r, eqT P 20 t (st'.val x) (st'.val y) = some r → P.eqGuardType P.depth t = false → ∀ (E : Env) (act : Act), (∀ x, x ∈ o.op.operands → Rep E (st'.val x) (act.eval x)) →
        ∃ q, (∀ w, (Op.equal t (act.eval x) (act.eval y)).run P w = .ok q w) ∧ (∀ E', Rep E' r (.bool q)) ∧ (heavy (act.eval x) = true ∨ heavy (act.eval y) = true) := by
      intro r hr hg E act hx
      have hxx := hx x hmx
      have hyy := hx y hmy
      have hux : st'.val x ≠ .unk := fun e => by rw [e, eqT_unk1] at hr; cases hr
      have huy : st'.val y ≠ .unk := fun e => by rw [e, eqT_unk2] at hr; cases hr
      have hqx : ∀ φ, st'.val x ≠ .any φ := fun φ e => by rw [e, eqT_any1] at hr; cases hr
      have hqy : ∀ φ, st'.val y ≠ .any φ := fun φ e => by rw [e, eqT_any2] at hr; cases hr
      have hv : heavy (act.eval x) = true ∨ heavy (act.eval y) = true := by
        cases h1 : scal (st'.val x) with
        | none => exact .inl (heavy_of h1 hux hqx hxx)
        | some p => cases h2 : scal (st'.val y) with
          | none => exact .inr (heavy_of h2 huy hqy hyy)
          | some q => exact absurd h2 (hns p.1 p.2 q.1 q.2 h1)
      obtain ⟨q, h1, h2⟩ := eqT_ok 20 t _ _ r hr E _ _ hxx hyy Op.maxDepth (by decide)
      exact ⟨q, h1, h2, hv⟩
    split at h
    · split at h
      · rename_i hg
        have hr := hit_ofO h
        refine quiet_of hd fun E act hx => ?_
        obtain ⟨q, h1, h2, h3⟩ := heq _ hr hg E act hx
        refine ⟨.bool q, fun w => exec_bin ho (eqGuard_ok hg (eqT_type hr) w) ?_, h2 E⟩
        rw [(binOp_heavy h3).1]; simp [h1 w]
      · exact h.elim
    · split at h
      · rename_i hg
        split at h
        · rename_i r hr
          have hn := hit_ofO h
          refine quiet_of hd fun E act hx => ?_
          obtain ⟨q, h1, h2, h3⟩ := heq _ hr hg E act hx
          refine ⟨.bool (!q), fun w => exec_bin ho (eqGuard_ok hg (eqT_type hr) w) ?_, ?_⟩
          · rw [(binOp_heavy h3).2]; simp [h1 w]
          · have := h2 E
            unfold notA at hn
            split at hn
            · cases hn; cases this; exact .lit _ rfl
            · cases hn; cases this; exact .v _ rfl
            · cases hn
        · exact h.elim
      · exact h.elim
    · exact h.elim
theorem binB_ok {op : BinOp} {t u : TypeId} {x y : Operand} (ho : o.op = .binOp op t x y u) (h : (withSt st (binB P op t (st.val x) (st.val y))).hit (a, st')) : OpOk P o st a st' := by
  cases hn : nilCmp P t (st.val x) (st.val y) with
  | none =>
    cases hi : ifCmp P t (st.val x) (st.val y) with
    | none =>
      have e : binB P op t (st.val x) (st.val y) = binA P op t (st.val x) (st.val y) := by unfold binB; rw [hn]; simp only [hi]
      rw [e] at h
      exact bin_ok ho h
    | some φ =>
      obtain ⟨h, rfl⟩ := hit_withSt h
      have hmx : x ∈ o.op.operands := by rw [ho]; simp [Op.operands]
      have hmy : y ∈ o.op.operands := by rw [ho]; simp [Op.operands]
      have hd := nd_bin ho
      have hi0 := hi
      unfold ifCmp at hi
      split at hi
      · rename_i ms v hu hv
        split at hi
        · rename_i φ' hnil hx
          cases hi
          have hvn : v = .nilIface := by cases v <;> first | rfl | cases hnil
          subst hvn
          have key : NonNil φ → ∀ (E : Env) (act : Act), (∀ x, x ∈ o.op.operands → Rep E (st'.val x) (act.eval x)) → (∃ tt p, act.eval x = .iface tt p) ∧ act.eval y = .nilIface := fun h1 E act hq => by
            have hyy := hq y hmy
            have hxx := hq x hmx
            rw [hv] at hyy
            rw [hx] at hxx
            have e2 : ∀ z, Rep E (.lit .nilIface) z → z = .nilIface := fun z hz => by cases hz; rfl
            have e1 : ∀ z, Rep E (.any φ) z → ∃ tt p, z = .iface tt p := fun z hz => by
              cases hz with
              | any hz _ => exact h1 _ _ (hz E.fz fun _ _ h => h)
            exact ⟨e1 _ hxx, e2 _ hyy⟩
          have ne0 : ∀ (D : Nat) (tt : TypeId) (p : Value) (w : World), (Op.equalIn (D + 1) t (.iface tt p) .nilIface).run P w = .ok false w := fun D tt p w => by simp [Op.equalIn, run_underlying hu]
          have ne : ∀ (tt : TypeId) (p : Value) (w : World), (Op.equal t (.iface tt p) .nilIface).run P w = .ok false w := fun tt p w => ne0 9999 tt p w
          have gd : ∀ (op : BinOp) (tt : TypeId) (p : Value) (w : World), (eqGuard op t x y (.iface tt p) .nilIface).run P w = .ok () w := fun op tt p w => by cases op <;> rfl
          have bo : ∀ (tt : TypeId) (p : Value), binOp .eql t (.iface tt p) .nilIface = (do pure (.bool (← Op.equal t (.iface tt p) .nilIface))) ∧ binOp .neq t (.iface tt p) .nilIface = (do pure (.bool (!(← Op.equal t (.iface tt p) .nilIface)))) := fun tt p => ⟨rfl, rfl⟩
          unfold binB at h
          rw [hn] at h
          simp only [hi0] at h
          split at h
          · obtain ⟨h1, h⟩ := h
            cases h
            refine quiet_of hd fun E act hq => ?_
            obtain ⟨⟨tt, p, k1⟩, k2⟩ := key h1 E act hq
            refine ⟨.bool false, fun w => exec_bin ho (by rw [k1, k2]; exact gd _ tt p w) (by rw [k1, k2, (bo tt p).1]; simp [ne tt p w]), .lit _ rfl⟩
          · obtain ⟨h1, h⟩ := h
            cases h
            refine quiet_of hd fun E act hq => ?_
            obtain ⟨⟨tt, p, k1⟩, k2⟩ := key h1 E act hq
            refine ⟨.bool true, fun w => exec_bin ho (by rw [k1, k2]; exact gd _ tt p w) (by rw [k1, k2, (bo tt p).2]; simp [ne tt p w]), .lit _ rfl⟩
          · exact h.elim
        · cases hi
      · cases hi
  | some n =>
    obtain ⟨h, rfl⟩ := hit_withSt h
    have hmx : x ∈ o.op.operands := by rw [ho]; simp [Op.operands]
    have hmy : y ∈ o.op.operands := by rw [ho]; simp [Op.operands]
    have hd := nd_bin ho
    obtain ⟨n, nlq⟩ := n
    have hn0 := hn
    unfold nilCmp at hn
    split at hn
    · rename_i el v hu hv
      split at hn
      · rename_i hnil hg
        obtain rfl := isNilSl_eq hnil
        have key : 1 ≤ n → ∀ (E : Env) (act : Act), (∀ x, x ∈ o.op.operands → Rep E (st'.val x) (act.eval x)) → heavy (act.eval x) = true ∧ ∀ w, (Op.equal t (act.eval x) (act.eval y)).run P w = .ok false w := fun h1 E act hx => by
          have hyy := hx y hmy
          rw [hv] at hyy
          have e2 : ∀ z, Rep E (.lit (.slice none 0 0)) z → z = .slice none 0 0 := fun z hz => by cases hz; rfl
          have hxx := hx x hmx
          have e1 : ∃ b m c, act.eval x = .slice (some b) m c := by
            split at hn
            · rename_i m k get nl full hs
              cases hn
              rw [hs] at hxx
              generalize act.eval x = z at hxx ⊢
              cases hxx with
              | slNil h0 => omega
              | slEmp h0 => omega
              | sl => exact ⟨_, _, _, rfl⟩
            · rename_i z' m k nl hs
              cases hn
              rw [hs] at hxx
              generalize act.eval x = z at hxx ⊢
              cases hxx with
              | own => exact ⟨_, _, _, rfl⟩
              | ownNil _ _ h0 => omega
            · cases hn
          obtain ⟨b, m, c, e1⟩ := e1
          rw [e1, e2 _ hyy]
          have ne : ∀ (D : Nat) (w : World), (Op.equalIn (D + 1) t (.slice (some b) m c) (.slice none 0 0)).run P w = .ok false w := fun D w => by simp [Op.equalIn, run_underlying hu]
          exact ⟨rfl, fun w => ne 9999 w⟩
        unfold binB at h
        rw [hn0] at h
        simp only [] at h
        split at h
        · obtain ⟨h1, h⟩ := closed_hit h
          cases h
          refine quiet_of hd fun E act hx => ?_
          obtain ⟨k1, k2⟩ := key h1 E act hx
          refine ⟨.bool false, fun w => exec_bin ho (eqGuard_ok hg ⟨_, hu, fun ms e => by cases e⟩ w) ?_, .lit _ rfl⟩
          rw [(binOp_heavy (.inl k1)).1]; simp [k2 w]
        · obtain ⟨h1, h⟩ := closed_hit h
          cases h
          refine quiet_of hd fun E act hx => ?_
          obtain ⟨k1, k2⟩ := key h1 E act hx
          refine ⟨.bool true, fun w => exec_bin ho (eqGuard_ok hg ⟨_, hu, fun ms e => by cases e⟩ w) ?_, .lit _ rfl⟩
          rw [(binOp_heavy (.inl k1)).2]; simp [k2 w]
        · exact h.elim
      · cases hn
    · cases hn
theorem binC_ok {op : BinOp} {t u : TypeId} {x y : Operand} (ho : o.op = .binOp op t x y u) (h : (withSt st (binC P op t (st.val x) (st.val y) (isConstO y))).hit (a, st')) : OpOk P o st a st' := by
  cases hn : nnCmp P t (st.val x) (st.val y) (isConstO y) with
  | false =>
    have e : binC P op t (st.val x) (st.val y) (isConstO y) = binB P op t (st.val x) (st.val y) := by unfold binC; rw [hn]
    rw [e] at h
    exact binB_ok ho h
  | true =>
    obtain ⟨h, rfl⟩ := hit_withSt h
    have hmx : x ∈ o.op.operands := by rw [ho]; simp [Op.operands]
    have hmy : y ∈ o.op.operands := by rw [ho]; simp [Op.operands]
    have hd := nd_bin ho
    have hn0 := hn
    unfold nnCmp at hn
    split at hn
    · rename_i ms v v' hu hv hv'
      simp only [Bool.and_eq_true] at hn
      obtain ⟨hc, h1, h2⟩ := hn
      have e1 : v = .nilIface := by cases v <;> first | rfl | cases h1
      have e2 : v' = .nilIface := by cases v' <;> first | rfl | cases h2
      subst e1 e2
      have key : ∀ (E : Env) (act : Act), (∀ x, x ∈ o.op.operands → Rep E (st'.val x) (act.eval x)) → act.eval x = .nilIface ∧ act.eval y = .nilIface := fun E act hq => by
        have hyy := hq y hmy
        have hxx := hq x hmx
        rw [hv'] at hyy
        rw [hv] at hxx
        have e : ∀ z, Rep E (.lit .nilIface) z → z = .nilIface := fun z hz => by cases hz; rfl
        exact ⟨e _ hxx, e _ hyy⟩
      have ne0 : ∀ (D : Nat) (w : World), (Op.equalIn (D + 1) t .nilIface .nilIface).run P w = .ok true w := fun D w => by simp [Op.equalIn, run_underlying hu]
      have ne : ∀ (w : World), (Op.equal t .nilIface .nilIface).run P w = .ok true w := fun w => ne0 9999 w
      have gd : ∀ (op : BinOp) (w : World), (eqGuard op t x y .nilIface .nilIface).run P w = .ok () w := fun op w => by
        cases y with
        | const c => cases op <;> first | rfl | (unfold eqGuard; simp)
        | _ => cases hc
      have bo : binOp .eql t .nilIface .nilIface = (do pure (.bool (← Op.equal t .nilIface .nilIface))) ∧ binOp .neq t .nilIface .nilIface = (do pure (.bool (!(← Op.equal t .nilIface .nilIface)))) := ⟨rfl, rfl⟩
      unfold binC at h
      rw [hn0] at h
      simp only [] at h
      split at h
      · cases h
        refine quiet_of hd fun E act hq => ?_
        obtain ⟨k1, k2⟩ := key E act hq
        refine ⟨.bool true, fun w => exec_bin ho (by rw [k1, k2]; exact gd _ w) (by rw [k1, k2, bo.1]; simp [ne w]), .lit _ rfl⟩
      · cases h
        refine quiet_of hd fun E act hq => ?_
        obtain ⟨k1, k2⟩ := key E act hq
        refine ⟨.bool false, fun w => exec_bin ho (by rw [k1, k2]; exact gd _ w) (by rw [k1, k2, bo.2]; simp [ne w]), .lit _ rfl⟩
      · exact h.elim
    · cases hn
end
end Go.Proofs.YtamjnhpkmhbkcaaGreatDoor

/-
  PART: builtins on scalars and lengths; slices of slices; rows made.
-/
namespace Go.Proofs.YtamjnhpkmhbkcaaGreatDoor
open Go.RowKit

section
variable {P : Program} {o : Oper} {st st' : St} {a : AV} {w : World} {E : Env}
theorem scals_rep {l : List AV} {vs : List Value} {b : Bool} (h : scals l = some (vs, b)) {us : List Value} (hR : Reps E l us) : us = vs := by
  induction l generalizing vs b us with
  | nil => simp [scals] at h; cases hR; rw [h.1]
  | cons a l ih =>
    simp only [scals] at h
    split at h
    · rename_i x lx xs ls h1 h2
      cases h
      cases hR with | cons k1 k2 => rw [(scal_rep h1 k1).1, ih h2 k2]
    · cases h
theorem exec_builtin {c : Call} {b : Builtin} (ho : o.op = .call c) (hc : c.callee = .builtin b) (ρ : Operand → Value) : execOp ρ o = builtin b c.argTypes o.type (c.args.map fun | .const _ => true | _ => false) (c.args.map ρ) := by
  unfold execOp
  rw [ho]
  simp only [resolve, hc]
  rfl
theorem nd_call {c : Call} (ho : o.op = .call c) : NoDefer o := nd_of ho (by simp)
theorem args_rep {c : Call} (ho : o.op = .call c) {act : Act} (hx : ∀ x, x ∈ o.op.operands → Rep E (st.val x) (act.eval x)) : Reps E (c.args.toList.map st.val) (c.args.map act.eval).toList := by
  rw [Array.toList_map]
  exact .mapv fun x hxm => hx x (by rw [ho]; simp only [Op.operands, Call.operands]; exact Array.mem_append.2 (.inr (by simpa using hxm)))
/-- A builtin on scalars. -/
theorem scalB_ok {c : Call} {b : Builtin} (ho : o.op = .call c) (hc : c.callee = .builtin b) {f : Array Value → Sem Value} (hf : ∀ cs vs, builtin b c.argTypes o.type cs vs = (do pure (.value (← f vs))))
    (h : (match scals (c.args.toList.map st.val) with
      | some (vs, l) => match semVal P (f vs.toArray) with
        | some r => Tree.ret (litOr l r, st)
        | none => .fail
      | none => .fail : Tree (AV × St)).hit (a, st')) : OpOk P o st a st' := by
  split at h
  · rename_i vs l hs
    split at h
    · rename_i r hr
      cases h
      refine quiet_of (nd_call ho) fun E act hx => ⟨r, fun w => ?_, litOr_rep l r⟩
      have := scals_rep hs (args_rep ho hx)
      have hv : c.args.map act.eval = vs.toArray := by rw [← this]
      rw [exec_builtin ho hc, hf, hv]
      simp [semVal_run hr w]
    · exact h.elim
  · exact h.elim
theorem lenA_ok {t : TypeId} {x r : AV} (h : lenA P t x = some r) {v : Value} (hv : Rep E x v) : ∃ n : Int, (∀ ts ty w, ts[0]? = some t → (Builtin.len_ ts ty #[v]).run P w = .ok (.int .i64 n) w) ∧ ∀ E', Rep E' r (.int .i64 n) := by
  unfold lenA at h
  split at h
  · rename_i s hu; cases h; cases hv
    exact ⟨s.size, fun ts ty w ht => by simp [Builtin.len_, ht, run_underlying hu, goInt], fun E' => .lit _ rfl⟩
  · rename_i s hu; cases h; cases hv
    exact ⟨s.size, fun ts ty w ht => by simp [Builtin.len_, ht, run_underlying hu, goInt], fun E' => .v _ rfl⟩
  · rename_i n e hu; cases h
    exact ⟨n, fun ts ty w ht => by simp [Builtin.len_, ht, run_underlying hu, goInt], fun E' => .lit _ rfl⟩
  · rename_i b n c hu; cases h; cases hv
    exact ⟨n, fun ts ty w ht => by simp [Builtin.len_, ht, run_underlying hu, goInt], fun E' => .lit _ rfl⟩
  · rename_i n k get nl full hu
    have hr : ∀ E', Rep E' r (.int .i64 n) := fun E' => by
      split at h
      · cases h; exact .lit _ rfl
      · cases h; exact .v _ rfl
    refine ⟨n, fun ts ty w ht => ?_, hr⟩
    cases hv with
    | slNil hn => subst hn; simp [Builtin.len_, ht, run_underlying hu, goInt]
    | sl => simp [Builtin.len_, ht, run_underlying hu, goInt]
    | slEmp => simp [Builtin.len_, ht, run_underlying hu, goInt]
  · rename_i y n k nl hu
    have hr : ∀ E', Rep E' r (.int .i64 n) := fun E' => by
      split at h
      · cases h; exact .lit _ rfl
      · cases h; exact .v _ rfl
    refine ⟨n, fun ts ty w ht => ?_, hr⟩
    cases hv with
    | ownNil _ _ hn _ => subst hn; simp [Builtin.len_, ht, run_underlying hu, goInt]
    | own => simp [Builtin.len_, ht, run_underlying hu, goInt]
  · rename_i y off n k hu; cases h; cases hv
    exact ⟨n, fun ts ty w ht => by simp [Builtin.len_, ht, run_underlying hu, goInt], fun E' => .lit _ rfl⟩
  · cases h
theorem len_ok {c : Call} (ho : o.op = .call c) (hc : c.callee = .builtin .len) {x : AV} (hl : c.args.toList.map st.val = [x]) (h : (match lenA P (c.argTypes.getD 0 0) x, c.argTypes[0]? with
    | some r, some _ => Tree.ret (r, st)
    | _, _ => .fail : Tree (AV × St)).hit (a, st')) : OpOk P o st a st' := by
  split at h
  · rename_i r t hr ht
    cases h
    refine quiet_of (nd_call ho) fun E act hx => ?_
    have hR := args_rep ho hx
    rw [hl] at hR
    obtain ⟨v, hv, hrv⟩ : ∃ v, (c.args.map act.eval).toList = [v] ∧ Rep E x v := by
      generalize (c.args.map act.eval).toList = L at hR
      cases hR with | cons k1 k2 => cases k2; exact ⟨_, rfl, k1⟩
    have hv' : c.args.map act.eval = #[v] := by rw [← Array.toArray_toList (xs := c.args.map act.eval), hv]
    have ht' : c.argTypes[0]? = some (c.argTypes.getD 0 0) := by simp [Array.getD_eq_getD_getElem?, ht]
    obtain ⟨n, h1, h2⟩ := lenA_ok hr hrv
    refine ⟨_, fun w => ?_, h2 E⟩
    rw [exec_builtin ho hc, hv']
    simp [builtin, h1 _ _ w ht']
  · exact h.elim
/-! Slices of slices. -/
def OptR (E : Env) : Option AV → Option Value → Prop
  | none, none => True
  | some a, some v => Rep E a v
  | _, _ => False
theorem bound_lo {E : Env} {d : Int × Bool} {z : Int} {l : Bool} {x : Option AV} (h : boundA d x = some (z, l)) {v : Option Value} (hv : OptR E x v) : (x = none ∧ v = none ∧ z = d.1) ∨ ∃ k, x.isSome = true ∧ v = some (.int k z) := by
  cases x with
  | none => cases v with
    | none => simp [boundA] at h; exact .inl ⟨rfl, rfl, by rw [h]⟩
    | some => exact hv.elim
  | some a => cases v with
    | none => exact hv.elim
    | some v => obtain ⟨k, rfl⟩ := intOf_rep h hv; exact .inr ⟨k, rfl, rfl⟩
theorem run_sliceBound {k : IntKind} {z : Int} {y : Nat} {code : BoundsCode} (h0 : 0 ≤ z) (h1 : z ≤ (y : Int)) (w : World) : (Instr.sliceBound (.int k z) y code).run P w = .ok z.toNat w := by
  simp [Instr.sliceBound, asIntOf, h0, h1]
/-- Bounds in order. -/
theorem run_bounds {isS : Bool} {len cap : Nat} {lo hi mx : Option Value} {l h m : Int}
    (hlo : (lo = none ∧ l = 0) ∨ ∃ k, lo = some (.int k l)) (hhi : (hi = none ∧ h = (len : Int)) ∨ ∃ k, hi = some (.int k h)) (hmx : (mx = none ∧ m = (cap : Int)) ∨ ∃ k, hi.isSome = true ∧ mx = some (.int k m))
    (h0 : 0 ≤ l) (h1 : l ≤ h) (h2 : h ≤ m) (h3 : m ≤ (cap : Int)) (w : World) : (Instr.sliceBounds isS len cap lo hi mx).run P w = .ok (l.toNat, h.toNat, m.toNat) w := by
  have e0 : (0 : Nat) = (0 : Int).toNat := rfl
  rcases hmx with ⟨rfl, rfl⟩ | ⟨km, hs, rfl⟩
  · rcases hhi with ⟨rfl, rfl⟩ | ⟨kh, rfl⟩
    · rcases hlo with ⟨rfl, rfl⟩ | ⟨kl, rfl⟩
      · simp [Instr.sliceBounds]
      · simp [Instr.sliceBounds, run_sliceBound h0 h1]
    · have b1 := fun code => run_sliceBound (P := P) (k := kh) (y := cap) (code := code) (z := h) (by omega) h2 w
      rcases hlo with ⟨rfl, rfl⟩ | ⟨kl, rfl⟩
      · simp [Instr.sliceBounds, b1]
      · have b2 := fun code => run_sliceBound (P := P) (k := kl) (y := h.toNat) (code := code) (z := l) h0 (by omega) w
        simp [Instr.sliceBounds, b1, b2]
  · have b0 := fun code => run_sliceBound (P := P) (k := km) (y := cap) (code := code) (z := m) (by omega) h3 w
    rcases hhi with ⟨rfl, rfl⟩ | ⟨kh, rfl⟩
    · cases hs
    · have b1 := fun code => run_sliceBound (P := P) (k := kh) (y := m.toNat) (code := code) (z := h) (by omega) (by omega) w
      rcases hlo with ⟨rfl, rfl⟩ | ⟨kl, rfl⟩
      · simp [Instr.sliceBounds, b0, b1]
      · have b2 := fun code => run_sliceBound (P := P) (k := kl) (y := h.toNat) (code := code) (z := l) h0 (by omega) w
        simp [Instr.sliceBounds, b0, b1, b2]
theorem exec_slice {t : TypeId} {x : Operand} {lo hi mx : Option Operand} (ho : o.op = .slice t x lo hi mx) {ρ : Operand → Value} {v : Value} {w : World} (h : (Instr.sliceAt t (ρ x) (lo.map ρ) (hi.map ρ) (mx.map ρ)).run P w = .ok v w) : (execOp ρ o).run P w = .ok (.value v) w := by
  unfold execOp
  rw [ho]
  simp [h]
theorem opt_rep {act : Act} {x : Option Operand} (h : ∀ y, x = some y → Rep E (st.val y) (act.eval y)) : OptR E (x.map st.val) (x.map act.eval) := by
  cases x with
  | none => trivial
  | some y => exact h y rfl
theorem slice_ok {t : TypeId} {x : Operand} {lo hi mx : Option Operand} (ho : o.op = .slice t x lo hi mx) (hmh : mx.isSome = true → hi.isSome = true) (h : (sliceA P t (st.val x) (lo.map st.val) (hi.map st.val) (mx.map st.val) st).hit (a, st')) : OpOk P o st a st' := by
  have hd : NoDefer o := nd_of ho (by simp)
  have hmx : x ∈ o.op.operands := by rw [ho]; simp [Op.operands]
  have hml : ∀ y, lo = some y → y ∈ o.op.operands := fun y e => by rw [ho]; simp [Op.operands, e]
  have hmh' : ∀ y, hi = some y → y ∈ o.op.operands := fun y e => by rw [ho]; simp [Op.operands, e]
  have hmm : ∀ y, mx = some y → y ∈ o.op.operands := fun y e => by rw [ho]; simp [Op.operands, e]
  have none_of : ∀ {y : Option Operand} {act : Act}, y.map st.val = none → y.map act.eval = none := fun {y} {act} h => by cases y <;> first | rfl | cases h
  unfold sliceA at h
  split at h
  · rename_i hu
    have str : ∀ (s : ByteArray) (ax : AV) (l hh : Int) (ll hl : Bool), st.val x = ax → (ax = .lit (.string s) ∨ ax = .v (.string s)) → mx.map st.val = none → ∀ db, boundA (0, true) (lo.map st.val) = some (l, ll) → boundA ((s.size : Int), db) (hi.map st.val) = some (hh, hl) → 0 ≤ l → l ≤ hh → hh ≤ (s.size : Int) →
        ∀ r, (∀ E, Rep E r (.string (s.extract l.toNat hh.toNat))) → OpOk P o st r st := by
      intro s ax l hh ll hl hv hax hm db h1 h2 g0 g1 g2 r hr
      refine quiet_of hd fun E act hx => ⟨.string (s.extract l.toNat hh.toNat), fun w => exec_slice ho ?_, hr E⟩
      have he := rep_str hax (hv ▸ hx x hmx)
      have b1 := bound_lo h1 (opt_rep (E := E) (act := act) fun y e => hx y (hml y e))
      have b2 := bound_lo h2 (opt_rep (E := E) (act := act) fun y e => hx y (hmh' y e))
      have hb := run_bounds (P := P) (isS := false) (len := s.size) (cap := s.size) (lo := lo.map act.eval) (hi := hi.map act.eval) (mx := none) (l := l) (h := hh) (m := s.size)
        (by rcases b1 with ⟨_, e, e'⟩ | ⟨k, _, e⟩; exact .inl ⟨e, e'⟩; exact .inr ⟨k, e⟩) (by rcases b2 with ⟨_, e, e'⟩ | ⟨k, _, e⟩; exact .inl ⟨e, e'⟩; exact .inr ⟨k, e⟩) (.inl ⟨rfl, rfl⟩) g0 g1 g2 (by omega) w
      rw [he, none_of hm]
      simp [Instr.sliceAt, Instr.slice, run_underlying hu, hb]
    split at h
    · rename_i s hv hm
      split at h
      · rename_i l ll hh hl h1 h2
        obtain ⟨⟨g0, g1, g2⟩, h⟩ := closed_hit h
        cases h
        exact str s _ l hh ll hl hv (.inl rfl) hm _ h1 h2 g0 g1 g2 _ (fun E => by cases ll <;> cases hl <;> first | exact .lit _ rfl | exact .v _ rfl)
      · exact h.elim
    · rename_i s hv hm
      split at h
      · rename_i l ll hh hl h1 h2
        obtain ⟨⟨g0, g1, g2⟩, h⟩ := h
        cases h
        exact str s _ l hh ll hl hv (.inr rfl) hm _ h1 h2 g0 g1 g2 _ (fun E => .v _ rfl)
      · exact h.elim
    · exact h.elim
  · rename_i elem hu
    split at h
    · rename_i n k get nl full hv
      split at h
      · rename_i l ll hh hl m lm h1 h2 h3 hk
        obtain ⟨⟨g0, g1, g2, g3⟩, h⟩ := closed_hit h
        cases h
        split at hk
        · rename_i k' hs
          obtain rfl := Nat.eq_of_beq_eq_true hk
          refine quiet_of hd fun E act hx => ?_
          have hx0 := hx x hmx
          rw [hv] at hx0
          have b1 := bound_lo h1 (opt_rep (E := E) (act := act) fun y e => hx y (hml y e))
          have b2 := bound_lo h2 (opt_rep (E := E) (act := act) fun y e => hx y (hmh' y e))
          have b3 := bound_lo h3 (opt_rep (E := E) (act := act) fun y e => hx y (hmm y e))
          -- what is beyond
          obtain ⟨M, hM⟩ : ∃ M : Nat → Int, ∀ cap, (mx = none → M cap = (cap : Int)) ∧ (mx.isSome = true → M cap = m) := by
            cases mx with
            | none => exact ⟨fun cap => cap, fun cap => ⟨fun _ => rfl, fun h => by cases h⟩⟩
            | some y => exact ⟨fun _ => m, fun cap => ⟨fun h => (by cases h), fun _ => rfl⟩⟩
          have bounds : ∀ (cap : Nat) (w : World), n ≤ cap → (Instr.sliceBounds true n cap (lo.map act.eval) (hi.map act.eval) (mx.map act.eval)).run P w = .ok (l.toNat, hh.toNat, (M cap).toNat) w := by
            intro cap w hcap
            refine run_bounds (P := P) ?_ ?_ ?_ g0 g1 ?_ ?_ w
            · rcases b1 with ⟨_, e, e'⟩ | ⟨k, _, e⟩
              · exact .inl ⟨e, e'⟩
              · exact .inr ⟨k, e⟩
            · rcases b2 with ⟨_, e, e'⟩ | ⟨k, _, e⟩
              · exact .inl ⟨e, e'⟩
              · exact .inr ⟨k, e⟩
            · rcases b3 with ⟨e0, e, _⟩ | ⟨k, e1, e⟩
              · refine .inl ⟨e, (hM cap).1 ?_⟩
                cases mx with
                | none => rfl
                | some => cases e0
              · have hs' : mx.isSome = true := by cases mx <;> simp_all
                refine .inr ⟨k, ?_, by rw [e, (hM cap).2 hs']⟩
                have := hmh hs'
                cases hi <;> simp_all
            · cases hmc : mx with
              | none => rw [(hM cap).1 hmc]; omega
              | some y => rw [(hM cap).2 (by rw [hmc]; rfl), g3 (by rw [hmc]; rfl)]; omega
            · cases hmc : mx with
              | none => rw [(hM cap).1 hmc]; omega
              | some y => rw [(hM cap).2 (by rw [hmc]; rfl), g3 (by rw [hmc]; rfl)]; omega
          have hadd : ∀ b off n : Nat, (⟨b, off, none⟩ : Addr).add n = ⟨b, off + n, none⟩ := fun b off n => by unfold Addr.add; split <;> simp_all
          generalize he : act.eval x = u at hx0
          cases hx0 with
          | slNil hn =>
            subst hn
            refine ⟨.slice none 0 0, fun w => exec_slice ho ?_, .slNil (by omega)⟩
            have hb := bounds 0 w (Nat.le_refl _)
            have e1 : l.toNat = 0 := by omega
            have e2 : hh.toNat = 0 := by omega
            have e3 : (M 0).toNat = 0 := by
              cases hmc : mx with
              | none => rw [(hM 0).1 hmc]; rfl
              | some y => rw [(hM 0).2 (by rw [hmc]; rfl), g3 (by rw [hmc]; rfl)]; omega
            rw [e1, e2, e3] at hb
            rw [he]
            simp [Instr.sliceAt, Instr.slice, run_underlying hu, hb, run_size hs]
          | @slEmp _ _ cap ad _ _ _ hn hfull =>
            subst hn
            have hb := fun w => bounds cap w (Nat.zero_le _)
            have e1 : l.toNat = 0 := by omega
            have e2 : hh.toNat = 0 := by omega
            have hrun : ∀ w, (execOp act.eval o).run P w = .ok (.value (.slice (if (M cap).toNat = l.toNat then some ad else some (ad.add (l.toNat * k))) (hh.toNat - l.toNat) ((M cap).toNat - l.toNat))) w := fun w => exec_slice ho (by
              rw [he]
              simp only [Instr.sliceAt, Sem.run_bind, run_underlying hu, Result.andThen_ok, Instr.slice, hb w, run_size hs, Sem.run_pure, Option.map_some])
            have hMh : ((mx.map st.val).isSome || (full && (hi.map st.val).isNone)) = true → (M cap).toNat = 0 := by
              cases hmc : mx with
              | none =>
                rw [(hM cap).1 hmc]
                intro h
                simp only [Option.map_none, Option.isSome_none, Bool.false_or, Bool.and_eq_true] at h
                have h4 := hfull h.1
                omega
              | some y =>
                rw [(hM cap).2 (by rw [hmc]; rfl), g3 (by rw [hmc]; rfl)]
                exact fun _ => e2
            refine ⟨_, hrun, ?_⟩
            by_cases hML : (M cap).toNat = l.toNat
            · rw [if_pos hML]; exact .slEmp (by omega) fun h => by have := hMh h; omega
            · rw [if_neg hML]; exact .slEmp (by omega) fun h => by have := hMh h; omega
          | @sl _ _ b off cap _ _ _ c q1 q2 q3 q4 q5 q6 =>
            have hb := fun w => bounds cap w q4
            have hrun : ∀ w, (execOp act.eval o).run P w = .ok (.value (.slice (if (M cap).toNat = l.toNat then some ⟨b, off, none⟩ else some ⟨b, off + l.toNat * k, none⟩) (hh.toNat - l.toNat) ((M cap).toNat - l.toNat))) w := fun w => exec_slice ho (by
              rw [he]
              simp only [Instr.sliceAt, Sem.run_bind, run_underlying hu, Result.andThen_ok, Instr.slice, hb w, run_size hs, Sem.run_pure, Option.map_some, hadd])
            have hMh : hh ≤ M cap ∧ (((mx.map st.val).isSome || (full && (hi.map st.val).isNone)) = true → M cap = hh) := by
              cases hmc : mx with
              | none =>
                rw [(hM cap).1 hmc]
                refine ⟨by omega, fun h => ?_⟩
                simp only [Option.map_none, Option.isSome_none, Bool.false_or, Bool.and_eq_true] at h
                have h4 := q3 h.1
                have h5 : hi.map st.val = none := by simpa using h.2
                rw [h5] at h2
                simp [boundA] at h2
                omega
              | some y =>
                rw [(hM cap).2 (by rw [hmc]; rfl), g3 (by rw [hmc]; rfl)]
                exact ⟨Int.le_refl _, fun _ => rfl⟩
            have hseg : l.toNat * k + (hh.toNat - l.toNat) * k ≤ n * k := by rw [← Nat.add_mul]; exact Nat.mul_le_mul_right _ (by omega)
            have hi' : ∀ i, i < hh.toNat - l.toNat → Reps E (get (l.toNat + i)) ((c.toList.drop (off + l.toNat * k + i * k)).take k) := fun i hi => by
              have := q5 (l.toNat + i) (by omega)
              rwa [Nat.add_mul, ← Nat.add_assoc] at this
            by_cases hML : (M cap).toNat = l.toNat
            · refine ⟨_, hrun, ?_⟩
              rw [if_pos hML]
              have hz : hh.toNat - l.toNat = 0 := by omega
              exact .sl q1 (by rw [hz]; omega) (fun h => by have := hMh.2 h; omega) (by omega) (fun i hi => absurd hi (by omega)) (by rw [hz, Nat.zero_mul, List.take_zero]; exact fun v hv => by cases hv)
            · refine ⟨_, hrun, ?_⟩
              rw [if_neg hML]
              exact .sl q1 (by omega) (fun h => by have := hMh.2 h; omega) (by omega) hi' (by rw [← toList_seg hseg]; exact (q6.drop _).take _)
        · cases hk
      · exact h.elim
    · rename_i y n k nl hv
      split at h
      · rename_i l ll hh hl m lm h1 h2 h3 hk
        split at h
        · rename_i hz
          cases h
          simp only [Bool.and_eq_true, decide_eq_true_eq] at hz
          obtain ⟨rfl, rfl, rfl⟩ := hz
          split at hk
          · rename_i k' hs
            obtain rfl := Nat.eq_of_beq_eq_true hk
            refine quiet_of hd fun E act hx => ?_
            have hx0 := hx x hmx
            rw [hv] at hx0
            have b1 := bound_lo h1 (opt_rep (E := E) (act := act) fun y e => hx y (hml y e))
            have b2 := bound_lo h2 (opt_rep (E := E) (act := act) fun y e => hx y (hmh' y e))
            have b3 := bound_lo h3 (opt_rep (E := E) (act := act) fun y e => hx y (hmm y e))
            have bounds : ∀ (len cap : Nat) (w : World), (Instr.sliceBounds true len cap (lo.map act.eval) (hi.map act.eval) (mx.map act.eval)).run P w = .ok (0, 0, 0) w := by
              intro len cap w
              refine run_bounds (P := P) (l := 0) (h := 0) (m := 0) ?_ ?_ ?_ (by omega) (by omega) (by omega) (by omega) w
              · rcases b1 with ⟨_, e, e'⟩ | ⟨k, _, e⟩
                · exact .inl ⟨e, e'⟩
                · exact .inr ⟨k, e⟩
              · rcases b2 with ⟨_, _, e'⟩ | ⟨k, _, e⟩
                · simp at e'
                · exact .inr ⟨k, e⟩
              · rcases b3 with ⟨_, _, e'⟩ | ⟨k, e1, e⟩
                · simp at e'
                · have hs' : mx.isSome = true := by cases mx <;> simp_all
                  refine .inr ⟨k, ?_, by rw [e]⟩
                  have := hmh hs'
                  cases hi <;> simp_all
            generalize he : act.eval x = u at hx0
            cases hx0 with
            | own hd' hv' hn' =>
              refine ⟨_, fun w => exec_slice ho (by
                rw [he]
                simp only [Instr.sliceAt, Sem.run_bind, run_underlying hu, Result.andThen_ok, Instr.slice, bounds _ _ w, run_size hs, Sem.run_pure, Option.map_some]
                rfl), ?_⟩
              split
              · exact .slEmp rfl fun _ => rfl
              · exact .slEmp rfl fun _ => rfl
            | ownNil hd' hv' hn' hl' =>
              refine ⟨.slice none 0 0, fun w => exec_slice ho ?_, .slNil rfl⟩
              rw [he]
              simp [Instr.sliceAt, Instr.slice, run_underlying hu, bounds, run_size hs]
          · cases hk
        · exact h.elim
      · exact h.elim
    · exact h.elim
  · rename_i n elem hu
    split at h
    · rename_i y off k hv hm hs
      split at h
      · rename_i l hh h1 h2
        split at h
        · rename_i hb
          simp only [Bool.and_eq_true, Bool.or_eq_true, decide_eq_true_eq] at hb
          obtain ⟨⟨c1, c2⟩, c3, c4⟩ := hb
          cases h
          refine quiet_of hd fun E act hx => ?_
          obtain ⟨hdm, he⟩ := rep_ptr (hv ▸ hx x hmx)
          have b1 := bound_lo h1 (opt_rep (E := E) (act := act) fun y e => hx y (hml y e))
          have b2 := bound_lo h2 (opt_rep (E := E) (act := act) fun y e => hx y (hmh' y e))
          refine ⟨.slice (some ⟨E.ρ y, off + l.toNat * k, none⟩) (hh.toNat - l.toNat) (n - l.toNat), fun w => exec_slice ho ?_, .slv hdm⟩
          have hb := run_bounds (P := P) (isS := false) (len := n) (cap := n) (lo := lo.map act.eval) (hi := hi.map act.eval) (mx := none) (l := l) (h := hh) (m := n)
            (by rcases b1 with ⟨_, e, e'⟩ | ⟨k, _, e⟩; exact .inl ⟨e, e'⟩; exact .inr ⟨k, e⟩) (by rcases b2 with ⟨_, e, e'⟩ | ⟨k, _, e⟩; exact .inl ⟨e, e'⟩; exact .inr ⟨k, e⟩) (.inl ⟨rfl, rfl⟩) (by omega) (by omega) (by omega) (by omega) w
          rw [he, none_of hm]
          have hadd : (if n = l.toNat then (⟨E.ρ y, off, none⟩ : Addr) else (⟨E.ρ y, off, none⟩ : Addr).add (l.toNat * k)) = ⟨E.ρ y, off + l.toNat * k, none⟩ := by
            split
            · have : l.toNat = 0 := by omega
              rw [this, Nat.zero_mul, Nat.add_zero]
            · unfold Addr.add; split <;> simp_all
          simp only [Instr.sliceAt, Sem.run_bind, run_underlying hu, Result.andThen_ok, hb, Instr.sureAddr, run_size hs, Sem.run_pure, Int.toNat_natCast]
          rw [hadd]
        · exact h.elim
      · exact h.elim
    · exact h.elim
  · exact h.elim
end
end Go.Proofs.YtamjnhpkmhbkcaaGreatDoor

/-
  PART: rows made, rows that grow.
-/
namespace Go.Proofs.YtamjnhpkmhbkcaaGreatDoor
open Go.RowKit

section
variable {P : Program} {o : Oper} {st st' : St} {a : AV} {w : World} {E : Env}
def repV : Nat → List Value → List Value
  | 0, _ => []
  | n + 1, l => l ++ repV n l
theorem repV_len (n : Nat) (l : List Value) : (repV n l).length = n * l.length := by
  induction n with
  | zero => simp [repV]
  | succ n ih => simp [repV, ih, Nat.add_mul, Nat.add_comm]
theorem repV_one {n : Nat} {l : List Value} (h : One l) : One (repV n l) := by
  induction n with
  | zero => exact fun v hv => by cases hv
  | succ n ih => exact h.app ih
theorem reps_rep {n : Nat} {l : List AV} {vs : List Value} (h : Reps E l vs) : Reps E (reps n l) (repV n vs) := by
  induction n with
  | zero => exact .nil
  | succ n ih => exact h.app ih
theorem range_rep (z : Array Value) (k : Nat) (hz : z.size = k) (n : Nat) : ((Array.range (n * k)).map (fun i => z[i % z.size]!)).toList = repV n z.toList := by
  rw [Array.toList_map, Array.toList_range]
  induction n with
  | zero => simp [repV]
  | succ n ih =>
    rw [Nat.add_mul, Nat.one_mul, Nat.add_comm, List.range_add, List.map_append, List.map_map]
    show _ = z.toList ++ repV n z.toList
    congr 1
    · apply List.ext_getElem
      · simp [hz]
      · intro i h1 h2
        simp at h1
        have : i % z.size = i := Nat.mod_eq_of_lt (by omega)
        simp [this]
        rw [getElem!_pos z i (by omega)]
    · rw [← ih]
      apply List.map_congr_left
      intro i _
      simp [hz, Nat.add_mod_left]
/-- A new row. -/
theorem new_row {elem : TypeId} {n k : Nat} {get : Nat → List AV} {nl : Bool} {st : St} (ho : NoDefer o) (hrun : ∀ (E : Env) (act : Act), (∀ x, x ∈ o.op.operands → Rep E (st.val x) (act.eval x)) → ∃ c : Array Value, (∀ w, (execOp act.eval o).run P w = .ok (.value (.slice (some ⟨w.heap.size, 0, none⟩) n n)) (w.alloc (.cells c elem))) ∧ c.size = n * k ∧ One c.toList ∧ ∀ i, i < n → Reps E (get i) ((c.toList.drop (i * k)).take k)) :
    OpOk P o st (.own st.nx n k nl) (st.new (.arr elem n k get)) := by
  refine ⟨.new st _, rfl, fun r FP E act w K Q hwf hcov hfree hS hx hk => ?_⟩
  obtain ⟨c, hr, hsz, hone, hR⟩ := hrun E act hx
  have hnx : ¬ E.dom st.nx := hfree st.nx (Nat.le_refl _) (Nat.lt_succ_self _)
  have hF : FP st.nx := hcov st.nx (.inr (.inr ⟨Nat.le_refl _, Nat.lt_succ_self _⟩))
  have hl := Env.le_add (E := E) hnx w.heap.size n n false
  have hρ : (E.add st.nx w.heap.size n n false).ρ st.nx = w.heap.size := by simp [Env.add]
  have hcp : (E.add st.nx w.heap.size n n false).cp st.nx = n := by simp [Env.add]
  have hln : (E.add st.nx w.heap.size n n false).ln st.nx = n := by simp [Env.add]
  have hvr : (E.add st.nx w.heap.size n n false).vir st.nx = false := by simp [Env.add]
  refine op_value ho (hr w) (hk (E.add st.nx w.heap.size n n false) _ _ ?_ ?_)
  · have hd : (E.add st.nx w.heap.size n n false).dom st.nx := Or.inl rfl
    have := Rep.own (n := n) (k := k) (nl := nl) hd hvr hln.symm
    rwa [hρ, hcp] at this
  · have hB : BlkR (E.add st.nx w.heap.size n n false) st.nx (.arr elem n k get) (some (.cells c elem (0, 0))) := ⟨hln.symm, .inr ⟨hvr, c, (0, 0), rfl, unm0 _, by rw [hcp]; exact hsz, by rw [hcp]; exact Nat.le_refl _, hone, fun i hi => (hR i hi).mono hl⟩⟩
    exact Pst.alloc hS hnx hF (mem_ins.2 (.inl rfl)) hB (fun y => hget_new y)
theorem range_nil (z : Array Value) {m : Nat} (h : m = 0) : (Array.range m).map (fun i => z[i % z.size]!) = #[] := by
  subst h
  apply Array.ext'
  simp
theorem run_buildSlice {t elem : TypeId} {k len : Nat} {i : TypeInfo} {zv : Value} {parts : Array (Nat × Value)} {c' : Array Value} (hu : P.underlying t = some (.slice elem)) (hs : sizeO P elem = some k) (hi : P.info? elem = some i) (hzz : i.zero = some zv) (h1 : len * k ≤ 16777216)
    (g1 : Instr.fill (fun i => some (i * k, k)) ((Array.range (len * k)).map (fun i => zv.cells[i % zv.cells.size]!)) parts.toList = some c') (w : World) : (Instr.buildSlice t len parts).run P w = .ok (.slice (some ⟨w.heap.size, 0, none⟩) len len) (w.alloc (.cells c' elem)) := by
  unfold Instr.buildSlice
  simp only [Sem.run_bind, run_underlying hu, Result.andThen_ok, run_size hs]
  rw [if_neg (Nat.not_lt.2 (by simpa using h1))]
  have hnew : (newRow elem c').run P w = .ok ⟨w.heap.size, 0, none⟩ (w.alloc (.cells c' elem)) := rfl
  by_cases h0 : len * k = 0
  · rw [if_pos h0]
    rw [range_nil _ h0] at g1
    simp only [Sem.run_bind, Sem.run_pure, Result.andThen_ok]
    rw [range_nil _ h0, g1]
    simp only [Sem.run_bind, hnew, Sem.run_pure, Result.andThen_ok]
  · rw [if_neg h0]
    have hzv : (zeroValue elem).run P w = .ok zv w := by simp [zeroValue, typeInfo, hi, hzz]
    simp only [Sem.run_bind, hzv, Sem.run_pure, Result.andThen_ok, g1, hnew]
theorem run_makeSlice {t elem : TypeId} {k : Nat} {n : Int} {k1 k2 : IntKind} {i : TypeInfo} {zv : Value} (hu : P.underlying t = some (.slice elem)) (hs : sizeO P elem = some k) (hi : P.info? elem = some i) (hzz : i.zero = some zv) (h0 : 0 ≤ n) (h63 : n < 9223372036854775808) (hby : (i.bytes : Int) * n ≤ 281474976710656) (w : World) :
    (Instr.makeSlice t (.int k1 n) (.int k2 n)).run P w = .ok (.slice (some ⟨w.heap.size, 0, none⟩) n.toNat n.toNat) (w.alloc (.cells ((Array.range (n.toNat * k)).map (fun i => zv.cells[i % zv.cells.size]!)) elem)) := by
  have hw : IntKind.i64.wrap n = n := by unfold IntKind.wrap; simp [IntKind.bits, IntKind.signed]; omega
  unfold Instr.makeSlice
  simp only [Sem.run_bind, run_underlying hu, Result.andThen_ok, Sem.run_pure, asInt, asIntOf, typeInfo, run_program, hi, hw]
  rw [if_neg (by simp; omega)]
  have hroom : ∀ b, (askRoom b).run P w = .ok () w := fun b => by unfold askRoom; split <;> rfl
  simp only [Sem.run_bind, hroom, Result.andThen_ok, run_size hs]
  by_cases hz0 : n.toNat * k = 0
  · rw [if_pos hz0]
    simp only [Sem.run_bind, Sem.run_pure, Result.andThen_ok]
    rw [range_nil _ hz0, range_nil _ hz0]
    rfl
  · rw [if_neg hz0]
    have hzv : (zeroValue elem).run P w = .ok zv w := by simp [zeroValue, typeInfo, hi, hzz]
    simp only [Sem.run_bind, hzv, Sem.run_pure, Result.andThen_ok]
    rfl
theorem buildSlice_ok {t : TypeId} {len : Nat} {parts : Array (Nat × Operand)} (ho : o.op = .buildSlice t len parts) (h : (buildSliceA P t len (parts.toList.map fun p => (p.1, st.val p.2)) st).hit (a, st')) : OpOk P o st a st' := by
  have hd : NoDefer o := nd_of ho (by simp)
  unfold buildSliceA at h
  split at h
  · rename_i elem hu
    split at h
    · rename_i k z hs hz
      split at h
      · rename_i hb
        simp only [Bool.and_eq_true] at hb
        obtain ⟨⟨hb1, hb2⟩, hb3⟩ := hb
        have hb1 := Nat.le_of_ble_eq_true hb1
        have hb2 := Nat.eq_of_beq_eq_true hb2
        have hb3 := Nat.le_of_ble_eq_true hb3
        split at h
        · rename_i cs hf
          cases h
          obtain ⟨i, zv, hi, hzz, rfl, hone⟩ := zero_info hz
          have hzk : zv.cells.size = k := by simpa using hb2
          refine new_row hd fun E act hx => ?_
          have hinit := range_rep zv.cells k hzk len
          obtain ⟨c', g1, g2, g3⟩ := fill_ok (E := E) (place' := fun i => some (i * k, k)) (fun i x hx => hx) _ _ _ hf ((parts.map fun (p : Nat × Operand) => (p.1, act.eval p.2)).toList) ((Array.range (len * k)).map (fun i => zv.cells[i % zv.cells.size]!)) (by simp [List.map_map, Function.comp_def])
            (fun j p q h1 h2 => by
              rw [Array.toList_map] at h2
              rw [List.getElem?_map] at h1 h2
              cases hj : parts.toList[j]? with
              | none => rw [hj] at h1; cases h1
              | some u =>
                rw [hj] at h1 h2
                cases h1; cases h2
                exact hx u.2 (by rw [ho]; simp [Op.operands]; exact ⟨u.1, by simpa using List.mem_of_getElem? hj⟩))
            (by rw [hinit]; exact reps_rep (.lits _ hone)) (by rw [hinit]; exact repV_one hone)
          have hcl := g2.len
          have hlen : cs.length = len * k := by
            have : ∀ (parts : List (Nat × AV)) (cs r : List AV), fillA (fun i => some (i * k, k)) parts cs = some r → r.length = cs.length := by
              intro parts
              induction parts with
              | nil => intro cs r h; simp only [fillA] at h; cases h; rfl
              | cons p parts ih =>
                intro cs r h
                obtain ⟨i, av⟩ := p
                simp only [fillA] at h
                split at h
                · rename_i hq
                  simp only [Bool.and_eq_true] at hq
                  have h1 := Nat.eq_of_beq_eq_true hq.1
                  have h2 := Nat.le_of_ble_eq_true hq.2
                  rw [ih _ _ h]
                  unfold splice
                  simp; omega
                · cases h
            rw [this _ _ _ hf]
            have hr : ∀ (n : Nat) (l : List AV), (reps n l).length = n * l.length := by
              intro n l
              induction n with
              | zero => simp [reps]
              | succ n ih => simp [reps, ih, Nat.add_mul, Nat.add_comm]
            rw [hr]; simp [hzk]
          refine ⟨c', fun w => ?_, by have : c'.toList.length = c'.size := by simp
                                      omega, g3, fun i hi => ?_⟩
          · unfold execOp
            rw [ho]
            simp only [Array.toList_map] at g1
            have := run_buildSlice (P := P) (parts := parts.map fun p => (p.1, act.eval p.2)) hu hs hi hzz hb1 (by rw [Array.toList_map]; exact g1) w
            simp only [Sem.run_bind, Sem.run_pure, this, Result.andThen_ok]
          · exact (g2.drop _).take _
        · exact h.elim
      · exact h.elim
    · exact h.elim
  · exact h.elim
theorem makeSlice_ok {t : TypeId} {l c : Operand} (ho : o.op = .makeSlice t l c) (h : (makeSliceA P t (st.val l) (st.val c) st).hit (a, st')) : OpOk P o st a st' := by
  have hd : NoDefer o := nd_of ho (by simp)
  unfold makeSliceA at h
  split at h
  · rename_i elem n lt cc _ hu hn hc
    split at h
    · rename_i k z hs hz
      split at h
      · rename_i hb
        simp only [Bool.and_eq_true] at hb
        have hb2 := Nat.eq_of_beq_eq_true hb.1
        have hb3 := Nat.le_of_ble_eq_true hb.2
        obtain ⟨⟨h0, rfl, h63, hby⟩, h⟩ := closed_hit h
        cases h
        obtain ⟨i, zv, hi, hzz, rfl, hone⟩ := zero_info hz
        have hzk : zv.cells.size = k := by simpa using hb2
        refine new_row hd fun E act hx => ?_
        obtain ⟨k1, e1⟩ := intOf_rep hn (hx l (by rw [ho]; simp [Op.operands]))
        obtain ⟨k2, e2⟩ := intOf_rep hc (hx c (by rw [ho]; simp [Op.operands]))
        have hinit := range_rep zv.cells k hzk cc.toNat
        refine ⟨(Array.range (cc.toNat * k)).map (fun i => zv.cells[i % zv.cells.size]!), fun w => ?_, by simp, by rw [hinit]; exact repV_one hone, fun j hj => ?_⟩
        · have hbb : P.bytesOf elem = i.bytes := by simp [Program.bytesOf, hi]
          rw [hbb] at hby
          unfold execOp
          rw [ho]
          have := run_makeSlice (P := P) (k1 := k1) (k2 := k2) hu hs hi hzz h0 h63 hby w
          simp only [e1, e2, Sem.run_bind, Sem.run_pure, this, Result.andThen_ok]
        · rw [hinit]
          have : ∀ (n j : Nat) (l : List Value), l.length = k → j < n → ((repV n l).drop (j * k)).take k = l := by
            intro n
            induction n with
            | zero => intro j l _ h; omega
            | succ n ih =>
              intro j l hl h
              show ((l ++ repV n l).drop (j * k)).take k = l
              cases j with
              | zero => simp [← hl]
              | succ j =>
                rw [show (j + 1) * k = k + j * k by rw [Nat.add_mul, Nat.one_mul, Nat.add_comm], ← List.drop_drop, List.drop_left' hl]
                exact ih j l hl (by omega)
          rw [this _ _ _ (by simpa using hzk) hj]
          exact .lits _ hone
      · exact h.elim
    · exact h.elim
  · exact h.elim
end
end Go.Proofs.YtamjnhpkmhbkcaaGreatDoor

/-
  PART: append.
-/
namespace Go.Proofs.YtamjnhpkmhbkcaaGreatDoor
open Go.RowKit

section
variable {P : Program} {o : Oper} {st st' : St} {a : AV} {w : World} {E : Env}
theorem grownCap_ge (w : World) {need : Nat} (old : Nat) (e : TypeId) : need ≤ grownCap w need old e := by
  unfold grownCap Question.cut
  simp only []
  omega
/-- The second operand's type: a slice or a string. -/
def xOk (P : Program) (ts : Array TypeId) : Prop := ∃ xT, ts[1]? = some xT ∧ ((∃ e, P.underlying xT = some (.slice e)) ∨ P.underlying xT = some .string)
theorem run_append_no {ts : Array TypeId} {ty sT elem : TypeId} {i : TypeInfo} {x : Value} {n sLen sCap : Nat} {b : Option Addr} (ht0 : ts[0]? = some sT) (ht1 : xOk P ts) (hu : P.underlying sT = some (.slice elem)) (hi : P.info? elem = some i)
    (hlen : ∀ w, (Builtin.lenOf x).run P w = .ok n w) {news : Array Value} (hn : (Builtin.firstCells i.size n x).run P w = .ok news w) (hroom : sLen + n ≤ sCap) {w' : World} (hst : ∀ ad, b = some ad → (storeCells (ad.add (sLen * i.size)) news.toList).run P w = .ok () w') (hb : b = none → w' = w) :
    (Builtin.append_ ts ty #[.slice b sLen sCap, x]).run P w = .ok (.slice b (sLen + n) sCap) w' := by
  obtain ⟨xT, hx1, hx2⟩ := ht1
  unfold Builtin.append_
  rcases hx2 with ⟨e, hx2⟩ | hx2 <;>
  · simp only [ht0, hx1, List.getElem?_toArray, List.getElem?_cons_zero, List.getElem?_cons_succ, Sem.run_bind, run_underlying hu, run_underlying hx2, Result.andThen_ok, Sem.run_pure, sizeOf, typeInfo, run_program, hi]
    simp only [Bool.false_eq_true, if_false, Sem.run_bind, hlen w, Result.andThen_ok, Bool.not_false, if_true]
    rw [if_pos hroom]
    simp only [Sem.run_bind, hn, Result.andThen_ok]
    cases b with
    | none => rw [hb rfl]; rfl
    | some ad => simp only [Sem.run_bind, hst ad rfl, Result.andThen_ok, Sem.run_pure]
theorem run_append_new {ts : Array TypeId} {ty sT elem : TypeId} {i : TypeInfo} {z x : Value} {n sLen sCap : Nat} {b : Option Addr} (ht0 : ts[0]? = some sT) (ht1 : xOk P ts) (hu : P.underlying sT = some (.slice elem)) (hi : P.info? elem = some i) (hz : i.zero = some z)
    (hlen : ∀ w, (Builtin.lenOf x).run P w = .ok n w) {olds news : Array Value} (ho : (Builtin.firstCells i.size sLen (.slice b sLen sCap)).run P w.drew = .ok olds w.drew) (hn : (Builtin.firstCells i.size n x).run P w.drew = .ok news w.drew) (hroom : sCap < sLen + n)
    (h63 : ((sLen + n : Nat) : Int) ≤ 9223372036854775807) (hfit : Builtin.nextslicecap (sLen + n) sCap * i.bytes ≤ 281474976710656) :
    (Builtin.append_ ts ty #[.slice b sLen sCap, x]).run P w = .ok (.slice (some ⟨w.heap.size, 0, none⟩) (sLen + n) (grownCap w (sLen + n) sCap elem)) (w.drew.alloc (.cells (olds ++ news ++ Builtin.zeroCells z.cells (grownCap w (sLen + n) sCap elem - (sLen + n))) elem)) := by
  obtain ⟨xT, hx1, hx2⟩ := ht1
  have hmax : IntKind.i64.max = 9223372036854775807 := by decide
  have hask : ∀ b w, (askRoom b).run P w = .ok () w := fun b w => by unfold askRoom; split <;> rfl
  have hch : (choose (.appendCap (sLen + n) sCap elem)).run P w = .ok (grownCap w (sLen + n) sCap elem) w.drew := rfl
  unfold Builtin.append_
  rcases hx2 with ⟨e, hx2⟩ | hx2 <;>
  · simp only [ht0, hx1, List.getElem?_toArray, List.getElem?_cons_zero, List.getElem?_cons_succ, Sem.run_bind, run_underlying hu, run_underlying hx2, Result.andThen_ok, Sem.run_pure, sizeOf, typeInfo, run_program, hi]
    simp only [Bool.false_eq_true, if_false, Sem.run_bind, hlen w, Result.andThen_ok, Bool.not_false, if_true]
    rw [if_neg (by omega)]
    simp only [Sem.run_bind, Sem.run_pure, Result.andThen_ok, run_program, hi, false_or]
    rw [if_neg (by rw [hmax]; omega)]
    simp only [Sem.run_bind, Sem.run_pure, Result.andThen_ok, run_program, hi]
    rw [if_neg (by omega)]
    simp only [Sem.run_bind, Sem.run_pure, Result.andThen_ok, run_program, hi, hch, hask, ho, hn, zeroValue, typeInfo, hz]
    rfl
end
end Go.Proofs.YtamjnhpkmhbkcaaGreatDoor

/-
  PART: append: what the evaluator says of it is so.
-/
namespace Go.Proofs.YtamjnhpkmhbkcaaGreatDoor
open Go.RowKit

section
variable {FP : Nat → Prop} {E : Env} {H H' : Nat → Option Blk} {w w' : World} {nx : Nat} {wr : List Nat}
/-- Worlds of one heap. -/
structure SameHeap (w w' : World) : Prop where
  heap : w'.heap = w.heap
  os : w'.os = w.os
  tape : w'.tape = w.tape
  output : w'.output = w.output
theorem SameHeap.drew (w : World) : SameHeap w w.drew := ⟨rfl, rfl, rfl, rfl⟩
theorem SameHeap.blk (h : SameHeap w w') (b : Nat) : blkW w' b = blkW w b := by unfold blkW; rw [h.heap]
theorem Sim.same (h : Sim FP E H w) (hh : SameHeap w w') : Sim FP E H w' :=
  ⟨fun b c hb => by rw [hh.blk]; exact h.fz b c hb, h.dom, fun x hF hn hv => by rw [hh.heap]; exact h.low x hF hn hv, fun x B hF hB => by rw [hh.blk]; exact h.blk x B hF hB, h.inj⟩
theorem Pst.same (h : Sim FP E H w) (hh : SameHeap w w') : Pst FP E E H H nx nx wr w w' :=
  ⟨⟨.refl E, fun _ hx => .inl hx, h.same hh, fun b _ _ => ⟨hh.blk b, rfl⟩, fun _ h1 h2 => absurd h1 (by omega), by rw [hh.heap]; exact Nat.le_refl _, hh.os, hh.tape, hh.output⟩, fun _ _ _ h => h⟩
/-- A block let go. -/
theorem Pst.kill (h : Sim FP E H w) {y : Nat} (hH : ∀ z, H' z = if y = z then none else H z) : Pst FP E E H H' nx nx wr w w := by
  have al : ∀ z, H' z ≠ none → H z ≠ none ∧ H' z = H z := fun z hz => by
    rw [hH] at hz ⊢
    by_cases e : y = z
    · rw [if_pos e] at hz; exact absurd rfl hz
    · rw [if_neg e] at hz ⊢; exact ⟨hz, rfl⟩
  exact ⟨⟨.refl E, fun _ hx => .inl hx, ⟨h.fz, fun x hF hn => h.dom x hF (al x hn).1, fun x hF hn hv => h.low x hF (al x hn).1 hv,
    fun x B hF hB => h.blk x B hF (by rw [← (al x (by rw [hB]; simp)).2]; exact hB), fun x y' hx hy hnx hny => h.inj x y' hx hy (al x hnx).1 (al y' hny).1⟩,
    fun b _ _ => ⟨rfl, rfl⟩, fun _ h1 h2 => absurd h1 (by omega), Nat.le_refl _, rfl, rfl, rfl⟩, fun x _ _ hn => (al x hn).1⟩
/-- A block under a new name (the old one is let go). -/
theorem Pst.rename (h : Sim FP E H w) (hx : ¬ E.dom nx) {y : Nat} {B : Blk} {cp ln : Nat} (hF : FP y) (hy : H y ≠ none) (hv : E.vir y = false) (hyn : y < nx) (hwr : y ∈ wr)
    (hB : BlkR (E.add nx (E.ρ y) cp ln false) nx B (blkW w' (E.ρ y))) (hH : ∀ z, H' z = if nx = z then some B else if y = z then none else H z)
    (ho : ∀ b, b ≠ E.ρ y → blkW w' b = blkW w b) (hs : w'.heap.size = w.heap.size) (h1 : w'.os = w.os) (h2 : w'.tape = w.tape) (h3 : w'.output = w.output) :
    Pst FP E (E.add nx (E.ρ y) cp ln false) H H' nx (nx + 1) wr w w' := by
  have hl := Env.le_add (E := E) hx (E.ρ y) cp ln false
  have hρ : (E.add nx (E.ρ y) cp ln false).ρ nx = E.ρ y := by simp [Env.add]
  have al : ∀ z, nx ≠ z → H' z ≠ none → H z ≠ none ∧ y ≠ z ∧ H' z = H z := fun z hne hz => by
    rw [hH, if_neg hne] at hz ⊢
    by_cases e : y = z
    · rw [if_pos e] at hz; exact absurd rfl hz
    · rw [if_neg e] at hz ⊢; exact ⟨hz, e, rfl⟩
  obtain ⟨hlow, hfz⟩ := h.low y hF hy hv
  refine ⟨⟨hl, ?_, ⟨fun b c hb => ?_, ?_, ?_, ?_, ?_⟩, fun b _ hb => ⟨ho b (hb y hwr hyn hy hv), rfl⟩, ?_, by rw [hs]; exact Nat.le_refl _, h1, h2, h3⟩, ?_⟩
  · rintro x (rfl | hx')
    · exact .inr ⟨Nat.le_refl _, by omega⟩
    · exact .inl hx'
  · rw [ho b (fun e => by
      have hb' : E.fz b = some c := hb
      rw [e, hfz] at hb'; cases hb')]
    exact h.fz b c hb
  · intro x hF' hn
    by_cases e : nx = x
    · exact .inl e.symm
    · exact .inr (h.dom x hF' (al x e hn).1)
  · intro x hF' hn hv'
    rw [hs]
    by_cases e : nx = x
    · subst e; rw [hρ]; exact ⟨hlow, hfz⟩
    · have hn' := (al x e hn).1
      have hd := h.dom x hF' hn'
      rw [hl.ρ x hd]
      exact h.low x hF' hn' (by rw [← hl.vir x hd]; exact hv')
  · intro x B' hF' hB'
    by_cases e : nx = x
    · subst e
      rw [hH, if_pos rfl] at hB'; cases hB'
      rw [hρ]; exact hB
    · obtain ⟨hn', hne, he⟩ := al x e (by rw [hB']; simp)
      rw [he] at hB'
      have hd := h.dom x hF' hn'
      rw [hl.ρ x hd]
      have hb := (h.blk x B' hF' hB').mono hl hd
      by_cases hvx : E.vir x = true
      · cases B' with
        | fix ty cs => exact absurd hb.1 (by rw [hl.vir x hd, hvx]; simp)
        | map sh zv get has nl => exact absurd hb.1 (by rw [hl.vir x hd, hvx]; simp)
        | arr ty n k get =>
          obtain ⟨hq, hb⟩ := hb
          rcases hb with hb | hb
          · exact ⟨hq, .inl hb⟩
          · exact absurd hb.1 (by rw [hl.vir x hd, hvx]; simp)
      · rw [ho _ (fun e' => hne (h.inj y x hF hF' hy hn' hv (by simpa using hvx) e'.symm))]
        exact hb
  · intro a b hFa hFb hna hnb hva hvb he
    by_cases e1 : nx = a
    · by_cases e2 : nx = b
      · omega
      · exfalso
        obtain ⟨hn', hne, _⟩ := al b e2 hnb
        have hd := h.dom b hFb hn'
        subst e1
        rw [hρ, hl.ρ b hd] at he
        exact hne (h.inj y b hF hFb hy hn' hv (by rw [← hl.vir b hd]; exact hvb) he)
    · obtain ⟨hna', hnea, _⟩ := al a e1 hna
      have hda := h.dom a hFa hna'
      by_cases e2 : nx = b
      · exfalso
        subst e2
        rw [hρ, hl.ρ a hda] at he
        exact hnea (h.inj a y hFa hF hna' hy (by rw [← hl.vir a hda]; exact hva) hv he).symm
      · obtain ⟨hnb', _, _⟩ := al b e2 hnb
        have hdb := h.dom b hFb hnb'
        rw [hl.ρ a hda, hl.ρ b hdb] at he
        exact h.inj a b hFa hFb hna' hnb' (by rw [← hl.vir a hda]; exact hva) (by rw [← hl.vir b hdb]; exact hvb) he
  · intro x h1 h2 _ _ _
    obtain rfl : x = nx := by omega
    exact .inr ⟨y, hwr, hyn, hy, hv, hρ⟩
  · intro x hx' hF' hn
    exact (al x (by omega) hn).1
/-- A new name of a row that is nil. -/
theorem Pst.virt (h : Sim FP E H w) (hx : ¬ E.dom nx) {B : Blk} (hB : BlkR (E.add nx 0 0 0 true) nx B none) (hB' : ∀ o, BlkR (E.add nx 0 0 0 true) nx B o) (hH : ∀ z, H' z = if nx = z then some B else H z) :
    Pst FP E (E.add nx 0 0 0 true) H H' nx (nx + 1) wr w w := by
  have hl := Env.le_add (E := E) hx 0 0 0 true
  have hvr : (E.add nx 0 0 0 true).vir nx = true := by simp [Env.add]
  have al : ∀ z, nx ≠ z → H' z = H z := fun z hne => by rw [hH, if_neg hne]
  refine ⟨⟨hl, ?_, ⟨h.fz, ?_, ?_, ?_, ?_⟩, fun b _ _ => ⟨rfl, rfl⟩, ?_, Nat.le_refl _, rfl, rfl, rfl⟩, ?_⟩
  · rintro x (rfl | hx')
    · exact .inr ⟨Nat.le_refl _, by omega⟩
    · exact .inl hx'
  · intro x hF' hn
    by_cases e : nx = x
    · exact .inl e.symm
    · rw [al x e] at hn; exact .inr (h.dom x hF' hn)
  · intro x hF' hn hv'
    by_cases e : nx = x
    · subst e; rw [hvr] at hv'; cases hv'
    · rw [al x e] at hn
      have hd := h.dom x hF' hn
      rw [hl.ρ x hd]
      exact h.low x hF' hn (by rw [← hl.vir x hd]; exact hv')
  · intro x B' hF' hB''
    by_cases e : nx = x
    · subst e
      rw [hH, if_pos rfl] at hB''; cases hB''
      exact hB' _
    · rw [al x e] at hB''
      have hd := h.dom x hF' (by rw [hB'']; simp)
      rw [hl.ρ x hd]
      exact (h.blk x B' hF' hB'').mono hl hd
  · intro a b hFa hFb hna hnb hva hvb he
    by_cases e1 : nx = a
    · subst e1; rw [hvr] at hva; cases hva
    · by_cases e2 : nx = b
      · subst e2; rw [hvr] at hvb; cases hvb
      · rw [al a e1] at hna
        rw [al b e2] at hnb
        have hda := h.dom a hFa hna
        have hdb := h.dom b hFb hnb
        rw [hl.ρ a hda, hl.ρ b hdb] at he
        exact h.inj a b hFa hFb hna hnb (by rw [← hl.vir a hda]; exact hva) (by rw [← hl.vir b hdb]; exact hvb) he
  · intro x h1 h2 _ _ hv'
    obtain rfl : x = nx := by omega
    rw [hvr] at hv'; cases hv'
  · intro x hx' hF' hn
    rw [al x (by omega)] at hn; exact hn
end
section
variable {P : Program} {o : Oper} {st st' : St} {a : AV} {w : World} {E : Env}
theorem load_seg {b off m : Nat} {c : Array Value} {ty : TypeId} {fr : Nat × Nat} (hb : blkW w b = some (.cells c ty fr)) (hle : off + m ≤ c.size) : (loadCells ⟨b, off, none⟩ m).run P w = .ok ((c.toList.drop off).take m).toArray w := by
  have hl : ((c.toList.drop off).take m).length = m := take_len (by simpa using hle)
  have hc := run_loadCells_list (P := P) (w := w) ⟨b, off, none⟩ ((c.toList.drop off).take m) (fun j v hj => by
    have hadd : (⟨b, off, none⟩ : Addr).add j = ⟨b, off + j, none⟩ := by unfold Addr.add; split <;> simp_all
    rw [hadd, cell_blk hb, ← Array.getElem?_toList]
    rw [List.getElem?_take] at hj
    split at hj
    · rw [List.getElem?_drop] at hj; exact hj
    · cases hj)
  rwa [hl] at hc
/-- What a row's cells are. -/
structure RowIs (P : Program) (E : Env) (k : Nat) (q : Row) (v : Value) (w : World) (news : Array Value) : Prop where
  len : ∀ w, (Builtin.lenOf v).run P w = .ok q.n w
  cells : ∀ w', SameHeap w w' → (Builtin.firstCells k q.n v).run P w' = .ok news w'
  size : news.size = q.n * k
  one : One news.toList
  rep : ∀ i, i < q.n → Reps E (q.get i) ((news.toList.drop (i * k)).take k)
theorem seg_seg {l : List Value} {off n k i : Nat} (hi : i < n) : (((l.drop off).take (n * k)).drop (i * k)).take k = (l.drop (off + i * k)).take k := by
  refine toList_seg ?_
  have := Nat.mul_le_mul_right k (show i + 1 ≤ n from hi)
  rw [Nat.add_mul, Nat.one_mul] at this
  omega
theorem str_row {s : ByteArray} (E : Env) {g : Nat → List AV} (hg : ∀ i, i < s.size → g i = [.lit (.int .u8 (s.data.getD i 0).toNat)] ∨ g i = [.v (.int .u8 (s.data.getD i 0).toNat)]) (nl : Bool) : RowIs P E 1 ⟨s.size, nl, g⟩ (.string s) w (s.data.map fun b => .int .u8 b.toNat) := by
  have hx : (s.extract 0 s.size).data = s.data := by
    show (s.extract 0 s.size).data = s.data
    simp
  refine ⟨fun w => rfl, fun w' _ => ?_, by simp, fun v hv => ?_, fun i hi => ?_⟩
  · show Sem.run P (pure (((s.extract 0 s.size).data).map fun b => Value.int .u8 b.toNat)) w' = _
    rw [hx]; rfl
  · simp only [Array.toList_map, List.mem_map] at hv
    obtain ⟨b, _, rfl⟩ := hv
    rfl
  · have hlt : i < s.data.size := hi
    have e : (((s.data.map fun b => Value.int .u8 b.toNat).toList.drop (i * 1)).take 1) = [.int .u8 (s.data.getD i 0).toNat] := by
      rw [Nat.mul_one, List.drop_eq_getElem_cons (by simpa using hlt)]
      simp [Array.getD, show i < s.size from hi]
    show Reps E (g i) _
    rw [e]
    rcases hg i hi with h | h <;> rw [h]
    · exact .cons (.lit _ rfl) .nil
    · exact .cons (.v _ rfl) .nil
theorem rowOf_ok {FP : Nat → Prop} {k : Nat} {x : AV} {q : Row} {xs : List Nat} (hk : 1 ≤ k) (h : rowOf st k x = some (q, xs)) (hS : Sim FP E (hget st.hp) w) (hF : ∀ y, y ∈ xs → FP y) {v : Value} (hv : Rep E x v) : ∃ news, RowIs P E k q v w news := by
  unfold rowOf at h
  split at h
  · cases h; cases hv
    exact ⟨#[], fun w => rfl, fun w' _ => rfl, by simp, fun v hv => (by simp at hv), fun i hi => absurd hi (by simp)⟩
  · rename_i n k' get nl full
    split at h
    · rename_i hkk
      obtain rfl := Nat.eq_of_beq_eq_true hkk
      cases h
      cases hv with
      | slNil hn => subst hn; exact ⟨#[], fun w => rfl, fun w' _ => rfl, by simp, fun v hv => (by simp at hv), fun i hi => absurd hi (by simp)⟩
      | slEmp hn _ => subst hn; exact ⟨#[], fun w => rfl, fun w' _ => by simp [Builtin.firstCells, loadCells, loadCellsFrom], by simp, fun v hv => (by simp at hv), fun i hi => absurd hi (by simp)⟩
      | @sl _ _ b off cap _ _ _ c q1 q2 q3 q4 q5 q6 =>
        obtain ⟨ty, fr, hb⟩ := hS.fz b c q1
        refine ⟨((c.toList.drop off).take (n * k)).toArray, fun w => rfl, fun w' hw => load_seg (by rw [hw.blk]; exact hb) q2, ?_, ?_, fun i hi => ?_⟩
        · rw [List.size_toArray]; exact take_len (by simpa using q2)
        · rw [List.toList_toArray]; exact q6
        · rw [List.toList_toArray, seg_seg hi]; exact q5 i hi
    · cases h
  · rename_i y n k' nl
    split at h
    · rename_i ty m k'' get hkk hb
      obtain rfl := Nat.eq_of_beq_eq_true hkk
      split at h
      · rename_i hk2
        obtain rfl := Nat.eq_of_beq_eq_true hk2
        cases h
        obtain ⟨hln, hB⟩ := hS.blk y _ (hF y (by simp)) hb
        cases hv with
        | ownNil _ _ hn _ => subst hn; exact ⟨#[], fun w => rfl, fun w' _ => rfl, by simp, fun v hv => (by simp at hv), fun i hi => absurd hi (by simp)⟩
        | own hd hvir hn =>
          rcases hB with ⟨h1, _⟩ | ⟨_, c, _, hc1, _, hc2, hc3, hc4, hc5⟩
          · rw [hvir] at h1; cases h1
          · have hnm : n = m := by omega
            subst hnm
            have hle : 0 + n * k ≤ c.size := by rw [hc2, Nat.zero_add]; exact Nat.mul_le_mul_right _ hc3
            refine ⟨((c.toList.drop 0).take (n * k)).toArray, fun w => rfl, fun w' hw => load_seg (by rw [hw.blk]; exact hc1) hle, ?_, ?_, fun i hi => ?_⟩
            · rw [List.size_toArray]; exact take_len (by simpa using hle)
            · rw [List.toList_toArray]; exact (hc4.drop _).take _
            · rw [List.toList_toArray, seg_seg hi, Nat.zero_add]; exact hc5 i hi
      · cases h
    · cases h
  · rename_i y off n k'
    split at h
    · rename_i ty cs hkk hb
      obtain rfl := Nat.eq_of_beq_eq_true hkk
      split at h
      · rename_i hle
        have hle := Nat.le_of_ble_eq_true hle
        cases h
        obtain ⟨hvir, c, hc1, hc2, hc3⟩ := blk_fix hS (hF y (by simp)) hb
        have hcl := hc2.len
        have hcz : c.toList.length = c.size := by simp
        cases hv with
        | slv hd =>
          refine ⟨((c.toList.drop off).take (n * k)).toArray, fun w => rfl, fun w' hw => load_seg (by rw [hw.blk]; exact hc1) (show off + n * k ≤ c.size by omega), ?_, ?_, fun i hi => ?_⟩
          · rw [List.size_toArray]; exact take_len (by omega)
          · rw [List.toList_toArray]; exact (hc3.drop _).take _
          · rw [List.toList_toArray, seg_seg hi]; exact (hc2.drop _).take _
      · cases h
    · cases h
  · rename_i s
    split at h
    · rename_i hk1
      have := Nat.eq_of_beq_eq_true hk1
      subst this
      cases h; cases hv
      exact ⟨_, str_row E (fun i _ => .inl rfl) true⟩
    · cases h
  · rename_i s
    split at h
    · rename_i hk1
      have := Nat.eq_of_beq_eq_true hk1
      subst this
      cases h; cases hv
      exact ⟨_, str_row E (fun i _ => .inr rfl) false⟩
    · cases h
  · cases h
theorem seg_app_l {l m : List Value} {i k n : Nat} (hl : l.length = n * k) (hi : i < n) : ((l ++ m).drop (i * k)).take k = (l.drop (i * k)).take k := by
  have h2 := Nat.mul_le_mul_right k (show i + 1 ≤ n from hi)
  rw [Nat.add_mul, Nat.one_mul] at h2
  rw [List.drop_append_of_le_length (by omega), List.take_append_of_le_length (by rw [List.length_drop]; omega)]
theorem seg_app_r {l m : List Value} {i k n : Nat} (hl : l.length = n * k) (hi : n ≤ i) : ((l ++ m).drop (i * k)).take k = (m.drop ((i - n) * k)).take k := by
  have h2 := Nat.mul_le_mul_right k hi
  have e : i * k = l.length + (i - n) * k := by rw [Nat.sub_mul]; omega
  rw [e, ← List.drop_drop, List.drop_left]
theorem catIx_eq {q : Row} {j : Nat} (h : j < q.n) : catIx q j = j := by
  unfold catIx
  split
  · rename_i hb
    simp only [Bool.and_eq_true] at hb
    have := Nat.eq_of_beq_eq_true hb.2
    omega
  · rfl
theorem cat_rep {k : Nat} {r q : Row} {u v : Value} {olds news : Array Value} (h1 : RowIs P E k r u w olds) (h2 : RowIs P E k q v w news) {i : Nat} (hi : i < r.n + q.n) : Reps E (catGet k r q i) (((olds.toList ++ news.toList).drop (i * k)).take k) := by
  have hs1 : olds.toList.length = r.n * k := by rw [Array.length_toList]; exact h1.size
  have hs2 : news.toList.length = q.n * k := by rw [Array.length_toList]; exact h2.size
  have fitk : ∀ (l m : List AV) (vs : List Value) (c : Bool), vs.length = k → (if c = true then Reps E l vs else Reps E m vs) → Reps E (fit k (zipU (mux muxD c) l m)) vs := fun l m vs c hl h => zipU_fit (muxD_ok c) hl h
  unfold catGet
  cases hnl : r.nl with
  | true =>
    simp only []
    by_cases h : i < r.n
    · have : Nat.ble r.n i = false := by
        cases hb : Nat.ble r.n i
        · rfl
        · have := Nat.le_of_ble_eq_true hb; omega
      rw [this, seg_app_l hs1 h]; exact h1.rep i h
    · have : Nat.ble r.n i = true := Nat.ble_eq_true_of_le (by omega)
      rw [this, seg_app_r hs1 (by omega)]; exact h2.rep _ (by omega)
  | false =>
    simp only []
    by_cases h : i < r.n
    · rw [seg_app_l hs1 h]
      refine fitk _ _ _ _ (take_len ?_) (by rw [decide_eq_true h]; simpa using h1.rep i h)
      have := seg_le (off := 0) (k := k) h (size := olds.toList.length) (by omega)
      omega
    · rw [seg_app_r hs1 (by omega)]
      refine fitk _ _ _ _ (take_len ?_) (by rw [decide_eq_false h, catIx_eq (show i - r.n < q.n by omega)]; simpa using h2.rep _ (by omega))
      have := seg_le (off := 0) (k := k) (show i - r.n < q.n by omega) (size := news.toList.length) (by omega)
      omega
theorem one_zeroCells {z : Array Value} (h : One z.toList) (hz : 1 ≤ z.size) (n : Nat) : One (Builtin.zeroCells z n).toList := by
  intro v hv
  simp only [Builtin.zeroCells, Array.toList_map, List.mem_map] at hv
  obtain ⟨i, _, rfl⟩ := hv
  have hlt : i % z.size < z.size := Nat.mod_lt _ hz
  rw [getElem!_pos z _ hlt]
  exact h _ (by simp)
theorem foldl_read (xs : List Nat) : ∀ st : St, Grew st (xs.foldl St.read st) ∧ (xs.foldl St.read st).hp = st.hp ∧ (xs.foldl St.read st).nx = st.nx ∧ (xs.foldl St.read st).sl = st.sl ∧ ∀ y, y ∈ xs → y ∈ (xs.foldl St.read st).rd := by
  induction xs with
  | nil => exact fun st => ⟨.refl st, rfl, rfl, rfl, fun y h => by cases h⟩
  | cons x xs ih =>
    intro st
    obtain ⟨h1, h2, h3, h4, h5⟩ := ih (st.read x)
    refine ⟨(Grew.read st x).trans h1, h2, h3, h4, fun y hy => ?_⟩
    rcases List.mem_cons.1 hy with rfl | hy
    · exact h1.rd y (mem_ins.2 (.inl rfl))
    · exact h5 y hy
end
end Go.Proofs.YtamjnhpkmhbkcaaGreatDoor

/-
  PART: append, the operation.
-/
namespace Go.Proofs.YtamjnhpkmhbkcaaGreatDoor
open Go.RowKit

section
variable {P : Program} {o : Oper} {st st' : St} {a : AV} {w : World} {E : Env}
/-- How a row stands as the first operand. -/
structure Base (P : Program) (E : Env) (k : Nat) (r : Row) (s : Value) (w : World) (olds : Array Value) (b : Option Addr) (cap : Nat) : Prop where
  row : RowIs P E k r s w olds
  eq : s = .slice b r.n cap
theorem wraps (N by1 : Nat) (h : N ≤ maxAppend) (h2 : N * by1 ≤ maxAppend) {old : Nat} (hg : old < N) : ((N : Nat) : Int) ≤ 9223372036854775807 ∧ Builtin.nextslicecap N old * by1 ≤ 281474976710656 := by
  unfold maxAppend at h h2
  exact ⟨by omega, growslice_fits hg (by omega)⟩
theorem args2 {c : Call} {s x : AV} (hargs : c.args.toList.map st.val = [s, x]) (ho : o.op = .call c) {act : Act} (hx : ∀ x, x ∈ o.op.operands → Rep E (st.val x) (act.eval x)) : ∃ vs vx, c.args.map act.eval = #[vs, vx] ∧ Rep E s vs ∧ Rep E x vx := by
  have hR := args_rep ho hx
  rw [hargs] at hR
  generalize hL : (c.args.map act.eval).toList = L at hR
  cases hR with | cons k1 k2 => cases k2 with | cons k3 k4 => cases k4; exact ⟨_, _, by rw [← Array.toArray_toList (xs := c.args.map act.eval), hL], k1, k3⟩
/-- A grown row in new memory. -/
theorem app_new {c : Call} (ho : o.op = .call c) (hc : c.callee = .builtin .append) {sT elem : TypeId} {k N : Nat} {i : TypeInfo} {z : Value} (ht0 : c.argTypes[0]? = some sT) (hx : xOk P c.argTypes) (hu : P.underlying sT = some (.slice elem)) (hi : P.info? elem = some i) (hz : i.zero = some z) (hzk : z.cells.size = k) (hk : 1 ≤ k) (hik : i.size = k) (hone : One z.cells.toList)
    {r q : Row} (hN : N = r.n + q.n) (hb1 : N * i.bytes ≤ maxAppend) (hb2 : N ≤ maxAppend) {rr : Option Nat} {FP : Nat → Prop} {act : Act} {K : Act → World → Prop} {Q : Exit → Act → World → Prop} {H H' : Nat → Option Blk} {nx : Nat} {wr : List Nat} {nl : Bool}
    {vs vx : Value} (hargs : c.args.map act.eval = #[vs, vx]) {olds news : Array Value} {b : Option Addr} {cap : Nat} (hB : Base P E k r vs w olds b cap) (hq : RowIs P E k q vx w news) (hg : cap < N)
    (hnx : ¬ E.dom nx) (hF : FP nx) (hwr : nx ∈ wr) (hS : Sim FP E H w) (hH : ∀ y, H' y = if nx = y then some (.arr elem N k (catGet k r q)) else H y)
    (hk' : ∀ E' v w', Rep E' (.own nx N k nl) v → Pst FP E E' H H' nx (nx + 1) wr w w' → K (act.put o.dst v) w') : o.wpIn (wideR rr) 0 P act w K Q := by
  subst hN
  obtain ⟨w1, w2⟩ := wraps _ _ hb2 hb1 hg
  have hrun := run_append_new (ty := o.type) ht0 hx hu hi hz hq.len (olds := olds) (news := news) (sLen := r.n) (sCap := cap) (b := b) (w := w)
    (by have := hB.row.cells w.drew (.drew w); rw [hB.eq] at this; rw [hik]; exact this) (by rw [hik]; exact hq.cells w.drew (.drew w)) hg w1 w2
  have hex : (execOp act.eval o).run P w = .ok (.value (.slice (some ⟨w.heap.size, 0, none⟩) (r.n + q.n) (grownCap w (r.n + q.n) cap elem))) (w.drew.alloc (.cells (olds ++ news ++ Builtin.zeroCells z.cells (grownCap w (r.n + q.n) cap elem - (r.n + q.n))) elem)) := by
    rw [exec_builtin ho hc, hargs, hB.eq]
    simp [builtin, hrun]
  have hcapg := grownCap_ge w (need := r.n + q.n) cap elem
  generalize hG : grownCap w (r.n + q.n) cap elem = G at hex hcapg
  have hl := Env.le_add (E := E) hnx w.heap.size G (r.n + q.n) false
  have hρ : (E.add nx w.heap.size G (r.n + q.n) false).ρ nx = w.heap.size := by simp [Env.add]
  have hcp : (E.add nx w.heap.size G (r.n + q.n) false).cp nx = G := by simp [Env.add]
  have hln : (E.add nx w.heap.size G (r.n + q.n) false).ln nx = r.n + q.n := by simp [Env.add]
  have hvr : (E.add nx w.heap.size G (r.n + q.n) false).vir nx = false := by simp [Env.add]
  refine op_value (nd_call ho) hex (hk' (E.add nx w.heap.size G (r.n + q.n) false) _ _ ?_ ?_)
  · have hd : (E.add nx w.heap.size G (r.n + q.n) false).dom nx := Or.inl rfl
    have := Rep.own (n := r.n + q.n) (k := k) (nl := nl) hd hvr hln.symm
    rwa [hρ, hcp] at this
  · have hB' : BlkR (E.add nx w.drew.heap.size G (r.n + q.n) false) nx (.arr elem (r.n + q.n) k (catGet k r q)) (some (.cells (olds ++ news ++ Builtin.zeroCells z.cells (G - (r.n + q.n))) elem (0, 0))) := by
      refine ⟨hln.symm, .inr ⟨hvr, _, (0, 0), rfl, unm0 _, ?_, by rw [show (E.add nx w.drew.heap.size G (r.n + q.n) false).cp nx = G from hcp]; exact hcapg, ?_, fun j hj => ?_⟩⟩
      · rw [show (E.add nx w.drew.heap.size G (r.n + q.n) false).cp nx = G from hcp, Array.size_append, Array.size_append, hB.row.size, hq.size, size_zeroCells, hzk, ← Nat.add_mul, ← Nat.add_mul]
        congr 1; omega
      · rw [Array.toList_append, Array.toList_append]
        exact (hB.row.one.app hq.one).app (one_zeroCells hone (by omega) _)
      · rw [Array.toList_append, Array.toList_append, seg_app_l (n := r.n + q.n) (by rw [List.length_append, Array.length_toList, Array.length_toList, hB.row.size, hq.size, Nat.add_mul]) hj]
        exact (cat_rep hB.row hq hj).mono hl
    have p1 : Pst FP E E H H nx nx wr w w.drew := .same hS (.drew w)
    have p2 := Pst.alloc (wr := wr) (hS.same (.drew w)) hnx hF hwr hB' hH
    have le1 : ∀ x, x ∈ wr → FP x ∨ True := fun _ _ => .inr trivial
    exact ⟨⟨p2.le, p2.dom, p2.sim, fun b hb hh => ⟨(p2.frame b hb hh).1, (p2.frame b hb hh).2⟩, p2.news, p2.size, p2.os, p2.tape, p2.output⟩, p2.old⟩
/-- A row that stays nil. -/
theorem app_nil {c : Call} (ho : o.op = .call c) (hc : c.callee = .builtin .append) {sT elem : TypeId} {k N : Nat} {i : TypeInfo} (ht0 : c.argTypes[0]? = some sT) (hx : xOk P c.argTypes) (hu : P.underlying sT = some (.slice elem)) (hi : P.info? elem = some i) (hik : i.size = k)
    {r q : Row} (hN : N = r.n + q.n) {rr : Option Nat} {FP : Nat → Prop} {act : Act} {K : Act → World → Prop} {Q : Exit → Act → World → Prop} {H H' : Nat → Option Blk} {nx : Nat} {wr : List Nat} {nl : Bool} {get : Nat → List AV}
    {vs vx : Value} (hargs : c.args.map act.eval = #[vs, vx]) {olds news : Array Value} (hB : Base P E k r vs w olds none 0) (hq : RowIs P E k q vx w news) (h0 : N = 0)
    (hnx : ¬ E.dom nx) (hS : Sim FP E H w) (hH : ∀ y, H' y = if nx = y then some (.arr elem N k get) else H y)
    (hk' : ∀ E' v w', Rep E' (.own nx N k nl) v → Pst FP E E' H H' nx (nx + 1) wr w w' → K (act.put o.dst v) w') : o.wpIn (wideR rr) 0 P act w K Q := by
  have hr0 : r.n = 0 := by omega
  have hq0 : q.n = 0 := by omega
  have hrun := run_append_no (ty := o.type) (sLen := r.n) (sCap := 0) (b := none) (w := w) (w' := w) ht0 hx hu hi hq.len (by rw [hik]; exact hq.cells w ⟨rfl, rfl, rfl, rfl⟩) (by omega) (fun ad h => by cases h) (fun _ => rfl)
  rw [hr0, hq0] at hrun
  have hex : (execOp act.eval o).run P w = .ok (.value (.slice none 0 0)) w := by
    rw [exec_builtin ho hc, hargs, hB.eq, hr0]
    simp only [builtin, Sem.run_bind, hrun, Result.andThen_ok, Sem.run_pure]
  have hvr : (E.add nx 0 0 0 true).vir nx = true := by simp [Env.add]
  have hln : (E.add nx 0 0 0 true).ln nx = 0 := by simp [Env.add]
  have hb : ∀ o, BlkR (E.add nx 0 0 0 true) nx (.arr elem N k get) o := fun o => ⟨by rw [h0, hln], .inl ⟨hvr, h0⟩⟩
  refine op_value (nd_call ho) hex (hk' _ _ _ (.ownNil (Or.inl rfl) hvr h0 (by rw [h0, hln])) (Pst.virt hS hnx (hb _) hb hH))
/-- A row grown in place. -/
theorem app_room {c : Call} (ho : o.op = .call c) (hc : c.callee = .builtin .append) {sT elem : TypeId} {k N : Nat} {i : TypeInfo} (ht0 : c.argTypes[0]? = some sT) (hx : xOk P c.argTypes) (hu : P.underlying sT = some (.slice elem)) (hi : P.info? elem = some i) (hik : i.size = k)
    {r q : Row} (hN : N = r.n + q.n) {rr : Option Nat} {FP : Nat → Prop} {act : Act} {K : Act → World → Prop} {Q : Exit → Act → World → Prop} {H H' : Nat → Option Blk} {nx : Nat} {wr : List Nat} {nl : Bool}
    {vs vx : Value} (hargs : c.args.map act.eval = #[vs, vx]) {olds news : Array Value} {y : Nat} (hB : Base P E k r vs w olds (some ⟨E.ρ y, 0, none⟩) (E.cp y)) (hq : RowIs P E k q vx w news) (hroom : N ≤ E.cp y)
    {cc : Array Value} {ty : TypeId} {fr : Nat × Nat} (hcc : blkW w (E.ρ y) = some (.cells cc ty fr)) (hfr : Unm fr cc.size) (hsz : cc.size = E.cp y * k) (hone : One cc.toList) (hty : ty = elem) (hold : olds.toList = (cc.toList.drop 0).take (r.n * k))
    (hnx : ¬ E.dom nx) (hS : Sim FP E H w) (hF : FP y) (hy : H y ≠ none) (hv : E.vir y = false) (hyn : y < nx) (hwr : y ∈ wr) (hH : ∀ z, H' z = if nx = z then some (.arr elem N k (catGet k r q)) else if y = z then none else H z)
    (hk' : ∀ E' v w', Rep E' (.own nx N k nl) v → Pst FP E E' H H' nx (nx + 1) wr w w' → K (act.put o.dst v) w') : o.wpIn (wideR rr) 0 P act w K Q := by
  subst hN; subst hty
  have hns : news.toList.length = q.n * k := by rw [Array.length_toList]; exact hq.size
  have hNk : (r.n + q.n) * k ≤ cc.size := by rw [hsz]; exact Nat.mul_le_mul_right _ hroom
  rw [Nat.add_mul] at hNk
  have hstore := run_storeCells_atM (P := P) (E.ρ y) (r.n * k) ty fr news.toList 0 cc w hcc hfr (by omega) (fun u hu' => by rw [one_iff]; exact hq.one u hu')
  rw [Nat.add_zero, hns] at hstore
  have hadd : (⟨E.ρ y, 0, none⟩ : Addr).add (r.n * i.size) = ⟨E.ρ y, r.n * k, none⟩ := by rw [hik]; unfold Addr.add; split <;> simp_all
  have hrun := run_append_no (ty := o.type) (sLen := r.n) (sCap := E.cp y) (b := some ⟨E.ρ y, 0, none⟩) (w := w) ht0 hx hu hi hq.len (by rw [hik]; exact hq.cells w ⟨rfl, rfl, rfl, rfl⟩) hroom (fun ad h => by cases h; rw [hadd]; exact hstore) (fun h => by cases h)
  have hex : (execOp act.eval o).run P w = .ok (.value (.slice (some ⟨E.ρ y, 0, none⟩) (r.n + q.n) (E.cp y))) (w.setRow (E.ρ y) (cc.toList.take (r.n * k) ++ news.toList ++ cc.toList.drop (r.n * k + q.n * k)).toArray) := by
    rw [exec_builtin ho hc, hargs, hB.eq]
    simp only [builtin, Sem.run_bind, hrun, Result.andThen_ok, Sem.run_pure]
  have hl := Env.le_add (E := E) hnx (E.ρ y) (E.cp y) (r.n + q.n) false
  have hρ : (E.add nx (E.ρ y) (E.cp y) (r.n + q.n) false).ρ nx = E.ρ y := by simp [Env.add]
  have hcp : (E.add nx (E.ρ y) (E.cp y) (r.n + q.n) false).cp nx = E.cp y := by simp [Env.add]
  have hln : (E.add nx (E.ρ y) (E.cp y) (r.n + q.n) false).ln nx = r.n + q.n := by simp [Env.add]
  have hvr : (E.add nx (E.ρ y) (E.cp y) (r.n + q.n) false).vir nx = false := by simp [Env.add]
  refine op_value (nd_call ho) hex (hk' (E.add nx (E.ρ y) (E.cp y) (r.n + q.n) false) _ _ ?_ (Pst.rename hS hnx hF hy hv hyn hwr ?_ hH (fun b hne => blkW_setRow_other w _ _ hne) (setRow_size ..) rfl rfl rfl))
  · have hd : (E.add nx (E.ρ y) (E.cp y) (r.n + q.n) false).dom nx := Or.inl rfl
    have := Rep.own (n := r.n + q.n) (k := k) (nl := nl) hd hvr hln.symm
    rwa [hρ, hcp] at this
  · rw [blkW_setRow_same hcc]
    have hcl : cc.toList.length = cc.size := by simp
    refine ⟨hln.symm, .inr ⟨hvr, _, fr, rfl, ?_, ?_, by rw [hcp]; exact hroom, ?_, fun j hj => ?_⟩⟩
    · rw [List.size_toArray, splice_len hns (by omega), hcl]; exact hfr
    · rw [List.size_toArray, splice_len hns (by omega), hcl, hcp, hsz]
    · rw [List.toList_toArray]; exact one_splice hone hq.one
    · rw [List.toList_toArray]
      have e : cc.toList.take (r.n * k) = olds.toList := by rw [hold, List.drop_zero]
      rw [e, seg_app_l (n := r.n + q.n) (by rw [List.length_append, hns, Array.length_toList, hB.row.size, Nat.add_mul]) hj]
      exact (cat_rep hB.row hq hj).mono hl
theorem needq {α : Type} {b : Bool} {m : Nat} {t : Tree α} {y : α} (hb : b = true → 1 ≤ m) (h : (match (generalizing := false) b with
    | true => t
    | false => .side (1 ≤ m) t : Tree α).hit y) : 1 ≤ m ∧ t.hit y := by
  cases b with
  | true => exact ⟨hb rfl, h⟩
  | false => exact h
theorem needq2 {α : Type} {b : Bool} {m : Nat} {r y : α} {t : Tree α} (h : (match (generalizing := false) b with
    | true => match Nat.ble 1 m with
      | true => t
      | false => .ret r
    | false => .br (decide (m = 0)) (.ret r) t).hit y) : (1 ≤ m ∧ t.hit y) ∨ (m = 0 ∧ r = y) := by
  cases b with
  | true =>
    cases hm : Nat.ble 1 m with
    | true => rw [hm] at h; exact .inl ⟨Nat.le_of_ble_eq_true hm, h⟩
    | false =>
      rw [hm] at h
      refine .inr ⟨?_, h⟩
      cases m with
      | zero => rfl
      | succ m => have : Nat.ble 1 (m + 1) = true := Nat.ble_eq_true_of_le (by omega); rw [this] at hm; cases hm
  | false =>
    rcases h with ⟨h1, h2⟩ | ⟨h1, h2⟩
    · exact .inr ⟨of_decide_eq_true h1, h2⟩
    · have := of_decide_eq_false h1
      exact .inl ⟨by omega, h2⟩
theorem append_ok {c : Call} (ho : o.op = .call c) (hc : c.callee = .builtin .append) {sT : TypeId} {s x : AV} (hargs : c.args.toList.map st.val = [s, x]) (ht0 : c.argTypes[0]? = some sT) (hxx : xOk P c.argTypes) (h : (appendA P sT s x st).hit (a, st')) : OpOk P o st a st' := by
  unfold appendA at h
  split at h
  · rename_i elem hu
    split at h
    · rename_i k zc hs hz
      split at h
      · rename_i r rs q xs hcond hr hq
        simp only [Bool.and_eq_true] at hcond
        have hzl := Nat.eq_of_beq_eq_true hcond.1
        have hk := Nat.le_of_ble_eq_true hcond.2
        obtain ⟨i, z, hi, hzz, rfl, hone⟩ := zero_info hz
        have hzk : z.cells.size = k := by simpa using hzl
        have hik : i.size = k := by
          obtain ⟨i', hi', e⟩ := size_info hs
          rw [hi] at hi'; cases hi'; exact e
        have hbo : P.bytesOf elem = i.bytes := by simp [Program.bytesOf, hi]
        obtain ⟨g1, g2, g3, g4, g5⟩ := foldl_read xs st
        generalize hst1 : xs.foldl St.read st = st1 at h g1 g2 g3 g4 g5
        simp only [] at h
        have hd := nd_call ho
        split at h
        · -- own
          rename_i y n k' nl
          split at h
          · exact h.elim
          · rename_i hel
            split at h
            · rename_i ty m k'' get hb
              split at h
              · rename_i hty
                obtain rfl := Nat.eq_of_beq_eq_true hty
                rw [g2] at hb
                obtain ⟨⟨hb1, hb2⟩, h⟩ := closed_hit h
                cases h
                have hg : Grew st ((st1.write y none).new (.arr ty (r.n + q.n) k (catGet k r q))) := (g1.trans (.write st1 y none (.inl rfl))).trans (.new _ _)
                refine ⟨hg, g4, fun rr FP E act w K Q hwf hcov hfree hS hx hk' => ?_⟩
                have hnx1 : (st1.write y none).nx = st.nx := g3
                have hal : hget st.hp y ≠ none := by rw [hb]; simp
                have hFx : ∀ y', y' ∈ xs → FP y' := fun y' hy => hcov y' (.inl ((Grew.trans (.write st1 y none (.inl rfl)) (.new _ _)).rd y' (g5 y' hy)))
                have hFy : FP y := hcov y (.inr (.inl ((Grew.new (st1.write y none) _).wr y (mem_ins.2 (.inl rfl)))))
                have hFn : FP st.nx := hcov st.nx (.inr (.inr ⟨Nat.le_refl _, by show st.nx < st1.nx + 1; omega⟩))
                obtain ⟨vs, vx, ha, hvs, hvx⟩ := args2 hargs ho hx
                obtain ⟨news, hnews⟩ := rowOf_ok (P := P) (w := w) hk hq hS hFx hvx
                obtain ⟨olds, holds⟩ := rowOf_ok (P := P) (w := w) hk hr hS (fun y' hy' => by
                  unfold rowOf at hr
                  simp only [] at hr
                  split at hr
                  · split at hr
                    · cases hr; simp at hy'; rw [hy']; exact hFy
                    · cases hr
                  · cases hr) hvs
                have hnx : ¬ E.dom st.nx := hfree st.nx (Nat.le_refl _) (by show st.nx < st1.nx + 1; omega)
                have hH : ∀ z', hget ((st1.write y none).new (.arr ty (r.n + q.n) k (catGet k r q))).hp z' = if st.nx = z' then some (.arr ty (r.n + q.n) k (catGet k r q)) else if y = z' then none else hget st.hp z' := fun z' => by
                  rw [hget_new, hnx1, hget_write, g2]
                have hyn := hwf y hal
                have hwrn : st.nx ∈ ((st1.write y none).new (.arr ty (r.n + q.n) k (catGet k r q))).wr := mem_ins.2 (.inl hnx1.symm)
                have hwry : y ∈ ((st1.write y none).new (.arr ty (r.n + q.n) k (catGet k r q))).wr := (Grew.new (st1.write y none) _).wr y (mem_ins.2 (.inl rfl))
                have hk2 : ∀ E' v w', Rep E' (.own st.nx (r.n + q.n) k (r.nl && q.nl)) v → Pst FP E E' (hget st.hp) (hget ((st1.write y none).new (.arr ty (r.n + q.n) k (catGet k r q))).hp) st.nx (st.nx + 1) ((st1.write y none).new (.arr ty (r.n + q.n) k (catGet k r q))).wr w w' → K (act.put o.dst v) w' := by
                  intro E' v w' h1 h2
                  refine hk' E' v w' ?_ ?_
                  · rw [show (st1.write y none).nx = st.nx from g3]; exact h1
                  · rw [show ((st1.write y none).new (.arr ty (r.n + q.n) k (catGet k r q))).nx = st.nx + 1 from by show st1.nx + 1 = _; rw [g3]]; exact h2
                -- through the state in which y is let go
                let H1 : Nat → Option Blk := fun z' => if y = z' then none else hget st.hp z'
                have pk : Pst FP E E (hget st.hp) H1 st.nx st.nx ((st1.write y none).new (.arr ty (r.n + q.n) k (catGet k r q))).wr w w := Pst.kill hS (y := y) (fun z' => rfl)
                have hwF : ∀ x, x ∈ ((st1.write y none).new (.arr ty (r.n + q.n) k (catGet k r q))).wr → FP x := fun x hx => hcov x (.inr (.inl hx))
                have hk3 : ∀ E' v w', Rep E' (.own st.nx (r.n + q.n) k (r.nl && q.nl)) v → Pst FP E E' H1 (hget ((st1.write y none).new (.arr ty (r.n + q.n) k (catGet k r q))).hp) st.nx (st.nx + 1) ((st1.write y none).new (.arr ty (r.n + q.n) k (catGet k r q))).wr w w' → K (act.put o.dst v) w' := fun E' v w' h1 h2 =>
                  hk2 E' v w' h1 (Pst.trans hS hwF pk h2 (Nat.le_refl _) (Nat.le_succ _))
                have hrn : r.n = n := by
                  unfold rowOf at hr
                  simp only [] at hr
                  split at hr
                  · split at hr
                    · cases hr; rfl
                    · cases hr
                  · cases hr
                cases hvs with
                | ownNil hdm hvir hn0 hln =>
                  have hB : Base P E k r (.slice none 0 0) w olds none 0 := ⟨holds, by rw [hrn, hn0]⟩
                  by_cases hz0 : r.n + q.n = 0
                  · exact app_nil ho hc ht0 hxx hu hi hik rfl ha hB hnews hz0 hnx pk.sim hH hk3
                  · exact app_new ho hc ht0 hxx hu hi hzz hzk hk hik hone rfl (by rw [← hbo]; exact hb1) hb2 ha hB hnews (by omega) hnx hFn hwrn pk.sim hH hk3
                | own hdm hvir hln =>
                  have hB : Base P E k r (.slice (some ⟨E.ρ y, 0, none⟩) n (E.cp y)) w olds (some ⟨E.ρ y, 0, none⟩) (E.cp y) := ⟨holds, by rw [hrn]⟩
                  obtain ⟨hbl, hblk⟩ := hS.blk y _ hFy hb
                  rcases hblk with ⟨hv1, _⟩ | ⟨_, cc, fr, hc1, hfr, hc2, hc3, hc4, hc5⟩
                  · rw [hvir] at hv1; cases hv1
                  · have hkk : k'' = k := by
                      cases hq2 : Nat.beq k k'' with
                      | true => exact (Nat.eq_of_beq_eq_true hq2).symm
                      | false =>
                        unfold rowOf at hr
                        cases hq3 : Nat.beq k k' <;> simp [hb, hq2, hq3] at hr
                    subst hkk
                    by_cases hroom : r.n + q.n ≤ E.cp y
                    · have hle : 0 + n * k'' ≤ cc.size := by rw [hc2, Nat.zero_add]; exact Nat.mul_le_mul_right _ (by omega)
                      have hcells := holds.cells w ⟨rfl, rfl, rfl, rfl⟩
                      have hload := load_seg (P := P) (w := w) (off := 0) (m := n * k'') hc1 hle
                      have hold : olds.toList = (cc.toList.drop 0).take (r.n * k'') := by
                        have e1 : (Builtin.firstCells k'' r.n (.slice (some ⟨E.ρ y, 0, none⟩) n (E.cp y))).run P w = (loadCells ⟨E.ρ y, 0, none⟩ (r.n * k'')).run P w := rfl
                        rw [e1, hrn, hload] at hcells
                        cases hcells
                        rw [hrn]
                      exact app_room ho hc ht0 hxx hu hi hik rfl ha hB hnews hroom hc1 hfr hc2 hc4 rfl hold hnx hS hFy hal hvir hyn hwry hH hk2
                    · exact app_new ho hc ht0 hxx hu hi hzz hzk hk hik hone rfl (by rw [← hbo]; exact hb1) hb2 ha hB hnews (by omega) hnx hFn hwrn pk.sim hH hk3
              · exact h.elim
            · exact h.elim
        · -- a nil literal
          rename_i v
          split at h
          · rename_i hnil
            obtain rfl := isNilSl_eq hnil
            obtain ⟨⟨hb1, hb2⟩, h⟩ := closed_hit h
            cases h
            have hg : Grew st (st1.new (.arr elem (r.n + q.n) k (catGet k r q))) := g1.trans (.new _ _)
            refine ⟨hg, g4, fun rr FP E act w K Q hwf hcov hfree hS hx hk' => ?_⟩
            have hFx : ∀ y, y ∈ xs → FP y := fun y hy => hcov y (.inl ((Grew.new st1 _).rd y (g5 y hy)))
            have hFn : FP st.nx := hcov st.nx (.inr (.inr ⟨Nat.le_refl _, by show st.nx < st1.nx + 1; omega⟩))
            obtain ⟨vs, vx, ha, hvs, hvx⟩ := args2 hargs ho hx
            obtain ⟨news, hnews⟩ := rowOf_ok (P := P) (w := w) hk hq hS hFx hvx
            have hnx : ¬ E.dom st.nx := hfree st.nx (Nat.le_refl _) (by show st.nx < st1.nx + 1; omega)
            have hH : ∀ z', hget (st1.new (.arr elem (r.n + q.n) k (catGet k r q))).hp z' = if st.nx = z' then some (.arr elem (r.n + q.n) k (catGet k r q)) else hget st.hp z' := fun z' => by
              rw [hget_new, g3, g2]
            have hwrn : st.nx ∈ (st1.new (.arr elem (r.n + q.n) k (catGet k r q))).wr := mem_ins.2 (.inl g3.symm)
            have hk2 : ∀ E' v w', Rep E' (.own st.nx (r.n + q.n) k (r.nl && q.nl)) v → Pst FP E E' (hget st.hp) (hget (st1.new (.arr elem (r.n + q.n) k (catGet k r q))).hp) st.nx (st.nx + 1) (st1.new (.arr elem (r.n + q.n) k (catGet k r q))).wr w w' → K (act.put o.dst v) w' := by
              intro E' v w' h1 h2
              refine hk' E' v w' (by rw [g3]; exact h1) ?_
              rw [show (st1.new (.arr elem (r.n + q.n) k (catGet k r q))).nx = st.nx + 1 from by show st1.nx + 1 = _; rw [g3]]; exact h2
            obtain ⟨hr0, rfl⟩ : r.n = 0 ∧ rs = [] := by cases hr; exact ⟨rfl, rfl⟩
            cases hvs
            obtain ⟨olds, holds⟩ := rowOf_ok (P := P) (w := w) (E := E) hk hr hS (fun y' hy' => by cases hy') (.lit _ rfl)
            have hB : Base P E k r (.slice none 0 0) w olds none 0 := ⟨holds, by rw [hr0]⟩
            by_cases hz0 : r.n + q.n = 0
            · exact app_nil ho hc ht0 hxx hu hi hik rfl ha hB hnews hz0 hnx hS hH hk2
            · exact app_new ho hc ht0 hxx hu hi hzz hzk hk hik hone rfl (by rw [← hbo]; exact hb1) hb2 ha hB hnews (by omega) hnx hFn hwrn hS hH hk2
          · exact h.elim
        · -- a full slice
          rename_i n k' get nl
          rcases needq2 h with ⟨hq1, h⟩ | ⟨hq0, h⟩
          case inr =>
            cases h
            refine ⟨g1, g4, fun rr FP E act w K Q hwf hcov hfree hS hx hk' => ?_⟩
            have hFx : ∀ y, y ∈ xs → FP y := fun y hy => hcov y (.inl (g5 y hy))
            obtain ⟨vs, vx, ha, hvs, hvx⟩ := args2 hargs ho hx
            obtain ⟨news, hnews⟩ := rowOf_ok (P := P) (w := w) hk hq hS hFx hvx
            have hv0 : r.n = n ∧ rs = [] := by
              unfold rowOf at hr
              simp only [] at hr
              split at hr
              · cases hr; exact ⟨rfl, rfl⟩
              · cases hr
            have hnw : news.toList = [] := List.eq_nil_of_length_eq_zero (by rw [Array.length_toList, hnews.size, hq0, Nat.zero_mul])
            have hex : (execOp act.eval o).run P w = .ok (.value vs) w := by
              have key : ∀ (b : Option Addr) (m cap : Nat), m ≤ cap → (Builtin.append_ c.argTypes o.type #[Value.slice b m cap, vx]).run P w = .ok (.slice b m cap) w := fun b m cap hm => by
                have hrun := run_append_no (ty := o.type) (sLen := m) (sCap := cap) (b := b) (w := w) (w' := w) ht0 hxx hu hi hnews.len (by rw [hik]; exact hnews.cells w ⟨rfl, rfl, rfl, rfl⟩) (by omega) (fun ad _ => by rw [hnw]; rfl) (fun _ => rfl)
                rw [hq0, Nat.add_zero] at hrun
                exact hrun
              rw [exec_builtin ho hc, ha]
              cases hvs with
              | slNil hn0 => simp only [builtin, Sem.run_bind, key none 0 0 (Nat.le_refl _), Result.andThen_ok, Sem.run_pure]
              | @slEmp _ _ cap a _ _ _ q1 q2 => simp only [builtin, Sem.run_bind, key (some a) n cap (by omega), Result.andThen_ok, Sem.run_pure]
              | @sl _ _ b off cap _ _ _ c q1 q2 q3 q4 q5 q6 => simp only [builtin, Sem.run_bind, key (some ⟨b, off, none⟩) n cap q4, Result.andThen_ok, Sem.run_pure]
            refine op_value (nd_call ho) hex (hk' E vs w hvs ?_)
            rw [g2, g3]
            exact .refl hS
          obtain ⟨⟨hb1, hb2⟩, h⟩ := closed_hit h
          cases h
          have hg : Grew st (st1.new (.arr elem (r.n + q.n) k (catGet k r q))) := g1.trans (.new _ _)
          refine ⟨hg, g4, fun rr FP E act w K Q hwf hcov hfree hS hx hk' => ?_⟩
          have hFx : ∀ y, y ∈ xs → FP y := fun y hy => hcov y (.inl ((Grew.new st1 _).rd y (g5 y hy)))
          have hFn : FP st.nx := hcov st.nx (.inr (.inr ⟨Nat.le_refl _, by show st.nx < st1.nx + 1; omega⟩))
          obtain ⟨vs, vx, ha, hvs, hvx⟩ := args2 hargs ho hx
          obtain ⟨news, hnews⟩ := rowOf_ok (P := P) (w := w) hk hq hS hFx hvx
          have hnx : ¬ E.dom st.nx := hfree st.nx (Nat.le_refl _) (by show st.nx < st1.nx + 1; omega)
          have hH : ∀ z', hget (st1.new (.arr elem (r.n + q.n) k (catGet k r q))).hp z' = if st.nx = z' then some (.arr elem (r.n + q.n) k (catGet k r q)) else hget st.hp z' := fun z' => by
            rw [hget_new, g3, g2]
          have hwrn : st.nx ∈ (st1.new (.arr elem (r.n + q.n) k (catGet k r q))).wr := mem_ins.2 (.inl g3.symm)
          have hk2 : ∀ E' v w', Rep E' (.own st.nx (r.n + q.n) k (r.nl && q.nl)) v → Pst FP E E' (hget st.hp) (hget (st1.new (.arr elem (r.n + q.n) k (catGet k r q))).hp) st.nx (st.nx + 1) (st1.new (.arr elem (r.n + q.n) k (catGet k r q))).wr w w' → K (act.put o.dst v) w' := by
            intro E' v w' h1 h2
            refine hk' E' v w' (by rw [g3]; exact h1) ?_
            rw [show (st1.new (.arr elem (r.n + q.n) k (catGet k r q))).nx = st.nx + 1 from by show st1.nx + 1 = _; rw [g3]]; exact h2
          have hv0 : r.n = n ∧ rs = [] := by
            unfold rowOf at hr
            simp only [] at hr
            split at hr
            · cases hr; exact ⟨rfl, rfl⟩
            · cases hr
          obtain ⟨hrn, rfl⟩ := hv0
          obtain ⟨olds, holds⟩ := rowOf_ok (P := P) (w := w) (E := E) hk hr hS (fun y' hy' => by cases hy') hvs
          cases hvs with
          | slNil hn0 =>
            exact app_new ho hc ht0 hxx hu hi hzz hzk hk hik hone rfl (by rw [← hbo]; exact hb1) hb2 ha ⟨holds, by rw [hrn, hn0]⟩ hnews (by omega) hnx hFn hwrn hS hH hk2
          | slEmp q1 q2 =>
            exact app_new ho hc ht0 hxx hu hi hzz hzk hk hik hone rfl (by rw [← hbo]; exact hb1) hb2 ha ⟨holds, by rw [hrn]⟩ hnews (by have := q2 rfl; omega) hnx hFn hwrn hS hH hk2
          | sl q1 q2 q3 q4 q5 q6 =>
            exact app_new ho hc ht0 hxx hu hi hzz hzk hk hik hone rfl (by rw [← hbo]; exact hb1) hb2 ha ⟨holds, by rw [hrn]⟩ hnews (by have := q3 rfl; omega) hnx hFn hwrn hS hH hk2
        · exact h.elim
      · exact h.elim
    · exact h.elim
  · exact h.elim
end
end Go.Proofs.YtamjnhpkmhbkcaaGreatDoor

/-
  PART: a slice of bytes as a string.
-/
namespace Go.Proofs.YtamjnhpkmhbkcaaGreatDoor
open Go.RowKit

section
variable {P : Program} {o : Oper} {st st' : St} {a : AV} {w : World} {E : Env}
theorem bytesA_ok : ∀ {l : List AV} {zs : List Int} {vs : List Value}, bytesA l = some zs → Reps E l vs → vs = zs.map (Value.int .u8)
  | [], zs, vs, h, hr => by cases h; cases hr; rfl
  | a :: l, zs, vs, h, hr => by
    unfold bytesA at h
    split at h
    · rename_i z b m hs hm
      cases h
      cases hr with
      | cons h1 h2 =>
        obtain ⟨hv, _⟩ := scal_rep hs h1
        rw [hv, bytesA_ok hm h2]; rfl
    · cases h
theorem reps_flat {get : Nat → List AV} {l : List Value} : ∀ n : Nat, (∀ i, i < n → Reps E (get i) ((l.drop (i * 1)).take 1)) → Reps E ((List.range n).flatMap get) (l.take n)
  | 0, _ => by simp; exact .nil
  | n + 1, h => by
    rw [List.range_succ, List.flatMap_append, List.take_add]
    refine (reps_flat n fun i hi => h i (by omega)).app ?_
    have := h n (by omega)
    rw [Nat.mul_one] at this
    simpa using this
theorem bconv_core {src dst e : TypeId} {x : Operand} (ho : o.op = .convert src dst x) (hd : NoDefer o) (hsrc : P.underlying src = some (.slice e)) (hdst : P.underlying dst = some .string) (hsl : isSlA (st.val x) = true) (hu : P.underlying e = some (.int .u8)) {n : Nat} {nl : Bool} {get : Nat → List AV} {xs : List Nat} (hq : rowOf st 1 (st.val x) = some (⟨n, nl, get⟩, xs)) {zs : List Int} (hz : bytesA ((List.range n).flatMap get) = some zs) (h2 : xs.foldl St.read st = st') :
    OpOk P o st (.v (.string ⟨(zs.map fun z => UInt8.ofNat z.toNat).toArray⟩)) st' := by
  have hm : x ∈ o.op.operands := by rw [ho]; exact mem1
  have he : ∀ ρ : Operand → Value, execOp ρ o = (do pure (.value (← convert src dst (ρ x)))) := fun ρ => by unfold execOp; rw [ho]
  obtain ⟨g1, g2, g3, g4, g5⟩ := foldl_read xs st
  rw [h2] at g1 g2 g3 g4 g5
  refine OpOk.quiet hd g1 g4 g2 g3 fun FP E act w hcov hS hx => ?_
  obtain ⟨news, hnews⟩ := rowOf_ok (P := P) (w := w) (Nat.le_refl 1) hq hS (fun y hy => hcov y (.inl (g5 y hy))) (hx x hm)
  have hr := reps_flat (l := news.toList) n fun i hi => hnews.rep i hi
  have hlen : news.toList.length = n := by
    have := hnews.size
    simpa using this
  rw [List.take_of_length_le (by omega)] at hr
  have hl := bytesA_ok hz hr
  have hsh : ∃ A l c, act.eval x = .slice A l c := by
    have hv := hx x hm
    revert hv hsl
    generalize st.val x = b
    generalize act.eval x = v
    intro hsl hv
    cases hv <;> first | exact ⟨_, _, _, rfl⟩ | cases hsl
  obtain ⟨A, l, c, hA⟩ := hsh
  have hln : l = n := by
    have := hnews.len w
    rw [hA] at this
    simpa [Builtin.lenOf] using this
  subst hln
  have hc := hnews.cells w ⟨rfl, rfl, rfl, rfl⟩
  rw [hA] at hc
  refine ⟨.string ⟨(zs.map fun z => UInt8.ofNat z.toNat).toArray⟩, ?_, .v _ rfl⟩
  rw [he, hA]
  have hrun : (convert src dst (.slice A l c)).run P w = .ok (.string ⟨(zs.map fun z => UInt8.ofNat z.toNat).toArray⟩) w := by
    rw [run_convert_bytes_string w src dst e A l c hsrc hu hdst]
    cases A with
    | none =>
      have hn : news = #[] := by
        simpa [Builtin.firstCells] using hc.symm
      have hz0 : zs = [] := by
        rw [hn] at hl
        cases zs with
        | nil => rfl
        | cons z zs => cases hl
      rw [hz0]
      simp [Conv.bytesToString]
      rfl
    | some ad =>
      have h1 : (loadCells ad l).run P w = .ok (zs.map (Value.int .u8)).toArray w := by
        have : (loadCells ad (l * 1)).run P w = .ok news w := hc
        rw [Nat.mul_one] at this
        rw [this, ← hl]
      rw [run_bytesToString w ad l c zs h1, foldl_push_bytes]
      simp [ByteArray.empty, ByteArray.emptyWithCapacity]
      rfl
  simp [hrun]
theorem OpOk.imp {b : AV} (h : OpOk P o st a st') (hab : ∀ E v, Rep E a v → Rep E b v) : OpOk P o st b st' :=
  ⟨h.grew, h.sl, fun r FP E act w K Q h1 h2 h3 h4 h5 hk => h.run r FP E act w K Q h1 h2 h3 h4 h5 fun E' v w' hr p => hk E' v w' (hab E' v hr) p⟩
theorem litv_rep {E : Env} {b : Bool} {v : Value} (h : one1 v = true) : Rep E ((match b with | true => AV.lit | false => AV.v) v) v := by
  cases b
  · exact .v v h
  · exact .lit v h
theorem bconv_ok {src dst : TypeId} {x : Operand} (ho : o.op = .convert src dst x) (hd : NoDefer o) (h : bconvA P src dst (st.val x) st = some (a, st')) : OpOk P o st a st' := by
  unfold bconvA at h
  split at h
  · rename_i e hsrc hdst hsl
    split at h
    · rename_i n get xs hu hq
      split at h
      · split at h
        · rename_i zs hz
          simp only [Option.some.injEq, Prod.mk.injEq] at h
          obtain ⟨rfl, h2⟩ := h
          refine (bconv_core ho hd hsrc hdst hsl hu hq hz h2).imp fun E v hv => ?_
          cases hv with | v _ hv' =>
          exact litv_rep hv'
        · cases h
      · cases h
    · cases h
  · cases h
theorem bytes_range {get : Nat → List AV} : ∀ n : Nat, (∀ j, j < n → bytesA (get j) = some [byteA (get j)]) → bytesA ((List.range n).flatMap get) = some ((List.range n).map fun j => byteA (get j)) := by
  have app : ∀ (l m : List AV) (a b : List Int), bytesA l = some a → bytesA m = some b → bytesA (l ++ m) = some (a ++ b) := by
    intro l
    induction l with
    | nil => intro m a b h1 h2; cases h1; exact h2
    | cons x l ih =>
      intro m a b h1 h2
      unfold bytesA at h1
      split at h1
      · rename_i z c a' hs hm
        cases h1
        show bytesA (x :: (l ++ m)) = _
        unfold bytesA
        rw [hs, ih m a' b hm h2]
        rfl
      · cases h1
  intro n
  induction n with
  | zero => intro _; rfl
  | succ n ih =>
    intro h
    rw [List.range_succ, List.flatMap_append, List.map_append]
    refine app _ _ _ _ (ih fun j hj => h j (by omega)) ?_
    simpa using h n (by omega)
theorem bconvS_ok {src dst : TypeId} {x : Operand} {c : Prop} (ho : o.op = .convert src dst x) (hd : NoDefer o) (h : bconvS P src dst (st.val x) st = some (c, a, st')) (hc : c) : OpOk P o st a st' := by
  unfold bconvS at h
  split at h
  · rename_i e hsrc hdst hsl
    split at h
    · rename_i n nl get xs hu hq
      simp only [Option.some.injEq, Prod.mk.injEq] at h
      obtain ⟨rfl, rfl, h2⟩ := h
      exact bconv_core ho hd hsrc hdst hsl hu hq (bytes_range n hc) h2
    · cases h
  · cases h
theorem sconv_ok {src dst : TypeId} {x : Operand} (ho : o.op = .convert src dst x) (hd : NoDefer o) (h : sconvA P src dst (st.val x) st = some (a, st')) : OpOk P o st a st' := by
  have hm : x ∈ o.op.operands := by rw [ho]; exact mem1
  have he : ∀ ρ : Operand → Value, execOp ρ o = (do pure (.value (← convert src dst (ρ x)))) := fun ρ => by unfold execOp; rw [ho]
  unfold sconvA at h
  split at h
  · rename_i e s l hsrc hdst hsc
    split at h
    · rename_i hu
      simp only [Option.some.injEq, Prod.mk.injEq] at h
      obtain ⟨rfl, rfl⟩ := h
      refine ⟨.new st _, rfl, fun r FP E act w K Q hwf hcov hfree hS hx hk => ?_⟩
      have hnx : ¬ E.dom st.nx := hfree st.nx (Nat.le_refl _) (Nat.lt_succ_self _)
      have hF : FP st.nx := hcov st.nx (.inr (.inr ⟨Nat.le_refl _, Nat.lt_succ_self _⟩))
      have hv : act.eval x = .string s := (scal_rep hsc (hx x hm)).1
      have hrun := run_bytes_of_string (P := P) w src dst e s hsrc hdst hu
      have hcapg := grownCap_ge w (need := s.size) 0 e
      generalize grownCap w s.size 0 e = G at hrun hcapg
      have hsz : (bytesRow s G).size = G := by
        unfold bytesRow
        rw [Array.size_append, Array.size_map, Array.size_replicate]
        show s.size + (G - s.size) = G
        omega
      have hex : (execOp act.eval o).run P w = .ok (.value (.slice (some ⟨w.heap.size, 0, none⟩) s.size G)) (w.drew.alloc (.cells (bytesRow s G) e ((bytesRow s G).size, (bytesRow s G).size + 1))) := by
        rw [he, hv]
        simp [hrun]
      have hl := Env.le_add (E := E) hnx w.heap.size G s.size false
      have hρ : (E.add st.nx w.heap.size G s.size false).ρ st.nx = w.heap.size := by simp [Env.add]
      have hcp : (E.add st.nx w.heap.size G s.size false).cp st.nx = G := by simp [Env.add]
      have hln : (E.add st.nx w.heap.size G s.size false).ln st.nx = s.size := by simp [Env.add]
      have hvr : (E.add st.nx w.heap.size G s.size false).vir st.nx = false := by simp [Env.add]
      refine op_value hd hex (hk (E.add st.nx w.heap.size G s.size false) _ _ ?_ ?_)
      · have hdm : (E.add st.nx w.heap.size G s.size false).dom st.nx := Or.inl rfl
        have := Rep.own (n := s.size) (k := 1) (nl := l) hdm hvr hln.symm
        rwa [hρ, hcp] at this
      · have hB : BlkR (E.add st.nx w.drew.heap.size G s.size false) st.nx (.arr e s.size 1 fun j => byteAV l (s.data.getD j 0)) (some (.cells (bytesRow s G) e ((bytesRow s G).size, (bytesRow s G).size + 1))) := by
          refine ⟨hln.symm, .inr ⟨hvr, _, _, rfl, .inr (Nat.le_refl _), by rw [show (E.add st.nx w.drew.heap.size G s.size false).cp st.nx = G from hcp, Nat.mul_one]; exact hsz, by rw [show (E.add st.nx w.drew.heap.size G s.size false).cp st.nx = G from hcp]; exact hcapg, ?_, fun i hi => ?_⟩⟩
          · intro u hu'
            unfold bytesRow at hu'
            rw [Array.toList_append, List.mem_append, Array.toList_map, Array.toList_replicate] at hu'
            rcases hu' with hu' | hu'
            · obtain ⟨b, _, rfl⟩ := List.mem_map.1 hu'
              rfl
            · rw [(List.mem_replicate.1 hu').2]; rfl
          · have hi' : i < s.data.size := hi
            have e1 : ((bytesRow s G).toList.drop (i * 1)).take 1 = [.int .u8 (s.data.getD i 0).toNat] := by
              unfold bytesRow
              rw [Nat.mul_one, Array.toList_append, Array.toList_map, Array.toList_replicate, List.drop_append_of_le_length (by rw [List.length_map, Array.length_toList]; omega), List.drop_eq_getElem_cons (by rw [List.length_map, Array.length_toList]; exact hi')]
              simp [Array.getD, hi']
              rw [dif_pos hi]
            rw [e1]
            cases l
            · exact .cons (.v _ rfl) .nil
            · exact .cons (.lit _ rfl) .nil
        have p2 := Pst.alloc (wr := ins st.nx st.wr) (hS.same (.drew w)) hnx hF (mem_ins.2 (.inl rfl)) hB (fun y => hget_new y)
        exact ⟨⟨p2.le, p2.dom, p2.sim, fun b hb hh => ⟨(p2.frame b hb hh).1, (p2.frame b hb hh).2⟩, p2.news, p2.size, p2.os, p2.tape, p2.output⟩, p2.old⟩
    · cases h
  · cases h
end
end Go.Proofs.YtamjnhpkmhbkcaaGreatDoor
