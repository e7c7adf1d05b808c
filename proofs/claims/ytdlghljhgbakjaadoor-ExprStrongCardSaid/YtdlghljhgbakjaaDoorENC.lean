/-
  PART: rows made, rows that grow.
-/
import Derived.Test.YtdlghljhgbakjaaDoorENB
import Derived.Laws.Append
namespace Go.Proofs.YtdlghljhgbakjaaDoor
open Go.RowKit

section
variable {P : Program} {o : Oper} {st st' : St} {a : AV} {w : World} {E : Env}
def repV : Nat → List Value → List Value
  | 0, _ => []
  | n + 1, l => l ++ repV n l
theorem repV_len (n : Nat) (l : List Value) : (repV n l).length = n * l.length := by
  induction n with
  | zero => simp [repV]
  | succ n ih => simp [repV, ih, Nat.add_mul, Nat.add_comm]
theorem repV_one {n : Nat} {l : List Value} (h : One l) : One (repV n l) := by
  induction n with
  | zero => exact fun v hv => by cases hv
  | succ n ih => exact h.app ih
theorem reps_rep {n : Nat} {l : List AV} {vs : List Value} (h : Reps E l vs) : Reps E (reps n l) (repV n vs) := by
  induction n with
  | zero => exact .nil
  | succ n ih => exact h.app ih
theorem range_rep (z : Array Value) (k : Nat) (hz : z.size = k) (n : Nat) : ((Array.range (n * k)).map (fun i => z[i % z.size]!)).toList = repV n z.toList := by
  rw [Array.toList_map, Array.toList_range]
  induction n with
  | zero => simp [repV]
  | succ n ih =>
    rw [Nat.add_mul, Nat.one_mul, Nat.add_comm, List.range_add, List.map_append, List.map_map]
    show _ = z.toList ++ repV n z.toList
    congr 1
    · apply List.ext_getElem
      · simp [hz]
      · intro i h1 h2
        simp at h1
        have : i % z.size = i := Nat.mod_eq_of_lt (by omega)
        simp [this]
        rw [getElem!_pos z i (by omega)]
    · rw [← ih]
      apply List.map_congr_left
      intro i _
      simp [hz, Nat.add_mod_left]
/-- A new row. -/
theorem new_row {elem : TypeId} {n k : Nat} {get : Nat → List AV} {nl : Bool} {st : St} (ho : NoDefer o) (hrun : ∀ (E : Env) (act : Act), (∀ x, x ∈ o.op.operands → Rep E (st.val x) (act.eval x)) → ∃ c : Array Value, (∀ w, (execOp act.eval o).run P w = .ok (.value (.slice (some ⟨w.heap.size, 0, none⟩) n n)) (w.alloc (.cells c elem))) ∧ c.size = n * k ∧ One c.toList ∧ ∀ i, i < n → Reps E (get i) ((c.toList.drop (i * k)).take k)) :
    OpOk P o st (.own st.nx n k nl) (st.new (.arr elem n k get)) := by
  refine ⟨.new st _, rfl, fun r FP E act w K Q hwf hcov hfree hS hx hk => ?_⟩
  obtain ⟨c, hr, hsz, hone, hR⟩ := hrun E act hx
  have hnx : ¬ E.dom st.nx := hfree st.nx (Nat.le_refl _) (Nat.lt_succ_self _)
  have hF : FP st.nx := hcov st.nx (.inr (.inr ⟨Nat.le_refl _, Nat.lt_succ_self _⟩))
  have hl := Env.le_add (E := E) hnx w.heap.size n n false
  have hρ : (E.add st.nx w.heap.size n n false).ρ st.nx = w.heap.size := by simp [Env.add]
  have hcp : (E.add st.nx w.heap.size n n false).cp st.nx = n := by simp [Env.add]
  have hln : (E.add st.nx w.heap.size n n false).ln st.nx = n := by simp [Env.add]
  have hvr : (E.add st.nx w.heap.size n n false).vir st.nx = false := by simp [Env.add]
  refine op_value ho (hr w) (hk (E.add st.nx w.heap.size n n false) _ _ ?_ ?_)
  · have hd : (E.add st.nx w.heap.size n n false).dom st.nx := Or.inl rfl
    have := Rep.own (n := n) (k := k) (nl := nl) hd hvr hln.symm
    rwa [hρ, hcp] at this
  · have hB : BlkR (E.add st.nx w.heap.size n n false) st.nx (.arr elem n k get) (some (.cells c elem (0, 0))) := ⟨hln.symm, .inr ⟨hvr, c, rfl, by rw [hcp]; exact hsz, by rw [hcp]; exact Nat.le_refl _, hone, fun i hi => (hR i hi).mono hl⟩⟩
    exact Pst.alloc hS hnx hF (mem_ins.2 (.inl rfl)) hB (fun y => hget_new y)
theorem range_nil (z : Array Value) {m : Nat} (h : m = 0) : (Array.range m).map (fun i => z[i % z.size]!) = #[] := by
  subst h
  apply Array.ext'
  simp
theorem run_buildSlice {t elem : TypeId} {k len : Nat} {i : TypeInfo} {zv : Value} {parts : Array (Nat × Value)} {c' : Array Value} (hu : P.underlying t = some (.slice elem)) (hs : sizeO P elem = some k) (hi : P.info? elem = some i) (hzz : i.zero = some zv) (h1 : len * k ≤ 16777216)
    (g1 : Instr.fill (fun i => some (i * k, k)) ((Array.range (len * k)).map (fun i => zv.cells[i % zv.cells.size]!)) parts.toList = some c') (w : World) : (Instr.buildSlice t len parts).run P w = .ok (.slice (some ⟨w.heap.size, 0, none⟩) len len) (w.alloc (.cells c' elem)) := by
  unfold Instr.buildSlice
  simp only [Sem.run_bind, run_underlying hu, Result.andThen_ok, run_size hs]
  rw [if_neg (Nat.not_lt.2 (by simpa using h1))]
  have hnew : (newRow elem c').run P w = .ok ⟨w.heap.size, 0, none⟩ (w.alloc (.cells c' elem)) := rfl
  by_cases h0 : len * k = 0
  · rw [if_pos h0]
    rw [range_nil _ h0] at g1
    simp only [Sem.run_bind, Sem.run_pure, Result.andThen_ok]
    rw [range_nil _ h0, g1]
    simp only [Sem.run_bind, hnew, Sem.run_pure, Result.andThen_ok]
  · rw [if_neg h0]
    have hzv : (zeroValue elem).run P w = .ok zv w := by simp [zeroValue, typeInfo, hi, hzz]
    simp only [Sem.run_bind, hzv, Sem.run_pure, Result.andThen_ok, g1, hnew]
theorem run_makeSlice {t elem : TypeId} {k : Nat} {n : Int} {k1 k2 : IntKind} {i : TypeInfo} {zv : Value} (hu : P.underlying t = some (.slice elem)) (hs : sizeO P elem = some k) (hi : P.info? elem = some i) (hzz : i.zero = some zv) (h0 : 0 ≤ n) (h63 : n < 9223372036854775808) (hby : (i.bytes : Int) * n ≤ 281474976710656) (w : World) :
    (Instr.makeSlice t (.int k1 n) (.int k2 n)).run P w = .ok (.slice (some ⟨w.heap.size, 0, none⟩) n.toNat n.toNat) (w.alloc (.cells ((Array.range (n.toNat * k)).map (fun i => zv.cells[i % zv.cells.size]!)) elem)) := by
  have hw : IntKind.i64.wrap n = n := by unfold IntKind.wrap; simp [IntKind.bits, IntKind.signed]; omega
  unfold Instr.makeSlice
  simp only [Sem.run_bind, run_underlying hu, Result.andThen_ok, Sem.run_pure, asInt, asIntOf, typeInfo, run_program, hi, hw]
  rw [if_neg (by simp; omega)]
  have hroom : ∀ b, (askRoom b).run P w = .ok () w := fun b => by unfold askRoom; split <;> rfl
  simp only [Sem.run_bind, hroom, Result.andThen_ok, run_size hs]
  by_cases hz0 : n.toNat * k = 0
  · rw [if_pos hz0]
    simp only [Sem.run_bind, Sem.run_pure, Result.andThen_ok]
    rw [range_nil _ hz0, range_nil _ hz0]
    rfl
  · rw [if_neg hz0]
    have hzv : (zeroValue elem).run P w = .ok zv w := by simp [zeroValue, typeInfo, hi, hzz]
    simp only [Sem.run_bind, hzv, Sem.run_pure, Result.andThen_ok]
    rfl
theorem buildSlice_ok {t : TypeId} {len : Nat} {parts : Array (Nat × Operand)} (ho : o.op = .buildSlice t len parts) (h : (buildSliceA P t len (parts.toList.map fun p => (p.1, st.val p.2)) st).hit (a, st')) : OpOk P o st a st' := by
  have hd : NoDefer o := nd_of ho (by simp)
  unfold buildSliceA at h
  split at h
  · rename_i elem hu
    split at h
    · rename_i k z hs hz
      split at h
      · rename_i hb
        simp only [Bool.and_eq_true] at hb
        obtain ⟨⟨hb1, hb2⟩, hb3⟩ := hb
        have hb1 := Nat.le_of_ble_eq_true hb1
        have hb2 := Nat.eq_of_beq_eq_true hb2
        have hb3 := Nat.le_of_ble_eq_true hb3
        split at h
        · rename_i cs hf
          cases h
          obtain ⟨i, zv, hi, hzz, rfl, hone⟩ := zero_info hz
          have hzk : zv.cells.size = k := by simpa using hb2
          refine new_row hd fun E act hx => ?_
          have hinit := range_rep zv.cells k hzk len
          obtain ⟨c', g1, g2, g3⟩ := fill_ok (E := E) (place' := fun i => some (i * k, k)) (fun i x hx => hx) _ _ _ hf ((parts.map fun (p : Nat × Operand) => (p.1, act.eval p.2)).toList) ((Array.range (len * k)).map (fun i => zv.cells[i % zv.cells.size]!)) (by simp [List.map_map, Function.comp_def])
            (fun j p q h1 h2 => by
              rw [Array.toList_map] at h2
              rw [List.getElem?_map] at h1 h2
              cases hj : parts.toList[j]? with
              | none => rw [hj] at h1; cases h1
              | some u =>
                rw [hj] at h1 h2
                cases h1; cases h2
                exact hx u.2 (by rw [ho]; simp [Op.operands]; exact ⟨u.1, by simpa using List.mem_of_getElem? hj⟩))
            (by rw [hinit]; exact reps_rep (.lits _ hone)) (by rw [hinit]; exact repV_one hone)
          have hcl := g2.len
          have hlen : cs.length = len * k := by
            have : ∀ (parts : List (Nat × AV)) (cs r : List AV), fillA (fun i => some (i * k, k)) parts cs = some r → r.length = cs.length := by
              intro parts
              induction parts with
              | nil => intro cs r h; simp only [fillA] at h; cases h; rfl
              | cons p parts ih =>
                intro cs r h
                obtain ⟨i, av⟩ := p
                simp only [fillA] at h
                split at h
                · rename_i hq
                  simp only [Bool.and_eq_true] at hq
                  have h1 := Nat.eq_of_beq_eq_true hq.1
                  have h2 := Nat.le_of_ble_eq_true hq.2
                  rw [ih _ _ h]
                  unfold splice
                  simp; omega
                · cases h
            rw [this _ _ _ hf]
            have hr : ∀ (n : Nat) (l : List AV), (reps n l).length = n * l.length := by
              intro n l
              induction n with
              | zero => simp [reps]
              | succ n ih => simp [reps, ih, Nat.add_mul, Nat.add_comm]
            rw [hr]; simp [hzk]
          refine ⟨c', fun w => ?_, by have : c'.toList.length = c'.size := by simp
                                      omega, g3, fun i hi => ?_⟩
          · unfold execOp
            rw [ho]
            simp only [Array.toList_map] at g1
            have := run_buildSlice (P := P) (parts := parts.map fun p => (p.1, act.eval p.2)) hu hs hi hzz hb1 (by rw [Array.toList_map]; exact g1) w
            simp only [Sem.run_bind, Sem.run_pure, this, Result.andThen_ok]
          · exact (g2.drop _).take _
        · exact h.elim
      · exact h.elim
    · exact h.elim
  · exact h.elim
theorem makeSlice_ok {t : TypeId} {l c : Operand} (ho : o.op = .makeSlice t l c) (h : (makeSliceA P t (st.val l) (st.val c) st).hit (a, st')) : OpOk P o st a st' := by
  have hd : NoDefer o := nd_of ho (by simp)
  unfold makeSliceA at h
  split at h
  · rename_i elem n lt cc _ hu hn hc
    split at h
    · rename_i k z hs hz
      split at h
      · rename_i hb
        simp only [Bool.and_eq_true] at hb
        have hb2 := Nat.eq_of_beq_eq_true hb.1
        have hb3 := Nat.le_of_ble_eq_true hb.2
        obtain ⟨⟨h0, rfl, h63, hby⟩, h⟩ := h
        cases h
        obtain ⟨i, zv, hi, hzz, rfl, hone⟩ := zero_info hz
        have hzk : zv.cells.size = k := by simpa using hb2
        refine new_row hd fun E act hx => ?_
        obtain ⟨k1, e1⟩ := intOf_rep hn (hx l (by rw [ho]; simp [Op.operands]))
        obtain ⟨k2, e2⟩ := intOf_rep hc (hx c (by rw [ho]; simp [Op.operands]))
        have hinit := range_rep zv.cells k hzk cc.toNat
        refine ⟨(Array.range (cc.toNat * k)).map (fun i => zv.cells[i % zv.cells.size]!), fun w => ?_, by simp, by rw [hinit]; exact repV_one hone, fun j hj => ?_⟩
        · have hbb : P.bytesOf elem = i.bytes := by simp [Program.bytesOf, hi]
          rw [hbb] at hby
          unfold execOp
          rw [ho]
          have := run_makeSlice (P := P) (k1 := k1) (k2 := k2) hu hs hi hzz h0 h63 hby w
          simp only [e1, e2, Sem.run_bind, Sem.run_pure, this, Result.andThen_ok]
        · rw [hinit]
          have : ∀ (n j : Nat) (l : List Value), l.length = k → j < n → ((repV n l).drop (j * k)).take k = l := by
            intro n
            induction n with
            | zero => intro j l _ h; omega
            | succ n ih =>
              intro j l hl h
              show ((l ++ repV n l).drop (j * k)).take k = l
              cases j with
              | zero => simp [← hl]
              | succ j =>
                rw [show (j + 1) * k = k + j * k by rw [Nat.add_mul, Nat.one_mul, Nat.add_comm], ← List.drop_drop, List.drop_left' hl]
                exact ih j l hl (by omega)
          rw [this _ _ _ (by simpa using hzk) hj]
          exact .lits _ hone
      · exact h.elim
    · exact h.elim
  · exact h.elim
end
end Go.Proofs.YtdlghljhgbakjaaDoor
