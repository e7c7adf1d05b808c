/-
  PART: append, the operation.
-/
import Derived.Test.YtdlghljhgbakjaaDoorENE
namespace Go.Proofs.YtdlghljhgbakjaaDoor
open Go.RowKit

section
variable {P : Program} {o : Oper} {st st' : St} {a : AV} {w : World} {E : Env}
/-- How a row stands as the first operand. -/
structure Base (P : Program) (E : Env) (k : Nat) (r : Row) (s : Value) (w : World) (olds : Array Value) (b : Option Addr) (cap : Nat) : Prop where
  row : RowIs P E k r s w olds
  eq : s = .slice b r.n cap
theorem wraps (N by1 : Nat) (h : N ≤ maxAppend) (h2 : N * by1 ≤ maxAppend) {old : Nat} (hg : old < N) : ((N : Nat) : Int) ≤ 9223372036854775807 ∧ Builtin.nextslicecap N old * by1 ≤ 281474976710656 := by
  unfold maxAppend at h h2
  exact ⟨by omega, growslice_fits hg (by omega)⟩
theorem args2 {c : Call} {s x : AV} (hargs : c.args.toList.map st.val = [s, x]) (ho : o.op = .call c) {act : Act} (hx : ∀ x, x ∈ o.op.operands → Rep E (st.val x) (act.eval x)) : ∃ vs vx, c.args.map act.eval = #[vs, vx] ∧ Rep E s vs ∧ Rep E x vx := by
  have hR := args_rep ho hx
  rw [hargs] at hR
  generalize hL : (c.args.map act.eval).toList = L at hR
  cases hR with | cons k1 k2 => cases k2 with | cons k3 k4 => cases k4; exact ⟨_, _, by rw [← Array.toArray_toList (xs := c.args.map act.eval), hL], k1, k3⟩
/-- A grown row in new memory. -/
theorem app_new {c : Call} (ho : o.op = .call c) (hc : c.callee = .builtin .append) {sT elem : TypeId} {k N : Nat} {i : TypeInfo} {z : Value} (ht0 : c.argTypes[0]? = some sT) (hx : xOk P c.argTypes) (hu : P.underlying sT = some (.slice elem)) (hi : P.info? elem = some i) (hz : i.zero = some z) (hzk : z.cells.size = k) (hk : 1 ≤ k) (hik : i.size = k) (hone : One z.cells.toList)
    {r q : Row} (hN : N = r.n + q.n) (hb1 : N * i.bytes ≤ maxAppend) (hb2 : N ≤ maxAppend) {rr : Option Nat} {FP : Nat → Prop} {act : Act} {K : Act → World → Prop} {Q : Exit → Act → World → Prop} {H H' : Nat → Option Blk} {nx : Nat} {wr : List Nat} {nl : Bool}
    {vs vx : Value} (hargs : c.args.map act.eval = #[vs, vx]) {olds news : Array Value} {b : Option Addr} {cap : Nat} (hB : Base P E k r vs w olds b cap) (hq : RowIs P E k q vx w news) (hg : cap < N)
    (hnx : ¬ E.dom nx) (hF : FP nx) (hwr : nx ∈ wr) (hS : Sim FP E H w) (hH : ∀ y, H' y = if nx = y then some (.arr elem N k (catGet k r q)) else H y)
    (hk' : ∀ E' v w', Rep E' (.own nx N k nl) v → Pst FP E E' H H' nx (nx + 1) wr w w' → K (act.put o.dst v) w') : o.wpIn (wideR rr) 0 P act w K Q := by
  subst hN
  obtain ⟨w1, w2⟩ := wraps _ _ hb2 hb1 hg
  have hrun := run_append_new (ty := o.type) ht0 hx hu hi hz hq.len (olds := olds) (news := news) (sLen := r.n) (sCap := cap) (b := b) (w := w)
    (by have := hB.row.cells w.drew (.drew w); rw [hB.eq] at this; rw [hik]; exact this) (by rw [hik]; exact hq.cells w.drew (.drew w)) hg w1 w2
  have hex : (execOp act.eval o).run P w = .ok (.value (.slice (some ⟨w.heap.size, 0, none⟩) (r.n + q.n) (grownCap w (r.n + q.n) cap elem))) (w.drew.alloc (.cells (olds ++ news ++ Builtin.zeroCells z.cells (grownCap w (r.n + q.n) cap elem - (r.n + q.n))) elem)) := by
    rw [exec_builtin ho hc, hargs, hB.eq]
    simp [builtin, hrun]
  have hcapg := grownCap_ge w (need := r.n + q.n) cap elem
  generalize hG : grownCap w (r.n + q.n) cap elem = G at hex hcapg
  have hl := Env.le_add (E := E) hnx w.heap.size G (r.n + q.n) false
  have hρ : (E.add nx w.heap.size G (r.n + q.n) false).ρ nx = w.heap.size := by simp [Env.add]
  have hcp : (E.add nx w.heap.size G (r.n + q.n) false).cp nx = G := by simp [Env.add]
  have hln : (E.add nx w.heap.size G (r.n + q.n) false).ln nx = r.n + q.n := by simp [Env.add]
  have hvr : (E.add nx w.heap.size G (r.n + q.n) false).vir nx = false := by simp [Env.add]
  refine op_value (nd_call ho) hex (hk' (E.add nx w.heap.size G (r.n + q.n) false) _ _ ?_ ?_)
  · have hd : (E.add nx w.heap.size G (r.n + q.n) false).dom nx := Or.inl rfl
    have := Rep.own (n := r.n + q.n) (k := k) (nl := nl) hd hvr hln.symm
    rwa [hρ, hcp] at this
  · have hB' : BlkR (E.add nx w.drew.heap.size G (r.n + q.n) false) nx (.arr elem (r.n + q.n) k (catGet k r q)) (some (.cells (olds ++ news ++ Builtin.zeroCells z.cells (G - (r.n + q.n))) elem (0, 0))) := by
      refine ⟨hln.symm, .inr ⟨hvr, _, rfl, ?_, by rw [show (E.add nx w.drew.heap.size G (r.n + q.n) false).cp nx = G from hcp]; exact hcapg, ?_, fun j hj => ?_⟩⟩
      · rw [show (E.add nx w.drew.heap.size G (r.n + q.n) false).cp nx = G from hcp, Array.size_append, Array.size_append, hB.row.size, hq.size, size_zeroCells, hzk, ← Nat.add_mul, ← Nat.add_mul]
        congr 1; omega
      · rw [Array.toList_append, Array.toList_append]
        exact (hB.row.one.app hq.one).app (one_zeroCells hone (by omega) _)
      · rw [Array.toList_append, Array.toList_append, seg_app_l (n := r.n + q.n) (by rw [List.length_append, Array.length_toList, Array.length_toList, hB.row.size, hq.size, Nat.add_mul]) hj]
        exact (cat_rep hB.row hq hj).mono hl
    have p1 : Pst FP E E H H nx nx wr w w.drew := .same hS (.drew w)
    have p2 := Pst.alloc (wr := wr) (hS.same (.drew w)) hnx hF hwr hB' hH
    have le1 : ∀ x, x ∈ wr → FP x ∨ True := fun _ _ => .inr trivial
    exact ⟨⟨p2.le, p2.dom, p2.sim, fun b hb hh => ⟨(p2.frame b hb hh).1, (p2.frame b hb hh).2⟩, p2.news, p2.size, p2.os, p2.tape, p2.output⟩, p2.old⟩
/-- A row that stays nil. -/
theorem app_nil {c : Call} (ho : o.op = .call c) (hc : c.callee = .builtin .append) {sT elem : TypeId} {k N : Nat} {i : TypeInfo} (ht0 : c.argTypes[0]? = some sT) (hx : xOk P c.argTypes) (hu : P.underlying sT = some (.slice elem)) (hi : P.info? elem = some i) (hik : i.size = k)
    {r q : Row} (hN : N = r.n + q.n) {rr : Option Nat} {FP : Nat → Prop} {act : Act} {K : Act → World → Prop} {Q : Exit → Act → World → Prop} {H H' : Nat → Option Blk} {nx : Nat} {wr : List Nat} {nl : Bool} {get : Nat → List AV}
    {vs vx : Value} (hargs : c.args.map act.eval = #[vs, vx]) {olds news : Array Value} (hB : Base P E k r vs w olds none 0) (hq : RowIs P E k q vx w news) (h0 : N = 0)
    (hnx : ¬ E.dom nx) (hS : Sim FP E H w) (hH : ∀ y, H' y = if nx = y then some (.arr elem N k get) else H y)
    (hk' : ∀ E' v w', Rep E' (.own nx N k nl) v → Pst FP E E' H H' nx (nx + 1) wr w w' → K (act.put o.dst v) w') : o.wpIn (wideR rr) 0 P act w K Q := by
  have hr0 : r.n = 0 := by omega
  have hq0 : q.n = 0 := by omega
  have hrun := run_append_no (ty := o.type) (sLen := r.n) (sCap := 0) (b := none) (w := w) (w' := w) ht0 hx hu hi hq.len (by rw [hik]; exact hq.cells w ⟨rfl, rfl, rfl, rfl⟩) (by omega) (fun ad h => by cases h) (fun _ => rfl)
  rw [hr0, hq0] at hrun
  have hex : (execOp act.eval o).run P w = .ok (.value (.slice none 0 0)) w := by
    rw [exec_builtin ho hc, hargs, hB.eq, hr0]
    simp only [builtin, Sem.run_bind, hrun, Result.andThen_ok, Sem.run_pure]
  have hvr : (E.add nx 0 0 0 true).vir nx = true := by simp [Env.add]
  have hln : (E.add nx 0 0 0 true).ln nx = 0 := by simp [Env.add]
  have hb : ∀ o, BlkR (E.add nx 0 0 0 true) nx (.arr elem N k get) o := fun o => ⟨by rw [h0, hln], .inl ⟨hvr, h0⟩⟩
  refine op_value (nd_call ho) hex (hk' _ _ _ (.ownNil (Or.inl rfl) hvr h0 (by rw [h0, hln])) (Pst.virt hS hnx (hb _) hb hH))
/-- A row grown in place. -/
theorem app_room {c : Call} (ho : o.op = .call c) (hc : c.callee = .builtin .append) {sT elem : TypeId} {k N : Nat} {i : TypeInfo} (ht0 : c.argTypes[0]? = some sT) (hx : xOk P c.argTypes) (hu : P.underlying sT = some (.slice elem)) (hi : P.info? elem = some i) (hik : i.size = k)
    {r q : Row} (hN : N = r.n + q.n) {rr : Option Nat} {FP : Nat → Prop} {act : Act} {K : Act → World → Prop} {Q : Exit → Act → World → Prop} {H H' : Nat → Option Blk} {nx : Nat} {wr : List Nat} {nl : Bool}
    {vs vx : Value} (hargs : c.args.map act.eval = #[vs, vx]) {olds news : Array Value} {y : Nat} (hB : Base P E k r vs w olds (some ⟨E.ρ y, 0, none⟩) (E.cp y)) (hq : RowIs P E k q vx w news) (hroom : N ≤ E.cp y)
    {cc : Array Value} {ty : TypeId} (hcc : blkW w (E.ρ y) = some (.cells cc ty (0, 0))) (hsz : cc.size = E.cp y * k) (hone : One cc.toList) (hty : ty = elem) (hold : olds.toList = (cc.toList.drop 0).take (r.n * k))
    (hnx : ¬ E.dom nx) (hS : Sim FP E H w) (hF : FP y) (hy : H y ≠ none) (hv : E.vir y = false) (hyn : y < nx) (hwr : y ∈ wr) (hH : ∀ z, H' z = if nx = z then some (.arr elem N k (catGet k r q)) else if y = z then none else H z)
    (hk' : ∀ E' v w', Rep E' (.own nx N k nl) v → Pst FP E E' H H' nx (nx + 1) wr w w' → K (act.put o.dst v) w') : o.wpIn (wideR rr) 0 P act w K Q := by
  subst hN; subst hty
  have hns : news.toList.length = q.n * k := by rw [Array.length_toList]; exact hq.size
  have hNk : (r.n + q.n) * k ≤ cc.size := by rw [hsz]; exact Nat.mul_le_mul_right _ hroom
  rw [Nat.add_mul] at hNk
  have hstore := run_storeCells_at (P := P) (E.ρ y) (r.n * k) ty news.toList 0 cc w hcc (by omega) (fun u hu' => by rw [one_iff]; exact hq.one u hu')
  rw [Nat.add_zero, hns] at hstore
  have hadd : (⟨E.ρ y, 0, none⟩ : Addr).add (r.n * i.size) = ⟨E.ρ y, r.n * k, none⟩ := by rw [hik]; unfold Addr.add; split <;> simp_all
  have hrun := run_append_no (ty := o.type) (sLen := r.n) (sCap := E.cp y) (b := some ⟨E.ρ y, 0, none⟩) (w := w) ht0 hx hu hi hq.len (by rw [hik]; exact hq.cells w ⟨rfl, rfl, rfl, rfl⟩) hroom (fun ad h => by cases h; rw [hadd]; exact hstore) (fun h => by cases h)
  have hex : (execOp act.eval o).run P w = .ok (.value (.slice (some ⟨E.ρ y, 0, none⟩) (r.n + q.n) (E.cp y))) (w.setRow (E.ρ y) (cc.toList.take (r.n * k) ++ news.toList ++ cc.toList.drop (r.n * k + q.n * k)).toArray) := by
    rw [exec_builtin ho hc, hargs, hB.eq]
    simp only [builtin, Sem.run_bind, hrun, Result.andThen_ok, Sem.run_pure]
  have hl := Env.le_add (E := E) hnx (E.ρ y) (E.cp y) (r.n + q.n) false
  have hρ : (E.add nx (E.ρ y) (E.cp y) (r.n + q.n) false).ρ nx = E.ρ y := by simp [Env.add]
  have hcp : (E.add nx (E.ρ y) (E.cp y) (r.n + q.n) false).cp nx = E.cp y := by simp [Env.add]
  have hln : (E.add nx (E.ρ y) (E.cp y) (r.n + q.n) false).ln nx = r.n + q.n := by simp [Env.add]
  have hvr : (E.add nx (E.ρ y) (E.cp y) (r.n + q.n) false).vir nx = false := by simp [Env.add]
  refine op_value (nd_call ho) hex (hk' (E.add nx (E.ρ y) (E.cp y) (r.n + q.n) false) _ _ ?_ (Pst.rename hS hnx hF hy hv hyn hwr ?_ hH (fun b hne => blkW_setRow_other w _ _ hne) (setRow_size ..) rfl rfl rfl))
  · have hd : (E.add nx (E.ρ y) (E.cp y) (r.n + q.n) false).dom nx := Or.inl rfl
    have := Rep.own (n := r.n + q.n) (k := k) (nl := nl) hd hvr hln.symm
    rwa [hρ, hcp] at this
  · rw [blkW_setRow_same hcc]
    have hcl : cc.toList.length = cc.size := by simp
    refine ⟨hln.symm, .inr ⟨hvr, _, rfl, ?_, by rw [hcp]; exact hroom, ?_, fun j hj => ?_⟩⟩
    · rw [List.size_toArray, splice_len hns (by omega), hcl, hcp, hsz]
    · rw [List.toList_toArray]; exact one_splice hone hq.one
    · rw [List.toList_toArray]
      have e : cc.toList.take (r.n * k) = olds.toList := by rw [hold, List.drop_zero]
      rw [e, seg_app_l (n := r.n + q.n) (by rw [List.length_append, hns, Array.length_toList, hB.row.size, Nat.add_mul]) hj]
      exact (cat_rep hB.row hq hj).mono hl
theorem append_ok {c : Call} (ho : o.op = .call c) (hc : c.callee = .builtin .append) {sT : TypeId} {s x : AV} (hargs : c.args.toList.map st.val = [s, x]) (ht0 : c.argTypes[0]? = some sT) (hxx : xOk P c.argTypes) (h : (appendA P sT s x st).hit (a, st')) : OpOk P o st a st' := by
  unfold appendA at h
  split at h
  · rename_i elem hu
    split at h
    · rename_i k zc hs hz
      split at h
      · rename_i r rs q xs hcond hr hq
        simp only [Bool.and_eq_true] at hcond
        have hzl := Nat.eq_of_beq_eq_true hcond.1
        have hk := Nat.le_of_ble_eq_true hcond.2
        obtain ⟨i, z, hi, hzz, rfl, hone⟩ := zero_info hz
        have hzk : z.cells.size = k := by simpa using hzl
        have hik : i.size = k := by
          obtain ⟨i', hi', e⟩ := size_info hs
          rw [hi] at hi'; cases hi'; exact e
        have hbo : P.bytesOf elem = i.bytes := by simp [Program.bytesOf, hi]
        obtain ⟨g1, g2, g3, g4, g5⟩ := foldl_read xs st
        generalize hst1 : xs.foldl St.read st = st1 at h g1 g2 g3 g4 g5
        simp only [] at h
        have hd := nd_call ho
        split at h
        · -- own
          rename_i y n k' nl
          split at h
          · exact h.elim
          · rename_i hel
            split at h
            · rename_i ty m k'' get hb
              split at h
              · rename_i hty
                obtain rfl := Nat.eq_of_beq_eq_true hty
                rw [g2] at hb
                obtain ⟨⟨hb1, hb2⟩, h⟩ := h
                cases h
                have hg : Grew st ((st1.write y none).new (.arr ty (r.n + q.n) k (catGet k r q))) := (g1.trans (.write st1 y none (.inl rfl))).trans (.new _ _)
                refine ⟨hg, g4, fun rr FP E act w K Q hwf hcov hfree hS hx hk' => ?_⟩
                have hnx1 : (st1.write y none).nx = st.nx := g3
                have hal : hget st.hp y ≠ none := by rw [hb]; simp
                have hFx : ∀ y', y' ∈ xs → FP y' := fun y' hy => hcov y' (.inl ((Grew.trans (.write st1 y none (.inl rfl)) (.new _ _)).rd y' (g5 y' hy)))
                have hFy : FP y := hcov y (.inr (.inl ((Grew.new (st1.write y none) _).wr y (mem_ins.2 (.inl rfl)))))
                have hFn : FP st.nx := hcov st.nx (.inr (.inr ⟨Nat.le_refl _, by show st.nx < st1.nx + 1; omega⟩))
                obtain ⟨vs, vx, ha, hvs, hvx⟩ := args2 hargs ho hx
                obtain ⟨news, hnews⟩ := rowOf_ok (P := P) (w := w) hk hq hS hFx hvx
                obtain ⟨olds, holds⟩ := rowOf_ok (P := P) (w := w) hk hr hS (fun y' hy' => by
                  unfold rowOf at hr
                  simp only [] at hr
                  split at hr
                  · split at hr
                    · cases hr; simp at hy'; rw [hy']; exact hFy
                    · cases hr
                  · cases hr) hvs
                have hnx : ¬ E.dom st.nx := hfree st.nx (Nat.le_refl _) (by show st.nx < st1.nx + 1; omega)
                have hH : ∀ z', hget ((st1.write y none).new (.arr ty (r.n + q.n) k (catGet k r q))).hp z' = if st.nx = z' then some (.arr ty (r.n + q.n) k (catGet k r q)) else if y = z' then none else hget st.hp z' := fun z' => by
                  rw [hget_new, hnx1, hget_write, g2]
                have hyn := hwf y hal
                have hwrn : st.nx ∈ ((st1.write y none).new (.arr ty (r.n + q.n) k (catGet k r q))).wr := mem_ins.2 (.inl hnx1.symm)
                have hwry : y ∈ ((st1.write y none).new (.arr ty (r.n + q.n) k (catGet k r q))).wr := (Grew.new (st1.write y none) _).wr y (mem_ins.2 (.inl rfl))
                have hk2 : ∀ E' v w', Rep E' (.own st.nx (r.n + q.n) k (r.nl && q.nl)) v → Pst FP E E' (hget st.hp) (hget ((st1.write y none).new (.arr ty (r.n + q.n) k (catGet k r q))).hp) st.nx (st.nx + 1) ((st1.write y none).new (.arr ty (r.n + q.n) k (catGet k r q))).wr w w' → K (act.put o.dst v) w' := by
                  intro E' v w' h1 h2
                  refine hk' E' v w' ?_ ?_
                  · rw [show (st1.write y none).nx = st.nx from g3]; exact h1
                  · rw [show ((st1.write y none).new (.arr ty (r.n + q.n) k (catGet k r q))).nx = st.nx + 1 from by show st1.nx + 1 = _; rw [g3]]; exact h2
                -- through the state in which y is let go
                let H1 : Nat → Option Blk := fun z' => if y = z' then none else hget st.hp z'
                have pk : Pst FP E E (hget st.hp) H1 st.nx st.nx ((st1.write y none).new (.arr ty (r.n + q.n) k (catGet k r q))).wr w w := Pst.kill hS (y := y) (fun z' => rfl)
                have hwF : ∀ x, x ∈ ((st1.write y none).new (.arr ty (r.n + q.n) k (catGet k r q))).wr → FP x := fun x hx => hcov x (.inr (.inl hx))
                have hk3 : ∀ E' v w', Rep E' (.own st.nx (r.n + q.n) k (r.nl && q.nl)) v → Pst FP E E' H1 (hget ((st1.write y none).new (.arr ty (r.n + q.n) k (catGet k r q))).hp) st.nx (st.nx + 1) ((st1.write y none).new (.arr ty (r.n + q.n) k (catGet k r q))).wr w w' → K (act.put o.dst v) w' := fun E' v w' h1 h2 =>
                  hk2 E' v w' h1 (Pst.trans hS hwF pk h2 (Nat.le_refl _) (Nat.le_succ _))
                have hrn : r.n = n := by
                  unfold rowOf at hr
                  simp only [] at hr
                  split at hr
                  · split at hr
                    · cases hr; rfl
                    · cases hr
                  · cases hr
                cases hvs with
                | ownNil hdm hvir hn0 hln =>
                  have hB : Base P E k r (.slice none 0 0) w olds none 0 := ⟨holds, by rw [hrn, hn0]⟩
                  by_cases hz0 : r.n + q.n = 0
                  · exact app_nil ho hc ht0 hxx hu hi hik rfl ha hB hnews hz0 hnx pk.sim hH hk3
                  · exact app_new ho hc ht0 hxx hu hi hzz hzk hk hik hone rfl (by rw [← hbo]; exact hb1) hb2 ha hB hnews (by omega) hnx hFn hwrn pk.sim hH hk3
                | own hdm hvir hln =>
                  have hB : Base P E k r (.slice (some ⟨E.ρ y, 0, none⟩) n (E.cp y)) w olds (some ⟨E.ρ y, 0, none⟩) (E.cp y) := ⟨holds, by rw [hrn]⟩
                  obtain ⟨hbl, hblk⟩ := hS.blk y _ hFy hb
                  rcases hblk with ⟨hv1, _⟩ | ⟨_, cc, hc1, hc2, hc3, hc4, hc5⟩
                  · rw [hvir] at hv1; cases hv1
                  · have hkk : k'' = k := by
                      cases hq2 : Nat.beq k k'' with
                      | true => exact (Nat.eq_of_beq_eq_true hq2).symm
                      | false =>
                        unfold rowOf at hr
                        cases hq3 : Nat.beq k k' <;> simp [hb, hq2, hq3] at hr
                    subst hkk
                    by_cases hroom : r.n + q.n ≤ E.cp y
                    · have hle : 0 + n * k'' ≤ cc.size := by rw [hc2, Nat.zero_add]; exact Nat.mul_le_mul_right _ (by omega)
                      have hcells := holds.cells w ⟨rfl, rfl, rfl, rfl⟩
                      have hload := load_seg (P := P) (w := w) (off := 0) (m := n * k'') hc1 hle
                      have hold : olds.toList = (cc.toList.drop 0).take (r.n * k'') := by
                        have e1 : (Builtin.firstCells k'' r.n (.slice (some ⟨E.ρ y, 0, none⟩) n (E.cp y))).run P w = (loadCells ⟨E.ρ y, 0, none⟩ (r.n * k'')).run P w := rfl
                        rw [e1, hrn, hload] at hcells
                        cases hcells
                        rw [hrn]
                      exact app_room ho hc ht0 hxx hu hi hik rfl ha hB hnews hroom hc1 hc2 hc4 rfl hold hnx hS hFy hal hvir hyn hwry hH hk2
                    · exact app_new ho hc ht0 hxx hu hi hzz hzk hk hik hone rfl (by rw [← hbo]; exact hb1) hb2 ha hB hnews (by omega) hnx hFn hwrn pk.sim hH hk3
              · exact h.elim
            · exact h.elim
        · -- a nil literal
          rename_i v
          split at h
          · rename_i hnil
            obtain rfl := isNilSl_eq hnil
            obtain ⟨⟨hb1, hb2⟩, h⟩ := h
            cases h
            have hg : Grew st (st1.new (.arr elem (r.n + q.n) k (catGet k r q))) := g1.trans (.new _ _)
            refine ⟨hg, g4, fun rr FP E act w K Q hwf hcov hfree hS hx hk' => ?_⟩
            have hFx : ∀ y, y ∈ xs → FP y := fun y hy => hcov y (.inl ((Grew.new st1 _).rd y (g5 y hy)))
            have hFn : FP st.nx := hcov st.nx (.inr (.inr ⟨Nat.le_refl _, by show st.nx < st1.nx + 1; omega⟩))
            obtain ⟨vs, vx, ha, hvs, hvx⟩ := args2 hargs ho hx
            obtain ⟨news, hnews⟩ := rowOf_ok (P := P) (w := w) hk hq hS hFx hvx
            have hnx : ¬ E.dom st.nx := hfree st.nx (Nat.le_refl _) (by show st.nx < st1.nx + 1; omega)
            have hH : ∀ z', hget (st1.new (.arr elem (r.n + q.n) k (catGet k r q))).hp z' = if st.nx = z' then some (.arr elem (r.n + q.n) k (catGet k r q)) else hget st.hp z' := fun z' => by
              rw [hget_new, g3, g2]
            have hwrn : st.nx ∈ (st1.new (.arr elem (r.n + q.n) k (catGet k r q))).wr := mem_ins.2 (.inl g3.symm)
            have hk2 : ∀ E' v w', Rep E' (.own st.nx (r.n + q.n) k (r.nl && q.nl)) v → Pst FP E E' (hget st.hp) (hget (st1.new (.arr elem (r.n + q.n) k (catGet k r q))).hp) st.nx (st.nx + 1) (st1.new (.arr elem (r.n + q.n) k (catGet k r q))).wr w w' → K (act.put o.dst v) w' := by
              intro E' v w' h1 h2
              refine hk' E' v w' (by rw [g3]; exact h1) ?_
              rw [show (st1.new (.arr elem (r.n + q.n) k (catGet k r q))).nx = st.nx + 1 from by show st1.nx + 1 = _; rw [g3]]; exact h2
            obtain ⟨hr0, rfl⟩ : r.n = 0 ∧ rs = [] := by cases hr; exact ⟨rfl, rfl⟩
            cases hvs
            obtain ⟨olds, holds⟩ := rowOf_ok (P := P) (w := w) (E := E) hk hr hS (fun y' hy' => by cases hy') (.lit _ rfl)
            have hB : Base P E k r (.slice none 0 0) w olds none 0 := ⟨holds, by rw [hr0]⟩
            by_cases hz0 : r.n + q.n = 0
            · exact app_nil ho hc ht0 hxx hu hi hik rfl ha hB hnews hz0 hnx hS hH hk2
            · exact app_new ho hc ht0 hxx hu hi hzz hzk hk hik hone rfl (by rw [← hbo]; exact hb1) hb2 ha hB hnews (by omega) hnx hFn hwrn hS hH hk2
          · exact h.elim
        · -- a full slice
          rename_i n k' get nl
          split at h
          · rename_i hqn
            simp only [Bool.and_eq_true] at hqn
            have hq1 := Nat.le_of_ble_eq_true hqn.2
            obtain ⟨⟨hb1, hb2⟩, h⟩ := h
            cases h
            have hg : Grew st (st1.new (.arr elem (r.n + q.n) k (catGet k r q))) := g1.trans (.new _ _)
            refine ⟨hg, g4, fun rr FP E act w K Q hwf hcov hfree hS hx hk' => ?_⟩
            have hFx : ∀ y, y ∈ xs → FP y := fun y hy => hcov y (.inl ((Grew.new st1 _).rd y (g5 y hy)))
            have hFn : FP st.nx := hcov st.nx (.inr (.inr ⟨Nat.le_refl _, by show st.nx < st1.nx + 1; omega⟩))
            obtain ⟨vs, vx, ha, hvs, hvx⟩ := args2 hargs ho hx
            obtain ⟨news, hnews⟩ := rowOf_ok (P := P) (w := w) hk hq hS hFx hvx
            have hnx : ¬ E.dom st.nx := hfree st.nx (Nat.le_refl _) (by show st.nx < st1.nx + 1; omega)
            have hH : ∀ z', hget (st1.new (.arr elem (r.n + q.n) k (catGet k r q))).hp z' = if st.nx = z' then some (.arr elem (r.n + q.n) k (catGet k r q)) else hget st.hp z' := fun z' => by
              rw [hget_new, g3, g2]
            have hwrn : st.nx ∈ (st1.new (.arr elem (r.n + q.n) k (catGet k r q))).wr := mem_ins.2 (.inl g3.symm)
            have hk2 : ∀ E' v w', Rep E' (.own st.nx (r.n + q.n) k (r.nl && q.nl)) v → Pst FP E E' (hget st.hp) (hget (st1.new (.arr elem (r.n + q.n) k (catGet k r q))).hp) st.nx (st.nx + 1) (st1.new (.arr elem (r.n + q.n) k (catGet k r q))).wr w w' → K (act.put o.dst v) w' := by
              intro E' v w' h1 h2
              refine hk' E' v w' (by rw [g3]; exact h1) ?_
              rw [show (st1.new (.arr elem (r.n + q.n) k (catGet k r q))).nx = st.nx + 1 from by show st1.nx + 1 = _; rw [g3]]; exact h2
            have hv0 : r.n = n ∧ rs = [] := by
              unfold rowOf at hr
              simp only [] at hr
              split at hr
              · cases hr; exact ⟨rfl, rfl⟩
              · cases hr
            obtain ⟨hrn, rfl⟩ := hv0
            obtain ⟨olds, holds⟩ := rowOf_ok (P := P) (w := w) (E := E) hk hr hS (fun y' hy' => by cases hy') hvs
            cases hvs with
            | slNil hn0 =>
              exact app_new ho hc ht0 hxx hu hi hzz hzk hk hik hone rfl (by rw [← hbo]; exact hb1) hb2 ha ⟨holds, by rw [hrn, hn0]⟩ hnews (by omega) hnx hFn hwrn hS hH hk2
            | slEmp q1 q2 =>
              exact app_new ho hc ht0 hxx hu hi hzz hzk hk hik hone rfl (by rw [← hbo]; exact hb1) hb2 ha ⟨holds, by rw [hrn]⟩ hnews (by have := q2 rfl; omega) hnx hFn hwrn hS hH hk2
            | sl q1 q2 q3 q4 q5 q6 =>
              exact app_new ho hc ht0 hxx hu hi hzz hzk hk hik hone rfl (by rw [← hbo]; exact hb1) hb2 ha ⟨holds, by rw [hrn]⟩ hnews (by have := q3 rfl; omega) hnx hFn hwrn hS hH hk2
          · exact h.elim
        · exact h.elim
      · exact h.elim
    · exact h.elim
  · exact h.elim
end
end Go.Proofs.YtdlghljhgbakjaaDoor
