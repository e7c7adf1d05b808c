/-
  PARTS, one behind the other: N5 N6 N7 N8 N9 NA.
-/
import Derived.Test.YtdlghljhgbakjaaDoorWl0
import Derived.OrdersIn
import Derived.Laws.StructEq
/-
  PART: loads, stores, new blocks: what the evaluator says of them is so.
-/
namespace Go.Proofs.YtdlghljhgbakjaaDoor
open Go.RowKit

section
variable {P : Program} {w : World} {E : Env}
theorem size_info {t : TypeId} {n : Nat} (h : sizeO P t = some n) : ∃ i, P.info? t = some i ∧ i.size = n := by
  unfold sizeO at h
  split at h
  · rename_i i hi; cases h; exact ⟨i, hi, rfl⟩
  · cases h
theorem run_size {t : TypeId} {n : Nat} (h : sizeO P t = some n) : (sizeOf t).run P w = .ok n w := by
  obtain ⟨i, hi, rfl⟩ := size_info h
  simp [sizeOf, typeInfo, hi]
theorem run_agg {t : TypeId} {ag : Bool} (h : aggO P t = some ag) : (isAgg t).run P w = .ok ag w := by
  unfold aggO at h
  split at h
  · rename_i fs hu; cases h; simp [isAgg, underlying, hu]
  · rename_i hu; cases h; simp [isAgg, underlying, hu]
  · rename_i d h1 h2 hu
    cases h
    cases d <;> first | (exact absurd rfl (h1 _)) | (exact absurd rfl (h2 _ _)) | (simp [isAgg, underlying, hu])
  · cases h
theorem toList_seg {c : Array Value} {base L off n : Nat} (h : off + n ≤ L) : ((((c.toList.drop base).take L).drop off).take n) = (c.toList.drop (base + off)).take n := by
  rw [List.drop_take, List.take_take, List.drop_drop, Nat.min_eq_left (by omega)]
theorem one_seg {c : Array Value} {off i k n : Nat} (hi : i < n) (h : One ((c.toList.drop off).take (n * k))) : One ((c.toList.drop (off + i * k)).take k) := by
  have hle : i * k + k ≤ n * k := by
    have := Nat.mul_le_mul_right k (show i + 1 ≤ n from hi)
    rwa [Nat.add_mul, Nat.one_mul] at this
  rw [← toList_seg hle]
  exact (h.drop _).take _
theorem cut_le {cs : List AV} {off n : Nat} {ag : Bool} {r : AV} (h : cut cs off n ag = some r) : off + n ≤ cs.length := by
  unfold cut at h
  split at h
  · rename_i hb; exact Nat.le_of_ble_eq_true hb
  · cases h
/-- Cells as a value. -/
theorem cut_ok {cs : List AV} {off n : Nat} {ag : Bool} {r : AV} (h : cut cs off n ag = some r) {vs : List Value} (hR : Reps E cs vs) (ho : One vs) :
    (ag = true → Rep E r (.agg ((vs.drop off).take n).toArray)) ∧ (ag = false → n = 1 ∧ ∃ v, vs[off]? = some v ∧ Rep E r v) := by
  unfold cut at h
  split at h
  · split at h
    · cases h
      exact ⟨fun _ => .agg (by simpa using (hR.drop off).take n) (by simpa using (ho.drop off).take n), fun h => by cases h⟩
    · split at h
      · exact ⟨fun h => (by cases h), fun _ => ⟨rfl, hR.get h⟩⟩
      · cases h
  · cases h
theorem load_at {b off n : Nat} {c : Array Value} {ty t : TypeId} {fr : Nat × Nat} {ag : Bool} (hb : blkW w b = some (.cells c ty fr)) (hs : sizeO P t = some n) (ha : aggO P t = some ag) (hle : off + n ≤ c.size) :
    (ag = true → (loadVar t ⟨b, off, none⟩).run P w = .ok (.agg ((c.toList.drop off).take n).toArray) w) ∧ (ag = false → ∀ v, c.toList[off]? = some v → (loadVar t ⟨b, off, none⟩).run P w = .ok v w) := by
  constructor
  · rintro rfl
    have hl : ((c.toList.drop off).take n).length = n := take_len (by simpa using hle)
    have hc := run_loadCells_list (P := P) (w := w) ⟨b, off, none⟩ ((c.toList.drop off).take n) (fun j v hj => by
      have hadd : (⟨b, off, none⟩ : Addr).add j = ⟨b, off + j, none⟩ := by unfold Addr.add; split <;> simp_all
      rw [hadd, cell_blk hb, ← Array.getElem?_toList]
      rw [List.getElem?_take] at hj
      split at hj
      · rw [List.getElem?_drop] at hj; exact hj
      · cases hj)
    rw [hl] at hc
    simp [loadVar, run_agg ha, run_size hs, hc]
  · rintro rfl v hv
    have : w.cell? ⟨b, off, none⟩ = some v := by rw [cell_blk hb, ← Array.getElem?_toList]; exact hv
    simp [loadVar, run_agg ha, load, Sem.run, this]
theorem load_cut {b base off n : Nat} {c : Array Value} {ty t : TypeId} {fr : Nat × Nat} {ag : Bool} (hb : blkW w b = some (.cells c ty fr)) (hs : sizeO P t = some n) (ha : aggO P t = some ag)
    {cs : List AV} {r : AV} (hR : Reps E cs ((c.toList.drop base).take cs.length)) (hle : base + cs.length ≤ c.size) (ho : One ((c.toList.drop base).take cs.length)) (hc : cut cs off n ag = some r) :
    ∃ v, (loadVar t ⟨b, base + off, none⟩).run P w = .ok v w ∧ Rep E r v := by
  have h1 := cut_le hc
  obtain ⟨k1, k2⟩ := cut_ok hc hR ho
  obtain ⟨l1, l2⟩ := load_at (P := P) (t := t) hb hs ha (off := base + off) (by omega)
  cases ag with
  | true =>
    refine ⟨_, l1 rfl, ?_⟩
    have := k1 rfl
    rw [toList_seg h1] at this; exact this
  | false =>
    obtain ⟨hn, v, hv, hr⟩ := k2 rfl
    refine ⟨v, l2 rfl v ?_, hr⟩
    rw [List.getElem?_take] at hv
    split at hv
    · rw [List.getElem?_drop] at hv; exact hv
    · cases hv
theorem Reps.whole {cs : List AV} {c : Array Value} (h : Reps E cs c.toList) : Reps E cs ((c.toList.drop 0).take cs.length) ∧ 0 + cs.length ≤ c.size := by
  have := h.len
  have hz : c.toList.length = c.size := by simp
  refine ⟨?_, by omega⟩
  rw [List.drop_zero, List.take_of_length_le (by omega)]
  exact h
/-! Stores. -/
theorem splice_ok {cs new : List AV} {off : Nat} {vs us : List Value} (h : Reps E cs vs) (k : Reps E new us) : Reps E (splice cs off new) (vs.take off ++ (us ++ vs.drop (off + us.length))) := by
  unfold splice
  rw [k.len]
  exact (h.take off).app (k.app (h.drop _))
theorem run_storeVar {b off n : Nat} {c : Array Value} {ty t : TypeId} {v : Value} (hb : blkW w b = some (.cells c ty (0, 0))) (hs : sizeO P t = some n) (hl : v.cells.toList.length = n) (hle : off + n ≤ c.size) (ho : One v.cells.toList) :
    (storeVar t ⟨b, off, none⟩ v).run P w = .ok () (w.setRow b (c.toList.take off ++ v.cells.toList ++ c.toList.drop (off + n)).toArray) := by
  have := run_storeCells_at (P := P) b off ty v.cells.toList 0 c w hb (by rw [hl]; simpa using hle) (fun u hu => by rw [one_iff]; exact ho u hu)
  have hsz : v.cells.size = n := by rw [← hl, Array.length_toList]
  simp only [Nat.add_zero, hl] at this
  simp [storeVar, run_size hs, hsz]
  simpa using this
end

/-- The fence: every function; perhaps in a round of a range over a function. -/
def wideR (r : Option Nat) : Fence := { Fence.wide with round := r }
def NoDefer (o : Oper) : Prop := ∀ c, o.op ≠ .defer c
section
variable {P : Program} {o : Oper} {a : Act} {w w' : World} {K : Act → World → Prop} {Q : Exit → Act → World → Prop} {r : Option Nat}
theorem op_value {v : Value} (hd : NoDefer o) (h : (execOp a.eval o).run P w = .ok (.value v) w') (hk : K (a.put o.dst v) w') : o.wpIn (wideR r) 0 P a w K Q :=
  ⟨fun _ _ => trivial, by rw [Oper.semAt_eq _ _ _ hd, h]; exact hk⟩
theorem op_skip (hd : NoDefer o) (h : (execOp a.eval o).run P w = .ok .skip w') (hk : K (a.put o.dst undef) w') : o.wpIn (wideR r) 0 P a w K Q :=
  ⟨fun _ _ => trivial, by rw [Oper.semAt_eq _ _ _ hd, h]; exact hk⟩
end
/-- Names in use are below the next one. -/
def Wf (s : St) : Prop := ∀ x, hget s.hp x ≠ none → x < s.nx
theorem cov_mono {a b : List (Nat × Option (Nat × Nat))} (h : ∀ e, e ∈ a → e ∈ b) {x j : Nat} (hc : cov a x j = true) : cov b x j = true := by
  unfold cov at hc ⊢
  obtain ⟨e, h1, h2⟩ := List.any_eq_true.1 hc
  exact List.any_eq_true.2 ⟨e, h e h1, h2⟩
theorem cov_mono_false {a b : List (Nat × Option (Nat × Nat))} (h : ∀ e, e ∈ a → e ∈ b) {x j : Nat} (hc : cov b x j = false) : cov a x j = false := by
  cases hq : cov a x j with
  | false => rfl
  | true => rw [cov_mono h hq] at hc; cases hc
theorem cov_all {wc : List (Nat × Option (Nat × Nat))} {x : Nat} (h : (x, none) ∈ wc) (j : Nat) : cov wc x j = true := List.any_eq_true.2 ⟨_, h, by simp⟩
/-- A block's cells, but for those that were written, are as they were. -/
def Kept (hp hp' : List (Nat × Option Blk)) (wc : List (Nat × Option (Nat × Nat))) (x : Nat) : Prop :=
  (∀ j, cov wc x j = true) ∨ hget hp' x = hget hp x ∨ ∃ ty cs cs', hget hp x = some (.fix ty cs) ∧ hget hp' x = some (.fix ty cs') ∧ cs'.length = cs.length ∧ ∀ j, cov wc x j = false → cs'[j]? = cs[j]?
theorem Kept.wc {hp hp' : List (Nat × Option Blk)} {a b : List (Nat × Option (Nat × Nat))} {x : Nat} (h : Kept hp hp' a x) (hm : ∀ e, e ∈ a → e ∈ b) : Kept hp hp' b x := by
  rcases h with h | h | ⟨ty, cs, cs', h1, h2, h3, h4⟩
  · exact .inl fun j => cov_mono hm (h j)
  · exact .inr (.inl h)
  · exact .inr (.inr ⟨ty, cs, cs', h1, h2, h3, fun j hj => h4 j (cov_mono_false hm hj)⟩)
theorem Kept.trans {p q r : List (Nat × Option Blk)} {a : List (Nat × Option (Nat × Nat))} {x : Nat} (h : Kept p q a x) (k : Kept q r a x) : Kept p r a x := by
  rcases h with h | h | ⟨ty, cs, cs', h1, h2, h3, h4⟩
  · exact .inl h
  · rcases k with k | k | ⟨ty, cs, cs', h1, h2, h3, h4⟩
    · exact .inl k
    · exact .inr (.inl (k.trans h))
    · exact .inr (.inr ⟨ty, cs, cs', h ▸ h1, h2, h3, h4⟩)
  · rcases k with k | k | ⟨ty2, ds, ds', k1, k2, k3, k4⟩
    · exact .inl k
    · exact .inr (.inr ⟨ty, cs, cs', h1, k.trans h2, h3, h4⟩)
    · rw [h2] at k1
      cases k1
      exact .inr (.inr ⟨ty, cs, ds', h1, k2, k3.trans h3, fun j hj => (k4 j hj).trans (h4 j hj)⟩)
/-- How the evaluator's states go on. -/
structure Grew (s s' : St) : Prop where
  wf : Wf s → Wf s'
  nx : s.nx ≤ s'.nx
  rd : ∀ x, x ∈ s.rd → x ∈ s'.rd
  wr : ∀ x, x ∈ s.wr → x ∈ s'.wr
  ws : ∀ x, x ∈ s.ws → x ∈ s'.ws
  wb : ∀ x, x ∈ s.wb → x ∈ s'.wb
  slot : ∀ d, d ∉ s'.ws → look s'.sl d = look s.sl d
  blkb : ∀ x, x ∉ s'.wb → hget s'.hp x = hget s.hp x
  blkr : ∀ x, x ∉ s'.wr → hget s'.hp x = hget s.hp x
  wbr : ∀ x, x ∈ s'.wb → x ∈ s.wb ∨ x ∈ s'.wr
  wc : ∀ e, e ∈ s.wc → e ∈ s'.wc
  cell : ∀ x, Kept s.hp s'.hp s'.wc x
theorem Grew.refl (s : St) : Grew s s := ⟨id, Nat.le_refl _, fun _ h => h, fun _ h => h, fun _ h => h, fun _ h => h, fun _ _ => rfl, fun _ _ => rfl, fun _ _ => rfl, fun _ h => .inl h, fun _ h => h, fun _ => .inr (.inl rfl)⟩
theorem Grew.trans {a b c : St} (h : Grew a b) (k : Grew b c) : Grew a c :=
  ⟨fun d => k.wf (h.wf d), Nat.le_trans h.nx k.nx, fun x d => k.rd x (h.rd x d), fun x d => k.wr x (h.wr x d), fun x d => k.ws x (h.ws x d), fun x d => k.wb x (h.wb x d),
   fun d hd => (k.slot d hd).trans (h.slot d fun e => hd (k.ws d e)), fun x hx => (k.blkb x hx).trans (h.blkb x fun e => hx (k.wb x e)), fun x hx => (k.blkr x hx).trans (h.blkr x fun e => hx (k.wr x e)),
   fun x hx => (k.wbr x hx).elim (fun q => (h.wbr x q).imp id (k.wr x)) .inr, fun e he => k.wc e (h.wc e he), fun x => ((h.cell x).wc k.wc).trans (k.cell x)⟩
theorem Grew.read (s : St) (x : Nat) : Grew s (s.read x) :=
  ⟨id, Nat.le_refl _, fun _ h => mem_ins.2 (.inr h), fun _ h => h, fun _ h => h, fun _ h => h, fun _ _ => rfl, fun _ _ => rfl, fun _ _ => rfl, fun _ h => .inl h, fun _ h => h, fun _ => .inr (.inl rfl)⟩
theorem hget_write {s : St} {x : Nat} {b : Option Blk} {y : Nat} : hget (s.write x b).hp y = if x = y then b else hget s.hp y := hget_cons x b s.hp y
theorem Grew.write (s : St) (x : Nat) (b : Option Blk) (hb : b = none ∨ hget s.hp x ≠ none) : Grew s (s.write x b) := by
  refine ⟨fun h y hy => ?_, Nat.le_refl _, fun _ h => mem_ins.2 (.inr h), fun _ h => mem_ins.2 (.inr h), fun _ h => h, fun _ h => mem_ins.2 (.inr h), fun _ _ => rfl, fun y hy => ?_, fun y hy => ?_, fun y hy => (mem_ins.1 hy).elim (fun e => .inr (mem_ins.2 (.inl e))) .inl, fun e h => List.mem_cons_of_mem _ h, fun y => ?_⟩
  · rw [hget_write] at hy
    by_cases e : x = y
    · subst e; rw [if_pos rfl] at hy; exact h x (hb.resolve_left hy)
    · rw [if_neg e] at hy; exact h y hy
  · rw [hget_write, if_neg]; rintro rfl; exact hy (mem_ins.2 (.inl rfl))
  · rw [hget_write, if_neg]; rintro rfl; exact hy (mem_ins.2 (.inl rfl))
  · by_cases e : x = y
    · subst e; exact .inl fun j => cov_all (List.mem_cons_self ..) j
    · exact .inr (.inl (by rw [hget_write, if_neg e]))
theorem splice_get {cs new : List AV} {off j : Nat} (h : off + new.length ≤ cs.length) (hj : ¬ (off ≤ j ∧ j < off + new.length)) : (splice cs off new)[j]? = cs[j]? := by
  unfold splice
  by_cases h1 : j < off
  · rw [List.getElem?_append_left (by simp; omega), List.getElem?_take, if_pos h1]
  · rw [List.getElem?_append_right (by simp; omega), List.getElem?_append_right (by simp; omega), List.getElem?_drop]
    congr 1
    simp; omega
theorem splice_length {cs new : List AV} {off : Nat} (h : off + new.length ≤ cs.length) : (splice cs off new).length = cs.length := by
  unfold splice; simp; omega
theorem Grew.writeAt (s : St) (x : Nat) (ty : TypeId) (cs : List AV) (off n : Nat) (new : List AV) (h : hget s.hp x = some (.fix ty cs)) (h1 : Nat.ble (off + n) cs.length = true) (h2 : Nat.beq new.length n = true) : Grew s (s.writeAt x (some (.fix ty (splice cs off new))) off n) := by
  have g := Grew.write s x (some (.fix ty (splice cs off new))) (.inr (by rw [h]; simp))
  obtain rfl := Nat.eq_of_beq_eq_true h2
  have h1 := Nat.le_of_ble_eq_true h1
  refine ⟨g.wf, g.nx, g.rd, g.wr, g.ws, g.wb, g.slot, g.blkb, g.blkr, g.wbr, fun e h => List.mem_cons_of_mem _ h, fun y => ?_⟩
  by_cases e : x = y
  · subst e
    refine .inr (.inr ⟨ty, cs, splice cs off new, h, ?_, splice_length h1, fun j hj => splice_get h1 fun ⟨a, b⟩ => ?_⟩)
    · show hget (s.write x _).hp x = _
      rw [hget_write, if_pos rfl]
    · have : cov (s.writeAt x (some (.fix ty (splice cs off new))) off new.length).wc x j = true := by
        refine List.any_eq_true.2 ⟨(x, some (off, new.length)), List.mem_cons_self .., ?_⟩
        simp [Nat.blt_eq, a, b]
      rw [this] at hj; cases hj
  · refine .inr (.inl ?_)
    show hget (s.write x _).hp y = _
    rw [hget_write, if_neg e]
theorem Grew.new (s : St) (b : Blk) : Grew s (s.new b) := by
  have hh : ∀ y, hget (s.new b).hp y = if s.nx = y then some b else hget s.hp y := fun y => hget_cons s.nx (some b) s.hp y
  refine ⟨fun h y hy => ?_, Nat.le_succ _, fun _ h => mem_ins.2 (.inr h), fun _ h => mem_ins.2 (.inr h), fun _ h => h, fun _ h => mem_ins.2 (.inr h), fun _ _ => rfl, fun y hy => ?_, fun y hy => ?_, fun y hy => (mem_ins.1 hy).elim (fun e => .inr (mem_ins.2 (.inl e))) .inl, fun e h => List.mem_cons_of_mem _ h, fun y => ?_⟩
  · show y < s.nx + 1
    rw [hh] at hy
    by_cases e : s.nx = y
    · omega
    · rw [if_neg e] at hy; have := h y hy; omega
  · rw [hh, if_neg]; rintro rfl; exact hy (mem_ins.2 (.inl rfl))
  · rw [hh, if_neg]; rintro rfl; exact hy (mem_ins.2 (.inl rfl))
  · by_cases e : s.nx = y
    · subst e; exact .inl fun j => cov_all (List.mem_cons_self ..) j
    · exact .inr (.inl (by rw [hh, if_neg e]))
theorem hget_new {s : St} {b : Blk} (y : Nat) : hget (s.new b).hp y = if s.nx = y then some b else hget s.hp y := hget_cons s.nx (some b) s.hp y
theorem Grew.put (s : St) (d : Option Nat) (a : AV) : Grew s (s.put d a) := by
  cases d with
  | none => exact .refl s
  | some d =>
    refine ⟨id, Nat.le_refl _, fun _ h => h, fun _ h => h, fun _ h => mem_ins.2 (.inr h), fun _ h => h, fun e he => ?_, fun _ _ => rfl, fun _ _ => rfl, fun _ h => .inl h, fun _ h => h, fun _ => .inr (.inl rfl)⟩
    show look ((d, a) :: s.sl) e = _
    have hne : d ≠ e := fun h => he (mem_ins.2 (.inl h.symm))
    show (match Nat.beq d e with | true => a | false => look s.sl e) = _
    have : Nat.beq d e = false := by
      cases hb : Nat.beq d e
      · rfl
      · exact absurd (Nat.eq_of_beq_eq_true hb) hne
    rw [this]
/-- Names that a piece may touch are covered. -/
def Cov (FP : Nat → Prop) (s s' : St) : Prop := ∀ x, (x ∈ s'.rd ∨ x ∈ s'.wr ∨ (s.nx ≤ x ∧ x < s'.nx)) → FP x
/-- What the evaluator says of an operation is so. -/
structure OpOk (P : Program) (o : Oper) (st : St) (a : AV) (st' : St) : Prop where
  grew : Grew st st'
  sl : st'.sl = st.sl
  run : ∀ (r : Option Nat) (FP : Nat → Prop) (E : Env) (act : Act) (w : World) (K : Act → World → Prop) (Q : Exit → Act → World → Prop), Wf st → Cov FP st st' → Free E st.nx st'.nx → Sim FP E (hget st.hp) w →
    (∀ x, x ∈ o.op.operands → Rep E (st.val x) (act.eval x)) →
    (∀ E' v w', Rep E' a v → Pst FP E E' (hget st.hp) (hget st'.hp) st.nx st'.nx st'.wr w w' → K (act.put o.dst v) w') → o.wpIn (wideR r) 0 P act w K Q
section
variable {P : Program} {o : Oper} {st st' : St} {a : AV}
/-- An operation that leaves memory alone. -/
theorem OpOk.quiet (hd : NoDefer o) (hg : Grew st st') (hsl : st'.sl = st.sl) (hh : st'.hp = st.hp) (hn : st'.nx = st.nx)
    (h : ∀ (FP : Nat → Prop) (E : Env) (act : Act) (w : World), Cov FP st st' → Sim FP E (hget st.hp) w → (∀ x, x ∈ o.op.operands → Rep E (st.val x) (act.eval x)) → ∃ v, (execOp act.eval o).run P w = .ok (.value v) w ∧ Rep E a v) :
    OpOk P o st a st' :=
  ⟨hg, hsl, fun r FP E act w K Q _ hc _ hS hx hk => by
    obtain ⟨v, hr, hv⟩ := h FP E act w hc hS hx
    refine op_value hd hr (hk E v w hv ?_)
    rw [hh, hn]; exact .refl hS⟩
end
end Go.Proofs.YtdlghljhgbakjaaDoor

/-
  PART: operations on memory: load, store, new blocks.
-/
namespace Go.Proofs.YtdlghljhgbakjaaDoor
open Go.RowKit

section
variable {P : Program} {o : Oper} {st st' : St} {a : AV}
theorem rep_ptr {E : Env} {x off : Nat} {v : Value} (h : Rep E (.ptr x off) v) : E.dom x ∧ v = .pointer (some ⟨E.ρ x, off, none⟩) := by cases h; exact ⟨‹_›, rfl⟩
theorem rep_pti {E : Env} {x base str n off : Nat} {i : Int} {v : Value} (h : Rep E (.pti x base i str n off) v) : E.dom x ∧ 0 ≤ i ∧ i < (n : Int) ∧ v = .pointer (some ⟨E.ρ x, base + i.toNat * str + off, none⟩) := by cases h; exact ⟨‹_›, ‹_›, ‹_›, rfl⟩
theorem rep_pe {E : Env} {x i k off : Nat} {il : Bool} {v : Value} (h : Rep E (.pe x i k off il) v) : E.dom x ∧ v = .pointer (some ⟨E.ρ x, i * k + off, none⟩) := by cases h; exact ⟨‹_›, rfl⟩
theorem rep_fz {E : Env} {cs : List AV} {off : Nat} {v : Value} (h : Rep E (.fz cs off) v) : ∃ b base c, E.fz b = some c ∧ base + cs.length ≤ c.size ∧ Reps E cs ((c.toList.drop base).take cs.length) ∧ One ((c.toList.drop base).take cs.length) ∧ v = .pointer (some ⟨b, base + off, none⟩) := by
  cases h; exact ⟨_, _, _, ‹_›, ‹_›, ‹_›, ‹_›, rfl⟩
theorem below_hit {α : Type} {l : Bool} {i n : Nat} {t : Tree α} {b : α} (h : (below l i n t).hit b) : i < n ∧ t.hit b := by
  unfold below at h
  cases l with
  | true =>
    simp only [] at h
    split at h
    · rename_i hb; exact ⟨of_decide_eq_true (by simpa [Nat.blt_eq] using hb), h⟩
    · exact h.elim
  | false => exact h
theorem within_hit {α : Type} {l : Bool} {z : Int} {n : Nat} {t : Tree α} {b : α} (h : (within l z n t).hit b) : 0 ≤ z ∧ z < (n : Int) ∧ t.hit b := by
  unfold within at h
  cases l with
  | true =>
    simp only [] at h
    split at h
    · rename_i hb; simp only [Bool.and_eq_true, decide_eq_true_eq] at hb; exact ⟨hb.1, hb.2, h⟩
    · exact h.elim
  | false => exact ⟨h.1.1, h.1.2, h.2⟩
theorem ret_hit {α : Type} {a b : α} (h : (Tree.ret a).hit b) : a = b := h
theorem blk_fix {FP : Nat → Prop} {E : Env} {H : Nat → Option Blk} {w : World} {x : Nat} {ty : TypeId} {cs : List AV} (h : Sim FP E H w) (hF : FP x) (hx : H x = some (.fix ty cs)) :
    E.vir x = false ∧ ∃ c : Array Value, blkW w (E.ρ x) = some (.cells c ty (0, 0)) ∧ Reps E cs c.toList ∧ One c.toList := h.blk x _ hF hx
theorem blk_arr {FP : Nat → Prop} {E : Env} {H : Nat → Option Blk} {w : World} {x n k : Nat} {ty : TypeId} {get : Nat → List AV} (h : Sim FP E H w) (hF : FP x) (hx : H x = some (.arr ty n k get)) {i : Nat} (hi : i < n) :
    E.vir x = false ∧ ∃ c : Array Value, blkW w (E.ρ x) = some (.cells c ty (0, 0)) ∧ c.size = E.cp x * k ∧ n ≤ E.cp x ∧ One c.toList ∧ ∀ i, i < n → Reps E (get i) ((c.toList.drop (i * k)).take k) := by
  rcases (h.blk x _ hF hx).2 with ⟨_, h0⟩ | h
  · omega
  · exact h
theorem exec_load {t : TypeId} {x : Operand} (ho : o.op = .load t x) {ρ : Operand → Value} {ad : Addr} (hx : ρ x = .pointer (some ad)) {w : World} {v : Value} (h : (loadVar t ad).run P w = .ok v w) : (execOp ρ o).run P w = .ok (.value v) w := by
  unfold execOp
  rw [ho]
  simp [Instr.loadAt, Instr.sureAddr, hx, h]
theorem nd_load {t : TypeId} {x : Operand} (ho : o.op = .load t x) : NoDefer o := fun c h => by rw [ho] at h; cases h
theorem mem1 {x : Operand} : x ∈ (#[x] : Array Operand) := by simp
theorem load_ok {t : TypeId} {x : Operand} (ho : o.op = .load t x) (h : (loadA P t (st.val x) st).hit (a, st')) : OpOk P o st a st' := by
  have hmem : x ∈ o.op.operands := by rw [ho]; exact mem1
  unfold loadA at h
  split at h
  · rename_i n ag hs ha
    split at h
    · rename_i y off hv
      split at h
      · rename_i ty cs hb
        split at h
        · rename_i r hc
          cases h
          refine .quiet (nd_load ho) (.read st y) rfl rfl rfl fun FP E act w hcov hS hx => ?_
          obtain ⟨hd, he⟩ := rep_ptr (hv ▸ hx x hmem)
          obtain ⟨_, c, hc1, hc2, hc3⟩ := blk_fix hS (hcov y (.inl (mem_ins.2 (.inl rfl)))) hb
          obtain ⟨hw1, hw2⟩ := hc2.whole
          obtain ⟨v, hl, hr⟩ := load_cut (P := P) hc1 hs ha hw1 hw2 ((hc3.drop _).take _) hc
          rw [Nat.zero_add] at hl
          exact ⟨v, exec_load ho he hl, hr⟩
        · exact h.elim
      · exact h.elim
    · rename_i y base i str m off hv
      split at h
      · rename_i ty cs hb
        split at h
        · rename_i r hc
          cases h
          refine .quiet (nd_load ho) (.read st y) rfl rfl rfl fun FP E act w hcov hS hx => ?_
          obtain ⟨hd, h0, h1, he⟩ := rep_pti (hv ▸ hx x hmem)
          obtain ⟨_, c, hc1, hc2, hc3⟩ := blk_fix hS (hcov y (.inl (mem_ins.2 (.inl rfl)))) hb
          obtain ⟨hw1, hw2⟩ := hc2.whole
          obtain ⟨a', hp, hpr⟩ := pickI_ok (E := E) hc h0 h1
          obtain ⟨v, hl, hr⟩ := load_cut (P := P) hc1 hs ha hw1 hw2 ((hc3.drop _).take _) hp
          rw [Nat.zero_add] at hl
          exact ⟨v, exec_load ho he hl, hpr v hr⟩
        · exact h.elim
      · exact h.elim
    · rename_i y i k off il hv
      split at h
      · rename_i ty m k' get hb
        split at h
        · rename_i r hk hc
          obtain ⟨hi, h⟩ := below_hit h
          cases h
          refine .quiet (nd_load ho) (.read st y) rfl rfl rfl fun FP E act w hcov hS hx => ?_
          obtain ⟨hd, he⟩ := rep_pe (hv ▸ hx x hmem)
          obtain rfl := Nat.eq_of_beq_eq_true hk
          obtain ⟨_, c, hc1, hsz, hcp, hc3, hget⟩ := blk_arr hS (hcov y (.inl (mem_ins.2 (.inl rfl)))) hb hi
          have hR := hget i hi
          have hle : 0 + m * k ≤ c.size := by rw [hsz, Nat.zero_add]; exact Nat.mul_le_mul_right _ hcp
          have hlen : (get i).length = k := by
            have h1 := hR.len
            have h2 := seg_len (c := c) (off := 0) hi hle
            rw [Nat.zero_add] at h2
            rw [h1, h2]
          have h2 := seg_le hi hle
          rw [Nat.zero_add] at h2
          obtain ⟨v, hl, hr⟩ := load_cut (P := P) hc1 hs ha (base := i * k) (by rw [hlen]; exact hR) (by rw [hlen]; exact h2) ((hc3.drop _).take _) hc
          exact ⟨v, exec_load ho he hl, hr⟩
        · exact h.elim
      · exact h.elim
    · rename_i cs off hv
      split at h
      · rename_i r hc
        cases h
        refine .quiet (nd_load ho) (.refl st) rfl rfl rfl fun FP E act w hcov hS hx => ?_
        obtain ⟨b, base, c, hz, hle, hR, hone, he⟩ := rep_fz (hv ▸ hx x hmem)
        obtain ⟨ty, fr, hb⟩ := hS.fz b c hz
        obtain ⟨v, hl, hr⟩ := load_cut (P := P) hb hs ha hR hle hone hc
        exact ⟨v, exec_load ho he hl, hr⟩
      · exact h.elim
    · exact h.elim
  · exact h.elim
/-! Store. -/
theorem nd_store {t : TypeId} {x y : Operand} (ho : o.op = .store t x y) : NoDefer o := fun c h => by rw [ho] at h; cases h
theorem exec_store {t : TypeId} {x y : Operand} (ho : o.op = .store t x y) {ρ : Operand → Value} {ad : Addr} (hx : ρ x = .pointer (some ad)) {w w' : World} (h : (storeVar t ad (ρ y)).run P w = .ok () w') : (execOp ρ o).run P w = .ok .skip w' := by
  unfold execOp
  rw [ho]
  simp [Instr.storeAt, Instr.sureAddr, hx, h]
theorem setRow_os (w : World) (b : Nat) (c : Array Value) : (w.setRow b c).os = w.os := rfl
/-- A store into a block of which the new cells are known. -/
theorem store_into {t : TypeId} {x y : Operand} (ho : o.op = .store t x y) {r : Option Nat} {FP : Nat → Prop} {E : Env} {act : Act} {w : World} {K : Act → World → Prop} {Q : Exit → Act → World → Prop} {z : Nat} {B B' : Blk}
    (hS : Sim FP E (hget st.hp) w) (hF : FP z) (hz : hget st.hp z = some B) (hv : E.vir z = false) (hlt : z < st.nx) {off n : Nat} (hx : act.eval x = .pointer (some ⟨E.ρ z, off, none⟩))
    {c : Array Value} {ty : TypeId} (hb : blkW w (E.ρ z) = some (.cells c ty (0, 0))) (hs : sizeO P t = some n) (hl : (act.eval y).cells.toList.length = n) (hle : off + n ≤ c.size) (hone : One (act.eval y).cells.toList)
    (hB : BlkR E z B' (some (.cells (c.toList.take off ++ (act.eval y).cells.toList ++ c.toList.drop (off + n)).toArray ty (0, 0))))
    (hk : ∀ E' v w', Rep E' .unk v → Pst FP E E' (hget st.hp) (hget (st.write z (some B')).hp) st.nx st.nx (st.write z (some B')).wr w w' → K (act.put o.dst v) w') : o.wpIn (wideR r) 0 P act w K Q := by
  have hrun := run_storeVar (P := P) hb hs hl hle hone
  refine op_skip (nd_store ho) (exec_store ho hx hrun) (hk E undef _ (.unk _) ?_)
  refine Pst.set hS hF hz hv (mem_ins.2 (.inl rfl)) hlt ?_ (fun q => hget_write) (fun b hne => blkW_setRow_other w _ _ hne) (setRow_size ..) rfl rfl rfl
  rw [blkW_setRow_same hb]; exact hB
theorem splice_len {l m : List Value} {off n : Nat} (hm : m.length = n) (h : off + n ≤ l.length) : (l.take off ++ m ++ l.drop (off + n)).length = l.length := by
  simp; omega
theorem one_splice {l m : List Value} {off n : Nat} (h : One l) (hm : One m) : One (l.take off ++ m ++ l.drop (off + n)) := ((h.take _).app hm).app (h.drop _)
theorem seg_id (ws : List Value) (p n : Nat) : ws.take p ++ ((ws.drop p).take n ++ ws.drop (p + n)) = ws := by
  rw [← List.drop_drop, List.take_append_drop, List.take_append_drop]
theorem spliceI_ok {E : Env} {i : Int} {cs new : List AV} {base str off : Nat} {m : Nat} {cs' : List AV} (h : spliceI i cs base str off new m = some cs') {vs us : List Value} (hR : Reps E cs vs) (hN : Reps E new us) (h0 : 0 ≤ i) :
    cs'.length = cs.length ∧ (i < (m : Int) → base + i.toNat * str + off + us.length ≤ vs.length ∧ Reps E cs' (vs.take (base + i.toNat * str + off) ++ (us ++ vs.drop (base + i.toNat * str + off + us.length)))) ∧ (¬ i < (m : Int) → Reps E cs' vs) := by
  induction m generalizing cs' with
  | zero =>
    simp [spliceI] at h; subst h
    exact ⟨rfl, fun h => absurd h (by omega), fun _ => hR⟩
  | succ j ih =>
    simp only [spliceI] at h
    split at h
    · rename_i cs1 h1
      split at h
      · rename_i hle
        have hle' := Nat.le_of_ble_eq_true hle
        split at h
        · rename_i r hz
          cases h
          obtain ⟨e1, e2, e3⟩ := ih h1
          have hlr : new.length = r.length ∧ ((cs1.drop (base + j * str + off)).take new.length).length = r.length := by
            have : ∀ (l m r : List AV) (f : AV → AV → Option AV), zipO f l m = some r → l.length = r.length ∧ m.length = r.length := by
              intro l
              induction l with
              | nil => intro m r f h; cases m <;> simp [zipO] at h; subst h; exact ⟨rfl, rfl⟩
              | cons a l ih => intro m r f h; cases m with
                | nil => simp [zipO] at h
                | cons b m =>
                  simp only [zipO] at h
                  split at h
                  · rename_i x y hx hy; cases h
                    obtain ⟨q1, q2⟩ := ih m y f hy
                    exact ⟨by simp [q1], by simp [q2]⟩
                  · cases h
            exact this _ _ _ _ hz
          have hlen : (splice cs1 (base + j * str + off) r).length = cs.length := by
            unfold splice; simp; omega
          have hu := hN.len
          by_cases e : i = (j : Int)
          · have ht : i.toNat = j := by omega
            have hnot : ¬ i < (j : Int) := by omega
            have hR1 := e3 hnot
            have hv1 := hR1.len
            have hr : Reps E r us := (zipO_ok (muxD_ok _) hz (by rw [decide_eq_true e]; simpa using hN)).1
            refine ⟨hlen, fun _ => ?_, fun h => absurd (show i < ((j + 1 : Nat) : Int) by omega) h⟩
            rw [ht]
            exact ⟨by omega, splice_ok hR1 hr⟩
          · have hsame : ∀ (ws : List Value), Reps E cs1 ws → Reps E (splice cs1 (base + j * str + off) r) ws := fun ws hws => by
              have hr : Reps E r ((ws.drop (base + j * str + off)).take new.length) := (zipO_ok (muxD_ok _) hz (by rw [decide_eq_false e]; simpa using (hws.drop _).take _)).1
              have := splice_ok (off := base + j * str + off) hws hr
              have hwl := hws.len
              have hz2 : ((ws.drop (base + j * str + off)).take new.length).length = new.length := take_len (by omega)
              rw [hz2] at this
              rwa [seg_id] at this
            refine ⟨hlen, fun h => ?_, fun h => hsame _ (e3 (by omega))⟩
            obtain ⟨q1, q2⟩ := e2 (by omega)
            exact ⟨q1, hsame _ q2⟩
        · cases h
      · cases h
    · cases h
theorem app_assoc3 (a b c : List Value) : a ++ b ++ c = a ++ (b ++ c) := List.append_assoc a b c
/-- A segment of a row of which another segment is written. -/
theorem seg_splice_other {l m : List Value} {p q k n : Nat} (hm : m.length = n) (h : q + k ≤ p ∨ p + n ≤ q) (hle : p + n ≤ l.length) : ((l.take p ++ (m ++ l.drop (p + n))).drop q).take k = (l.drop q).take k := by
  apply List.ext_getElem?
  intro i
  simp only [List.getElem?_take, List.getElem?_drop]
  split
  · rename_i hi
    rcases h with h | h
    · rw [List.getElem?_append_left (by simp; omega), List.getElem?_take, if_pos (by omega)]
    · rw [List.getElem?_append_right (by simp; omega), List.getElem?_append_right (by simp; omega), List.getElem?_drop]
      congr 1
      simp; omega
  · rfl
theorem get_app3 (a b c : List Value) (i : Nat) : (a ++ (b ++ c))[i]? = if i < a.length then a[i]? else if i - a.length < b.length then b[i - a.length]? else c[i - a.length - b.length]? := by
  split
  · rename_i h; exact List.getElem?_append_left h
  · rename_i h
    rw [List.getElem?_append_right (by omega)]
    split
    · rename_i h2; exact List.getElem?_append_left h2
    · exact List.getElem?_append_right (by omega)
theorem splice_len2 {l m : List Value} {off : Nat} (h : off + m.length ≤ l.length) : (l.take off ++ (m ++ l.drop (off + m.length))).length = l.length := by
  simp only [List.length_append, List.length_take, List.length_drop]; omega
theorem seg_splice_in {l m : List Value} {base off n k : Nat} (hm : m.length = n) (h : off + n ≤ k) (hle : base + k ≤ l.length) : ((l.take (base + off) ++ (m ++ l.drop (base + off + n))).drop base).take k = ((l.drop base).take k).take off ++ (m ++ ((l.drop base).take k).drop (off + m.length)) := by
  have l1 : (l.take (base + off)).length = base + off := by rw [List.length_take]; omega
  have l2 : (((l.drop base).take k).take off).length = off := by rw [List.length_take, List.length_take, List.length_drop]; omega
  apply List.ext_getElem?
  intro i
  rw [List.getElem?_take, List.getElem?_drop, get_app3, get_app3, l1, l2]
  by_cases hi : i < k
  · rw [if_pos hi]
    by_cases h1 : i < off
    · rw [if_pos (by omega), if_pos h1]
      simp only [List.getElem?_take, List.getElem?_drop]
      rw [if_pos (by omega), if_pos h1, if_pos hi]
    · rw [if_neg (by omega), if_neg h1, show base + i - (base + off) = i - off by omega]
      by_cases h2 : i - off < m.length
      · rw [if_pos h2, if_pos h2]
      · rw [if_neg h2, if_neg h2]
        simp only [List.getElem?_take, List.getElem?_drop]
        rw [if_pos (by omega)]
        congr 1
        omega
  · rw [if_neg hi, if_neg (by omega), if_neg (by omega)]
    simp only [List.getElem?_take, List.getElem?_drop]
    rw [if_neg (by omega)]
theorem store_ok {t : TypeId} {x y : Operand} (ho : o.op = .store t x y) (h : (storeA P t (st.val x) (st.val y) st).hit (a, st')) : OpOk P o st a st' := by
  have hmx : x ∈ o.op.operands := by rw [ho]; simp [Op.operands]
  have hmy : y ∈ o.op.operands := by rw [ho]; simp [Op.operands]
  unfold storeA at h
  split at h
  · rename_i n hs
    split at h
    · rename_i hag hlen
      have hlen' := Nat.eq_of_beq_eq_true hlen
      split at h
      · rename_i z off hv
        split at h
        · rename_i ty cs hb
          split at h
          · rename_i hle
            have hle' := Nat.le_of_ble_eq_true hle
            cases h
            have hal : hget st.hp z ≠ none := by rw [hb]; simp
            refine ⟨.writeAt st z ty cs off n _ hb hle hlen, rfl, fun r FP E act w K Q hwf hcov _ hS hx hk => ?_⟩
            obtain ⟨hd, he⟩ := rep_ptr (hv ▸ hx x hmx)
            have hF := hcov z (.inr (.inl (mem_ins.2 (.inl rfl))))
            obtain ⟨hvir, c, hc1, hc2, hc3⟩ := blk_fix hS hF hb
            obtain ⟨hR, hone⟩ := cellsR (hx y hmy) hag
            have hl := hR.len
            have hcl := hc2.len
            have hcz : c.toList.length = c.size := by simp
            refine store_into ho hS hF hb hvir (hwf z hal) he hc1 hs (by omega) (by omega) hone ?_ hk
            refine ⟨hvir, _, rfl, ?_, ?_⟩
            · rw [List.toList_toArray, List.append_assoc, ← hlen', hl]; exact splice_ok hc2 hR
            · rw [List.toList_toArray]; exact one_splice hc3 hone
          · exact h.elim
        · exact h.elim
      · rename_i z base i str m off hv
        split at h
        · rename_i ty cs hb
          split at h
          · rename_i cs' hsp
            cases h
            have hal : hget st.hp z ≠ none := by rw [hb]; simp
            refine ⟨.write st z _ (.inr hal), rfl, fun r FP E act w K Q hwf hcov _ hS hx hk => ?_⟩
            obtain ⟨hd, h0, h1, he⟩ := rep_pti (hv ▸ hx x hmx)
            have hF := hcov z (.inr (.inl (mem_ins.2 (.inl rfl))))
            obtain ⟨hvir, c, hc1, hc2, hc3⟩ := blk_fix hS hF hb
            obtain ⟨hR, hone⟩ := cellsR (hx y hmy) hag
            have hl := hR.len
            have hcz : c.toList.length = c.size := by simp
            obtain ⟨_, q, _⟩ := spliceI_ok hsp hc2 hR h0
            obtain ⟨q1, q2⟩ := q h1
            have hn : (act.eval y).cells.toList.length = n := by omega
            refine store_into ho hS hF hb hvir (hwf z hal) he hc1 hs hn (by omega) hone ?_ hk
            refine ⟨hvir, _, rfl, ?_, ?_⟩
            · rw [List.toList_toArray, List.append_assoc]; rw [hn] at q2; exact q2
            · rw [List.toList_toArray]; exact one_splice hc3 hone
          · exact h.elim
        · exact h.elim
      · rename_i z i k off il hv
        split at h
        · rename_i ty m k' get hb
          split at h
          · rename_i hkk
            simp only [Bool.and_eq_true] at hkk
            obtain rfl := Nat.eq_of_beq_eq_true hkk.1
            have hle' := Nat.le_of_ble_eq_true hkk.2
            obtain ⟨hi, h⟩ := below_hit h
            cases h
            have hal : hget st.hp z ≠ none := by rw [hb]; simp
            refine ⟨.write st z _ (.inr hal), rfl, fun r FP E act w K Q hwf hcov _ hS hx hk => ?_⟩
            obtain ⟨hd, he⟩ := rep_pe (hv ▸ hx x hmx)
            have hF := hcov z (.inr (.inl (mem_ins.2 (.inl rfl))))
            obtain ⟨hvir, c, hc1, hsz, hcp, hc3, hget⟩ := blk_arr hS hF hb hi
            obtain ⟨hR, hone⟩ := cellsR (hx y hmy) hag
            have hl := hR.len
            have hn : (act.eval y).cells.toList.length = n := by omega
            have hcz : c.toList.length = c.size := by simp
            have hle : 0 + m * k ≤ c.size := by rw [hsz, Nat.zero_add]; exact Nat.mul_le_mul_right _ hcp
            have hseg := seg_le hi hle
            rw [Nat.zero_add] at hseg
            have hlen2 : (c.toList.take (i * k + off) ++ (act.eval y).cells.toList ++ c.toList.drop (i * k + off + n)).length = c.size := by rw [splice_len hn (by omega), hcz]
            refine store_into ho hS hF hb hvir (hwf z hal) he hc1 hs hn (by omega) hone ?_ hk
            refine ⟨(hS.blk z _ hF hb).1, .inr ⟨hvir, _, rfl, by rw [List.size_toArray, hlen2, hsz], hcp, by rw [List.toList_toArray]; exact one_splice hc3 hone, fun j hj => ?_⟩⟩
            have hseg2 := seg_le hj hle
            rw [Nat.zero_add] at hseg2
            have hlj : ((c.toList.drop (j * k)).take k).length = k := take_len (by omega)
            show Reps E (fit k (zipU (mux muxD (decide (j = i))) (splice (get i) off (cellsA (st.val y))) (get j))) _
            have hap : (c.toList.take (i * k + off) ++ (act.eval y).cells.toList ++ c.toList.drop (i * k + off + n)) = (c.toList.take (i * k + off) ++ ((act.eval y).cells.toList ++ c.toList.drop (i * k + off + n))) := List.append_assoc ..
            rw [List.toList_toArray, hap]
            by_cases e : j = i
            · subst e
              rw [seg_splice_in hn hle' (by omega)]
              exact zipU_fit (muxD_ok _) ((splice_len2 (by omega)).trans hlj) (by rw [decide_eq_true rfl]; simpa using splice_ok (hget j hi) hR)
            · have hne : j * k + k ≤ i * k + off ∨ i * k + off + n ≤ j * k := by
                rcases Nat.lt_or_gt_of_ne e with h | h
                · have := Nat.mul_le_mul_right k (show j + 1 ≤ i from h)
                  rw [Nat.add_mul, Nat.one_mul] at this
                  left; omega
                · have := Nat.mul_le_mul_right k (show i + 1 ≤ j from h)
                  rw [Nat.add_mul, Nat.one_mul] at this
                  right; omega
              rw [seg_splice_other hn hne (by omega)]
              exact zipU_fit (muxD_ok _) hlj (by rw [decide_eq_false e]; simpa using hget j hj)
          · exact h.elim
        · exact h.elim
      · exact h.elim
    · exact h.elim
  · exact h.elim
end
end Go.Proofs.YtdlghljhgbakjaaDoor

/-
  PART: operations that leave memory alone, and new variables.
-/
namespace Go.Proofs.YtdlghljhgbakjaaDoor
open Go.RowKit

section
variable {P : Program} {o : Oper} {st st' : St} {a : AV} {w : World} {E : Env}
theorem semVal_run {α : Type} {s : Sem α} {x : α} (h : semVal P s = some x) (w : World) : s.run P w = .ok x w := by
  induction s with
  | pure b => simp [semVal] at h; subst h; rfl
  | program k ih => simp only [semVal] at h; exact ih P h
  | mark m k ih => simp only [semVal] at h; exact ih h
  | _ => simp [semVal] at h
theorem nd_of {x : Op} (ho : o.op = x) (hx : ∀ c, x ≠ .defer c) : NoDefer o := fun c h => hx c (ho ▸ h)
theorem litOr_rep (l : Bool) (v : Value) : Rep E (litOr l v) v := by
  unfold litOr
  split
  · rename_i h; cases l
    · exact .v v h
    · exact .lit v h
  · exact .unk v
/-- An operation that answers by a computation that looks at no memory. -/
theorem quiet_of {st : St} {a : AV} (hd : NoDefer o) (h : ∀ (E : Env) (act : Act), (∀ x, x ∈ o.op.operands → Rep E (st.val x) (act.eval x)) → ∃ v, (∀ w, (execOp act.eval o).run P w = .ok (.value v) w) ∧ Rep E a v) : OpOk P o st a st :=
  .quiet hd (.refl st) rfl rfl rfl fun _ E act w _ _ hx => let ⟨v, hr, hv⟩ := h E act hx; ⟨v, hr w, hv⟩
theorem move_ok {x : Operand} (ho : o.op = .move x ∨ o.op = .assign x) : OpOk P o st (st.val x) st := by
  refine quiet_of (fun c h => by rcases ho with ho | ho <;> (rw [ho] at h; cases h)) fun E act hx => ⟨act.eval x, fun w => ?_, hx x (by rcases ho with ho | ho <;> (rw [ho]; exact mem1))⟩
  unfold execOp
  rcases ho with ho | ho <;> (rw [ho]; rfl)
theorem boolOf_rep {a : AV} {b l : Bool} (h : boolOf a = some (b, l)) {v : Value} (hv : Rep E a v) : v = .bool b := by
  unfold boolOf at h
  split at h
  · cases h; cases hv; rfl
  · cases h; cases hv; rfl
  · cases h
theorem pick_ok {c x y : Operand} {e : Bool} (ho : o.op = .pick c x y) (hc : ∃ l, boolOf (st.val c) = some (e, l)) {r : AV} (hr : ∀ (E : Env) v, (if e = true then Rep E (st.val x) v else Rep E (st.val y) v) → Rep E r v) : OpOk P o st r st := by
  obtain ⟨l, hc⟩ := hc
  refine quiet_of (nd_of ho (by simp)) fun E act hx => ⟨if e then act.eval x else act.eval y, fun w => ?_, hr E _ ?_⟩
  · have := boolOf_rep hc (hx c (by rw [ho]; simp [Op.operands]))
    unfold execOp
    rw [ho]
    simp [asBool, this]
  · have h1 := hx x (by rw [ho]; simp [Op.operands])
    have h2 := hx y (by rw [ho]; simp [Op.operands])
    cases e <;> simpa
/-! New variables. -/
theorem zero_info {t : TypeId} {cs : List AV} (h : zeroO P t = some cs) : ∃ i z, P.info? t = some i ∧ i.zero = some z ∧ cs = z.cells.toList.map .lit ∧ One z.cells.toList := by
  unfold zeroO at h
  split at h
  · rename_i i hi
    split at h
    · rename_i z hz
      split at h
      · rename_i ha; cases h; exact ⟨i, z, hi, hz, rfl, one_of_all ha⟩
      · cases h
    · cases h
  · cases h
theorem new_var {t : TypeId} {cs : List AV} (ho : NoDefer o) (hrun : ∀ (E : Env) (act : Act), (∀ x, x ∈ o.op.operands → Rep E (st.val x) (act.eval x)) → ∃ v : Value, (∀ w, (execOp act.eval o).run P w = .ok (.value (.pointer (some ⟨w.heap.size, 0, none⟩))) (w.alloc (.cells v.cells t))) ∧ Reps E cs v.cells.toList ∧ One v.cells.toList) :
    OpOk P o st (.ptr st.nx 0) (st.new (.fix t cs)) := by
  refine ⟨.new st _, rfl, fun r FP E act w K Q hwf hcov hfree hS hx hk => ?_⟩
  obtain ⟨v, hr, hR, hone⟩ := hrun E act hx
  have hnx : ¬ E.dom st.nx := hfree st.nx (Nat.le_refl _) (Nat.lt_succ_self _)
  have hF : FP st.nx := hcov st.nx (.inr (.inr ⟨Nat.le_refl _, Nat.lt_succ_self _⟩))
  have hl := Env.le_add (E := E) hnx w.heap.size 0 0 false
  refine op_value ho (hr w) (hk (E.add st.nx w.heap.size 0 0 false) _ _ ?_ ?_)
  · have : (E.add st.nx w.heap.size 0 0 false).ρ st.nx = w.heap.size := by simp [Env.add]
    have hd : (E.add st.nx w.heap.size 0 0 false).dom st.nx := Or.inl rfl
    have := Rep.ptr (off := 0) hd
    rwa [‹(E.add st.nx w.heap.size 0 0 false).ρ st.nx = w.heap.size›] at this
  · have hB : BlkR (E.add st.nx w.heap.size 0 0 false) st.nx (.fix t cs) (some (.cells v.cells t (0, 0))) := ⟨by simp [Env.add], _, rfl, hR.mono hl, hone⟩
    exact Pst.alloc hS hnx hF (mem_ins.2 (.inl rfl)) hB (fun y => hget_new y)
theorem alloc_ok {t : TypeId} {cs : List AV} (ho : o.op = .alloc t) (hz : zeroO P t = some cs) : OpOk P o st (.ptr st.nx 0) (st.new (.fix t cs)) := by
  obtain ⟨i, z, hi, hzz, rfl, hone⟩ := zero_info hz
  refine new_var (nd_of ho (by simp)) fun E act _ => ⟨z, fun w => ?_, .lits _ hone, hone⟩
  unfold execOp
  rw [ho]
  simp [Instr.alloc, zeroValue, typeInfo, hi, hzz, newVar, newRow]
theorem box_ok {t : TypeId} {x : Operand} (ho : o.op = .box t x) (hb : badA (st.val x) = false) : OpOk P o st (.ptr st.nx 0) (st.new (.fix t (cellsA (st.val x)))) := by
  refine new_var (nd_of ho (by simp)) fun E act hx => ?_
  obtain ⟨h1, h2⟩ := cellsR (hx x (by rw [ho]; exact mem1)) hb
  refine ⟨act.eval x, fun w => ?_, h1, h2⟩
  unfold execOp
  rw [ho]
  simp [Instr.box, newVar, newRow]
/-! Scalars. -/
theorem un1_ok {x : Operand} {f : Value → Sem Value} (hd : NoDefer o) (hm : x ∈ o.op.operands) (he : ∀ ρ : Operand → Value, execOp ρ o = do pure (.value (← f (ρ x)))) (h : (un1 P (st.val x) f st).hit (a, st')) : OpOk P o st a st' := by
  unfold un1 at h
  split at h
  · rename_i v l hs
    split at h
    · rename_i r hr
      cases h
      refine quiet_of hd fun E act hx => ⟨r, fun w => ?_, litOr_rep l r⟩
      obtain ⟨hv, _⟩ := scal_rep hs (hx x hm)
      rw [he, hv]
      simp [semVal_run hr w]
    · exact h.elim
  · exact h.elim
theorem conv_ok {src dst : TypeId} {x : Operand} (ho : o.op = .convert src dst x) (hd : NoDefer o) (h : (convA P src dst (st.val x) st).hit (a, st')) : OpOk P o st a st' := by
  have hm : x ∈ o.op.operands := by rw [ho]; exact mem1
  have he : ∀ ρ : Operand → Value, execOp ρ o = (do pure (.value (← convert src dst (ρ x)))) := fun ρ => by unfold execOp; rw [ho]
  unfold convA at h
  split at h
  · rename_i s b k hs hdst hsrc
    obtain ⟨h0, h⟩ := h
    cases h
    obtain ⟨n, hn⟩ := Option.isSome_iff_exists.1 h0
    refine quiet_of hd fun E act hx => ⟨.int k n, fun w => ?_, by rw [hn]; exact .v _ rfl⟩
    obtain ⟨hv, _⟩ := scal_rep hs (hx x hm)
    rw [he, hv]
    simp [run_convert_float_int (P := P) w src dst s k b n hsrc hdst hn]
  · exact un1_ok hd hm he h
theorem semVal_bind {α β : Type} {s : Sem α} {f : α → Sem β} {r : β} (h : semVal P (s.bind f) = some r) : ∃ x, semVal P s = some x ∧ semVal P (f x) = some r := by
  induction s with
  | pure b => exact ⟨b, rfl, h⟩
  | program k ih => simp only [Sem.bind, semVal] at h ⊢; exact ih P h
  | mark m k ih => simp only [Sem.bind, semVal] at h ⊢; exact ih h
  | _ => simp [Sem.bind, semVal] at h
theorem addOff_rep {x r : AV} {n : Nat} (h : addOff x n = some r) {v : Value} (hv : Rep E x v) : ∃ ad : Addr, v = .pointer (some ad) ∧ Rep E r (.pointer (some (ad.add n))) := by
  have hadd : ∀ b off : Nat, (⟨b, off, none⟩ : Addr).add n = ⟨b, off + n, none⟩ := fun b off => by unfold Addr.add; split <;> simp_all
  cases x <;> simp only [addOff, Option.some.injEq, reduceCtorEq] at h
  · subst h; obtain ⟨hd, rfl⟩ := rep_ptr hv; exact ⟨_, rfl, by rw [hadd]; exact .ptr hd⟩
  · subst h; obtain ⟨hd, h0, h1, rfl⟩ := rep_pti hv; exact ⟨_, rfl, by rw [hadd, Nat.add_assoc]; exact .pti hd h0 h1⟩
  · subst h; obtain ⟨hd, rfl⟩ := rep_pe hv; exact ⟨_, rfl, by rw [hadd, Nat.add_assoc]; exact .pe hd⟩
  · subst h; obtain ⟨b, base, c, h1, h2, h3, h4, rfl⟩ := rep_fz hv; exact ⟨_, rfl, by rw [hadd, Nat.add_assoc]; exact .fz h1 h2 h3 h4⟩
theorem fieldAddr_ok {s : TypeId} {x : Operand} {f : Nat} (ho : o.op = .fieldAddr s x f) (h : (pureA (fieldAddrA P s (st.val x) f) st).hit (a, st')) : OpOk P o st a st' := by
  unfold pureA at h
  split at h
  · rename_i r hr
    cases h
    unfold fieldAddrA at hr
    split at hr
    · rename_i fs hu
      split at hr
      · rename_i fd hf
        split at hr
        · rename_i n hs
          refine quiet_of (nd_of ho (by simp)) fun E act hx => ?_
          obtain ⟨ad, he, hR⟩ := addOff_rep hr (hx x (by rw [ho]; exact mem1))
          refine ⟨_, fun w => ?_, hR⟩
          unfold execOp
          rw [ho]
          simp [Instr.fieldAt, run_underlying hu, hf, he, Instr.sureAddr, fieldPlace, run_size hs]
        · cases hr
      · cases hr
    · cases hr
  · exact h.elim
theorem part_cut {t : TypeId} {n off : Nat} {ag : Bool} (hs : sizeO P t = some n) (ha : aggO P t = some ag) {cs : List AV} {r : AV} {c : Array Value} (hR : Reps E cs c.toList) (ho : One c.toList) (hc : cut cs off n ag = some r) :
    ∃ v, (∀ w, (part t c off).run P w = .ok v w) ∧ Rep E r v := by
  obtain ⟨k1, k2⟩ := cut_ok hc hR ho
  cases ag with
  | true =>
    refine ⟨.agg (c.extract off (off + n)), fun w => ?_, ?_⟩
    · simp [part, run_agg ha, run_size hs]
    · have := k1 rfl
      have e : c.extract off (off + n) = ((c.toList.drop off).take n).toArray := by
        apply Array.ext'
        simp [Array.toList_extract, List.extract]
      rw [e]; exact this
  | false =>
    obtain ⟨hn, v, hv, hr⟩ := k2 rfl
    refine ⟨v, fun w => ?_, hr⟩
    rw [Array.getElem?_toList] at hv
    simp [part, run_agg ha, hv]
theorem field_ok {s : TypeId} {x : Operand} {f : Nat} (ho : o.op = .field s x f) (h : (pureA (fieldA P s (st.val x) f) st).hit (a, st')) : OpOk P o st a st' := by
  unfold pureA at h
  split at h
  · rename_i r hr
    cases h
    unfold fieldA at hr
    split at hr
    · rename_i fs cs hu hv
      split at hr
      · rename_i fd hf
        split at hr
        · rename_i n ag hs ha
          refine quiet_of (nd_of ho (by simp)) fun E act hx => ?_
          have hx0 := hx x (by rw [ho]; exact mem1)
          rw [hv] at hx0
          obtain ⟨c, he, hR, hone⟩ : ∃ c : Array Value, act.eval x = .agg c ∧ Reps E cs c.toList ∧ One c.toList := by
            generalize act.eval x = u at hx0
            cases hx0; exact ⟨_, rfl, ‹_›, ‹_›⟩
          obtain ⟨v, hp, hR'⟩ := part_cut (P := P) hs ha hR hone hr
          refine ⟨v, fun w => ?_, hR'⟩
          unfold execOp
          rw [ho]
          simp [Instr.field, run_underlying hu, hf, he, asAgg, hp w]
        · cases hr
      · cases hr
    · cases hr
  · exact h.elim
theorem intOf_rep {a : AV} {z : Int} {l : Bool} (h : intOf a = some (z, l)) {v : Value} (hv : Rep E a v) : ∃ k, v = .int k z := by
  unfold intOf at h
  split at h
  · cases h; cases hv; exact ⟨_, rfl⟩
  · cases h; cases hv; exact ⟨_, rfl⟩
  · cases h
theorem indexAddr_ok {t : TypeId} {x i : Operand} (ho : o.op = .indexAddr t x i) (h : (withSt st (indexAddrA P t (st.val x) (st.val i))).hit (a, st')) : OpOk P o st a st' := by
  have key : ∀ r, (indexAddrA P t (st.val x) (st.val i)).hit r → OpOk P o st r st := by
    intro r h
    have hmx : x ∈ o.op.operands := by rw [ho]; simp [Op.operands]
    have hmi : i ∈ o.op.operands := by rw [ho]; simp [Op.operands]
    have hd : NoDefer o := nd_of ho (by simp)
    have hadd : ∀ b off n : Nat, (⟨b, off, none⟩ : Addr).add n = ⟨b, off + n, none⟩ := fun b off n => by unfold Addr.add; split <;> simp_all
    unfold indexAddrA at h
    split at h
    · rename_i len elem z lt hu hz
      split at h
      · rename_i k hs
        split at h
        · rename_i hb
          simp only [Bool.and_eq_true, decide_eq_true_eq] at hb
          unfold ofO at h
          split at h
          · rename_i r' hr
            cases h
            refine quiet_of hd fun E act hx => ?_
            obtain ⟨ad, he, hR⟩ := addOff_rep hr (hx x hmx)
            obtain ⟨kk, hi⟩ := intOf_rep hz (hx i hmi)
            refine ⟨_, fun w => ?_, hR⟩
            unfold execOp
            rw [ho]
            simp [Instr.indexAt, hi, asIntOf, run_underlying hu, he, Instr.sureAddr, hb.1, hb.2, run_size hs]
          · exact h.elim
        · exact h.elim
      · rename_i k hs
        split at h
        · rename_i b off hv
          obtain ⟨⟨h0, h1⟩, h⟩ := h
          cases h
          refine quiet_of hd fun E act hx => ?_
          obtain ⟨hdm, he⟩ := rep_ptr (hv ▸ hx x hmx)
          obtain ⟨kk, hi⟩ := intOf_rep hz (hx i hmi)
          refine ⟨.pointer (some ⟨E.ρ b, off + z.toNat * k + 0, none⟩), fun w => ?_, .pti hdm h0 h1⟩
          unfold execOp
          rw [ho]
          simp [Instr.indexAt, hi, asIntOf, run_underlying hu, he, Instr.sureAddr, h0, h1, run_size hs, hadd]
        · exact h.elim
      · exact h.elim
    · rename_i elem z lt hu hz
      split at h
      · rename_i k hs
        have run : ∀ (act : Act) (E : Env) (bse : Option Addr) (n c : Nat) (ad : Addr), Rep E (st.val i) (act.eval i) → act.eval x = .slice bse n c → bse = some ad → 0 ≤ z → z < (n : Int) → ∀ w, (execOp act.eval o).run P w = .ok (.value (.pointer (some (ad.add (z.toNat * k))))) w := by
          intro act E bse n c ad hxi he hbse h0 h1 w
          obtain ⟨kk, hi⟩ := intOf_rep hz hxi
          subst hbse
          unfold execOp
          rw [ho]
          simp [Instr.indexAt, hi, asIntOf, run_underlying hu, he, h0, h1, run_size hs]
        split at h
        · rename_i n k' get nl full hv
          split at h
          · rename_i hk
            obtain rfl := Nat.eq_of_beq_eq_true hk
            obtain ⟨h0, h1, h⟩ := within_hit h
            cases h
            refine quiet_of hd fun E act hx => ?_
            have hx0 := hx x hmx
            rw [hv] at hx0
            have hj : z.toNat < n := by omega
            generalize he : act.eval x = u at hx0
            cases hx0 with
            | slNil hn => omega
            | slEmp hn _ => omega
            | sl g1 g2 g3 g4 g5 g6 =>
              refine ⟨_, fun w => run act E _ _ _ _ (hx i hmi) he rfl h0 h1 w, ?_⟩
              rw [hadd]
              have hR := g5 z.toNat hj
              have hlen : (get z.toNat).length = k := by rw [hR.len, seg_len hj g2]
              have := Rep.fz (off := 0) g1 (cs := get z.toNat) (base := _ + z.toNat * k) (by rw [hlen]; exact seg_le hj g2) (by rw [hlen]; exact hR) (by rw [hlen]; exact one_seg hj g6)
              exact this
          · exact h.elim
        · rename_i y n k' nl hv
          split at h
          · rename_i hk
            obtain rfl := Nat.eq_of_beq_eq_true hk
            obtain ⟨h0, h1, h⟩ := within_hit h
            cases h
            refine quiet_of hd fun E act hx => ?_
            have hx0 := hx x hmx
            rw [hv] at hx0
            generalize he : act.eval x = u at hx0
            cases hx0 with
            | ownNil _ _ hn _ => omega
            | own g1 g2 _ =>
              refine ⟨_, fun w => run act E _ _ _ _ (hx i hmi) he rfl h0 h1 w, ?_⟩
              rw [hadd, Nat.zero_add]
              exact .pe (off := 0) g1
          · exact h.elim
        · rename_i y off n k' hv
          split at h
          · rename_i hk
            obtain rfl := Nat.eq_of_beq_eq_true hk
            split at h
            · rename_i hb
              simp only [Bool.and_eq_true, decide_eq_true_eq] at hb
              cases h
              refine quiet_of hd fun E act hx => ?_
              have hx0 := hx x hmx
              rw [hv] at hx0
              generalize he : act.eval x = u at hx0
              cases hx0 with
              | slv g1 =>
                refine ⟨_, fun w => run act E _ _ _ _ (hx i hmi) he rfl hb.1 hb.2 w, ?_⟩
                rw [hadd]
                exact .ptr g1
            · exact h.elim
          · rename_i hk
            obtain rfl := Nat.eq_of_beq_eq_true hk
            obtain ⟨⟨h0, h1⟩, h⟩ := h
            cases h
            refine quiet_of hd fun E act hx => ?_
            have hx0 := hx x hmx
            rw [hv] at hx0
            generalize he : act.eval x = u at hx0
            cases hx0 with
            | slv g1 =>
              refine ⟨_, fun w => run act E _ _ _ _ (hx i hmi) he rfl h0 h1 w, ?_⟩
              rw [hadd]
              exact .pti (off := 0) g1 h0 h1
          · exact h.elim
        · exact h.elim
      · exact h.elim
    · exact h.elim
  unfold withSt at h
  generalize indexAddrA P t (st.val x) (st.val i) = T at h key
  have bnd : ∀ T : Tree AV, (T.bind (fun a => Tree.ret (a, st))).hit (a, st') → T.hit a ∧ st' = st := by
    intro T
    induction T with
    | ret b => intro h; cases h; exact ⟨rfl, rfl⟩
    | br c t e ih1 ih2 =>
      rintro (⟨h1, h2⟩ | ⟨h1, h2⟩)
      · exact ⟨.inl ⟨h1, (ih1 h2).1⟩, (ih1 h2).2⟩
      · exact ⟨.inr ⟨h1, (ih2 h2).1⟩, (ih2 h2).2⟩
    | side p t ih => rintro ⟨h1, h2⟩; exact ⟨⟨h1, (ih h2).1⟩, (ih h2).2⟩
    | fail => exact fun h => h.elim
  obtain ⟨h1, rfl⟩ := bnd T h
  exact key a h1
end
end Go.Proofs.YtdlghljhgbakjaaDoor

/-
  PART: more operations that leave memory alone: index, build, equality, arithmetic.
-/
namespace Go.Proofs.YtdlghljhgbakjaaDoor
open Go.RowKit

section
variable {P : Program} {o : Oper} {st st' : St} {a : AV} {w : World} {E : Env}
theorem hit_withSt {T : Tree AV} (h : (withSt st T).hit (a, st')) : T.hit a ∧ st' = st := by
  unfold withSt at h
  induction T with
  | ret b => cases h; exact ⟨rfl, rfl⟩
  | br c t e ih1 ih2 =>
    rcases h with ⟨h1, h2⟩ | ⟨h1, h2⟩
    · exact ⟨.inl ⟨h1, (ih1 h2).1⟩, (ih1 h2).2⟩
    · exact ⟨.inr ⟨h1, (ih2 h2).1⟩, (ih2 h2).2⟩
  | side p t ih => obtain ⟨h1, h2⟩ := h; exact ⟨⟨h1, (ih h2).1⟩, (ih h2).2⟩
  | fail => exact h.elim
theorem hit_ofO {x : Option AV} {r : AV} (h : (ofO x).hit r) : x = some r := by
  cases x with
  | none => exact h.elim
  | some y => cases h; rfl
theorem hit_pureA {x : Option AV} (h : (pureA x st).hit (a, st')) : x = some a ∧ st' = st := by
  cases x with
  | none => exact h.elim
  | some y => cases h; exact ⟨rfl, rfl⟩
theorem rep_agg {l : List AV} {v : Value} (h : Rep E (.agg l) v) : ∃ c : Array Value, v = .agg c ∧ Reps E l c.toList ∧ One c.toList := by cases h; exact ⟨_, rfl, ‹_›, ‹_›⟩
theorem rep_str {s : ByteArray} {a : AV} (ha : a = .lit (.string s) ∨ a = .v (.string s)) {v : Value} (h : Rep E a v) : v = .string s := by
  rcases ha with rfl | rfl <;> (cases h; rfl)
theorem str_at (s : ByteArray) (i : Nat) (h : i < s.size) : s[i] = s.data.getD i 0 := by
  unfold Array.getD
  rw [dif_pos (show i < s.data.size from h)]
  rfl
theorem index_ok {t : TypeId} {x i : Operand} (ho : o.op = .index t x i) (h : (withSt st (indexA P t (st.val x) (st.val i))).hit (a, st')) : OpOk P o st a st' := by
  obtain ⟨h, rfl⟩ := hit_withSt h
  have hmx : x ∈ o.op.operands := by rw [ho]; simp [Op.operands]
  have hmi : i ∈ o.op.operands := by rw [ho]; simp [Op.operands]
  have hd : NoDefer o := nd_of ho (by simp)
  have str : ∀ (s : ByteArray) (z : Int) (lt : Bool) (ax : AV), P.underlying t = some .string → (ax = .lit (.string s) ∨ ax = .v (.string s)) → st'.val x = ax → intOf (st'.val i) = some (z, lt) → 0 ≤ z → z < (s.size : Int) → ∀ r : AV, (∀ E, Rep E r (.int .u8 (s.data.getD z.toNat 0).toNat)) → OpOk P o st' r st' := by
    intro s z lt ax hu hax hv hz h0 h1 r hr
    refine quiet_of hd fun E act hx => ⟨.int .u8 (s.data.getD z.toNat 0).toNat, fun w => ?_, hr E⟩
    obtain ⟨kk, hi⟩ := intOf_rep hz (hx i hmi)
    have he := rep_str hax (hv ▸ hx x hmx)
    have hlt : z.toNat < s.size := by omega
    have hg : s[z.toNat]? = some (s.data.getD z.toNat 0) := by
      rw [getElem?_pos s z.toNat hlt, str_at]
    unfold execOp
    rw [ho]
    simp [Instr.index, hi, asIntOf, run_underlying hu, he, h0, hg]
  unfold indexA at h
  split at h
  · rename_i len elem cs z lt hu hv hz
    split at h
    · rename_i k ag hs ha
      split at h
      · rename_i hb
        simp only [Bool.and_eq_true, decide_eq_true_eq] at hb
        have hc := hit_ofO h
        refine quiet_of hd fun E act hx => ?_
        obtain ⟨c, he, hR, hone⟩ := rep_agg (hv ▸ hx x hmx)
        obtain ⟨kk, hi⟩ := intOf_rep hz (hx i hmi)
        obtain ⟨v, hp, hr⟩ := part_cut (P := P) hs ha hR hone hc
        refine ⟨v, fun w => ?_, hr⟩
        unfold execOp
        rw [ho]
        simp [Instr.index, hi, asIntOf, run_underlying hu, he, hb.1, hb.2, run_size hs, hp w]
      · exact h.elim
    · rename_i k ag hs ha
      split at h
      · rename_i r hc
        obtain ⟨⟨h0, h1⟩, h⟩ := h
        cases h
        refine quiet_of hd fun E act hx => ?_
        obtain ⟨c, he, hR, hone⟩ := rep_agg (hv ▸ hx x hmx)
        obtain ⟨kk, hi⟩ := intOf_rep hz (hx i hmi)
        obtain ⟨a', hp, hpr⟩ := pickI_ok (E := E) hc h0 h1
        obtain ⟨v, hp, hr⟩ := part_cut (P := P) hs ha hR hone hp
        refine ⟨v, fun w => ?_, hpr v hr⟩
        unfold execOp
        rw [ho]
        simp [Instr.index, hi, asIntOf, run_underlying hu, he, h0, h1, run_size hs, hp w]
      · exact h.elim
    · exact h.elim
  · rename_i s z hu hv hz
    split at h
    · rename_i b hb
      cases h
      have h0 : 0 ≤ z := by
        rcases Int.lt_or_le z 0 with h | h
        · rw [if_neg (by omega)] at hb; cases hb
        · exact h
      rw [if_pos h0] at hb
      have hlt : z.toNat < s.size := by
        rcases Nat.lt_or_ge z.toNat s.size with h | h
        · exact h
        · rw [getElem?_neg s z.toNat (by omega)] at hb; cases hb
      rw [getElem?_pos s z.toNat hlt, str_at] at hb
      have hbb : b = s.data.getD z.toNat 0 := by cases hb; rfl
      exact str s z true _ hu (.inl rfl) hv hz h0 (by omega) _ (fun E => by rw [hbb]; exact .lit _ rfl)
    · exact h.elim
  · rename_i s z hu hv hz
    obtain ⟨⟨h0, h1⟩, h⟩ := h
    cases h
    exact str s z false _ hu (.inl rfl) hv hz h0 h1 _ (fun E => .v _ rfl)
  · rename_i s z lt hu hv hz
    obtain ⟨⟨h0, h1⟩, h⟩ := h
    cases h
    exact str s z lt _ hu (.inr rfl) hv hz h0 h1 _ (fun E => .v _ rfl)
  · exact h.elim
theorem nilCheck_ok {x : Operand} (ho : o.op = .nilCheck x) (h : ∃ g : Value → Prop, (∀ E v, Rep E (st.val x) v → g v) ∧ ∀ v, g v → (∃ ad, v = .pointer (some ad)) ∨ ∃ f a c, v = .func (.func f) a c) : OpOk P o st (st.val x) st := by
  obtain ⟨g, hg, h⟩ := h
  refine quiet_of (nd_of ho (by simp)) fun E act hx => ⟨act.eval x, fun w => ?_, hx x (by rw [ho]; exact mem1)⟩
  unfold execOp
  rw [ho]
  rcases h _ (hg E _ (hx x (by rw [ho]; exact mem1))) with ⟨ad, he⟩ | ⟨f, b, c, he⟩
  · simp [he]
  · simp [he]
theorem Reps.mapv {ρ : Operand → Value} {l : List Operand} (h : ∀ x, x ∈ l → Rep E (st.val x) (ρ x)) : Reps E (l.map st.val) (l.map ρ) := by
  induction l with
  | nil => exact .nil
  | cons x l ih => exact .cons (h x (List.mem_cons_self ..)) (ih fun y hy => h y (List.mem_cons_of_mem _ hy))
theorem makeFunc_ok {f : Fn} {first cap : Array Operand} (ho : o.op = .makeFunc f first cap) : OpOk P o st (.fn f (first.toList.map st.val) (cap.toList.map st.val)) st := by
  refine quiet_of (nd_of ho (by simp)) fun E act hx => ⟨.func f (first.map act.eval) (cap.map act.eval), fun w => ?_, ?_⟩
  · unfold execOp
    rw [ho]
    rfl
  · refine .fn ?_ ?_
    · rw [Array.toList_map]; exact .mapv fun x hxm => hx x (by rw [ho]; simp [Op.operands]; exact .inl (by simpa using hxm))
    · rw [Array.toList_map]; exact .mapv fun x hxm => hx x (by rw [ho]; simp [Op.operands]; exact .inr (by simpa using hxm))
theorem extract_ok {t : Operand} {i : Nat} (ho : o.op = .extract t i) {l : List AV} (hv : st.val t = .tup l) (h : (pureA l[i]? st).hit (a, st')) : OpOk P o st a st' := by
  obtain ⟨h', rfl⟩ := hit_pureA h
  refine quiet_of (nd_of ho (by simp)) fun E act hx => ?_
  have hx0 := hx t (by rw [ho]; exact mem1)
  rw [hv] at hx0
  obtain ⟨c, he, hR⟩ : ∃ c : Array Value, act.eval t = .tuple c ∧ Reps E l c.toList := by
    generalize act.eval t = u at hx0
    cases hx0; exact ⟨_, rfl, ‹_›⟩
  obtain ⟨v, hv', hr⟩ := hR.get h'
  rw [Array.getElem?_toList] at hv'
  refine ⟨v, fun w => ?_, hr⟩
  unfold execOp
  rw [ho]
  simp [Instr.extract, he, hv']
/-! Build. -/
theorem foldl_set (l : List Value) : ∀ (off : Nat) (cs : Array Value), (l.zipIdx off).foldl (fun cs (p : Value × Nat) => cs.setIfInBounds p.2 p.1) cs = if off + l.length ≤ cs.size then (cs.toList.take off ++ (l ++ cs.toList.drop (off + l.length))).toArray else (l.zipIdx off).foldl (fun cs (p : Value × Nat) => cs.setIfInBounds p.2 p.1) cs := by
  induction l with
  | nil =>
    intro off cs
    split
    · simp
    · rfl
  | cons v l ih =>
    intro off cs
    split
    · rename_i h
      simp only [List.length_cons] at h
      rw [List.zipIdx_cons, List.foldl_cons, ih, if_pos (by simp; omega)]
      apply congrArg
      apply List.ext_getElem?
      intro i
      have hcz : cs.toList.length = cs.size := by simp
      rw [get_app3, get_app3]
      simp only [Array.toList_setIfInBounds, List.length_take, List.length_set, List.length_cons]
      have e1 : min (off + 1) cs.toList.length = off + 1 := by omega
      have e2 : min off cs.toList.length = off := by omega
      rw [e1, e2]
      by_cases h1 : i < off
      · rw [if_pos (by omega), if_pos h1, List.getElem?_take, List.getElem?_take, if_pos (by omega), if_pos h1, List.getElem?_set, if_neg (by omega)]
      · by_cases h2 : i = off
        · subst h2
          rw [if_pos (by omega), if_neg (by omega), if_pos (by omega), List.getElem?_take, if_pos (by omega), List.getElem?_set, if_pos rfl]
          simp [show i < cs.size by omega]
        · rw [if_neg (by omega), if_neg h1]
          have : i - off = (i - (off + 1)) + 1 := by omega
          rw [this]
          by_cases h3 : i - (off + 1) < l.length
          · rw [if_pos h3, if_pos (by omega)]; simp
          · rw [if_neg h3, if_neg (by omega), List.getElem?_drop, List.getElem?_drop, List.getElem?_set, if_neg (by omega)]
            congr 1; omega
    · rfl
theorem fill_ok {place place' : Nat → Option (Nat × Nat)} (hpl : ∀ i x, place i = some x → place' i = some x) : ∀ (parts : List (Nat × AV)) (cs : List AV) (r : List AV), fillA place parts cs = some r → ∀ (vals : List (Nat × Value)) (c : Array Value),
    List.map Prod.fst vals = List.map Prod.fst parts → (∀ (j : Nat) (p : Nat × AV) (q : Nat × Value), parts[j]? = some p → vals[j]? = some q → Rep E p.2 q.2) → Reps E cs c.toList → One c.toList →
    ∃ c', Instr.fill place' c vals = some c' ∧ Reps E r c'.toList ∧ One c'.toList
  | [], cs, r, h, vals, c, hf, _, hR, ho => by
    simp only [fillA] at h
    cases h
    cases vals with
    | nil => exact ⟨c, rfl, hR, ho⟩
    | cons => simp at hf
  | (i, av) :: parts, cs, r, h, vals, c, hf, hp, hR, ho => by
    simp only [fillA] at h
    split at h
    · rename_i off n hpi
      split at h
      · rename_i hb hl
        simp only [Bool.and_eq_true] at hl
        have hl1 := Nat.eq_of_beq_eq_true hl.1
        have hl2 := Nat.le_of_ble_eq_true hl.2
        cases vals with
        | nil => simp at hf
        | cons q vals =>
          obtain ⟨j, v⟩ := q
          simp only [List.map_cons, List.cons.injEq] at hf
          obtain ⟨rfl, hf⟩ := hf
          obtain ⟨k1, k2⟩ := cellsR (hp 0 (j, av) (j, v) rfl rfl) hb
          have hvl : (cellsA av).length = v.cells.toList.length := k1.len
          have hcl := hR.len
          have hcz : c.toList.length = c.size := by simp
          have hvz : v.cells.toList.length = v.cells.size := by simp
          have hfold : v.cells.zipIdx.foldl (fun cs (p : Value × Nat) => cs.setIfInBounds (off + p.2) p.1) c = (c.toList.take off ++ (v.cells.toList ++ c.toList.drop (off + v.cells.toList.length))).toArray := by
            have h1 := foldl_set v.cells.toList off c
            rw [if_pos (by omega)] at h1
            rw [← h1, ← Array.foldl_toList, Array.toList_zipIdx]
            have : ∀ (l : List Value) (s : Nat) (c : Array Value), (l.zipIdx s).foldl (fun cs (p : Value × Nat) => cs.setIfInBounds (off + p.2) p.1) c = (l.zipIdx (off + s)).foldl (fun cs (p : Value × Nat) => cs.setIfInBounds p.2 p.1) c := by
              intro l
              induction l with
              | nil => intro s c; rfl
              | cons x l ih => intro s c; rw [List.zipIdx_cons, List.zipIdx_cons, List.foldl_cons, List.foldl_cons, ih]; rfl
            have := this v.cells.toList 0 c
            simpa using this
          obtain ⟨c', g1, g2, g3⟩ := fill_ok hpl parts (splice cs off (cellsA av)) r h vals (c.toList.take off ++ (v.cells.toList ++ c.toList.drop (off + v.cells.toList.length))).toArray hf
            (fun j p q hp' hq' => hp (j + 1) p q (by simpa using hp') (by simpa using hq')) (by simpa using splice_ok hR k1) (by simpa using one_splice (n := v.cells.toList.length) (off := off) ho k2)
          refine ⟨c', ?_, g2, g3⟩
          simp only [Instr.fill, hpl _ _ hpi]
          have hno : ¬ (decide (v.cells.size ≠ n) || decide (off + v.cells.size > c.size)) = true := by
            simp only [Bool.or_eq_true, decide_eq_true_eq]
            rintro (h | h) <;> omega
          rw [if_neg hno, hfold]
          exact g1
      · cases h
    · cases h
theorem mapM_places (fs : List Field) (h : fs.all (fun f => (sizeO P f.type).isSome) = true) (w : World) : (fs.mapM (m := Sem) fun f => Prod.mk f.offset <$> sizeOf f.type).run P w = .ok (fs.map fun f => (f.offset, (sizeO P f.type).getD 0)) w := by
  induction fs with
  | nil => rfl
  | cons f fs ih =>
    simp only [List.all_cons, Bool.and_eq_true] at h
    obtain ⟨n, hn⟩ := Option.isSome_iff_exists.1 h.1
    have := ih h.2
    simp [List.mapM_cons, run_size hn, this, hn]
theorem mapM_places' (fs : Array Field) (h : fs.toList.all (fun f => (sizeO P f.type).isSome) = true) (w : World) : (fs.mapM (m := Sem) fun f => Prod.mk f.offset <$> sizeOf f.type).run P w = .ok (fs.toList.map fun f => (f.offset, (sizeO P f.type).getD 0)).toArray w := by
  have := mapM_places (P := P) fs.toList h w
  rw [Array.mapM_eq_mapM_toList]
  simp [this]
theorem build_ok {t : TypeId} {parts : Array (Nat × Operand)} (ho : o.op = .build t parts) (h : (pureA (buildA P t (parts.toList.map fun p => (p.1, st.val p.2))) st).hit (a, st')) : OpOk P o st a st' := by
  obtain ⟨h, rfl⟩ := hit_pureA h
  have hd : NoDefer o := nd_of ho (by simp)
  have hparts : ∀ (E : Env) (act : Act), (∀ x, x ∈ o.op.operands → Rep E (st'.val x) (act.eval x)) → ∀ (j : Nat) (p : Nat × AV) (q : Nat × Value), (parts.toList.map fun p => (p.1, st'.val p.2))[j]? = some p → ((parts.map fun (p : Nat × Operand) => (p.1, act.eval p.2)).toList)[j]? = some q → Rep E p.2 q.2 := by
    intro E act hx j p q h1 h2
    rw [Array.toList_map] at h2
    rw [List.getElem?_map] at h1 h2
    cases hj : parts.toList[j]? with
    | none => rw [hj] at h1; cases h1
    | some u =>
      rw [hj] at h1 h2
      cases h1; cases h2
      exact hx u.2 (by rw [ho]; simp [Op.operands]; exact ⟨u.1, by simpa using List.mem_of_getElem? hj⟩)
  unfold buildA at h
  split at h
  · rename_i cs hz
    obtain ⟨i, z, hi, hzz, rfl, hone⟩ := zero_info hz
    split at h
    · rename_i fs hu
      split at h
      · rename_i hall
        split at h
        · rename_i r hf
          cases h
          refine quiet_of hd fun E act hx => ?_
          obtain ⟨c', g1, g2, g3⟩ := fill_ok (E := E) (place' := fun i => (fs[i]?).map fun f => (f.offset, (sizeO P f.type).getD 0)) (fun i x hx => by
            split at hx
            · rename_i f hf
              split at hx
              · rename_i n hn; cases hx; simp [hf, hn]
              · cases hx
            · cases hx) _ _ _ hf ((parts.map fun (p : Nat × Operand) => (p.1, act.eval p.2)).toList) z.cells (by simp [List.map_map, Function.comp_def]) (hparts E act hx) (.lits _ hone) hone
          refine ⟨.agg c', fun w => ?_, .agg g2 g3⟩
          have hm := mapM_places' (P := P) fs hall w
          unfold execOp
          rw [ho]
          simp only [Array.toList_map] at g1
          simp [Instr.build, zeroValue, typeInfo, hi, hzz, run_underlying hu, hm, g1]
        · cases h
      · cases h
    · rename_i n elem hu
      split at h
      · rename_i k hs
        split at h
        · rename_i r hf
          cases h
          refine quiet_of hd fun E act hx => ?_
          obtain ⟨c', g1, g2, g3⟩ := fill_ok (E := E) (place' := fun i => some (i * k, k)) (fun i x hx => hx) _ _ _ hf ((parts.map fun (p : Nat × Operand) => (p.1, act.eval p.2)).toList) z.cells (by simp [List.map_map, Function.comp_def]) (hparts E act hx) (.lits _ hone) hone
          refine ⟨.agg c', fun w => ?_, .agg g2 g3⟩
          unfold execOp
          rw [ho]
          simp only [Array.toList_map] at g1
          simp [Instr.build, zeroValue, typeInfo, hi, hzz, run_underlying hu, run_size hs, g1]
        · cases h
      · cases h
    · cases h
  · cases h
end
end Go.Proofs.YtdlghljhgbakjaaDoor

/-
  PART: equality and arithmetic.
-/
namespace Go.Proofs.YtdlghljhgbakjaaDoor
open Go.RowKit

section
variable {P : Program} {o : Oper} {st st' : St} {a : AV} {w : World} {E : Env}
theorem andA_ok {a b r : AV} (h : andA a b = some r) : ∃ x y l m, boolOf a = some (x, l) ∧ boolOf b = some (y, m) ∧ ∀ E, Rep E r (.bool (x && y)) := by
  unfold andA at h
  split at h
  · rename_i x y h1 h2; cases h; exact ⟨x, y, _, _, h1, h2, fun E => .lit _ rfl⟩
  · rename_i x y h1 h2
    split at h
    · cases h; exact ⟨true, y, _, _, h1, h2, fun E => .v _ rfl⟩
    · cases h; exact ⟨false, y, _, _, h1, h2, fun E => .lit _ rfl⟩
  · rename_i x y h1 h2
    split at h
    · cases h; exact ⟨x, true, _, _, h1, h2, fun E => by rw [Bool.and_true]; exact .v _ rfl⟩
    · cases h; exact ⟨x, false, _, _, h1, h2, fun E => by rw [Bool.and_false]; exact .lit _ rfl⟩
  · rename_i x y h1 h2; cases h; exact ⟨x, y, _, _, h1, h2, fun E => .v _ rfl⟩
  · cases h
theorem rep_boolOf {a : AV} {x l : Bool} (h : boolOf a = some (x, l)) : Rep E a (.bool x) := by
  unfold boolOf at h
  split at h
  · cases h; exact .lit _ rfl
  · cases h; exact .v _ rfl
  · cases h
theorem boolOf_uni {E' : Env} {a : AV} {b : Bool} (h : Rep E a (.bool b)) (h2 : ∃ x l, boolOf a = some (x, l)) : Rep E' a (.bool b) := by
  obtain ⟨x, l, h2⟩ := h2
  have := boolOf_rep h2 h
  cases this
  exact rep_boolOf h2
theorem eqScal_ok {t : TypeId} {x y : Value} {d : TypeDesc} {r : Bool} (hu : P.underlying t = some d) (h : eqScal d x y = some r) (D : Nat) (w : World) : (Op.equalIn (D + 1) t x y).run P w = .ok r w := by
  unfold eqScal at h
  split at h
  · cases h; simp [Op.equalIn, run_underlying hu]
  · split at h
    · rename_i hk; cases h; have := of_decide_eq_true hk; subst this; simp [Op.equalIn, run_underlying hu]
    · cases h
  · split at h
    · rename_i hk; cases h; have := of_decide_eq_true hk; subst this; simp [Op.equalIn, run_underlying hu]
    · cases h
  · split at h
    · rename_i hk; cases h; have := of_decide_eq_true hk; subst this; simp [Op.equalIn, run_underlying hu]
    · cases h
  · cases h; simp [Op.equalIn, run_underlying hu]
  · cases h
theorem eqLeaf_ok {t : TypeId} {a b r : AV} {d : TypeDesc} (h : eqLeaf d a b = some r) (hu : P.underlying t = some d) {x y : Value} (hx : Rep E a x) (hy : Rep E b y) (D : Nat) :
    ∃ q, (∀ w, (Op.equalIn (D + 1) t x y).run P w = .ok q w) ∧ ∀ E', Rep E' r (.bool q) := by
  unfold eqLeaf at h
  split at h
  · rename_i x' lx y' ly h1 h2
    split at h
    · rename_i q hq
      cases h
      obtain ⟨rfl, _⟩ := scal_rep h1 hx
      obtain ⟨rfl, _⟩ := scal_rep h2 hy
      refine ⟨q, fun w => eqScal_ok hu hq D w, fun E' => ?_⟩
      split
      · exact .lit _ rfl
      · exact .v _ rfl
    · cases h
  · cases h
theorem rep_nilptr {v : Value} (h : Rep E (.lit (.pointer none)) v) : v = .pointer none := by cases h; rfl
theorem eqT_ok : ∀ (d : Nat) (t : TypeId) (a b r : AV), eqT P d t a b = some r → ∀ (E : Env) (x y : Value), Rep E a x → Rep E b y → ∀ (D : Nat), d ≤ D → ∃ q, (∀ w, (Op.equalIn D t x y).run P w = .ok q w) ∧ ∀ E', Rep E' r (.bool q) := by
  intro d
  induction d with
  | zero => intro t a b r h; simp [eqT] at h
  | succ d ih =>
    intro t a b r h E x y hx hy D hD
    obtain ⟨D, rfl⟩ : ∃ D', D = D' + 1 := ⟨D - 1, by omega⟩
    have hD' : d ≤ D := by omega
    unfold eqT at h
    split at h
    · rename_i fs hu
      split at h
      · rename_i xs ys
        split at h
        · rename_i hstood
          obtain ⟨c, rfl, hR, hone⟩ := rep_agg hx
          obtain ⟨c', rfl, hR', hone'⟩ := rep_agg hy
          have hf : P.fieldsOf t = fs := by simp [Program.fieldsOf, hu]
          suffices hsuf : ∃ q, (∀ w, (Op.eqFields D c c' fs.toList).run P w = .ok q w) ∧ ∀ E', Rep E' r (.bool q) by
            obtain ⟨q, h1, h2⟩ := hsuf
            exact ⟨q, fun w => by rw [run_equalIn_struct w D t c c' (by rw [hf]; exact hu) hstood, hf]; exact h1 w, h2⟩
          generalize fs.toList = L at h ⊢
          clear hf hu
          induction L generalizing r with
          | nil => simp only [allEqF] at h; cases h; exact ⟨true, fun w => rfl, fun E' => .lit _ rfl⟩
          | cons f L ihL =>
            simp only [allEqF] at h
            split at h
            · rename_i p q hp hq
              obtain ⟨u, v, l, m, h1, h2, h3⟩ := andA_ok h
              obtain ⟨q2, g1, g2⟩ := ihL q hq
              have hv : q2 = v := by have := boolOf_rep h2 (g2 E); cases this; rfl
              subst hv
              by_cases hn : f.name = "_"
              · have : (f.name == "_") = true := by simpa using hn
                rw [this] at hp
                simp only [] at hp
                cases hp
                cases h1
                refine ⟨q2, fun w => ?_, fun E' => by simpa using h3 E'⟩
                simp only [Op.eqFields]
                rw [if_neg (by simpa using hn)]
                exact g1 w
              · have hb : (f.name == "_") = false := by simpa using hn
                rw [hb] at hp
                simp only [] at hp
                split at hp
                · rename_i n ag hs ha
                  split at hp
                  · rename_i ax ay hcx hcy
                    obtain ⟨vx, p1, p2⟩ := part_cut (P := P) hs ha hR hone hcx
                    obtain ⟨vy, p3, p4⟩ := part_cut (P := P) hs ha hR' hone' hcy
                    obtain ⟨q1, g3, g4⟩ := ih f.type ax ay p hp E vx vy p2 p4 D hD'
                    have hu' : q1 = u := by have := boolOf_rep h1 (g4 E); cases this; rfl
                    subst hu'
                    refine ⟨q1 && q2, fun w => ?_, h3⟩
                    simp only [Op.eqFields]
                    rw [if_pos (by simpa using hn)]
                    simp only [Sem.run_bind, p1 w, p3 w, g3 w, Result.andThen_ok]
                    cases q1
                    · simp
                    · simpa using g1 w
                  · cases hp
                · cases hp
            · cases h
        · cases h
      · cases h
    · rename_i len e hu
      split at h
      · rename_i xs ys
        split at h
        · rename_i n ag hs ha
          obtain ⟨c, rfl, hR, hone⟩ := rep_agg hx
          obtain ⟨c', rfl, hR', hone'⟩ := rep_agg hy
          obtain ⟨i, hi, hin⟩ := size_info hs
          have hc : P.cellsOf e = n := by simp [Program.cellsOf, hi, hin]
          have app : ∀ (l m : List Nat), (∀ j, j ∈ l → ∃ v1 v2 q, ∀ w, (part e c (j * n)).run P w = .ok v1 w ∧ (part e c' (j * n)).run P w = .ok v2 w ∧ (Op.equalIn D e v1 v2).run P w = .ok q w) → ∀ q1 w, (Op.eqItems D e n c c' l).run P w = .ok q1 w →
              (Op.eqItems D e n c c' (l ++ m)).run P w = if q1 = true then (Op.eqItems D e n c c' m).run P w else .ok false w := by
            intro l m
            induction l with
            | nil => intro _ q1 w h; simp only [Op.eqItems, Sem.run_pure, Result.ok.injEq, and_true] at h; subst h; simp
            | cons j l ihl =>
              intro hp q1 w h
              obtain ⟨v1, v2, q, hk⟩ := hp j (List.mem_cons_self ..)
              obtain ⟨k1, k2, k3⟩ := hk w
              simp only [Op.eqItems, List.cons_append, Sem.run_bind, k1, k2, k3, Result.andThen_ok] at h ⊢
              cases q
              · simp only [Bool.not_false, if_true, Sem.run_pure, Result.ok.injEq, and_true] at h ⊢
                subst h; simp
              · simp only [Bool.not_true, Bool.false_eq_true, if_false] at h ⊢
                exact ihl (fun j hj => hp j (List.mem_cons_of_mem _ hj)) q1 w h
          have key : ∀ (k : Nat) (r : AV), allEq (fun i => match cut xs (i * n) n ag, cut ys (i * n) n ag with
              | some x, some y => eqT P d e x y
              | _, _ => none) k = some r → (∀ j, j ∈ List.range k → ∃ v1 v2 q, ∀ w, (part e c (j * n)).run P w = .ok v1 w ∧ (part e c' (j * n)).run P w = .ok v2 w ∧ (Op.equalIn D e v1 v2).run P w = .ok q w) ∧
              ∃ q, (∀ w, (Op.eqItems D e n c c' (List.range k)).run P w = .ok q w) ∧ ∀ E', Rep E' r (.bool q) := by
            intro k
            induction k with
            | zero => intro r h; simp only [allEq] at h; cases h; exact ⟨fun j hj => by simp at hj, true, fun w => rfl, fun E' => .lit _ rfl⟩
            | succ k ihk =>
              intro r h
              simp only [allEq] at h
              split at h
              · rename_i p q hp hq
                obtain ⟨u, v, l, m, h1, h2, h3⟩ := andA_ok h
                obtain ⟨gp, q1, g1, g2⟩ := ihk p hp
                have hu' : q1 = u := by have := boolOf_rep h1 (g2 E); cases this; rfl
                subst hu'
                split at hq
                · rename_i ax ay hcx hcy
                  obtain ⟨vx, p1, p2⟩ := part_cut (P := P) hs ha hR hone hcx
                  obtain ⟨vy, p3, p4⟩ := part_cut (P := P) hs ha hR' hone' hcy
                  obtain ⟨q2, g3, g4⟩ := ih e ax ay q hq E vx vy p2 p4 D hD'
                  have hv' : q2 = v := by have := boolOf_rep h2 (g4 E); cases this; rfl
                  subst hv'
                  refine ⟨fun j hj => ?_, q1 && q2, fun w => ?_, h3⟩
                  · rw [List.range_succ, List.mem_append] at hj
                    rcases hj with hj | hj
                    · exact gp j hj
                    · obtain rfl : j = k := by simpa using hj
                      exact ⟨vx, vy, q2, fun w => ⟨p1 w, p3 w, g3 w⟩⟩
                  rw [List.range_succ, app _ _ gp q1 w (g1 w)]
                  cases q1
                  · simp
                  · simp only [if_true, Op.eqItems, Sem.run_bind, p1 w, p3 w, g3 w, Result.andThen_ok, Bool.true_and]
                    cases q2 <;> simp
                · cases hq
              · cases h
          obtain ⟨_, q, h1, h2⟩ := key len r h
          exact ⟨q, fun w => by rw [run_equalIn_array w D c c' hu hi, hc]; exact h1 w, h2⟩
        · cases h
      · cases h
    · cases h
    · rename_i el hu
      split at h
      · cases h
        obtain ⟨b, base, c, _, _, _, _, rfl⟩ := rep_fz hx
        rw [rep_nilptr hy]
        exact ⟨false, fun w => by simp [Op.equalIn, run_underlying hu], fun E' => .lit _ rfl⟩
      · cases h
        obtain ⟨_, rfl⟩ := rep_ptr hx
        rw [rep_nilptr hy]
        exact ⟨false, fun w => by simp [Op.equalIn, run_underlying hu], fun E' => .lit _ rfl⟩
      · cases h
        obtain ⟨b, base, c, _, _, _, _, rfl⟩ := rep_fz hy
        rw [rep_nilptr hx]
        exact ⟨false, fun w => by simp [Op.equalIn, run_underlying hu], fun E' => .lit _ rfl⟩
      · cases h
        obtain ⟨_, rfl⟩ := rep_ptr hy
        rw [rep_nilptr hx]
        exact ⟨false, fun w => by simp [Op.equalIn, run_underlying hu], fun E' => .lit _ rfl⟩
      · cases h
        rw [rep_nilptr hx, rep_nilptr hy]
        exact ⟨true, fun w => by simp [Op.equalIn, run_underlying hu], fun E' => .lit _ rfl⟩
      · cases h
    · rename_i hu
      split at h
      · cases h
        obtain ⟨g, f, c, rfl⟩ : ∃ g f c, x = .func g f c := by cases hx; exact ⟨_, _, _, rfl⟩
        cases hy
        exact ⟨false, fun w => by simp [Op.equalIn, run_underlying hu], fun E' => .lit _ rfl⟩
      · cases h
        cases hx; cases hy
        exact ⟨true, fun w => by simp [Op.equalIn, run_underlying hu], fun E' => .lit _ rfl⟩
      · cases h
    · rename_i hu
      split at h
      · cases h
        cases hx; cases hy
        exact ⟨true, fun w => by simp [Op.equalIn, run_underlying hu], fun E' => .lit _ rfl⟩
      · cases h
    · rename_i hu; exact eqLeaf_ok h hu hx hy D
    · cases h
end
end Go.Proofs.YtdlghljhgbakjaaDoor

/-
  PART: arithmetic, builtins, slices of slices.
-/
namespace Go.Proofs.YtdlghljhgbakjaaDoor
open Go.RowKit

section
variable {P : Program} {o : Oper} {st st' : St} {a : AV} {w : World} {E : Env}
theorem eqT_unk1 (d : Nat) (t : TypeId) (b : AV) : eqT P d t .unk b = none := by
  cases d with
  | zero => rfl
  | succ d => unfold eqT; split <;> first | rfl | (simp [eqLeaf, scal])
theorem eqT_unk2 (d : Nat) (t : TypeId) (a : AV) : eqT P d t a .unk = none := by
  cases d with
  | zero => rfl
  | succ d =>
    unfold eqT
    split
    · cases a <;> rfl
    · cases a <;> rfl
    · rfl
    · cases a <;> first | rfl | (rename_i v; cases v <;> first | rfl | (rename_i p; cases p <;> rfl))
    · cases a <;> first | rfl | (rename_i v; cases v <;> rfl)
    · cases a <;> first | rfl | (rename_i v; cases v <;> first | rfl | (rename_i p n c; cases p <;> first | rfl | (cases n <;> cases c <;> rfl)))
    · cases a <;> simp [eqLeaf, scal]
    · rfl
theorem eqT_any1 (φ : (Nat → Option (Array Value)) → Value → Prop) (d : Nat) (t : TypeId) (b : AV) : eqT P d t (.any φ) b = none := by
  cases d with
  | zero => rfl
  | succ d => unfold eqT; split <;> first | rfl | (simp [eqLeaf, scal])
theorem eqT_any2 (φ : (Nat → Option (Array Value)) → Value → Prop) (d : Nat) (t : TypeId) (a : AV) : eqT P d t a (.any φ) = none := by
  cases d with
  | zero => rfl
  | succ d =>
    unfold eqT
    split
    · cases a <;> rfl
    · cases a <;> rfl
    · rfl
    · cases a <;> first | rfl | (rename_i v; cases v <;> first | rfl | (rename_i p; cases p <;> rfl))
    · cases a <;> first | rfl | (rename_i v; cases v <;> rfl)
    · cases a <;> first | rfl | (rename_i v; cases v <;> first | rfl | (rename_i p n c; cases p <;> first | rfl | (cases n <;> cases c <;> rfl)))
    · cases a <;> simp [eqLeaf, scal]
    · rfl
theorem eqT_type {d : Nat} {t : TypeId} {a b r : AV} (h : eqT P d t a b = some r) : ∃ dsc, P.underlying t = some dsc ∧ ∀ ms, dsc ≠ .interface ms := by
  cases d with
  | zero => cases h
  | succ d =>
    unfold eqT at h
    split at h <;> first
      | (cases h; done)
      | exact ⟨_, ‹P.underlying t = some _›, fun ms e => by simp_all⟩
/-- Values that are no numbers, texts, truths. -/
def heavy : Value → Bool
  | .agg _ => true
  | .tuple _ => true
  | .pointer _ => true
  | .slice .. => true
  | .func .. => true
  | _ => false
theorem heavy_of {a : AV} {v : Value} (h : scal a = none) (hu : a ≠ .unk) (hq : ∀ φ, a ≠ .any φ) (hv : Rep E a v) : heavy v = true := by
  cases hv <;> first | rfl | (cases h; done) | exact absurd rfl hu | exact absurd rfl (hq _)
theorem eqGuard_ok {op : BinOp} {t : TypeId} {x y : Operand} {a b : Value} (h : P.eqGuardType P.depth t = false) (hi : ∃ dsc, P.underlying t = some dsc ∧ ∀ ms, dsc ≠ .interface ms) (w : World) : (eqGuard op t x y a b).run P w = .ok () w := by
  obtain ⟨dsc, hu, hn⟩ := hi
  have h0 : (Op.eqGuardIn Op.maxDepth t .nilIface .nilIface).run P w = .ok false w := by
    show (Op.eqGuardIn (9999 + 1) t .nilIface .nilIface).run P w = _
    rw [Op.eqGuardIn]
    simp only [Sem.run_bind, run_underlying hu, Result.andThen_ok]
    cases dsc <;> first | rfl | exact absurd rfl (hn _)
  unfold eqGuard
  cases op <;> first
    | rfl
    | (simp only [Bool.not_true, Bool.false_eq_true, if_false]
       split
       · split
         · rfl
         · simp [h0]
       · simp [h]
       · rfl)
theorem binOp_heavy {t : TypeId} {x y : Value} (h : heavy x = true ∨ heavy y = true) : binOp .eql t x y = (do pure (.bool (← Op.equal t x y))) ∧ binOp .neq t x y = (do pure (.bool (!(← Op.equal t x y)))) := by
  cases x <;> cases y <;> first | exact ⟨rfl, rfl⟩ | (rcases h with h | h <;> cases h)
theorem ite_ok {c : Bool} {s : Sem Unit} {w : World} (h : s.run P w = .ok () w) : (if c = true then pure () else s : Sem Unit).run P w = .ok () w := by
  cases c
  · exact h
  · rfl
theorem eqGuard_tmp {op : BinOp} {t : TypeId} {x y : Operand} {a b : Value} (h : semVal P (eqGuard op t (.tmp 0) (.tmp 0) a b) = some ()) (w : World) : (eqGuard op t x y a b).run P w = .ok () w := by
  have h0 := semVal_run h w
  revert h0
  unfold eqGuard
  cases op <;> first
    | (intro _; rfl)
    | (simp only [Bool.not_true, Bool.false_eq_true, if_false]
       intro h0
       split at h0
       · simp only [Bool.or_self, Bool.false_eq_true, if_false] at h0
         exact ite_ok h0
       · exact h0
       · rfl)
theorem nd_bin {op : BinOp} {t u : TypeId} {x y : Operand} (ho : o.op = .binOp op t x y u) : NoDefer o := nd_of ho (by simp)
theorem exec_bin {op : BinOp} {t u : TypeId} {x y : Operand} (ho : o.op = .binOp op t x y u) {ρ : Operand → Value} {v : Value} {w : World} (h1 : (eqGuard op t x y (ρ x) (ρ y)).run P w = .ok () w) (h2 : (binOp op t (ρ x) (ρ y)).run P w = .ok v w) : (execOp ρ o).run P w = .ok (.value v) w := by
  unfold execOp
  rw [ho]
  simp [h1, h2]
theorem bin_ok {op : BinOp} {t u : TypeId} {x y : Operand} (ho : o.op = .binOp op t x y u) (h : (withSt st (binA P op t (st.val x) (st.val y))).hit (a, st')) : OpOk P o st a st' := by
  obtain ⟨h, rfl⟩ := hit_withSt h
  have hmx : x ∈ o.op.operands := by rw [ho]; simp [Op.operands]
  have hmy : y ∈ o.op.operands := by rw [ho]; simp [Op.operands]
  have hd := nd_bin ho
  unfold binA at h
  split at h
  · rename_i vx lx vy ly hsx hsy
    have vals : ∀ (E : Env) (act : Act), (∀ x, x ∈ o.op.operands → Rep E (st'.val x) (act.eval x)) → act.eval x = vx ∧ act.eval y = vy := fun E act hx => ⟨(scal_rep hsx (hx x hmx)).1, (scal_rep hsy (hx y hmy)).1⟩
    split at h
    · split at h
      · rename_i hk
        obtain rfl := of_decide_eq_true hk
        obtain ⟨h0, h⟩ := h
        cases h
        refine quiet_of hd fun E act hx => ?_
        obtain ⟨e1, e2⟩ := vals E act hx
        exact ⟨_, fun w => exec_bin ho (by rw [e1, e2]; rfl) (by rw [e1, e2]; simp [binOp, Op.intDiv, h0]), .v _ rfl⟩
      · exact h.elim
    · split at h
      · rename_i hk
        obtain rfl := of_decide_eq_true hk
        obtain ⟨h0, h⟩ := h
        cases h
        refine quiet_of hd fun E act hx => ?_
        obtain ⟨e1, e2⟩ := vals E act hx
        exact ⟨_, fun w => exec_bin ho (by rw [e1, e2]; rfl) (by rw [e1, e2]; simp [binOp, Op.intDiv, h0]), .v _ rfl⟩
      · exact h.elim
    · obtain ⟨h0, h⟩ := h
      cases h
      refine quiet_of hd fun E act hx => ?_
      obtain ⟨e1, e2⟩ := vals E act hx
      exact ⟨_, fun w => exec_bin ho (by rw [e1, e2]; rfl) (by rw [e1, e2]; simp [binOp, Op.shift, Int.not_lt.2 h0]), .v _ rfl⟩
    · obtain ⟨h0, h⟩ := h
      cases h
      refine quiet_of hd fun E act hx => ?_
      obtain ⟨e1, e2⟩ := vals E act hx
      exact ⟨_, fun w => exec_bin ho (by rw [e1, e2]; rfl) (by rw [e1, e2]; simp [binOp, Op.shift, Int.not_lt.2 h0]), .v _ rfl⟩
    · obtain ⟨h0, h⟩ := h
      cases h
      obtain ⟨⟨re, im⟩, hn⟩ := Option.isSome_iff_exists.1 h0
      refine quiet_of hd fun E act hx => ?_
      obtain ⟨e1, e2⟩ := vals E act hx
      refine ⟨.complex .f64 re im, fun w => exec_bin ho (by rw [e1, e2]; rfl) (by rw [e1, e2]; exact run_complex_mul w t _ _ _ _ re im hn), ?_⟩
      rw [hn]; exact .v _ rfl
    · rename_i m n _ _
      obtain ⟨h0, h⟩ := h
      cases h
      refine quiet_of hd fun E act hx => ?_
      obtain ⟨e1, e2⟩ := vals E act hx
      have hmax : ¬ (((m.size + n.size : Nat) : Int) > IntKind.i64.max) := by
        have : IntKind.i64.max = 9223372036854775807 := by decide
        rw [this]; omega
      exact ⟨_, fun w => exec_bin ho (by rw [e1, e2]; rfl) (by rw [e1, e2]; show (if ((m.size + n.size : Nat) : Int) > IntKind.i64.max then _ else _ : Sem Value).run P w = _; rw [if_neg hmax]; rfl), .v _ rfl⟩
    · split at h
      · rename_i r hr
        cases h
        obtain ⟨u', h1, h2⟩ := semVal_bind hr
        refine quiet_of hd fun E act hx => ?_
        obtain ⟨e1, e2⟩ := vals E act hx
        exact ⟨r, fun w => exec_bin ho (by rw [e1, e2]; exact eqGuard_tmp h1 w) (by rw [e1, e2]; exact semVal_run h2 w), litOr_rep _ r⟩
      · exact h.elim
  · rename_i hns
    have heq : ∀ r, eqT P 20 t (st'.val x) (st'.val y) = some r → P.eqGuardType P.depth t = false → ∀ (E : Env) (act : Act), (∀ x, x ∈ o.op.operands → Rep E (st'.val x) (act.eval x)) →
        ∃ q, (∀ w, (Op.equal t (act.eval x) (act.eval y)).run P w = .ok q w) ∧ (∀ E', Rep E' r (.bool q)) ∧ (heavy (act.eval x) = true ∨ heavy (act.eval y) = true) := by
      intro r hr hg E act hx
      have hxx := hx x hmx
      have hyy := hx y hmy
      have hux : st'.val x ≠ .unk := fun e => by rw [e, eqT_unk1] at hr; cases hr
      have huy : st'.val y ≠ .unk := fun e => by rw [e, eqT_unk2] at hr; cases hr
      have hqx : ∀ φ, st'.val x ≠ .any φ := fun φ e => by rw [e, eqT_any1] at hr; cases hr
      have hqy : ∀ φ, st'.val y ≠ .any φ := fun φ e => by rw [e, eqT_any2] at hr; cases hr
      have hv : heavy (act.eval x) = true ∨ heavy (act.eval y) = true := by
        cases h1 : scal (st'.val x) with
        | none => exact .inl (heavy_of h1 hux hqx hxx)
        | some p => cases h2 : scal (st'.val y) with
          | none => exact .inr (heavy_of h2 huy hqy hyy)
          | some q => exact absurd h2 (hns p.1 p.2 q.1 q.2 h1)
      obtain ⟨q, h1, h2⟩ := eqT_ok 20 t _ _ r hr E _ _ hxx hyy Op.maxDepth (by decide)
      exact ⟨q, h1, h2, hv⟩
    split at h
    · split at h
      · rename_i hg
        have hr := hit_ofO h
        refine quiet_of hd fun E act hx => ?_
        obtain ⟨q, h1, h2, h3⟩ := heq _ hr hg E act hx
        refine ⟨.bool q, fun w => exec_bin ho (eqGuard_ok hg (eqT_type hr) w) ?_, h2 E⟩
        rw [(binOp_heavy h3).1]; simp [h1 w]
      · exact h.elim
    · split at h
      · rename_i hg
        split at h
        · rename_i r hr
          have hn := hit_ofO h
          refine quiet_of hd fun E act hx => ?_
          obtain ⟨q, h1, h2, h3⟩ := heq _ hr hg E act hx
          refine ⟨.bool (!q), fun w => exec_bin ho (eqGuard_ok hg (eqT_type hr) w) ?_, ?_⟩
          · rw [(binOp_heavy h3).2]; simp [h1 w]
          · have := h2 E
            unfold notA at hn
            split at hn
            · cases hn; cases this; exact .lit _ rfl
            · cases hn; cases this; exact .v _ rfl
            · cases hn
        · exact h.elim
      · exact h.elim
    · exact h.elim
theorem binB_ok {op : BinOp} {t u : TypeId} {x y : Operand} (ho : o.op = .binOp op t x y u) (h : (withSt st (binB P op t (st.val x) (st.val y))).hit (a, st')) : OpOk P o st a st' := by
  cases hn : nilCmp P t (st.val x) (st.val y) with
  | none =>
    cases hi : ifCmp P t (st.val x) (st.val y) with
    | none =>
      have e : binB P op t (st.val x) (st.val y) = binA P op t (st.val x) (st.val y) := by unfold binB; rw [hn]; simp only [hi]
      rw [e] at h
      exact bin_ok ho h
    | some φ =>
      obtain ⟨h, rfl⟩ := hit_withSt h
      have hmx : x ∈ o.op.operands := by rw [ho]; simp [Op.operands]
      have hmy : y ∈ o.op.operands := by rw [ho]; simp [Op.operands]
      have hd := nd_bin ho
      have hi0 := hi
      unfold ifCmp at hi
      split at hi
      · rename_i ms v hu hv
        split at hi
        · rename_i φ' hnil hx
          cases hi
          have hvn : v = .nilIface := by cases v <;> first | rfl | cases hnil
          subst hvn
          have key : NonNil φ → ∀ (E : Env) (act : Act), (∀ x, x ∈ o.op.operands → Rep E (st'.val x) (act.eval x)) → (∃ tt p, act.eval x = .iface tt p) ∧ act.eval y = .nilIface := fun h1 E act hq => by
            have hyy := hq y hmy
            have hxx := hq x hmx
            rw [hv] at hyy
            rw [hx] at hxx
            have e2 : ∀ z, Rep E (.lit .nilIface) z → z = .nilIface := fun z hz => by cases hz; rfl
            have e1 : ∀ z, Rep E (.any φ) z → ∃ tt p, z = .iface tt p := fun z hz => by
              cases hz with
              | any hz _ => exact h1 _ _ (hz E.fz fun _ _ h => h)
            exact ⟨e1 _ hxx, e2 _ hyy⟩
          have ne0 : ∀ (D : Nat) (tt : TypeId) (p : Value) (w : World), (Op.equalIn (D + 1) t (.iface tt p) .nilIface).run P w = .ok false w := fun D tt p w => by simp [Op.equalIn, run_underlying hu]
          have ne : ∀ (tt : TypeId) (p : Value) (w : World), (Op.equal t (.iface tt p) .nilIface).run P w = .ok false w := fun tt p w => ne0 9999 tt p w
          have gd : ∀ (op : BinOp) (tt : TypeId) (p : Value) (w : World), (eqGuard op t x y (.iface tt p) .nilIface).run P w = .ok () w := fun op tt p w => by cases op <;> rfl
          have bo : ∀ (tt : TypeId) (p : Value), binOp .eql t (.iface tt p) .nilIface = (do pure (.bool (← Op.equal t (.iface tt p) .nilIface))) ∧ binOp .neq t (.iface tt p) .nilIface = (do pure (.bool (!(← Op.equal t (.iface tt p) .nilIface)))) := fun tt p => ⟨rfl, rfl⟩
          unfold binB at h
          rw [hn] at h
          simp only [hi0] at h
          split at h
          · obtain ⟨h1, h⟩ := h
            cases h
            refine quiet_of hd fun E act hq => ?_
            obtain ⟨⟨tt, p, k1⟩, k2⟩ := key h1 E act hq
            refine ⟨.bool false, fun w => exec_bin ho (by rw [k1, k2]; exact gd _ tt p w) (by rw [k1, k2, (bo tt p).1]; simp [ne tt p w]), .lit _ rfl⟩
          · obtain ⟨h1, h⟩ := h
            cases h
            refine quiet_of hd fun E act hq => ?_
            obtain ⟨⟨tt, p, k1⟩, k2⟩ := key h1 E act hq
            refine ⟨.bool true, fun w => exec_bin ho (by rw [k1, k2]; exact gd _ tt p w) (by rw [k1, k2, (bo tt p).2]; simp [ne tt p w]), .lit _ rfl⟩
          · exact h.elim
        · cases hi
      · cases hi
  | some n =>
    obtain ⟨h, rfl⟩ := hit_withSt h
    have hmx : x ∈ o.op.operands := by rw [ho]; simp [Op.operands]
    have hmy : y ∈ o.op.operands := by rw [ho]; simp [Op.operands]
    have hd := nd_bin ho
    have hn0 := hn
    unfold nilCmp at hn
    split at hn
    · rename_i el v hu hv
      split at hn
      · rename_i hnil hg
        obtain rfl := isNilSl_eq hnil
        have key : 1 ≤ n → ∀ (E : Env) (act : Act), (∀ x, x ∈ o.op.operands → Rep E (st'.val x) (act.eval x)) → heavy (act.eval x) = true ∧ ∀ w, (Op.equal t (act.eval x) (act.eval y)).run P w = .ok false w := fun h1 E act hx => by
          have hyy := hx y hmy
          rw [hv] at hyy
          have e2 : ∀ z, Rep E (.lit (.slice none 0 0)) z → z = .slice none 0 0 := fun z hz => by cases hz; rfl
          have hxx := hx x hmx
          have e1 : ∃ b m c, act.eval x = .slice (some b) m c := by
            split at hn
            · rename_i m k get nl full hs
              cases hn
              rw [hs] at hxx
              generalize act.eval x = z at hxx ⊢
              cases hxx with
              | slNil h0 => omega
              | slEmp h0 => omega
              | sl => exact ⟨_, _, _, rfl⟩
            · rename_i z' m k nl hs
              cases hn
              rw [hs] at hxx
              generalize act.eval x = z at hxx ⊢
              cases hxx with
              | own => exact ⟨_, _, _, rfl⟩
              | ownNil _ _ h0 => omega
            · cases hn
          obtain ⟨b, m, c, e1⟩ := e1
          rw [e1, e2 _ hyy]
          have ne : ∀ (D : Nat) (w : World), (Op.equalIn (D + 1) t (.slice (some b) m c) (.slice none 0 0)).run P w = .ok false w := fun D w => by simp [Op.equalIn, run_underlying hu]
          exact ⟨rfl, fun w => ne 9999 w⟩
        unfold binB at h
        rw [hn0] at h
        simp only [] at h
        split at h
        · obtain ⟨h1, h⟩ := h
          cases h
          refine quiet_of hd fun E act hx => ?_
          obtain ⟨k1, k2⟩ := key h1 E act hx
          refine ⟨.bool false, fun w => exec_bin ho (eqGuard_ok hg ⟨_, hu, fun ms e => by cases e⟩ w) ?_, .lit _ rfl⟩
          rw [(binOp_heavy (.inl k1)).1]; simp [k2 w]
        · obtain ⟨h1, h⟩ := h
          cases h
          refine quiet_of hd fun E act hx => ?_
          obtain ⟨k1, k2⟩ := key h1 E act hx
          refine ⟨.bool true, fun w => exec_bin ho (eqGuard_ok hg ⟨_, hu, fun ms e => by cases e⟩ w) ?_, .lit _ rfl⟩
          rw [(binOp_heavy (.inl k1)).2]; simp [k2 w]
        · exact h.elim
      · cases hn
    · cases hn
theorem binC_ok {op : BinOp} {t u : TypeId} {x y : Operand} (ho : o.op = .binOp op t x y u) (h : (withSt st (binC P op t (st.val x) (st.val y) (isConstO y))).hit (a, st')) : OpOk P o st a st' := by
  cases hn : nnCmp P t (st.val x) (st.val y) (isConstO y) with
  | false =>
    have e : binC P op t (st.val x) (st.val y) (isConstO y) = binB P op t (st.val x) (st.val y) := by unfold binC; rw [hn]
    rw [e] at h
    exact binB_ok ho h
  | true =>
    obtain ⟨h, rfl⟩ := hit_withSt h
    have hmx : x ∈ o.op.operands := by rw [ho]; simp [Op.operands]
    have hmy : y ∈ o.op.operands := by rw [ho]; simp [Op.operands]
    have hd := nd_bin ho
    have hn0 := hn
    unfold nnCmp at hn
    split at hn
    · rename_i ms v v' hu hv hv'
      simp only [Bool.and_eq_true] at hn
      obtain ⟨hc, h1, h2⟩ := hn
      have e1 : v = .nilIface := by cases v <;> first | rfl | cases h1
      have e2 : v' = .nilIface := by cases v' <;> first | rfl | cases h2
      subst e1 e2
      have key : ∀ (E : Env) (act : Act), (∀ x, x ∈ o.op.operands → Rep E (st'.val x) (act.eval x)) → act.eval x = .nilIface ∧ act.eval y = .nilIface := fun E act hq => by
        have hyy := hq y hmy
        have hxx := hq x hmx
        rw [hv'] at hyy
        rw [hv] at hxx
        have e : ∀ z, Rep E (.lit .nilIface) z → z = .nilIface := fun z hz => by cases hz; rfl
        exact ⟨e _ hxx, e _ hyy⟩
      have ne0 : ∀ (D : Nat) (w : World), (Op.equalIn (D + 1) t .nilIface .nilIface).run P w = .ok true w := fun D w => by simp [Op.equalIn, run_underlying hu]
      have ne : ∀ (w : World), (Op.equal t .nilIface .nilIface).run P w = .ok true w := fun w => ne0 9999 w
      have gd : ∀ (op : BinOp) (w : World), (eqGuard op t x y .nilIface .nilIface).run P w = .ok () w := fun op w => by
        cases y with
        | const c => cases op <;> first | rfl | (unfold eqGuard; simp)
        | _ => cases hc
      have bo : binOp .eql t .nilIface .nilIface = (do pure (.bool (← Op.equal t .nilIface .nilIface))) ∧ binOp .neq t .nilIface .nilIface = (do pure (.bool (!(← Op.equal t .nilIface .nilIface)))) := ⟨rfl, rfl⟩
      unfold binC at h
      rw [hn0] at h
      simp only [] at h
      split at h
      · cases h
        refine quiet_of hd fun E act hq => ?_
        obtain ⟨k1, k2⟩ := key E act hq
        refine ⟨.bool true, fun w => exec_bin ho (by rw [k1, k2]; exact gd _ w) (by rw [k1, k2, bo.1]; simp [ne w]), .lit _ rfl⟩
      · cases h
        refine quiet_of hd fun E act hq => ?_
        obtain ⟨k1, k2⟩ := key E act hq
        refine ⟨.bool false, fun w => exec_bin ho (by rw [k1, k2]; exact gd _ w) (by rw [k1, k2, bo.2]; simp [ne w]), .lit _ rfl⟩
      · exact h.elim
    · cases hn
end
end Go.Proofs.YtdlghljhgbakjaaDoor
