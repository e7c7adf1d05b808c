/-
  PART: loads, stores, new blocks: what the evaluator says of them is so.
-/
import Derived.Test.YtdlghljhgbakjaaDoorEN4
import Derived.OrdersIn
namespace Go.Proofs.YtdlghljhgbakjaaDoor
open Go.RowKit

section
variable {P : Program} {w : World} {E : Env}
theorem size_info {t : TypeId} {n : Nat} (h : sizeO P t = some n) : ∃ i, P.info? t = some i ∧ i.size = n := by
  unfold sizeO at h
  split at h
  · rename_i i hi; cases h; exact ⟨i, hi, rfl⟩
  · cases h
theorem run_size {t : TypeId} {n : Nat} (h : sizeO P t = some n) : (sizeOf t).run P w = .ok n w := by
  obtain ⟨i, hi, rfl⟩ := size_info h
  simp [sizeOf, typeInfo, hi]
theorem run_agg {t : TypeId} {ag : Bool} (h : aggO P t = some ag) : (isAgg t).run P w = .ok ag w := by
  unfold aggO at h
  split at h
  · rename_i fs hu; cases h; simp [isAgg, underlying, hu]
  · rename_i hu; cases h; simp [isAgg, underlying, hu]
  · rename_i d h1 h2 hu
    cases h
    cases d <;> first | (exact absurd rfl (h1 _)) | (exact absurd rfl (h2 _ _)) | (simp [isAgg, underlying, hu])
  · cases h
theorem toList_seg {c : Array Value} {base L off n : Nat} (h : off + n ≤ L) : ((((c.toList.drop base).take L).drop off).take n) = (c.toList.drop (base + off)).take n := by
  rw [List.drop_take, List.take_take, List.drop_drop, Nat.min_eq_left (by omega)]
theorem one_seg {c : Array Value} {off i k n : Nat} (hi : i < n) (h : One ((c.toList.drop off).take (n * k))) : One ((c.toList.drop (off + i * k)).take k) := by
  have hle : i * k + k ≤ n * k := by
    have := Nat.mul_le_mul_right k (show i + 1 ≤ n from hi)
    rwa [Nat.add_mul, Nat.one_mul] at this
  rw [← toList_seg hle]
  exact (h.drop _).take _
theorem cut_le {cs : List AV} {off n : Nat} {ag : Bool} {r : AV} (h : cut cs off n ag = some r) : off + n ≤ cs.length := by
  unfold cut at h
  split at h
  · rename_i hb; exact Nat.le_of_ble_eq_true hb
  · cases h
/-- Cells as a value. -/
theorem cut_ok {cs : List AV} {off n : Nat} {ag : Bool} {r : AV} (h : cut cs off n ag = some r) {vs : List Value} (hR : Reps E cs vs) (ho : One vs) :
    (ag = true → Rep E r (.agg ((vs.drop off).take n).toArray)) ∧ (ag = false → n = 1 ∧ ∃ v, vs[off]? = some v ∧ Rep E r v) := by
  unfold cut at h
  split at h
  · split at h
    · cases h
      exact ⟨fun _ => .agg (by simpa using (hR.drop off).take n) (by simpa using (ho.drop off).take n), fun h => by cases h⟩
    · split at h
      · exact ⟨fun h => (by cases h), fun _ => ⟨rfl, hR.get h⟩⟩
      · cases h
  · cases h
theorem load_at {b off n : Nat} {c : Array Value} {ty t : TypeId} {fr : Nat × Nat} {ag : Bool} (hb : blkW w b = some (.cells c ty fr)) (hs : sizeO P t = some n) (ha : aggO P t = some ag) (hle : off + n ≤ c.size) :
    (ag = true → (loadVar t ⟨b, off, none⟩).run P w = .ok (.agg ((c.toList.drop off).take n).toArray) w) ∧ (ag = false → ∀ v, c.toList[off]? = some v → (loadVar t ⟨b, off, none⟩).run P w = .ok v w) := by
  constructor
  · rintro rfl
    have hl : ((c.toList.drop off).take n).length = n := take_len (by simpa using hle)
    have hc := run_loadCells_list (P := P) (w := w) ⟨b, off, none⟩ ((c.toList.drop off).take n) (fun j v hj => by
      have hadd : (⟨b, off, none⟩ : Addr).add j = ⟨b, off + j, none⟩ := by unfold Addr.add; split <;> simp_all
      rw [hadd, cell_blk hb, ← Array.getElem?_toList]
      rw [List.getElem?_take] at hj
      split at hj
      · rw [List.getElem?_drop] at hj; exact hj
      · cases hj)
    rw [hl] at hc
    simp [loadVar, run_agg ha, run_size hs, hc]
  · rintro rfl v hv
    have : w.cell? ⟨b, off, none⟩ = some v := by rw [cell_blk hb, ← Array.getElem?_toList]; exact hv
    simp [loadVar, run_agg ha, load, Sem.run, this]
theorem load_cut {b base off n : Nat} {c : Array Value} {ty t : TypeId} {fr : Nat × Nat} {ag : Bool} (hb : blkW w b = some (.cells c ty fr)) (hs : sizeO P t = some n) (ha : aggO P t = some ag)
    {cs : List AV} {r : AV} (hR : Reps E cs ((c.toList.drop base).take cs.length)) (hle : base + cs.length ≤ c.size) (ho : One ((c.toList.drop base).take cs.length)) (hc : cut cs off n ag = some r) :
    ∃ v, (loadVar t ⟨b, base + off, none⟩).run P w = .ok v w ∧ Rep E r v := by
  have h1 := cut_le hc
  obtain ⟨k1, k2⟩ := cut_ok hc hR ho
  obtain ⟨l1, l2⟩ := load_at (P := P) (t := t) hb hs ha (off := base + off) (by omega)
  cases ag with
  | true =>
    refine ⟨_, l1 rfl, ?_⟩
    have := k1 rfl
    rw [toList_seg h1] at this; exact this
  | false =>
    obtain ⟨hn, v, hv, hr⟩ := k2 rfl
    refine ⟨v, l2 rfl v ?_, hr⟩
    rw [List.getElem?_take] at hv
    split at hv
    · rw [List.getElem?_drop] at hv; exact hv
    · cases hv
theorem Reps.whole {cs : List AV} {c : Array Value} (h : Reps E cs c.toList) : Reps E cs ((c.toList.drop 0).take cs.length) ∧ 0 + cs.length ≤ c.size := by
  have := h.len
  have hz : c.toList.length = c.size := by simp
  refine ⟨?_, by omega⟩
  rw [List.drop_zero, List.take_of_length_le (by omega)]
  exact h
/-! Stores. -/
theorem splice_ok {cs new : List AV} {off : Nat} {vs us : List Value} (h : Reps E cs vs) (k : Reps E new us) : Reps E (splice cs off new) (vs.take off ++ (us ++ vs.drop (off + us.length))) := by
  unfold splice
  rw [k.len]
  exact (h.take off).app (k.app (h.drop _))
theorem run_storeVar {b off n : Nat} {c : Array Value} {ty t : TypeId} {v : Value} (hb : blkW w b = some (.cells c ty (0, 0))) (hs : sizeO P t = some n) (hl : v.cells.toList.length = n) (hle : off + n ≤ c.size) (ho : One v.cells.toList) :
    (storeVar t ⟨b, off, none⟩ v).run P w = .ok () (w.setRow b (c.toList.take off ++ v.cells.toList ++ c.toList.drop (off + n)).toArray) := by
  have := run_storeCells_at (P := P) b off ty v.cells.toList 0 c w hb (by rw [hl]; simpa using hle) (fun u hu => by rw [one_iff]; exact ho u hu)
  have hsz : v.cells.size = n := by rw [← hl, Array.length_toList]
  simp only [Nat.add_zero, hl] at this
  simp [storeVar, run_size hs, hsz]
  simpa using this
end

/-- The fence: every function; perhaps in a round of a range over a function. -/
def wideR (r : Option Nat) : Fence := { Fence.wide with round := r }
def NoDefer (o : Oper) : Prop := ∀ c, o.op ≠ .defer c
section
variable {P : Program} {o : Oper} {a : Act} {w w' : World} {K : Act → World → Prop} {Q : Exit → Act → World → Prop} {r : Option Nat}
theorem op_value {v : Value} (hd : NoDefer o) (h : (execOp a.eval o).run P w = .ok (.value v) w') (hk : K (a.put o.dst v) w') : o.wpIn (wideR r) 0 P a w K Q :=
  ⟨fun _ _ => trivial, by rw [Oper.semAt_eq _ _ _ hd, h]; exact hk⟩
theorem op_skip (hd : NoDefer o) (h : (execOp a.eval o).run P w = .ok .skip w') (hk : K (a.put o.dst undef) w') : o.wpIn (wideR r) 0 P a w K Q :=
  ⟨fun _ _ => trivial, by rw [Oper.semAt_eq _ _ _ hd, h]; exact hk⟩
end
/-- Names in use are below the next one. -/
def Wf (s : St) : Prop := ∀ x, hget s.hp x ≠ none → x < s.nx
theorem cov_mono {a b : List (Nat × Option (Nat × Nat))} (h : ∀ e, e ∈ a → e ∈ b) {x j : Nat} (hc : cov a x j = true) : cov b x j = true := by
  unfold cov at hc ⊢
  obtain ⟨e, h1, h2⟩ := List.any_eq_true.1 hc
  exact List.any_eq_true.2 ⟨e, h e h1, h2⟩
theorem cov_mono_false {a b : List (Nat × Option (Nat × Nat))} (h : ∀ e, e ∈ a → e ∈ b) {x j : Nat} (hc : cov b x j = false) : cov a x j = false := by
  cases hq : cov a x j with
  | false => rfl
  | true => rw [cov_mono h hq] at hc; cases hc
theorem cov_all {wc : List (Nat × Option (Nat × Nat))} {x : Nat} (h : (x, none) ∈ wc) (j : Nat) : cov wc x j = true := List.any_eq_true.2 ⟨_, h, by simp⟩
/-- A block's cells, but for those that were written, are as they were. -/
def Kept (hp hp' : List (Nat × Option Blk)) (wc : List (Nat × Option (Nat × Nat))) (x : Nat) : Prop :=
  (∀ j, cov wc x j = true) ∨ hget hp' x = hget hp x ∨ ∃ ty cs cs', hget hp x = some (.fix ty cs) ∧ hget hp' x = some (.fix ty cs') ∧ cs'.length = cs.length ∧ ∀ j, cov wc x j = false → cs'[j]? = cs[j]?
theorem Kept.wc {hp hp' : List (Nat × Option Blk)} {a b : List (Nat × Option (Nat × Nat))} {x : Nat} (h : Kept hp hp' a x) (hm : ∀ e, e ∈ a → e ∈ b) : Kept hp hp' b x := by
  rcases h with h | h | ⟨ty, cs, cs', h1, h2, h3, h4⟩
  · exact .inl fun j => cov_mono hm (h j)
  · exact .inr (.inl h)
  · exact .inr (.inr ⟨ty, cs, cs', h1, h2, h3, fun j hj => h4 j (cov_mono_false hm hj)⟩)
theorem Kept.trans {p q r : List (Nat × Option Blk)} {a : List (Nat × Option (Nat × Nat))} {x : Nat} (h : Kept p q a x) (k : Kept q r a x) : Kept p r a x := by
  rcases h with h | h | ⟨ty, cs, cs', h1, h2, h3, h4⟩
  · exact .inl h
  · rcases k with k | k | ⟨ty, cs, cs', h1, h2, h3, h4⟩
    · exact .inl k
    · exact .inr (.inl (k.trans h))
    · exact .inr (.inr ⟨ty, cs, cs', h ▸ h1, h2, h3, h4⟩)
  · rcases k with k | k | ⟨ty2, ds, ds', k1, k2, k3, k4⟩
    · exact .inl k
    · exact .inr (.inr ⟨ty, cs, cs', h1, k.trans h2, h3, h4⟩)
    · rw [h2] at k1
      cases k1
      exact .inr (.inr ⟨ty, cs, ds', h1, k2, k3.trans h3, fun j hj => (k4 j hj).trans (h4 j hj)⟩)
/-- How the evaluator's states go on. -/
structure Grew (s s' : St) : Prop where
  wf : Wf s → Wf s'
  nx : s.nx ≤ s'.nx
  rd : ∀ x, x ∈ s.rd → x ∈ s'.rd
  wr : ∀ x, x ∈ s.wr → x ∈ s'.wr
  ws : ∀ x, x ∈ s.ws → x ∈ s'.ws
  wb : ∀ x, x ∈ s.wb → x ∈ s'.wb
  slot : ∀ d, d ∉ s'.ws → look s'.sl d = look s.sl d
  blkb : ∀ x, x ∉ s'.wb → hget s'.hp x = hget s.hp x
  blkr : ∀ x, x ∉ s'.wr → hget s'.hp x = hget s.hp x
  wbr : ∀ x, x ∈ s'.wb → x ∈ s.wb ∨ x ∈ s'.wr
  wc : ∀ e, e ∈ s.wc → e ∈ s'.wc
  cell : ∀ x, Kept s.hp s'.hp s'.wc x
theorem Grew.refl (s : St) : Grew s s := ⟨id, Nat.le_refl _, fun _ h => h, fun _ h => h, fun _ h => h, fun _ h => h, fun _ _ => rfl, fun _ _ => rfl, fun _ _ => rfl, fun _ h => .inl h, fun _ h => h, fun _ => .inr (.inl rfl)⟩
theorem Grew.trans {a b c : St} (h : Grew a b) (k : Grew b c) : Grew a c :=
  ⟨fun d => k.wf (h.wf d), Nat.le_trans h.nx k.nx, fun x d => k.rd x (h.rd x d), fun x d => k.wr x (h.wr x d), fun x d => k.ws x (h.ws x d), fun x d => k.wb x (h.wb x d),
   fun d hd => (k.slot d hd).trans (h.slot d fun e => hd (k.ws d e)), fun x hx => (k.blkb x hx).trans (h.blkb x fun e => hx (k.wb x e)), fun x hx => (k.blkr x hx).trans (h.blkr x fun e => hx (k.wr x e)),
   fun x hx => (k.wbr x hx).elim (fun q => (h.wbr x q).imp id (k.wr x)) .inr, fun e he => k.wc e (h.wc e he), fun x => ((h.cell x).wc k.wc).trans (k.cell x)⟩
theorem Grew.read (s : St) (x : Nat) : Grew s (s.read x) :=
  ⟨id, Nat.le_refl _, fun _ h => mem_ins.2 (.inr h), fun _ h => h, fun _ h => h, fun _ h => h, fun _ _ => rfl, fun _ _ => rfl, fun _ _ => rfl, fun _ h => .inl h, fun _ h => h, fun _ => .inr (.inl rfl)⟩
theorem hget_write {s : St} {x : Nat} {b : Option Blk} {y : Nat} : hget (s.write x b).hp y = if x = y then b else hget s.hp y := hget_cons x b s.hp y
theorem Grew.write (s : St) (x : Nat) (b : Option Blk) (hb : b = none ∨ hget s.hp x ≠ none) : Grew s (s.write x b) := by
  refine ⟨fun h y hy => ?_, Nat.le_refl _, fun _ h => mem_ins.2 (.inr h), fun _ h => mem_ins.2 (.inr h), fun _ h => h, fun _ h => mem_ins.2 (.inr h), fun _ _ => rfl, fun y hy => ?_, fun y hy => ?_, fun y hy => (mem_ins.1 hy).elim (fun e => .inr (mem_ins.2 (.inl e))) .inl, fun e h => List.mem_cons_of_mem _ h, fun y => ?_⟩
  · rw [hget_write] at hy
    by_cases e : x = y
    · subst e; rw [if_pos rfl] at hy; exact h x (hb.resolve_left hy)
    · rw [if_neg e] at hy; exact h y hy
  · rw [hget_write, if_neg]; rintro rfl; exact hy (mem_ins.2 (.inl rfl))
  · rw [hget_write, if_neg]; rintro rfl; exact hy (mem_ins.2 (.inl rfl))
  · by_cases e : x = y
    · subst e; exact .inl fun j => cov_all (List.mem_cons_self ..) j
    · exact .inr (.inl (by rw [hget_write, if_neg e]))
theorem splice_get {cs new : List AV} {off j : Nat} (h : off + new.length ≤ cs.length) (hj : ¬ (off ≤ j ∧ j < off + new.length)) : (splice cs off new)[j]? = cs[j]? := by
  unfold splice
  by_cases h1 : j < off
  · rw [List.getElem?_append_left (by simp; omega), List.getElem?_take, if_pos h1]
  · rw [List.getElem?_append_right (by simp; omega), List.getElem?_append_right (by simp; omega), List.getElem?_drop]
    congr 1
    simp; omega
theorem splice_length {cs new : List AV} {off : Nat} (h : off + new.length ≤ cs.length) : (splice cs off new).length = cs.length := by
  unfold splice; simp; omega
theorem Grew.writeAt (s : St) (x : Nat) (ty : TypeId) (cs : List AV) (off n : Nat) (new : List AV) (h : hget s.hp x = some (.fix ty cs)) (h1 : Nat.ble (off + n) cs.length = true) (h2 : Nat.beq new.length n = true) : Grew s (s.writeAt x (some (.fix ty (splice cs off new))) off n) := by
  have g := Grew.write s x (some (.fix ty (splice cs off new))) (.inr (by rw [h]; simp))
  obtain rfl := Nat.eq_of_beq_eq_true h2
  have h1 := Nat.le_of_ble_eq_true h1
  refine ⟨g.wf, g.nx, g.rd, g.wr, g.ws, g.wb, g.slot, g.blkb, g.blkr, g.wbr, fun e h => List.mem_cons_of_mem _ h, fun y => ?_⟩
  by_cases e : x = y
  · subst e
    refine .inr (.inr ⟨ty, cs, splice cs off new, h, ?_, splice_length h1, fun j hj => splice_get h1 fun ⟨a, b⟩ => ?_⟩)
    · show hget (s.write x _).hp x = _
      rw [hget_write, if_pos rfl]
    · have : cov (s.writeAt x (some (.fix ty (splice cs off new))) off new.length).wc x j = true := by
        refine List.any_eq_true.2 ⟨(x, some (off, new.length)), List.mem_cons_self .., ?_⟩
        simp [Nat.blt_eq, a, b]
      rw [this] at hj; cases hj
  · refine .inr (.inl ?_)
    show hget (s.write x _).hp y = _
    rw [hget_write, if_neg e]
theorem Grew.new (s : St) (b : Blk) : Grew s (s.new b) := by
  have hh : ∀ y, hget (s.new b).hp y = if s.nx = y then some b else hget s.hp y := fun y => hget_cons s.nx (some b) s.hp y
  refine ⟨fun h y hy => ?_, Nat.le_succ _, fun _ h => mem_ins.2 (.inr h), fun _ h => mem_ins.2 (.inr h), fun _ h => h, fun _ h => mem_ins.2 (.inr h), fun _ _ => rfl, fun y hy => ?_, fun y hy => ?_, fun y hy => (mem_ins.1 hy).elim (fun e => .inr (mem_ins.2 (.inl e))) .inl, fun e h => List.mem_cons_of_mem _ h, fun y => ?_⟩
  · show y < s.nx + 1
    rw [hh] at hy
    by_cases e : s.nx = y
    · omega
    · rw [if_neg e] at hy; have := h y hy; omega
  · rw [hh, if_neg]; rintro rfl; exact hy (mem_ins.2 (.inl rfl))
  · rw [hh, if_neg]; rintro rfl; exact hy (mem_ins.2 (.inl rfl))
  · by_cases e : s.nx = y
    · subst e; exact .inl fun j => cov_all (List.mem_cons_self ..) j
    · exact .inr (.inl (by rw [hh, if_neg e]))
theorem hget_new {s : St} {b : Blk} (y : Nat) : hget (s.new b).hp y = if s.nx = y then some b else hget s.hp y := hget_cons s.nx (some b) s.hp y
theorem Grew.put (s : St) (d : Option Nat) (a : AV) : Grew s (s.put d a) := by
  cases d with
  | none => exact .refl s
  | some d =>
    refine ⟨id, Nat.le_refl _, fun _ h => h, fun _ h => h, fun _ h => mem_ins.2 (.inr h), fun _ h => h, fun e he => ?_, fun _ _ => rfl, fun _ _ => rfl, fun _ h => .inl h, fun _ h => h, fun _ => .inr (.inl rfl)⟩
    show look ((d, a) :: s.sl) e = _
    have hne : d ≠ e := fun h => he (mem_ins.2 (.inl h.symm))
    show (match Nat.beq d e with | true => a | false => look s.sl e) = _
    have : Nat.beq d e = false := by
      cases hb : Nat.beq d e
      · rfl
      · exact absurd (Nat.eq_of_beq_eq_true hb) hne
    rw [this]
/-- Names that a piece may touch are covered. -/
def Cov (FP : Nat → Prop) (s s' : St) : Prop := ∀ x, (x ∈ s'.rd ∨ x ∈ s'.wr ∨ (s.nx ≤ x ∧ x < s'.nx)) → FP x
/-- What the evaluator says of an operation is so. -/
structure OpOk (P : Program) (o : Oper) (st : St) (a : AV) (st' : St) : Prop where
  grew : Grew st st'
  sl : st'.sl = st.sl
  run : ∀ (r : Option Nat) (FP : Nat → Prop) (E : Env) (act : Act) (w : World) (K : Act → World → Prop) (Q : Exit → Act → World → Prop), Wf st → Cov FP st st' → Free E st.nx st'.nx → Sim FP E (hget st.hp) w →
    (∀ x, x ∈ o.op.operands → Rep E (st.val x) (act.eval x)) →
    (∀ E' v w', Rep E' a v → Pst FP E E' (hget st.hp) (hget st'.hp) st.nx st'.nx st'.wr w w' → K (act.put o.dst v) w') → o.wpIn (wideR r) 0 P act w K Q
section
variable {P : Program} {o : Oper} {st st' : St} {a : AV}
/-- An operation that leaves memory alone. -/
theorem OpOk.quiet (hd : NoDefer o) (hg : Grew st st') (hsl : st'.sl = st.sl) (hh : st'.hp = st.hp) (hn : st'.nx = st.nx)
    (h : ∀ (FP : Nat → Prop) (E : Env) (act : Act) (w : World), Cov FP st st' → Sim FP E (hget st.hp) w → (∀ x, x ∈ o.op.operands → Rep E (st.val x) (act.eval x)) → ∃ v, (execOp act.eval o).run P w = .ok (.value v) w ∧ Rep E a v) :
    OpOk P o st a st' :=
  ⟨hg, hsl, fun r FP E act w K Q _ hc _ hS hx hk => by
    obtain ⟨v, hr, hv⟩ := h FP E act w hc hS hx
    refine op_value hd hr (hk E v w hv ?_)
    rw [hh, hn]; exact .refl hS⟩
end
end Go.Proofs.YtdlghljhgbakjaaDoor
