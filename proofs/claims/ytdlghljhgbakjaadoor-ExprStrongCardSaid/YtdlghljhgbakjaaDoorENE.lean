/-
  PART: append: what the evaluator says of it is so.
-/
import Derived.Test.YtdlghljhgbakjaaDoorEND
namespace Go.Proofs.YtdlghljhgbakjaaDoor
open Go.RowKit

section
variable {FP : Nat → Prop} {E : Env} {H H' : Nat → Option Blk} {w w' : World} {nx : Nat} {wr : List Nat}
/-- Worlds of one heap. -/
structure SameHeap (w w' : World) : Prop where
  heap : w'.heap = w.heap
  os : w'.os = w.os
  tape : w'.tape = w.tape
  output : w'.output = w.output
theorem SameHeap.drew (w : World) : SameHeap w w.drew := ⟨rfl, rfl, rfl, rfl⟩
theorem SameHeap.blk (h : SameHeap w w') (b : Nat) : blkW w' b = blkW w b := by unfold blkW; rw [h.heap]
theorem Sim.same (h : Sim FP E H w) (hh : SameHeap w w') : Sim FP E H w' :=
  ⟨fun b c hb => by rw [hh.blk]; exact h.fz b c hb, h.dom, fun x hF hn hv => by rw [hh.heap]; exact h.low x hF hn hv, fun x B hF hB => by rw [hh.blk]; exact h.blk x B hF hB, h.inj⟩
theorem Pst.same (h : Sim FP E H w) (hh : SameHeap w w') : Pst FP E E H H nx nx wr w w' :=
  ⟨⟨.refl E, fun _ hx => .inl hx, h.same hh, fun b _ _ => ⟨hh.blk b, rfl⟩, fun _ h1 h2 => absurd h1 (by omega), by rw [hh.heap]; exact Nat.le_refl _, hh.os, hh.tape, hh.output⟩, fun _ _ _ h => h⟩
/-- A block let go. -/
theorem Pst.kill (h : Sim FP E H w) {y : Nat} (hH : ∀ z, H' z = if y = z then none else H z) : Pst FP E E H H' nx nx wr w w := by
  have al : ∀ z, H' z ≠ none → H z ≠ none ∧ H' z = H z := fun z hz => by
    rw [hH] at hz ⊢
    by_cases e : y = z
    · rw [if_pos e] at hz; exact absurd rfl hz
    · rw [if_neg e] at hz ⊢; exact ⟨hz, rfl⟩
  exact ⟨⟨.refl E, fun _ hx => .inl hx, ⟨h.fz, fun x hF hn => h.dom x hF (al x hn).1, fun x hF hn hv => h.low x hF (al x hn).1 hv,
    fun x B hF hB => h.blk x B hF (by rw [← (al x (by rw [hB]; simp)).2]; exact hB), fun x y' hx hy hnx hny => h.inj x y' hx hy (al x hnx).1 (al y' hny).1⟩,
    fun b _ _ => ⟨rfl, rfl⟩, fun _ h1 h2 => absurd h1 (by omega), Nat.le_refl _, rfl, rfl, rfl⟩, fun x _ _ hn => (al x hn).1⟩
/-- A block under a new name (the old one is let go). -/
theorem Pst.rename (h : Sim FP E H w) (hx : ¬ E.dom nx) {y : Nat} {B : Blk} {cp ln : Nat} (hF : FP y) (hy : H y ≠ none) (hv : E.vir y = false) (hyn : y < nx) (hwr : y ∈ wr)
    (hB : BlkR (E.add nx (E.ρ y) cp ln false) nx B (blkW w' (E.ρ y))) (hH : ∀ z, H' z = if nx = z then some B else if y = z then none else H z)
    (ho : ∀ b, b ≠ E.ρ y → blkW w' b = blkW w b) (hs : w'.heap.size = w.heap.size) (h1 : w'.os = w.os) (h2 : w'.tape = w.tape) (h3 : w'.output = w.output) :
    Pst FP E (E.add nx (E.ρ y) cp ln false) H H' nx (nx + 1) wr w w' := by
  have hl := Env.le_add (E := E) hx (E.ρ y) cp ln false
  have hρ : (E.add nx (E.ρ y) cp ln false).ρ nx = E.ρ y := by simp [Env.add]
  have al : ∀ z, nx ≠ z → H' z ≠ none → H z ≠ none ∧ y ≠ z ∧ H' z = H z := fun z hne hz => by
    rw [hH, if_neg hne] at hz ⊢
    by_cases e : y = z
    · rw [if_pos e] at hz; exact absurd rfl hz
    · rw [if_neg e] at hz ⊢; exact ⟨hz, e, rfl⟩
  obtain ⟨hlow, hfz⟩ := h.low y hF hy hv
  refine ⟨⟨hl, ?_, ⟨fun b c hb => ?_, ?_, ?_, ?_, ?_⟩, fun b _ hb => ⟨ho b (hb y hwr hyn hy hv), rfl⟩, ?_, by rw [hs]; exact Nat.le_refl _, h1, h2, h3⟩, ?_⟩
  · rintro x (rfl | hx')
    · exact .inr ⟨Nat.le_refl _, by omega⟩
    · exact .inl hx'
  · rw [ho b (fun e => by
      have hb' : E.fz b = some c := hb
      rw [e, hfz] at hb'; cases hb')]
    exact h.fz b c hb
  · intro x hF' hn
    by_cases e : nx = x
    · exact .inl e.symm
    · exact .inr (h.dom x hF' (al x e hn).1)
  · intro x hF' hn hv'
    rw [hs]
    by_cases e : nx = x
    · subst e; rw [hρ]; exact ⟨hlow, hfz⟩
    · have hn' := (al x e hn).1
      have hd := h.dom x hF' hn'
      rw [hl.ρ x hd]
      exact h.low x hF' hn' (by rw [← hl.vir x hd]; exact hv')
  · intro x B' hF' hB'
    by_cases e : nx = x
    · subst e
      rw [hH, if_pos rfl] at hB'; cases hB'
      rw [hρ]; exact hB
    · obtain ⟨hn', hne, he⟩ := al x e (by rw [hB']; simp)
      rw [he] at hB'
      have hd := h.dom x hF' hn'
      rw [hl.ρ x hd]
      have hb := (h.blk x B' hF' hB').mono hl hd
      by_cases hvx : E.vir x = true
      · cases B' with
        | fix ty cs => exact absurd hb.1 (by rw [hl.vir x hd, hvx]; simp)
        | arr ty n k get =>
          obtain ⟨hq, hb⟩ := hb
          rcases hb with hb | hb
          · exact ⟨hq, .inl hb⟩
          · exact absurd hb.1 (by rw [hl.vir x hd, hvx]; simp)
      · rw [ho _ (fun e' => hne (h.inj y x hF hF' hy hn' hv (by simpa using hvx) e'.symm))]
        exact hb
  · intro a b hFa hFb hna hnb hva hvb he
    by_cases e1 : nx = a
    · by_cases e2 : nx = b
      · omega
      · exfalso
        obtain ⟨hn', hne, _⟩ := al b e2 hnb
        have hd := h.dom b hFb hn'
        subst e1
        rw [hρ, hl.ρ b hd] at he
        exact hne (h.inj y b hF hFb hy hn' hv (by rw [← hl.vir b hd]; exact hvb) he)
    · obtain ⟨hna', hnea, _⟩ := al a e1 hna
      have hda := h.dom a hFa hna'
      by_cases e2 : nx = b
      · exfalso
        subst e2
        rw [hρ, hl.ρ a hda] at he
        exact hnea (h.inj a y hFa hF hna' hy (by rw [← hl.vir a hda]; exact hva) hv he).symm
      · obtain ⟨hnb', _, _⟩ := al b e2 hnb
        have hdb := h.dom b hFb hnb'
        rw [hl.ρ a hda, hl.ρ b hdb] at he
        exact h.inj a b hFa hFb hna' hnb' (by rw [← hl.vir a hda]; exact hva) (by rw [← hl.vir b hdb]; exact hvb) he
  · intro x h1 h2 _ _ _
    obtain rfl : x = nx := by omega
    exact .inr ⟨y, hwr, hyn, hy, hv, hρ⟩
  · intro x hx' hF' hn
    exact (al x (by omega) hn).1
/-- A new name of a row that is nil. -/
theorem Pst.virt (h : Sim FP E H w) (hx : ¬ E.dom nx) {B : Blk} (hB : BlkR (E.add nx 0 0 0 true) nx B none) (hB' : ∀ o, BlkR (E.add nx 0 0 0 true) nx B o) (hH : ∀ z, H' z = if nx = z then some B else H z) :
    Pst FP E (E.add nx 0 0 0 true) H H' nx (nx + 1) wr w w := by
  have hl := Env.le_add (E := E) hx 0 0 0 true
  have hvr : (E.add nx 0 0 0 true).vir nx = true := by simp [Env.add]
  have al : ∀ z, nx ≠ z → H' z = H z := fun z hne => by rw [hH, if_neg hne]
  refine ⟨⟨hl, ?_, ⟨h.fz, ?_, ?_, ?_, ?_⟩, fun b _ _ => ⟨rfl, rfl⟩, ?_, Nat.le_refl _, rfl, rfl, rfl⟩, ?_⟩
  · rintro x (rfl | hx')
    · exact .inr ⟨Nat.le_refl _, by omega⟩
    · exact .inl hx'
  · intro x hF' hn
    by_cases e : nx = x
    · exact .inl e.symm
    · rw [al x e] at hn; exact .inr (h.dom x hF' hn)
  · intro x hF' hn hv'
    by_cases e : nx = x
    · subst e; rw [hvr] at hv'; cases hv'
    · rw [al x e] at hn
      have hd := h.dom x hF' hn
      rw [hl.ρ x hd]
      exact h.low x hF' hn (by rw [← hl.vir x hd]; exact hv')
  · intro x B' hF' hB''
    by_cases e : nx = x
    · subst e
      rw [hH, if_pos rfl] at hB''; cases hB''
      exact hB' _
    · rw [al x e] at hB''
      have hd := h.dom x hF' (by rw [hB'']; simp)
      rw [hl.ρ x hd]
      exact (h.blk x B' hF' hB'').mono hl hd
  · intro a b hFa hFb hna hnb hva hvb he
    by_cases e1 : nx = a
    · subst e1; rw [hvr] at hva; cases hva
    · by_cases e2 : nx = b
      · subst e2; rw [hvr] at hvb; cases hvb
      · rw [al a e1] at hna
        rw [al b e2] at hnb
        have hda := h.dom a hFa hna
        have hdb := h.dom b hFb hnb
        rw [hl.ρ a hda, hl.ρ b hdb] at he
        exact h.inj a b hFa hFb hna hnb (by rw [← hl.vir a hda]; exact hva) (by rw [← hl.vir b hdb]; exact hvb) he
  · intro x h1 h2 _ _ hv'
    obtain rfl : x = nx := by omega
    rw [hvr] at hv'; cases hv'
  · intro x hx' hF' hn
    rw [al x (by omega)] at hn; exact hn
end
section
variable {P : Program} {o : Oper} {st st' : St} {a : AV} {w : World} {E : Env}
theorem load_seg {b off m : Nat} {c : Array Value} {ty : TypeId} {fr : Nat × Nat} (hb : blkW w b = some (.cells c ty fr)) (hle : off + m ≤ c.size) : (loadCells ⟨b, off, none⟩ m).run P w = .ok ((c.toList.drop off).take m).toArray w := by
  have hl : ((c.toList.drop off).take m).length = m := take_len (by simpa using hle)
  have hc := run_loadCells_list (P := P) (w := w) ⟨b, off, none⟩ ((c.toList.drop off).take m) (fun j v hj => by
    have hadd : (⟨b, off, none⟩ : Addr).add j = ⟨b, off + j, none⟩ := by unfold Addr.add; split <;> simp_all
    rw [hadd, cell_blk hb, ← Array.getElem?_toList]
    rw [List.getElem?_take] at hj
    split at hj
    · rw [List.getElem?_drop] at hj; exact hj
    · cases hj)
  rwa [hl] at hc
/-- What a row's cells are. -/
structure RowIs (P : Program) (E : Env) (k : Nat) (q : Row) (v : Value) (w : World) (news : Array Value) : Prop where
  len : ∀ w, (Builtin.lenOf v).run P w = .ok q.n w
  cells : ∀ w', SameHeap w w' → (Builtin.firstCells k q.n v).run P w' = .ok news w'
  size : news.size = q.n * k
  one : One news.toList
  rep : ∀ i, i < q.n → Reps E (q.get i) ((news.toList.drop (i * k)).take k)
theorem seg_seg {l : List Value} {off n k i : Nat} (hi : i < n) : (((l.drop off).take (n * k)).drop (i * k)).take k = (l.drop (off + i * k)).take k := by
  refine toList_seg ?_
  have := Nat.mul_le_mul_right k (show i + 1 ≤ n from hi)
  rw [Nat.add_mul, Nat.one_mul] at this
  omega
theorem str_row {s : ByteArray} (E : Env) {g : Nat → List AV} (hg : ∀ i, i < s.size → g i = [.lit (.int .u8 (s.data.getD i 0).toNat)] ∨ g i = [.v (.int .u8 (s.data.getD i 0).toNat)]) (nl : Bool) : RowIs P E 1 ⟨s.size, nl, g⟩ (.string s) w (s.data.map fun b => .int .u8 b.toNat) := by
  have hx : (s.extract 0 s.size).data = s.data := by
    show (s.extract 0 s.size).data = s.data
    simp
  refine ⟨fun w => rfl, fun w' _ => ?_, by simp, fun v hv => ?_, fun i hi => ?_⟩
  · show Sem.run P (pure (((s.extract 0 s.size).data).map fun b => Value.int .u8 b.toNat)) w' = _
    rw [hx]; rfl
  · simp only [Array.toList_map, List.mem_map] at hv
    obtain ⟨b, _, rfl⟩ := hv
    rfl
  · have hlt : i < s.data.size := hi
    have e : (((s.data.map fun b => Value.int .u8 b.toNat).toList.drop (i * 1)).take 1) = [.int .u8 (s.data.getD i 0).toNat] := by
      rw [Nat.mul_one, List.drop_eq_getElem_cons (by simpa using hlt)]
      simp [Array.getD, show i < s.size from hi]
    show Reps E (g i) _
    rw [e]
    rcases hg i hi with h | h <;> rw [h]
    · exact .cons (.lit _ rfl) .nil
    · exact .cons (.v _ rfl) .nil
theorem rowOf_ok {FP : Nat → Prop} {k : Nat} {x : AV} {q : Row} {xs : List Nat} (hk : 1 ≤ k) (h : rowOf st k x = some (q, xs)) (hS : Sim FP E (hget st.hp) w) (hF : ∀ y, y ∈ xs → FP y) {v : Value} (hv : Rep E x v) : ∃ news, RowIs P E k q v w news := by
  unfold rowOf at h
  split at h
  · cases h; cases hv
    exact ⟨#[], fun w => rfl, fun w' _ => rfl, by simp, fun v hv => (by simp at hv), fun i hi => absurd hi (by simp)⟩
  · rename_i n k' get nl full
    split at h
    · rename_i hkk
      obtain rfl := Nat.eq_of_beq_eq_true hkk
      cases h
      cases hv with
      | slNil hn => subst hn; exact ⟨#[], fun w => rfl, fun w' _ => rfl, by simp, fun v hv => (by simp at hv), fun i hi => absurd hi (by simp)⟩
      | slEmp hn _ => subst hn; exact ⟨#[], fun w => rfl, fun w' _ => by simp [Builtin.firstCells, loadCells, loadCellsFrom], by simp, fun v hv => (by simp at hv), fun i hi => absurd hi (by simp)⟩
      | @sl _ _ b off cap _ _ _ c q1 q2 q3 q4 q5 q6 =>
        obtain ⟨ty, fr, hb⟩ := hS.fz b c q1
        refine ⟨((c.toList.drop off).take (n * k)).toArray, fun w => rfl, fun w' hw => load_seg (by rw [hw.blk]; exact hb) q2, ?_, ?_, fun i hi => ?_⟩
        · rw [List.size_toArray]; exact take_len (by simpa using q2)
        · rw [List.toList_toArray]; exact q6
        · rw [List.toList_toArray, seg_seg hi]; exact q5 i hi
    · cases h
  · rename_i y n k' nl
    split at h
    · rename_i ty m k'' get hkk hb
      obtain rfl := Nat.eq_of_beq_eq_true hkk
      split at h
      · rename_i hk2
        obtain rfl := Nat.eq_of_beq_eq_true hk2
        cases h
        obtain ⟨hln, hB⟩ := hS.blk y _ (hF y (by simp)) hb
        cases hv with
        | ownNil _ _ hn _ => subst hn; exact ⟨#[], fun w => rfl, fun w' _ => rfl, by simp, fun v hv => (by simp at hv), fun i hi => absurd hi (by simp)⟩
        | own hd hvir hn =>
          rcases hB with ⟨h1, _⟩ | ⟨_, c, hc1, hc2, hc3, hc4, hc5⟩
          · rw [hvir] at h1; cases h1
          · have hnm : n = m := by omega
            subst hnm
            have hle : 0 + n * k ≤ c.size := by rw [hc2, Nat.zero_add]; exact Nat.mul_le_mul_right _ hc3
            refine ⟨((c.toList.drop 0).take (n * k)).toArray, fun w => rfl, fun w' hw => load_seg (by rw [hw.blk]; exact hc1) hle, ?_, ?_, fun i hi => ?_⟩
            · rw [List.size_toArray]; exact take_len (by simpa using hle)
            · rw [List.toList_toArray]; exact (hc4.drop _).take _
            · rw [List.toList_toArray, seg_seg hi, Nat.zero_add]; exact hc5 i hi
      · cases h
    · cases h
  · rename_i y off n k'
    split at h
    · rename_i ty cs hkk hb
      obtain rfl := Nat.eq_of_beq_eq_true hkk
      split at h
      · rename_i hle
        have hle := Nat.le_of_ble_eq_true hle
        cases h
        obtain ⟨hvir, c, hc1, hc2, hc3⟩ := blk_fix hS (hF y (by simp)) hb
        have hcl := hc2.len
        have hcz : c.toList.length = c.size := by simp
        cases hv with
        | slv hd =>
          refine ⟨((c.toList.drop off).take (n * k)).toArray, fun w => rfl, fun w' hw => load_seg (by rw [hw.blk]; exact hc1) (show off + n * k ≤ c.size by omega), ?_, ?_, fun i hi => ?_⟩
          · rw [List.size_toArray]; exact take_len (by omega)
          · rw [List.toList_toArray]; exact (hc3.drop _).take _
          · rw [List.toList_toArray, seg_seg hi]; exact (hc2.drop _).take _
      · cases h
    · cases h
  · rename_i s
    split at h
    · rename_i hk1
      have := Nat.eq_of_beq_eq_true hk1
      subst this
      cases h; cases hv
      exact ⟨_, str_row E (fun i _ => .inl rfl) true⟩
    · cases h
  · rename_i s
    split at h
    · rename_i hk1
      have := Nat.eq_of_beq_eq_true hk1
      subst this
      cases h; cases hv
      exact ⟨_, str_row E (fun i _ => .inr rfl) false⟩
    · cases h
  · cases h
theorem seg_app_l {l m : List Value} {i k n : Nat} (hl : l.length = n * k) (hi : i < n) : ((l ++ m).drop (i * k)).take k = (l.drop (i * k)).take k := by
  have h2 := Nat.mul_le_mul_right k (show i + 1 ≤ n from hi)
  rw [Nat.add_mul, Nat.one_mul] at h2
  rw [List.drop_append_of_le_length (by omega), List.take_append_of_le_length (by rw [List.length_drop]; omega)]
theorem seg_app_r {l m : List Value} {i k n : Nat} (hl : l.length = n * k) (hi : n ≤ i) : ((l ++ m).drop (i * k)).take k = (m.drop ((i - n) * k)).take k := by
  have h2 := Nat.mul_le_mul_right k hi
  have e : i * k = l.length + (i - n) * k := by rw [Nat.sub_mul]; omega
  rw [e, ← List.drop_drop, List.drop_left]
theorem cat_rep {k : Nat} {r q : Row} {u v : Value} {olds news : Array Value} (h1 : RowIs P E k r u w olds) (h2 : RowIs P E k q v w news) {i : Nat} (hi : i < r.n + q.n) : Reps E (catGet k r q i) (((olds.toList ++ news.toList).drop (i * k)).take k) := by
  have hs1 : olds.toList.length = r.n * k := by rw [Array.length_toList]; exact h1.size
  have hs2 : news.toList.length = q.n * k := by rw [Array.length_toList]; exact h2.size
  have fitk : ∀ (l m : List AV) (vs : List Value) (c : Bool), vs.length = k → (if c = true then Reps E l vs else Reps E m vs) → Reps E (fit k (zipU (mux muxD c) l m)) vs := fun l m vs c hl h => zipU_fit (muxD_ok c) hl h
  unfold catGet
  cases hnl : r.nl with
  | true =>
    simp only []
    by_cases h : i < r.n
    · have : Nat.ble r.n i = false := by
        cases hb : Nat.ble r.n i
        · rfl
        · have := Nat.le_of_ble_eq_true hb; omega
      rw [this, seg_app_l hs1 h]; exact h1.rep i h
    · have : Nat.ble r.n i = true := Nat.ble_eq_true_of_le (by omega)
      rw [this, seg_app_r hs1 (by omega)]; exact h2.rep _ (by omega)
  | false =>
    simp only []
    by_cases h : i < r.n
    · rw [seg_app_l hs1 h]
      refine fitk _ _ _ _ (take_len ?_) (by rw [decide_eq_true h]; simpa using h1.rep i h)
      have := seg_le (off := 0) (k := k) h (size := olds.toList.length) (by omega)
      omega
    · rw [seg_app_r hs1 (by omega)]
      refine fitk _ _ _ _ (take_len ?_) (by rw [decide_eq_false h]; simpa using h2.rep _ (by omega))
      have := seg_le (off := 0) (k := k) (show i - r.n < q.n by omega) (size := news.toList.length) (by omega)
      omega
theorem one_zeroCells {z : Array Value} (h : One z.toList) (hz : 1 ≤ z.size) (n : Nat) : One (Builtin.zeroCells z n).toList := by
  intro v hv
  simp only [Builtin.zeroCells, Array.toList_map, List.mem_map] at hv
  obtain ⟨i, _, rfl⟩ := hv
  have hlt : i % z.size < z.size := Nat.mod_lt _ hz
  rw [getElem!_pos z _ hlt]
  exact h _ (by simp)
theorem foldl_read (xs : List Nat) : ∀ st : St, Grew st (xs.foldl St.read st) ∧ (xs.foldl St.read st).hp = st.hp ∧ (xs.foldl St.read st).nx = st.nx ∧ (xs.foldl St.read st).sl = st.sl ∧ ∀ y, y ∈ xs → y ∈ (xs.foldl St.read st).rd := by
  induction xs with
  | nil => exact fun st => ⟨.refl st, rfl, rfl, rfl, fun y h => by cases h⟩
  | cons x xs ih =>
    intro st
    obtain ⟨h1, h2, h3, h4, h5⟩ := ih (st.read x)
    refine ⟨(Grew.read st x).trans h1, h2, h3, h4, fun y hy => ?_⟩
    rcases List.mem_cons.1 hy with rfl | hy
    · exact h1.rd y (mem_ins.2 (.inl rfl))
    · exact h5 y hy
end
end Go.Proofs.YtdlghljhgbakjaaDoor
