/-
  PART: operations on memory: load, store, new blocks.
-/
import Derived.Test.YtdlghljhgbakjaaDoorEN5
namespace Go.Proofs.YtdlghljhgbakjaaDoor
open Go.RowKit

section
variable {P : Program} {o : Oper} {st st' : St} {a : AV}
theorem rep_ptr {E : Env} {x off : Nat} {v : Value} (h : Rep E (.ptr x off) v) : E.dom x ∧ v = .pointer (some ⟨E.ρ x, off, none⟩) := by cases h; exact ⟨‹_›, rfl⟩
theorem rep_pti {E : Env} {x base str n off : Nat} {i : Int} {v : Value} (h : Rep E (.pti x base i str n off) v) : E.dom x ∧ 0 ≤ i ∧ i < (n : Int) ∧ v = .pointer (some ⟨E.ρ x, base + i.toNat * str + off, none⟩) := by cases h; exact ⟨‹_›, ‹_›, ‹_›, rfl⟩
theorem rep_pe {E : Env} {x i k off : Nat} {il : Bool} {v : Value} (h : Rep E (.pe x i k off il) v) : E.dom x ∧ v = .pointer (some ⟨E.ρ x, i * k + off, none⟩) := by cases h; exact ⟨‹_›, rfl⟩
theorem rep_fz {E : Env} {cs : List AV} {off : Nat} {v : Value} (h : Rep E (.fz cs off) v) : ∃ b base c, E.fz b = some c ∧ base + cs.length ≤ c.size ∧ Reps E cs ((c.toList.drop base).take cs.length) ∧ One ((c.toList.drop base).take cs.length) ∧ v = .pointer (some ⟨b, base + off, none⟩) := by
  cases h; exact ⟨_, _, _, ‹_›, ‹_›, ‹_›, ‹_›, rfl⟩
theorem below_hit {α : Type} {l : Bool} {i n : Nat} {t : Tree α} {b : α} (h : (below l i n t).hit b) : i < n ∧ t.hit b := by
  unfold below at h
  cases l with
  | true =>
    simp only [] at h
    split at h
    · rename_i hb; exact ⟨of_decide_eq_true (by simpa [Nat.blt_eq] using hb), h⟩
    · exact h.elim
  | false => exact h
theorem within_hit {α : Type} {l : Bool} {z : Int} {n : Nat} {t : Tree α} {b : α} (h : (within l z n t).hit b) : 0 ≤ z ∧ z < (n : Int) ∧ t.hit b := by
  unfold within at h
  cases l with
  | true =>
    simp only [] at h
    split at h
    · rename_i hb; simp only [Bool.and_eq_true, decide_eq_true_eq] at hb; exact ⟨hb.1, hb.2, h⟩
    · exact h.elim
  | false => exact ⟨h.1.1, h.1.2, h.2⟩
theorem ret_hit {α : Type} {a b : α} (h : (Tree.ret a).hit b) : a = b := h
theorem blk_fix {FP : Nat → Prop} {E : Env} {H : Nat → Option Blk} {w : World} {x : Nat} {ty : TypeId} {cs : List AV} (h : Sim FP E H w) (hF : FP x) (hx : H x = some (.fix ty cs)) :
    E.vir x = false ∧ ∃ c : Array Value, blkW w (E.ρ x) = some (.cells c ty (0, 0)) ∧ Reps E cs c.toList ∧ One c.toList := h.blk x _ hF hx
theorem blk_arr {FP : Nat → Prop} {E : Env} {H : Nat → Option Blk} {w : World} {x n k : Nat} {ty : TypeId} {get : Nat → List AV} (h : Sim FP E H w) (hF : FP x) (hx : H x = some (.arr ty n k get)) {i : Nat} (hi : i < n) :
    E.vir x = false ∧ ∃ c : Array Value, blkW w (E.ρ x) = some (.cells c ty (0, 0)) ∧ c.size = E.cp x * k ∧ n ≤ E.cp x ∧ One c.toList ∧ ∀ i, i < n → Reps E (get i) ((c.toList.drop (i * k)).take k) := by
  rcases (h.blk x _ hF hx).2 with ⟨_, h0⟩ | h
  · omega
  · exact h
theorem exec_load {t : TypeId} {x : Operand} (ho : o.op = .load t x) {ρ : Operand → Value} {ad : Addr} (hx : ρ x = .pointer (some ad)) {w : World} {v : Value} (h : (loadVar t ad).run P w = .ok v w) : (execOp ρ o).run P w = .ok (.value v) w := by
  unfold execOp
  rw [ho]
  simp [Instr.loadAt, Instr.sureAddr, hx, h]
theorem nd_load {t : TypeId} {x : Operand} (ho : o.op = .load t x) : NoDefer o := fun c h => by rw [ho] at h; cases h
theorem mem1 {x : Operand} : x ∈ (#[x] : Array Operand) := by simp
theorem load_ok {t : TypeId} {x : Operand} (ho : o.op = .load t x) (h : (loadA P t (st.val x) st).hit (a, st')) : OpOk P o st a st' := by
  have hmem : x ∈ o.op.operands := by rw [ho]; exact mem1
  unfold loadA at h
  split at h
  · rename_i n ag hs ha
    split at h
    · rename_i y off hv
      split at h
      · rename_i ty cs hb
        split at h
        · rename_i r hc
          cases h
          refine .quiet (nd_load ho) (.read st y) rfl rfl rfl fun FP E act w hcov hS hx => ?_
          obtain ⟨hd, he⟩ := rep_ptr (hv ▸ hx x hmem)
          obtain ⟨_, c, hc1, hc2, hc3⟩ := blk_fix hS (hcov y (.inl (mem_ins.2 (.inl rfl)))) hb
          obtain ⟨hw1, hw2⟩ := hc2.whole
          obtain ⟨v, hl, hr⟩ := load_cut (P := P) hc1 hs ha hw1 hw2 ((hc3.drop _).take _) hc
          rw [Nat.zero_add] at hl
          exact ⟨v, exec_load ho he hl, hr⟩
        · exact h.elim
      · exact h.elim
    · rename_i y base i str m off hv
      split at h
      · rename_i ty cs hb
        split at h
        · rename_i r hc
          cases h
          refine .quiet (nd_load ho) (.read st y) rfl rfl rfl fun FP E act w hcov hS hx => ?_
          obtain ⟨hd, h0, h1, he⟩ := rep_pti (hv ▸ hx x hmem)
          obtain ⟨_, c, hc1, hc2, hc3⟩ := blk_fix hS (hcov y (.inl (mem_ins.2 (.inl rfl)))) hb
          obtain ⟨hw1, hw2⟩ := hc2.whole
          obtain ⟨a', hp, hpr⟩ := pickI_ok (E := E) hc h0 h1
          obtain ⟨v, hl, hr⟩ := load_cut (P := P) hc1 hs ha hw1 hw2 ((hc3.drop _).take _) hp
          rw [Nat.zero_add] at hl
          exact ⟨v, exec_load ho he hl, hpr v hr⟩
        · exact h.elim
      · exact h.elim
    · rename_i y i k off il hv
      split at h
      · rename_i ty m k' get hb
        split at h
        · rename_i r hk hc
          obtain ⟨hi, h⟩ := below_hit h
          cases h
          refine .quiet (nd_load ho) (.read st y) rfl rfl rfl fun FP E act w hcov hS hx => ?_
          obtain ⟨hd, he⟩ := rep_pe (hv ▸ hx x hmem)
          obtain rfl := Nat.eq_of_beq_eq_true hk
          obtain ⟨_, c, hc1, hsz, hcp, hc3, hget⟩ := blk_arr hS (hcov y (.inl (mem_ins.2 (.inl rfl)))) hb hi
          have hR := hget i hi
          have hle : 0 + m * k ≤ c.size := by rw [hsz, Nat.zero_add]; exact Nat.mul_le_mul_right _ hcp
          have hlen : (get i).length = k := by
            have h1 := hR.len
            have h2 := seg_len (c := c) (off := 0) hi hle
            rw [Nat.zero_add] at h2
            rw [h1, h2]
          have h2 := seg_le hi hle
          rw [Nat.zero_add] at h2
          obtain ⟨v, hl, hr⟩ := load_cut (P := P) hc1 hs ha (base := i * k) (by rw [hlen]; exact hR) (by rw [hlen]; exact h2) ((hc3.drop _).take _) hc
          exact ⟨v, exec_load ho he hl, hr⟩
        · exact h.elim
      · exact h.elim
    · rename_i cs off hv
      split at h
      · rename_i r hc
        cases h
        refine .quiet (nd_load ho) (.refl st) rfl rfl rfl fun FP E act w hcov hS hx => ?_
        obtain ⟨b, base, c, hz, hle, hR, hone, he⟩ := rep_fz (hv ▸ hx x hmem)
        obtain ⟨ty, fr, hb⟩ := hS.fz b c hz
        obtain ⟨v, hl, hr⟩ := load_cut (P := P) hb hs ha hR hle hone hc
        exact ⟨v, exec_load ho he hl, hr⟩
      · exact h.elim
    · exact h.elim
  · exact h.elim
/-! Store. -/
theorem nd_store {t : TypeId} {x y : Operand} (ho : o.op = .store t x y) : NoDefer o := fun c h => by rw [ho] at h; cases h
theorem exec_store {t : TypeId} {x y : Operand} (ho : o.op = .store t x y) {ρ : Operand → Value} {ad : Addr} (hx : ρ x = .pointer (some ad)) {w w' : World} (h : (storeVar t ad (ρ y)).run P w = .ok () w') : (execOp ρ o).run P w = .ok .skip w' := by
  unfold execOp
  rw [ho]
  simp [Instr.storeAt, Instr.sureAddr, hx, h]
theorem setRow_os (w : World) (b : Nat) (c : Array Value) : (w.setRow b c).os = w.os := rfl
/-- A store into a block of which the new cells are known. -/
theorem store_into {t : TypeId} {x y : Operand} (ho : o.op = .store t x y) {r : Option Nat} {FP : Nat → Prop} {E : Env} {act : Act} {w : World} {K : Act → World → Prop} {Q : Exit → Act → World → Prop} {z : Nat} {B B' : Blk}
    (hS : Sim FP E (hget st.hp) w) (hF : FP z) (hz : hget st.hp z = some B) (hv : E.vir z = false) (hlt : z < st.nx) {off n : Nat} (hx : act.eval x = .pointer (some ⟨E.ρ z, off, none⟩))
    {c : Array Value} {ty : TypeId} (hb : blkW w (E.ρ z) = some (.cells c ty (0, 0))) (hs : sizeO P t = some n) (hl : (act.eval y).cells.toList.length = n) (hle : off + n ≤ c.size) (hone : One (act.eval y).cells.toList)
    (hB : BlkR E z B' (some (.cells (c.toList.take off ++ (act.eval y).cells.toList ++ c.toList.drop (off + n)).toArray ty (0, 0))))
    (hk : ∀ E' v w', Rep E' .unk v → Pst FP E E' (hget st.hp) (hget (st.write z (some B')).hp) st.nx st.nx (st.write z (some B')).wr w w' → K (act.put o.dst v) w') : o.wpIn (wideR r) 0 P act w K Q := by
  have hrun := run_storeVar (P := P) hb hs hl hle hone
  refine op_skip (nd_store ho) (exec_store ho hx hrun) (hk E undef _ (.unk _) ?_)
  refine Pst.set hS hF hz hv (mem_ins.2 (.inl rfl)) hlt ?_ (fun q => hget_write) (fun b hne => blkW_setRow_other w _ _ hne) (setRow_size ..) rfl rfl rfl
  rw [blkW_setRow_same hb]; exact hB
theorem splice_len {l m : List Value} {off n : Nat} (hm : m.length = n) (h : off + n ≤ l.length) : (l.take off ++ m ++ l.drop (off + n)).length = l.length := by
  simp; omega
theorem one_splice {l m : List Value} {off n : Nat} (h : One l) (hm : One m) : One (l.take off ++ m ++ l.drop (off + n)) := ((h.take _).app hm).app (h.drop _)
theorem seg_id (ws : List Value) (p n : Nat) : ws.take p ++ ((ws.drop p).take n ++ ws.drop (p + n)) = ws := by
  rw [← List.drop_drop, List.take_append_drop, List.take_append_drop]
theorem spliceI_ok {E : Env} {i : Int} {cs new : List AV} {base str off : Nat} {m : Nat} {cs' : List AV} (h : spliceI i cs base str off new m = some cs') {vs us : List Value} (hR : Reps E cs vs) (hN : Reps E new us) (h0 : 0 ≤ i) :
    cs'.length = cs.length ∧ (i < (m : Int) → base + i.toNat * str + off + us.length ≤ vs.length ∧ Reps E cs' (vs.take (base + i.toNat * str + off) ++ (us ++ vs.drop (base + i.toNat * str + off + us.length)))) ∧ (¬ i < (m : Int) → Reps E cs' vs) := by
  induction m generalizing cs' with
  | zero =>
    simp [spliceI] at h; subst h
    exact ⟨rfl, fun h => absurd h (by omega), fun _ => hR⟩
  | succ j ih =>
    simp only [spliceI] at h
    split at h
    · rename_i cs1 h1
      split at h
      · rename_i hle
        have hle' := Nat.le_of_ble_eq_true hle
        split at h
        · rename_i r hz
          cases h
          obtain ⟨e1, e2, e3⟩ := ih h1
          have hlr : new.length = r.length ∧ ((cs1.drop (base + j * str + off)).take new.length).length = r.length := by
            have : ∀ (l m r : List AV) (f : AV → AV → Option AV), zipO f l m = some r → l.length = r.length ∧ m.length = r.length := by
              intro l
              induction l with
              | nil => intro m r f h; cases m <;> simp [zipO] at h; subst h; exact ⟨rfl, rfl⟩
              | cons a l ih => intro m r f h; cases m with
                | nil => simp [zipO] at h
                | cons b m =>
                  simp only [zipO] at h
                  split at h
                  · rename_i x y hx hy; cases h
                    obtain ⟨q1, q2⟩ := ih m y f hy
                    exact ⟨by simp [q1], by simp [q2]⟩
                  · cases h
            exact this _ _ _ _ hz
          have hlen : (splice cs1 (base + j * str + off) r).length = cs.length := by
            unfold splice; simp; omega
          have hu := hN.len
          by_cases e : i = (j : Int)
          · have ht : i.toNat = j := by omega
            have hnot : ¬ i < (j : Int) := by omega
            have hR1 := e3 hnot
            have hv1 := hR1.len
            have hr : Reps E r us := (zipO_ok (muxD_ok _) hz (by rw [decide_eq_true e]; simpa using hN)).1
            refine ⟨hlen, fun _ => ?_, fun h => absurd (show i < ((j + 1 : Nat) : Int) by omega) h⟩
            rw [ht]
            exact ⟨by omega, splice_ok hR1 hr⟩
          · have hsame : ∀ (ws : List Value), Reps E cs1 ws → Reps E (splice cs1 (base + j * str + off) r) ws := fun ws hws => by
              have hr : Reps E r ((ws.drop (base + j * str + off)).take new.length) := (zipO_ok (muxD_ok _) hz (by rw [decide_eq_false e]; simpa using (hws.drop _).take _)).1
              have := splice_ok (off := base + j * str + off) hws hr
              have hwl := hws.len
              have hz2 : ((ws.drop (base + j * str + off)).take new.length).length = new.length := take_len (by omega)
              rw [hz2] at this
              rwa [seg_id] at this
            refine ⟨hlen, fun h => ?_, fun h => hsame _ (e3 (by omega))⟩
            obtain ⟨q1, q2⟩ := e2 (by omega)
            exact ⟨q1, hsame _ q2⟩
        · cases h
      · cases h
    · cases h
theorem app_assoc3 (a b c : List Value) : a ++ b ++ c = a ++ (b ++ c) := List.append_assoc a b c
/-- A segment of a row of which another segment is written. -/
theorem seg_splice_other {l m : List Value} {p q k n : Nat} (hm : m.length = n) (h : q + k ≤ p ∨ p + n ≤ q) (hle : p + n ≤ l.length) : ((l.take p ++ (m ++ l.drop (p + n))).drop q).take k = (l.drop q).take k := by
  apply List.ext_getElem?
  intro i
  simp only [List.getElem?_take, List.getElem?_drop]
  split
  · rename_i hi
    rcases h with h | h
    · rw [List.getElem?_append_left (by simp; omega), List.getElem?_take, if_pos (by omega)]
    · rw [List.getElem?_append_right (by simp; omega), List.getElem?_append_right (by simp; omega), List.getElem?_drop]
      congr 1
      simp; omega
  · rfl
theorem get_app3 (a b c : List Value) (i : Nat) : (a ++ (b ++ c))[i]? = if i < a.length then a[i]? else if i - a.length < b.length then b[i - a.length]? else c[i - a.length - b.length]? := by
  split
  · rename_i h; exact List.getElem?_append_left h
  · rename_i h
    rw [List.getElem?_append_right (by omega)]
    split
    · rename_i h2; exact List.getElem?_append_left h2
    · exact List.getElem?_append_right (by omega)
theorem splice_len2 {l m : List Value} {off : Nat} (h : off + m.length ≤ l.length) : (l.take off ++ (m ++ l.drop (off + m.length))).length = l.length := by
  simp only [List.length_append, List.length_take, List.length_drop]; omega
theorem seg_splice_in {l m : List Value} {base off n k : Nat} (hm : m.length = n) (h : off + n ≤ k) (hle : base + k ≤ l.length) : ((l.take (base + off) ++ (m ++ l.drop (base + off + n))).drop base).take k = ((l.drop base).take k).take off ++ (m ++ ((l.drop base).take k).drop (off + m.length)) := by
  have l1 : (l.take (base + off)).length = base + off := by rw [List.length_take]; omega
  have l2 : (((l.drop base).take k).take off).length = off := by rw [List.length_take, List.length_take, List.length_drop]; omega
  apply List.ext_getElem?
  intro i
  rw [List.getElem?_take, List.getElem?_drop, get_app3, get_app3, l1, l2]
  by_cases hi : i < k
  · rw [if_pos hi]
    by_cases h1 : i < off
    · rw [if_pos (by omega), if_pos h1]
      simp only [List.getElem?_take, List.getElem?_drop]
      rw [if_pos (by omega), if_pos h1, if_pos hi]
    · rw [if_neg (by omega), if_neg h1, show base + i - (base + off) = i - off by omega]
      by_cases h2 : i - off < m.length
      · rw [if_pos h2, if_pos h2]
      · rw [if_neg h2, if_neg h2]
        simp only [List.getElem?_take, List.getElem?_drop]
        rw [if_pos (by omega)]
        congr 1
        omega
  · rw [if_neg hi, if_neg (by omega), if_neg (by omega)]
    simp only [List.getElem?_take, List.getElem?_drop]
    rw [if_neg (by omega)]
theorem store_ok {t : TypeId} {x y : Operand} (ho : o.op = .store t x y) (h : (storeA P t (st.val x) (st.val y) st).hit (a, st')) : OpOk P o st a st' := by
  have hmx : x ∈ o.op.operands := by rw [ho]; simp [Op.operands]
  have hmy : y ∈ o.op.operands := by rw [ho]; simp [Op.operands]
  unfold storeA at h
  split at h
  · rename_i n hs
    split at h
    · rename_i hag hlen
      have hlen' := Nat.eq_of_beq_eq_true hlen
      split at h
      · rename_i z off hv
        split at h
        · rename_i ty cs hb
          split at h
          · rename_i hle
            have hle' := Nat.le_of_ble_eq_true hle
            cases h
            have hal : hget st.hp z ≠ none := by rw [hb]; simp
            refine ⟨.writeAt st z ty cs off n _ hb hle hlen, rfl, fun r FP E act w K Q hwf hcov _ hS hx hk => ?_⟩
            obtain ⟨hd, he⟩ := rep_ptr (hv ▸ hx x hmx)
            have hF := hcov z (.inr (.inl (mem_ins.2 (.inl rfl))))
            obtain ⟨hvir, c, hc1, hc2, hc3⟩ := blk_fix hS hF hb
            obtain ⟨hR, hone⟩ := cellsR (hx y hmy) hag
            have hl := hR.len
            have hcl := hc2.len
            have hcz : c.toList.length = c.size := by simp
            refine store_into ho hS hF hb hvir (hwf z hal) he hc1 hs (by omega) (by omega) hone ?_ hk
            refine ⟨hvir, _, rfl, ?_, ?_⟩
            · rw [List.toList_toArray, List.append_assoc, ← hlen', hl]; exact splice_ok hc2 hR
            · rw [List.toList_toArray]; exact one_splice hc3 hone
          · exact h.elim
        · exact h.elim
      · rename_i z base i str m off hv
        split at h
        · rename_i ty cs hb
          split at h
          · rename_i cs' hsp
            cases h
            have hal : hget st.hp z ≠ none := by rw [hb]; simp
            refine ⟨.write st z _ (.inr hal), rfl, fun r FP E act w K Q hwf hcov _ hS hx hk => ?_⟩
            obtain ⟨hd, h0, h1, he⟩ := rep_pti (hv ▸ hx x hmx)
            have hF := hcov z (.inr (.inl (mem_ins.2 (.inl rfl))))
            obtain ⟨hvir, c, hc1, hc2, hc3⟩ := blk_fix hS hF hb
            obtain ⟨hR, hone⟩ := cellsR (hx y hmy) hag
            have hl := hR.len
            have hcz : c.toList.length = c.size := by simp
            obtain ⟨_, q, _⟩ := spliceI_ok hsp hc2 hR h0
            obtain ⟨q1, q2⟩ := q h1
            have hn : (act.eval y).cells.toList.length = n := by omega
            refine store_into ho hS hF hb hvir (hwf z hal) he hc1 hs hn (by omega) hone ?_ hk
            refine ⟨hvir, _, rfl, ?_, ?_⟩
            · rw [List.toList_toArray, List.append_assoc]; rw [hn] at q2; exact q2
            · rw [List.toList_toArray]; exact one_splice hc3 hone
          · exact h.elim
        · exact h.elim
      · rename_i z i k off il hv
        split at h
        · rename_i ty m k' get hb
          split at h
          · rename_i hkk
            simp only [Bool.and_eq_true] at hkk
            obtain rfl := Nat.eq_of_beq_eq_true hkk.1
            have hle' := Nat.le_of_ble_eq_true hkk.2
            obtain ⟨hi, h⟩ := below_hit h
            cases h
            have hal : hget st.hp z ≠ none := by rw [hb]; simp
            refine ⟨.write st z _ (.inr hal), rfl, fun r FP E act w K Q hwf hcov _ hS hx hk => ?_⟩
            obtain ⟨hd, he⟩ := rep_pe (hv ▸ hx x hmx)
            have hF := hcov z (.inr (.inl (mem_ins.2 (.inl rfl))))
            obtain ⟨hvir, c, hc1, hsz, hcp, hc3, hget⟩ := blk_arr hS hF hb hi
            obtain ⟨hR, hone⟩ := cellsR (hx y hmy) hag
            have hl := hR.len
            have hn : (act.eval y).cells.toList.length = n := by omega
            have hcz : c.toList.length = c.size := by simp
            have hle : 0 + m * k ≤ c.size := by rw [hsz, Nat.zero_add]; exact Nat.mul_le_mul_right _ hcp
            have hseg := seg_le hi hle
            rw [Nat.zero_add] at hseg
            have hlen2 : (c.toList.take (i * k + off) ++ (act.eval y).cells.toList ++ c.toList.drop (i * k + off + n)).length = c.size := by rw [splice_len hn (by omega), hcz]
            refine store_into ho hS hF hb hvir (hwf z hal) he hc1 hs hn (by omega) hone ?_ hk
            refine ⟨(hS.blk z _ hF hb).1, .inr ⟨hvir, _, rfl, by rw [List.size_toArray, hlen2, hsz], hcp, by rw [List.toList_toArray]; exact one_splice hc3 hone, fun j hj => ?_⟩⟩
            have hseg2 := seg_le hj hle
            rw [Nat.zero_add] at hseg2
            have hlj : ((c.toList.drop (j * k)).take k).length = k := take_len (by omega)
            show Reps E (fit k (zipU (mux muxD (decide (j = i))) (splice (get i) off (cellsA (st.val y))) (get j))) _
            have hap : (c.toList.take (i * k + off) ++ (act.eval y).cells.toList ++ c.toList.drop (i * k + off + n)) = (c.toList.take (i * k + off) ++ ((act.eval y).cells.toList ++ c.toList.drop (i * k + off + n))) := List.append_assoc ..
            rw [List.toList_toArray, hap]
            by_cases e : j = i
            · subst e
              rw [seg_splice_in hn hle' (by omega)]
              exact zipU_fit (muxD_ok _) ((splice_len2 (by omega)).trans hlj) (by rw [decide_eq_true rfl]; simpa using splice_ok (hget j hi) hR)
            · have hne : j * k + k ≤ i * k + off ∨ i * k + off + n ≤ j * k := by
                rcases Nat.lt_or_gt_of_ne e with h | h
                · have := Nat.mul_le_mul_right k (show j + 1 ≤ i from h)
                  rw [Nat.add_mul, Nat.one_mul] at this
                  left; omega
                · have := Nat.mul_le_mul_right k (show i + 1 ≤ j from h)
                  rw [Nat.add_mul, Nat.one_mul] at this
                  right; omega
              rw [seg_splice_other hn hne (by omega)]
              exact zipU_fit (muxD_ok _) hlj (by rw [decide_eq_false e]; simpa using hget j hj)
          · exact h.elim
        · exact h.elim
      · exact h.elim
    · exact h.elim
  · exact h.elim
end
end Go.Proofs.YtdlghljhgbakjaaDoor
