/-
  PART: a region that draws its order.
-/
import Derived.Test.YtdlghljhgbakjaaDoorENL
namespace Go.Proofs.YtdlghljhgbakjaaDoor
open Go.RowKit

def leftN (listed : Array Bool) (n : Nat) : Nat := (List.range n).countP fun i => !listed.getD i true
theorem countP_lt {α : Type} (p q : α → Bool) (l : List α) (h : ∀ x ∈ l, q x = true → p x = true) (y : α) (hy : y ∈ l) (hp : p y = true) (hq : q y = false) : l.countP q < l.countP p := by
  induction l with
  | nil => cases hy
  | cons x l ih =>
    have hle : l.countP q ≤ l.countP p := List.countP_mono_left (fun z hz hz' => h z (List.mem_cons_of_mem _ hz) hz')
    rw [List.countP_cons, List.countP_cons]
    rcases List.mem_cons.1 hy with rfl | hy'
    · rw [hp, hq]; simp; omega
    · have := ih (fun z hz => h z (List.mem_cons_of_mem _ hz)) hy'
      by_cases hx : q x = true
      · rw [hx, h x List.mem_cons_self hx]; simp; omega
      · cases hpx : p x <;> simp [hx] <;> omega
theorem left_set {listed : Array Bool} {n i : Nat} (hi : i < n) (h0 : listed.getD i true = false) : leftN (listed.setIfInBounds i true) n < leftN listed n := by
  unfold leftN
  have hlt : i < listed.size := by
    rcases Nat.lt_or_ge i listed.size with h | h
    · exact h
    · simp [Array.getElem?_eq_none h] at h0
  refine countP_lt _ _ _ ?_ i (List.mem_range.2 hi) (by simp [h0]) (by simp [hlt])
  intro x _ hx
  by_cases e : i = x
  · subst e; simp [hlt] at hx
  · rw [getD_set_ne true e] at hx; exact hx
theorem all_listed {ops : Array Oper} (hb : ∀ i o, ops[i]? = some o → ∀ e ∈ o.after, Region.binds .any e = true → e.on < i) {listed : Array Bool} (hr : Region.ready .any ops listed = []) : ∀ i, i < ops.size → listed.getD i true = true := by
  intro i
  induction i using Nat.strongRecOn with
  | _ i ih =>
    intro hi
    cases h : listed.getD i true
    · exfalso
      have hm : i ∈ Region.ready .any ops listed := by
        rw [mem_ready]
        refine ⟨h, ops[i], Array.getElem?_eq_getElem hi, fun e he hbi => ?_⟩
        have hlt := hb i _ (Array.getElem?_eq_getElem hi) e he hbi
        have h1 := ih e.on hlt (by omega)
        have hli : i < listed.size := by
          rcases Nat.lt_or_ge i listed.size with h' | h'
          · exact h'
          · simp [Array.getElem?_eq_none h'] at h
        have : e.on < listed.size := by omega
        simp [this] at h1 ⊢
        exact h1
      rw [hr] at hm; cases hm
    · rfl
section
variable {cx : Cx} {r : Evs} {ops : Array Oper} {P : Program}
/-- An operation writes a slot; a block. -/
def WrS (ops : Array Oper) (j d : Nat) : Prop := ∃ o, ops[j]? = some o ∧ o.dst = some d
def WrB (L : List Stp) (j x : Nat) : Prop := ∃ p, L[j]? = some p ∧ p.b = true ∧ x ∈ p.q.wr
/-- A place between what is listed of some operations, and what is not. -/
def CutAt (n : Nat) (T : Nat → Prop) (Wr : Nat → Prop) (k : Nat) : Prop := k ≤ n ∧ (∀ j, j < k → Wr j → T j) ∧ ∀ j, k ≤ j → j < n → Wr j → ¬ T j
structure Mid (cx : Cx) (ops : Array Oper) (N : Nat) (D : List Deferred) (FP : Nat → Prop) (st st' : St) (L : List Stp) (E0 : Env) (w0 : World) (T : Nat → Prop) (E : Env) (act : Act) (w : World) (Hm : Nat → Option Blk) : Prop where
  size : act.tmps.size = N
  defers : act.defers = D
  slot : ∀ d k, CutAt L.length T (WrS ops · d) k → Rep E (look (stAt st L k).sl d) (act.tmps.getD d undef)
  hm : ∀ x k, CutAt L.length T (WrB L · x) k → Hm x = hget (stAt st L k).hp x
  pst : Pst FP E0 E (hget st.hp) Hm st.nx st'.nx st'.wr w0 w
  dom : ∀ x, E.dom x → E0.dom x ∨ ∃ j, j < L.length ∧ T j ∧ (stAt st L j).nx ≤ x ∧ x < (stAt st L (j + 1)).nx
  low : ∀ x, Hm x ≠ none → x < st'.nx
/-- What one step of a way does to states. -/
structure StepF (ops : Array Oper) (L : List Stp) (st st' : St) : Prop where
  slot : ∀ j d, j < L.length → ¬ WrS ops j d → ∀ E v, Rep E (look (stAt st L j).sl d) v ↔ Rep E (look (stAt st L (j + 1)).sl d) v
  blk : ∀ j x, j < L.length → ¬ WrB L j x → hget (stAt st L (j + 1)).hp x = hget (stAt st L j).hp x
  nx : ∀ j, j < L.length → (stAt st L j).nx ≤ (stAt st L (j + 1)).nx
  rd : ∀ j, j < L.length → ∀ x, x ∈ (stAt st L j).rd → x ∈ (stAt st L (j + 1)).rd
  wr : ∀ j, j < L.length → ∀ x, x ∈ (stAt st L j).wr → x ∈ (stAt st L (j + 1)).wr
  wf : ∀ j, j < L.length → Wf (stAt st L j) → Wf (stAt st L (j + 1))
  fin : SameS (stAt st L L.length) st'
theorem opYes_true {o : Oper} {st : St} {q : Rec} {post : St} (h : (opYes cx r true o st).hit (q, post)) : ∃ a s, (evalOp cx r o st.fresh).hit (a, s) ∧ q = ⟨s.rd, s.wr⟩ ∧ post = (s.logs st).put o.dst a := by
  unfold opYes at h
  simp only [] at h
  obtain ⟨⟨a, s⟩, h1, h2⟩ := Tree.hit_bind h
  cases h2
  exact ⟨a, s, h1, rfl, rfl⟩
theorem look_put {st : St} {dst : Option Nat} {a : AV} {d : Nat} (h : dst ≠ some d) : look (st.put dst a).sl d = look st.sl d := by
  cases dst with
  | none => rfl
  | some e =>
    show look ((e, a) :: st.sl) d = _
    rw [look_cons, if_neg (fun h' => h (by rw [h']))]
theorem look_put_same {st : St} {d : Nat} {a : AV} : look (st.put (some d) a).sl d = a := by
  show look ((d, a) :: st.sl) d = _
  rw [look_cons, if_pos rfl]
theorem put_rest (st : St) (d : Option Nat) (a : AV) : (st.put d a).hp = st.hp ∧ (st.put d a).nx = st.nx ∧ (st.put d a).rd = st.rd ∧ (st.put d a).wr = st.wr := by cases d <;> exact ⟨rfl, rfl, rfl, rfl⟩
theorem chain_steps (hr : CallsAll r) {st st' : St} {L : List Stp} (h : Chain cx r ops ops.toList st L st') : StepF ops L st st' := by
  obtain ⟨hl, hfin⟩ := chain_len h
  have hn : L.length = ops.size := by rw [hl]; simp
  have get : ∀ j, j < L.length → ∃ o p, ops[j]? = some o ∧ L[j]? = some p ∧ SameS (stAt st L j) p.pre ∧ Good cx r ops o p ∧ stAt st L (j + 1) = p.post := fun j hj => by
    have ho : ops.toList[j]? = some ops[j] := by simp [hn ▸ hj]
    exact ⟨ops[j], L[j], Array.getElem?_eq_getElem (by omega), List.getElem?_eq_getElem hj, chain_get h j _ _ ho (List.getElem?_eq_getElem hj)⟩
  have gs : ∀ j, j < L.length → ∃ o p, ops[j]? = some o ∧ L[j]? = some p ∧ SameS (stAt st L j) p.pre ∧ stAt st L (j + 1) = p.post ∧ Gs p.pre p.post := fun j hj => by
    obtain ⟨o, p, h1, h2, h3, h4, h5⟩ := get j hj
    refine ⟨o, p, h1, h2, h3, h5, ?_⟩
    cases hb : p.b with
    | true => exact ((all_opYes hr o p.pre).hit (h4.2.1 hb)).gs
    | false => rw [h4.2.2 hb]; exact (opNo_grew o p.pre).gs
  refine ⟨fun j d hj hw E v => ?_, fun j x hj hw => ?_, fun j hj => ?_, fun j hj => ?_, fun j hj => ?_, fun j hj hwf => ?_, hl ▸ hfin⟩
  · obtain ⟨o, p, h1, h2, h3, h4, h5⟩ := get j hj
    have hne : o.dst ≠ some d := fun e => hw ⟨o, h1, e⟩
    rw [h5, ← h3.slot E d v]
    cases hb : p.b with
    | true =>
      obtain ⟨a, s, k1, k2, k3⟩ := opYes_true (h4.2.1 hb)
      rw [k3, look_put hne]
      have := ((all_op hr o).hit k1).2
      show Rep E _ v ↔ Rep E (look s.sl d) v
      rw [show s.sl = p.pre.fresh.sl from this]
      exact Iff.rfl
    | false => rw [h4.2.2 hb, opNo, look_put hne]
  · obtain ⟨o, p, h1, h2, h3, h4, h5⟩ := get j hj
    rw [h5, ← h3.hp]
    cases hb : p.b with
    | true =>
      obtain ⟨a, s, k1, k2, k3⟩ := opYes_true (h4.2.1 hb)
      have hx : x ∉ s.wr := fun hx => hw ⟨p, h2, hb, by rw [k2]; exact hx⟩
      rw [k3, (put_rest _ _ _).1]
      exact ((all_op hr o).hit k1).1.blkr x hx
    | false => rw [h4.2.2 hb, opNo, (put_rest _ _ _).1]
  · obtain ⟨o, p, h1, h2, h3, h5, g⟩ := gs j hj
    rw [h5, ← h3.nx]; exact g.nx
  · obtain ⟨o, p, h1, h2, h3, h5, g⟩ := gs j hj
    rw [h5, ← h3.rd]; exact g.rd
  · obtain ⟨o, p, h1, h2, h3, h5, g⟩ := gs j hj
    rw [h5, ← h3.wr]; exact g.wr
  · obtain ⟨o, p, h1, h2, h3, h5, g⟩ := gs j hj
    rw [h5]
    refine g.wf ?_
    unfold Wf at hwf ⊢
    rw [h3.hp, h3.nx]; exact hwf
section
variable {L : List Stp} {st st' : St}
theorem StepF.slot_le (F : StepF ops L st st') {d i k : Nat} (hik : i ≤ k) (hk : k ≤ L.length) (h : ∀ j, i ≤ j → j < k → ¬ WrS ops j d) (E : Env) (v : Value) : Rep E (look (stAt st L i).sl d) v ↔ Rep E (look (stAt st L k).sl d) v := by
  induction k with
  | zero => obtain rfl : i = 0 := by omega
            exact Iff.rfl
  | succ k ih =>
    by_cases e : i = k + 1
    · subst e; exact Iff.rfl
    · exact (ih (by omega) (by omega) fun j h1 h2 => h j h1 (by omega)).trans (F.slot k d (by omega) (h k (by omega) (by omega)) E v)
theorem StepF.blk_le (F : StepF ops L st st') {x i k : Nat} (hik : i ≤ k) (hk : k ≤ L.length) (h : ∀ j, i ≤ j → j < k → ¬ WrB L j x) : hget (stAt st L k).hp x = hget (stAt st L i).hp x := by
  induction k with
  | zero => obtain rfl : i = 0 := by omega
            rfl
  | succ k ih =>
    by_cases e : i = k + 1
    · subst e; rfl
    · exact (F.blk k x (by omega) (h k (by omega) (by omega))).trans (ih (by omega) (by omega) fun j h1 h2 => h j h1 (by omega))
theorem StepF.nx_le (F : StepF ops L st st') {i k : Nat} (hik : i ≤ k) (hk : k ≤ L.length) : (stAt st L i).nx ≤ (stAt st L k).nx := by
  induction k with
  | zero => obtain rfl : i = 0 := by omega
            exact Nat.le_refl _
  | succ k ih =>
    by_cases e : i = k + 1
    · subst e; exact Nat.le_refl _
    · exact Nat.le_trans (ih (by omega) (by omega)) (F.nx k (by omega))
theorem StepF.logs_le (F : StepF ops L st st') {i k : Nat} (hik : i ≤ k) (hk : k ≤ L.length) : (∀ x, x ∈ (stAt st L i).rd → x ∈ (stAt st L k).rd) ∧ ∀ x, x ∈ (stAt st L i).wr → x ∈ (stAt st L k).wr := by
  induction k with
  | zero => obtain rfl : i = 0 := by omega
            exact ⟨fun _ h => h, fun _ h => h⟩
  | succ k ih =>
    by_cases e : i = k + 1
    · subst e; exact ⟨fun _ h => h, fun _ h => h⟩
    · obtain ⟨h1, h2⟩ := ih (by omega) (by omega)
      exact ⟨fun x hx => F.rd k (by omega) x (h1 x hx), fun x hx => F.wr k (by omega) x (h2 x hx)⟩
theorem StepF.wf_le (F : StepF ops L st st') (hwf : Wf st) {k : Nat} (hk : k ≤ L.length) : Wf (stAt st L k) := by
  induction k with
  | zero => cases L <;> exact hwf
  | succ k ih => exact F.wf k (by omega) (ih (by omega))
theorem stAt_zero (st : St) (L : List Stp) : stAt st L 0 = st := by cases L <;> rfl
end
end
end Go.Proofs.YtdlghljhgbakjaaDoor
