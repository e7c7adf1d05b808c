/-
  PART: the flow of a region's data, told by a table of what each slot is to hold; one lemma for each kind of operation.
-/
import Derived.Test.YtkmhabbpndcnkaaF0
import Derived.Test.YtkmhabbpndcnkaaK0
namespace Go.Proofs.Ytkmhabbpndcnkaa
open Go.RowKit

/-- What a slot is to hold: anything, a value, a slice whose cells are known. -/
inductive Sp where
  | any
  | val (v : Value)
  | slc (cs : Array Value) (n : Nat) (t : TypeId)
def Sp.holds : Sp → Value → World → Prop
  | .any, _, _ => True
  | .val x, v, _ => v = x
  | .slc cs n t, v, w => ∃ b, v = .slice (some ⟨b, 0, none⟩) n n ∧ b < w.heap.size ∧ blkAt w b = some (.cells cs t (0, 0))
theorem Sp.grow {s : Sp} {v : Value} {w w' : World} (h : s.holds v w) (hg : Grow w w') : s.holds v w' := by
  cases s with
  | any => trivial
  | val x => exact h
  | slc cs n t =>
    obtain ⟨b, hv, hlt, hb⟩ := h
    exact ⟨b, hv, Nat.lt_of_lt_of_le hlt hg.size, (ba_below hg b hlt).trans hb⟩
def spR (tab : List (Nat × Sp)) (d : Nat) : Value → World → Prop := ((tab.lookup d).getD .any).holds
theorem spR_grow (tab : List (Nat × Sp)) (d : Nat) (v : Value) (w w' : World) (h : spR tab d v w) (hg : Grow w w') : spR tab d v w' := Sp.grow h hg
theorem blk_grow {w w' : World} (hg : Grow w w') {n : Nat} {o : Obj} (hlt : n < w.heap.size) (hb : blkAt w n = some o) : blkAt w' n = some o := (ba_below hg n hlt).trans hb

/-- Each of the table's slots is written in the region. -/
def wrB (ops : Array Oper) (wr : List (Nat × Sp)) : Bool := wr.all fun p => ops.any fun o => o.dst == some p.1
theorem lookup_append {α : Type} (l m : List (Nat × α)) (d : Nat) : (l ++ m).lookup d = (l.lookup d).or (m.lookup d) := by
  induction l with
  | nil => rfl
  | cons p l ih =>
    obtain ⟨k, x⟩ := p
    simp only [List.cons_append, List.lookup_cons]
    cases h : d == k
    · simpa using ih
    · simp
theorem lookup_mem {α : Type} {l : List (Nat × α)} {d : Nat} {x : α} (h : l.lookup d = some x) : (d, x) ∈ l := by
  induction l with
  | nil => cases h
  | cons p l ih =>
    obtain ⟨k, y⟩ := p
    rw [List.lookup_cons] at h
    cases e : d == k
    · rw [e] at h; exact List.mem_cons_of_mem _ (ih h)
    · rw [e] at h
      cases h
      have : d = k := by simpa using e
      subst this; exact List.mem_cons_self

section
variable {P : Program} {ops : Array Oper} {Q : Exit → Act → World → Prop} {R : Nat → Value → World → Prop} {N i : Nat} {D : List Deferred} {us : List Nat} {w0 : World} {o0 : Oper}
theorem Ob.value (h : ops[i]? = some o0) (H : ∀ (a : Act) (w : World), Grow w0 w → (∀ d ∈ us, R d (a.tmps.getD d undef) w) → Region.wanted o0 (yielded ops a.tmps) = true ∧
    ∃ v, (execOp a.eval o0).run P w = .ok (.value v) w ∧ ∀ d, o0.dst = some d → R d v w) : Ob P ops Q R N D us i w0 := by
  intro o ho a w hg _ _ hu
  obtain rfl : o = o0 := Option.some.inj (ho.symm.trans h)
  obtain ⟨hw, v, hr, hv⟩ := H a w hg hu
  unfold wpOp
  rw [h]
  simp only [hw, if_true]
  refine .inl ?_
  unfold Oper.wp
  rw [hr]
  exact ⟨Grow.refl _, v, rfl, hv⟩
theorem Ob.grows (h : ops[i]? = some o0) (H : ∀ (a : Act) (w : World), Grow w0 w → (∀ d ∈ us, R d (a.tmps.getD d undef) w) → Region.wanted o0 (yielded ops a.tmps) = true ∧
    ∃ v w', (execOp a.eval o0).run P w = .ok (.value v) w' ∧ Grow w w' ∧ ∀ d, o0.dst = some d → R d v w') : Ob P ops Q R N D us i w0 := by
  intro o ho a w hg _ _ hu
  obtain rfl : o = o0 := Option.some.inj (ho.symm.trans h)
  obtain ⟨hw, v, w', hr, hgr, hv⟩ := H a w hg hu
  unfold wpOp
  rw [h]
  simp only [hw, if_true]
  refine .inl ?_
  unfold Oper.wp
  rw [hr]
  exact ⟨hgr, v, rfl, hv⟩
theorem Ob.call (h : ops[i]? = some o0) (H : ∀ (a : Act) (w : World), Grow w0 w → (∀ d ∈ us, R d (a.tmps.getD d undef) w) → Region.wanted o0 (yielded ops a.tmps) = true ∧
    ∃ f args, (execOp a.eval o0).run P w = .ok (.enter f args) w ∧ Calls P f args w fun e w' => ∃ v, e = .returned v ∧ Grow w w' ∧ ∀ d, o0.dst = some d → R d v w') : Ob P ops Q R N D us i w0 := by
  intro o ho a w hg _ _ hu
  obtain rfl : o = o0 := Option.some.inj (ho.symm.trans h)
  obtain ⟨hw, f, args, hr, hc⟩ := H a w hg hu
  unfold wpOp
  rw [h]
  simp only [hw, if_true]
  refine .inl ?_
  unfold Oper.wp
  rw [hr]
  refine Calls.mono hc fun e w' he => ?_
  obtain ⟨v, rfl, hgr, hv⟩ := he
  exact ⟨hgr, v, rfl, hv⟩
theorem Ob.off (h : ops[i]? = some o0) (H : ∀ (a : Act) (w : World), Grow w0 w → (∀ d ∈ us, R d (a.tmps.getD d undef) w) → Region.wanted o0 (yielded ops a.tmps) = false ∧
    ∀ d, o0.dst = some d → R d undef w) : Ob P ops Q R N D us i w0 := by
  intro o ho a w hg _ _ hu
  obtain rfl : o = o0 := Option.some.inj (ho.symm.trans h)
  obtain ⟨hw, hv⟩ := H a w hg hu
  unfold wpOp
  rw [h]
  simp only [hw, Bool.false_eq_true, if_false]
  exact ⟨Grow.refl _, undef, rfl, hv⟩
theorem yields_of {a : Act} {j dj : Nat} {b : Bool} (h : (ops[j]?).bind (·.dst) = some dj) (f : a.tmps.getD dj undef = .bool b) : yielded ops a.tmps j = some b := by
  unfold yielded
  rw [h]
  simp only [Option.bind_some]
  rcases Nat.lt_or_ge dj a.tmps.size with hlt | hge
  · simp [hlt] at f ⊢
    simp [f]
  · simp [Array.getElem?_eq_none hge] at f
    cases f
theorem wanted_yes {a : Act} {j dj : Nat} {b : Bool} (hg : o0.guard = some (j, b)) (h : (ops[j]?).bind (·.dst) = some dj) (f : a.tmps.getD dj undef = .bool b) : Region.wanted o0 (yielded ops a.tmps) = true := by
  unfold Region.wanted
  rw [hg]
  simp [yields_of h f]
theorem wanted_no {a : Act} {j dj : Nat} {b c : Bool} (hg : o0.guard = some (j, c)) (h : (ops[j]?).bind (·.dst) = some dj) (f : a.tmps.getD dj undef = .bool b) (hne : b ≠ c) : Region.wanted o0 (yielded ops a.tmps) = false := by
  unfold Region.wanted
  rw [hg]
  simp [yields_of h f, hne]

/-- The obligations, one behind the other. -/
def Obs (P : Program) (ops : Array Oper) (Q : Exit → Act → World → Prop) (R : Nat → Value → World → Prop) (N : Nat) (D : List Deferred) (us : List (List Nat)) (w0 : World) : Nat → Prop
  | 0 => True
  | n + 1 => Obs P ops Q R N D us w0 n ∧ Ob P ops Q R N D (us.getD n []) n w0
theorem Obs.get {uss : List (List Nat)} : ∀ (n : Nat), Obs P ops Q R N D uss w0 n → ∀ i, i < n → Ob P ops Q R N D (uss.getD i []) i w0
  | 0, _, i, hi => absurd hi (Nat.not_lt_zero _)
  | n + 1, h, i, hi => by
    rcases Nat.lt_or_ge i n with hlt | hge
    · exact Obs.get n h.1 i hlt
    · obtain rfl : i = n := by omega
      exact h.2

/-- A region that draws, by a table. -/
theorem wp_region_tab {id : Nat} (base wr : List (Nat × Sp)) (uss : List (List Nat)) (n : Nat) (hn : ops.size = n) (hm : P.follows .mixedOrders = true) (hb : backB ops = true) (hu : usesB ops (fun i => uss.getD i []) = true) (t0 : Array Value) (hdst : dstB ops t0.size = true) (hwr : wrB ops wr = true)
    (w : World) (h0 : ∀ p ∈ base, p.2.holds (t0.getD p.1 undef) w.drew)
    (ob : Obs P ops Q (spR (base ++ wr)) t0.size [] uss w.drew n)
    (hQ : ∀ (t : Array Value) (w' : World), t.size = t0.size → Grow w.drew w' → (∀ d, spR (base ++ wr) d (t.getD d undef) w') → (∀ d, (ops.any fun o => o.dst == some d) = false → t.getD d undef = t0.getD d undef) → Q .normal ⟨t, []⟩ w') :
    (Code.region id ops true).wp P Q { tmps := t0, defers := [] } w := by
  have unw : ∀ d, (ops.any fun o => o.dst == some d) = false ↔ Unwritten ops d := by
    intro d
    rw [Array.any_eq_false]
    constructor
    · intro h i o ho e
      obtain ⟨hi, rfl⟩ := Array.getElem?_eq_some_iff.1 ho
      have := h i hi
      simp [e] at this
    · intro h i hi
      have := h i _ (Array.getElem?_eq_getElem hi)
      simpa using this
  refine wp_region_flow (spR (base ++ wr)) t0.size (fun i => uss.getD i []) hm hb hu hdst (spR_grow _) _ w rfl (fun i hi => Obs.get n ob i (by omega)) ?_ ?_
  · intro d hd
    unfold spR
    rw [lookup_append]
    cases h : base.lookup d with
    | some s => exact h0 _ (lookup_mem h)
    | none =>
      cases h2 : wr.lookup d with
      | none => trivial
      | some s =>
        exfalso
        have := List.all_eq_true.1 hwr _ (lookup_mem h2)
        rw [(unw d).2 hd] at this
        cases this
  · intro t w' hs hg hR hun
    exact hQ t w' hs hg hR fun d hd => hun d ((unw d).1 hd)
end
/-- A frame written out. -/
theorem frame_lit (t : Array Value) (n : Nat) (h : t.size = n) : t = ((List.range n).map fun i => t.getD i undef).toArray := by
  apply Array.ext
  · simp [h]
  · intro i h1 h2
    simp [h1]
end Go.Proofs.Ytkmhabbpndcnkaa
