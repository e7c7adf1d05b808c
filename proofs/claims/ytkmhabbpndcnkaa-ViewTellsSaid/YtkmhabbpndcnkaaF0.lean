/-
  PART: a region that draws its order, by the flow of its data: each operation is shown ONCE, from what the operations that it waits for have left; whatever order is drawn, all slots then hold what was said of them.
-/
import Derived.Orders
import Derived.Below
namespace Go.Proofs.Ytkmhabbpndcnkaa
open Go.RowKit

/-- What was there is as it was. -/
def Grow (w w' : World) : Prop := Below w.heap.size w w'
theorem Grow.refl (w : World) : Grow w w := Below.refl _ _
theorem Grow.trans {a b c : World} (h : Grow a b) (k : Grow b c) : Grow a c := Below.trans h (Below.mono k h.size)

/-- Nobody in the region writes the slot. -/
def Unwritten (ops : Array Oper) (d : Nat) : Prop := ∀ (i : Nat) (o : Oper), ops[i]? = some o → o.dst ≠ some d
/-- Every edge leads back. -/
def backB (ops : Array Oper) : Bool := (List.range ops.size).all fun i => match ops[i]? with
  | some o => o.after.all fun e => !Region.binds .any e || decide (e.on < i)
  | none => true
/-- Whatever operation i looks at is written, if at all in the region, by operations that i waits for. -/
def usesB (ops : Array Oper) (uses : Nat → List Nat) : Bool := (List.range ops.size).all fun i => match ops[i]? with
  | some o => (uses i).all fun d => (List.range ops.size).all fun j => match ops[j]? with
    | some p => if p.dst == some d then o.after.toList.any fun e => Region.binds .any e && e.on == j else true
    | none => true
  | none => true
theorem backB_spec {ops : Array Oper} (h : backB ops = true) {i : Nat} {o : Oper} (ho : ops[i]? = some o) : ∀ e ∈ o.after, Region.binds .any e = true → e.on < i := by
  have hi : i < ops.size := (Array.getElem?_eq_some_iff.1 ho).1
  have := List.all_eq_true.1 h i (List.mem_range.2 hi)
  rw [ho] at this
  intro e he hb
  have h2 := (Array.all_eq_true_iff_forall_mem.1 this) e he
  simpa [hb] using h2
theorem usesB_spec {ops : Array Oper} {uses : Nat → List Nat} (h : usesB ops uses = true) {i j d : Nat} {o p : Oper} (ho : ops[i]? = some o) (hd : d ∈ uses i) (hp : ops[j]? = some p) (hw : p.dst = some d) :
    ∃ e ∈ o.after, Region.binds .any e = true ∧ e.on = j := by
  have hi : i < ops.size := (Array.getElem?_eq_some_iff.1 ho).1
  have hj : j < ops.size := (Array.getElem?_eq_some_iff.1 hp).1
  have := List.all_eq_true.1 h i (List.mem_range.2 hi)
  rw [ho] at this
  have := List.all_eq_true.1 this d hd
  have := List.all_eq_true.1 this j (List.mem_range.2 hj)
  rw [hp] at this
  simp only [hw, beq_self_eq_true, if_true] at this
  obtain ⟨e, he, h2⟩ := List.any_eq_true.1 this
  simp only [Bool.and_eq_true, beq_iff_eq] at h2
  exact ⟨e, by simpa using he, h2.1, h2.2⟩
/-- Every slot that is written is one of the frame's. -/
def dstB (ops : Array Oper) (N : Nat) : Bool := (List.range ops.size).all fun i => match ops[i]? with
  | some o => match o.dst with
    | some d => decide (d < N)
    | none => true
  | none => true
theorem dstB_spec {ops : Array Oper} {N : Nat} (h : dstB ops N = true) {i d : Nat} {o : Oper} (ho : ops[i]? = some o) (hd : o.dst = some d) : d < N := by
  have hi : i < ops.size := (Array.getElem?_eq_some_iff.1 ho).1
  have := List.all_eq_true.1 h i (List.mem_range.2 hi)
  rw [ho] at this
  simpa [hd] using this

def leftN (listed : Array Bool) (n : Nat) : Nat := (List.range n).countP fun i => !listed.getD i true
theorem countP_lt {α : Type} (p q : α → Bool) (l : List α) (h : ∀ x ∈ l, q x = true → p x = true) (y : α) (hy : y ∈ l) (hp : p y = true) (hq : q y = false) : l.countP q < l.countP p := by
  induction l with
  | nil => cases hy
  | cons x l ih =>
    have hle : l.countP q ≤ l.countP p := List.countP_mono_left (fun z hz hz' => h z (List.mem_cons_of_mem _ hz) hz')
    rw [List.countP_cons, List.countP_cons]
    rcases List.mem_cons.1 hy with rfl | hy'
    · rw [hp, hq]; simp; omega
    · have := ih (fun z hz => h z (List.mem_cons_of_mem _ hz)) hy'
      by_cases hx : q x = true
      · rw [hx, h x List.mem_cons_self hx]; simp; omega
      · cases hpx : p x <;> simp [hx] <;> omega
theorem left_set {listed : Array Bool} {n i : Nat} (hi : i < n) (h0 : listed.getD i true = false) : leftN (listed.setIfInBounds i true) n < leftN listed n := by
  unfold leftN
  have hlt : i < listed.size := by
    rcases Nat.lt_or_ge i listed.size with h | h
    · exact h
    · simp [Array.getElem?_eq_none h] at h0
  refine countP_lt _ _ _ ?_ i (List.mem_range.2 hi) (by simp [h0]) (by simp [hlt])
  intro x _ hx
  by_cases e : i = x
  · subst e; simp [hlt] at hx
  · rw [getD_set_ne true e] at hx; exact hx
theorem all_listed {ops : Array Oper} (hb : backB ops = true) {listed : Array Bool} (hr : Region.ready .any ops listed = []) : ∀ i, i < ops.size → listed.getD i true = true := by
  intro i
  induction i using Nat.strongRecOn with
  | _ i ih =>
    intro hi
    cases h : listed.getD i true
    · exfalso
      have hm : i ∈ Region.ready .any ops listed := by
        rw [mem_ready]
        refine ⟨h, ops[i], Array.getElem?_eq_getElem hi, fun e he hbi => ?_⟩
        have hlt := backB_spec hb (Array.getElem?_eq_getElem hi) e he hbi
        have h1 := ih e.on hlt (by omega)
        have hli : i < listed.size := by
          rcases Nat.lt_or_ge i listed.size with h' | h'
          · exact h'
          · simp [Array.getElem?_eq_none h'] at h
        have : e.on < listed.size := by omega
        simp [this] at h1 ⊢
        exact h1
      rw [hr] at hm; cases hm
    · rfl

section
variable {P : Program} {ops : Array Oper} {Q : Exit → Act → World → Prop}
/-- What one operation is to show: from what it waits for, its own slot's fact; the world has only grown. -/
def Ob (P : Program) (ops : Array Oper) (Q : Exit → Act → World → Prop) (R : Nat → Value → World → Prop) (N : Nat) (D : List Deferred) (us : List Nat) (i : Nat) (w0 : World) : Prop :=
  ∀ (o : Oper), ops[i]? = some o → ∀ (a : Act) (w : World), Grow w0 w → a.tmps.size = N → a.defers = D → (∀ d ∈ us, R d (a.tmps.getD d undef) w) →
    wpOp P ops Q i (fun a' w' => Grow w w' ∧ ∃ v, a' = a.put o.dst v ∧ ∀ d, o.dst = some d → R d v w') a w

theorem flow_any (R : Nat → Value → World → Prop) (N : Nat) (D : List Deferred) (uses : Nat → List Nat) (hb : backB ops = true) (hu : usesB ops uses = true) (hdst : dstB ops N = true)
    (hR : ∀ d v w w', R d v w → Grow w w' → R d v w') (t0 : Array Value) (w0 : World)
    (ob : ∀ i, i < ops.size → Ob P ops Q R N D (uses i) i w0)
    (hQ : ∀ (t : Array Value) (w' : World), t.size = N → Grow w0 w' → (∀ d, R d (t.getD d undef) w') → (∀ d, Unwritten ops d → t.getD d undef = t0.getD d undef) → Q .normal ⟨t, D⟩ w') :
    ∀ (fuel : Nat) (listed : Array Bool) (a : Act) (w : World), leftN listed ops.size ≤ fuel → listed.size = ops.size → Grow w0 w → a.tmps.size = N → a.defers = D →
      (∀ d, (∀ i o, ops[i]? = some o → o.dst = some d → listed.getD i true = true) → R d (a.tmps.getD d undef) w) → (∀ d, Unwritten ops d → a.tmps.getD d undef = t0.getD d undef) →
      wpAny P .any ops Q fuel listed a w := by
  have fin : ∀ (listed : Array Bool) (a : Act) (w : World), Region.ready .any ops listed = [] → Grow w0 w → a.tmps.size = N → a.defers = D →
      (∀ d, (∀ i o, ops[i]? = some o → o.dst = some d → listed.getD i true = true) → R d (a.tmps.getD d undef) w) → (∀ d, Unwritten ops d → a.tmps.getD d undef = t0.getD d undef) → Q .normal a w := by
    intro listed a w hr hg hn hd hs hun
    obtain ⟨t, df⟩ := a
    have hd' : df = D := hd
    subst hd'
    exact hQ t w hn hg (fun d => hs d fun i o ho _ => all_listed hb hr i (Array.getElem?_eq_some_iff.1 ho).1) hun
  intro fuel
  induction fuel with
  | zero =>
    intro listed a w hl _ hg hn hd hs hun
    have hr : Region.ready .any ops listed = [] := by
      rw [List.eq_nil_iff_forall_not_mem]
      intro i hi
      obtain ⟨h0, o, ho, _⟩ := mem_ready.1 hi
      have := left_set (Array.getElem?_eq_some_iff.1 ho).1 h0
      omega
    exact ⟨hr, fin listed a w hr hg hn hd hs hun⟩
  | succ fuel ih =>
    intro listed a w hl hsz hg hn hd hs hun
    refine ⟨fun hr => fin listed a w hr hg hn hd hs hun, fun i hi => ?_⟩
    obtain ⟨h0, o, ho, hall⟩ := mem_ready.1 hi
    have hi' : i < ops.size := (Array.getElem?_eq_some_iff.1 ho).1
    have hli : i < listed.size := by omega
    refine wpOp_mono ?_ (ob i hi' o ho a w hg hn hd fun d hdu => hs d fun j p hp hw => ?_)
    · rintro a' w' ⟨hgr, v, rfl, hv⟩
      have hput : ∀ d, o.dst ≠ some d → (a.put o.dst v).tmps.getD d undef = a.tmps.getD d undef := by
        intro d hne
        cases hdst : o.dst with
        | none => rfl
        | some k =>
          have : k ≠ d := fun e => hne (by rw [hdst, e])
          show (a.tmps.setIfInBounds k v).getD d undef = _
          simp [Array.getElem?_setIfInBounds_ne this]
      refine ih (listed.setIfInBounds i true) (a.put o.dst v) w' ?_ (by simpa using hsz) (hg.trans hgr) ?_ ?_ ?_ ?_
      · have := left_set hi' h0; omega
      · cases hdst : o.dst with
        | none => exact hn
        | some k => show (a.tmps.setIfInBounds k v).size = N; simpa using hn
      · cases hdst : o.dst <;> exact hd
      · intro d hset
        by_cases hd1 : o.dst = some d
        · have hr := hv d hd1
          have hlt := dstB_spec hdst ho hd1
          have e : (a.put o.dst v).tmps.getD d undef = v := by
            rw [hd1]
            show (a.tmps.setIfInBounds d v).getD d undef = v
            simp [show d < a.tmps.size by omega]
          rw [e]; exact hr
        · rw [hput d hd1]
          refine hR d _ w w' (hs d fun j p hp hw => ?_) hgr
          have h1 := hset j p hp hw
          have hne : i ≠ j := fun e => by subst e; rw [ho] at hp; cases hp; exact hd1 hw
          rw [getD_set_ne true hne] at h1
          exact h1
      · intro d hunw
        rw [hput d (hunw i o ho)]
        exact hun d hunw
    · obtain ⟨e, he, hbi, rfl⟩ := usesB_spec hu ho hdu hp hw
      have h1 := hall e he hbi
      have : e.on < listed.size := by
        rcases Nat.lt_or_ge e.on listed.size with h' | h'
        · exact h'
        · simp [Array.getElem?_eq_none h'] at h1
      simp [this] at h1 ⊢
      exact h1

/-- A region that draws, by the flow of its data. -/
theorem wp_region_flow {id : Nat} (R : Nat → Value → World → Prop) (N : Nat) (uses : Nat → List Nat) (hm : P.follows .mixedOrders = true) (hb : backB ops = true) (hu : usesB ops uses = true) (hdst : dstB ops N = true)
    (hR : ∀ d v w w', R d v w → Grow w w' → R d v w') (a : Act) (w : World) (hN : a.tmps.size = N)
    (ob : ∀ i, i < ops.size → Ob P ops Q R N a.defers (uses i) i w.drew)
    (h0 : ∀ d, Unwritten ops d → R d (a.tmps.getD d undef) w.drew)
    (hQ : ∀ (t : Array Value) (w' : World), t.size = N → Grow w.drew w' → (∀ d, R d (t.getD d undef) w') → (∀ d, Unwritten ops d → t.getD d undef = a.tmps.getD d undef) → Q .normal ⟨t, a.defers⟩ w') :
    (Code.region id ops true).wp P Q a w := by
  refine wp_region_any hm ?_
  refine flow_any R N a.defers uses hb hu hdst hR a.tmps w.drew ob hQ ops.size (Array.replicate ops.size false) a w.drew ?_ (by simp) (Grow.refl _) hN rfl ?_ (fun _ _ => rfl)
  · unfold leftN
    have := List.countP_le_length (p := fun i => !(Array.replicate ops.size false).getD i true) (l := List.range ops.size)
    simpa using this
  · intro d hset
    refine h0 d fun i o ho hd => ?_
    have h := hset i o ho hd
    have hi : i < ops.size := (Array.getElem?_eq_some_iff.1 ho).1
    simp [hi] at h
end
end Go.Proofs.Ytkmhabbpndcnkaa
