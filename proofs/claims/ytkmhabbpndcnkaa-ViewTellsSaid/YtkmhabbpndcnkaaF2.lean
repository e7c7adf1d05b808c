/-
  PART: the flow of a region's data, by a table: one obligation an operation, whatever order is drawn; a guard may be unknown; blocks that the region stores into are told version by version.
-/
import Derived.Test.YtkmhabbpndcnkaaF1
namespace Go.Proofs.Ytkmhabbpndcnkaa
open Go.RowKit

/-- What was there is as it was, but for the blocks V. -/
structure Ch (V : List Nat) (w w' : World) : Prop where
  os : w'.os = w.os
  tape : w'.tape = w.tape
  output : w'.output = w.output
  size : w.heap.size ≤ w'.heap.size
  block : ∀ k, k < w.heap.size → k ∉ V → blkAt w' k = blkAt w k
theorem Ch.refl (V : List Nat) (w : World) : Ch V w w := ⟨rfl, rfl, rfl, Nat.le_refl _, fun _ _ _ => rfl⟩
theorem Ch.trans {V : List Nat} {a b c : World} (h : Ch V a b) (k : Ch V b c) : Ch V a c :=
  ⟨k.os.trans h.os, k.tape.trans h.tape, k.output.trans h.output, Nat.le_trans h.size k.size, fun i hi hv => (k.block i (Nat.lt_of_lt_of_le hi h.size) hv).trans (h.block i hi hv)⟩
theorem Grow.ch {V : List Nat} {w w' : World} (h : Grow w w') : Ch V w w' := ⟨h.os, h.tape, h.output, h.size, fun k hk _ => ba_below h k hk⟩
theorem Only.ch {V : List Nat} {b : Nat} {w w' : World} (h : Only b w w') (hb : b ∈ V) : Ch V w w' := ⟨h.os, h.tape, h.output, h.size, fun k hk hv => h.block k hk fun e => hv (e ▸ hb)⟩
theorem Ch.below {V : List Nat} {B : Nat} {w0 w w' : World} (h : Ch V w w') (hB : Below B w0 w) (hs : B ≤ w.heap.size) (hV : ∀ b ∈ V, B ≤ b) : Below B w0 w' :=
  hB.trans ⟨h.os, h.tape, h.output, h.size, fun k hk => h.block k (Nat.lt_of_lt_of_le hk hs) fun e => by have := hV k e; omega⟩
theorem Ch.grow {w w' : World} (h : Ch [] w w') : Grow w w' := ⟨h.os, h.tape, h.output, h.size, fun k hk => h.block k hk (by simp)⟩

/-- What a slot is to hold: anything; a value; a slice or a pointer whose cells are known; a value, if g. -/
inductive Sq where
  | any
  | val (v : Value)
  | slc (cs : Array Value) (n : Nat) (t : TypeId)
  | ptr (cs : Array Value) (t : TypeId)
  | opt (g : Bool) (v : Value)
def Sq.holds (V : List Nat) : Sq → Value → World → Prop
  | .any, _, _ => True
  | .val x, v, _ => v = x
  | .slc cs n t, v, w => ∃ b, v = .slice (some ⟨b, 0, none⟩) n n ∧ b < w.heap.size ∧ b ∉ V ∧ blkAt w b = some (.cells cs t (0, 0))
  | .ptr cs t, v, w => ∃ b, v = .pointer (some ⟨b, 0, none⟩) ∧ b < w.heap.size ∧ b ∉ V ∧ blkAt w b = some (.cells cs t (0, 0))
  | .opt g x, v, _ => g = true → v = x
theorem Sq.ch {V : List Nat} {s : Sq} {v : Value} {w w' : World} (h : s.holds V v w) (hg : Ch V w w') : s.holds V v w' := by
  cases s with
  | any => trivial
  | val x => exact h
  | slc cs n t =>
    obtain ⟨b, hv, hlt, hV, hb⟩ := h
    exact ⟨b, hv, Nat.lt_of_lt_of_le hlt hg.size, hV, (hg.block b hlt hV).trans hb⟩
  | ptr cs t =>
    obtain ⟨b, hv, hlt, hV, hb⟩ := h
    exact ⟨b, hv, Nat.lt_of_lt_of_le hlt hg.size, hV, (hg.block b hlt hV).trans hb⟩
  | opt g x => exact h
def sqR (V : List Nat) (tab : List (Nat × Sq)) (d : Nat) : Value → World → Prop := ((tab.lookup d).getD .any).holds V

theorem sqR_ch {V : List Nat} {tab : List (Nat × Sq)} (d : Nat) (v : Value) (w w' : World) (h : sqR V tab d v w) (hg : Ch V w w') : sqR V tab d v w' := Sq.ch h hg

/-- A block that the region stores into: its cells at first; which operations store, in order, and its cells behind each. -/
structure Vol where
  b : Nat
  t : TypeId
  c0 : Array Value
  ws : List (Nat × Array Value)
def Vol.cont (v : Vol) : Nat → Array Value
  | 0 => v.c0
  | j + 1 => match v.ws[j]? with | some x => x.2 | none => v.c0
def Vol.at (v : Vol) (j : Nat) (w : World) : Prop := blkAt w v.b = some (.cells (v.cont j) v.t (0, 0))
def volAt (vols : List Vol) (p : Nat × Nat) (w : World) : Prop := match vols[p.1]? with | some v => v.at p.2 w | none => True
/-- What an operation looks at: its guard's slot; slots as they were ahead of the region; slots that the region has written; blocks at a version; and which version it writes. -/
structure Nd where
  g : Option (Nat × Bool)
  ps : List Nat
  us : List Nat
  rs : List (Nat × Nat)
  x : Option (Nat × Nat)
/-- How an operation turns the world. -/
def Turn (vols : List Vol) : Option (Nat × Nat) → World → World → Prop
  | none => Grow
  | some (v, j) => match vols[v]? with | some x => fun w w' => Only x.b w w' ∧ x.at (j + 1) w' | none => Grow

/-- One operation: behind what it waits for, its slot's fact. -/
def Run (P : Program) (R : Nat → Value → World → Prop) (X : World → World → Prop) (o : Oper) (a : Act) (w : World) : Prop :=
  (∃ v w', (execOp a.eval o).run P w = .ok (.value v) w' ∧ X w w' ∧ ∀ d, o.dst = some d → R d v w') ∨
  (∃ w', (execOp a.eval o).run P w = .ok .skip w' ∧ X w w' ∧ ∀ d, o.dst = some d → R d undef w') ∨
  ∃ f args w', (execOp a.eval o).run P w = .ok (.enter f args) w' ∧ Calls P f args w' fun e w'' => ∃ v, e = .returned v ∧ X w w'' ∧ ∀ d, o.dst = some d → R d v w''
def Oo (P : Program) (R : Nat → Value → World → Prop) (vols : List Vol) (t0 : Array Value) (w0 : World) (o : Oper) (n : Nd) : Prop :=
  ∀ (a : Act) (w : World), Ch (vols.map (·.b)) w0 w → (∀ d ∈ n.ps, a.tmps.getD d undef = t0.getD d undef) → (∀ d ∈ n.us, R d (a.tmps.getD d undef) w) → (∀ p ∈ n.rs, volAt vols p w) →
    match n.g with
    | none => Run P R (Turn vols n.x) o a w
    | some (d, b) => ∃ c, a.tmps.getD d undef = .bool c ∧ (c = b → Run P R (Turn vols n.x) o a w) ∧ (c ≠ b → n.x = none ∧ ∀ d, o.dst = some d → R d undef w)
def ObsL (P : Program) (R : Nat → Value → World → Prop) (vols : List Vol) (t0 : Array Value) (w0 : World) : List Oper → List Nd → Prop
  | o :: os, n :: ns => Oo P R vols t0 w0 o n ∧ ObsL P R vols t0 w0 os ns
  | _, _ => True
def gOf (ops : Array Oper) (o : Oper) : Option (Option (Nat × Bool)) := match o.guard with
  | none => some none
  | some (j, b) => ((ops[j]?).bind (·.dst)).map fun d => some (d, b)
def afterB (ops : Array Oper) (i j : Nat) : Bool := match ops[i]? with
  | some o => o.after.toList.any fun e => Region.binds .any e && e.on == j
  | none => false
/-- Which version operation i writes. -/
def wOf (vols : List (List Nat)) (i : Nat) : Option (Nat × Nat) := (List.range vols.length).findSome? fun v => ((vols.getD v []).findIdx? (· == i)).map fun j => (v, j)
/-- What each region's table is checked for: vs: the storing operations of each block, in order. -/
def tabB (ops : Array Oper) (N : Nat) (wr : List (Nat × Sq)) (vs : List (List Nat)) (ns : List Nd) : Bool :=
  ops.toList.map (gOf ops) == ns.map (fun n => some n.g) && ns.length == ops.size && dstB ops N && wr.all (fun p => ops.any fun o => o.dst == some p.1) &&
  (List.range ops.size).all (fun i => ((ns[i]?).map (·.x)).getD none == wOf vs i) &&
  (List.range vs.length).all fun v => (List.range (vs.getD v []).length).all fun m => wOf vs ((vs.getD v []).getD m 0) == some (v, m)
def drawB (ops : Array Oper) (vs : List (List Nat)) (ns : List Nd) : Bool :=
  backB ops && usesB ops (fun i => ((ns[i]?).map (·.us)).getD []) &&
  (List.range ops.size).all (fun i => (((ns[i]?).map (·.ps)).getD []).all fun d => (List.range ops.size).all fun j => match ops[j]? with
    | some p => p.dst != some d || j == i || afterB ops j i
    | none => true) &&
  (List.range ops.size).all (fun i => (((ns[i]?).map (·.rs)).getD []).all fun p => 
    (match p.2 with | 0 => true | j + 1 => match (vs.getD p.1 [])[j]? with | some s => afterB ops i s | none => false) &&
    (match (vs.getD p.1 [])[p.2]? with | some s => s == i || afterB ops s i | none => true)) &&
  (List.range ops.size).all (fun i => match ((ns[i]?).map (·.x)).getD none with | some p => (((ns[i]?).map (·.rs)).getD []).contains p | none => true) &&
  vs.all fun l => (List.range l.length).all fun j => match l[j]?, l[j + 1]? with | some s, some s' => afterB ops s' s | _, _ => true
/-- In a region that goes in the text's order. -/
def seqB (ops : Array Oper) (vs : List (List Nat)) (ns : List Nd) : Bool :=
  (List.range ops.size).all (fun i => (((ns[i]?).map (·.us)).getD []).all fun d => (List.range ops.size).all fun j => match ops[j]? with
    | some p => p.dst != some d || decide (j < i)
    | none => true) &&
  (List.range ops.size).all (fun i => (((ns[i]?).map (·.ps)).getD []).all fun d => (List.range ops.size).all fun j => match ops[j]? with
    | some p => p.dst != some d || decide (i ≤ j)
    | none => true) &&
  (List.range ops.size).all (fun i => (((ns[i]?).map (·.rs)).getD []).all fun p => 
    (match p.2 with | 0 => true | j + 1 => match (vs.getD p.1 [])[j]? with | some s => decide (s < i) | none => false) &&
    (match (vs.getD p.1 [])[p.2]? with | some s => decide (i ≤ s) | none => true)) &&
  (List.range ops.size).all (fun i => match ((ns[i]?).map (·.x)).getD none with | some p => (((ns[i]?).map (·.rs)).getD []).contains p | none => true) &&
  vs.all fun l => (List.range l.length).all fun j => match l[j]?, l[j + 1]? with | some s, some s' => decide (s < s') | _, _ => true

section
variable {P : Program} {ops : Array Oper} {Q : Exit → Act → World → Prop} {R : Nat → Value → World → Prop} {vols : List Vol} {t0 : Array Value} {w0 : World} {o : Oper} {n : Nd}
theorem ObsL.get : ∀ {os : List Oper} {ns : List Nd}, ObsL P R vols t0 w0 os ns → ∀ (i : Nat) (o : Oper) (n : Nd), os[i]? = some o → ns[i]? = some n → Oo P R vols t0 w0 o n
  | o :: os, n :: ns, h, 0, o', n', h1, h2 => by
    cases h1; cases h2; exact h.1
  | o :: os, n :: ns, h, i + 1, o', n', h1, h2 => ObsL.get h.2 i o' n' h1 h2
  | [], _, _, _, _, _, h1, _ => by simp at h1
  | _ :: _, [], _, _, _, _, _, h2 => by simp at h2

theorem Run.ob {X : World → World → Prop} {a : Act} {w : World} {K : Act → World → Prop} (h : Run P R X o a w) (hK : ∀ v w', X w w' → (∀ d, o.dst = some d → R d v w') → K (a.put o.dst v) w') : o.wp P a w K Q := by
  unfold Oper.wp
  rcases h with ⟨v, w', h, hx, hd⟩ | ⟨w', h, hx, hd⟩ | ⟨f, args, w', h, hc⟩
  · rw [h]; exact hK v w' hx hd
  · rw [h]; exact hK _ w' hx hd
  · rw [h]
    refine Calls.mono hc fun e w'' he => ?_
    obtain ⟨v, rfl, hg, hv⟩ := he
    exact hK v w'' hg hv
theorem Run.value {a : Act} {w : World} {v : Value} (h : (execOp a.eval o).run P w = .ok (.value v) w) (hv : ∀ d, o.dst = some d → R d v w) : Run P R Grow o a w := .inl ⟨v, w, h, Grow.refl _, hv⟩
theorem Run.grows {X : World → World → Prop} {a : Act} {w w' : World} {v : Value} (h : (execOp a.eval o).run P w = .ok (.value v) w') (hg : X w w') (hv : ∀ d, o.dst = some d → R d v w') : Run P R X o a w := .inl ⟨v, w', h, hg, hv⟩
theorem Run.skips {X : World → World → Prop} {a : Act} {w w' : World} (h : (execOp a.eval o).run P w = .ok .skip w') (hg : X w w') (hv : ∀ d, o.dst = some d → R d undef w') : Run P R X o a w := .inr (.inl ⟨w', h, hg, hv⟩)
theorem Run.call {a : Act} {w : World} {f : FuncId} {args : Array Value} (h : (execOp a.eval o).run P w = .ok (.enter f args) w)
    (hc : Calls P f args w fun e w' => ∃ v, e = .returned v ∧ Grow w w' ∧ ∀ d, o.dst = some d → R d v w') : Run P R Grow o a w := .inr (.inr ⟨f, args, w, h, hc⟩)
/-- A guard that may be either. -/
theorem Oo.maybe {d : Nat} {b c : Bool} {ps us : List Nat} {rs : List (Nat × Nat)} (hm : d ∈ us) (hR : ∀ v w, R d v w → v = .bool c) (on : c = b → Oo P R vols t0 w0 o ⟨none, ps, us, rs, none⟩) (off : c ≠ b → ∀ e, o.dst = some e → ∀ w, R e undef w) :
    Oo P R vols t0 w0 o ⟨some (d, b), ps, us, rs, none⟩ :=
  fun a w hg hp hu hr => ⟨c, hR _ _ (hu d hm), fun h => on h a w hg hp hu hr, fun h => ⟨rfl, fun e he => off h e he w⟩⟩
theorem Oo.on {d : Nat} {b : Bool} {ps us : List Nat} {rs : List (Nat × Nat)} (hm : d ∈ us) (hR : ∀ v w, R d v w → v = .bool b) (on : Oo P R vols t0 w0 o ⟨none, ps, us, rs, none⟩) : Oo P R vols t0 w0 o ⟨some (d, b), ps, us, rs, none⟩ :=
  Oo.maybe hm hR (fun _ => on) fun h => absurd rfl h
theorem Oo.off {d : Nat} {b c : Bool} {ps us : List Nat} {rs : List (Nat × Nat)} (hm : d ∈ us) (hR : ∀ v w, R d v w → v = .bool c) (hne : c ≠ b) (off : ∀ e, o.dst = some e → ∀ w, R e undef w) : Oo P R vols t0 w0 o ⟨some (d, b), ps, us, rs, none⟩ :=
  Oo.maybe hm hR (fun h => absurd h hne) fun _ => off

theorem Oo.wpOp {i : Nat} {a : Act} {w : World} {K : Act → World → Prop} (h : Oo P R vols t0 w0 o n) (ho : ops[i]? = some o) (hgs : gOf ops o = some n.g) (hg : Ch (vols.map (·.b)) w0 w)
    (hp : ∀ d ∈ n.ps, a.tmps.getD d undef = t0.getD d undef) (hu : ∀ d ∈ n.us, R d (a.tmps.getD d undef) w) (hr : ∀ p ∈ n.rs, volAt vols p w) (hK : ∀ v w', Turn vols n.x w w' → (∀ d, o.dst = some d → R d v w') → K (a.put o.dst v) w') : wpOp P ops Q i K a w := by
  have h1 := h a w hg hp hu hr
  unfold Go.wpOp
  rw [ho]
  obtain ⟨g, ps, us, rs, x⟩ := n
  have hgs : gOf ops o = some g := hgs
  unfold gOf at hgs
  cases hgu : o.guard with
  | none =>
    rw [hgu] at hgs
    cases hgs
    have hw : Region.wanted o (yielded ops a.tmps) = true := by unfold Region.wanted; rw [hgu]
    simp only [hw, if_true]
    exact .inl (Run.ob h1 hK)
  | some q =>
    obtain ⟨j, b⟩ := q
    rw [hgu] at hgs
    change ((ops[j]?).bind (·.dst)).map (fun d => some (d, b)) = some g at hgs
    cases hj : (ops[j]?).bind (·.dst) with
    | none => rw [hj] at hgs; cases hgs
    | some d =>
      rw [hj] at hgs
      cases hgs
      obtain ⟨c, hc, hon, hoff⟩ := h1
      by_cases hcb : c = b
      · subst hcb
        simp only [wanted_yes hgu hj hc, if_true]
        exact .inl (Run.ob (hon rfl) hK)
      · simp only [wanted_no hgu hj hc hcb, Bool.false_eq_true, if_false]
        obtain ⟨hx, hd⟩ := hoff hcb
        have hx : x = none := hx
        subst hx
        exact hK undef w (Grow.refl _) hd

theorem Turn.ch {x : Option (Nat × Nat)} {w w' : World} (h : Turn vols x w w') : Ch (vols.map (·.b)) w w' := by
  cases x with
  | none => exact Grow.ch h
  | some p =>
    obtain ⟨v, j⟩ := p
    unfold Turn at h
    cases hv : vols[v]? with
    | none => simp only [hv] at h; exact Grow.ch h
    | some q =>
      simp only [hv] at h
      exact Only.ch h.1 (List.mem_map.2 ⟨q, List.mem_of_getElem? hv, rfl⟩)
theorem unw_iff (d : Nat) : (ops.any fun o => o.dst == some d) = false ↔ Unwritten ops d := by
  rw [Array.any_eq_false]
  constructor
  · intro h i o ho e
    obtain ⟨hi, rfl⟩ := Array.getElem?_eq_some_iff.1 ho
    have := h i hi
    simp [e] at this
  · intro h i hi
    have := h i _ (Array.getElem?_eq_getElem hi)
    simpa using this
theorem wr_holds {V : List Nat} {wr : List (Nat × Sq)} {v : Value} {w : World} (hwr : (wr.all fun p => ops.any fun o => o.dst == some p.1) = true) :
    ∀ d, Unwritten ops d → sqR V wr d v w := by
  intro d hd
  unfold sqR
  cases h2 : wr.lookup d with
  | none => trivial
  | some s =>
    exfalso
    have := List.all_eq_true.1 hwr _ (lookup_mem h2)
    rw [(unw_iff d).2 hd] at this
    cases this
theorem put_ne {a : Act} {dst : Option Nat} {v : Value} {d : Nat} (hne : dst ≠ some d) : (a.put dst v).tmps.getD d undef = a.tmps.getD d undef := by
  cases dst with
  | none => rfl
  | some k =>
    have : k ≠ d := fun e => hne (by rw [e])
    show (a.tmps.setIfInBounds k v).getD d undef = _
    simp [Array.getElem?_setIfInBounds_ne this]

/-- What holds amid a region, once the operations L have run. -/
structure Amid (ops : Array Oper) (R : Nat → Value → World → Prop) (vols : List Vol) (N : Nat) (D : List Deferred) (t0 : Array Value) (w0 : World) (L : Nat → Prop) (a : Act) (w : World) : Prop where
  ch : Ch (vols.map (·.b)) w0 w
  size : a.tmps.size = N
  defers : a.defers = D
  slot : ∀ d, (∀ i o, ops[i]? = some o → o.dst = some d → L i) → R d (a.tmps.getD d undef) w
  kept : ∀ d, (∀ i o, ops[i]? = some o → o.dst = some d → ¬ L i) → a.tmps.getD d undef = t0.getD d undef
  vol : ∀ (v : Nat) (x : Vol), vols[v]? = some x → x.b < w.heap.size ∧ ∃ j, j ≤ x.ws.length ∧ (∀ m s, m < j → (x.ws.map (·.1))[m]? = some s → L s) ∧ (∀ m s, j ≤ m → (x.ws.map (·.1))[m]? = some s → ¬ L s) ∧ x.at j w

theorem vs_get {vs : List (List Nat)} (hvs : vols.map (fun v => v.ws.map (·.1)) = vs) {v : Nat} {x : Vol} (hx : vols[v]? = some x) : vs.getD v [] = x.ws.map (·.1) := by
  subst hvs
  rw [List.getD_eq_getElem?_getD, List.getElem?_map, hx]; rfl

theorem Amid.step {V' : List Nat} (hV : vols.map (·.b) = V') {N : Nat} {D : List Deferred} {t0 : Array Value} {L : Nat → Prop} {a : Act} {w : World} {vs : List (List Nat)} (hvs : vols.map (fun v => v.ws.map (·.1)) = vs)
    (hR : ∀ d v w w', R d v w → Ch V' w w' → R d v w') (hnd : V'.Nodup) (hdst : dstB ops N = true) (huq : ((List.range vs.length).all fun v => (List.range (vs.getD v []).length).all fun m => wOf vs ((vs.getD v []).getD m 0) == some (v, m)) = true)
    (h : Amid ops R vols N D t0 w0 L a w) {i : Nat} (ho : ops[i]? = some o) (hn : Oo P R vols t0 w0 o n) (hgs : gOf ops o = some n.g) (hx : n.x = wOf vs i) (hL : ¬ L i)
    (hps : ∀ d ∈ n.ps, ∀ j p, ops[j]? = some p → p.dst = some d → ¬ L j)
    (hus : ∀ d ∈ n.us, ∀ j p, ops[j]? = some p → p.dst = some d → L j)
    (hrs : ∀ p ∈ n.rs, (∀ j, p.2 = j + 1 → ∃ s, (vs.getD p.1 [])[j]? = some s ∧ L s) ∧ ∀ s, (vs.getD p.1 [])[p.2]? = some s → ¬ L s)
    (hxr : ∀ p, n.x = some p → p ∈ n.rs)
    {K : Act → World → Prop} (hK : ∀ a' w', Amid ops R vols N D t0 w0 (fun j => L j ∨ j = i) a' w' → K a' w') : wpOp P ops Q i K a w := by
  have uq : ∀ v m, (vs.getD v [])[m]? = some i → wOf vs i = some (v, m) := by
    intro v m hm
    have hlt : m < (vs.getD v []).length := (List.getElem?_eq_some_iff.1 hm).1
    have hv : v < vs.length := by
      rcases Nat.lt_or_ge v vs.length with h | h
      · exact h
      · rw [List.getD_eq_getElem?_getD, List.getElem?_eq_none h] at hlt; simp at hlt
    have h1 := List.all_eq_true.1 huq v (List.mem_range.2 hv)
    have h2 := List.all_eq_true.1 h1 m (List.mem_range.2 hlt)
    have h3 : (vs.getD v []).getD m 0 = i := by rw [List.getD_eq_getElem?_getD, hm]; rfl
    rw [h3] at h2
    exact eq_of_beq h2
  have ver : ∀ p ∈ n.rs, ∀ x, vols[p.1]? = some x → ∀ j, j ≤ x.ws.length → (∀ m s, m < j → (x.ws.map (·.1))[m]? = some s → L s) → (∀ m s, j ≤ m → (x.ws.map (·.1))[m]? = some s → ¬ L s) → p.2 ≤ x.ws.length → j = p.2 := by
    intro p hp x hx' j hj h1 h2 hle
    obtain ⟨h3, h4⟩ := hrs p hp
    rw [vs_get hvs hx'] at h3 h4
    rcases Nat.lt_trichotomy j p.2 with hlt | he | hgt
    · exfalso
      obtain ⟨s, hs, hLs⟩ := h3 (p.2 - 1) (by omega)
      exact h2 (p.2 - 1) s (by omega) hs hLs
    · exact he
    · exfalso
      have hlt : p.2 < (x.ws.map (·.1)).length := by simp; omega
      exact h4 _ (List.getElem?_eq_getElem hlt) (h1 p.2 _ hgt (List.getElem?_eq_getElem hlt))
  have le : ∀ p ∈ n.rs, ∀ x, vols[p.1]? = some x → p.2 ≤ x.ws.length := by
    intro p hp x hx'
    obtain ⟨h3, _⟩ := hrs p hp
    rw [vs_get hvs hx'] at h3
    rcases hq : p.2 with _ | j
    · omega
    · obtain ⟨s, hs, _⟩ := h3 j hq
      have := (List.getElem?_eq_some_iff.1 hs).1
      simp at this; omega
  refine Oo.wpOp hn ho hgs h.ch (fun d hd => h.kept d fun j p hp hw => hps d hd j p hp hw) (fun d hd => h.slot d fun j p hp hw => hus d hd j p hp hw) ?_ ?_
  · intro p hp
    unfold volAt
    cases hx' : vols[p.1]? with
    | none => trivial
    | some x =>
      obtain ⟨_, j, hj, h1, h2, hat⟩ := h.vol _ _ hx'
      have := ver p hp x hx' j hj h1 h2 (le p hp x hx')
      subst this
      exact hat
  · intro v w' ht hv
    have hch := Turn.ch ht
    refine hK _ _ ⟨h.ch.trans hch, ?_, ?_, ?_, ?_, ?_⟩
    · cases hdst : o.dst with
      | none => exact h.size
      | some k => show (a.tmps.setIfInBounds k v).size = N; simpa using h.size
    · cases hdst : o.dst <;> exact h.defers
    · intro d hset
      by_cases hd1 : o.dst = some d
      · have hr := hv d hd1
        have hlt := dstB_spec hdst ho hd1
        have e : (a.put o.dst v).tmps.getD d undef = v := by
          rw [hd1]
          show (a.tmps.setIfInBounds d v).getD d undef = v
          have := h.size
          simp [show d < a.tmps.size by omega]
        rw [e]; exact hr
      · rw [put_ne hd1]
        refine hR d _ w w' (h.slot d fun j p hp hw => ?_) (hV ▸ hch)
        rcases hset j p hp hw with h1 | h1
        · exact h1
        · subst h1; rw [ho] at hp; cases hp; exact absurd hw hd1
    · intro d hun
      rw [put_ne fun hd1 => hun i o ho hd1 (.inr rfl)]
      exact h.kept d fun j p hp hw hc => hun j p hp hw (.inl hc)
    · intro v x hvx
      obtain ⟨hlt, j, hj, h1, h2, hat⟩ := h.vol v x hvx
      refine ⟨Nat.lt_of_lt_of_le hlt hch.size, ?_⟩
      by_cases hme : ∃ m, n.x = some (v, m)
      · obtain ⟨m, hm⟩ := hme
        have hp := hxr _ hm
        have hle := le _ hp x hvx
        have hjm : j = m := ver _ hp x hvx j hj h1 h2 hle
        subst hjm
        have him : (x.ws.map (·.1))[j]? = some i := by
          have hw : wOf vs i = some (v, j) := hx ▸ hm
          unfold wOf at hw
          obtain ⟨u, _, hu⟩ := List.exists_of_findSome?_eq_some hw
          rw [Option.map_eq_some_iff] at hu
          obtain ⟨q, hq, e⟩ := hu
          cases e
          rw [vs_get hvs hvx] at hq
          obtain ⟨hlt2, hb, _⟩ := List.findIdx?_eq_some_iff_getElem.1 hq
          rw [List.getElem?_eq_getElem hlt2]
          exact congrArg some (eq_of_beq hb)
        have hjl : j < x.ws.length := by
          have := (List.getElem?_eq_some_iff.1 him).1
          simpa using this
        refine ⟨j + 1, hjl, ?_, ?_, ?_⟩
        · intro k s hk hs
          rcases Nat.lt_or_ge k j with hkj | hkj
          · exact .inl (h1 k s hkj hs)
          · obtain rfl : k = j := by omega
            rw [him] at hs; cases hs; exact .inr rfl
        · intro k s hk hs hor
          rcases hor with hl | rfl
          · exact h2 k s (by omega) hs hl
          · have := uq v k (by rw [vs_get hvs hvx]; exact hs)
            rw [← hx, hm] at this
            cases this; omega
        · rw [hm] at ht
          unfold Turn at ht
          simp only [hvx] at ht
          exact ht.2
      · refine ⟨j, hj, fun k s hk hs => .inl (h1 k s hk hs), fun k s hk hs hor => ?_, ?_⟩
        · rcases hor with hl | rfl
          · exact h2 k s hk hs hl
          · have := uq v k (by rw [vs_get hvs hvx]; exact hs)
            rw [← hx] at this
            exact hme ⟨k, this⟩
        · unfold Vol.at at hat ⊢
          rw [← hat]
          cases hxx : n.x with
          | none =>
            rw [hxx] at ht
            exact ba_below ht x.b hlt
          | some p =>
            obtain ⟨v', m'⟩ := p
            rw [hxx] at ht
            unfold Turn at ht
            cases hv' : vols[v']? with
            | none => simp only [hv'] at ht; exact ba_below ht x.b hlt
            | some y =>
              simp only [hv'] at ht
              refine ht.1.block x.b hlt fun e => ?_
              have hvv : v ≠ v' := fun e2 => hme ⟨m', by rw [hxx, e2]⟩
              have hl1 : v < V'.length := by rw [← hV]; simp; exact (List.getElem?_eq_some_iff.1 hvx).1
              have hl2 : v' < V'.length := by rw [← hV]; simp; exact (List.getElem?_eq_some_iff.1 hv').1
              have e1 : V'[v]? = some x.b := by rw [← hV, List.getElem?_map, hvx]; rfl
              have e2 : V'[v']? = some y.b := by rw [← hV, List.getElem?_map, hv']; rfl
              rw [List.getElem?_eq_getElem hl1] at e1
              rw [List.getElem?_eq_getElem hl2] at e2
              have e3 : V'[v] = V'[v'] := (Option.some.inj e1).trans (e.trans (Option.some.inj e2).symm)
              rcases Nat.lt_trichotomy v v' with hl | hl | hl
              · exact List.pairwise_iff_getElem.1 hnd v v' hl1 hl2 hl e3
              · exact hvv hl
              · exact List.pairwise_iff_getElem.1 hnd v' v hl2 hl1 hl e3.symm

/-- What holds behind a region. -/
structure Past (ops : Array Oper) (wr : List (Nat × Sq)) (vols : List Vol) (t0 : Array Value) (w : World) (t : Array Value) (w' : World) : Prop where
  size : t.size = t0.size
  ch : Ch (vols.map (·.b)) w w'
  tab : ∀ d, sqR (vols.map (·.b)) wr d (t.getD d undef) w'
  kept : ∀ d, (ops.any fun o => o.dst == some d) = false → t.getD d undef = t0.getD d undef
  vol : ∀ x ∈ vols, x.b < w'.heap.size ∧ x.at x.ws.length w'
theorem Past.volAt {wr : List (Nat × Sq)} {w : World} {t : Array Value} {w' : World} (h : Past ops wr vols t0 w t w') {i : Nat} {x : Vol} (hx : vols[i]? = some x) : x.b < w'.heap.size ∧ x.at x.ws.length w' := h.vol x (List.mem_of_getElem? hx)
theorem Amid.past {wr : List (Nat × Sq)} {N : Nat} {D : List Deferred} {t0 : Array Value} {L : Nat → Prop} {t : Array Value} {w : World} (hN : t0.size = N) {vs : List (List Nat)} (hvs : vols.map (fun v => v.ws.map (·.1)) = vs)
    (hin : ∀ v m, m < (vs.getD v []).length → (vs.getD v []).getD m 0 < ops.size)
    (h : Amid ops (sqR (vols.map (·.b)) wr) vols N D t0 w0 L ⟨t, D⟩ w) (hL : ∀ i, i < ops.size → L i) : Past ops wr vols t0 w0 t w := by
  refine ⟨h.size.trans hN.symm, h.ch, fun d => h.slot d fun i o ho _ => hL i (Array.getElem?_eq_some_iff.1 ho).1, fun d hd => h.kept d fun i o ho hw => absurd hw ((unw_iff d).1 hd i o ho), fun x hx => ?_⟩
  obtain ⟨v, hvx⟩ := List.mem_iff_getElem?.1 hx
  obtain ⟨hlt, j, hj, h1, h2, hat⟩ := h.vol v x hvx
  refine ⟨hlt, ?_⟩
  rcases Nat.lt_or_ge j x.ws.length with hjl | hjl
  · exfalso
    have hl : j < (x.ws.map (·.1)).length := by simpa using hjl
    have hs : (x.ws.map (·.1))[j]? = some ((x.ws.map (·.1))[j]) := List.getElem?_eq_getElem hl
    refine h2 j _ (Nat.le_refl _) hs (hL _ ?_)
    have h3 := hin v j (by rw [vs_get hvs hvx]; exact hl)
    rw [vs_get hvs hvx, List.getD_eq_getElem?_getD, hs] at h3
    exact h3
  · obtain rfl : j = x.ws.length := by omega
    exact hat

theorem tabB_spec {N : Nat} {wr : List (Nat × Sq)} {vs : List (List Nat)} {ns : List Nd} (h : tabB ops N wr vs ns = true) :
    (∀ i o, ops[i]? = some o → ∃ n, ns[i]? = some n ∧ gOf ops o = some n.g ∧ n.x = wOf vs i) ∧ dstB ops N = true ∧ (wr.all fun p => ops.any fun o => o.dst == some p.1) = true ∧
    ((List.range vs.length).all fun v => (List.range (vs.getD v []).length).all fun m => wOf vs ((vs.getD v []).getD m 0) == some (v, m)) = true := by
  simp only [tabB, Bool.and_eq_true] at h
  obtain ⟨⟨⟨⟨⟨hgs, hl⟩, hdst⟩, hwr⟩, hx⟩, hu⟩ := h
  refine ⟨fun i o ho => ?_, hdst, hwr, hu⟩
  have hi : i < ops.size := (Array.getElem?_eq_some_iff.1 ho).1
  have h1 := congrArg (fun l => l[i]?) (eq_of_beq hgs)
  simp only [List.getElem?_map, Array.getElem?_toList, ho, Option.map_some] at h1
  have h2 := List.all_eq_true.1 hx i (List.mem_range.2 hi)
  cases hg : ns[i]? with
  | none => rw [hg] at h1; cases h1
  | some n =>
    rw [hg] at h1 h2
    exact ⟨n, rfl, Option.some.inj h1, eq_of_beq h2⟩

/-- A region that draws its order. -/
theorem wp_draw {id : Nat} (wr : List (Nat × Sq)) (vols : List Vol) (vs : List (List Nat)) (ns : List Nd) {D : List Deferred} {t0 : Array Value} {N : Nat} (hN : t0.size = N)
    (hm : P.follows .mixedOrders = true) (hb : tabB ops N wr vs ns = true) (hd : drawB ops vs ns = true) (hin : (List.range vs.length).all (fun v => (List.range (vs.getD v []).length).all fun m => decide ((vs.getD v []).getD m 0 < ops.size)) = true)
    (hvs : vols.map (fun v => v.ws.map (·.1)) = vs) (hnd : (vols.map (·.b)).Nodup)
    (w : World) (hv0 : ∀ x ∈ vols, x.b < w.heap.size ∧ x.at 0 w)
    (ob : ObsL P (sqR (vols.map (·.b)) wr) vols t0 w.drew ops.toList ns)
    (hQ : ∀ (t : Array Value) (w' : World), Past ops wr vols t0 w.drew t w' → Q .normal ⟨t, D⟩ w') :
    (Code.region id ops true).wp P Q { tmps := t0, defers := D } w := by
  obtain ⟨hns, hdst, hwr, huq⟩ := tabB_spec hb
  have hin' : ∀ v m, m < (vs.getD v []).length → (vs.getD v []).getD m 0 < ops.size := by
    intro v m hm
    have hv : v < vs.length := by
      rcases Nat.lt_or_ge v vs.length with h | h
      · exact h
      · rw [List.getD_eq_getElem?_getD, List.getElem?_eq_none h] at hm; simp at hm
    have h1 := List.all_eq_true.1 (List.all_eq_true.1 hin v (List.mem_range.2 hv)) m (List.mem_range.2 hm)
    simpa using h1
  simp only [drawB, Bool.and_eq_true] at hd
  obtain ⟨⟨⟨⟨⟨hback, huse⟩, hpre⟩, hrs⟩, hxr⟩, _⟩ := hd
  refine wp_region_any hm ?_
  have key : ∀ (fuel : Nat) (listed : Array Bool) (a : Act) (w1 : World), leftN listed ops.size ≤ fuel → listed.size = ops.size →
      (∀ i o, ops[i]? = some o → listed.getD i true = true → ∀ e ∈ o.after, Region.binds .any e = true → listed.getD e.on true = true) →
      Amid ops (sqR (vols.map (·.b)) wr) vols N D t0 w.drew (fun i => i < ops.size ∧ listed.getD i true = true) a w1 → wpAny P .any ops Q fuel listed a w1 := by
    have fin : ∀ (listed : Array Bool) (a : Act) (w1 : World), Region.ready .any ops listed = [] → Amid ops (sqR (vols.map (·.b)) wr) vols N D t0 w.drew (fun i => i < ops.size ∧ listed.getD i true = true) a w1 → Q .normal a w1 := by
      intro listed a w1 hr h
      obtain ⟨t, df⟩ := a
      have hd' : df = D := h.defers
      subst hd'
      exact hQ t w1 (Amid.past hN hvs hin' h fun i hi => ⟨hi, all_listed hback hr i hi⟩)
    intro fuel
    induction fuel with
    | zero =>
      intro listed a w1 hl _ _ h
      have hr : Region.ready .any ops listed = [] := by
        rw [List.eq_nil_iff_forall_not_mem]
        intro i hi
        obtain ⟨h0, o, ho, _⟩ := mem_ready.1 hi
        have := left_set (Array.getElem?_eq_some_iff.1 ho).1 h0
        omega
      exact ⟨hr, fin listed a w1 hr h⟩
    | succ fuel ih =>
      intro listed a w1 hl hsz hcl h
      refine ⟨fun hr => fin listed a w1 hr h, fun i hi => ?_⟩
      obtain ⟨h0, o, ho, hall⟩ := mem_ready.1 hi
      have hi' : i < ops.size := (Array.getElem?_eq_some_iff.1 ho).1
      have hlis : ∀ e ∈ o.after, Region.binds .any e = true → e.on < ops.size ∧ listed.getD e.on true = true := by
        intro e he hbi
        have hlt := backB_spec hback ho e he hbi
        have h1 := hall e he hbi
        have : e.on < listed.size := by omega
        refine ⟨by omega, ?_⟩
        simp [this] at h1 ⊢
        exact h1
      have haft : ∀ j, afterB ops i j = true → j < ops.size ∧ listed.getD j true = true := by
        intro j hj
        unfold afterB at hj
        rw [ho] at hj
        obtain ⟨e, he, h2⟩ := List.any_eq_true.1 hj
        simp only [Bool.and_eq_true, beq_iff_eq] at h2
        obtain ⟨h3, rfl⟩ := h2
        exact hlis e (by simpa using he) h3
      obtain ⟨n, hni, hgo, hx⟩ := hns i o ho
      refine Amid.step rfl hvs sqR_ch hnd hdst huq h ho (ObsL.get ob i o n (by simpa using ho) hni) hgo hx (fun hc => by rw [hc.2] at h0; cases h0) ?_ ?_ ?_ ?_ ?_
      · intro d hdp j p hp hw hc
        have h1 := List.all_eq_true.1 hpre i (List.mem_range.2 hi')
        rw [hni] at h1
        have h2 := List.all_eq_true.1 (List.all_eq_true.1 h1 d hdp) j (List.mem_range.2 hc.1)
        rw [hp] at h2
        simp only [hw, bne_self_eq_false, Bool.false_or, Bool.or_eq_true, beq_iff_eq] at h2
        rcases h2 with rfl | h3
        · rw [hc.2] at h0; cases h0
        · unfold afterB at h3
          rw [hp] at h3
          obtain ⟨e, he, h4⟩ := List.any_eq_true.1 h3
          simp only [Bool.and_eq_true, beq_iff_eq] at h4
          obtain ⟨h5, rfl⟩ := h4
          have := hcl j p hp hc.2 e (by simpa using he) h5
          rw [this] at h0; cases h0
      · intro d hdu j p hp hw
        obtain ⟨e, he, hbi, rfl⟩ := usesB_spec huse ho (show d ∈ ((ns[i]?).map (·.us)).getD [] by rw [hni]; exact hdu) hp hw
        exact hlis e he hbi
      · intro p hp
        have h1 := List.all_eq_true.1 hrs i (List.mem_range.2 hi')
        rw [hni] at h1
        have h2 := List.all_eq_true.1 h1 p hp
        simp only [Bool.and_eq_true] at h2
        refine ⟨fun j hj => ?_, fun s hs => ?_⟩
        · have h3 := h2.1
          rw [hj] at h3
          simp only [] at h3
          cases hq : (vs.getD p.1 [])[j]? with
          | none => rw [hq] at h3; cases h3
          | some s => rw [hq] at h3; exact ⟨s, rfl, haft s h3⟩
        · have h3 := h2.2
          rw [hs] at h3
          simp only [Bool.or_eq_true, beq_iff_eq] at h3
          rintro ⟨hs1, hs2⟩
          rcases h3 with rfl | h3
          · rw [hs2] at h0; cases h0
          · unfold afterB at h3
            cases ho2 : ops[s]? with
            | none => rw [ho2] at h3; cases h3
            | some o2 =>
              rw [ho2] at h3
              obtain ⟨e, he, h4⟩ := List.any_eq_true.1 h3
              simp only [Bool.and_eq_true, beq_iff_eq] at h4
              obtain ⟨h5, rfl⟩ := h4
              have := hcl s o2 ho2 hs2 e (by simpa using he) h5
              rw [this] at h0; cases h0
      · intro p hp
        have h1 := List.all_eq_true.1 hxr i (List.mem_range.2 hi')
        rw [hni] at h1
        simp only [Option.map_some, Option.getD_some, hp] at h1
        simpa using h1
      · intro a' w' h'
        have hli : i < listed.size := by omega
        refine ih _ a' w' ?_ (by simpa using hsz) ?_ ?_
        · have := left_set hi' h0; omega
        · intro k o' hk hkl e he hbi
          by_cases hik : i = k
          · subst hik
            rw [ho] at hk; cases hk
            have h1 := (hlis e he hbi).2
            by_cases hie : i = e.on
            · rw [← hie]; simp [hli]
            · rw [getD_set_ne true hie]; exact h1
          · rw [getD_set_ne true hik] at hkl
            have h1 := hcl k o' hk hkl e he hbi
            by_cases hie : i = e.on
            · rw [← hie]; simp [hli]
            · rw [getD_set_ne true hie]; exact h1
        · have hiff : ∀ k, ((k < ops.size ∧ listed.getD k true = true) ∨ k = i) ↔ (k < ops.size ∧ (listed.setIfInBounds i true).getD k true = true) := by
            intro k
            by_cases hik : i = k
            · subst hik; simp [hli, hi']
            · rw [getD_set_ne true hik]
              constructor
              · rintro (h1 | h1)
                · exact h1
                · exact absurd h1.symm hik
              · exact fun h1 => .inl h1
          refine ⟨h'.ch, h'.size, h'.defers, fun d hd => h'.slot d fun k o' hk hw => (hiff k).2 (hd k o' hk hw), fun d hd => h'.kept d fun k o' hk hw hc => hd k o' hk hw ((hiff k).1 hc), fun v x hvx => ?_⟩
          obtain ⟨hlt, j, hj, h1, h2, hat⟩ := h'.vol v x hvx
          exact ⟨hlt, j, hj, fun m s hm hs => (hiff s).1 (h1 m s hm hs), fun m s hm hs hc => h2 m s hm hs ((hiff s).2 hc), hat⟩
  refine key ops.size (Array.replicate ops.size false) _ w.drew ?_ (by simp) ?_ ?_
  · unfold leftN
    have := List.countP_le_length (p := fun i => !(Array.replicate ops.size false).getD i true) (l := List.range ops.size)
    simpa using this
  · intro i o ho hl
    have hi : i < ops.size := (Array.getElem?_eq_some_iff.1 ho).1
    simp [hi] at hl
  · refine ⟨Ch.refl _ _, hN, rfl, fun d hd => wr_holds hwr d fun i o ho hw => ?_, fun _ _ => rfl, fun v x hvx => ?_⟩
    · obtain ⟨hi, hl⟩ := hd i o ho hw
      simp [hi] at hl
    · obtain ⟨h1, h2⟩ := hv0 x (List.mem_of_getElem? hvx)
      refine ⟨h1, 0, Nat.zero_le _, fun m s hm => absurd hm (Nat.not_lt_zero _), fun m s _ _ hc => ?_, h2⟩
      obtain ⟨hi, hl⟩ := hc
      simp [hi] at hl

/-- A region that goes in the text's order. -/
theorem wp_seqr {id : Nat} (wr : List (Nat × Sq)) (vols : List Vol) (vs : List (List Nat)) (ns : List Nd) {D : List Deferred} {t0 : Array Value} {N : Nat} (hN : t0.size = N)
    (hb : tabB ops N wr vs ns = true) (hd : seqB ops vs ns = true) (hin : (List.range vs.length).all (fun v => (List.range (vs.getD v []).length).all fun m => decide ((vs.getD v []).getD m 0 < ops.size)) = true)
    (hvs : vols.map (fun v => v.ws.map (·.1)) = vs) (hnd : (vols.map (·.b)).Nodup)
    (w : World) (hv0 : ∀ x ∈ vols, x.b < w.heap.size ∧ x.at 0 w)
    (ob : ObsL P (sqR (vols.map (·.b)) wr) vols t0 w ops.toList ns)
    (hQ : ∀ (t : Array Value) (w' : World), Past ops wr vols t0 w t w' → Q .normal ⟨t, D⟩ w') :
    (Code.region id ops false).wp P Q { tmps := t0, defers := D } w := by
  obtain ⟨hns, hdst, hwr, huq⟩ := tabB_spec hb
  have hin' : ∀ v m, m < (vs.getD v []).length → (vs.getD v []).getD m 0 < ops.size := by
    intro v m hm
    have hv : v < vs.length := by
      rcases Nat.lt_or_ge v vs.length with h | h
      · exact h
      · rw [List.getD_eq_getElem?_getD, List.getElem?_eq_none h] at hm; simp at hm
    have h1 := List.all_eq_true.1 (List.all_eq_true.1 hin v (List.mem_range.2 hv)) m (List.mem_range.2 hm)
    simpa using h1
  simp only [seqB, Bool.and_eq_true] at hd
  obtain ⟨⟨⟨⟨huse, hpre⟩, hrs⟩, hxr⟩, _⟩ := hd
  refine wp_region ?_
  rw [List.range_eq_range']
  have key : ∀ (m i : Nat) (a : Act) (w1 : World), i + m = ops.size → Amid ops (sqR (vols.map (·.b)) wr) vols N D t0 w (fun k => k < i) a w1 → wpOps P ops Q (List.range' i m) a w1 := by
    intro m
    induction m with
    | zero =>
      intro i a w1 hi h
      obtain ⟨t, df⟩ := a
      have hd' : df = D := h.defers
      subst hd'
      exact hQ t w1 (Amid.past hN hvs hin' h fun k hk => by omega)
    | succ m ih =>
      intro i a w1 hi h
      rw [List.range'_succ, wpOps_cons]
      have hi' : i < ops.size := by omega
      obtain ⟨o, ho⟩ : ∃ o, ops[i]? = some o := ⟨ops[i], Array.getElem?_eq_getElem hi'⟩
      obtain ⟨n, hni, hgo, hx⟩ := hns i o ho
      refine Amid.step rfl hvs sqR_ch hnd hdst huq h ho (ObsL.get ob i o n (by simpa using ho) hni) hgo hx (Nat.lt_irrefl _) ?_ ?_ ?_ ?_ ?_
      · intro d hdp j p hp hw hc
        have h1 := List.all_eq_true.1 hpre i (List.mem_range.2 hi')
        rw [hni] at h1
        have h2 := List.all_eq_true.1 (List.all_eq_true.1 h1 d hdp) j (List.mem_range.2 (Array.getElem?_eq_some_iff.1 hp).1)
        rw [hp] at h2
        have : i ≤ j := by simpa [hw] using h2
        omega
      · intro d hdu j p hp hw
        have h1 := List.all_eq_true.1 huse i (List.mem_range.2 hi')
        rw [hni] at h1
        have h2 := List.all_eq_true.1 h1 d hdu
        have h3 := List.all_eq_true.1 h2 j (List.mem_range.2 (Array.getElem?_eq_some_iff.1 hp).1)
        rw [hp] at h3
        simpa [hw] using h3
      · intro p hp
        have h1 := List.all_eq_true.1 hrs i (List.mem_range.2 hi')
        rw [hni] at h1
        have h2 := List.all_eq_true.1 h1 p hp
        simp only [Bool.and_eq_true] at h2
        refine ⟨fun j hj => ?_, fun s hs => ?_⟩
        · have h3 := h2.1
          rw [hj] at h3
          simp only [] at h3
          cases hq : (vs.getD p.1 [])[j]? with
          | none => rw [hq] at h3; cases h3
          | some s => rw [hq] at h3; exact ⟨s, rfl, by simpa using h3⟩
        · have h3 := h2.2
          rw [hs] at h3
          have : i ≤ s := by simpa using h3
          omega
      · intro p hp
        have h1 := List.all_eq_true.1 hxr i (List.mem_range.2 hi')
        rw [hni] at h1
        simp only [Option.map_some, Option.getD_some, hp] at h1
        simpa using h1
      · intro a' w' h'
        refine ih (i + 1) a' w' (by omega) ?_
        have hiff : ∀ k, (k < i ∨ k = i) ↔ k < i + 1 := by intro k; omega
        refine ⟨h'.ch, h'.size, h'.defers, fun d hd => h'.slot d fun k o' hk hw => (hiff k).2 (hd k o' hk hw), fun d hd => h'.kept d fun k o' hk hw hc => hd k o' hk hw ((hiff k).1 hc), fun v x hvx => ?_⟩
        obtain ⟨hlt, j, hj, h1, h2, hat⟩ := h'.vol v x hvx
        exact ⟨hlt, j, hj, fun m s hm hs => (hiff s).1 (h1 m s hm hs), fun m s hm hs hc => h2 m s hm hs ((hiff s).2 hc), hat⟩
  refine key ops.size 0 _ w (by omega) ⟨Ch.refl _ _, hN, rfl, fun d hd => wr_holds hwr d fun i o ho hw => absurd (hd i o ho hw) (Nat.not_lt_zero _), fun _ _ => rfl, fun v x hvx => ?_⟩
  obtain ⟨h1, h2⟩ := hv0 x (List.mem_of_getElem? hvx)
  exact ⟨h1, 0, Nat.zero_le _, fun m s hm => absurd hm (Nat.not_lt_zero _), fun m s _ _ hc => absurd hc (Nat.not_lt_zero _), h2⟩
end
end Go.Proofs.Ytkmhabbpndcnkaa
