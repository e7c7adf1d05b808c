/-
  PART: what abstract values and states say of a world.
-/
import Derived.Test.YtdlghljhgbakjaaDoorEN1
import Derived.Below
import Derived.CallsIn
namespace Go.Proofs.YtdlghljhgbakjaaDoor
open Go.RowKit

/-- How names are read: where tracked blocks lie, which are none (an owned row that is nil), their capacities and lengths; blocks that stay as they are. -/
structure Env where
  ρ : Nat → Nat
  dom : Nat → Prop
  vir : Nat → Bool
  cp : Nat → Nat
  ln : Nat → Nat
  fz : Nat → Option (Array Value)
  gok : ∀ g c, GM g = some c → fz g = some c
def One (l : List Value) : Prop := ∀ v ∈ l, one1 v = true
mutual
inductive Rep (E : Env) : AV → Value → Prop
  | lit (v : Value) (h : one1 v = true) : Rep E (.lit v) v
  | v (v : Value) (h : one1 v = true) : Rep E (.v v) v
  | agg {l : List AV} {cs : Array Value} (h : Reps E l cs.toList) (ho : One cs.toList) : Rep E (.agg l) (.agg cs)
  | tup {l : List AV} {cs : Array Value} (h : Reps E l cs.toList) : Rep E (.tup l) (.tuple cs)
  | ptr {x off : Nat} (h : E.dom x) : Rep E (.ptr x off) (.pointer (some ⟨E.ρ x, off, none⟩))
  | pti {x base str n off : Nat} {i : Int} (h : E.dom x) (h0 : 0 ≤ i) (h1 : i < (n : Int)) : Rep E (.pti x base i str n off) (.pointer (some ⟨E.ρ x, base + i.toNat * str + off, none⟩))
  | pe {x i k off : Nat} {il : Bool} (h : E.dom x) : Rep E (.pe x i k off il) (.pointer (some ⟨E.ρ x, i * k + off, none⟩))
  | fz {cs : List AV} {off b base : Nat} {c : Array Value} (h : E.fz b = some c) (hs : base + cs.length ≤ c.size) (hr : Reps E cs ((c.toList.drop base).take cs.length)) (ho : One ((c.toList.drop base).take cs.length)) :
      Rep E (.fz cs off) (.pointer (some ⟨b, base + off, none⟩))
  | own {x n k : Nat} {nl : Bool} (h : E.dom x) (hv : E.vir x = false) (hn : n = E.ln x) : Rep E (.own x n k nl) (.slice (some ⟨E.ρ x, 0, none⟩) n (E.cp x))
  | ownNil {x n k : Nat} {nl : Bool} (h : E.dom x) (hv : E.vir x = true) (hn : n = 0) (hl : n = E.ln x) : Rep E (.own x n k nl) (.slice none 0 0)
  | slv {x off n k : Nat} (h : E.dom x) : Rep E (.slv x off n k) (.slice (some ⟨E.ρ x, off, none⟩) n n)
  | slNil {n k : Nat} {get : Nat → List AV} {nl full : Bool} (hn : n = 0) : Rep E (.sl n k get nl full) (.slice none 0 0)
  | slEmp {n k cap : Nat} {a : Addr} {get : Nat → List AV} {nl full : Bool} (hn : n = 0) (hf : full = true → cap = n) : Rep E (.sl n k get nl full) (.slice (some a) n cap)
  | sl {n k b off cap : Nat} {get : Nat → List AV} {nl full : Bool} {c : Array Value} (h : E.fz b = some c) (hs : off + n * k ≤ c.size) (hf : full = true → cap = n) (hc : n ≤ cap)
      (hr : ∀ i, i < n → Reps E (get i) ((c.toList.drop (off + i * k)).take k)) (ho : One ((c.toList.drop off).take (n * k))) : Rep E (.sl n k get nl full) (.slice (some ⟨b, off, none⟩) n cap)
  | fn {g : Fn} {first cap : List AV} {f c : Array Value} (h : Reps E first f.toList) (h' : Reps E cap c.toList) : Rep E (.fn g first cap) (.func g f c)
  | any {φ : (Nat → Option (Array Value)) → Value → Prop} {v : Value} (h : ∀ fz' : Nat → Option (Array Value), (∀ b c, E.fz b = some c → fz' b = some c) → φ fz' v) (ho : one1 v = true) : Rep E (.any φ) v
  | unk (v : Value) : Rep E .unk v
inductive Reps (E : Env) : List AV → List Value → Prop
  | nil : Reps E [] []
  | cons {a : AV} {v : Value} {l : List AV} {vs : List Value} (h : Rep E a v) (t : Reps E l vs) : Reps E (a :: l) (v :: vs)
end
structure Env.le (E E' : Env) : Prop where
  dom : ∀ x, E.dom x → E'.dom x
  ρ : ∀ x, E.dom x → E'.ρ x = E.ρ x
  vir : ∀ x, E.dom x → E'.vir x = E.vir x
  cp : ∀ x, E.dom x → E'.cp x = E.cp x
  ln : ∀ x, E.dom x → E'.ln x = E.ln x
  fz : ∀ b c, E.fz b = some c → E'.fz b = some c
theorem Env.le.refl (E : Env) : E.le E := ⟨fun _ h => h, fun _ _ => rfl, fun _ _ => rfl, fun _ _ => rfl, fun _ _ => rfl, fun _ _ h => h⟩
theorem Env.le.trans {A B C : Env} (h : A.le B) (k : B.le C) : A.le C :=
  ⟨fun x d => k.dom x (h.dom x d), fun x d => (k.ρ x (h.dom x d)).trans (h.ρ x d), fun x d => (k.vir x (h.dom x d)).trans (h.vir x d), fun x d => (k.cp x (h.dom x d)).trans (h.cp x d), fun x d => (k.ln x (h.dom x d)).trans (h.ln x d), fun b c d => k.fz b c (h.fz b c d)⟩
mutual
theorem Rep.mono {E E' : Env} (hl : E.le E') : ∀ {a : AV} {v : Value}, Rep E a v → Rep E' a v
  | _, _, .lit v h => .lit v h
  | _, _, .v v h => .v v h
  | _, _, .agg h ho => .agg (Reps.mono hl h) ho
  | _, _, .tup h => .tup (Reps.mono hl h)
  | _, _, .ptr h => by rw [← hl.ρ _ h]; exact .ptr (hl.dom _ h)
  | _, _, .pti h h0 h1 => by rw [← hl.ρ _ h]; exact .pti (hl.dom _ h) h0 h1
  | _, _, .pe h => by rw [← hl.ρ _ h]; exact .pe (hl.dom _ h)
  | _, _, .fz h hs hr ho => .fz (hl.fz _ _ h) hs (Reps.mono hl hr) ho
  | _, _, .own h hv hn => by rw [← hl.ρ _ h, ← hl.cp _ h]; exact .own (hl.dom _ h) ((hl.vir _ h).trans hv) (hn.trans (hl.ln _ h).symm)
  | _, _, .ownNil h hv hn hq => .ownNil (hl.dom _ h) ((hl.vir _ h).trans hv) hn (hq.trans (hl.ln _ h).symm)
  | _, _, .slv h => by rw [← hl.ρ _ h]; exact .slv (hl.dom _ h)
  | _, _, .slNil hn => .slNil hn
  | _, _, .slEmp hn hf => .slEmp hn hf
  | _, _, .sl h hs hf hc hr ho => .sl (hl.fz _ _ h) hs hf hc (fun i hi => Reps.mono hl (hr i hi)) ho
  | _, _, .fn h h' => .fn (Reps.mono hl h) (Reps.mono hl h')
  | _, _, .any h ho => .any (fun fz' hf => h fz' fun b c hb => hf b c (hl.fz b c hb)) ho
  | _, _, .unk v => .unk v
theorem Reps.mono {E E' : Env} (hl : E.le E') : ∀ {a : List AV} {v : List Value}, Reps E a v → Reps E' a v
  | _, _, .nil => .nil
  | _, _, .cons h t => .cons (Rep.mono hl h) (Reps.mono hl t)
end
section
variable {E : Env}
theorem Reps.len {l : List AV} {vs : List Value} (h : Reps E l vs) : l.length = vs.length := by
  induction l generalizing vs with
  | nil => cases h; rfl
  | cons a l ih => cases h with | cons h t => simp [ih t]
theorem Reps.app {l m : List AV} {vs us : List Value} (h : Reps E l vs) (k : Reps E m us) : Reps E (l ++ m) (vs ++ us) := by
  induction l generalizing vs with
  | nil => cases h; exact k
  | cons a l ih => cases h with | cons h t => exact .cons h (ih t)
theorem Reps.drop {l : List AV} {vs : List Value} (h : Reps E l vs) (n : Nat) : Reps E (l.drop n) (vs.drop n) := by
  induction n generalizing l vs with
  | zero => simpa using h
  | succ n ih => cases h with
    | nil => simpa using Reps.nil
    | cons h t => simpa using ih t
theorem Reps.take {l : List AV} {vs : List Value} (h : Reps E l vs) (n : Nat) : Reps E (l.take n) (vs.take n) := by
  induction n generalizing l vs with
  | zero => simpa using Reps.nil
  | succ n ih => cases h with
    | nil => simpa using Reps.nil
    | cons h t => simpa using Reps.cons h (ih t)
theorem Reps.get {l : List AV} {vs : List Value} (h : Reps E l vs) {i : Nat} {a : AV} (ha : l[i]? = some a) : ∃ v, vs[i]? = some v ∧ Rep E a v := by
  induction l generalizing vs i with
  | nil => simp at ha
  | cons b l ih => cases h with
    | cons h t => cases i with
      | zero => simp at ha; subst ha; exact ⟨_, rfl, h⟩
      | succ i => simp at ha; simpa using ih t ha
theorem Reps.lits (l : List Value) (h : One l) : Reps E (l.map .lit) l := by
  induction l with
  | nil => exact .nil
  | cons v l ih => exact .cons (.lit v (h v (List.mem_cons_self ..))) (ih fun u hu => h u (List.mem_cons_of_mem _ hu))
theorem One.app {l m : List Value} (h : One l) (k : One m) : One (l ++ m) := fun v hv => (List.mem_append.1 hv).elim (h v) (k v)
theorem One.drop {l : List Value} (h : One l) (n : Nat) : One (l.drop n) := fun v hv => h v (List.mem_of_mem_drop hv)
theorem One.take {l : List Value} (h : One l) (n : Nat) : One (l.take n) := fun v hv => h v (List.mem_of_mem_take hv)
theorem One.sub {l m : List Value} (h : One l) (hs : ∀ v ∈ m, v ∈ l) : One m := fun v hv => h v (hs v hv)
theorem one_of_all {l : List Value} (h : l.all one1 = true) : One l := fun v hv => List.all_eq_true.1 h v hv
theorem constR (v : Value) : Rep E (constAV v) v := by
  unfold constAV
  cases v <;> simp only [] <;> first
    | exact .lit _ rfl
    | exact .unk _
    | (split
       · rename_i h; exact .agg (Reps.lits _ (one_of_all h)) (one_of_all h)
       · exact .unk _)
theorem cells_one {v : Value} (h : one1 v = true) : v.cells.toList = [v] := by cases v <;> first | rfl | cases h
theorem one_single {v : Value} (h : one1 v = true) : One [v] := fun u hu => by simp at hu; subst hu; exact h
/-- A value's cells. -/
theorem cellsR {a : AV} {v : Value} (h : Rep E a v) (hg : badA a = false) : Reps E (cellsA a) v.cells.toList ∧ One v.cells.toList := by
  have key : one1 v = true → cellsA a = [a] → Reps E (cellsA a) v.cells.toList ∧ One v.cells.toList := fun h1 h2 => by
    rw [cells_one h1, h2]; exact ⟨.cons h .nil, one_single h1⟩
  match h, key, hg with
  | .agg h ho, _, _ => exact ⟨h, ho⟩
  | .tup _, _, hg => cases hg
  | .unk _, _, hg => cases hg
  | .lit v h, key, _ => exact key h rfl
  | .v v h, key, _ => exact key h rfl
  | .ptr _, key, _ => exact key rfl rfl
  | .pti _ _ _, key, _ => exact key rfl rfl
  | .pe _, key, _ => exact key rfl rfl
  | .own _ _ _, key, _ => exact key rfl rfl
  | .ownNil _ _ _ _, key, _ => exact key rfl rfl
  | .slv _, key, _ => exact key rfl rfl
  | .slNil _, key, _ => exact key rfl rfl
  | .slEmp _ _, key, _ => exact key rfl rfl
  | .fz _ _ _ _, key, _ => exact key rfl rfl
  | .sl _ _ _ _ _ _, key, _ => exact key rfl rfl
  | .fn _ _, key, _ => exact key rfl rfl
  | .any _ ho, key, _ => exact key ho rfl
end

/-- The block at a number. -/
def blkW (w : World) (b : Nat) : Option Obj := w.heap[b]?
def BlkR (E : Env) (x : Nat) : Blk → Option Obj → Prop
  | .fix ty cs, o => E.vir x = false ∧ ∃ c : Array Value, o = some (.cells c ty (0, 0)) ∧ Reps E cs c.toList ∧ One c.toList
  | .arr ty n k get, o => n = E.ln x ∧ ((E.vir x = true ∧ n = 0) ∨ (E.vir x = false ∧ ∃ c : Array Value, o = some (.cells c ty (0, 0)) ∧ c.size = E.cp x * k ∧ n ≤ E.cp x ∧ One c.toList ∧ ∀ i, i < n → Reps E (get i) ((c.toList.drop (i * k)).take k)))
structure Sim (FP : Nat → Prop) (E : Env) (H : Nat → Option Blk) (w : World) : Prop where
  fz : ∀ b c, E.fz b = some c → ∃ ty fr, blkW w b = some (.cells c ty fr)
  dom : ∀ x, FP x → H x ≠ none → E.dom x
  low : ∀ x, FP x → H x ≠ none → E.vir x = false → E.ρ x < w.heap.size ∧ E.fz (E.ρ x) = none
  blk : ∀ x B, FP x → H x = some B → BlkR E x B (blkW w (E.ρ x))
  inj : ∀ x y, FP x → FP y → H x ≠ none → H y ≠ none → E.vir x = false → E.vir y = false → E.ρ x = E.ρ y → x = y
/-- What a piece of the run leaves: from names < nx on to names < nx', having touched 'wr'. -/
structure Post (FP : Nat → Prop) (E E' : Env) (H H' : Nat → Option Blk) (nx nx' : Nat) (wr : List Nat) (w w' : World) : Prop where
  le : E.le E'
  dom : ∀ x, E'.dom x → E.dom x ∨ (nx ≤ x ∧ x < nx')
  sim : Sim FP E' H' w'
  frame : ∀ b, b < w.heap.size → (∀ x, x ∈ wr → x < nx → H x ≠ none → E.vir x = false → b ≠ E.ρ x) → blkW w' b = blkW w b ∧ E'.fz b = E.fz b
  news : ∀ x, nx ≤ x → x < nx' → FP x → H' x ≠ none → E'.vir x = false → w.heap.size ≤ E'.ρ x ∨ ∃ y, y ∈ wr ∧ y < nx ∧ H y ≠ none ∧ E.vir y = false ∧ E'.ρ x = E.ρ y
  size : w.heap.size ≤ w'.heap.size
  os : w'.os = w.os
  tape : w'.tape = w.tape
  output : w'.output = w.output
/-- No name of a range is in use. -/
def Free (E : Env) (nx nx' : Nat) : Prop := ∀ x, nx ≤ x → x < nx' → ¬ E.dom x
section
variable {FP : Nat → Prop} {E : Env} {H : Nat → Option Blk} {w : World}
theorem BlkR.mono {E E' : Env} (hl : E.le E') {x : Nat} (hx : E.dom x) {B : Blk} {o : Option Obj} (h : BlkR E x B o) : BlkR E' x B o := by
  cases B with
  | fix ty cs =>
    obtain ⟨hv, c, h1, h2, h3⟩ := h
    exact ⟨(hl.vir x hx).trans hv, c, h1, h2.mono hl, h3⟩
  | arr ty n k get =>
    obtain ⟨hq, h⟩ := h
    refine ⟨hq.trans (hl.ln x hx).symm, ?_⟩
    rcases h with ⟨hv, hn⟩ | ⟨hv, c, h1, h2, h3, h4, h5⟩
    · exact .inl ⟨(hl.vir x hx).trans hv, hn⟩
    · exact .inr ⟨(hl.vir x hx).trans hv, c, h1, by rw [hl.cp x hx]; exact h2, by rw [hl.cp x hx]; exact h3, h4, fun i hi => (h5 i hi).mono hl⟩
end
end Go.Proofs.YtdlghljhgbakjaaDoor
