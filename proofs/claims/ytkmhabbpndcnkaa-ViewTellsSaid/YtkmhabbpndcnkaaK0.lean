/-
  PART: rules by which a walk reads memory block by block: one fact 'w.heap[b]? = some (.cells ..)' serves all cells of a block.
-/
import Derived.WalkKit
import Derived.WalkSpells
import Derived.WalkLawsBesides
import Derived.Lib.Hide
import Derived.LoopN
namespace Go.Proofs.Ytkmhabbpndcnkaa
open Go.RowKit

def cellOf : Option Obj → Nat → Option Value
  | some (.cells c _ _), i => c[i]?
  | _, _ => none
def frozenOf : Option Obj → Nat → Bool
  | some (.cells _ _ (lo, hi)), i => lo ≤ i && i < hi
  | _, _ => false
def setOf : Option Obj → Nat → Value → Option Obj
  | some (.cells c t fr), i, v => some (.cells (c.setIfInBounds i v) t fr)
  | o, _, _ => o
theorem cellOf_cells (c : Array Value) (t : TypeId) (fr : Nat × Nat) (i : Nat) : cellOf (some (.cells c t fr)) i = c[i]? := rfl
theorem frozenOf_cells (c : Array Value) (t : TypeId) (i : Nat) : frozenOf (some (.cells c t (0, 0))) i = false := by
  unfold frozenOf; simp
theorem setOf_cells (c : Array Value) (t : TypeId) (fr : Nat × Nat) (i : Nat) (v : Value) : setOf (some (.cells c t fr)) i v = some (.cells (c.setIfInBounds i v) t fr) := rfl
/-- The block at a number. (Behind a name of its own: simp has rules of its own for an array's element.) -/
def blkAt (w : World) (b : Nat) : Option Obj := w.heap[b]?
theorem cell_eq (w : World) (b i : Nat) : w.cell? ⟨b, i, none⟩ = cellOf (blkAt w b) i := by
  unfold World.cell? cellOf blkAt
  split <;> simp_all
theorem frozen_eq (w : World) (b i : Nat) : w.frozen? ⟨b, i, none⟩ = frozenOf (blkAt w b) i := by
  unfold World.frozen? frozenOf blkAt
  split <;> simp_all
theorem ba_alloc_at (w : World) (o : Obj) (n : Nat) (hn : n = w.heap.size) : blkAt (w.alloc o) n = some o := by
  subst hn
  show (w.heap.push o)[w.heap.size]? = _
  simp
theorem ba_alloc_past (w : World) (o : Obj) (n : Nat) (hn : n < w.heap.size) : blkAt (w.alloc o) n = blkAt w n := Below.heap_alloc w o n hn
theorem ba_drew (w : World) (b : Nat) : blkAt w.drew b = blkAt w b := rfl
theorem ba_setCell_same (w : World) (b i : Nat) (v : Value) : blkAt (w.setCell ⟨b, i, none⟩ v) b = setOf (blkAt w b) i v := by
  simp only [blkAt, World.setCell, Array.getElem?_modify, if_true]
  cases h : w.heap[b]? with
  | none => rfl
  | some o => cases o <;> rfl
theorem ba_setCell_other (w : World) (a : Addr) (v : Value) (b : Nat) (h : b ≠ a.block) : blkAt (w.setCell a v) b = blkAt w b := Below.heap_setCell w a v b h
theorem hp_size_setCell (w : World) (a : Addr) (v : Value) : (w.setCell a v).heap.size = w.heap.size := by simp
/-- What a contract's 'Below' gives a walk. -/
theorem ba_below {B : Nat} {w w' : World} (h : Below B w w') : ∀ k, k < B → blkAt w' k = blkAt w k := h.block
/-- The one block that a call may have turned; beside it all old blocks are as they were. -/
structure Only (b : Nat) (w w' : World) : Prop where
  os : w'.os = w.os
  tape : w'.tape = w.tape
  output : w'.output = w.output
  size : w.heap.size ≤ w'.heap.size
  block : ∀ k, k < w.heap.size → k ≠ b → blkAt w' k = blkAt w k

/-- Blocks that lie as listed. -/
def Blks : List (Nat × Obj) → World → Prop
  | [], _ => True
  | (n, o) :: l, w => (n < w.heap.size ∧ blkAt w n = some o) ∧ Blks l w
theorem Blks.imp {l : List (Nat × Obj)} {w w' : World} (h : Blks l w) (hs : w.heap.size ≤ w'.heap.size) (hk : ∀ k, k < w.heap.size → blkAt w' k = blkAt w k) : Blks l w' := by
  induction l with
  | nil => trivial
  | cons p l ih => exact ⟨⟨Nat.lt_of_lt_of_le h.1.1 hs, (hk _ h.1.1).trans h.1.2⟩, ih h.2⟩
/-- What a walk knows of the world: what was there at its beginning is as it was; the listed blocks. -/
def St (w0 : World) (l : List (Nat × Obj)) (w : World) : Prop := Below w0.heap.size w0 w ∧ Blks l w
theorem St.call {w0 w w' : World} {l : List (Nat × Obj)} (h : St w0 l w) (hb : Below w.heap.size w w') : St w0 l w' :=
  ⟨h.1.trans (hb.mono h.1.size), h.2.imp hb.size (ba_below hb)⟩
theorem St.alloc {w0 w : World} {l : List (Nat × Obj)} (h : St w0 l w) (o : Obj) : St w0 l (w.alloc o) :=
  h.call ((Below.refl _ _).alloc (Nat.le_refl _) _)
theorem St.drew {w0 w : World} {l : List (Nat × Obj)} (h : St w0 l w) : St w0 l w.drew := h.call (Below.refl _ _).drew
theorem St.new {w0 w : World} {l : List (Nat × Obj)} (h : St w0 l w) (o : Obj) : St w0 ((w.heap.size, o) :: l) (w.alloc o) :=
  ⟨(h.alloc o).1, ⟨by simp, ba_alloc_at _ _ _ rfl⟩, (h.alloc o).2⟩
theorem St.newAt {w0 w : World} {l : List (Nat × Obj)} (h : St w0 l w) (o : Obj) (n : Nat) (hn : n = w.heap.size) : St w0 ((n, o) :: l) (w.alloc o) := hn ▸ h.new o
theorem St.refl (w : World) : St w [] w := ⟨Below.refl _ _, trivial⟩
end Go.Proofs.Ytkmhabbpndcnkaa
