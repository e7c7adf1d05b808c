/-
  PART: a store of a whole row into a block: the walk's rules.
-/
import Derived.Test.YtkmhabbpndcnkaaK2
import Derived.Laws.CopyRow
namespace Go.Proofs.Ytkmhabbpndcnkaa
open Go.RowKit
def spl (cs : Array Value) (off : Nat) (xs : Array Value) : Array Value := (cs.toList.take off ++ xs.toList ++ cs.toList.drop (off + xs.size)).toArray
def stI : Option Obj → Nat → Array Value → Option (Array Value)
  | some (.cells cs _ (0, 0)), off, xs => if off + xs.size ≤ cs.size ∧ xs.all (·.oneCell') = true then some (spl cs off xs) else none
  | _, _, _ => none
theorem stI_some {o : Option Obj} {off : Nat} {xs v : Array Value} (h : stI o off xs = some v) : ∃ cs t, o = some (.cells cs t (0, 0)) ∧ off + xs.size ≤ cs.size ∧ xs.all (·.oneCell') = true ∧ v = spl cs off xs := by
  match o, h with
  | some (.cells cs t (0, 0)), h =>
    change (if off + xs.size ≤ cs.size ∧ xs.all (·.oneCell') = true then some (spl cs off xs) else none) = some v at h
    by_cases hle : off + xs.size ≤ cs.size ∧ xs.all (·.oneCell') = true
    · rw [if_pos hle] at h; cases h; exact ⟨cs, t, rfl, hle.1, hle.2, rfl⟩
    · rw [if_neg hle] at h; cases h
noncomputable def storeVar0 (t : TypeId) (a : Addr) (v : Value) : Sem Unit := storeVar t a v
noncomputable def stR (t : TypeId) (a : Addr) (v : Value) (w : World) : Option (Array Value) → Result Unit
  | some cs => .ok () (w.setRow a.block cs)
  | none => (storeVar0 t a v).run Try.prog w
theorem stR_some (t : TypeId) (b off : Nat) (v : Value) (w : World) (cs : Array Value) : stR t ⟨b, off, none⟩ v w (some cs) = .ok () (w.setRow b cs) := rfl
theorem st_rule {ty : Nat} (g off : Nat) (xs : Array Value) (w : World) (hi : (Try.prog.info? ty).map (·.size) = some xs.size) :
    (storeVar ty ⟨g, off, none⟩ (.agg xs)).run Try.prog w = stR ty ⟨g, off, none⟩ (.agg xs) w (stI (blkAt w g) off xs) := by
  cases hl : stI (blkAt w g) off xs with
  | none => rfl
  | some v =>
    obtain ⟨cs, t, hb, hle, hone, rfl⟩ := stI_some hl
    have := run_storeCells_at (P := Try.prog) g off t xs.toList 0 cs w hb (by simpa using hle) (fun v hv => (Array.all_eq_true_iff_forall_mem.1 hone) v (by simpa using hv))
    cases hq : Try.prog.info? ty with
    | none => simp [hq] at hi
    | some i =>
      have hs : xs.size = i.size := by simp [hq] at hi; omega
      simp [storeVar, sizeOf, typeInfo, hq, Value.cells, hs, this, stR]
      simp [spl, hs]
def rowOf : Option Obj → Array Value → Option Obj
  | some (.cells _ t fr), cs => some (.cells cs t fr)
  | o, _ => o
theorem rowOf_cells (c cs : Array Value) (t : TypeId) (fr : Nat × Nat) : rowOf (some (.cells c t fr)) cs = some (.cells cs t fr) := rfl
theorem ba_setRow_same (w : World) (b : Nat) (cs : Array Value) : blkAt (w.setRow b cs) b = rowOf (blkAt w b) cs := by
  simp only [blkAt, World.setRow, Array.getElem?_modify, if_true]
  cases h : w.heap[b]? with
  | none => rfl
  | some o => cases o <;> rfl
theorem ba_setRow_other (w : World) (g : Nat) (cs : Array Value) (b : Nat) (h : b ≠ g) : blkAt (w.setRow g cs) b = blkAt w b := setRow_other w g b cs h
theorem setRow_alloc_at (w : World) (c cs : Array Value) (t : TypeId) (fr : Nat × Nat) (n : Nat) (hn : n = w.heap.size) : (w.alloc (.cells c t fr)).setRow n cs = w.alloc (.cells cs t fr) := by
  subst hn
  unfold World.setRow World.alloc
  congr 1
  apply Array.ext_getElem?
  intro k
  simp only [Array.getElem?_modify, Array.getElem?_push]
  by_cases hk : w.heap.size = k
  · subst hk; simp
  · simp [hk, Ne.symm hk]
theorem setRow_alloc_past (w : World) (o : Obj) (cs : Array Value) (n : Nat) (hn : n < w.heap.size) : (w.alloc o).setRow n cs = (w.setRow n cs).alloc o := by
  unfold World.setRow World.alloc
  congr 1
  apply Array.ext_getElem?
  intro k
  simp only [Array.getElem?_modify, Array.getElem?_push, Array.size_modify]
  by_cases hk : k = w.heap.size
  · subst hk
    simp [Nat.ne_of_lt hn]
  · simp [hk]
theorem setRow_drew (w : World) (n : Nat) (cs : Array Value) : w.drew.setRow n cs = (w.setRow n cs).drew := rfl
theorem below_setRow {B : Nat} {a w : World} (h : Below B a w) {b : Nat} (hp : B ≤ b) (cs : Array Value) : Below B a (w.setRow b cs) :=
  h.trans ⟨rfl, rfl, rfl, by simp, fun k hk => setRow_other w b k cs (by omega)⟩
noncomputable def stAtX (t : TypeId) (v u : Value) : Sem Unit := Instr.storeAt t v u
theorem stAt24 (v u : Value) : Instr.storeAt 24 v u = stAtX 24 v u := rfl
theorem stAt22 (v u : Value) : Instr.storeAt 22 v u = stAtX 22 v u := rfl
theorem info24s : (Try.prog.info? 24).map (·.size) = some 8 := by kernel_rfl
theorem info22s : (Try.prog.info? 22).map (·.size) = some 4 := by kernel_rfl
theorem sa24 (g off : Nat) (f : Nat → Int) (w : World) : (stAtX 24 (.pointer (some ⟨g, off, none⟩)) (.agg (vw f))).run Try.prog w = stR 24 ⟨g, off, none⟩ (.agg (vw f)) w (stI (blkAt w g) off (vw f)) := by
  rw [← st_rule g off (vw f) w info24s]; rfl
theorem stI_of (c : Array Value) (t : TypeId) (off : Nat) (xs : Array Value) (h : off + xs.size ≤ c.size) (h1 : xs.all (·.oneCell') = true) : stI (some (.cells c t (0, 0))) off xs = some (spl c off xs) := by
  show (if off + xs.size ≤ c.size ∧ xs.all (·.oneCell') = true then some (spl c off xs) else none) = _
  rw [if_pos ⟨h, h1⟩]
theorem vw_size (f : Nat → Int) : (vw f).size = 8 := rfl
theorem vw_one (f : Nat → Int) : (vw f).all (·.oneCell') = true := by unfold vw; simp [Value.oneCell']
theorem spl_whole (c xs : Array Value) (h : c.size = xs.size) : spl c 0 xs = xs := by
  unfold spl
  rw [List.drop_eq_nil_of_le (by simp; omega)]
  simp
theorem stI_zero (f : Nat → Int) (t : TypeId) : stI (some (.cells #[.int .i64 0, .int .i64 0, .int .i64 0, .int .i64 0, .int .i64 0, .int .i64 0, .int .i64 0, .int .i64 0] t (0, 0))) 0 (vw f) = some (vw f) := by
  rw [stI_of _ _ _ _ (by rw [vw_size]; exact Nat.le_refl _) (vw_one f)]; exact congrArg some (spl_whole _ _ (by rfl))
theorem stI_vw (f g : Nat → Int) (t : TypeId) : stI (some (.cells (vw g) t (0, 0))) 0 (vw f) = some (vw f) := by
  rw [stI_of _ _ _ _ (by rw [vw_size]; exact Nat.le_refl _) (vw_one f)]; exact congrArg some (spl_whole _ _ (by rfl))
end Go.Proofs.Ytkmhabbpndcnkaa
