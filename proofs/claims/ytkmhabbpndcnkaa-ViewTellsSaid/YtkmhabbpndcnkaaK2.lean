/-
  PART: views as functions of a place: 'vw f' is the row of f 0 .. f 7; the walk's rules on such rows, and View's contracts said of them.
-/
import Derived.Test.YtkmhabbpndcnkaaA3
namespace Go.Proofs.Ytkmhabbpndcnkaa
open Go.RowKit

def vw (f : Nat → Int) : Array Value := #[.int .i64 (f 0), .int .i64 (f 1), .int .i64 (f 2), .int .i64 (f 3), .int .i64 (f 4), .int .i64 (f 5), .int .i64 (f 6), .int .i64 (f 7)]
def q4 (f : Nat → Int) : Array Value := #[.int .i64 (f 0), .int .i64 (f 1), .int .i64 (f 2), .int .i64 (f 3)]
def sh (f : Nat → Int) : Nat → Int := fun i => f (i + 4)
def li (f : Nat → Int) : List Int := [f 0, f 1, f 2, f 3, f 4, f 5, f 6, f 7]
/-- Joined. -/
def jn (f g : Nat → Int) : Nat → Int := fun i => mx (f i) (g i)
def leV (f g : Nat → Int) : Bool := vle (li f) (li g)
def eqV (f g : Nat → Int) : Bool := eqL (li f) (li g)
def mayF (f : Nat → Int) : Bool := mayV (f 0) (f 1) (f 2) (f 3) (f 4) (f 5) (f 6) (f 7)

theorem leV_iff (f g : Nat → Int) : leV f g = true ↔ ∀ i, i < 8 → f i ≤ g i := by
  unfold leV li
  simp only [vle, Bool.and_eq_true, decide_eq_true_eq, and_true]
  constructor
  · rintro ⟨h0, h1, h2, h3, h4, h5, h6, h7⟩ i hi
    have : i = 0 ∨ i = 1 ∨ i = 2 ∨ i = 3 ∨ i = 4 ∨ i = 5 ∨ i = 6 ∨ i = 7 := by omega
    rcases this with rfl | rfl | rfl | rfl | rfl | rfl | rfl | rfl <;> assumption
  · intro h
    exact ⟨h 0 (by omega), h 1 (by omega), h 2 (by omega), h 3 (by omega), h 4 (by omega), h 5 (by omega), h 6 (by omega), h 7 (by omega)⟩
theorem eqV_iff (f g : Nat → Int) : eqV f g = true ↔ ∀ i, i < 8 → f i = g i := by
  unfold eqV li
  simp only [eqL, Bool.and_eq_true, beq_iff_eq, and_true]
  constructor
  · rintro ⟨h0, h1, h2, h3, h4, h5, h6, h7⟩ i hi
    have : i = 0 ∨ i = 1 ∨ i = 2 ∨ i = 3 ∨ i = 4 ∨ i = 5 ∨ i = 6 ∨ i = 7 := by omega
    rcases this with rfl | rfl | rfl | rfl | rfl | rfl | rfl | rfl <;> assumption
  · intro h
    exact ⟨h 0 (by omega), h 1 (by omega), h 2 (by omega), h 3 (by omega), h 4 (by omega), h 5 (by omega), h 6 (by omega), h 7 (by omega)⟩
theorem mayF_iff (f : Nat → Int) : mayF f = true ↔ ∀ i, i < 4 → 0 ≤ f i ∧ f i ≤ f (i + 4) := by
  unfold mayF mayV
  simp only [vle, Bool.and_eq_true, decide_eq_true_eq, and_true]
  constructor
  · rintro ⟨⟨h0, h1, h2, h3, h4, h5, h6, h7⟩, g0, g1, g2, g3, _⟩ i hi
    have : i = 0 ∨ i = 1 ∨ i = 2 ∨ i = 3 := by omega
    rcases this with rfl | rfl | rfl | rfl
    · exact ⟨h0, g0⟩
    · exact ⟨h1, g1⟩
    · exact ⟨h2, g2⟩
    · exact ⟨h3, g3⟩
  · intro h
    have a0 := h 0 (by omega); have a1 := h 1 (by omega); have a2 := h 2 (by omega); have a3 := h 3 (by omega)
    simp at a0 a1 a2 a3
    refine ⟨⟨a0.1, a1.1, a2.1, a3.1, ?_, ?_, ?_, ?_⟩, a0.2, a1.2, a2.2, a3.2, ?_⟩
    · omega
    · omega
    · omega
    · omega
    · simp

/-! The contracts. -/
theorem join_1f {f g : Nat → Int} {w : World} {b : Nat} (h : blkAt w b = some (.cells (vw g) 24 (0, 0))) :
    Calls Try.prog 14 #[.agg (vw f), .slice (some ⟨b, 0, none⟩) 1 1] w fun e w' => e = .returned (.agg (vw (jn f g))) ∧ Below w.heap.size w w' := join_1b h
def vw2 (f g : Nat → Int) : Array Value := #[.int .i64 (f 0), .int .i64 (f 1), .int .i64 (f 2), .int .i64 (f 3), .int .i64 (f 4), .int .i64 (f 5), .int .i64 (f 6), .int .i64 (f 7), .int .i64 (g 0), .int .i64 (g 1), .int .i64 (g 2), .int .i64 (g 3), .int .i64 (g 4), .int .i64 (g 5), .int .i64 (g 6), .int .i64 (g 7)]
theorem join_2f {f g k : Nat → Int} {w : World} {b : Nat} (h : blkAt w b = some (.cells (vw2 g k) 24 (0, 0))) :
    Calls Try.prog 14 #[.agg (vw f), .slice (some ⟨b, 0, none⟩) 2 2] w fun e w' => e = .returned (.agg (vw (jn (jn f g) k))) ∧ Below w.heap.size w w' := join_2b h
theorem join_0f (f : Nat → Int) (w : World) :
    Calls Try.prog 14 #[.agg (vw f), .slice none 0 0] w fun e w' => e = .returned (.agg (vw f)) ∧ Below w.heap.size w w' := join_0 _ _ _ _ _ _ _ _ w
theorem within_f (f g : Nat → Int) (w : World) :
    Calls Try.prog 15 #[.agg (vw f), .agg (vw g)] w fun e w' => e = .returned (.bool (leV f g)) ∧ Below w.heap.size w w' := within_any _ _ _ _ _ _ _ _ _ _ _ _ _ _ _ _ w
theorem may_f (f : Nat → Int) (w : World) :
    Calls Try.prog 16 #[.agg (vw f)] w fun e w' => e = .returned (.bool (mayF f)) ∧ Below w.heap.size w w' := may_any _ _ _ _ _ _ _ _ w
/-- What Flat knows. -/
def fl (f : Nat → Int) : Nat → Int := fun i => f (i % 4)
theorem flat_f (f : Nat → Int) (w : World) :
    Calls Try.prog 18 #[.agg (q4 f)] w fun e w' => e = .returned (.agg (vw (fl f))) ∧ Below w.heap.size w w' := flat_any _ _ _ _ w
/-- What At knows. -/
def atF (loc t : Int) (pln : Bool) : Nat → Int := fun i => if i < 4 then atP loc t pln i else atR loc t ((i - 4 : Nat) : Int)
theorem at_f (loc t : Int) (pln : Bool) (w : World) :
    Calls Try.prog 19 #[.int .i64 loc, .int .i64 t, .bool pln] w fun e w' => e = .returned (.agg (vw (atF loc t pln))) ∧ Below w.heap.size w w' := at_any loc t pln w

/-! The walk's rules. -/
noncomputable def loadVar0 (t : TypeId) (a : Addr) : Sem Value := loadVar t a
/-- A row of n cells out of a block. -/
def ldI : Option Obj → Nat → Nat → Option (Array Value)
  | some (.cells cs _ _), off, n => if off + n ≤ cs.size then some (cs.extract off (off + n)) else none
  | _, _, _ => none
theorem ldI_some {o : Option Obj} {off n : Nat} {v : Array Value} (h : ldI o off n = some v) : ∃ cs t fr, o = some (.cells cs t fr) ∧ off + n ≤ cs.size ∧ v = cs.extract off (off + n) := by
  match o, h with
  | some (.cells cs t fr), h =>
    change (if off + n ≤ cs.size then some (cs.extract off (off + n)) else none) = some v at h
    by_cases hle : off + n ≤ cs.size
    · rw [if_pos hle] at h; cases h; exact ⟨cs, t, fr, rfl, hle, rfl⟩
    · rw [if_neg hle] at h; cases h
noncomputable def ldR (t : TypeId) (a : Addr) (w : World) : Option (Array Value) → Result Value
  | some v => .ok (.agg v) w
  | none => (loadVar0 t a).run Try.prog w
theorem ldR_some (t : TypeId) (a : Addr) (w : World) (v : Array Value) : ldR t a w (some v) = .ok (.agg v) w := rfl
theorem ld_rule {ty n : Nat} {d : TypeDesc} (hu : Try.prog.underlying ty = some d) (hd : (match d with | .struct _ | .array _ _ => true | _ => false) = true) (hi : (Try.prog.info? ty).map (·.size) = some n)
    (g off : Nat) (w : World) : (loadVar ty ⟨g, off, none⟩).run Try.prog w = ldR ty ⟨g, off, none⟩ w (ldI (blkAt w g) off n) := by
  cases hl : ldI (blkAt w g) off n with
  | none => rfl
  | some v =>
    obtain ⟨cs, t, fr, hb, hle, rfl⟩ := ldI_some hl
    clear hl
    have hl : (loadCells ⟨g, off, none⟩ (cs.extract off (off + n)).toList.length).run Try.prog w = .ok (cs.extract off (off + n)).toList.toArray w :=
      run_loadCells_list w ⟨g, off, none⟩ (cs.extract off (off + n)).toList (fun j v hv => by
        have hadd : (⟨g, off, none⟩ : Addr).add j = ⟨g, off + j, none⟩ := by
          unfold Addr.add
          by_cases h0 : j = 0
          · rw [if_pos h0, h0]; rfl
          · rw [if_neg h0]
        have hj : j < n := by
          rcases Nat.lt_or_ge j n with h | h
          · exact h
          · rw [List.getElem?_eq_none (by simp; omega)] at hv; cases hv
        rw [hadd, cell_eq, hb, cellOf_cells]
        rw [Array.getElem?_toList, Array.getElem?_extract, if_pos (by omega)] at hv
        exact hv)
    have hlen : (cs.extract off (off + n)).toList.length = n := by simp; omega
    rw [hlen, Array.toArray_toList] at hl
    cases hq : Try.prog.info? ty with
    | none => simp [hq] at hi
    | some i =>
      have hs : i.size = n := by simpa [hq] using hi
      have hagg : (isAgg ty).run Try.prog w = .ok true w := by
        unfold isAgg
        rw [Sem.run_bind, run_underlying hu w]
        cases d <;> simp_all
      simp [loadVar, Sem.run_bind, hagg, sizeOf, typeInfo, hq, hs, hl, ldR]
theorem ld24 (g off : Nat) (w : World) : (loadVar 24 ⟨g, off, none⟩).run Try.prog w = ldR 24 ⟨g, off, none⟩ w (ldI (blkAt w g) off 8) := ld_rule Try.underlying24 rfl (by kernel_rfl) g off w
theorem ld22 (g off : Nat) (w : World) : (loadVar 22 ⟨g, off, none⟩).run Try.prog w = ldR 22 ⟨g, off, none⟩ w (ldI (blkAt w g) off 4) := ld_rule Try.underlying22 rfl (by kernel_rfl) g off w
theorem ldI_vw8 (f : Nat → Int) (t : TypeId) (fr : Nat × Nat) : ldI (some (.cells (vw f) t fr)) 0 8 = some (vw f) := rfl
theorem ldI_vw0 (f : Nat → Int) (t : TypeId) (fr : Nat × Nat) : ldI (some (.cells (vw f) t fr)) 0 4 = some (q4 f) := rfl
theorem ldI_vw4 (f : Nat → Int) (t : TypeId) (fr : Nat × Nat) : ldI (some (.cells (vw f) t fr)) 4 4 = some (q4 (sh f)) := rfl
theorem ldI_q4 (f : Nat → Int) (t : TypeId) (fr : Nat × Nat) : ldI (some (.cells (q4 f) t fr)) 0 4 = some (q4 f) := rfl
theorem bs1 (f : Nat → Int) (w : World) : (Instr.buildSlice 130 1 #[(0, .agg (vw f))]).run Try.prog w = .ok (.slice (some ⟨w.heap.size, 0, none⟩) 1 1) (w.alloc (.cells (vw f) 24)) := by
  unfold vw; go_simp
theorem bs2 (f g : Nat → Int) (w : World) : (Instr.buildSlice 130 2 #[(0, .agg (vw f)), (1, .agg (vw g))]).run Try.prog w = .ok (.slice (some ⟨w.heap.size, 0, none⟩) 2 2) (w.alloc (.cells (vw2 f g) 24)) := by
  unfold vw vw2; go_simp
theorem eq24f (f g : Nat → Int) (w : World) : (binOp .eql 24 (.agg (vw f)) (.agg (vw g))).run Try.prog w = .ok (.bool (eqV f g)) w := run_eq24 (li f) (li g) rfl rfl w
theorem ne24f (f g : Nat → Int) (w : World) : (binOp .neq 24 (.agg (vw f)) (.agg (vw g))).run Try.prog w = .ok (.bool (!eqV f g)) w := run_ne24 (li f) (li g) rfl rfl w
theorem eq22f (f g : Nat → Int) (w : World) : (binOp .eql 22 (.agg (q4 f)) (.agg (q4 g))).run Try.prog w = .ok (.bool (eqL [f 0, f 1, f 2, f 3] [g 0, g 1, g 2, g 3])) w := run_eq22 [f 0, f 1, f 2, f 3] [g 0, g 1, g 2, g 3] rfl rfl w
/-! The same rules at the operations: behind names that the walk's simp does not open. -/
noncomputable def ldVarX (t : TypeId) (a : Addr) : Sem Value := loadVar t a
noncomputable def ldAtX (t : TypeId) (v : Value) : Sem Value := Instr.loadAt t v
noncomputable def bsX (t n : Nat) (parts : Array (Nat × Value)) : Sem Value := Instr.buildSlice t n parts
theorem ldVar24 (a : Addr) : loadVar 24 a = ldVarX 24 a := rfl
theorem ldVar22 (a : Addr) : loadVar 22 a = ldVarX 22 a := rfl
theorem ldAt24 (v : Value) : Instr.loadAt 24 v = ldAtX 24 v := rfl
theorem ldAt22 (v : Value) : Instr.loadAt 22 v = ldAtX 22 v := rfl
theorem bsXr (n : Nat) (parts : Array (Nat × Value)) : Instr.buildSlice 130 n parts = bsX 130 n parts := rfl
theorem lv24 (g off : Nat) (w : World) : (ldVarX 24 ⟨g, off, none⟩).run Try.prog w = ldR 24 ⟨g, off, none⟩ w (ldI (blkAt w g) off 8) := ld24 g off w
theorem lv22 (g off : Nat) (w : World) : (ldVarX 22 ⟨g, off, none⟩).run Try.prog w = ldR 22 ⟨g, off, none⟩ w (ldI (blkAt w g) off 4) := ld22 g off w
theorem la24 (g off : Nat) (w : World) : (ldAtX 24 (.pointer (some ⟨g, off, none⟩))).run Try.prog w = ldR 24 ⟨g, off, none⟩ w (ldI (blkAt w g) off 8) := by
  rw [← ld24]; rfl
theorem la22 (g off : Nat) (w : World) : (ldAtX 22 (.pointer (some ⟨g, off, none⟩))).run Try.prog w = ldR 22 ⟨g, off, none⟩ w (ldI (blkAt w g) off 4) := by
  rw [← ld22]; rfl
theorem bx1 (f : Nat → Int) (w : World) : (bsX 130 1 #[(0, .agg (vw f))]).run Try.prog w = .ok (.slice (some ⟨w.heap.size, 0, none⟩) 1 1) (w.alloc (.cells (vw f) 24)) := bs1 f w
theorem bx2 (f g : Nat → Int) (w : World) : (bsX 130 2 #[(0, .agg (vw f)), (1, .agg (vw g))]).run Try.prog w = .ok (.slice (some ⟨w.heap.size, 0, none⟩) 2 2) (w.alloc (.cells (vw2 f g) 24)) := bs2 f g w
end Go.Proofs.Ytkmhabbpndcnkaa
