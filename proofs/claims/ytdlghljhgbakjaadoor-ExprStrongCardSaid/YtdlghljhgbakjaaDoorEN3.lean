/-
  PART: how the world goes on under the pieces of a run: nothing, a new block, a block written, two pieces; loads and stores.
-/
import Derived.Test.YtdlghljhgbakjaaDoorEN2
import Derived.Laws.CopyRow
import Derived.ChangeKeysEq
namespace Go.Proofs.YtdlghljhgbakjaaDoor
open Go.RowKit

theorem one_iff (v : Value) : v.oneCell' = one1 v := by cases v <;> rfl
theorem hget_cons (x : Nat) (b : Option Blk) (l : List (Nat × Option Blk)) (y : Nat) : hget ((x, b) :: l) y = if x = y then b else hget l y := by
  show (match Nat.beq x y with | true => b | false => hget l y) = _
  by_cases h : x = y
  · subst h; simp
  · have : Nat.beq x y = false := by
      cases hb : Nat.beq x y
      · rfl
      · exact absurd (Nat.eq_of_beq_eq_true hb) h
    rw [this, if_neg h]
theorem mem_ins {x y : Nat} {l : List Nat} : y ∈ ins x l ↔ y = x ∨ y ∈ l := by
  unfold ins
  cases h : l.elem x
  · simp
  · simp only []
    constructor
    · exact .inr
    · rintro (rfl | h')
      · simpa using h
      · exact h'
theorem mem_uni {y : Nat} {l m : List Nat} : y ∈ uni l m ↔ y ∈ l ∨ y ∈ m := by
  induction l with
  | nil => simp [uni]
  | cons x l ih => simp [uni, mem_ins, ih, or_assoc]
/-! Worlds. -/
theorem blkW_alloc_new (w : World) (o : Obj) : blkW (w.alloc o) w.heap.size = some o := by show (w.heap.push o)[w.heap.size]? = _; simp
theorem blkW_alloc_old (w : World) (o : Obj) {b : Nat} (h : b ≠ w.heap.size) : blkW (w.alloc o) b = blkW w b := by
  show (w.heap.push o)[b]? = w.heap[b]?
  rw [Array.getElem?_push]; simp [h]
theorem blkW_some_lt {w : World} {b : Nat} {o : Obj} (h : blkW w b = some o) : b < w.heap.size := (Array.getElem?_eq_some_iff.1 h).1
theorem alloc_size (w : World) (o : Obj) : (w.alloc o).heap.size = w.heap.size + 1 := by show (w.heap.push o).size = _; simp
theorem blkW_setRow_same {w : World} {b : Nat} {c : Array Value} {ty : TypeId} {fr : Nat × Nat} (h : blkW w b = some (.cells c ty fr)) (cs : Array Value) : blkW (w.setRow b cs) b = some (.cells cs ty fr) := by
  unfold blkW at h ⊢
  simp [World.setRow, Array.getElem?_modify, h]
theorem blkW_setRow_other (w : World) (g : Nat) (cs : Array Value) {b : Nat} (h : b ≠ g) : blkW (w.setRow g cs) b = blkW w b := setRow_other w g b cs h
theorem setRow_size (w : World) (g : Nat) (cs : Array Value) : (w.setRow g cs).heap.size = w.heap.size := by simp [World.setRow]
theorem cell_blk {w : World} {b : Nat} {c : Array Value} {ty : TypeId} {fr : Nat × Nat} (h : blkW w b = some (.cells c ty fr)) (i : Nat) : w.cell? ⟨b, i, none⟩ = c[i]? := by
  unfold blkW at h
  simp [World.cell?, h]

section
variable {FP : Nat → Prop} {E E1 E2 : Env} {H H' H1 H2 : Nat → Option Blk} {w w1 w2 : World} {nx nx1 nx2 : Nat} {wr : List Nat}
/-- Post, and no block came back to life. -/
structure Pst (FP : Nat → Prop) (E E' : Env) (H H' : Nat → Option Blk) (nx nx' : Nat) (wr : List Nat) (w w' : World) : Prop extends Post FP E E' H H' nx nx' wr w w' where
  old : ∀ x, x < nx → FP x → H' x ≠ none → H x ≠ none
theorem Pst.trans (h0 : Sim FP E H w) (hw : ∀ x, x ∈ wr → FP x) (p : Pst FP E E1 H H1 nx nx1 wr w w1) (q : Pst FP E1 E2 H1 H2 nx1 nx2 wr w1 w2) (h1 : nx ≤ nx1) (h2 : nx1 ≤ nx2) : Pst FP E E2 H H2 nx nx2 wr w w2 := by
  have hold : ∀ x, x < nx → FP x → H1 x ≠ none → E1.vir x = E.vir x ∧ E1.ρ x = E.ρ x ∧ H x ≠ none := fun x hx hF hn => by
    have hn0 := p.old x hx hF hn
    have hd := h0.dom x hF hn0
    exact ⟨p.le.vir x hd, p.le.ρ x hd, hn0⟩
  refine ⟨⟨p.le.trans q.le, fun x hx => ?_, q.sim, fun b hb hx => ?_, fun x hx hx2 hF hn hv => ?_, Nat.le_trans p.size q.size, q.os.trans p.os, q.tape.trans p.tape, q.output.trans p.output⟩, fun x hx hF hn => p.old x hx hF (q.old x (by omega) hF hn)⟩
  · rcases q.dom x hx with h | h
    · rcases p.dom x h with h | h
      · exact .inl h
      · exact .inr ⟨h.1, by omega⟩
    · exact .inr ⟨by omega, h.2⟩
  · have f1 := p.frame b hb hx
    have f2 := q.frame b (Nat.lt_of_lt_of_le hb p.size) (fun x hxw hxn hn hv => by
      rcases Nat.lt_or_ge x nx with hlt | hge
      · obtain ⟨e1, e2, e3⟩ := hold x hlt (hw x hxw) hn
        rw [e2]; exact hx x hxw hlt e3 (e1 ▸ hv)
      · rcases p.news x hge hxn (hw x hxw) hn hv with h | ⟨y, hy, hyn, hyH, hyv, he⟩
        · omega
        · rw [he]; exact hx y hy hyn hyH hyv)
    exact ⟨f2.1.trans f1.1, f2.2.trans f1.2⟩
  · rcases Nat.lt_or_ge x nx1 with hlt | hge
    · have hn1 := q.old x hlt hF hn
      have hd := p.sim.dom x hF hn1
      rw [q.le.ρ x hd]
      exact p.news x hx hlt hF hn1 (by rw [← q.le.vir x hd]; exact hv)
    · rcases q.news x hge hx2 hF hn hv with h | ⟨y, hy, hyn, hyH, hyv, he⟩
      · exact .inl (Nat.le_trans p.size h)
      · rcases Nat.lt_or_ge y nx with hlt | hge'
        · obtain ⟨e1, e2, e3⟩ := hold y hlt (hw y hy) hyH
          exact .inr ⟨y, hy, hlt, e3, e1 ▸ hyv, he.trans e2⟩
        · rcases p.news y hge' hyn (hw y hy) hyH hyv with h | ⟨z, hz, hzn, hzH, hzv, hz'⟩
          · exact .inl (he ▸ h)
          · exact .inr ⟨z, hz, hzn, hzH, hzv, he.trans hz'⟩
theorem Pst.refl (h : Sim FP E H w) : Pst FP E E H H nx nx wr w w :=
  ⟨⟨.refl E, fun _ hx => .inl hx, h, fun _ _ _ => ⟨rfl, rfl⟩, fun _ h1 h2 => absurd h1 (by omega), Nat.le_refl _, rfl, rfl, rfl⟩, fun _ _ _ h => h⟩
/-- The names of an environment, one more. -/
def Env.add (E : Env) (x b cp ln : Nat) (vir : Bool) : Env :=
  { E with ρ := fun y => if y = x then b else E.ρ y, dom := fun y => y = x ∨ E.dom y, vir := fun y => if y = x then vir else E.vir y, cp := fun y => if y = x then cp else E.cp y, ln := fun y => if y = x then ln else E.ln y }
theorem Env.le_add {x : Nat} (hx : ¬ E.dom x) (b cp ln : Nat) (vir : Bool) : E.le (E.add x b cp ln vir) := by
  have key : ∀ y, E.dom y → y ≠ x := fun y hy e => hx (e ▸ hy)
  exact ⟨fun y hy => .inr hy, fun y hy => by simp [Env.add, key y hy], fun y hy => by simp [Env.add, key y hy], fun y hy => by simp [Env.add, key y hy], fun y hy => by simp [Env.add, key y hy], fun _ _ h => h⟩
/-- A new block. -/
theorem Pst.alloc (h : Sim FP E H w) (hx : ¬ E.dom nx) (hF : FP nx) (hwr : nx ∈ wr) {B : Blk} {c : Array Value} {ty : TypeId} {cp ln : Nat}
    (hB : BlkR (E.add nx w.heap.size cp ln false) nx B (some (.cells c ty (0, 0)))) (hH : ∀ y, H' y = if nx = y then some B else H y) :
    Pst FP E (E.add nx w.heap.size cp ln false) H H' nx (nx + 1) wr w (w.alloc (.cells c ty)) := by
  have hl := Env.le_add (E := E) hx w.heap.size cp ln false
  have hne : ∀ y, FP y → H y ≠ none → nx ≠ y := fun y hy hn e => hx (e ▸ h.dom y hy hn)
  have hρ : (E.add nx w.heap.size cp ln false).ρ nx = w.heap.size := by simp [Env.add]
  refine ⟨⟨hl, ?_, ⟨?_, ?_, ?_, ?_, ?_⟩, ?_, ?_, ?_, rfl, rfl, rfl⟩, ?_⟩
  · rintro x (rfl | hx')
    · exact .inr ⟨Nat.le_refl _, by omega⟩
    · exact .inl hx'
  · intro b c' hb
    obtain ⟨t, fr, hb'⟩ := h.fz b c' hb
    have := blkW_some_lt hb'
    exact ⟨t, fr, (blkW_alloc_old w _ (by omega)).trans hb'⟩
  · intro x hF' hn
    rw [hH] at hn
    by_cases e : nx = x
    · exact .inl e.symm
    · rw [if_neg e] at hn; exact .inr (h.dom x hF' hn)
  · intro x hF' hn hv
    rw [hH] at hn
    by_cases e : nx = x
    · subst e
      rw [hρ, alloc_size]
      refine ⟨by omega, ?_⟩
      cases hz : E.fz w.heap.size with
      | none => exact hz
      | some c' =>
        obtain ⟨t, fr, hb'⟩ := h.fz _ _ hz
        have := blkW_some_lt hb'
        omega
    · rw [if_neg e] at hn
      have hd := h.dom x hF' hn
      rw [hl.ρ x hd, alloc_size]
      obtain ⟨h1, h2⟩ := h.low x hF' hn (by rw [← hl.vir x hd]; exact hv)
      exact ⟨by omega, h2⟩
  · intro x B' hF' hB'
    rw [hH] at hB'
    by_cases e : nx = x
    · subst e
      rw [if_pos rfl] at hB'; cases hB'
      rw [hρ, blkW_alloc_new]; exact hB
    · rw [if_neg e] at hB'
      have hn : H x ≠ none := by rw [hB']; simp
      have hd := h.dom x hF' hn
      have hb := (h.blk x B' hF' hB').mono hl hd
      rw [hl.ρ x hd]
      by_cases hv : E.vir x = true
      · cases B' with
        | fix ty cs => exact absurd hb.1 (by rw [hl.vir x hd, hv]; simp)
        | arr ty n k get =>
          obtain ⟨hq, hb⟩ := hb
          rcases hb with hb | hb
          · exact ⟨hq, .inl hb⟩
          · exact absurd hb.1 (by rw [hl.vir x hd, hv]; simp)
      · have hlow := (h.low x hF' hn (by simpa using hv)).1
        rw [blkW_alloc_old w _ (by omega)]; exact hb
  · intro x y hFx hFy hnx hny hvx hvy he
    rw [hH] at hnx hny
    by_cases e1 : nx = x
    · by_cases e2 : nx = y
      · omega
      · exfalso
        subst e1
        rw [if_neg e2] at hny
        have hd := h.dom y hFy hny
        have := (h.low y hFy hny (by rw [← hl.vir y hd]; exact hvy)).1
        rw [hρ, hl.ρ y hd] at he; omega
    · rw [if_neg e1] at hnx
      have hdx := h.dom x hFx hnx
      by_cases e2 : nx = y
      · exfalso
        subst e2
        have := (h.low x hFx hnx (by rw [← hl.vir x hdx]; exact hvx)).1
        rw [hρ, hl.ρ x hdx] at he; omega
      · rw [if_neg e2] at hny
        have hdy := h.dom y hFy hny
        rw [hl.ρ x hdx, hl.ρ y hdy] at he
        exact h.inj x y hFx hFy hnx hny (by rw [← hl.vir x hdx]; exact hvx) (by rw [← hl.vir y hdy]; exact hvy) he
  · intro b hb _
    exact ⟨blkW_alloc_old w _ (by omega), rfl⟩
  · intro x h1 h2 _ _ _
    obtain rfl : x = nx := by omega
    exact .inl (by rw [hρ]; exact Nat.le_refl _)
  · rw [alloc_size]; omega
  · intro x hx' hF' hn
    rw [hH, if_neg (by omega)] at hn; exact hn
/-- A block written. -/
theorem Pst.set {x : Nat} {B B' : Blk} (h : Sim FP E H w) (hF : FP x) (hx : H x = some B) (hv : E.vir x = false) (hwr : x ∈ wr) (hlt : x < nx) {w' : World}
    (hB : BlkR E x B' (blkW w' (E.ρ x))) (hH : ∀ y, H' y = if x = y then some B' else H y)
    (ho : ∀ b, b ≠ E.ρ x → blkW w' b = blkW w b) (hs : w'.heap.size = w.heap.size) (h1 : w'.os = w.os) (h2 : w'.tape = w.tape) (h3 : w'.output = w.output) :
    Pst FP E E H H' nx nx wr w w' := by
  have hxn : H x ≠ none := by rw [hx]; simp
  have hfz := (h.low x hF hxn hv).2
  have alive : ∀ y, H' y ≠ none → H y ≠ none := fun y hy => by
    rw [hH] at hy
    by_cases e : x = y
    · subst e; exact hxn
    · rwa [if_neg e] at hy
  refine ⟨⟨.refl E, fun _ hx => .inl hx, ⟨?_, fun y hy hn => h.dom y hy (alive y hn), fun y hy hn hv => by rw [hs]; exact h.low y hy (alive y hn) hv, ?_, fun a b ha hb hna hnb => h.inj a b ha hb (alive a hna) (alive b hnb)⟩,
    ?_, fun _ h1 h2 => absurd h1 (by omega), by omega, h1, h2, h3⟩, fun y _ _ hn => alive y hn⟩
  · intro b c hb
    obtain ⟨t, fr, hb'⟩ := h.fz b c hb
    exact ⟨t, fr, (ho b (fun e => by rw [e, hfz] at hb; cases hb)).trans hb'⟩
  · intro y B'' hy hB''
    rw [hH] at hB''
    by_cases e : x = y
    · subst e; rw [if_pos rfl] at hB''; cases hB''; exact hB
    · rw [if_neg e] at hB''
      have hyn : H y ≠ none := by rw [hB'']; simp
      by_cases hvy : E.vir y = true
      · have hb := h.blk y B'' hy hB''
        cases B'' with
        | fix ty cs => exact absurd hb.1 (by rw [hvy]; simp)
        | arr ty n k get =>
          obtain ⟨hq, hb⟩ := hb
          rcases hb with hb | hb
          · exact ⟨hq, .inl hb⟩
          · exact absurd hb.1 (by rw [hvy]; simp)
      · rw [ho _ (fun e' => e (h.inj x y hF hy hxn hyn hv (by simpa using hvy) e'.symm))]
        exact h.blk y B'' hy hB''
  · intro b _ hb
    exact ⟨ho b (hb x hwr hlt hxn hv), rfl⟩
end
end Go.Proofs.YtdlghljhgbakjaaDoor
