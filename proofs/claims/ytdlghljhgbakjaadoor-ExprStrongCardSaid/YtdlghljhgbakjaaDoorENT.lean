/-
  PART: states made canonical: some slots kept, the blocks that they lead to under new names, closed numbers made open.
-/
import Derived.Test.YtdlghljhgbakjaaDoorENS
namespace Go.Proofs.YtdlghljhgbakjaaDoor
open Go.RowKit

def idxN : List Nat → Nat → Nat → Option Nat
  | [], _, _ => none
  | y :: l, x, i => match Nat.beq y x with
    | true => some i
    | false => idxN l x (i + 1)
/-- The new name of a block. -/
def newN (nx0 : Nat) (L : List Nat) (x : Nat) : Option Nat := match Nat.blt x nx0 with
  | true => some x
  | false => idxN L x nx0
def renA (nx0 : Nat) (L : List Nat) : Nat → AV → AV
  | 0, _ => .unk
  | d + 1, a => match a with
    | .lit v => .lit v
    | .v v => .v v
    | .agg l => .agg (l.map (renA nx0 L d))
    | .tup l => .tup (l.map (renA nx0 L d))
    | .fz cs off => .fz (cs.map (renA nx0 L d)) off
    | .fn f a b => .fn f (a.map (renA nx0 L d)) (b.map (renA nx0 L d))
    | .any φ => .any φ
    | .sl n k get nl full => .sl n k (fun i => (get i).map (renA nx0 L d)) nl full
    | .ptr x off => match newN nx0 L x with
      | some y => .ptr y off
      | none => .unk
    | .pti x base i str n off => match newN nx0 L x with
      | some y => .pti y base i str n off
      | none => .unk
    | .pe x i k off il => match newN nx0 L x with
      | some y => .pe y i k off il
      | none => .unk
    | .own x n k nl => match newN nx0 L x with
      | some y => .own y n k nl
      | none => .unk
    | .slv x off n k => match newN nx0 L x with
      | some y => .slv y off n k
      | none => .unk
    | .unk => .unk
/-- Closed numbers made open. -/
def genA : Nat → AV → AV
  | 0, a => a
  | d + 1, a => match a with
    | .lit v => .v v
    | .agg l => .agg (l.map (genA d))
    | .tup l => .tup (l.map (genA d))
    | .own x n k _ => .own x n k false
    | .sl n k get _ full => .sl n k get false full
    | a => a
def oldN (nx0 : Nat) (L : List Nat) (y : Nat) : Nat := match Nat.blt y nx0 with
  | true => y
  | false => L.getD (y - nx0) 0
def genB (g : Bool) : Blk → Blk
  | .fix ty cs => .fix ty (match g with | true => cs.map (genA 3) | false => cs)
  | b => b
def renB (nx0 : Nat) (L : List Nat) : Blk → Blk
  | .fix ty cs => .fix ty (cs.map (renA nx0 L 4))
  | .arr ty n k get => .arr ty n k (fun i => (get i).map (renA nx0 L 4))
def distinct : List Nat → Bool
  | [] => true
  | x :: l => !l.elem x && distinct l
def idsH (hp : List (Nat × Option Blk)) (x : Nat) : List Nat := idsB hp x
/-- The blocks that some lead to, in the order in which they are met. -/
def meet (hp : List (Nat × Option Blk)) (nx0 : Nat) : Nat → List Nat → List Nat → List Nat
  | 0, _, acc => acc
  | _, [], acc => acc
  | d + 1, x :: l, acc => match Nat.blt x nx0 || acc.elem x with
    | true => meet hp nx0 d l acc
    | false => meet hp nx0 d (idsH hp x ++ l) (acc ++ [x])
def names (nx0 : Nat) : Nat → List Nat → List (Nat × Nat)
  | _, [] => []
  | i, x :: l => (nx0 + i, x) :: names nx0 (i + 1) l
def olds : Nat → List (Nat × Nat)
  | 0 => []
  | n + 1 => olds n ++ [(n, n)]
/-- Slots to be kept; whether their closed numbers are made open. -/
def canon (nx0 : Nat) (ds : List (Nat × Bool)) (gb : Bool) (s : St) : Option St :=
  let L := meet s.hp nx0 60 (ds.flatMap fun d => idsA 5 (look s.sl d.1)) []
  match distinct L && L.all (fun x => Nat.ble nx0 x) with
  | true => some { sl := ds.map fun d => (d.1, match d.2 with | true => genA 3 (renA nx0 L 5 (look s.sl d.1)) | false => renA nx0 L 5 (look s.sl d.1)),
                   hp := (olds nx0 ++ names nx0 0 L).map fun p => (p.1, (hget s.hp p.2).map fun b => genB gb (renB nx0 L b)), nx := nx0 + L.length, rd := [], wr := [], ws := [], wb := [], wc := [] }
  | false => none
section
variable {E : Env} {nx0 : Nat} {L : List Nat}
/-- The world under the new names. -/
def Env.ren (E : Env) (nx0 : Nat) (L : List Nat) : Env :=
  { ρ := fun y => E.ρ (oldN nx0 L y), dom := fun y => E.dom (oldN nx0 L y) ∧ y < nx0 + L.length, vir := fun y => E.vir (oldN nx0 L y), cp := fun y => E.cp (oldN nx0 L y), ln := fun y => E.ln (oldN nx0 L y), fz := E.fz, gok := E.gok }
theorem idxN_ok : ∀ (L : List Nat) (x i y : Nat), idxN L x i = some y → ∃ j, y = i + j ∧ L[j]? = some x
  | [], x, i, y, h => by cases h
  | z :: L, x, i, y, h => by
    unfold idxN at h
    split at h
    · rename_i hb
      obtain rfl := Nat.eq_of_beq_eq_true hb
      cases h; exact ⟨0, rfl, rfl⟩
    · obtain ⟨j, h1, h2⟩ := idxN_ok L x (i + 1) y h
      exact ⟨j + 1, by omega, by simpa using h2⟩
theorem newN_ok {x y : Nat} (h : newN nx0 L x = some y) : oldN nx0 L y = x ∧ y < nx0 + L.length := by
  unfold newN at h
  split at h
  · rename_i hb
    cases h
    have hb' : x < nx0 := by simpa [Nat.blt_eq] using hb
    unfold oldN; rw [hb]
    exact ⟨rfl, by omega⟩
  · obtain ⟨j, rfl, hj⟩ := idxN_ok L x nx0 y h
    have hlt := (List.getElem?_eq_some_iff.1 hj).1
    have hb : Nat.blt (nx0 + j) nx0 = false := by
      cases hq : Nat.blt (nx0 + j) nx0 with
      | false => rfl
      | true => rw [Nat.blt_eq] at hq; omega
    unfold oldN; rw [hb]
    refine ⟨?_, by omega⟩
    simp [List.getD, hj]
theorem renA_ok : ∀ (d : Nat) (a : AV) (v : Value), Rep E a v → Rep (E.ren nx0 L) (renA nx0 L d a) v
  | 0, a, v, h => .unk v
  | d + 1, a, v, h => by
    have ihs : ∀ {l : List AV} {vs : List Value}, Reps E l vs → Reps (E.ren nx0 L) (l.map (renA nx0 L d)) vs := fun h => h.mapR fun a _ v => renA_ok d a v
    have dm : ∀ {x y : Nat}, newN nx0 L x = some y → E.dom x → (E.ren nx0 L).dom y := fun {x y} hn hd => by
      obtain ⟨h1, h2⟩ := newN_ok hn
      exact ⟨by rw [h1]; exact hd, h2⟩
    have at' : ∀ {x y : Nat}, newN nx0 L x = some y → (E.ren nx0 L).ρ y = E.ρ x ∧ (E.ren nx0 L).vir y = E.vir x ∧ (E.ren nx0 L).cp y = E.cp x ∧ (E.ren nx0 L).ln y = E.ln x := fun {x y} hn => by
      obtain ⟨h1, _⟩ := newN_ok hn
      refine ⟨?_, ?_, ?_, ?_⟩ <;> simp only [Env.ren, h1]
    unfold renA
    match h with
    | .lit v h => exact .lit v h
    | .v v h => exact .v v h
    | .agg h ho => exact .agg (ihs h) ho
    | .tup h => exact .tup (ihs h)
    | .fz h hs hr ho => exact .fz (E := E.ren nx0 L) h (by rw [List.length_map]; exact hs) (by rw [List.length_map]; exact ihs hr) (by rw [List.length_map]; exact ho)
    | .slNil hn => exact .slNil hn
    | .slEmp hn hf => exact .slEmp hn hf
    | .sl h hs hf hc hr ho => exact .sl (E := E.ren nx0 L) h hs hf hc (fun i hi => ihs (hr i hi)) ho
    | .fn h h' => exact .fn (ihs h) (ihs h')
    | .any h ho => exact .any h ho
    | .unk v => exact .unk _
    | @Rep.ptr _ x off hd =>
      simp only []
      split
      · rename_i y hn; rw [← (at' hn).1]; exact .ptr (dm hn hd)
      · exact .unk _
    | @Rep.pti _ x base str n off i hd h0 h1 =>
      simp only []
      split
      · rename_i y hn; rw [← (at' hn).1]; exact .pti (dm hn hd) h0 h1
      · exact .unk _
    | @Rep.pe _ x i k off il hd =>
      simp only []
      split
      · rename_i y hn; rw [← (at' hn).1]; exact .pe (dm hn hd)
      · exact .unk _
    | @Rep.own _ x n k nl hd hv hn' =>
      simp only []
      split
      · rename_i y hn
        obtain ⟨a1, a2, a3, a4⟩ := at' hn
        rw [← a1, ← a3]; exact .own (dm hn hd) (a2.trans hv) (hn'.trans a4.symm)
      · exact .unk _
    | @Rep.ownNil _ x n k nl hd hv hn' hl =>
      simp only []
      split
      · rename_i y hn
        obtain ⟨a1, a2, a3, a4⟩ := at' hn
        exact .ownNil (dm hn hd) (a2.trans hv) hn' (hl.trans a4.symm)
      · exact .unk _
    | @Rep.slv _ x off n k hd =>
      simp only []
      split
      · rename_i y hn; rw [← (at' hn).1]; exact .slv (dm hn hd)
      · exact .unk _
theorem genA_ok : ∀ (d : Nat) (a : AV) (v : Value), Rep E a v → Rep E (genA d a) v
  | 0, a, v, h => h
  | d + 1, a, v, h => by
    have ihs : ∀ {l : List AV} {vs : List Value}, Reps E l vs → Reps E (l.map (genA d)) vs := fun h => h.mapR fun a _ v => genA_ok d a v
    unfold genA
    match h with
    | .lit v h => exact .v v h
    | .v v h => exact .v v h
    | .agg h ho => exact .agg (ihs h) ho
    | .tup h => exact .tup (ihs h)
    | .fz h hs hr ho => exact .fz h hs hr ho
    | .slNil hn => exact .slNil hn
    | .slEmp hn hf => exact .slEmp hn hf
    | .sl h hs hf hc hr ho => exact .sl h hs hf hc hr ho
    | .fn h h' => exact .fn h h'
    | .any h ho => exact .any h ho
    | .unk v => exact .unk _
    | .ptr h => exact .ptr h
    | .pti h h0 h1 => exact .pti h h0 h1
    | .pe h => exact .pe h
    | .own h hv hn => exact .own h hv hn
    | .ownNil h hv hn hl => exact .ownNil h hv hn hl
    | .slv h => exact .slv h
theorem genB_ok {x : Nat} {g : Bool} {b : Blk} {o : Option Obj} (h : BlkR E x b o) : BlkR E x (genB g b) o := by
  cases b with
  | arr ty n k get => exact h
  | fix ty cs =>
    cases g with
    | false => exact h
    | true =>
      obtain ⟨h1, c, h2, h3, h4⟩ := h
      exact ⟨h1, c, h2, h3.mapR fun a _ v => genA_ok 3 a v, h4⟩
theorem renB_ok {y : Nat} {b : Blk} {o : Option Obj} (h : BlkR E (oldN nx0 L y) b o) : BlkR (E.ren nx0 L) y (renB nx0 L b) o := by
  cases b with
  | fix ty cs =>
    obtain ⟨h1, c, h2, h3, h4⟩ := h
    exact ⟨h1, c, h2, h3.mapR fun a _ v => renA_ok 4 a v, h4⟩
  | arr ty n k get =>
    obtain ⟨h0, h⟩ := h
    refine ⟨h0, ?_⟩
    rcases h with h | ⟨h1, c, h2, h3, h4, h5, h6⟩
    · exact .inl h
    · exact .inr ⟨h1, c, h2, h3, h4, h5, fun i hi => (h6 i hi).mapR fun a _ v => renA_ok 4 a v⟩
theorem olds_mem : ∀ (n : Nat) (p : Nat × Nat), p ∈ olds n → p.1 < n ∧ p.2 = p.1
  | 0, p, h => by cases h
  | n + 1, p, h => by
    unfold olds at h
    rcases List.mem_append.1 h with h | h
    · have := olds_mem n p h; exact ⟨by omega, this.2⟩
    · simp at h; subst h; exact ⟨Nat.lt_succ_self n, rfl⟩
theorem names_mem : ∀ (L : List Nat) (i : Nat) (p : Nat × Nat), p ∈ names nx0 i L → ∃ j, p.1 = nx0 + i + j ∧ L[j]? = some p.2
  | [], i, p, h => by cases h
  | x :: L, i, p, h => by
    unfold names at h
    rcases List.mem_cons.1 h with h | h
    · subst h; exact ⟨0, rfl, rfl⟩
    · obtain ⟨j, h1, h2⟩ := names_mem L (i + 1) p h
      exact ⟨j + 1, by omega, by simpa using h2⟩
theorem pair_old {p : Nat × Nat} (h : p ∈ olds nx0 ++ names nx0 0 L) : oldN nx0 L p.1 = p.2 ∧ p.1 < nx0 + L.length := by
  rcases List.mem_append.1 h with h | h
  · obtain ⟨h1, h2⟩ := olds_mem _ _ h
    have : Nat.blt p.1 nx0 = true := by simpa [Nat.blt_eq] using h1
    unfold oldN; rw [this]
    exact ⟨h2.symm, by omega⟩
  · obtain ⟨j, h1, h2⟩ := names_mem _ _ _ h
    have hlt := (List.getElem?_eq_some_iff.1 h2).1
    have hb : Nat.blt p.1 nx0 = false := by
      cases hq : Nat.blt p.1 nx0 with
      | false => rfl
      | true => rw [Nat.blt_eq] at hq; omega
    unfold oldN; rw [hb]
    refine ⟨?_, by omega⟩
    have : p.1 - nx0 = j := by omega
    simp [List.getD, this, h2]
theorem hget_map {f : Nat → Option Blk} : ∀ {l : List (Nat × Nat)} {y : Nat} {B : Blk}, hget (l.map fun p => (p.1, f p.2)) y = some B → ∃ p, p ∈ l ∧ p.1 = y ∧ f p.2 = some B
  | [], y, B, h => by cases h
  | p :: l, y, B, h => by
    simp only [List.map_cons, hget_cons] at h
    by_cases e : p.1 = y
    · rw [if_pos e] at h; exact ⟨p, List.mem_cons_self .., e, h⟩
    · rw [if_neg e] at h
      obtain ⟨q, h1, h2⟩ := hget_map h
      exact ⟨q, List.mem_cons_of_mem _ h1, h2⟩
theorem distinct_ok : ∀ {L : List Nat}, distinct L = true → ∀ (i j x : Nat), L[i]? = some x → L[j]? = some x → i = j
  | [], _, i, j, x, h, _ => by simp at h
  | z :: L, h, i, j, x, h1, h2 => by
    simp only [distinct, Bool.and_eq_true, Bool.not_eq_true'] at h
    have nin : ∀ (k : Nat), L[k]? = some z → False := fun k hk => by
      have := List.mem_of_getElem? hk
      have h' : L.elem z = true := by simpa using this
      rw [h'] at h; cases h.1
    cases i with
    | zero =>
      simp at h1; subst h1
      cases j with
      | zero => rfl
      | succ j => simp at h2; exact (nin j h2).elim
    | succ i =>
      simp at h1
      cases j with
      | zero => simp at h2; subst h2; exact (nin i h1).elim
      | succ j => simp at h2; rw [distinct_ok h.2 i j x h1 h2]
theorem look_map {ds : List (Nat × Bool)} {f : Nat × Bool → AV} {s : St} (hf : ∀ p v, Rep E (look s.sl p.1) v → Rep (E.ren nx0 L) (f p) v) (d : Nat) (v : Value) (h : Rep E (look s.sl d) v) : Rep (E.ren nx0 L) (look (ds.map fun p => (p.1, f p)) d) v := by
  induction ds with
  | nil => exact .unk v
  | cons p ds ih =>
    simp only [List.map_cons, look_cons]
    by_cases e : p.1 = d
    · rw [if_pos e]; subst e; exact hf p v h
    · rw [if_neg e]; exact ih
theorem canon_ok {B : Start} {ds : List (Nat × Bool)} {gb : Bool} {s m : St} (h : canon B.nx0 ds gb s = some m) : HoldLe B s m := by
  unfold canon at h
  dsimp only at h
  generalize meet s.hp B.nx0 60 (ds.flatMap fun d => idsA 5 (look s.sl d.1)) [] = L at h
  split at h
  · rename_i hL
    simp only [Bool.and_eq_true] at hL
    obtain ⟨hdis, hge⟩ := hL
    cases h
    intro act w ⟨E, p, hf, hb, hwf, hd, hnx⟩
    have hm : ∀ y B', hget (((olds B.nx0 ++ names B.nx0 0 L)).map fun q => (q.1, (hget s.hp q.2).map fun b => genB gb (renB B.nx0 L b))) y = some B' → ∃ b, hget s.hp (oldN B.nx0 L y) = some b ∧ B' = genB gb (renB B.nx0 L b) ∧ y < B.nx0 + L.length := fun y B' hB => by
      obtain ⟨q, h1, h2, h3⟩ := hget_map (f := fun x => (hget s.hp x).map fun b => genB gb (renB B.nx0 L b)) hB
      obtain ⟨k1, k2⟩ := pair_old h1
      subst h2
      cases hg : hget s.hp q.2 with
      | none => rw [hg] at h3; cases h3
      | some b =>
        rw [hg] at h3
        exact ⟨b, by rw [k1]; exact hg, by cases h3; rfl, k2⟩
    have al : ∀ y, hget (((olds B.nx0 ++ names B.nx0 0 L)).map fun q => (q.1, (hget s.hp q.2).map fun b => genB gb (renB B.nx0 L b))) y ≠ none → hget s.hp (oldN B.nx0 L y) ≠ none ∧ y < B.nx0 + L.length := fun y hy => by
      cases hB : hget (((olds B.nx0 ++ names B.nx0 0 L)).map fun q => (q.1, (hget s.hp q.2).map fun b => genB gb (renB B.nx0 L b))) y with
      | none => exact absurd hB hy
      | some B' =>
        obtain ⟨b, h1, _, h3⟩ := hm y B' hB
        exact ⟨by rw [h1]; simp, h3⟩
    have lo : ∀ y, y < B.nx0 → oldN B.nx0 L y = y := fun y hy => by
      have : Nat.blt y B.nx0 = true := by simpa [Nat.blt_eq] using hy
      unfold oldN; rw [this]
    have hi : ∀ y, B.nx0 ≤ y → y < B.nx0 + L.length → L[y - B.nx0]? = some (oldN B.nx0 L y) ∧ B.nx0 ≤ oldN B.nx0 L y := fun y h1 h2 => by
      have hq : Nat.blt y B.nx0 = false := by
        cases hq : Nat.blt y B.nx0 with
        | false => rfl
        | true => rw [Nat.blt_eq] at hq; omega
      have hlt : y - B.nx0 < L.length := by omega
      have h3 : L[y - B.nx0]? = some (oldN B.nx0 L y) := by
        unfold oldN; rw [hq]
        simp [List.getD, List.getElem?_eq_getElem hlt]
      exact ⟨h3, Nat.le_of_ble_eq_true (List.all_eq_true.1 hge _ (List.mem_of_getElem? h3))⟩
    refine ⟨E.ren B.nx0 L, ⟨⟨⟨fun x hx => ?_, fun x hx => ?_, fun x hx => ?_, fun x hx => ?_, fun x hx => ?_, p.le.fz⟩, fun y hy => ?_, ⟨p.sim.fz, fun y hF hn => ?_, fun y hF hn hv => ?_, fun y B' hF hB => ?_, fun y z _ _ hny hnz hvy hvz he => ?_⟩, p.frame, fun y h1 h2 hF hn hv => ?_, p.size, p.os, p.tape, p.output⟩, fun y hy hF hn => ?_⟩, ⟨hf.size, fun d => ?_⟩, fun y hy => hy.2, fun y hy => (al y hy).2, hd, Nat.le_add_right _ _⟩
    · have hlt := B.bound x hx
      exact ⟨by rw [lo x hlt]; exact p.le.dom x hx, by omega⟩
    · show E.ρ (oldN B.nx0 L x) = _
      rw [lo x (B.bound x hx)]; exact p.le.ρ x hx
    · show E.vir (oldN B.nx0 L x) = _
      rw [lo x (B.bound x hx)]; exact p.le.vir x hx
    · show E.cp (oldN B.nx0 L x) = _
      rw [lo x (B.bound x hx)]; exact p.le.cp x hx
    · show E.ln (oldN B.nx0 L x) = _
      rw [lo x (B.bound x hx)]; exact p.le.ln x hx
    · rcases Nat.lt_or_ge y B.nx0 with h | h
      · have h1 := hy.1
        rw [lo y h] at h1
        rcases p.dom y h1 with h2 | h2
        · exact .inl h2
        · exact absurd h2.1 (Nat.not_le.2 h)
      · exact .inr ⟨h, hy.2⟩
    · obtain ⟨h1, h2⟩ := al y hn
      exact ⟨p.sim.dom _ trivial h1, h2⟩
    · exact p.sim.low _ trivial (al y hn).1 hv
    · obtain ⟨b, h1, rfl, _⟩ := hm y B' hB
      exact genB_ok (renB_ok (p.sim.blk _ b trivial h1))
    · obtain ⟨h1, h2⟩ := al y hny
      obtain ⟨h3, h4⟩ := al z hnz
      have heq := p.sim.inj _ _ trivial trivial h1 h3 hvy hvz he
      rcases Nat.lt_or_ge y B.nx0 with hy | hy
      · rcases Nat.lt_or_ge z B.nx0 with hz | hz
        · rw [lo y hy, lo z hz] at heq; exact heq
        · have := (hi z hz h4).2
          rw [← heq, lo y hy] at this; omega
      · rcases Nat.lt_or_ge z B.nx0 with hz | hz
        · have := (hi y hy h2).2
          rw [heq, lo z hz] at this; omega
        · have k1 := (hi y hy h2).1
          have k2 := (hi z hz h4).1
          rw [heq] at k1
          have := distinct_ok hdis _ _ _ k1 k2
          omega
    · obtain ⟨k1, k2⟩ := al y hn
      exact p.news _ (hi y h1 k2).2 (hwf _ k1) trivial k1 hv
    · have := (al y hn).1
      rw [lo y hy] at this
      exact p.old y hy trivial this
    · refine look_map (s := s) (fun q v hv => ?_) d _ (hf.slot d)
      cases q.2 with
      | true => exact genA_ok 3 _ _ (renA_ok 5 _ _ hv)
      | false => exact renA_ok 5 _ _ hv
  · cases h
end
end Go.Proofs.YtdlghljhgbakjaaDoor
