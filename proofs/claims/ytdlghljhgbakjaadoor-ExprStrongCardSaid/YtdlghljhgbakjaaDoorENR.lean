/-
  PART: contracts of functions that leave memory as it is: known by a table; their arguments' blocks are frozen for the call.
-/
import Derived.Test.YtdlghljhgbakjaaDoorENQ
namespace Go.Proofs.YtdlghljhgbakjaaDoor
open Go.RowKit

/-- A value that leads to no block of its own. -/
def strip : Nat → AV → AV
  | 0, _ => .unk
  | d + 1, a => match a with
    | .lit v => .lit v
    | .v v => .v v
    | .agg l => .agg (l.map (strip d))
    | .tup l => .tup (l.map (strip d))
    | .fz cs off => .fz (cs.map (strip d)) off
    | .sl n k get nl full => .sl n k (fun i => (get i).map (strip d)) nl full
    | .fn f a b => .fn f (a.map (strip d)) (b.map (strip d))
    | .any φ => .any φ
    | _ => .unk
/-- A value whose blocks are taken to stay as they are. -/
def frz (hp : List (Nat × Option Blk)) : Nat → AV → AV
  | 0, _ => .unk
  | d + 1, a => match a with
    | .lit v => .lit v
    | .v v => .v v
    | .agg l => .agg (l.map (frz hp d))
    | .tup l => .tup (l.map (frz hp d))
    | .fz cs off => .fz (cs.map (frz hp d)) off
    | .fn f a b => .fn f (a.map (frz hp d)) (b.map (frz hp d))
    | .any φ => .any φ
    | .sl n k get nl full => .sl n k (fun i => (get i).map (strip d)) nl full
    | .ptr x off => match hget hp x with
      | some (.fix _ cs) => .fz (cs.map (frz hp d)) off
      | _ => .unk
    | .own x n k nl => match hget hp x with
      | some (.arr _ m k' get) => match Nat.beq k k' with
        | true => .sl n k (fun i => (get i).map (strip d)) nl false
        | false => .unk
      | _ => .unk
    | _ => .unk
/-- The blocks that are looked at for that. -/
def frzIds (hp : List (Nat × Option Blk)) : Nat → AV → List Nat
  | 0, _ => []
  | d + 1, a => match a with
    | .agg l => l.flatMap (frzIds hp d)
    | .tup l => l.flatMap (frzIds hp d)
    | .fz cs _ => cs.flatMap (frzIds hp d)
    | .fn _ a b => a.flatMap (frzIds hp d) ++ b.flatMap (frzIds hp d)
    | .ptr x _ => x :: (match hget hp x with
      | some (.fix _ cs) => cs.flatMap (frzIds hp d)
      | _ => [])
    | .own x _ _ _ => [x]
    | _ => []
def plainA : Nat → AV → Bool
  | 0, _ => false
  | d + 1, a => match a with
    | .lit _ => true
    | .v _ => true
    | .agg l => l.all (plainA d)
    | .tup l => l.all (plainA d)
    | _ => false
def FzOk (E : Env) (w : World) : Prop := ∀ b c, E.fz b = some c → ∃ ty fr, blkW w b = some (.cells c ty fr)
/-- What was there is as it was. -/
structure Quiet (w w' : World) : Prop where
  old : ∀ b, b < w.heap.size → blkW w' b = blkW w b
  size : w.heap.size ≤ w'.heap.size
  os : w'.os = w.os
  tape : w'.tape = w.tape
  output : w'.output = w.output
/-- A contract: of these arguments that answer; memory stays. -/
def PureOk (P : Program) (f : Nat) (args : List AV) (a : AV) : Prop :=
  ∀ (r : Option Nat) (E : Env) (w : World) (vals : Array Value) (K : Value → World → Prop), (∀ x, ¬ E.dom x) → FzOk E w → Reps E args vals.toList → (∀ v w', (∀ E2, Rep E2 a v) → Quiet w w' → K v w') →
    (∃ v, (callFunc f vals).run P w = .ok (.value v) w ∧ K v w) ∨ ((callFunc f vals).run P w = .ok (.enter f vals) w ∧ CallsIn (wideR r) 0 P f vals w fun e w' => ∃ v, e = .returned v ∧ K v w')
section
variable {P : Program} {E E' : Env}
theorem Reps.mapR {g : AV → AV} {l : List AV} {vs : List Value} (h : Reps E l vs) (hg : ∀ a, a ∈ l → ∀ v, Rep E a v → Rep E' (g a) v) : Reps E' (l.map g) vs := by
  induction l generalizing vs with
  | nil => cases h; exact .nil
  | cons a l ih => cases h with
    | cons h t => exact .cons (hg a (List.mem_cons_self ..) _ h) (ih t fun b hb => hg b (List.mem_cons_of_mem _ hb))
theorem strip_ok (hfz : ∀ b c, E.fz b = some c → E'.fz b = some c) : ∀ (d : Nat) (a : AV) (v : Value), Rep E a v → Rep E' (strip d a) v
  | 0, a, v, h => .unk v
  | d + 1, a, v, h => by
    have ih := strip_ok hfz d
    have ihs : ∀ {l : List AV} {vs : List Value}, Reps E l vs → Reps E' (l.map (strip d)) vs := fun h => h.mapR fun a _ v => ih a v
    unfold strip
    match h with
    | .lit v h => exact .lit v h
    | .v v h => exact .v v h
    | .agg h ho => exact .agg (ihs h) ho
    | .tup h => exact .tup (ihs h)
    | .fz h hs hr ho => exact .fz (hfz _ _ h) (by rw [List.length_map]; exact hs) (by rw [List.length_map]; exact ihs hr) (by rw [List.length_map]; exact ho)
    | .slNil hn => exact .slNil hn
    | .slEmp hn hf => exact .slEmp hn hf
    | .sl h hs hf hc hr ho => exact .sl (hfz _ _ h) hs hf hc (fun i hi => ihs (hr i hi)) ho
    | .fn h h' => exact .fn (ihs h) (ihs h')
    | .any h ho => exact .any (fun fz' hf => h fz' fun b c hb => hf b c (hfz b c hb)) ho
    | .ptr _ => exact .unk _
    | .pti _ _ _ => exact .unk _
    | .pe _ => exact .unk _
    | .own _ _ _ => exact .unk _
    | .ownNil _ _ _ _ => exact .unk _
    | .slv _ => exact .unk _
    | .unk v => exact .unk _
theorem frz_ok {FP : Nat → Prop} {hp : List (Nat × Option Blk)} {w : World} (hS : Sim FP E (hget hp) w) (hfz : ∀ b c ty fr, blkW w b = some (.cells c ty fr) → E'.fz b = some c) :
    ∀ (d : Nat) (a : AV) (v : Value), (∀ x, x ∈ frzIds hp d a → FP x) → Rep E a v → Rep E' (frz hp d a) v
  | 0, a, v, hF, h => .unk v
  | d + 1, a, v, hF, h => by
    have hfz' : ∀ b c, E.fz b = some c → E'.fz b = some c := fun b c hb => by
      obtain ⟨ty, fr, hq⟩ := hS.fz b c hb; exact hfz b c ty fr hq
    have ih := frz_ok hS hfz d
    have ihs : ∀ {l : List AV} {vs : List Value}, (∀ x, x ∈ l.flatMap (frzIds hp d) → FP x) → Reps E l vs → Reps E' (l.map (frz hp d)) vs := fun hF h => h.mapR fun a ha v => ih a v fun x hx => hF x (List.mem_flatMap.2 ⟨a, ha, hx⟩)
    have ss : ∀ {l : List AV} {vs : List Value}, Reps E l vs → Reps E' (l.map (strip d)) vs := fun h => h.mapR fun a _ v => strip_ok hfz' d a v
    unfold frz
    unfold frzIds at hF
    match h, hF with
    | .lit v h, _ => exact .lit v h
    | .v v h, _ => exact .v v h
    | .agg h ho, hF => exact .agg (ihs hF h) ho
    | .tup h, hF => exact .tup (ihs hF h)
    | .fz h hs hr ho, hF => exact .fz (hfz' _ _ h) (by rw [List.length_map]; exact hs) (by rw [List.length_map]; exact ihs hF hr) (by rw [List.length_map]; exact ho)
    | .slNil hn, _ => exact .slNil hn
    | .slEmp hn hf, _ => exact .slEmp hn hf
    | .sl h hs hf hc hr ho, _ => exact .sl (hfz' _ _ h) hs hf hc (fun i hi => ss (hr i hi)) ho
    | .any h ho, _ => exact .any (fun fz' hf => h fz' fun b c hb => hf b c (hfz' b c hb)) ho
    | .fn h h', hF => exact .fn (ihs (fun x hx => hF x (List.mem_append.2 (.inl hx))) h) (ihs (fun x hx => hF x (List.mem_append.2 (.inr hx))) h')
    | @Rep.ptr _ x off hd, hF =>
      simp only [] at hF ⊢
      split
      · rename_i ty cs hb
        rw [hb] at hF
        obtain ⟨_, c, hc1, hc2, hc3⟩ := blk_fix hS (hF x (List.mem_cons_self ..)) hb
        obtain ⟨hw1, hw2⟩ := hc2.whole
        have := Rep.fz (E := E') (cs := cs.map (frz hp d)) (off := off) (base := 0) (hfz _ _ _ _ hc1) (by rw [List.length_map]; exact hw2) (by rw [List.length_map]; exact ihs (fun x hx => hF x (List.mem_cons_of_mem _ hx)) hw1) ((hc3.drop _).take _)
        rwa [Nat.zero_add] at this
      · exact .unk _
    | @Rep.own _ x n k nl hd hv hn, hF =>
      simp only [] at hF ⊢
      split
      · rename_i ty m k' get hb
        split
        · rename_i hk
          obtain rfl := Nat.eq_of_beq_eq_true hk
          have hB := hS.blk x _ (hF x (List.mem_cons_self ..)) hb
          obtain ⟨hm, hB⟩ := hB
          rcases hB with ⟨hv', _⟩ | ⟨_, c, h1, h2, h3, h4, h5⟩
          · rw [hv] at hv'; cases hv'
          · have hnm : n = m := hn.trans hm.symm
            subst hnm
            have := Rep.sl (E := E') (n := n) (k := k) (off := 0) (cap := E.cp x) (get := fun i => (get i).map (strip d)) (nl := nl) (full := false) (hfz _ _ _ _ h1)
              (by rw [Nat.zero_add, h2]; exact Nat.mul_le_mul_right _ h3) (fun h => by cases h) h3 (fun i hi => by rw [Nat.zero_add]; exact ss (h5 i hi)) ((h4.drop _).take _)
            exact this
        · exact .unk _
      · exact .unk _
    | @Rep.ownNil _ x n k nl hd hv hn hl, hF =>
      simp only [] at hF ⊢
      split
      · split
        · exact .slNil hn
        · exact .unk _
      · exact .unk _
    | .pti _ _ _, _ => exact .unk _
    | .pe _, _ => exact .unk _
    | .slv _, _ => exact .unk _
    | .unk v, _ => exact .unk _
theorem plain_ok : ∀ (d : Nat) (a : AV) (v : Value), plainA d a = true → Rep E a v → Rep E' a v
  | 0, a, v, hp, h => by simp [plainA] at hp
  | d + 1, a, v, hp, h => by
    unfold plainA at hp
    have ihs : ∀ {l : List AV} {vs : List Value}, l.all (plainA d) = true → Reps E l vs → Reps E' l vs := fun hl h => by
      have := h.mapR (g := fun a => a) (E' := E') fun a ha v hv => plain_ok d a v (List.all_eq_true.1 hl a ha) hv
      simpa using this
    match h, hp with
    | .lit v h, _ => exact .lit v h
    | .v v h, _ => exact .v v h
    | .agg h ho, hp => exact .agg (ihs hp h) ho
    | .tup h, hp => exact .tup (ihs hp h)
/-- A contract by evaluation. -/
def St.nil : St := ⟨[], [], 0, [], [], [], [], []⟩
theorem pure_of {r : Evs} (hE : CallsOk P r) {f : Nat} {args : List AV} {a : AV} {s : St} (h : (r.call f args .nil).hit (a, s)) {d : Nat} (hp : plainA d a = true) : PureOk P f args a := by
  intro rr E w vals K hd hfz hargs hK
  have ok := hE f args .nil a s h
  refine ok.run rr (fun _ => True) E w vals K (fun x hx => by exact absurd rfl hx) (fun _ _ => trivial) (fun x _ _ hx => hd x hx) ⟨hfz, fun x _ hn => absurd rfl hn, fun x _ hn => absurd rfl hn, fun x B _ hB => (by cases hB), fun x y _ _ hn => absurd rfl hn⟩ hargs fun E' v w' hv p => ?_
  refine hK v w' (fun E2 => plain_ok d a v hp hv) ⟨fun b hb => (p.frame b hb fun x _ hx => ?_).1, p.size, p.os, p.tape, p.output⟩
  exact absurd hx (Nat.not_lt_zero x)
theorem PureOk.imp {f : Nat} {args : List AV} {a b : AV} (h : PureOk P f args a) (hab : ∀ v, (∀ E, Rep E a v) → ∀ E, Rep E b v) : PureOk P f args b :=
  fun rr E w vals K hd hfz hargs hK => h rr E w vals K hd hfz hargs fun v w' hv hq => hK v w' (hab v hv) hq
def St.reads (st : St) (l : List Nat) : St := { st with rd := uni l st.rd }
/-- A table of contracts, for an evaluator. -/
def ctrOf (tab : Nat → List AV → Option (Tree AV)) (f : Nat) (args : List AV) (st : St) : Option (Tree (AV × St)) :=
  match tab f (args.map (frz st.hp 4)) with
  | some t => some (t.bind fun a => .ret (a, st.reads (args.flatMap (frzIds st.hp 4))))
  | none => none
def TabOk (P : Program) (tab : Nat → List AV → Option (Tree AV)) : Prop := ∀ f args t a, tab f args = some t → t.hit a → PureOk P f args a
theorem Quiet.sim {FP : Nat → Prop} {H : Nat → Option Blk} {w w' : World} (hS : Sim FP E H w) (q : Quiet w w') : Sim FP E H w' := by
  refine ⟨fun b c hb => ?_, hS.dom, fun x hx hn hv => ?_, fun x B hx hB => ?_, hS.inj⟩
  · obtain ⟨ty, fr, h⟩ := hS.fz b c hb
    exact ⟨ty, fr, (q.old b (blkW_some_lt h)).trans h⟩
  · have := hS.low x hx hn hv
    exact ⟨Nat.lt_of_lt_of_le this.1 q.size, this.2⟩
  · have hb := hS.blk x B hx hB
    have hn : H x ≠ none := by rw [hB]; simp
    by_cases hv : E.vir x = true
    · cases B with
      | fix ty cs => exact absurd hb.1 (by rw [hv]; simp)
      | arr ty n k get =>
        obtain ⟨hq, hb⟩ := hb
        rcases hb with hb | hb
        · exact ⟨hq, .inl hb⟩
        · exact absurd hb.1 (by rw [hv]; simp)
    · rw [q.old _ (hS.low x hx hn (by simpa using hv)).1]; exact hb
/-- Which ways are known is no matter. -/
theorem CtrOk.withDec {cx : Cx} (h : CtrOk cx) (d : Nat → Option Bool) : CtrOk { cx with dec := d } := ⟨h.all, h.ok⟩
theorem ctrOf_ok {tab : Nat → List AV → Option (Tree AV)} (h : TabOk P tab) : CtrOk ⟨P, ctrOf tab, fun _ => none⟩ := by
  have gr : ∀ (st : St) (l : List Nat), Grew st (st.reads l) := fun st l => ⟨id, Nat.le_refl _, fun _ h => mem_uni.2 (.inr h), fun _ h => h, fun _ h => h, fun _ h => h, fun _ _ => rfl, fun _ _ => rfl, fun _ _ => rfl, fun _ h => .inl h, fun _ h => h, fun _ => .inr (.inl rfl)⟩
  refine ⟨fun f args st t ht => ?_, fun f args st t a st' ht hh => ?_⟩
  · have ht' : ctrOf tab f args st = some t := ht
    unfold ctrOf at ht'
    split at ht'
    · rename_i u hu
      cases ht'
      have : ∀ u : Tree AV, u.All fun _ => True := fun u => by induction u <;> simp_all [Tree.All]
      exact (this u).bind fun a _ => ⟨gr _ _, rfl⟩
    · cases ht'
  · have ht' : ctrOf tab f args st = some t := ht
    unfold ctrOf at ht'
    split at ht'
    · rename_i u hu
      cases ht'
      obtain ⟨a', h1, h2⟩ := Tree.hit_bind hh
      cases h2
      have hp := h f _ u _ hu h1
      refine ⟨gr _ _, rfl, fun rr FP E w vals K hwf hcov hfree hS hargs hK => ?_⟩
      let E1 : Env := { E with dom := fun _ => False, fz := fun b => match blkW w b with | some (.cells c _ _) => some c | _ => none, gok := fun g c hg => by obtain ⟨ty, fr, hq⟩ := hS.fz g c (E.gok g c hg); rw [hq] }
      refine hp rr E1 w vals K (fun _ h => h) (fun b c hb => ?_) ?_ fun v w' hv hq => hK E v w' (hv E) ?_
      · show ∃ ty fr, blkW w b = some (.cells c ty fr)
        have hb' : (match blkW w b with | some (.cells c _ _) => some c | _ => none) = some c := hb
        split at hb'
        · rename_i c' ty fr he; cases hb'; exact ⟨ty, fr, he⟩
        · cases hb'
      · refine hargs.mapR fun b hb v hv => frz_ok (E' := E1) hS (fun b c ty fr he => ?_) 4 b v (fun x hx => hcov x (.inl (mem_uni.2 (.inl (List.mem_flatMap.2 ⟨b, hb, hx⟩))))) hv
        show (match blkW w b with | some (.cells c _ _) => some c | _ => none) = some c
        rw [he]
      · refine ⟨⟨.refl E, fun _ hx => .inl hx, hq.sim hS, fun b hb _ => ⟨hq.old b hb, rfl⟩, fun _ h1 h2 => absurd h2 (by show ¬ _ < st.nx; omega), hq.size, hq.os, hq.tape, hq.output⟩, fun _ _ _ hn => hn⟩
    · cases ht'
end
end Go.Proofs.YtdlghljhgbakjaaDoor
