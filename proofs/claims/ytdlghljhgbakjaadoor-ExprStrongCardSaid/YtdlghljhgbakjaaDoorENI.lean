/-
  PART: what all ways of the evaluator keep.
-/
import Derived.Test.YtdlghljhgbakjaaDoorENH
namespace Go.Proofs.YtdlghljhgbakjaaDoor
open Go.RowKit

/-- All results of all ways. -/
def Tree.All {α : Type} (Q : α → Prop) : Tree α → Prop
  | .ret a => Q a
  | .br _ t e => t.All Q ∧ e.All Q
  | .side _ t => t.All Q
  | .fail => True
theorem Tree.All.imp {α : Type} {Q Q' : α → Prop} (h : ∀ a, Q a → Q' a) : ∀ {t : Tree α}, t.All Q → t.All Q'
  | .ret a, q => h a q
  | .br _ _ _, q => ⟨q.1.imp h, q.2.imp h⟩
  | .side _ t, q => Tree.All.imp (t := t) h q
  | .fail, _ => trivial
theorem Tree.All.bind {α β : Type} {Q : α → Prop} {Q' : β → Prop} {f : α → Tree β} : ∀ {t : Tree α}, t.All Q → (∀ a, Q a → (f a).All Q') → (t.bind f).All Q'
  | .ret a, q, h => h a q
  | .br _ _ _, q, h => ⟨q.1.bind h, q.2.bind h⟩
  | .side _ t, q, h => Tree.All.bind (t := t) q h
  | .fail, _, _ => trivial
theorem Tree.All.hit {α : Type} {Q : α → Prop} : ∀ {t : Tree α}, t.All Q → ∀ {b}, t.hit b → Q b
  | .ret a, q, b, h => by cases h; exact q
  | .br _ _ _, q, b, h => h.elim (fun h => q.1.hit h.2) (fun h => q.2.hit h.2)
  | .side _ t, q, b, h => Tree.All.hit (t := t) q h.2
  | .fail, _, b, h => h.elim
theorem Tree.hit_bind {α β : Type} {f : α → Tree β} : ∀ {t : Tree α} {b : β}, (t.bind f).hit b → ∃ a, t.hit a ∧ (f a).hit b
  | .ret a, b, h => ⟨a, rfl, h⟩
  | .br _ _ _, b, h => by
    rcases h with ⟨h1, h2⟩ | ⟨h1, h2⟩
    · obtain ⟨a, k1, k2⟩ := Tree.hit_bind h2; exact ⟨a, .inl ⟨h1, k1⟩, k2⟩
    · obtain ⟨a, k1, k2⟩ := Tree.hit_bind h2; exact ⟨a, .inr ⟨h1, k1⟩, k2⟩
  | .side _ t, b, h => by
    obtain ⟨h1, h2⟩ := h
    obtain ⟨a, k1, k2⟩ := Tree.hit_bind (t := t) h2; exact ⟨a, ⟨h1, k1⟩, k2⟩
  | .fail, b, h => h.elim
/-- A state that goes on from another one, the slots as they were. -/
def GrewS (st : St) (b : AV × St) : Prop := Grew st b.2 ∧ b.2.sl = st.sl
theorem all_below {α : Type} {Q : α → Prop} {l : Bool} {i n : Nat} {t : Tree α} (h : t.All Q) : (below l i n t).All Q := by
  unfold below; cases l with
  | true => simp only []; split; exact h; trivial
  | false => exact h
theorem all_within {α : Type} {Q : α → Prop} {l : Bool} {z : Int} {n : Nat} {t : Tree α} (h : t.All Q) : (within l z n t).All Q := by
  unfold within; cases l with
  | true => simp only []; split; exact h; trivial
  | false => exact h
theorem gs_refl (a : AV) (st : St) : GrewS st (a, st) := ⟨.refl st, rfl⟩
theorem gs_read (a : AV) (st : St) (x : Nat) : GrewS st (a, st.read x) := ⟨.read st x, rfl⟩
theorem gs_new (a : AV) (st : St) (b : Blk) : GrewS st (a, st.new b) := ⟨.new st b, rfl⟩
section
variable {P : Program} {st : St}
theorem all_load (t : TypeId) (a : AV) : (loadA P t a st).All (GrewS st) := by
  unfold loadA
  split
  · split
    · split
      · split
        · exact gs_read ..
        · trivial
      · trivial
    · split
      · split
        · exact gs_read ..
        · trivial
      · trivial
    · split
      · split
        · exact all_below (gs_read ..)
        · trivial
      · trivial
    · split
      · exact gs_refl ..
      · trivial
    · trivial
  · trivial
theorem all_store (t : TypeId) (a v : AV) : (storeA P t a v st).All (GrewS st) := by
  have gw : ∀ x b B, hget st.hp x = some B → GrewS st (.unk, st.write x b) := fun x b B h => ⟨.write st x b (.inr (by rw [h]; simp)), rfl⟩
  have ga : ∀ x ty cs off n new, hget st.hp x = some (.fix ty cs) → Nat.ble (off + n) cs.length = true → Nat.beq (List.length new) n = true → GrewS st (.unk, st.writeAt x (some (.fix ty (splice cs off new))) off n) := fun x ty cs off n new h h1 h2 => ⟨.writeAt st x ty cs off n new h h1 h2, rfl⟩
  unfold storeA
  split
  · split
    · rename_i hn
      split
      · split
        · split
          · exact ga _ _ _ _ _ _ ‹_› ‹_› hn
          · trivial
        · trivial
      · split
        · split
          · exact gw _ _ _ ‹_›
          · trivial
        · trivial
      · split
        · split
          · exact all_below (gw _ _ _ ‹_›)
          · trivial
        · trivial
      · trivial
    · trivial
  · trivial
theorem all_withSt {T : Tree AV} : (withSt st T).All (GrewS st) := by
  unfold withSt
  induction T with
  | ret a => exact gs_refl ..
  | br c t e h1 h2 => exact ⟨h1, h2⟩
  | side p t h => exact h
  | fail => trivial
theorem all_pure {x : Option AV} : (pureA x st).All (GrewS st) := by
  unfold pureA; split
  · exact gs_refl ..
  · trivial
theorem all_un1 {x : AV} {f : Value → Sem Value} : (un1 P x f st).All (GrewS st) := by
  unfold un1; split
  · split
    · exact gs_refl ..
    · trivial
  · trivial
theorem all_conv {src dst : TypeId} {x : AV} : (convA P src dst x st).All (GrewS st) := by
  unfold convA; split
  · exact gs_refl ..
  · exact all_un1
theorem all_slice (t : TypeId) (x : AV) (lo hi mx : Option AV) : (sliceA P t x lo hi mx st).All (GrewS st) := by
  unfold sliceA
  split
  · split
    · split
      · exact gs_refl ..
      · trivial
    · split
      · exact gs_refl ..
      · trivial
    · trivial
  · split
    · split
      · exact gs_refl ..
      · trivial
    · trivial
  · split
    · split
      · split
        · exact gs_refl ..
        · trivial
      · trivial
    · trivial
  · trivial
theorem all_append (sT : TypeId) (s x : AV) : (appendA P sT s x st).All (GrewS st) := by
  unfold appendA
  split
  · split
    · split
      · rename_i elem hu k z hs hz r rs q xs hcond hr hq
        obtain ⟨g1, g2, g3, g4, g5⟩ := foldl_read xs st
        dsimp only
        split
        · split
          · trivial
          · split
            · split
              · exact ⟨(g1.trans (.write _ _ none (.inl rfl))).trans (.new _ _), g4⟩
              · trivial
            · trivial
        · split
          · exact ⟨g1.trans (.new _ _), g4⟩
          · trivial
        · split
          · exact ⟨g1.trans (.new _ _), g4⟩
          · trivial
        · trivial
      · trivial
    · trivial
  · trivial
theorem all_builtin (b : Builtin) (ts : Array TypeId) (ty : TypeId) (args : List AV) : (builtinA P b ts ty args st).All (GrewS st) := by
  have sc : ∀ (f : Array Value → Sem Value), (match scals args with
      | some (vs, l) => match semVal P (f vs.toArray) with
        | some r => Tree.ret (litOr l r, st)
        | none => .fail
      | none => .fail : Tree (AV × St)).All (GrewS st) := fun f => by
    split
    · split
      · exact gs_refl ..
      · trivial
    · trivial
  unfold builtinA
  split
  · split
    · exact gs_refl ..
    · trivial
  · split
    · exact all_append ..
    · trivial
  · exact sc _
  · exact sc _
  · exact sc _
  · exact sc _
  · exact sc _
  · trivial
def CallsAll (r : Evs) : Prop := ∀ f args st, (r.call f args st).All (GrewS st)
theorem all_op {cx : Cx} {r : Evs} (hr : CallsAll r) (o : Oper) : (evalOp cx r o st).All (GrewS st) := by
  unfold evalOp
  split
  · exact gs_refl ..
  · exact gs_refl ..
  · split
    · split <;> exact gs_refl ..
    · exact all_pure
    · trivial
  · split
    · exact gs_new ..
    · trivial
  · split
    · exact gs_new ..
    · trivial
  · exact all_pure
  · unfold buildSliceA
    split
    · split
      · split
        · split
          · exact gs_new ..
          · trivial
        · trivial
      · trivial
    · trivial
  · exact all_load ..
  · exact all_store ..
  · split <;> first | exact gs_refl .. | trivial
  · exact all_withSt
  · exact all_un1
  · exact all_conv
  · exact all_un1
  · exact gs_refl ..
  · unfold makeSliceA
    split
    · split
      · split
        · exact gs_new ..
        · trivial
      · trivial
    · trivial
  · split
    · exact all_slice ..
    · trivial
  · exact all_pure
  · exact all_pure
  · exact all_withSt
  · exact all_withSt
  · split
    · exact all_pure
    · trivial
  · split
    · exact all_builtin ..
    · unfold callA
      split
      · exact hr ..
      · trivial
    · trivial
  · trivial
end
/-! Forks. -/
theorem peel_ok {α : Type} : ∀ (t : Tree α), (∀ b, t.hit b ↔ (∀ p, t.peel.1 = some p → p) ∧ t.peel.2.hit b) ∧ ∀ Q, t.All Q ↔ t.peel.2.All Q
  | .ret a => ⟨fun b => ⟨fun h => ⟨fun p h => (by cases h), h⟩, fun h => h.2⟩, fun Q => Iff.rfl⟩
  | .br c t e => ⟨fun b => ⟨fun h => ⟨fun p h => (by cases h), h⟩, fun h => h.2⟩, fun Q => Iff.rfl⟩
  | .fail => ⟨fun b => ⟨fun h => ⟨fun p h => (by cases h), h⟩, fun h => h.2⟩, fun Q => Iff.rfl⟩
  | .side p t => by
    obtain ⟨h1, h2⟩ := peel_ok t
    constructor
    · intro b
      show p ∧ t.hit b ↔ _
      rw [h1 b]
      simp only [Tree.peel]
      cases hp : t.peel with
      | mk q u => cases q with
        | none => exact ⟨fun h => ⟨fun r hr => (by cases hr; exact h.1), h.2.2⟩, fun h => ⟨h.1 p rfl, fun r hr => (by cases hr), h.2⟩⟩
        | some q => exact ⟨fun h => ⟨fun r hr => (by cases hr; exact ⟨h.1, h.2.1 q rfl⟩), h.2.2⟩, fun h => ⟨(h.1 (p ∧ q) rfl).1, fun r hr => (by cases hr; exact (h.1 (p ∧ q) rfl).2), h.2⟩⟩
    · intro Q
      show t.All Q ↔ _
      rw [h2 Q]
      simp only [Tree.peel]
      cases hp : t.peel with
      | mk q u => cases q <;> rfl
theorem refork_ok {s0 : St} {x : Ex} {m : St} : ∀ {t : Tree (Ex × St)}, (reFork s0 t).hit (x, m) → ∃ s, t.hit (x, s) ∧ m = { s with ws := uni s0.ws s.ws, wb := uni s0.wb s.wb, wc := s.wc ++ s0.wc }
  | .ret (y, s), h => by cases h; exact ⟨s, rfl, rfl⟩
  | .br c t e, h => by
    rcases h with ⟨h1, h2⟩ | ⟨h1, h2⟩
    · obtain ⟨s, k1, k2⟩ := refork_ok h2; exact ⟨s, .inl ⟨h1, k1⟩, k2⟩
    · obtain ⟨s, k1, k2⟩ := refork_ok h2; exact ⟨s, .inr ⟨h1, k1⟩, k2⟩
  | .side p t, h => by
    obtain ⟨h1, h2⟩ := h
    obtain ⟨s, k1, k2⟩ := refork_ok (t := t) h2; exact ⟨s, ⟨h1, k1⟩, k2⟩
  | .fail, h => h.elim
theorem refork_all {s0 : St} {Q : Ex × St → Prop} : ∀ {t : Tree (Ex × St)}, t.All (fun b => Q (b.1, { b.2 with ws := uni s0.ws b.2.ws, wb := uni s0.wb b.2.wb, wc := b.2.wc ++ s0.wc })) → (reFork s0 t).All Q
  | .ret (y, s), h => h
  | .br c t e, h => ⟨refork_all h.1, refork_all h.2⟩
  | .side p t, h => refork_all (t := t) h
  | .fail, h => trivial
theorem grew_refork {s0 s : St} (g : Grew s0.forked s) : Grew s0 { s with ws := uni s0.ws s.ws, wb := uni s0.wb s.wb, wc := s.wc ++ s0.wc } :=
  ⟨g.wf, g.nx, g.rd, g.wr, fun x h => mem_uni.2 (.inl h), fun x h => mem_uni.2 (.inl h), fun d hd => g.slot d fun h => hd (mem_uni.2 (.inr h)), fun x hx => g.blkb x fun h => hx (mem_uni.2 (.inr h)), g.blkr,
   fun x hx => (mem_uni.1 hx).elim .inl fun h => (g.wbr x h).elim (fun h => by cases h) .inr, fun e h => List.mem_append.2 (.inr h), fun x => (g.cell x).wc fun e h => List.mem_append.2 (.inl h)⟩
theorem wkn_refork {s0 s : St} : Wkn s { s with ws := uni s0.ws s.ws, wb := uni s0.wb s.wb, wc := s.wc ++ s0.wc } := ⟨fun _ _ _ h => h, fun _ B h => ⟨B, h, fun _ _ h => h⟩, Nat.le_refl _, fun _ h => h, fun _ h => h⟩
theorem eqEx_eq {x y : Ex} (h : eqEx x y = true) : x = y := by
  unfold eqEx at h
  split at h
  · rfl
  · rw [Nat.eq_of_beq_eq_true h]
  · rw [Nat.eq_of_beq_eq_true h]
  · rfl
  · cases h
def GrewX (s0 : St) (b : Ex × St) : Prop := Grew s0 b.2
theorem joinT_ok {c : Bool} {s0 : St} {t e : Tree (Ex × St)} (ht : t.All (GrewX s0.forked)) (he : e.All (GrewX s0.forked)) :
    (joinT c s0 t e).All (GrewX s0) ∧ ∀ x m, (joinT c s0 t e).hit (x, m) → (c = true → ∃ s, t.hit (x, s) ∧ Wkn s m) ∧ (c = false → ∃ s, e.hit (x, s) ∧ Wkn s m) := by
  have brk : (Tree.br c (reFork s0 t) (reFork s0 e)).All (GrewX s0) ∧ ∀ x m, (Tree.br c (reFork s0 t) (reFork s0 e)).hit (x, m) → (c = true → ∃ s, t.hit (x, s) ∧ Wkn s m) ∧ (c = false → ∃ s, e.hit (x, s) ∧ Wkn s m) := by
    refine ⟨⟨refork_all (ht.imp fun b h => grew_refork h), refork_all (he.imp fun b h => grew_refork h)⟩, fun x m h => ?_⟩
    rcases h with ⟨h1, h2⟩ | ⟨h1, h2⟩
    · obtain ⟨s, k1, rfl⟩ := refork_ok h2
      exact ⟨fun _ => ⟨s, k1, wkn_refork⟩, fun h => by rw [h1] at h; cases h⟩
    · obtain ⟨s, k1, rfl⟩ := refork_ok h2
      exact ⟨fun h => (by rw [h1] at h; cases h), fun _ => ⟨s, k1, wkn_refork⟩⟩
  unfold joinT
  split
  · rename_i x s1 y s2
    split
    · rename_i hx
      obtain rfl := eqEx_eq hx
      split
      · rename_i m hm
        obtain ⟨k1, k2, k3⟩ := mergeS_ok hm ht he
        refine ⟨k3, fun x' m' h => ?_⟩
        cases h
        exact ⟨fun h => ⟨s1, rfl, k1 h⟩, fun h => ⟨s2, rfl, k2 h⟩⟩
      · exact brk
    · exact brk
  · exact brk
theorem forkT_ok {c : Bool} {s0 : St} {t e : Tree (Ex × St)} (ht : t.All (GrewX s0.forked)) (he : e.All (GrewX s0.forked)) :
    (forkT c s0 t e).All (GrewX s0) ∧ ∀ x m, (forkT c s0 t e).hit (x, m) → (c = true → ∃ s, t.hit (x, s) ∧ Wkn s m) ∧ (c = false → ∃ s, e.hit (x, s) ∧ Wkn s m) := by
  obtain ⟨p1, p2⟩ := peel_ok t
  obtain ⟨q1, q2⟩ := peel_ok e
  have hj := joinT_ok (c := c) ((p2 _).1 ht) ((q2 _).1 he)
  have lift : ∀ x m, (joinT c s0 t.peel.2 e.peel.2).hit (x, m) → (c = true → ∀ p, t.peel.1 = some p → p) → (c = false → ∀ p, e.peel.1 = some p → p) → (c = true → ∃ s, t.hit (x, s) ∧ Wkn s m) ∧ (c = false → ∃ s, e.hit (x, s) ∧ Wkn s m) := by
    intro x m h h1 h2
    obtain ⟨k1, k2⟩ := hj.2 x m h
    exact ⟨fun hc => let ⟨s, a, b⟩ := k1 hc; ⟨s, (p1 _).2 ⟨h1 hc, a⟩, b⟩, fun hc => let ⟨s, a, b⟩ := k2 hc; ⟨s, (q1 _).2 ⟨h2 hc, a⟩, b⟩⟩
  unfold forkT
  cases ht' : t.peel with
  | mk po u => cases he' : e.peel with
    | mk qo v =>
      rw [ht', he'] at hj lift
      cases po with
      | none => cases qo with
        | none => exact ⟨hj.1, fun x m h => lift x m h (fun _ p h => (by cases h)) (fun _ p h => (by cases h))⟩
        | some q => exact ⟨hj.1, fun x m h => lift x m h.2 (fun _ p h => (by cases h)) (fun hc p hp => by cases hp; exact h.1 hc)⟩
      | some p => cases qo with
        | none => exact ⟨hj.1, fun x m h => lift x m h.2 (fun hc p hp => by cases hp; exact h.1 hc) (fun _ p h => (by cases h))⟩
        | some q => exact ⟨hj.1, fun x m h => lift x m h.2 (fun hc p hp => by cases hp; exact h.1.1 hc) (fun hc p hp => by cases hp; exact h.1.2 hc)⟩
theorem decT_ok {d : Option Bool} {c : Bool} {s0 : St} {t e : Tree (Ex × St)} (ht : t.All (GrewX s0.forked)) (he : e.All (GrewX s0.forked)) :
    (decT d c s0 t e).All (GrewX s0) ∧ ∀ x m, (decT d c s0 t e).hit (x, m) → (c = true → ∃ s, t.hit (x, s) ∧ Wkn s m) ∧ (c = false → ∃ s, e.hit (x, s) ∧ Wkn s m) := by
  unfold decT
  split
  · exact forkT_ok ht he
  · refine ⟨refork_all (ht.imp fun b h => grew_refork h), fun x m h => ?_⟩
    obtain ⟨h1, h2⟩ := h
    obtain ⟨s, k1, rfl⟩ := refork_ok h2
    exact ⟨fun _ => ⟨s, k1, wkn_refork⟩, fun h => by rw [h1] at h; cases h⟩
  · refine ⟨refork_all (he.imp fun b h => grew_refork h), fun x m h => ?_⟩
    obtain ⟨h1, h2⟩ := h
    obtain ⟨s, k1, rfl⟩ := refork_ok h2
    exact ⟨fun h => (by rw [h1] at h; cases h), fun _ => ⟨s, k1, wkn_refork⟩⟩
end Go.Proofs.YtdlghljhgbakjaaDoor
