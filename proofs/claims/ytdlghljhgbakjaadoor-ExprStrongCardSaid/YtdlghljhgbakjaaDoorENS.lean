/-
  PART: code from a state that stands for all worlds that fit: rules for sequences, blocks, open loops; states made canonical (new names).
-/
import Derived.Test.YtdlghljhgbakjaaDoorENR
namespace Go.Proofs.YtdlghljhgbakjaaDoor
open Go.RowKit

/-- All ways end well. -/
def Tree.wp {α : Type} (Q : α → Prop) : Tree α → Prop
  | .ret a => Q a
  | .br c t e => (c = true → t.wp Q) ∧ (c = false → e.wp Q)
  | .side p t => p ∧ t.wp Q
  | .fail => False
theorem Tree.wp_hit {α : Type} {Q : α → Prop} : ∀ {t : Tree α}, t.wp Q → ∃ a, t.hit a ∧ Q a
  | .ret a, h => ⟨a, rfl, h⟩
  | .br true _ _, h => let ⟨a, h1, h2⟩ := Tree.wp_hit (h.1 rfl); ⟨a, .inl ⟨rfl, h1⟩, h2⟩
  | .br false _ _, h => let ⟨a, h1, h2⟩ := Tree.wp_hit (h.2 rfl); ⟨a, .inr ⟨rfl, h1⟩, h2⟩
  | .side _ t, h => let ⟨a, h1, h2⟩ := Tree.wp_hit (t := t) h.2; ⟨a, ⟨h.1, h1⟩, h2⟩
  | .fail, h => h.elim
theorem Tree.wp_bind {α β : Type} {Q : β → Prop} {f : α → Tree β} : ∀ {t : Tree α}, (t.bind f).wp Q → t.wp fun a => (f a).wp Q
  | .ret _, h => h
  | .br _ _ _, h => ⟨fun hc => Tree.wp_bind (h.1 hc), fun hc => Tree.wp_bind (h.2 hc)⟩
  | .side _ t, h => ⟨h.1, Tree.wp_bind (t := t) h.2⟩
  | .fail, h => h
theorem Tree.wp_imp {α : Type} {Q Q' : α → Prop} (hq : ∀ a, Q a → Q' a) : ∀ {t : Tree α}, t.wp Q → t.wp Q'
  | .ret a, h => hq a h
  | .br _ _ _, h => ⟨fun hc => Tree.wp_imp hq (h.1 hc), fun hc => Tree.wp_imp hq (h.2 hc)⟩
  | .side _ t, h => ⟨h.1, Tree.wp_imp (t := t) hq h.2⟩
  | .fail, h => h

/-- Where a function's run began. -/
structure Start where
  N : Nat
  E0 : Env
  H0 : Nat → Option Blk
  nx0 : Nat
  w0 : World
  sim : Sim (fun _ => True) E0 H0 w0
  bound : ∀ x, E0.dom x → x < nx0
def Hold (B : Start) (s : St) (act : Act) (w : World) : Prop :=
  ∃ E, Pst (fun _ => True) B.E0 E B.H0 (hget s.hp) B.nx0 s.nx (List.range B.nx0) B.w0 w ∧ Fr B.N E s act ∧ (∀ x, E.dom x → x < s.nx) ∧ Wf s ∧ act.defers = [] ∧ B.nx0 ≤ s.nx
/-- Code, from a state, in all worlds that fit. -/
def WpC (P : Program) (B : Start) (c : Code) (s : St) (R : Ex → St → Prop) : Prop :=
  ∀ (rr : Option Nat) (act : Act) (w : World) (Q : Exit → Act → World → Prop), Hold B s act w → (∀ x s' act' w', R x s' → Hold B s' act' w' → Q (toExit x) act' w') → c.wpIn (wideR rr) 0 P Q act w
def HoldLe (B : Start) (s m : St) : Prop := ∀ act w, Hold B s act w → Hold B m act w
section
variable {P : Program} {B : Start} {c a b : Code} {s : St} {R R1 : Ex → St → Prop}
theorem Pst.cut {FP : Nat → Prop} {E E' : Env} {H H' : Nat → Option Blk} {nx nx' : Nat} {wr wr' : List Nat} {w w' : World} (p : Pst FP E E' H H' nx nx' wr w w') (h : ∀ x, x ∈ wr → x < nx → x ∈ wr') : Pst FP E E' H H' nx nx' wr' w w' :=
  ⟨⟨p.le, p.dom, p.sim, fun b hb hx => p.frame b hb fun x hx' hlt => hx x (h x hx' hlt) hlt, fun x h1 h2 hF hn hv => (p.news x h1 h2 hF hn hv).imp id fun ⟨y, hy, hlt, q⟩ => ⟨y, h y hy hlt, hlt, q⟩, p.size, p.os, p.tape, p.output⟩, p.old⟩
/-- By the evaluator. -/
theorem wpc_ev {cx : Cx} {n : Nat} (hc : CtrOk cx) (hfit : Fit cx.P) (hcode : codeOk B.N c = true) (h : (codeE cx (evs cx n) c s).wp fun b => R b.1 b.2) : WpC cx.P B c s R := by
  intro rr act w Q ⟨E, p, hf, hb, hwf, hd, hnx⟩ hQ
  obtain ⟨⟨x, s'⟩, hh, hR⟩ := Tree.wp_hit h
  have hE := evs_ok hc hfit n
  have g : Grew s s' := (all_codeE (cx := cx) hE.callsAll hE.all c s).hit hh
  refine code_sound rfl hfit hE c s x s' hh B.N [] rr (fun _ => True) E act w Q hcode hwf (fun _ _ => trivial) (fun x h1 _ hx => absurd (hb x hx) (Nat.not_lt.2 h1)) p.sim hf hd fun E' act' w' k1 k2 k3 => ?_
  refine hQ x s' act' w' hR ⟨E', ?_, k1, fun y hy => ?_, g.wf hwf, k2, Nat.le_trans hnx g.nx⟩
  · have p1 := p.more (wr' := List.range B.nx0 ++ s'.wr) fun x hx => List.mem_append.2 (.inl hx)
    have k4 := k3.more (wr' := List.range B.nx0 ++ s'.wr) fun x hx => List.mem_append.2 (.inr hx)
    exact (Pst.trans B.sim (fun _ _ => trivial) p1 k4 hnx g.nx).cut fun x _ hx => List.mem_range.2 hx
  · rcases k3.dom y hy with h | h
    · exact Nat.lt_of_lt_of_le (hb y h) g.nx
    · exact h.2
theorem wpc_imp (h : WpC P B c s R1) (hR : ∀ x s', R1 x s' → R x s') : WpC P B c s R := fun rr act w Q hs hQ => h rr act w Q hs fun x s' act' w' k1 k2 => hQ x s' act' w' (hR x s' k1) k2
/-- Weakened ahead. -/
theorem wpc_pre {m : St} (hm : HoldLe B s m) (h : WpC P B c m R) : WpC P B c s R := fun rr act w Q hs hQ => h rr act w Q (hm act w hs) hQ
/-- Weakened behind. -/
theorem wpc_post (h : WpC P B c s R1) (hR : ∀ x s', R1 x s' → ∃ m, HoldLe B s' m ∧ R x m) : WpC P B c s R := fun rr act w Q hs hQ => h rr act w Q hs fun x s' act' w' k1 k2 => let ⟨m, h1, h2⟩ := hR x s' k1; hQ x m act' w' h2 (h1 act' w' k2)
theorem wpc_seq (ha : WpC P B a s R1) (hb : ∀ s1, R1 .norm s1 → WpC P B b s1 R) (hx : ∀ x s1, x ≠ .norm → R1 x s1 → R x s1) : WpC P B (.seq a b) s R := fun rr act w Q hs hQ => by
  refine wpIn_seq (ha rr act w _ hs fun x s1 act' w' k1 k2 => ?_)
  cases x with
  | norm => exact hb s1 k1 rr act' w' Q k2 hQ
  | exit id => exact hQ _ s1 act' w' (hx _ s1 (by simp) k1) k2
  | goto l => exact hQ _ s1 act' w' (hx _ s1 (by simp) k1) k2
  | ret => exact hQ _ s1 act' w' (hx _ s1 (by simp) k1) k2
theorem wpc_block {id : Nat} (hc : WpC P B c s R1) (h1 : ∀ s1, R1 (.exit id) s1 → R .norm s1) (h2 : ∀ x s1, x ≠ .exit id → R1 x s1 → R x s1) : WpC P B (.block id c) s R := fun rr act w Q hs hQ => by
  refine wpIn_block (hc rr act w _ hs fun x s1 act' w' k1 k2 => ?_)
  cases x with
  | norm => exact hQ _ s1 act' w' (h2 _ s1 (by simp) k1) k2
  | exit id' =>
    show (if id' = id then _ else _)
    by_cases e : id' = id
    · rw [if_pos e]; subst e; exact hQ _ s1 act' w' (h1 s1 k1) k2
    · rw [if_neg e]; exact hQ _ s1 act' w' (h2 _ s1 (by simpa using e) k1) k2
  | goto l => exact hQ _ s1 act' w' (h2 _ s1 (by simp) k1) k2
  | ret => exact hQ _ s1 act' w' (h2 _ s1 (by simp) k1) k2
theorem wpc_cond {x : Operand} {e l : Bool} (hx : boolOf (s.val x) = some (e, l)) (ha : e = true → WpC P B a s R) (hb : e = false → WpC P B b s R) : WpC P B (.cond x a b) s R := fun rr act w Q hs hQ => by
  have hs' := hs
  obtain ⟨E, p, hf, _⟩ := hs
  cases e with
  | true => exact wpIn_cond_true (boolOf_rep hx (hf.val x)) (ha rfl rr act w Q hs' hQ)
  | false => exact wpIn_cond_false (boolOf_rep hx (hf.val x)) (hb rfl rr act w Q hs' hQ)
/-- An open loop, by what each round keeps. -/
theorem wpc_loop {ι : Type} (Inv : ι → St) (J : ι → Prop) (m : ι → Nat) (Out : Ex → St → Prop)
    (h : ∀ k, J k → WpC P B c (Inv k) fun x s => (x = .norm ∧ ∃ k', J k' ∧ m k' < m k ∧ HoldLe B s (Inv k')) ∨ (x ≠ .norm ∧ Out x s)) (k : ι) (hk : J k) : WpC P B (.loop c) (Inv k) Out := fun rr act w Q hs hQ => by
  refine wpIn_loop_rounds (m k + 1) ?_
  have key : ∀ (n : Nat) (k : ι) (act : Act) (w : World), m k < n → J k → Hold B (Inv k) act w → Code.roundsIn (wideR rr) 0 P c Q n act w := by
    intro n
    induction n with
    | zero => intro k act w hm; exact absurd hm (Nat.not_lt_zero _)
    | succ n ih =>
      intro k act w hm hk hs
      rw [roundsIn_succ]
      refine h k hk rr act w _ hs fun x s1 act' w' k1 k2 => ?_
      rcases k1 with ⟨rfl, k', h1, h2, h3⟩ | ⟨h1, h2⟩
      · exact ih k' act' w' (by omega) h1 (h3 act' w' k2)
      · cases x with
        | norm => exact absurd rfl h1
        | exit id => exact hQ _ s1 act' w' h2 k2
        | goto l => exact hQ _ s1 act' w' h2 k2
        | ret => exact hQ _ s1 act' w' h2 k2
  exact key (m k + 1) k act w (by omega) hk hs
end
end Go.Proofs.YtdlghljhgbakjaaDoor
