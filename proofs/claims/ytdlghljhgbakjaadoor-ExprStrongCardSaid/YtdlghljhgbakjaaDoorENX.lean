/-
  PART: stages of a walk: pieces of code by the evaluator, their ends as short leaves; a loop in its block.
-/
import Derived.Test.YtdlghljhgbakjaaDoorENW
namespace Go.Proofs.YtdlghljhgbakjaaDoor
open Go.RowKit

def Tree.map {α β : Type} (f : α → β) : Tree α → Tree β
  | .ret a => .ret (f a)
  | .br c t e => .br c (t.map f) (e.map f)
  | .side p t => .side p (t.map f)
  | .fail => .fail
theorem Tree.wp_map {α β : Type} {f : α → β} {Q : β → Prop} : ∀ {t : Tree α}, (t.map f).wp Q → t.wp fun a => Q (f a)
  | .ret _, h => h
  | .br _ _ _, h => ⟨fun hc => Tree.wp_map (h.1 hc), fun hc => Tree.wp_map (h.2 hc)⟩
  | .side _ t, h => ⟨h.1, Tree.wp_map (t := t) h.2⟩
  | .fail, h => h
/-- How a piece ends: it goes on (its state made short), or the function returns. -/
inductive Lf where
  | go (x : Ex) (m : Option St)
  | out (a : AV)
def lfOf (nx0 : Nat) (ds : List (Nat × Bool)) (gb : Bool) (r : Nat) (b : Ex × St) : Lf := match b.1 with
  | .ret => .out (look b.2.sl r)
  | x => .go x (canon nx0 ds gb b.2)
def LfQ (R : Ex → St → Prop) (O : AV → Prop) : Lf → Prop
  | .go x (some m) => R x m
  | .go _ none => False
  | .out a => O a
/-- The answer is true. -/
def IsTrue (a : AV) : Prop := ∀ (E : Env) v, Rep E a v → v = .bool true
theorem isTrue_lit : IsTrue (.lit (.bool true)) := fun E v h => by cases h; rfl
theorem isTrue_v {b : Bool} (hb : b = true) : IsTrue (.v (.bool b)) := fun E v h => by cases h; rw [hb]
def joins : List Code → Code
  | [] => .skip
  | [a] => a
  | a :: l => .seq a (joins l)
def seqs : List Code → Code → Code
  | [], c => c
  | a :: l, c => .seq a (seqs l c)
section
variable {P : Program} {B : Start} {c : Code} {s : St} {R : Ex → St → Prop}
theorem wpc_of_lf {cx : Cx} {n : Nat} (hc : CtrOk cx) (hfit : Fit cx.P) {ds : List (Nat × Bool)} {gb : Bool} {r : Nat} {O : AV → Prop} (hcode : codeOk B.N c = true)
    (h : ((codeE cx (evs cx n) c s).map (lfOf B.nx0 ds gb r)).wp (LfQ R O)) (ho : ∀ s, O (look s.sl r) → R .ret s) : WpC cx.P B c s R := by
  refine wpc_post (wpc_ev (R := fun x s => LfQ R O (lfOf B.nx0 ds gb r (x, s))) hc hfit hcode (Tree.wp_map h)) fun x s' hq => ?_
  cases x with
  | ret => exact ⟨s', fun _ _ h => h, ho s' hq⟩
  | norm =>
    cases hm : canon B.nx0 ds gb s' with
    | none => simp only [lfOf, hm] at hq; exact hq.elim
    | some m => simp only [lfOf, hm] at hq; exact ⟨m, canon_ok hm, hq⟩
  | exit id =>
    cases hm : canon B.nx0 ds gb s' with
    | none => simp only [lfOf, hm] at hq; exact hq.elim
    | some m => simp only [lfOf, hm] at hq; exact ⟨m, canon_ok hm, hq⟩
  | goto l =>
    cases hm : canon B.nx0 ds gb s' with
    | none => simp only [lfOf, hm] at hq; exact hq.elim
    | some m => simp only [lfOf, hm] at hq; exact ⟨m, canon_ok hm, hq⟩
theorem wpc_skip (h : R .norm s) : WpC P B .skip s R := fun rr act w Q hs hQ => by
  refine wpIn_skip ?_
  exact hQ _ s act w h hs
/-- Some pieces ahead of others, by the evaluator. -/
theorem wpc_evs {cx : Cx} {n : Nat} (hc : CtrOk cx) (hfit : Fit cx.P) : ∀ (l : List Code) (s : St), l ≠ [] → (l.all fun a => codeOk B.N a) = true →
    (codeE cx (evs cx n) (joins l) s).wp (fun b => match b.1 with | .norm => WpC cx.P B c b.2 R | x => R x b.2) → WpC cx.P B (seqs l c) s R
  | [], _, h, _, _ => absurd rfl h
  | [a], s, _, hok, h => by
    simp only [List.all_cons, List.all_nil, Bool.and_true] at hok
    refine wpc_seq (wpc_ev (R := fun x s' => match x with | .norm => WpC cx.P B c s' R | x => R x s') hc hfit hok h) (fun s1 h1 => h1) fun x s1 hx h1 => ?_
    cases x <;> first | exact absurd rfl hx | exact h1
  | a :: b :: l, s, _, hok, h => by
    simp only [List.all_cons, Bool.and_eq_true] at hok
    have h' := Tree.wp_bind (show ((codeE cx (evs cx n) a s).bind fun (e, s) => match e with | .norm => codeE cx (evs cx n) (joins (b :: l)) s | e => .ret (e, s)).wp _ from h)
    refine wpc_seq (R1 := fun x s' => match x with | .norm => WpC cx.P B (seqs (b :: l) c) s' R | x => R x s') (wpc_ev hc hfit hok.1 (Tree.wp_imp (fun q hq => ?_) h')) (fun s1 h1 => h1) fun x s1 hx h1 => ?_
    · obtain ⟨x, s'⟩ := q
      cases x with
      | norm => exact wpc_evs hc hfit (b :: l) s' (by simp) (by simp [hok.2]) hq
      | exit id => exact hq
      | goto l => exact hq
      | ret => exact hq
    · cases x <;> first | exact absurd rfl hx | exact h1
/-- A stage: some pieces by the evaluator, what is behind them from the short states. -/
theorem wpc_stage {cx : Cx} {n : Nat} (hc : CtrOk cx) (hfit : Fit cx.P) {l : List Code} {ds : List (Nat × Bool)} {gb : Bool} {r : Nat} {O : AV → Prop} (hl : l ≠ []) (hok : (l.all fun a => codeOk B.N a) = true)
    (h : ((codeE cx (evs cx n) (joins l) s).map (lfOf B.nx0 ds gb r)).wp (LfQ (fun x m => match x with | .norm => WpC cx.P B c m R | x => R x m) O)) (ho : ∀ s, O (look s.sl r) → R .ret s) : WpC cx.P B (seqs l c) s R := by
  refine wpc_post (R1 := fun x s' => ∃ m, HoldLe B s' m ∧ R x m) (wpc_evs hc hfit l s hl hok (Tree.wp_imp (fun q hq => ?_) (Tree.wp_map h))) fun x s' h => h
  obtain ⟨x, s'⟩ := q
  cases x with
  | ret => exact ⟨s', fun _ _ h => h, ho s' hq⟩
  | norm =>
    cases hm : canon B.nx0 ds gb s' with
    | none => simp only [lfOf, hm] at hq; exact hq.elim
    | some m =>
      simp only [lfOf, hm] at hq
      exact wpc_pre (canon_ok hm) (wpc_imp hq fun x s1 h1 => ⟨s1, fun _ _ h => h, h1⟩)
  | exit id =>
    cases hm : canon B.nx0 ds gb s' with
    | none => simp only [lfOf, hm] at hq; exact hq.elim
    | some m => simp only [lfOf, hm] at hq; exact ⟨m, canon_ok hm, hq⟩
  | goto l =>
    cases hm : canon B.nx0 ds gb s' with
    | none => simp only [lfOf, hm] at hq; exact hq.elim
    | some m => simp only [lfOf, hm] at hq; exact ⟨m, canon_ok hm, hq⟩
/-- What a round does: it goes on, leaves the loop, or returns. -/
def RoundQ {ι : Type} (Inv : ι → St) (J : ι → Prop) (m : ι → Nat) (id : Nat) (k : ι) (Out : St → Prop) (x : Ex) (s : St) : Prop := match x with
  | .norm => ∃ k', s = Inv k' ∧ J k' ∧ m k' < m k
  | .exit id' => id' = id ∧ Out s
  | .ret => False
  | .goto _ => False
/-- A loop in its block: each round from a short state. -/
theorem wpc_bloop0 {ι : Type} {cx : Cx} {n : Nat} (hc : CtrOk cx) (hfit : Fit cx.P) {body : Code} {id : Nat} (Inv : ι → St) (J : ι → Prop) (m : ι → Nat) (Out : St → Prop) {ds : List (Nat × Bool)} {gb : Bool} {r : Nat} {O : AV → Prop} (hok : codeOk B.N body = true)
    (h : ∀ k, J k → ((codeE cx (evs cx n) body (Inv k)).map (lfOf B.nx0 ds gb r)).wp (LfQ (RoundQ Inv J m id k Out) O)) (k : ι) (hk : J k) :
    WpC cx.P B (.block id (.loop body)) (Inv k) fun x s => (x = .norm ∧ ∃ m, HoldLe B s m ∧ Out m) ∨ (x = .ret ∧ O (look s.sl r)) := by
  refine wpc_block (R1 := fun x s => (x = .exit id ∧ ∃ m, HoldLe B s m ∧ Out m) ∨ (x = .ret ∧ O (look s.sl r))) (wpc_loop Inv J m _ (fun k hk => ?_) k hk) ?_ ?_
  · refine wpc_imp (wpc_ev (R := fun x s => LfQ (RoundQ Inv J m id k Out) O (lfOf B.nx0 ds gb r (x, s))) hc hfit hok (Tree.wp_map (h k hk))) fun x s' hq => ?_
    cases x with
    | ret => exact .inr ⟨by simp, .inr ⟨rfl, hq⟩⟩
    | norm =>
      cases hm : canon B.nx0 ds gb s' with
      | none => simp only [lfOf, hm] at hq; exact hq.elim
      | some m' =>
        simp only [lfOf, hm] at hq
        obtain ⟨k', rfl, h2, h3⟩ := hq
        exact .inl ⟨rfl, k', h2, h3, canon_ok hm⟩
    | exit id' =>
      cases hm : canon B.nx0 ds gb s' with
      | none => simp only [lfOf, hm] at hq; exact hq.elim
      | some m =>
        simp only [lfOf, hm] at hq
        obtain ⟨rfl, h2⟩ := hq
        exact .inr ⟨by simp, .inl ⟨rfl, m, canon_ok hm, h2⟩⟩
    | goto l =>
      cases hm : canon B.nx0 ds gb s' with
      | none => simp only [lfOf, hm] at hq; exact hq.elim
      | some m => simp only [lfOf, hm] at hq; exact hq.elim
  · rintro s1 (⟨_, h2⟩ | ⟨h1, _⟩)
    · exact .inl ⟨rfl, h2⟩
    · cases h1
  · rintro x s1 hx (⟨h1, h2⟩ | ⟨h1, h2⟩)
    · exact absurd h1 hx
    · exact .inr ⟨h1, h2⟩
/-- Ahead of more. -/
theorem wpc_bloop {ι : Type} {cx : Cx} {n : Nat} (hc : CtrOk cx) (hfit : Fit cx.P) {body : Code} {id : Nat} (Inv : ι → St) (J : ι → Prop) (m : ι → Nat) (Out : St → Prop) {ds : List (Nat × Bool)} {gb : Bool} {r : Nat} {O : AV → Prop} (hok : codeOk B.N body = true)
    (h : ∀ k, J k → ((codeE cx (evs cx n) body (Inv k)).map (lfOf B.nx0 ds gb r)).wp (LfQ (RoundQ Inv J m id k Out) O)) (ho : ∀ s, O (look s.sl r) → R .ret s) (k : ι) (hk : J k) (hs : s = Inv k)
    (hout : ∀ s, Out s → WpC cx.P B c s R) : WpC cx.P B (.seq (.block id (.loop body)) c) s R := by
  subst hs
  refine wpc_seq (wpc_bloop0 hc hfit Inv J m Out hok h k hk) ?_ ?_
  · rintro s1 (⟨_, m, h1, h2⟩ | ⟨h1, _⟩)
    · exact wpc_pre h1 (hout m h2)
    · cases h1
  · rintro x s1 hx (⟨h1, _⟩ | ⟨rfl, h2⟩)
    · exact absurd h1 hx
    · exact ho s1 h2
/-- A loop with what it begins with. -/
theorem wpc_iloop {ι : Type} {cx : Cx} {n : Nat} (hc : CtrOk cx) (hfit : Fit cx.P) {a body : Code} {id : Nat} (Inv : ι → St) (J : ι → Prop) (m : ι → Nat) (Out : St → Prop) {ds : List (Nat × Bool)} {gb : Bool} {r : Nat} {O : AV → Prop} (hok : codeOk B.N body = true)
    (h : ∀ k, J k → ((codeE cx (evs cx n) body (Inv k)).map (lfOf B.nx0 ds gb r)).wp (LfQ (RoundQ Inv J m id k Out) O)) (ho : ∀ s, O (look s.sl r) → R .ret s) (hoka : codeOk B.N a = true)
    (hi : ((codeE cx (evs cx n) a s).map (lfOf B.nx0 ds gb r)).wp (LfQ (fun x m => x = .norm ∧ ∃ k, m = Inv k ∧ J k) fun _ => False))
    (hout : ∀ s, Out s → WpC cx.P B c s R) : WpC cx.P B (.seq (.seq a (.block id (.loop body))) c) s R := by
  refine wpc_seq (R1 := fun x s => (x = .norm ∧ ∃ m, HoldLe B s m ∧ Out m) ∨ (x = .ret ∧ O (look s.sl r))) (wpc_stage (l := [a]) hc hfit (r := r) (O := fun _ => False) (by simp) (by simp [hoka]) (Tree.wp_imp (fun q hq => ?_) hi) fun _ h => h.elim) ?_ ?_
  · cases q with
    | out a => exact hq
    | go x m =>
      cases m with
      | none => exact hq
      | some m =>
        obtain ⟨rfl, k, rfl, hk⟩ := hq
        exact wpc_bloop0 hc hfit Inv J _ Out hok h k hk
  · rintro s1 (⟨_, m, h1, h2⟩ | ⟨h1, _⟩)
    · exact wpc_pre h1 (hout m h2)
    · cases h1
  · rintro x s1 hx (⟨h1, _⟩ | ⟨rfl, h2⟩)
    · exact absurd h1 hx
    · exact ho s1 h2
/-! Parts of code. -/
def codeOf (fn : Func) : Code := match fn.body with
  | some c => c
  | none => .skip
def cl : Code → Code
  | .seq a _ => a
  | c => c
def cr : Code → Code
  | .seq _ b => b
  | c => c
def cin : Code → Code
  | .block _ c => c
  | .loop c => c
  | .scope c => c
  | c => c
/-- The first pieces of a row of so many, and what is behind them. -/
def firsts : Nat → Code → List Code
  | 0, _ => []
  | n + 1, c => cl c :: firsts n (cr c)
def behind : Nat → Code → Code
  | 0, c => c
  | n + 1, c => behind n (cr c)
end
end Go.Proofs.YtdlghljhgbakjaaDoor
