/-
  PARTS, one behind the other: NW NX NY.
-/
import Derived.Test.YtdlghljhgbakjaaDoorWl4
import Derived.Carry
import Derived.ProofKit
import Derived.Stop.Joined
/-
  PART: the row of a law: of any arguments that can be read, the law's run returns true, what was there stays.
-/
namespace Go.Proofs.YtdlghljhgbakjaaDoor
open Go.ChangeShapes Go.WideShapes Go.ChangeAt Go.WideMaps Go.WideElems Go.RowKit

/-- The shape of an argument of a type: whether it is a row of cells; its cells. -/
def argSh (P : Program) (n : Nat) (t : TypeId) : Option (Bool × List Ck) := match aggO P t, shT P n t with
  | some ag, some ks => match ag || Nat.beq ks.length 1 with
    | true => some (ag, ks)
    | false => none
  | _, _ => none
def argShs (P : Program) (n : Nat) : List TypeId → Option (List (Bool × List Ck))
  | [] => some []
  | t :: ts => match argSh P n t, argShs P n ts with
    | some x, some xs => some (x :: xs)
    | _, _ => none
def ArgOk : Bool × List Ck → AV → Prop
  | (true, ks), a => ∃ l, a = .agg l ∧ Shps ks l
  | (false, ks), a => Shps ks [a]
inductive ArgsOk : List (Bool × List Ck) → List AV → Prop
  | nil : ArgsOk [] []
  | cons {k : Bool × List Ck} {a : AV} {ks : List (Bool × List Ck)} {l : List AV} (h : ArgOk k a) (t : ArgsOk ks l) : ArgsOk (k :: ks) (a :: l)
section
variable {H : Type} {enc : TypeId × Value → H} {P : Program} {w : World}
theorem okWide_one {t : TypeId} {base : Nat} {v : Value} (ht : aggO P t = some false) (h : Value.okWide P w .any base t v) : ∀ cs, v ≠ .agg cs := by
  rintro cs rfl
  unfold aggO at ht
  unfold Value.okWide at h
  split at ht
  · cases ht
  · cases ht
  · rename_i d h1 h2 hd
    rw [hd] at h
    have hc : Cell.okWide P w .any base t (.agg cs) := by
      cases d <;> first | exact h | (exfalso; first | exact h1 _ rfl | exact h2 _ _ rfl)
    unfold Cell.okWide at hc
    rw [hd] at hc
    unfold Cell.ok at hc
    rw [hd] at hc
    cases d <;> simp at hc
  · cases ht
theorem okWide_agg {t : TypeId} {base : Nat} {v : Value} (ht : aggO P t = some true) (h : Value.okWide P w .any base t v) : ∃ cs, v = .agg cs := by
  unfold aggO at ht
  unfold Value.okWide at h
  split at ht
  · rename_i hd; rw [hd] at h; obtain ⟨cs, h1, _⟩ := h; exact ⟨cs, h1⟩
  · rename_i hd; rw [hd] at h; obtain ⟨cs, h1, _⟩ := h; exact ⟨cs, h1⟩
  · cases ht
  · cases ht
theorem cells_scalar {v : Value} (h : ∀ cs, v ≠ .agg cs) : v.cells.toList = [v] := by
  cases v <;> first | rfl | exact absurd rfl (h _)
theorem arg_told {n : Nat} {t : TypeId} {k : Bool × List Ck} {v : Value} {d : DataW H} {p : List MemPlace} {base : Nat} (hg : GlobW w) (hk : argSh P n t = some k) (hv : Value.okWide P w .any base t v)
    (h : DataW.Trod enc P w 0 (fun _ => true) true t v d p) : ∃ a, Rep (frozenE w hg) a v ∧ ArgOk k a := by
  unfold argSh at hk
  split at hk
  · rename_i ag ks h1 h2
    split at hk
    · rename_i hb
      cases hk
      obtain ⟨fuel, hf⟩ := h
      obtain ⟨l, r1, r2, r3⟩ := told (E := frozenE w hg) n t ks h2 (fun b c ty fr hb => frozenE_fz hb) fuel _ _ hf
      cases ag with
      | true =>
        obtain ⟨cs, rfl⟩ := okWide_agg h1 hv
        exact ⟨.agg l, .agg r1 r3, l, rfl, r2⟩
      | false =>
        have hl : ks.length = 1 := by simpa using Nat.eq_of_beq_eq_true hb
        have hc := cells_scalar (okWide_one h1 hv)
        rw [hc] at r1
        cases r1 with
        | cons q1 q2 => cases q2; exact ⟨_, q1, r2⟩
    · cases hk
  · cases hk
theorem args_told (hg : GlobW w) {n : Nat} {base : Nat} : ∀ {ts : List TypeId} {ks : List (Bool × List Ck)} {vs : List Value} {ds : List (DataW H)} {p : List MemPlace}, argShs P n ts = some ks →
    (∀ (j : Nat) t v, ts[j]? = some t → vs[j]? = some v → Value.okWide P w .any base t v) → DataW.TrodAll enc P w 0 (fun _ => true) true ts vs ds p → ∃ as, Reps (frozenE w hg) as vs ∧ ArgsOk ks as
  | [], ks, vs, ds, p, hk, hv, h => by
    obtain ⟨rfl, rfl, rfl⟩ := trodAll_nil h
    cases hk
    exact ⟨[], .nil, .nil⟩
  | t :: ts, ks, vs, ds, p, hk, hv, h => by
    obtain ⟨v, vs1, d, ds1, a, b, rfl, rfl, rfl, h1, h2⟩ := trodAll_cons h
    unfold argShs at hk
    split at hk
    · rename_i x xs e1 e2
      cases hk
      obtain ⟨a, q1, q2⟩ := arg_told hg e1 (hv 0 t v rfl rfl) h1
      obtain ⟨as, q3, q4⟩ := args_told hg e2 (fun j t' v' h1 h2 => hv (j + 1) t' v' (by simpa using h1) (by simpa using h2)) h2
      exact ⟨a :: as, .cons q1 q3, .cons q2 q4⟩
    · cases hk
theorem trodAll_carry (hl : laidOutB P = true) {w' : World} (hb : Below w.heap.size w w') : ∀ {ts : List TypeId} {vs : List Value} {ds : List (DataW H)} {p : List MemPlace}, (ts.all fun t => P.readableRec t && decide (t < P.types.size)) = true →
    DataW.TrodAll enc P w 0 (fun _ => true) true ts vs ds p → (∀ x ∈ p, x.block < w.heap.size) → DataW.TrodAll enc P w' 0 (fun b => decide (b < w.heap.size)) true ts vs ds p
  | [], vs, ds, p, _, h, _ => by
    obtain ⟨rfl, rfl, rfl⟩ := trodAll_nil h
    rfl
  | t :: ts, vs, ds, p, ha, h, hlt => by
    obtain ⟨v, vs1, d, ds1, a, b, rfl, rfl, rfl, h1, h2⟩ := trodAll_cons h
    simp only [List.all_cons, Bool.and_eq_true, decide_eq_true_eq] at ha
    exact ⟨a, b, Below.trod hl ha.1.1 ha.1.2 h1 hb fun x hx => hlt x (List.mem_append.2 (.inl hx)), trodAll_carry hl hb ha.2 h2 fun x hx => hlt x (List.mem_append.2 (.inr hx)), rfl⟩
end
/-- What a law's proof owes: its run, from arguments of the right shapes. -/
def LawRuns (P : Program) (f : Nat) (ks : List (Bool × List Ck)) : Prop :=
  ∀ (w : World) (hg : GlobW w) (vals : Array Value) (as : List AV), ArgsOk ks as → Reps (frozenE w hg) as vals.toList → CallsIn Fence.wide 0 P f vals w fun e w' => ∃ v, e = .returned v ∧ v = .bool true ∧ Quiet w w'
theorem law_lifted {C : Checked} {os : Os} (started : os.Started) (own : ownKnob C.prog.godebug = none) {f : Nat} {fn : Func} (noInit : C.prog.inits.idxOf? f = none) (hfn : C.prog.funcs[f]? = some fn)
    {spec : ChangeSpec} (hvars : spec.vars = []) {tb : TypeId} (hres : fn.resultTypes = #[tb]) (htb : C.prog.underlying tb = some .bool)
    (hspec : ∀ (H : Type) (ds : List (DataW H)), ds.length = fn.params.size → (spec.fn H ds).results = [.lit (.bool true)] ∧ (spec.fn H ds).args = ds ∧ (spec.fn H ds).vars = [])
    (hlaid : laidOutB C.prog = true) (hread : (fn.params.toList.all fun t => C.prog.readableRec t && decide (t < C.prog.types.size)) = true)
    {n : Nat} {ks : List (Bool × List Ck)} (hks : argShs C.prog n fn.params.toList = some ks) (hrun : LawRuns C.prog f ks) (hGM : ∀ W : World, GlobW W)
    (H : Type) (enc : TypeId × Value → H)
    (witness : ∃ (w : World) (tape : Tape) (i : Input), w.os = os ∧ (w.forCall tape i).Shaped C.prog ∧ i.vars = [] ∧ Input.okWide C.prog (w.forCall tape i) .any w.heap.size f i ∧
      spec.pre6 enc C.prog fn [] false (w.forCall tape i).memory i.args ∧ Assume.holds {} C.prog (lone (Frame.enter C.prog f i.args .normal) [] (w.forCall tape i))) :
    ReturnsInHanded {} C os f .any (spec.pre6 enc C.prog fn [] false) (spec.post enc C.prog fn false true false false) := by
  refine returnsInHanded_of_change own started noInit hfn witness ?_
  intro W base args ds gs before hval hW _ _
  have hW' := hW
  obtain ⟨p, q, hA, hV, rfl, hfz, hnd⟩ := hW
  rw [hvars] at hV
  obtain ⟨rfl, rfl⟩ := trodVars_none hV
  have hg : GlobW W := hGM W
  obtain ⟨as, r1, r2⟩ := args_told hg hks (fun j t v h1 h2 => hval j t v (by simpa using h1) (by simpa using h2)) hA
  have hlen : ∀ {ts : List TypeId} {vs : List Value} {ds : List (DataW H)} {p : List MemPlace}, DataW.TrodAll enc C.prog W 0 (fun _ => true) true ts vs ds p → ds.length = ts.length := by
    intro ts
    induction ts with
    | nil => intro vs ds p h; obtain ⟨rfl, rfl, rfl⟩ := trodAll_nil h; rfl
    | cons t ts ih => intro vs ds p h; obtain ⟨v, vs1, d, ds1, a, b, rfl, rfl, rfl, h1, h2⟩ := trodAll_cons h; simp [ih h2]
  have hds : (ds ++ []).length = fn.params.size := by rw [List.append_nil, hlen hA, Array.length_toList]
  obtain ⟨s1, s2, s3⟩ := hspec H (ds ++ []) hds
  have hlt : ∀ x ∈ p, x.block < W.heap.size := fun x hx => hW'.lt x (by simpa using hx)
  have hcalls := callsIn_wide.1 (hrun W hg args as r2 r1)
  refine hcalls.mono fun e W' ⟨v, he, hv, hq⟩ => ?_
  subst he hv
  refine ⟨_, rfl, _, _, _, [], p, [], hW', ?_, ?_, ?_, hq.below.frame _, fun h => by cases h⟩
  · rw [s1, hres]
    exact trodAll_mk1 (shut_bool htb true)
  · rw [s2, List.append_nil]
    exact trodAll_carry hlaid hq.below hread hA hlt
  · rw [s3, hvars]
    rfl
end Go.Proofs.YtdlghljhgbakjaaDoor

/-
  PART: stages of a walk: pieces of code by the evaluator, their ends as short leaves; a loop in its block.
-/
namespace Go.Proofs.YtdlghljhgbakjaaDoor
open Go.RowKit

def Tree.map {α β : Type} (f : α → β) : Tree α → Tree β
  | .ret a => .ret (f a)
  | .br c t e => .br c (t.map f) (e.map f)
  | .side p t => .side p (t.map f)
  | .fail => .fail
theorem Tree.wp_map {α β : Type} {f : α → β} {Q : β → Prop} : ∀ {t : Tree α}, (t.map f).wp Q → t.wp fun a => Q (f a)
  | .ret _, h => h
  | .br _ _ _, h => ⟨fun hc => Tree.wp_map (h.1 hc), fun hc => Tree.wp_map (h.2 hc)⟩
  | .side _ t, h => ⟨h.1, Tree.wp_map (t := t) h.2⟩
  | .fail, h => h
/-- How a piece ends: it goes on (its state made short), or the function returns. -/
inductive Lf where
  | go (x : Ex) (m : Option St)
  | out (a : AV)
def lfOf (nx0 : Nat) (ds : List (Nat × Bool)) (gb : Bool) (r : Nat) (b : Ex × St) : Lf := match b.1 with
  | .ret => .out (look b.2.sl r)
  | x => .go x (canon nx0 ds gb b.2)
def LfQ (R : Ex → St → Prop) (O : AV → Prop) : Lf → Prop
  | .go x (some m) => R x m
  | .go _ none => False
  | .out a => O a
/-- The answer is true. -/
def IsTrue (a : AV) : Prop := ∀ (E : Env) v, Rep E a v → v = .bool true
theorem isTrue_lit : IsTrue (.lit (.bool true)) := fun E v h => by cases h; rfl
theorem isTrue_v {b : Bool} (hb : b = true) : IsTrue (.v (.bool b)) := fun E v h => by cases h; rw [hb]
def joins : List Code → Code
  | [] => .skip
  | [a] => a
  | a :: l => .seq a (joins l)
def seqs : List Code → Code → Code
  | [], c => c
  | a :: l, c => .seq a (seqs l c)
section
variable {P : Program} {B : Start} {c : Code} {s : St} {R : Ex → St → Prop}
theorem wpc_of_lf {cx : Cx} {n : Nat} (hc : CtrOk cx) (hfit : Fit cx.P) {ds : List (Nat × Bool)} {gb : Bool} {r : Nat} {O : AV → Prop} (hcode : codeOk B.N c = true)
    (h : ((codeE cx (evs cx n) c s).map (lfOf B.nx0 ds gb r)).wp (LfQ R O)) (ho : ∀ s, O (look s.sl r) → R .ret s) : WpC cx.P B c s R := by
  refine wpc_post (wpc_ev (R := fun x s => LfQ R O (lfOf B.nx0 ds gb r (x, s))) hc hfit hcode (Tree.wp_map h)) fun x s' hq => ?_
  cases x with
  | ret => exact ⟨s', fun _ _ h => h, ho s' hq⟩
  | norm =>
    cases hm : canon B.nx0 ds gb s' with
    | none => simp only [lfOf, hm] at hq; exact hq.elim
    | some m => simp only [lfOf, hm] at hq; exact ⟨m, canon_ok hm, hq⟩
  | exit id =>
    cases hm : canon B.nx0 ds gb s' with
    | none => simp only [lfOf, hm] at hq; exact hq.elim
    | some m => simp only [lfOf, hm] at hq; exact ⟨m, canon_ok hm, hq⟩
  | goto l =>
    cases hm : canon B.nx0 ds gb s' with
    | none => simp only [lfOf, hm] at hq; exact hq.elim
    | some m => simp only [lfOf, hm] at hq; exact ⟨m, canon_ok hm, hq⟩
theorem wpc_skip (h : R .norm s) : WpC P B .skip s R := fun act w Q hs hQ => by
  refine wpIn_skip ?_
  exact hQ _ s act w h hs
/-- Some pieces ahead of others, by the evaluator. -/
theorem wpc_evs {cx : Cx} {n : Nat} (hc : CtrOk cx) (hfit : Fit cx.P) : ∀ (l : List Code) (s : St), l ≠ [] → (l.all fun a => codeOk B.N a) = true →
    (codeE cx (evs cx n) (joins l) s).wp (fun b => match b.1 with | .norm => WpC cx.P B c b.2 R | x => R x b.2) → WpC cx.P B (seqs l c) s R
  | [], _, h, _, _ => absurd rfl h
  | [a], s, _, hok, h => by
    simp only [List.all_cons, List.all_nil, Bool.and_true] at hok
    refine wpc_seq (wpc_ev (R := fun x s' => match x with | .norm => WpC cx.P B c s' R | x => R x s') hc hfit hok h) (fun s1 h1 => h1) fun x s1 hx h1 => ?_
    cases x <;> first | exact absurd rfl hx | exact h1
  | a :: b :: l, s, _, hok, h => by
    simp only [List.all_cons, Bool.and_eq_true] at hok
    have h' := Tree.wp_bind (show ((codeE cx (evs cx n) a s).bind fun (e, s) => match e with | .norm => codeE cx (evs cx n) (joins (b :: l)) s | e => .ret (e, s)).wp _ from h)
    refine wpc_seq (R1 := fun x s' => match x with | .norm => WpC cx.P B (seqs (b :: l) c) s' R | x => R x s') (wpc_ev hc hfit hok.1 (Tree.wp_imp (fun q hq => ?_) h')) (fun s1 h1 => h1) fun x s1 hx h1 => ?_
    · obtain ⟨x, s'⟩ := q
      cases x with
      | norm => exact wpc_evs hc hfit (b :: l) s' (by simp) (by simp [hok.2]) hq
      | exit id => exact hq
      | goto l => exact hq
      | ret => exact hq
    · cases x <;> first | exact absurd rfl hx | exact h1
/-- A stage: some pieces by the evaluator, what is behind them from the short states. -/
theorem wpc_stage {cx : Cx} {n : Nat} (hc : CtrOk cx) (hfit : Fit cx.P) {l : List Code} {ds : List (Nat × Bool)} {gb : Bool} {r : Nat} {O : AV → Prop} (hl : l ≠ []) (hok : (l.all fun a => codeOk B.N a) = true)
    (h : ((codeE cx (evs cx n) (joins l) s).map (lfOf B.nx0 ds gb r)).wp (LfQ (fun x m => match x with | .norm => WpC cx.P B c m R | x => R x m) O)) (ho : ∀ s, O (look s.sl r) → R .ret s) : WpC cx.P B (seqs l c) s R := by
  refine wpc_post (R1 := fun x s' => ∃ m, HoldLe B s' m ∧ R x m) (wpc_evs hc hfit l s hl hok (Tree.wp_imp (fun q hq => ?_) (Tree.wp_map h))) fun x s' h => h
  obtain ⟨x, s'⟩ := q
  cases x with
  | ret => exact ⟨s', fun _ _ h => h, ho s' hq⟩
  | norm =>
    cases hm : canon B.nx0 ds gb s' with
    | none => simp only [lfOf, hm] at hq; exact hq.elim
    | some m =>
      simp only [lfOf, hm] at hq
      exact wpc_pre (canon_ok hm) (wpc_imp hq fun x s1 h1 => ⟨s1, fun _ _ h => h, h1⟩)
  | exit id =>
    cases hm : canon B.nx0 ds gb s' with
    | none => simp only [lfOf, hm] at hq; exact hq.elim
    | some m => simp only [lfOf, hm] at hq; exact ⟨m, canon_ok hm, hq⟩
  | goto l =>
    cases hm : canon B.nx0 ds gb s' with
    | none => simp only [lfOf, hm] at hq; exact hq.elim
    | some m => simp only [lfOf, hm] at hq; exact ⟨m, canon_ok hm, hq⟩
/-- What a round does: it goes on, leaves the loop, or returns. -/
def RoundQ {ι : Type} (Inv : ι → St) (J : ι → Prop) (m : ι → Nat) (id : Nat) (k : ι) (Out : St → Prop) (x : Ex) (s : St) : Prop := match x with
  | .norm => ∃ k', s = Inv k' ∧ J k' ∧ m k' < m k
  | .exit id' => id' = id ∧ Out s
  | .ret => False
  | .goto _ => False
/-- A loop in its block: each round from a short state. -/
theorem wpc_bloop0 {ι : Type} {cx : Cx} {n : Nat} (hc : CtrOk cx) (hfit : Fit cx.P) {body : Code} {id : Nat} (Inv : ι → St) (J : ι → Prop) (m : ι → Nat) (Out : St → Prop) {ds : List (Nat × Bool)} {gb : Bool} {r : Nat} {O : AV → Prop} (hok : codeOk B.N body = true)
    (h : ∀ k, J k → ((codeE cx (evs cx n) body (Inv k)).map (lfOf B.nx0 ds gb r)).wp (LfQ (RoundQ Inv J m id k Out) O)) (k : ι) (hk : J k) :
    WpC cx.P B (.block id (.loop body)) (Inv k) fun x s => (x = .norm ∧ ∃ m, HoldLe B s m ∧ Out m) ∨ (x = .ret ∧ O (look s.sl r)) := by
  refine wpc_block (R1 := fun x s => (x = .exit id ∧ ∃ m, HoldLe B s m ∧ Out m) ∨ (x = .ret ∧ O (look s.sl r))) (wpc_loop Inv J m _ (fun k hk => ?_) k hk) ?_ ?_
  · refine wpc_imp (wpc_ev (R := fun x s => LfQ (RoundQ Inv J m id k Out) O (lfOf B.nx0 ds gb r (x, s))) hc hfit hok (Tree.wp_map (h k hk))) fun x s' hq => ?_
    cases x with
    | ret => exact .inr ⟨by simp, .inr ⟨rfl, hq⟩⟩
    | norm =>
      cases hm : canon B.nx0 ds gb s' with
      | none => simp only [lfOf, hm] at hq; exact hq.elim
      | some m' =>
        simp only [lfOf, hm] at hq
        obtain ⟨k', rfl, h2, h3⟩ := hq
        exact .inl ⟨rfl, k', h2, h3, canon_ok hm⟩
    | exit id' =>
      cases hm : canon B.nx0 ds gb s' with
      | none => simp only [lfOf, hm] at hq; exact hq.elim
      | some m =>
        simp only [lfOf, hm] at hq
        obtain ⟨rfl, h2⟩ := hq
        exact .inr ⟨by simp, .inl ⟨rfl, m, canon_ok hm, h2⟩⟩
    | goto l =>
      cases hm : canon B.nx0 ds gb s' with
      | none => simp only [lfOf, hm] at hq; exact hq.elim
      | some m => simp only [lfOf, hm] at hq; exact hq.elim
  · rintro s1 (⟨_, h2⟩ | ⟨h1, _⟩)
    · exact .inl ⟨rfl, h2⟩
    · cases h1
  · rintro x s1 hx (⟨h1, h2⟩ | ⟨h1, h2⟩)
    · exact absurd h1 hx
    · exact .inr ⟨h1, h2⟩
/-- Ahead of more. -/
theorem wpc_bloop {ι : Type} {cx : Cx} {n : Nat} (hc : CtrOk cx) (hfit : Fit cx.P) {body : Code} {id : Nat} (Inv : ι → St) (J : ι → Prop) (m : ι → Nat) (Out : St → Prop) {ds : List (Nat × Bool)} {gb : Bool} {r : Nat} {O : AV → Prop} (hok : codeOk B.N body = true)
    (h : ∀ k, J k → ((codeE cx (evs cx n) body (Inv k)).map (lfOf B.nx0 ds gb r)).wp (LfQ (RoundQ Inv J m id k Out) O)) (ho : ∀ s, O (look s.sl r) → R .ret s) (k : ι) (hk : J k) (hs : s = Inv k)
    (hout : ∀ s, Out s → WpC cx.P B c s R) : WpC cx.P B (.seq (.block id (.loop body)) c) s R := by
  subst hs
  refine wpc_seq (wpc_bloop0 hc hfit Inv J m Out hok h k hk) ?_ ?_
  · rintro s1 (⟨_, m, h1, h2⟩ | ⟨h1, _⟩)
    · exact wpc_pre h1 (hout m h2)
    · cases h1
  · rintro x s1 hx (⟨h1, _⟩ | ⟨rfl, h2⟩)
    · exact absurd h1 hx
    · exact ho s1 h2
/-- A loop with what it begins with. -/
theorem wpc_iloop {ι : Type} {cx : Cx} {n : Nat} (hc : CtrOk cx) (hfit : Fit cx.P) {a body : Code} {id : Nat} (Inv : ι → St) (J : ι → Prop) (m : ι → Nat) (Out : St → Prop) {ds : List (Nat × Bool)} {gb : Bool} {r : Nat} {O : AV → Prop} (hok : codeOk B.N body = true)
    (h : ∀ k, J k → ((codeE cx (evs cx n) body (Inv k)).map (lfOf B.nx0 ds gb r)).wp (LfQ (RoundQ Inv J m id k Out) O)) (ho : ∀ s, O (look s.sl r) → R .ret s) (hoka : codeOk B.N a = true)
    (hi : ((codeE cx (evs cx n) a s).map (lfOf B.nx0 ds gb r)).wp (LfQ (fun x m => x = .norm ∧ ∃ k, m = Inv k ∧ J k) fun _ => False))
    (hout : ∀ s, Out s → WpC cx.P B c s R) : WpC cx.P B (.seq (.seq a (.block id (.loop body))) c) s R := by
  refine wpc_seq (R1 := fun x s => (x = .norm ∧ ∃ m, HoldLe B s m ∧ Out m) ∨ (x = .ret ∧ O (look s.sl r))) (wpc_stage (l := [a]) hc hfit (r := r) (O := fun _ => False) (by simp) (by simp [hoka]) (Tree.wp_imp (fun q hq => ?_) hi) fun _ h => h.elim) ?_ ?_
  · cases q with
    | out a => exact hq
    | go x m =>
      cases m with
      | none => exact hq
      | some m =>
        obtain ⟨rfl, k, rfl, hk⟩ := hq
        exact wpc_bloop0 hc hfit Inv J _ Out hok h k hk
  · rintro s1 (⟨_, m, h1, h2⟩ | ⟨h1, _⟩)
    · exact wpc_pre h1 (hout m h2)
    · cases h1
  · rintro x s1 hx (⟨h1, _⟩ | ⟨rfl, h2⟩)
    · exact absurd h1 hx
    · exact ho s1 h2
/-! Parts of code. -/
def codeOf (fn : Func) : Code := match fn.body with
  | some c => c
  | none => .skip
def cl : Code → Code
  | .seq a _ => a
  | c => c
def cr : Code → Code
  | .seq _ b => b
  | c => c
def cin : Code → Code
  | .block _ c => c
  | .loop c => c
  | .scope c => c
  | c => c
/-- The first pieces of a row of so many, and what is behind them. -/
def firsts : Nat → Code → List Code
  | 0, _ => []
  | n + 1, c => cl c :: firsts n (cr c)
def behind : Nat → Code → Code
  | 0, c => c
  | n + 1, c => behind n (cr c)
end
end Go.Proofs.YtdlghljhgbakjaaDoor

/-
  PART: contracts whose answers may lead to new blocks: these are taken to stay as they are from then on.
-/
namespace Go.Proofs.YtdlghljhgbakjaaDoor
open Go.RowKit

/-- A value with all that it leads to, taken to stay as it is. -/
def ix1 (nl : Bool) (n i : Nat) : Nat := match nl && Nat.beq n 1 with
  | true => 0
  | false => i
theorem ix1_eq {nl : Bool} {n i : Nat} (h : i < n) : ix1 nl n i = i := by
  unfold ix1
  split
  · rename_i hb
    simp only [Bool.and_eq_true] at hb
    have := Nat.eq_of_beq_eq_true hb.2
    omega
  · rfl
def frzD (hp : List (Nat × Option Blk)) : Nat → AV → AV
  | 0, _ => .unk
  | d + 1, a => match a with
    | .lit v => .lit v
    | .v v => .v v
    | .agg l => .agg (l.map (frzD hp d))
    | .tup l => .tup (l.map (frzD hp d))
    | .fz cs off => .fz (cs.map (frzD hp d)) off
    | .fn f a b => .fn f (a.map (frzD hp d)) (b.map (frzD hp d))
    | .any φ => .any φ
    | .sl n k get nl full => .sl n k (fun i => (get i).map (frzD hp d)) nl full
    | .ptr x off => match hget hp x with
      | some (.fix _ cs) => .fz (cs.map (frzD hp d)) off
      | _ => .unk
    | .own x n k nl => match hget hp x with
      | some (.arr _ _ k' get) => match Nat.beq k k' with
        | true => .sl n k (fun i => (get (ix1 nl n i)).map (frzD hp d)) nl false
        | false => .unk
      | _ => .unk
    | _ => .unk
/-- A contract: of these arguments that answer; what was there stays, what is new stays from then on. -/
def FrzOk (P : Program) (f : Nat) (args : List AV) (a : AV) : Prop :=
  ∀ (r : Option Nat) (E : Env) (w : World) (vals : Array Value) (K : Value → World → Prop), (∀ x, ¬ E.dom x) → FzOk E w → Reps E args vals.toList →
    (∀ v w' (E' : Env), (∀ x, ¬ E'.dom x) → (∀ b c, E.fz b = some c → E'.fz b = some c) → (∀ b, b < w.heap.size → E'.fz b = E.fz b) → FzOk E' w' → Rep E' a v → Quiet w w' → K v w') →
    (∃ v, (callFunc f vals).run P w = .ok (.value v) w ∧ K v w) ∨ ((callFunc f vals).run P w = .ok (.enter f vals) w ∧ CallsIn (wideR r) 0 P f vals w fun e w' => ∃ v, e = .returned v ∧ K v w')
section
variable {P : Program} {E E' : Env}
theorem frzD_ok {hp : List (Nat × Option Blk)} {w : World} (hS : Sim (fun _ => True) E (hget hp) w) (hfz : ∀ b c, E.fz b = some c → E'.fz b = some c)
    (hnew : ∀ x, hget hp x ≠ none → E.vir x = false → ∀ c ty fr, blkW w (E.ρ x) = some (.cells c ty fr) → E'.fz (E.ρ x) = some c) : ∀ (d : Nat) (a : AV) (v : Value), Rep E a v → Rep E' (frzD hp d a) v
  | 0, a, v, h => .unk v
  | d + 1, a, v, h => by
    have ih := frzD_ok hS hfz hnew d
    have ihs : ∀ {l : List AV} {vs : List Value}, Reps E l vs → Reps E' (l.map (frzD hp d)) vs := fun h => h.mapR fun a _ v => ih a v
    unfold frzD
    match h with
    | .lit v h => exact .lit v h
    | .v v h => exact .v v h
    | .agg h ho => exact .agg (ihs h) ho
    | .tup h => exact .tup (ihs h)
    | .fz h hs hr ho => exact .fz (hfz _ _ h) (by rw [List.length_map]; exact hs) (by rw [List.length_map]; exact ihs hr) (by rw [List.length_map]; exact ho)
    | .slNil hn => exact .slNil hn
    | .slEmp hn hf => exact .slEmp hn hf
    | .sl h hs hf hc hr ho => exact .sl (hfz _ _ h) hs hf hc (fun i hi => ihs (hr i hi)) ho
    | .fn h h' => exact .fn (ihs h) (ihs h')
    | .any h ho => exact .any (fun fz' hf => h fz' fun b c hb => hf b c (hfz b c hb)) ho
    | @Rep.ptr _ x off hd =>
      simp only []
      split
      · rename_i ty cs hb
        obtain ⟨hv, c, hc1, hc2, hc3⟩ := blk_fix hS trivial hb
        obtain ⟨hw1, hw2⟩ := hc2.whole
        have := Rep.fz (E := E') (cs := cs.map (frzD hp d)) (off := off) (base := 0) (hnew x (by rw [hb]; simp) hv _ _ _ hc1) (by rw [List.length_map]; exact hw2) (by rw [List.length_map]; exact ihs hw1) ((hc3.drop _).take _)
        rwa [Nat.zero_add] at this
      · exact .unk _
    | @Rep.own _ x n k nl hd hv hn =>
      simp only []
      split
      · rename_i ty m k' get hb
        split
        · rename_i hk
          obtain rfl := Nat.eq_of_beq_eq_true hk
          have hB := hS.blk x _ trivial hb
          obtain ⟨hm, hB⟩ := hB
          rcases hB with ⟨hv', _⟩ | ⟨_, c, h1, h2, h3, h4, h5⟩
          · rw [hv] at hv'; cases hv'
          · have hnm : n = m := hn.trans hm.symm
            subst hnm
            have := Rep.sl (E := E') (n := n) (k := k) (off := 0) (cap := E.cp x) (get := fun i => (get (ix1 nl n i)).map (frzD hp d)) (nl := nl) (full := false) (hnew x (by rw [hb]; simp) hv _ _ _ h1)
              (by rw [Nat.zero_add, h2]; exact Nat.mul_le_mul_right _ h3) (fun h => by cases h) h3 (fun i hi => by rw [Nat.zero_add]; exact (by rw [ix1_eq hi]; exact ihs (h5 i hi))) ((h4.drop _).take _)
            exact this
        · exact .unk _
      · exact .unk _
    | @Rep.ownNil _ x n k nl hd hv hn hl =>
      simp only []
      split
      · split
        · exact .slNil hn
        · exact .unk _
      · exact .unk _
    | .pti _ _ _ => exact .unk _
    | .pe _ => exact .unk _
    | .slv _ => exact .unk _
    | .unk v => exact .unk _
/-- The world behind a run: what stood stays, new rows of cells stay from now on. -/
def Env.after (E : Env) (n : Nat) (w' : World) (hf : ∀ b c, E.fz b = some c → ∃ ty fr, blkW w' b = some (.cells c ty fr)) : Env :=
  { ρ := fun _ => 0, dom := fun _ => False, vir := fun _ => false, cp := fun _ => 0, ln := fun _ => 0,
    fz := fun b => if b < n then E.fz b else match blkW w' b with | some (.cells c _ _) => some c | _ => none,
    gok := fun g => (E.gok g).mono fun c h => by
      by_cases hb : g < n
      · rw [if_pos hb]; exact h
      · rw [if_neg hb]; obtain ⟨ty, fr, hq⟩ := hf g c h; rw [hq] }
theorem Env.after_fz {n : Nat} {w' : World} (hf : ∀ b c, E.fz b = some c → ∃ ty fr, blkW w' b = some (.cells c ty fr)) {b : Nat} {c : Array Value} (h : E.fz b = some c) : (E.after n w' hf).fz b = some c := by
  show (if b < n then E.fz b else match blkW w' b with | some (.cells c _ _) => some c | _ => none) = some c
  by_cases hb : b < n
  · rw [if_pos hb]; exact h
  · rw [if_neg hb]; obtain ⟨ty, fr, hq⟩ := hf b c h; rw [hq]
theorem Env.after_ok {n : Nat} {w' : World} (hf : ∀ b c, E.fz b = some c → ∃ ty fr, blkW w' b = some (.cells c ty fr)) : FzOk (E.after n w' hf) w' := fun b c h => by
  have h' : (if b < n then E.fz b else match blkW w' b with | some (.cells c _ _) => some c | _ => none) = some c := h
  by_cases hb : b < n
  · rw [if_pos hb] at h'; exact hf b c h'
  · rw [if_neg hb] at h'
    split at h'
    · rename_i c' ty fr he; cases h'; exact ⟨ty, fr, he⟩
    · cases h'
/-- What a piece of a run that began with no blocks of its own leaves. -/
theorem frz_post {w w' : World} {s : St} {E : Env} (p : Pst (fun _ => True) E E' (fun _ => none) (hget s.hp) 0 s.nx s.wr w w') (hd : ∀ x, ¬ E.dom x) {a : AV} {v : Value} {d : Nat} (hv : Rep E' a v) :
    ∃ E2 : Env, (∀ x, ¬ E2.dom x) ∧ (∀ b c, E.fz b = some c → E2.fz b = some c) ∧ (∀ b, b < w.heap.size → E2.fz b = E.fz b) ∧ FzOk E2 w' ∧ Rep E2 (frzD s.hp d a) v ∧ Quiet w w' := by
  have old : ∀ b, b < w.heap.size → blkW w' b = blkW w b ∧ E'.fz b = E.fz b := fun b hb => p.frame b hb fun x _ hx => absurd hx (Nat.not_lt_zero x)
  refine ⟨E'.after w.heap.size w' p.sim.fz, fun _ h => h, fun b c h => Env.after_fz _ (p.le.fz b c h), fun b hb => ?_, Env.after_ok _, ?_, ⟨fun b hb => (old b hb).1, p.size, p.os, p.tape, p.output⟩⟩
  · show (if b < w.heap.size then E'.fz b else _) = _
    rw [if_pos hb]; exact (old b hb).2
  · refine frzD_ok p.sim (fun b c h => Env.after_fz _ h) (fun x hx hvir c ty fr hb => ?_) d a v hv
    have hge : w.heap.size ≤ E'.ρ x := by
      have hdom := p.sim.dom x trivial hx
      rcases p.dom x hdom with h | h
      · exact absurd h (hd x)
      · rcases p.news x h.1 h.2 trivial hx hvir with h | ⟨y, _, hy, _⟩
        · exact h
        · exact absurd hy (Nat.not_lt_zero y)
    show (if E'.ρ x < w.heap.size then E'.fz (E'.ρ x) else match blkW w' (E'.ρ x) with | some (.cells c _ _) => some c | _ => none) = some c
    rw [if_neg (by omega), hb]
theorem FrzOk.pre {f : Nat} {args args' : List AV} {a : AV} (h : FrzOk P f args' a) (ha : ∀ E vs, Reps E args vs → Reps E args' vs) : FrzOk P f args a :=
  fun rr E w vals K hd hf hargs hK => h rr E w vals K hd hf (ha E _ hargs) hK
theorem FrzOk.imp {f : Nat} {args : List AV} {a b : AV} (h : FrzOk P f args a) (hab : ∀ E v, Rep E a v → Rep E b v) : FrzOk P f args b :=
  fun rr E w vals K hd hf hargs hK => h rr E w vals K hd hf hargs fun v w' E' h1 h2 h3 h4 h5 h6 => hK v w' E' h1 h2 h3 h4 (hab E' v h5) h6
theorem FrzOk.of_pure {f : Nat} {args : List AV} {a : AV} (h : PureOk P f args a) : FrzOk P f args a :=
  fun rr E w vals K hd hf hargs hK => h rr E w vals K hd hf hargs fun v w' hv hq => hK v w' E hd (fun _ _ h => h) (fun _ _ => rfl) (fun b c hb => by
    obtain ⟨ty, fr, h⟩ := hf b c hb
    exact ⟨ty, fr, (hq.old b (blkW_some_lt h)).trans h⟩) (hv E) hq
/-- By evaluation. -/
theorem frz_of {r : Evs} (hE : CallsOk P r) {f : Nat} {args : List AV} {a : AV} {s : St} (h : (r.call f args .nil).hit (a, s)) (d : Nat) : FrzOk P f args (frzD s.hp d a) := by
  intro rr E w vals K hd hfz hargs hK
  have ok := hE f args .nil a s h
  refine ok.run rr (fun _ => True) E w vals K (fun x hx => by exact absurd rfl hx) (fun _ _ => trivial) (fun x _ _ hx => hd x hx) ⟨hfz, fun x _ hn => absurd rfl hn, fun x _ hn => absurd rfl hn, fun x B _ hB => (by cases hB), fun x y _ _ hn => absurd rfl hn⟩ hargs fun E' v w' hv p => ?_
  obtain ⟨E2, h1, h2, h3, h4, h5, h6⟩ := frz_post (s := s) (d := d) p hd hv
  exact hK v w' E2 h1 h2 h3 h4 h5 h6
/-- Of a function with open loops. -/
theorem frz_of_wpc {f : Nat} {fn : Func} {c : Code} (hfit : Fit P) (hfn : P.funcs[f]? = some fn) (hb : fn.body = some c) {args : List AV} (hle : args.length ≤ fn.ntmps) {a : AV} {d : Nat}
    {R : Ex → St → Prop} (h : ∀ (E : Env) (w : World) (hd : ∀ x, ¬ E.dom x) (hf : FzOk E w), WpC P (begins fn.ntmps E w hd hf) c (entry args) R)
    (hres : ∀ x s, R x s → (x = .norm ∨ x = .ret) ∧ (ressA P fn.results.toList s).wp fun b => ∀ E v, Rep E (frzD b.2.hp d (oneA b.1)) v → Rep E a v) : FrzOk P f args a := by
  intro rr E w vals K hd hf hargs hK
  have hname' : ¬ fn.name = "runtime.NumGoroutine" := by simpa using (fit_func hfit hfn hb).2
  refine .inr ⟨by simp [callFunc, hfn, hname', hb], ?_⟩
  have hc : CallsIn Fence.wide 0 P f vals w fun e w' => ∃ v, e = .returned v ∧ K v w' := by
    refine callsIn_of_wp_marks hfn hb trivial ?_ rfl
    refine h E w hd hf _ w _ ⟨E, Pst.refl (Start.sim (begins fn.ntmps E w hd hf)), params_fr (st := .nil) hargs hle, fun x hx => absurd hx (hd x), fun x hx => absurd rfl hx, Ext.none (fun _ _ h => nomatch h) rfl, Nat.le_refl _⟩ fun x s act' w' hR ⟨E', p, hfr, hbd, hwf, hdf, hnx⟩ => ?_
    obtain ⟨hx, hw⟩ := hres x s hR
    obtain ⟨⟨as, s1⟩, hh, hV⟩ := Tree.wp_hit hw
    obtain ⟨⟨_, _, e3, e4, _⟩, k2⟩ := ressA_ok (N := fn.ntmps) hh
    have hpost : LeavesInM Fence.wide 0 P fn act'.tmps (fun e w' => ∃ v, e = .returned v ∧ K v w') act'.defers .returning w' := by
      refine leaves_out (B := begins fn.ntmps E w hd hf) p hdf fun w3 p3 => ?_
      obtain ⟨vs, r1, r2⟩ := k2 (fun _ => True) E' act' w3 (fun _ _ => trivial) p3.sim hfr
      have p' : Pst (fun _ => True) E E' (fun _ => none) (hget s.hp) 0 s.nx [] w w3 := p3
      have p2 : Pst (fun _ => True) E E' (fun _ => none) (hget s1.hp) 0 s1.nx s1.wr w w3 := by
        rw [e3, e4]
        exact p'.more fun x hx => by cases hx
      obtain ⟨E2, h1, h2, h3, h4, h5, h6⟩ := frz_post (s := s1) (d := d) p2 hd (oneA_ok r2)
      exact ⟨_, results_run r1, _, rfl, hK _ w3 E2 h1 h2 h3 h4 (hV E2 _ h5) h6⟩
    rcases hx with rfl | rfl
    · exact hpost
    · exact hpost
  cases rr with
  | none => exact hc
  | some l => exact hc.inRound l
/-- A table of such contracts, behind one of those that leave all as it was. -/
def ctrOf2 (tabP tabF : Nat → List AV → Option (Tree AV)) (f : Nat) (args : List AV) (st : St) : Option (Tree (AV × St)) :=
  match tabP f (args.map (frz st.hp 4)) with
  | some t => some (t.bind fun a => .ret (a, st.reads (args.flatMap (frzIds st.hp 4))))
  | none => match tabF f (args.map (strip 8)) with
    | some t => some (t.bind fun a => .ret (a, st))
    | none => none
def TabFOk (P : Program) (tab : Nat → List AV → Option (Tree AV)) : Prop := ∀ f args t a, tab f args = some t → t.hit a → FrzOk P f args a
theorem ctrOf2_ok {tabP tabF : Nat → List AV → Option (Tree AV)} (h : TabOk P tabP) (h2 : TabFOk P tabF) (dec : Nat → St → Option Bool) : CtrOk ⟨P, ctrOf2 tabP tabF, dec⟩ := by
  have h1 := ctrOf_ok h
  have all : ∀ u : Tree AV, u.All fun _ => True := fun u => by induction u <;> simp_all [Tree.All]
  refine ⟨fun f args st t ht => ?_, fun f args st t a st' ht hh => ?_⟩
  · have ht' : ctrOf2 tabP tabF f args st = some t := ht
    unfold ctrOf2 at ht'
    split at ht'
    · rename_i u hu
      exact h1.all f args st t (by show ctrOf tabP f args st = some t; unfold ctrOf; rw [hu]; exact ht')
    · split at ht'
      · cases ht'
        exact (all _).bind fun a _ => ⟨Grew.refl st, rfl⟩
      · cases ht'
  · have ht' : ctrOf2 tabP tabF f args st = some t := ht
    unfold ctrOf2 at ht'
    split at ht'
    · rename_i u hu
      exact h1.ok f args st t a st' (by show ctrOf tabP f args st = some t; unfold ctrOf; rw [hu]; exact ht') hh
    · split at ht'
      · rename_i u hu
        cases ht'
        obtain ⟨a', q1, q2⟩ := Tree.hit_bind hh
        cases q2
        have hp := h2 f _ u _ hu q1
        refine ⟨Grew.refl st, rfl, fun rr FP E w vals K hwf hcov hfree hS hargs hK => ?_⟩
        let E1 : Env := { E with dom := fun _ => False }
        have hE1 : ∀ b c, E.fz b = some c → E1.fz b = some c := fun _ _ h => h
        refine hp rr E1 w vals K (fun _ h => h) (fun b c hb => hS.fz b c hb) (hargs.mapR fun b _ v hv => strip_ok (E' := E1) hE1 8 b v hv) fun v w' E' k1 k2 k3 k4 k5 k6 => ?_
        let E2 : Env := { E with fz := E'.fz, gok := E'.gok }
        have l2 : E.le E2 := ⟨fun _ h => h, fun _ _ => rfl, fun _ _ => rfl, fun _ _ => rfl, fun _ _ => rfl, fun b c hb => k2 b c hb⟩
        have l3 : E'.le E2 := ⟨fun x h => absurd h (k1 x), fun x h => absurd h (k1 x), fun x h => absurd h (k1 x), fun x h => absurd h (k1 x), fun x h => absurd h (k1 x), fun _ _ h => h⟩
        have s2 := k6.sim hS
        refine hK E2 v w' (k5.mono l3) ⟨⟨l2, fun _ hx => .inl hx, ⟨k4, hS.dom, fun x hx hn hv => ?_, fun x B hx hB => (s2.blk x B hx hB).mono l2 (hS.dom x hx (by rw [hB]; simp)), hS.inj⟩, fun b hb _ => ⟨k6.old b hb, k3 b hb⟩, fun _ h1 h2 => absurd h2 (by show ¬ _ < st.nx; omega), k6.size, k6.os, k6.tape, k6.output⟩, fun _ _ _ hn => hn⟩
        have := hS.low x hx hn hv
        refine ⟨Nat.lt_of_lt_of_le this.1 k6.size, ?_⟩
        show E'.fz (E.ρ x) = none
        rw [k3 _ this.1]; exact this.2
      · cases ht'
end
end Go.Proofs.YtdlghljhgbakjaaDoor
