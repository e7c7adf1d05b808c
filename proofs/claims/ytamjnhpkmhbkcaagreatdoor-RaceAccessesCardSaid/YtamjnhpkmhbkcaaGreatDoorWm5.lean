/-
  PARTS, one behind the other: NZ NC0 NC1 NC2 NC3 NCD NC4 NC5 NC6 NC7 NC8 NC9 NCA NCB.
-/
import Derived.Test.YtamjnhpkmhbkcaaGreatDoorWm4
import Derived.LaidMore
import Derived.RangeFuncSeq
/-
  PART: the row of a law, under the condition that package-level variables hold what the text lays.
-/
namespace Go.Proofs.YtamjnhpkmhbkcaaGreatDoor
open Go.ChangeShapes Go.WideShapes Go.ChangeAt Go.WideMaps Go.WideElems Go.RowKit

theorem handed_shaped {H : Type} {enc : TypeId × Value → H} {a : Assume} {C : Checked} {os : Os} {f : FuncId} {fn : Func} {s : ChangeSpec} {conds : List PathCond} {apart fresh handsOn again : Bool} {X : World → Array Value → Prop}
    (hX : ∀ (w w' : World) (args : Array Value), w.heap = w'.heap → X w args → X w' args)
    (own : ownKnob C.prog.godebug = none) (started : os.Started) (noInit : C.prog.inits.idxOf? f = none) (hfn : C.prog.funcs[f]? = some fn)
    (witness : ∃ (w : World) (tape : Tape) (i : Input), w.os = os ∧ (w.forCall tape i).Shaped C.prog ∧ i.vars = [] ∧ Input.okWide C.prog (w.forCall tape i) .any w.heap.size f i ∧
      ((s.pre enc C.prog fn conds apart (w.forCall tape i).memory i.args ∧ X (w.forCall tape i).memory i.args) ∧ sizedMet enc C.prog fn (OpenSpec.ofChange s) apart (w.forCall tape i).memory i.args) ∧ a.holds C.prog (lone (Frame.enter C.prog f i.args .normal) [] (w.forCall tape i)))
    (contract : ∀ (W : World) (base : Nat) (args : Array Value) (ds gs : List (DataW H)) (before : List MemPlace),
      (∀ (j : Nat) t v, fn.params[j]? = some t → args[j]? = some v → Value.okWide C.prog W .any base t v) →
      DataW.Whole enc C.prog fn.params.toList s.vars apart W args.toList ds gs before →
      X W args → W.ShapedOpen C.prog →
      Calls C.prog f args W fun e W' => ∃ v, e = .returned v ∧ s.post enc C.prog fn apart fresh handsOn again W args v W') :
    ReturnsInHanded a C os f .any (fun w args => (s.pre enc C.prog fn conds apart w args ∧ X w args) ∧ sizedMet enc C.prog fn (OpenSpec.ofChange s) apart w args) (s.post enc C.prog fn apart fresh handsOn again) := by
  refine returnsInHanded_of_calls own started noInit witness ?_
  intro w tape i _ hsh _ hok hpre _
  obtain ⟨_, _, _, fn', hfn', _, _, _, _, hval⟩ := hok
  have e : fn' = fn := Option.some.inj (hfn'.symm.trans hfn)
  subst e
  obtain ⟨⟨⟨ds, gs, before, hw, _⟩, hx⟩, _⟩ := hpre
  have hw' := DataW.Whole.of_heap (w' := w.forCall tape i) (by rfl) hw
  refine (contract (w.forCall tape i) w.heap.size i.args ds gs before hval hw' (hX _ _ _ (by rfl) hx) hsh).mono fun e W' ⟨v, he, hp⟩ => ?_
  subst he
  exact ChangeSpec.post_blind hp
theorem law_lifted_laid {C : Checked} {os : Os} (started : os.Started) (own : ownKnob C.prog.godebug = none) {f : Nat} {fn : Func} (noInit : C.prog.inits.idxOf? f = none) (hfn : C.prog.funcs[f]? = some fn)
    {spec : ChangeSpec} (hvars : spec.vars = []) {tb : TypeId} (hres : fn.resultTypes = #[tb]) (htb : C.prog.underlying tb = some .bool)
    (hspec : ∀ (H : Type) (ds : List (DataW H)), ds.length = fn.params.size → (spec.fn H ds).results = [.lit (.bool true)] ∧ (spec.fn H ds).args = ds ∧ (spec.fn H ds).vars = [])
    (hlaid : laidOutB C.prog = true) (hread : (fn.params.toList.all fun t => C.prog.readableRec t && decide (t < C.prog.types.size)) = true)
    {n : Nat} {ks : List (Bool × List Ck)} (hks : argShs C.prog n fn.params.toList = some ks) (hrun : LawRuns C.prog f ks) {laid : List (String × DataW Unit)} (hGM : ∀ W : World, laidMetH C.prog laid W → W.ShapedOpen C.prog → GlobW W)
    (H : Type) (enc : TypeId × Value → H)
    (witness : ∃ (w : World) (tape : Tape) (i : Input), w.os = os ∧ (w.forCall tape i).Shaped C.prog ∧ i.vars = [] ∧ Input.okWide C.prog (w.forCall tape i) .any w.heap.size f i ∧
      ((spec.pre enc C.prog fn [] false (w.forCall tape i).memory i.args ∧ laidMetH C.prog laid (w.forCall tape i).memory) ∧ sizedMet enc C.prog fn (OpenSpec.ofChange spec) false (w.forCall tape i).memory i.args) ∧ Assume.holds {} C.prog (lone (Frame.enter C.prog f i.args .normal) [] (w.forCall tape i))) :
    ReturnsInHanded {} C os f .any (fun w args => (spec.pre enc C.prog fn [] false w args ∧ laidMetH C.prog laid w) ∧ sizedMet enc C.prog fn (OpenSpec.ofChange spec) false w args) (spec.post enc C.prog fn false true false false) := by
  refine handed_shaped (X := fun w _ => laidMetH C.prog laid w) (fun _ _ _ hh h => h.of_heap hh) own started noInit hfn witness ?_
  intro W base args ds gs before hval hW hL hSh
  have hW' := hW
  obtain ⟨p, q, hA, hV, rfl, hfz, hnd⟩ := hW
  rw [hvars] at hV
  obtain ⟨rfl, rfl⟩ := trodVars_none hV
  have hg : GlobW W := hGM W hL hSh
  obtain ⟨as, r1, r2⟩ := args_told hg hks (fun j t v h1 h2 => hval j t v (by simpa using h1) (by simpa using h2)) hA
  have hlen : ∀ {ts : List TypeId} {vs : List Value} {ds : List (DataW H)} {p : List MemPlace}, DataW.TrodAll enc C.prog W 0 (fun _ => true) true ts vs ds p → ds.length = ts.length := by
    intro ts
    induction ts with
    | nil => intro vs ds p h; obtain ⟨rfl, rfl, rfl⟩ := trodAll_nil h; rfl
    | cons t ts ih => intro vs ds p h; obtain ⟨v, vs1, d, ds1, a, b, rfl, rfl, rfl, h1, h2⟩ := trodAll_cons h; simp [ih h2]
  have hds : (ds ++ []).length = fn.params.size := by rw [List.append_nil, hlen hA, Array.length_toList]
  obtain ⟨s1, s2, s3⟩ := hspec H (ds ++ []) hds
  have hlt : ∀ x ∈ p, x.block < W.heap.size := fun x hx => hW'.lt x (by simpa using hx)
  have hcalls := callsIn_wide.1 (hrun W hg args as r2 r1)
  refine hcalls.mono fun e W' ⟨v, he, hv, hq⟩ => ?_
  subst he hv
  refine ⟨_, rfl, _, _, _, [], p, [], hW', ?_, ?_, ?_, hq.below.frame _, fun h => by cases h⟩
  · rw [s1, hres]
    exact trodAll_mk1 (shut_bool htb true)
  · rw [s2, List.append_nil]
    exact trodAll_carry hlaid hq.below hread hA hlt
  · rw [s3, hvars]
    rfl
end Go.Proofs.YtamjnhpkmhbkcaaGreatDoor

/-
  PART: stages of a walk whose ends tell what the function answers, its new rows as they stay; contracts of functions with open loops.
-/
namespace Go.Proofs.YtamjnhpkmhbkcaaGreatDoor
open Go.RowKit

/-- What a function answers from a state: its new rows taken as they stay. -/
def resF (P : Program) (rs : List ResultVar) (s : St) : Option AV := match ressA P rs s with
  | .ret (as, s1) => some (frzD s1.hp 8 (oneA as))
  | _ => none
def lfR (nx0 : Nat) (ds : List (Nat × Bool)) (gb : Bool) (res : St → Option AV) (b : Ex × St) : Lf := match b.1 with
  | .ret => match res b.2 with
    | some a => .out a
    | none => .go .ret none
  | x => .go x (canon nx0 ds gb b.2)
section
variable {P : Program} {B : Start} {c : Code} {s : St} {R : Ex → St → Prop}
theorem wpc_of_lfR {cx : Cx} {n : Nat} (hc : CtrOk cx) (hfit : Fit cx.P) {ds : List (Nat × Bool)} {gb : Bool} {res : St → Option AV} {O : AV → Prop} (hcode : codeOk B.N c = true)
    (h : ((codeE cx (evs cx n) c s).map (lfR B.nx0 ds gb res)).wp (LfQ R O)) (ho : ∀ s a, res s = some a → O a → R .ret s) : WpC cx.P B c s R := by
  refine wpc_post (wpc_ev (R := fun x s => LfQ R O (lfR B.nx0 ds gb res (x, s))) hc hfit hcode (Tree.wp_map h)) fun x s' hq => ?_
  cases x with
  | ret =>
    cases hm : res s' with
    | none => simp only [lfR, hm] at hq; exact hq.elim
    | some a => simp only [lfR, hm] at hq; exact ⟨s', fun _ _ h => h, ho s' a hm hq⟩
  | norm =>
    cases hm : canon B.nx0 ds gb s' with
    | none => simp only [lfR, hm] at hq; exact hq.elim
    | some m => simp only [lfR, hm] at hq; exact ⟨m, canon_ok hm, hq⟩
  | exit id =>
    cases hm : canon B.nx0 ds gb s' with
    | none => simp only [lfR, hm] at hq; exact hq.elim
    | some m => simp only [lfR, hm] at hq; exact ⟨m, canon_ok hm, hq⟩
  | goto l =>
    cases hm : canon B.nx0 ds gb s' with
    | none => simp only [lfR, hm] at hq; exact hq.elim
    | some m => simp only [lfR, hm] at hq; exact ⟨m, canon_ok hm, hq⟩
/-- A stage: some pieces by the evaluator, what is behind them from the short states. -/
theorem wpc_stageR {cx : Cx} {n : Nat} (hc : CtrOk cx) (hfit : Fit cx.P) {l : List Code} {ds : List (Nat × Bool)} {gb : Bool} {res : St → Option AV} {O : AV → Prop} (hl : l ≠ []) (hok : (l.all fun a => codeOk B.N a) = true)
    (h : ((codeE cx (evs cx n) (joins l) s).map (lfR B.nx0 ds gb res)).wp (LfQ (fun x m => match x with | .norm => WpC cx.P B c m R | x => R x m) O)) (ho : ∀ s a, res s = some a → O a → R .ret s) : WpC cx.P B (seqs l c) s R := by
  refine wpc_post (R1 := fun x s' => ∃ m, HoldLe B s' m ∧ R x m) (wpc_evs hc hfit l s hl hok (Tree.wp_imp (fun q hq => ?_) (Tree.wp_map h))) fun x s' h => h
  obtain ⟨x, s'⟩ := q
  cases x with
  | ret =>
    cases hm : res s' with
    | none => simp only [lfR, hm] at hq; exact hq.elim
    | some a => simp only [lfR, hm] at hq; exact ⟨s', fun _ _ h => h, ho s' a hm hq⟩
  | norm =>
    cases hm : canon B.nx0 ds gb s' with
    | none => simp only [lfR, hm] at hq; exact hq.elim
    | some m =>
      simp only [lfR, hm] at hq
      exact wpc_pre (canon_ok hm) (wpc_imp hq fun x s1 h1 => ⟨s1, fun _ _ h => h, h1⟩)
  | exit id =>
    cases hm : canon B.nx0 ds gb s' with
    | none => simp only [lfR, hm] at hq; exact hq.elim
    | some m => simp only [lfR, hm] at hq; exact ⟨m, canon_ok hm, hq⟩
  | goto l =>
    cases hm : canon B.nx0 ds gb s' with
    | none => simp only [lfR, hm] at hq; exact hq.elim
    | some m => simp only [lfR, hm] at hq; exact ⟨m, canon_ok hm, hq⟩
/-- A loop in its block: each round from a short state. -/
theorem wpc_bloop0R {ι : Type} {cx : Cx} {n : Nat} (hc : CtrOk cx) (hfit : Fit cx.P) {body : Code} {id : Nat} (Inv : ι → St) (J : ι → Prop) (m : ι → Nat) (Out : St → Prop) {ds : List (Nat × Bool)} {gb : Bool} {res : St → Option AV} {O : AV → Prop} (hok : codeOk B.N body = true)
    (h : ∀ k, J k → ((codeE cx (evs cx n) body (Inv k)).map (lfR B.nx0 ds gb res)).wp (LfQ (RoundQ Inv J m id k Out) O)) (k : ι) (hk : J k) :
    WpC cx.P B (.block id (.loop body)) (Inv k) fun x s => (x = .norm ∧ ∃ m, HoldLe B s m ∧ Out m) ∨ (x = .ret ∧ ∃ a, res s = some a ∧ O a) := by
  refine wpc_block (R1 := fun x s => (x = .exit id ∧ ∃ m, HoldLe B s m ∧ Out m) ∨ (x = .ret ∧ ∃ a, res s = some a ∧ O a)) (wpc_loop Inv J m _ (fun k hk => ?_) k hk) ?_ ?_
  · refine wpc_imp (wpc_ev (R := fun x s => LfQ (RoundQ Inv J m id k Out) O (lfR B.nx0 ds gb res (x, s))) hc hfit hok (Tree.wp_map (h k hk))) fun x s' hq => ?_
    cases x with
    | ret =>
      cases hm : res s' with
      | none => simp only [lfR, hm] at hq; exact hq.elim
      | some a => simp only [lfR, hm] at hq; exact .inr ⟨by simp, .inr ⟨rfl, a, rfl, hq⟩⟩
    | norm =>
      cases hm : canon B.nx0 ds gb s' with
      | none => simp only [lfR, hm] at hq; exact hq.elim
      | some m' =>
        simp only [lfR, hm] at hq
        obtain ⟨k', rfl, h2, h3⟩ := hq
        exact .inl ⟨rfl, k', h2, h3, canon_ok hm⟩
    | exit id' =>
      cases hm : canon B.nx0 ds gb s' with
      | none => simp only [lfR, hm] at hq; exact hq.elim
      | some m =>
        simp only [lfR, hm] at hq
        obtain ⟨rfl, h2⟩ := hq
        exact .inr ⟨by simp, .inl ⟨rfl, m, canon_ok hm, h2⟩⟩
    | goto l =>
      cases hm : canon B.nx0 ds gb s' with
      | none => simp only [lfR, hm] at hq; exact hq.elim
      | some m => simp only [lfR, hm] at hq; exact hq.elim
  · rintro s1 (⟨_, h2⟩ | ⟨h1, _⟩)
    · exact .inl ⟨rfl, h2⟩
    · cases h1
  · rintro x s1 hx (⟨h1, h2⟩ | ⟨h1, h2⟩)
    · exact absurd h1 hx
    · exact .inr ⟨h1, h2⟩
/-- Ahead of more. -/
theorem wpc_bloopR {ι : Type} {cx : Cx} {n : Nat} (hc : CtrOk cx) (hfit : Fit cx.P) {body : Code} {id : Nat} (Inv : ι → St) (J : ι → Prop) (m : ι → Nat) (Out : St → Prop) {ds : List (Nat × Bool)} {gb : Bool} {res : St → Option AV} {O : AV → Prop} (hok : codeOk B.N body = true)
    (h : ∀ k, J k → ((codeE cx (evs cx n) body (Inv k)).map (lfR B.nx0 ds gb res)).wp (LfQ (RoundQ Inv J m id k Out) O)) (ho : ∀ s a, res s = some a → O a → R .ret s) (k : ι) (hk : J k) (hs : s = Inv k)
    (hout : ∀ s, Out s → WpC cx.P B c s R) : WpC cx.P B (.seq (.block id (.loop body)) c) s R := by
  subst hs
  refine wpc_seq (wpc_bloop0R hc hfit Inv J m Out hok h k hk) ?_ ?_
  · rintro s1 (⟨_, m, h1, h2⟩ | ⟨h1, _⟩)
    · exact wpc_pre h1 (hout m h2)
    · cases h1
  · rintro x s1 hx (⟨h1, _⟩ | ⟨rfl, a, h2, h3⟩)
    · exact absurd h1 hx
    · exact ho s1 a h2 h3
/-- A loop with what it begins with. -/
theorem wpc_iloopR {ι : Type} {cx : Cx} {n : Nat} (hc : CtrOk cx) (hfit : Fit cx.P) {a body : Code} {id : Nat} (Inv : ι → St) (J : ι → Prop) (m : ι → Nat) (Out : St → Prop) {ds : List (Nat × Bool)} {gb : Bool} {res : St → Option AV} {O : AV → Prop} (hok : codeOk B.N body = true)
    (h : ∀ k, J k → ((codeE cx (evs cx n) body (Inv k)).map (lfR B.nx0 ds gb res)).wp (LfQ (RoundQ Inv J m id k Out) O)) (ho : ∀ s a, res s = some a → O a → R .ret s) (hoka : codeOk B.N a = true)
    (hi : ((codeE cx (evs cx n) a s).map (lfR B.nx0 ds gb res)).wp (LfQ (fun x m => x = .norm ∧ ∃ k, m = Inv k ∧ J k) fun _ => False))
    (hout : ∀ s, Out s → WpC cx.P B c s R) : WpC cx.P B (.seq (.seq a (.block id (.loop body))) c) s R := by
  refine wpc_seq (R1 := fun x s => (x = .norm ∧ ∃ m, HoldLe B s m ∧ Out m) ∨ (x = .ret ∧ ∃ a, res s = some a ∧ O a)) (wpc_stageR (l := [a]) hc hfit (res := res) (O := fun _ => False) (by simp) (by simp [hoka]) (Tree.wp_imp (fun q hq => ?_) hi) fun _ _ _ h => h.elim) ?_ ?_
  · cases q with
    | out a => exact hq
    | go x m =>
      cases m with
      | none => exact hq
      | some m =>
        obtain ⟨rfl, k, rfl, hk⟩ := hq
        exact wpc_bloop0R hc hfit Inv J _ Out hok h k hk
  · rintro s1 (⟨_, m, h1, h2⟩ | ⟨h1, _⟩)
    · exact wpc_pre h1 (hout m h2)
    · cases h1
  · rintro x s1 hx (⟨h1, _⟩ | ⟨rfl, a, h2, h3⟩)
    · exact absurd h1 hx
    · exact ho s1 a h2 h3
/-- At a function's end. -/
def Ends (P : Program) (rs : List ResultVar) (O : AV → Prop) (x : Ex) (s : St) : Prop := (x = .ret ∨ x = .norm) ∧ ∃ a, resF P rs s = some a ∧ O a
theorem ends_ret {P : Program} {rs : List ResultVar} {O : AV → Prop} (s : St) (a : AV) (h : resF P rs s = some a) (ho : O a) : Ends P rs O .ret s := ⟨.inl rfl, a, h, ho⟩
theorem resF_wp {P : Program} {rs : List ResultVar} {s : St} {a : AV} {Q : AV → Prop} (h : resF P rs s = some a) (hq : Q a) : (ressA P rs s).wp fun b => Q (frzD b.2.hp 8 (oneA b.1)) := by
  unfold resF at h
  split at h
  · rename_i as s1 hr
    rw [hr]
    cases h
    exact hq
  · cases h
/-- A contract of a function with open loops. -/
theorem frz_of_ends {f : Nat} {fn : Func} {c : Code} (hfit : Fit P) (hfn : P.funcs[f]? = some fn) (hb : fn.body = some c) {args : List AV} (hle : args.length ≤ fn.ntmps) {a : AV} {O : AV → Prop}
    (h : ∀ (E : Env) (w : World) (hd : ∀ x, ¬ E.dom x) (hf : FzOk E w), WpC P (begins fn.ntmps E w hd hf) c (entry args) (Ends P fn.results.toList O))
    (hO : ∀ a', O a' → ∀ E v, Rep E a' v → Rep E a v) : FrzOk P f args a :=
  frz_of_wpc (d := 8) hfit hfn hb hle h fun _ _ ⟨hx, a', h1, h2⟩ => ⟨hx.symm, resF_wp (Q := fun a' => ∀ E v, Rep E a' v → Rep E a v) h1 (hO a' h2)⟩
/-- By evaluation: answers with their new rows as they stay. -/
def Tree.frz (t : Tree (AV × St)) : Tree AV := t.map fun b => frzD b.2.hp 8 b.1
theorem Tree.map_hit {α β : Type} {f : α → β} : ∀ {t : Tree α} {b : β}, (t.map f).hit b → ∃ a, t.hit a ∧ f a = b
  | .ret a, b, h => ⟨a, rfl, h⟩
  | .br _ t e, b, h => by
    rcases h with ⟨h1, h2⟩ | ⟨h1, h2⟩
    · obtain ⟨a, k1, k2⟩ := Tree.map_hit h2; exact ⟨a, .inl ⟨h1, k1⟩, k2⟩
    · obtain ⟨a, k1, k2⟩ := Tree.map_hit h2; exact ⟨a, .inr ⟨h1, k1⟩, k2⟩
  | .side _ t, b, h => by
    obtain ⟨a, k1, k2⟩ := Tree.map_hit (t := t) h.2; exact ⟨a, ⟨h.1, k1⟩, k2⟩
  | .fail, _, h => h.elim
end
theorem frz_ev {cx : Cx} (hc : CtrOk cx) (hfit : Fit cx.P) {n f : Nat} {args : List AV} {t : Tree AV} {a : AV} (h : ((evs cx n).call f args .nil).frz = t) (ha : t.wp fun a' => ∀ E v, Rep E a' v → Rep E a v) : FrzOk cx.P f args a := by
  obtain ⟨a', h1, h2⟩ := Tree.wp_hit ha
  rw [← h] at h1
  obtain ⟨⟨b, s⟩, h3, h4⟩ := Tree.map_hit h1
  subst h4
  exact (frz_of (evs_ok hc hfit n).calls h3 8).imp h2
end Go.Proofs.YtamjnhpkmhbkcaaGreatDoor

/-
  PART: a nil slice in a slot, taken as an owned row of none; states laid short.
-/
namespace Go.Proofs.YtamjnhpkmhbkcaaGreatDoor
open Go.RowKit
/-- A slot that is nil, as an owned row. -/
def St.nilOwn (s : St) (d : Nat) (elem : TypeId) (k : Nat) : St := { s with sl := (d, .own s.nx 0 k false) :: s.sl, hp := (s.nx, some (.arr elem 0 k fun _ => fit k [])) :: s.hp, nx := s.nx + 1 }
theorem hold_nilOwn {B : Start} {s : St} {d : Nat} {elem : TypeId} {k : Nat} (h : look s.sl d = .lit (.slice none 0 0)) : HoldLe B s (s.nilOwn d elem k) := by
  intro act w ⟨E, p, hf, hb, hwf, hd, hnx⟩
  have hx : ¬ E.dom s.nx := fun hx => absurd (hb _ hx) (Nat.lt_irrefl _)
  have hvr : (E.add s.nx 0 0 0 true).vir s.nx = true := by simp [Env.add]
  have hln : (E.add s.nx 0 0 0 true).ln s.nx = 0 := by simp [Env.add]
  have hB : ∀ o, BlkR (E.add s.nx 0 0 0 true) s.nx (.arr elem 0 k fun _ => fit k []) o := fun o => ⟨hln.symm, .inl ⟨hvr, rfl⟩⟩
  have hH : ∀ z, hget (s.nilOwn d elem k).hp z = if s.nx = z then some (.arr elem 0 k fun _ => fit k []) else hget s.hp z := fun z => by
    show hget ((s.nx, _) :: s.hp) z = _
    rw [hget_cons]
  have hl := Env.le_add (E := E) hx 0 0 0 true
  have q := Pst.virt (wr := List.range B.nx0) p.sim hx (hB none) hB hH
  refine ⟨E.add s.nx 0 0 0 true, Pst.trans B.sim (fun _ _ => trivial) p q hnx (Nat.le_succ _), ⟨hf.size, fun e => ?_⟩, fun x hx' => ?_, fun x hn => ?_, hd.env (fun _ _ h => h), Nat.le_succ_of_le hnx⟩
  · show Rep _ (look ((d, _) :: s.sl) e) _
    rw [look_cons]
    by_cases he : d = e
    · rw [if_pos he]
      subst he
      have hv := hf.slot d
      rw [h] at hv
      have key : ∀ z, Rep E (.lit (.slice none 0 0)) z → Rep (E.add s.nx 0 0 0 true) (.own s.nx 0 k false) z := fun z hz => by
        cases hz
        exact .ownNil (.inl rfl) hvr rfl hln.symm
      exact key _ hv
    · rw [if_neg he]; exact (hf.slot e).mono hl
  · rcases hx' with rfl | hx'
    · exact Nat.lt_succ_self _
    · exact Nat.lt_succ_of_lt (hb x hx')
  · rw [hH] at hn
    by_cases he : s.nx = x
    · subst he; exact Nat.lt_succ_self _
    · rw [if_neg he] at hn; exact Nat.lt_succ_of_lt (hwf x hn)
/-- A short state, one of its nil slots an owned row, short again. -/
def St.nilOwn? (nx0 : Nat) (ds : List (Nat × Bool)) (d : Nat) (elem : TypeId) (k : Nat) (s : St) : Option St := match look s.sl d with
  | .lit v => match isNilSl v with
    | true => canon nx0 ds true (s.nilOwn d elem k)
    | false => none
  | _ => none
theorem wpc_nilOwn {P : Program} {B : Start} {c : Code} {s m : St} {R : Ex → St → Prop} {ds : List (Nat × Bool)} {d : Nat} {elem : TypeId} {k : Nat} (h : St.nilOwn? B.nx0 ds d elem k s = some m) (hm : WpC P B c m R) : WpC P B c s R := by
  unfold St.nilOwn? at h
  split at h
  · rename_i v hv
    split at h
    · rename_i hn
      obtain rfl := isNilSl_eq hn
      exact wpc_pre (fun act w hh => canon_ok h act w (hold_nilOwn (elem := elem) (k := k) hv act w hh)) hm
    · cases h
  · cases h

section
variable {P : Program} {B : Start} {c : Code} {s : St} {R : Ex → St → Prop}
/-- What a round does that holds loops of its own. -/
def Round {ι : Type} (B : Start) (res : St → Option AV) (Inv : ι → St) (J : ι → Prop) (m : ι → Nat) (id : Nat) (k : ι) (Out : St → Prop) (O : AV → Prop) (x : Ex) (s : St) : Prop :=
  (x = .norm ∧ ∃ k', J k' ∧ m k' < m k ∧ HoldLe B s (Inv k')) ∨ (x = .exit id ∧ ∃ m, HoldLe B s m ∧ Out m) ∨ (x = .ret ∧ ∃ a, res s = some a ∧ O a)
theorem wpc_oloop0 {ι : Type} {body : Code} {id : Nat} (Inv : ι → St) (J : ι → Prop) (m : ι → Nat) (Out : St → Prop) {res : St → Option AV} {O : AV → Prop}
    (h : ∀ k, J k → WpC P B body (Inv k) (Round B res Inv J m id k Out O)) (k : ι) (hk : J k) : WpC P B (.block id (.loop body)) (Inv k) fun x s => (x = .norm ∧ ∃ m, HoldLe B s m ∧ Out m) ∨ (x = .ret ∧ ∃ a, res s = some a ∧ O a) := by
  refine wpc_block (R1 := fun x s => (x = .exit id ∧ ∃ m, HoldLe B s m ∧ Out m) ∨ (x = .ret ∧ ∃ a, res s = some a ∧ O a)) (wpc_loop Inv J m _ (fun k hk => wpc_imp (h k hk) fun x s' hq => ?_) k hk) ?_ ?_
  · rcases hq with ⟨h1, k', h2, h3, h4⟩ | ⟨h1, h2⟩ | ⟨h1, h2⟩
    · exact .inl ⟨h1, k', h2, h3, h4⟩
    · exact .inr ⟨by rw [h1]; simp, .inl ⟨h1, h2⟩⟩
    · exact .inr ⟨by rw [h1]; simp, .inr ⟨h1, h2⟩⟩
  · rintro s1 (⟨_, h2⟩ | ⟨h1, _⟩)
    · exact .inl ⟨rfl, h2⟩
    · cases h1
  · rintro x s1 hx (⟨h1, h2⟩ | ⟨h1, h2⟩)
    · exact absurd h1 hx
    · exact .inr ⟨h1, h2⟩
/-- Ahead of more. -/
theorem wpc_oloop {ι : Type} {body : Code} {id : Nat} (Inv : ι → St) (J : ι → Prop) (m : ι → Nat) (Out : St → Prop) {res : St → Option AV} {O : AV → Prop}
    (h : ∀ k, J k → WpC P B body (Inv k) (Round B res Inv J m id k Out O)) (ho : ∀ s a, res s = some a → O a → R .ret s) (k : ι) (hk : J k) (hs : s = Inv k) (hout : ∀ s, Out s → WpC P B c s R) : WpC P B (.seq (.block id (.loop body)) c) s R := by
  subst hs
  refine wpc_seq (wpc_oloop0 Inv J m Out h k hk) ?_ ?_
  · rintro s1 (⟨_, m, h1, h2⟩ | ⟨h1, _⟩)
    · exact wpc_pre h1 (hout m h2)
    · cases h1
  · rintro x s1 hx (⟨h1, _⟩ | ⟨rfl, a, h2, h3⟩)
    · exact absurd h1 hx
    · exact ho s1 a h2 h3
/-- A loop with what it begins with, at the end of a block. -/
theorem wpc_nest {ι : Type} {cx : Cx} {n : Nat} (hc : CtrOk cx) (hfit : Fit cx.P) {l : List Code} {id1 id2 : Nat} {ib rest : Code} (Inv : ι → St) (J : ι → Prop) (m : ι → Nat) (Out : St → Prop) {ds : List (Nat × Bool)} {gb : Bool} {res : St → Option AV} {O : AV → Prop} (hl : l ≠ []) (hok : (l.all fun a => codeOk B.N a) = true) (hokb : codeOk B.N ib = true)
    (hi : ((codeE cx (evs cx n) (joins l) s).map (lfR B.nx0 ds gb res)).wp (LfQ (fun x m => x = .norm ∧ ∃ k, m = Inv k ∧ J k) fun _ => False))
    (h : ∀ k, J k → ((codeE cx (evs cx n) ib (Inv k)).map (lfR B.nx0 ds gb res)).wp (LfQ (RoundQ Inv J m id2 k Out) O)) (ho : ∀ s a, res s = some a → O a → R .ret s)
    (hout : ∀ s, Out s → WpC cx.P B rest s R) : WpC cx.P B (.seq (.block id1 (seqs l (.block id2 (.loop ib)))) rest) s R := by
  refine wpc_seq (R1 := fun x s => (x = .norm ∧ ∃ m, HoldLe B s m ∧ Out m) ∨ (x = .ret ∧ ∃ a, res s = some a ∧ O a)) (wpc_block (R1 := fun x s => (x = .norm ∧ ∃ m, HoldLe B s m ∧ Out m) ∨ (x = .ret ∧ ∃ a, res s = some a ∧ O a)) (wpc_stageR hc hfit (res := res) (O := fun _ => False) hl hok (Tree.wp_imp (fun q hq => ?_) hi) fun _ _ _ h => h.elim) ?_ ?_) ?_ ?_
  · cases q with
    | out a => exact hq
    | go x m =>
      cases m with
      | none => exact hq
      | some m =>
        obtain ⟨rfl, k, rfl, hk⟩ := hq
        exact wpc_bloop0R hc hfit Inv J _ Out hokb h k hk
  · rintro s1 (⟨h1, _⟩ | ⟨h1, _⟩) <;> cases h1
  · rintro x s1 _ h1; exact h1
  · rintro s1 (⟨_, m, h1, h2⟩ | ⟨h1, _⟩)
    · exact wpc_pre h1 (hout m h2)
    · cases h1
  · rintro x s1 hx (⟨h1, _⟩ | ⟨rfl, a, h2, h3⟩)
    · exact absurd h1 hx
    · exact ho s1 a h2 h3
/-- The end of a round. -/
theorem wpc_roundEnd {ι : Type} {cx : Cx} {n : Nat} (hc : CtrOk cx) (hfit : Fit cx.P) {ds : List (Nat × Bool)} {gb : Bool} {res : St → Option AV} {O : AV → Prop} {Inv : ι → St} {J : ι → Prop} {m : ι → Nat} {id : Nat} {k : ι} {Out : St → Prop} (hcode : codeOk B.N c = true)
    (h : ((codeE cx (evs cx n) c s).map (lfR B.nx0 ds gb res)).wp (LfQ (RoundQ Inv J m id k Out) O)) : WpC cx.P B c s (Round B res Inv J m id k Out O) := by
  refine wpc_of_lfR hc hfit hcode (Tree.wp_imp (fun q hq => ?_) h) fun s a h1 h2 => .inr (.inr ⟨rfl, a, h1, h2⟩)
  cases q with
  | out a => exact hq
  | go x s' =>
    cases s' with
    | none => exact hq
    | some s' =>
      cases x with
      | norm => obtain ⟨k', rfl, h2, h3⟩ := hq; exact .inl ⟨rfl, k', h2, h3, fun _ _ h => h⟩
      | exit id' => obtain ⟨rfl, h2⟩ := hq; exact .inr (.inl ⟨rfl, s', fun _ _ h => h, h2⟩)
      | ret => exact hq.elim
      | goto l => exact hq.elim
theorem nilOwn_le {ds : List (Nat × Bool)} {d : Nat} {elem : TypeId} {k : Nat} {m : St} (h : St.nilOwn? B.nx0 ds d elem k s = some m) : HoldLe B s m := by
  unfold St.nilOwn? at h
  split at h
  · rename_i v hv
    split at h
    · rename_i hn
      obtain rfl := isNilSl_eq hn
      exact fun act w hh => canon_ok h act w (hold_nilOwn (elem := elem) (k := k) hv act w hh)
    · cases h
  · cases h
/-- A loop with what it begins with; its rounds by the rules. -/
theorem wpc_ioloop {ι : Type} {cx : Cx} {n : Nat} (hc : CtrOk cx) (hfit : Fit cx.P) {a body : Code} {id : Nat} (Inv : ι → St) (J : ι → Prop) (m : ι → Nat) (Out : St → Prop) {ds : List (Nat × Bool)} {gb : Bool} {res : St → Option AV} {O : AV → Prop} (hoka : codeOk B.N a = true)
    (hi : ((codeE cx (evs cx n) a s).map (lfR B.nx0 ds gb res)).wp (LfQ (fun x m => x = .norm ∧ ∃ k, HoldLe B m (Inv k) ∧ J k) fun _ => False))
    (h : ∀ k, J k → WpC cx.P B body (Inv k) (Round B res Inv J m id k Out O)) (ho : ∀ s a, res s = some a → O a → R .ret s)
    (hout : ∀ s, Out s → WpC cx.P B c s R) : WpC cx.P B (.seq (.seq a (.block id (.loop body))) c) s R := by
  refine wpc_seq (R1 := fun x s => (x = .norm ∧ ∃ m, HoldLe B s m ∧ Out m) ∨ (x = .ret ∧ ∃ a, res s = some a ∧ O a)) (wpc_stageR (l := [a]) hc hfit (res := res) (O := fun _ => False) (by simp) (by simp [hoka]) (Tree.wp_imp (fun q hq => ?_) hi) fun _ _ _ h => h.elim) ?_ ?_
  · cases q with
    | out a => exact hq
    | go x m =>
      cases m with
      | none => exact hq
      | some m =>
        obtain ⟨rfl, k, hm, hk⟩ := hq
        exact wpc_pre hm (wpc_oloop0 Inv J _ Out h k hk)
  · rintro s1 (⟨_, m, h1, h2⟩ | ⟨h1, _⟩)
    · exact wpc_pre h1 (hout m h2)
    · cases h1
  · rintro x s1 hx (⟨h1, _⟩ | ⟨rfl, a, h2, h3⟩)
    · exact absurd h1 hx
    · exact ho s1 a h2 h3
/-- What a round does, by the evaluator: its states may be weakened. -/
def RoundH {ι : Type} (B : Start) (Inv : ι → St) (J : ι → Prop) (m : ι → Nat) (id : Nat) (k : ι) (Out : St → Prop) (x : Ex) (s : St) : Prop := match x with
  | .norm => ∃ k', HoldLe B s (Inv k') ∧ J k' ∧ m k' < m k
  | .exit id' => id' = id ∧ ∃ m, HoldLe B s m ∧ Out m
  | .ret => False
  | .goto _ => False
theorem wpc_endH {ι : Type} {cx : Cx} {n : Nat} (hc : CtrOk cx) (hfit : Fit cx.P) {ds : List (Nat × Bool)} {gb : Bool} {res : St → Option AV} {O : AV → Prop} {Inv : ι → St} {J : ι → Prop} {m : ι → Nat} {id : Nat} {k : ι} {Out : St → Prop} (hcode : codeOk B.N c = true)
    (h : ((codeE cx (evs cx n) c s).map (lfR B.nx0 ds gb res)).wp (LfQ (RoundH B Inv J m id k Out) O)) : WpC cx.P B c s (Round B res Inv J m id k Out O) := by
  refine wpc_of_lfR hc hfit hcode (Tree.wp_imp (fun q hq => ?_) h) fun s a h1 h2 => .inr (.inr ⟨rfl, a, h1, h2⟩)
  cases q with
  | out a => exact hq
  | go x s' =>
    cases s' with
    | none => exact hq
    | some s' =>
      cases x with
      | norm => obtain ⟨k', h1, h2, h3⟩ := hq; exact .inl ⟨rfl, k', h2, h3, h1⟩
      | exit id' => obtain ⟨rfl, h2⟩ := hq; exact .inr (.inl ⟨rfl, h2⟩)
      | ret => exact hq.elim
      | goto l => exact hq.elim
/-- A loop with what it begins with, at the end of a block; its rounds by the rules. -/
theorem wpc_nestH {ι : Type} {cx : Cx} {n : Nat} (hc : CtrOk cx) (hfit : Fit cx.P) {l : List Code} {id1 id2 : Nat} {ib rest : Code} (Inv : ι → St) (J : ι → Prop) (m : ι → Nat) (Out : St → Prop) {ds : List (Nat × Bool)} {gb : Bool} {res : St → Option AV} {O : AV → Prop} (hl : l ≠ []) (hok : (l.all fun a => codeOk B.N a) = true)
    (hi : ((codeE cx (evs cx n) (joins l) s).map (lfR B.nx0 ds gb res)).wp (LfQ (fun x m => x = .norm ∧ ∃ k, HoldLe B m (Inv k) ∧ J k) fun _ => False))
    (h : ∀ k, J k → WpC cx.P B ib (Inv k) (Round B res Inv J m id2 k Out O)) (ho : ∀ s a, res s = some a → O a → R .ret s)
    (hout : ∀ s, Out s → WpC cx.P B rest s R) : WpC cx.P B (.seq (.block id1 (seqs l (.block id2 (.loop ib)))) rest) s R := by
  refine wpc_seq (R1 := fun x s => (x = .norm ∧ ∃ m, HoldLe B s m ∧ Out m) ∨ (x = .ret ∧ ∃ a, res s = some a ∧ O a)) (wpc_block (R1 := fun x s => (x = .norm ∧ ∃ m, HoldLe B s m ∧ Out m) ∨ (x = .ret ∧ ∃ a, res s = some a ∧ O a)) (wpc_stageR hc hfit (res := res) (O := fun _ => False) hl hok (Tree.wp_imp (fun q hq => ?_) hi) fun _ _ _ h => h.elim) ?_ ?_) ?_ ?_
  · cases q with
    | out a => exact hq
    | go x m =>
      cases m with
      | none => exact hq
      | some m =>
        obtain ⟨rfl, k, hm, hk⟩ := hq
        exact wpc_pre hm (wpc_oloop0 Inv J _ Out h k hk)
  · rintro s1 (⟨h1, _⟩ | ⟨h1, _⟩) <;> cases h1
  · rintro x s1 _ h1; exact h1
  · rintro s1 (⟨_, m, h1, h2⟩ | ⟨h1, _⟩)
    · exact wpc_pre h1 (hout m h2)
    · cases h1
  · rintro x s1 hx (⟨h1, _⟩ | ⟨rfl, a, h2, h3⟩)
    · exact absurd h1 hx
    · exact ho s1 a h2 h3
theorem HoldLe.refl (s : St) : HoldLe B s s := fun _ _ h => h
theorem HoldLe.trans {s1 s2 s3 : St} (h : HoldLe B s1 s2) (k : HoldLe B s2 s3) : HoldLe B s1 s3 := fun act w hh => k act w (h act w hh)
/-- Blocks whose rows have the same cells as far as they go. -/
inductive HpLe : List (Nat × Option Blk) → List (Nat × Option Blk) → Prop
  | nil : HpLe [] []
  | same {p : Nat × Option Blk} {l l' : List (Nat × Option Blk)} (t : HpLe l l') : HpLe (p :: l) (p :: l')
  | row {x : Nat} {ty : TypeId} {n k : Nat} {get get' : Nat → List AV} {l l' : List (Nat × Option Blk)} (h : ∀ i, i < n → get i = get' i) (t : HpLe l l') : HpLe ((x, some (.arr ty n k get)) :: l) ((x, some (.arr ty n k get')) :: l')
theorem HpLe.get {l l' : List (Nat × Option Blk)} (h : HpLe l l') (x : Nat) : hget l x = hget l' x ∨ ∃ ty n k get get', hget l x = some (.arr ty n k get) ∧ hget l' x = some (.arr ty n k get') ∧ ∀ i, i < n → get i = get' i := by
  induction h with
  | nil => exact .inl rfl
  | @same p l l' t ih =>
    obtain ⟨k, a⟩ := p
    simp only [hget_cons]
    split
    · exact .inl rfl
    · exact ih
  | row h t ih =>
    simp only [hget_cons]
    split
    · exact .inr ⟨_, _, _, _, _, rfl, rfl, h⟩
    · exact ih
theorem hold_rows {s m : St} (hsl : m.sl = s.sl) (hnx : m.nx = s.nx) (hhp : HpLe s.hp m.hp) : HoldLe B s m := by
  intro act w ⟨E, p, hf, hb, hwf, hd, hn⟩
  have al : ∀ x, hget m.hp x ≠ none → hget s.hp x ≠ none := fun x hx => by
    rcases hhp.get x with h | ⟨_, _, _, _, _, h1, h2, _⟩
    · rw [h]; exact hx
    · rw [h1]; simp
  refine ⟨E, ⟨⟨p.le, by rw [hnx]; exact p.dom, ⟨p.sim.fz, fun x hF h => p.sim.dom x hF (al x h), fun x hF h => p.sim.low x hF (al x h), fun x B' hF hB => ?_, fun x y hx hy h1 h2 => p.sim.inj x y hx hy (al x h1) (al y h2)⟩, p.frame, by rw [hnx]; exact fun x h1 h2 hF h => p.news x h1 h2 hF (al x h), p.size, p.os, p.tape, p.output⟩, fun x h1 hF h => p.old x h1 hF (al x h)⟩, ⟨hf.size, by rw [hsl]; exact hf.slot⟩, by rw [hnx]; exact hb, fun x h => by rw [hnx]; exact hwf x (al x h), hd, by rw [hnx]; exact hn⟩
  rcases hhp.get x with h | ⟨ty, n, k, get, get', h1, h2, h3⟩
  · exact p.sim.blk x B' hF (by rw [h]; exact hB)
  · rw [h2] at hB
    cases hB
    obtain ⟨q1, q2⟩ := p.sim.blk x _ hF h1
    refine ⟨q1, ?_⟩
    rcases q2 with q2 | ⟨q2, c, fr, q3, qu, q4, q5, q6, q7⟩
    · exact .inl q2
    · exact .inr ⟨q2, c, fr, q3, qu, q4, q5, q6, fun i hi => by rw [← h3 i hi]; exact q7 i hi⟩
end
theorem Tree.wp_eq {α : Type} {Q : α → Prop} {t t' : Tree α} (h : t = t') (hw : t'.wp Q) : t.wp Q := by rw [h]; exact hw
/-- A function with one open loop: what is ahead of it, its rounds, what is behind it. -/
theorem frz_loop {P : Program} (hfit : Fit P) {f : Nat} {fn : Func} {c : Code} (hfn : P.funcs[f]? = some fn) (hb : fn.body = some c) {args : List AV} (hle : Nat.ble args.length fn.ntmps = true) {a : AV} {O : AV → Prop} {ι : Type} {cx : Cx} (hc : CtrOk cx) (hP : cx.P = P) {n : Nat}
    {l : List Code} {a0 body tail : Code} {id : Nat} (hcode : c = seqs l (.seq (.seq a0 (.block id (.loop body))) tail)) (hl : l.isEmpty = false) (hok : ((l.all fun a => codeOk fn.ntmps a) && codeOk fn.ntmps a0 && codeOk fn.ntmps body && codeOk fn.ntmps tail) = true)
    {s1 : St} {ds0 ds : List (Nat × Bool)} {gb0 gb : Bool} (Inv : ι → St) (J : ι → Prop) (m : ι → Nat) (Out : St → Prop)
    (h0 : ((codeE cx (evs cx n) (joins l) (entry args)).map (lfR 0 ds0 gb0 (resF P fn.results.toList))).wp (LfQ (fun x s => x = .norm ∧ s = s1) O))
    (h1 : ((codeE cx (evs cx n) a0 s1).map (lfR 0 ds gb (resF P fn.results.toList))).wp (LfQ (fun x s => x = .norm ∧ ∃ k, (∀ B : Start, B.nx0 = 0 → HoldLe B s (Inv k)) ∧ J k) fun _ => False))
    (h2 : ∀ (B : Start), B.nx0 = 0 → ∀ k, J k → ((codeE cx (evs cx n) body (Inv k)).map (lfR 0 ds gb (resF P fn.results.toList))).wp (LfQ (RoundH B Inv J m id k Out) O))
    (h3 : ∀ s, Out s → ((codeE cx (evs cx n) tail s).map (lfR 0 [] false (resF P fn.results.toList))).wp (LfQ (fun _ _ => False) O))
    (hO : ∀ a', O a' → ∀ E v, Rep E a' v → Rep E a v) : FrzOk P f args a := by
  subst hP
  simp only [Bool.and_eq_true] at hok
  obtain ⟨⟨⟨k1, k2⟩, k3⟩, k4⟩ := hok
  refine frz_of_ends hfit hfn hb (Nat.le_of_ble_eq_true hle) (O := O) (fun E w hd hf => ?_) hO
  rw [hcode]
  refine wpc_stageR (n := n) (ds := ds0) (gb := gb0) (res := resF cx.P fn.results.toList) (O := O) hc hfit (fun e => by rw [e] at hl; cases hl) k1 (Tree.wp_imp (fun q hq => ?_) h0) ends_ret
  cases q with
  | out a => exact hq
  | go x m0 =>
    cases m0 with
    | none => exact hq
    | some m0 =>
      obtain ⟨rfl, rfl⟩ := hq
      show WpC _ _ _ _ _
      refine wpc_ioloop (n := n) (ds := ds) (gb := gb) (res := resF cx.P fn.results.toList) (O := O) hc hfit Inv J m Out k2 (Tree.wp_imp (fun q hq => ?_) h1) (fun k hk => wpc_endH (n := n) (ds := ds) (gb := gb) hc hfit k3 (h2 _ rfl k hk)) ends_ret fun s hs => wpc_of_lfR (n := n) (ds := []) (gb := false) (res := resF cx.P fn.results.toList) (O := O) hc hfit k4 (Tree.wp_imp (fun q hq => ?_) (h3 s hs)) ends_ret
      · cases q with
        | out a => exact hq
        | go x m1 =>
          cases m1 with
          | none => exact hq
          | some m1 =>
            obtain ⟨h4, k, h5, h6⟩ := hq
            exact ⟨h4, k, h5 _ rfl, h6⟩
      · cases q with
        | out a => exact hq
        | go x m1 =>
          cases m1 with
          | none => exact hq
          | some m1 => exact hq.elim
section
end
end Go.Proofs.YtamjnhpkmhbkcaaGreatDoor

/-
  PART: an owned row taken as it stays from then on; blocks that a round leaves.
-/
namespace Go.Proofs.YtamjnhpkmhbkcaaGreatDoor
open Go.RowKit
def frzSlot (x k : Nat) (get : Nat → List AV) (a : AV) : AV := match a with
  | .own y n k' nl => match Nat.beq y x && Nat.beq k' k with
    | true => .sl n k get nl false
    | false => a
  | a => a
def St.freeze (s : St) (x k : Nat) (get : Nat → List AV) : St := { s with sl := s.sl.map fun p => (p.1, frzSlot x k get p.2), hp := (x, none) :: s.hp }
theorem look_mapF (x k : Nat) (get : Nat → List AV) : ∀ (l : List (Nat × AV)) (d : Nat), look (l.map fun p => (p.1, frzSlot x k get p.2)) d = frzSlot x k get (look l d)
  | [], d => rfl
  | (e, a) :: l, d => by
    simp only [List.map_cons, look_cons, look_mapF x k get l d]
    split <;> rfl
theorem hold_freeze {B : Start} (h0 : B.nx0 = 0) {s : St} {x k n : Nat} {ty : TypeId} {get : Nat → List AV} (h : hget s.hp x = some (.arr ty n k get)) : HoldLe B s (s.freeze x k get) := by
  intro act w ⟨E, p, hf, hb, hwf, hd, hnx⟩
  have hBx := p.sim.blk x _ trivial h
  obtain ⟨hln, hBx⟩ := hBx
  have hxn : hget s.hp x ≠ none := by rw [h]; simp
  have al : ∀ z, hget (s.freeze x k get).hp z ≠ none → z ≠ x ∧ hget (s.freeze x k get).hp z = hget s.hp z := fun z hz => by
    have e : hget (s.freeze x k get).hp z = if x = z then none else hget s.hp z := by
      show hget ((x, none) :: s.hp) z = _
      rw [hget_cons]
    rw [e] at hz
    by_cases hxz : x = z
    · rw [if_pos hxz] at hz; exact absurd rfl hz
    · rw [e, if_neg hxz]; exact ⟨fun e => hxz e.symm, rfl⟩
  by_cases hv : E.vir x = true
  · -- a row that is nil
    have hn0 : n = 0 := by
      rcases hBx with ⟨_, h⟩ | ⟨h, _⟩
      · exact h
      · rw [hv] at h; cases h
    refine ⟨E, ⟨⟨p.le, p.dom, ⟨p.sim.fz, fun z hF hz => p.sim.dom z hF (by rw [← (al z hz).2]; exact hz), fun z hF hz => p.sim.low z hF (by rw [← (al z hz).2]; exact hz), fun z B' hF hB => p.sim.blk z B' hF (by rw [← (al z (by rw [hB]; simp)).2]; exact hB), fun a b ha hb' h1 h2 => p.sim.inj a b ha hb' (by rw [← (al a h1).2]; exact h1) (by rw [← (al b h2).2]; exact h2)⟩, p.frame, fun z h1 h2 hF hz => p.news z h1 h2 hF (by rw [← (al z hz).2]; exact hz), p.size, p.os, p.tape, p.output⟩, fun z h1 hF hz => p.old z h1 hF (by rw [← (al z hz).2]; exact hz)⟩, ⟨hf.size, fun d => ?_⟩, hb, fun z hz => hwf z (by rw [← (al z hz).2]; exact hz), hd, hnx⟩
    have hs := hf.slot d
    show Rep E (look (s.sl.map fun p => (p.1, frzSlot x k get p.2)) d) _
    rw [look_mapF]
    generalize look s.sl d = a at hs
    unfold frzSlot
    split
    · split
      · rename_i hq
        simp only [Bool.and_eq_true] at hq
        have hq1 := Nat.eq_of_beq_eq_true hq.1
        subst hq1
        generalize act.tmps.getD d undef = u at hs ⊢
        cases hs with
        | own _ hv' _ => rw [hv] at hv'; cases hv'
        | ownNil _ _ h0 _ => exact .slNil h0
      · exact hs
    · exact hs
  · have hv : E.vir x = false := by simpa using hv
    obtain ⟨c, fr, hc1, _, hc2, hc3, hc4, hc5⟩ : ∃ (c : Array Value) (fr : Nat × Nat), blkW w (E.ρ x) = some (.cells c ty fr) ∧ Unm fr c.size ∧ c.size = E.cp x * k ∧ n ≤ E.cp x ∧ One c.toList ∧ ∀ i, i < n → Reps E (get i) ((c.toList.drop (i * k)).take k) := by
      rcases hBx with ⟨h, _⟩ | ⟨_, c, fr, h⟩
      · rw [hv] at h; cases h
      · exact ⟨c, fr, h⟩
    have hlow := p.sim.low x trivial hxn hv
    have hgok : ∀ g, GOk g (if g = E.ρ x then some c else E.fz g) := fun g => (E.gok g).mono fun cc this => by
      by_cases e : g = E.ρ x
      · rw [e, hlow.2] at this; cases this
      · rw [if_neg e]; exact this
    let E' : Env := { E with fz := fun b => if b = E.ρ x then some c else E.fz b, gok := hgok }
    have hfz : ∀ b cc, E.fz b = some cc → E'.fz b = some cc := fun b cc hbc => by
      show (if b = E.ρ x then some c else E.fz b) = some cc
      by_cases e : b = E.ρ x
      · rw [e, hlow.2] at hbc; cases hbc
      · rw [if_neg e]; exact hbc
    have hfx : E'.fz (E.ρ x) = some c := by
      show (if E.ρ x = E.ρ x then some c else E.fz (E.ρ x)) = some c
      rw [if_pos rfl]
    have hle : E.le E' := ⟨fun _ h => h, fun _ _ => rfl, fun _ _ => rfl, fun _ _ => rfl, fun _ _ => rfl, hfz⟩
    have hnew : B.w0.heap.size ≤ E.ρ x := by
      have hdom := p.sim.dom x trivial hxn
      rcases p.news x (by omega) (hb x hdom) trivial hxn hv with h | ⟨y, hy, hlt, _⟩
      · exact h
      · rw [h0] at hlt; exact absurd hlt (Nat.not_lt_zero y)
    refine ⟨E', ⟨⟨p.le.trans hle, p.dom, ⟨fun b cc hbc => ?_, fun z hF hz => p.sim.dom z hF (by rw [← (al z hz).2]; exact hz), fun z hF hz hvz => ?_, fun z B' hF hB => ?_, fun a b ha hb' h1 h2 => p.sim.inj a b ha hb' (by rw [← (al a h1).2]; exact h1) (by rw [← (al b h2).2]; exact h2)⟩, fun b hb' hx' => ?_, fun z h1 h2 hF hz => p.news z h1 h2 hF (by rw [← (al z hz).2]; exact hz), p.size, p.os, p.tape, p.output⟩, fun z h1 hF hz => p.old z h1 hF (by rw [← (al z hz).2]; exact hz)⟩, ⟨hf.size, fun d => ?_⟩, hb, fun z hz => hwf z (by rw [← (al z hz).2]; exact hz), hd.env hfz, hnx⟩
    · have hbc' : (if b = E.ρ x then some c else E.fz b) = some cc := hbc
      by_cases e : b = E.ρ x
      · rw [if_pos e] at hbc'
        cases hbc'
        rw [e]; exact ⟨_, _, hc1⟩
      · rw [if_neg e] at hbc'; exact p.sim.fz b cc hbc'
    · have hzn := al z hz
      have hz' : hget s.hp z ≠ none := by rw [← hzn.2]; exact hz
      have := p.sim.low z hF hz' hvz
      refine ⟨this.1, ?_⟩
      show (if E.ρ z = E.ρ x then some c else E.fz (E.ρ z)) = none
      rw [if_neg fun e => hzn.1 (p.sim.inj z x hF trivial hz' hxn hvz hv e)]
      exact this.2
    · have hzn := al z (by rw [hB]; simp)
      have hz' : hget s.hp z = some B' := by rw [← hzn.2]; exact hB
      exact (p.sim.blk z B' hF hz').mono hle (p.sim.dom z hF (by rw [hz']; simp))
    · have := p.frame b hb' hx'
      refine ⟨this.1, ?_⟩
      show (if b = E.ρ x then some c else E.fz b) = _
      rw [if_neg (by omega)]; exact this.2
    · have hs := hf.slot d
      show Rep E' (look (s.sl.map fun p => (p.1, frzSlot x k get p.2)) d) _
      rw [look_mapF]
      generalize look s.sl d = a at hs
      unfold frzSlot
      split
      · split
        · rename_i hq
          simp only [Bool.and_eq_true] at hq
          have hq1 := Nat.eq_of_beq_eq_true hq.1
          have hq2 := Nat.eq_of_beq_eq_true hq.2
          subst hq1 hq2
          generalize act.tmps.getD d undef = u at hs ⊢
          cases hs with
          | own hdm hvm hnm =>
            have e : n = _ := hln.trans hnm.symm
            subst e
            exact .sl (E := E') (off := 0) hfx (by rw [Nat.zero_add, hc2]; exact Nat.mul_le_mul_right _ hc3) (fun h => by cases h) hc3 (fun i hi => by rw [Nat.zero_add]; exact (hc5 i hi).mono hle) ((hc4.drop _).take _)
          | ownNil _ hvm _ _ => rw [hv] at hvm; cases hvm
        · exact hs.mono hle
      · exact hs.mono hle
/-- The same, the state short again. -/
def St.freeze? (nx0 : Nat) (ds : List (Nat × Bool)) (gb : Bool) (x : Nat) (s : St) : Option St := match hget s.hp x with
  | some (.arr _ _ k get) => canon nx0 ds gb (s.freeze x k get)
  | _ => none
theorem freeze_le {B : Start} (h0 : B.nx0 = 0) {ds : List (Nat × Bool)} {gb : Bool} {x : Nat} {s m : St} (h : St.freeze? 0 ds gb x s = some m) : HoldLe B s m := by
  unfold St.freeze? at h
  split at h
  · rename_i ty n k get hg
    rw [← h0] at h
    exact (hold_freeze h0 hg).trans fun act w hh => canon_ok h act w hh
  · cases h
/-- A block that a round may leave early, ahead of more. -/
theorem wpc_blk {P : Program} {B : Start} {c X : Code} {s : St} {R : Ex → St → Prop} {id : Nat} {res : St → Option AV} {O : AV → Prop} {Mid : St → Prop}
    (hX : WpC P B X s fun x s => ((x = .norm ∨ x = .exit id) ∧ ∃ m, HoldLe B s m ∧ Mid m) ∨ (x = .ret ∧ ∃ a, res s = some a ∧ O a)) (ho : ∀ s a, res s = some a → O a → R .ret s) (hm : ∀ m, Mid m → WpC P B c m R) : WpC P B (.seq (.block id X) c) s R := by
  refine wpc_seq (R1 := fun x s => (x = .norm ∧ ∃ m, HoldLe B s m ∧ Mid m) ∨ (x = .ret ∧ ∃ a, res s = some a ∧ O a)) (wpc_block hX ?_ ?_) ?_ ?_
  · rintro s1 (⟨_, h⟩ | ⟨h, _⟩)
    · exact .inl ⟨rfl, h⟩
    · cases h
  · rintro x s1 hx (⟨h | h, h2⟩ | h)
    · exact .inl ⟨h, h2⟩
    · exact absurd h hx
    · exact .inr h
  · rintro s1 (⟨_, m, h1, h2⟩ | ⟨h1, _⟩)
    · exact wpc_pre h1 (hm m h2)
    · cases h1
  · rintro x s1 hx (⟨h1, _⟩ | ⟨rfl, a, h2, h3⟩)
    · exact absurd h1 hx
    · exact ho s1 a h2 h3
end Go.Proofs.YtamjnhpkmhbkcaaGreatDoor

/-
  PART: an owned row taken as it stays from then on, also in what blocks hold.
-/
namespace Go.Proofs.YtamjnhpkmhbkcaaGreatDoor
open Go.RowKit
/-- An abstract value, a row in it frozen. -/
def frzA (x k : Nat) (get : Nat → List AV) : Nat → AV → AV
  | 0, a => a
  | d + 1, a => match a with
    | .agg l => .agg (l.map (frzA x k get d))
    | .tup l => .tup (l.map (frzA x k get d))
    | a => frzSlot x k get a
def frzB (x k : Nat) (get : Nat → List AV) : Option Blk → Option Blk
  | some (.fix ty cs) => some (.fix ty (cs.map (frzA x k get 6)))
  | b => b
def St.freezeB (s : St) (x k : Nat) (get : Nat → List AV) : St := { s with sl := s.sl.map fun p => (p.1, frzA x k get 6 p.2), hp := (x, none) :: s.hp.map fun p => (p.1, frzB x k get p.2) }
theorem look_mapA (g : AV → AV) (hg : g .unk = .unk) : ∀ (l : List (Nat × AV)) (d : Nat), look (l.map fun p => (p.1, g p.2)) d = g (look l d)
  | [], d => hg.symm
  | (e, a) :: l, d => by
    simp only [List.map_cons, look_cons, look_mapA g hg l d]
    split <;> rfl
theorem hget_mapB (g : Option Blk → Option Blk) (hg : g none = none) : ∀ (l : List (Nat × Option Blk)) (d : Nat), hget (l.map fun p => (p.1, g p.2)) d = g (hget l d)
  | [], d => hg.symm
  | (e, a) :: l, d => by
    simp only [List.map_cons, hget_cons, hget_mapB g hg l d]
    split <;> rfl
theorem frzA_ok {E E' : Env} {x k : Nat} {get : Nat → List AV} (h : ∀ a v, Rep E a v → Rep E' (frzSlot x k get a) v) : ∀ (d : Nat) (a : AV) (v : Value), Rep E a v → E.le E' → Rep E' (frzA x k get d a) v
  | 0, a, v, hv, hle => hv.mono hle
  | d + 1, a, v, hv, hle => by
    have ihs : ∀ {l : List AV} {vs : List Value}, Reps E l vs → Reps E' (l.map (frzA x k get d)) vs := fun hl => hl.mapR fun a _ v hv => frzA_ok h d a v hv hle
    unfold frzA
    split
    · cases hv with | agg hr ho => exact .agg (ihs hr) ho
    · cases hv with | tup hr => exact .tup (ihs hr)
    · exact h a v hv
theorem frzB_none {x k : Nat} {get : Nat → List AV} {b : Option Blk} : frzB x k get b = none ↔ b = none := by
  cases b with
  | none => exact Iff.rfl
  | some b => cases b <;> exact ⟨fun h => by simp [frzB] at h, fun h => by cases h⟩
theorem hold_freezeB {B : Start} (h0 : B.nx0 = 0) {s : St} {x k n : Nat} {ty : TypeId} {get : Nat → List AV} (h : hget s.hp x = some (.arr ty n k get)) (hn : 0 < n) : HoldLe B s (s.freezeB x k get) := by
  intro act w ⟨E, p, hf, hb, hwf, hd, hnx⟩
  have hBx := p.sim.blk x _ trivial h
  obtain ⟨hln, hBx⟩ := hBx
  have hxn : hget s.hp x ≠ none := by rw [h]; simp
  have al : ∀ z, hget (s.freezeB x k get).hp z ≠ none → z ≠ x ∧ hget (s.freezeB x k get).hp z = frzB x k get (hget s.hp z) := fun z hz => by
    have e : hget (s.freezeB x k get).hp z = if x = z then none else frzB x k get (hget s.hp z) := by
      show hget ((x, none) :: s.hp.map fun p => (p.1, frzB x k get p.2)) z = _
      rw [hget_cons, hget_mapB _ rfl]
    rw [e] at hz
    by_cases hxz : x = z
    · rw [if_pos hxz] at hz; exact absurd rfl hz
    · rw [e, if_neg hxz]; exact ⟨fun e => hxz e.symm, rfl⟩
  have al' : ∀ z, hget (s.freezeB x k get).hp z ≠ none → hget s.hp z ≠ none := fun z hz h => hz (by rw [(al z hz).2, h]; rfl)
  by_cases hv : E.vir x = true
  · rcases hBx with ⟨_, h⟩ | ⟨h, _⟩
    · omega
    · rw [hv] at h; cases h
  · have hv : E.vir x = false := by simpa using hv
    obtain ⟨c, fr, hc1, _, hc2, hc3, hc4, hc5⟩ : ∃ (c : Array Value) (fr : Nat × Nat), blkW w (E.ρ x) = some (.cells c ty fr) ∧ Unm fr c.size ∧ c.size = E.cp x * k ∧ n ≤ E.cp x ∧ One c.toList ∧ ∀ i, i < n → Reps E (get i) ((c.toList.drop (i * k)).take k) := by
      rcases hBx with ⟨h, _⟩ | ⟨_, c, fr, h⟩
      · rw [hv] at h; cases h
      · exact ⟨c, fr, h⟩
    have hlow := p.sim.low x trivial hxn hv
    have hgok : ∀ g, GOk g (if g = E.ρ x then some c else E.fz g) := fun g => (E.gok g).mono fun cc this => by
      by_cases e : g = E.ρ x
      · rw [e, hlow.2] at this; cases this
      · rw [if_neg e]; exact this
    let E' : Env := { E with fz := fun b => if b = E.ρ x then some c else E.fz b, gok := hgok }
    have hfz : ∀ b cc, E.fz b = some cc → E'.fz b = some cc := fun b cc hbc => by
      show (if b = E.ρ x then some c else E.fz b) = some cc
      by_cases e : b = E.ρ x
      · rw [e, hlow.2] at hbc; cases hbc
      · rw [if_neg e]; exact hbc
    have hfx : E'.fz (E.ρ x) = some c := by
      show (if E.ρ x = E.ρ x then some c else E.fz (E.ρ x)) = some c
      rw [if_pos rfl]
    have hle : E.le E' := ⟨fun _ h => h, fun _ _ => rfl, fun _ _ => rfl, fun _ _ => rfl, fun _ _ => rfl, hfz⟩
    have hslot : ∀ a v, Rep E a v → Rep E' (frzSlot x k get a) v := fun a v hs => by
      unfold frzSlot
      split
      · split
        · rename_i hq
          simp only [Bool.and_eq_true] at hq
          have hq1 := Nat.eq_of_beq_eq_true hq.1
          have hq2 := Nat.eq_of_beq_eq_true hq.2
          subst hq1 hq2
          cases hs with
          | own hdm hvm hnm =>
            have e : n = _ := hln.trans hnm.symm
            subst e
            exact .sl (E := E') (off := 0) hfx (by rw [Nat.zero_add, hc2]; exact Nat.mul_le_mul_right _ hc3) (fun h => by cases h) hc3 (fun i hi => by rw [Nat.zero_add]; exact (hc5 i hi).mono hle) ((hc4.drop _).take _)
          | ownNil _ hvm _ _ => rw [hv] at hvm; cases hvm
        · exact hs.mono hle
      · exact hs.mono hle
    have hnew : B.w0.heap.size ≤ E.ρ x := by
      have hdom := p.sim.dom x trivial hxn
      rcases p.news x (by omega) (hb x hdom) trivial hxn hv with h | ⟨y, hy, hlt, _⟩
      · exact h
      · rw [h0] at hlt; exact absurd hlt (Nat.not_lt_zero y)
    refine ⟨E', ⟨⟨p.le.trans hle, p.dom, ⟨fun b cc hbc => ?_, fun z hF hz => p.sim.dom z hF (al' z hz), fun z hF hz hvz => ?_, fun z B' hF hB => ?_, fun a b ha hb' h1 h2 => p.sim.inj a b ha hb' (al' a h1) (al' b h2)⟩, fun b hb' hx' => ?_, fun z h1 h2 hF hz => p.news z h1 h2 hF (al' z hz), p.size, p.os, p.tape, p.output⟩, fun z h1 hF hz => p.old z h1 hF (al' z hz)⟩, ⟨hf.size, fun d => ?_⟩, hb, fun z hz => hwf z (al' z hz), hd.env hfz, hnx⟩
    · have hbc' : (if b = E.ρ x then some c else E.fz b) = some cc := hbc
      by_cases e : b = E.ρ x
      · rw [if_pos e] at hbc'
        cases hbc'
        rw [e]; exact ⟨_, _, hc1⟩
      · rw [if_neg e] at hbc'; exact p.sim.fz b cc hbc'
    · have hzn := al z hz
      have hz' : hget s.hp z ≠ none := al' z hz
      have := p.sim.low z hF hz' hvz
      refine ⟨this.1, ?_⟩
      show (if E.ρ z = E.ρ x then some c else E.fz (E.ρ z)) = none
      rw [if_neg fun e => hzn.1 (p.sim.inj z x hF trivial hz' hxn hvz hv e)]
      exact this.2
    · have hz : hget (s.freezeB x k get).hp z ≠ none := by rw [hB]; simp
      have hzn := al z hz
      rw [hzn.2] at hB
      have hdm := p.sim.dom z hF (al' z hz)
      cases hg : hget s.hp z with
      | none => rw [hg] at hB; cases hB
      | some b0 =>
        have hb0 := p.sim.blk z b0 hF hg
        rw [hg] at hB
        cases b0 with
        | arr => cases hB; exact hb0.mono hle hdm
        | map => cases hB; exact hb0.mono hle hdm
        | fix ty cs =>
          cases hB
          obtain ⟨q1, c', q2, q3, q4⟩ := hb0
          exact ⟨q1, c', q2, q3.mapR fun a _ v hv => frzA_ok hslot 6 a v hv hle, q4⟩
    · have := p.frame b hb' hx'
      refine ⟨this.1, ?_⟩
      show (if b = E.ρ x then some c else E.fz b) = _
      rw [if_neg (by omega)]; exact this.2
    · have hs := hf.slot d
      show Rep E' (look (s.sl.map fun p => (p.1, frzA x k get 6 p.2)) d) _
      rw [look_mapA (frzA x k get 6) rfl]
      exact frzA_ok hslot 6 _ _ hs hle
/-- The same, the state short again. -/
def St.freezeB? (ds : List (Nat × Bool)) (gb : Bool) (x : Nat) (s : St) : Option St := match hget s.hp x with
  | some (.arr _ n k get) => if 0 < n then canon 0 ds gb (s.freezeB x k get) else none
  | _ => none
theorem freezeB_le {B : Start} (h0 : B.nx0 = 0) {ds : List (Nat × Bool)} {gb : Bool} {x : Nat} {s m : St} (h : St.freezeB? ds gb x s = some m) : HoldLe B s m := by
  unfold St.freezeB? at h
  split at h
  · rename_i ty n k get hg
    split at h
    · rename_i hn
      rw [← h0] at h
      exact (hold_freezeB h0 hg hn).trans fun act w hh => canon_ok h act w hh
    · cases h
  · cases h
end Go.Proofs.YtamjnhpkmhbkcaaGreatDoor

/-
  PART: a nil slice in a block's cell, as an owned row.
-/
namespace Go.Proofs.YtamjnhpkmhbkcaaGreatDoor
open Go.RowKit
theorem Pst.blks {FP : Nat → Prop} {E E' : Env} {H H' H'' : Nat → Option Blk} {nx nx' : Nat} {wr : List Nat} {w w' : World} (p : Pst FP E E' H H' nx nx' wr w w') (hn : ∀ z, H'' z ≠ none → H' z ≠ none) (hb : ∀ z B, FP z → H'' z = some B → BlkR E' z B (blkW w' (E'.ρ z))) : Pst FP E E' H H'' nx nx' wr w w' :=
  ⟨⟨p.le, p.dom, ⟨p.sim.fz, fun x hF hx => p.sim.dom x hF (hn x hx), fun x hF hx => p.sim.low x hF (hn x hx), fun x B hF hB => hb x B hF hB, fun x y hx hy h1 h2 => p.sim.inj x y hx hy (hn x h1) (hn y h2)⟩, p.frame, fun x h1 h2 hF hx => p.news x h1 h2 hF (hn x hx), p.size, p.os, p.tape, p.output⟩, fun x h1 hF hx => p.old x h1 hF (hn x hx)⟩
theorem Reps.set {E : Env} {a b : AV} (hab : ∀ v, Rep E a v → Rep E b v) : ∀ {cs : List AV} {vs : List Value} {i : Nat}, Reps E cs vs → cs[i]? = some a → Reps E (cs.set i b) vs
  | _, _, i, .nil, h => by rw [List.getElem?_nil] at h; cases h
  | c :: cs, _, 0, .cons h1 h2, h => by
    have h : c = a := by simpa using h
    subst h
    exact .cons (hab _ h1) h2
  | c :: cs, _, i + 1, .cons h1 h2, h => .cons h1 (Reps.set hab h2 (by simpa using h))
def St.nilOwnB (s : St) (x i : Nat) (ty : TypeId) (cs : List AV) (elem : TypeId) (k : Nat) : St := { s with hp := (x, some (.fix ty (cs.set i (.own s.nx 0 k false)))) :: (s.nx, some (.arr elem 0 k fun _ => fit k [])) :: s.hp, nx := s.nx + 1 }
theorem hold_nilOwnB {B : Start} {s : St} {x i : Nat} {ty elem : TypeId} {cs : List AV} {k : Nat} (h : hget s.hp x = some (.fix ty cs)) (hi : cs[i]? = some (.lit (.slice none 0 0))) : HoldLe B s (s.nilOwnB x i ty cs elem k) := by
  intro act w ⟨E, p, hf, hb, hwf, hd, hnx⟩
  have hx : ¬ E.dom s.nx := fun hx => absurd (hb _ hx) (Nat.lt_irrefl _)
  have hvr : (E.add s.nx 0 0 0 true).vir s.nx = true := by simp [Env.add]
  have hln : (E.add s.nx 0 0 0 true).ln s.nx = 0 := by simp [Env.add]
  have hB : ∀ o, BlkR (E.add s.nx 0 0 0 true) s.nx (.arr elem 0 k fun _ => fit k []) o := fun o => ⟨hln.symm, .inl ⟨hvr, rfl⟩⟩
  have hl := Env.le_add (E := E) hx 0 0 0 true
  have hxlt : x < s.nx := hwf x (by rw [h]; simp)
  have q := Pst.virt (wr := List.range B.nx0) (H' := hget ((s.nx, some (.arr elem 0 k fun _ => fit k [])) :: s.hp)) p.sim hx (hB none) hB (fun z => by rw [hget_cons])
  have hdx : E.dom x := p.sim.dom x trivial (by rw [h]; simp)
  have hH : ∀ z, hget (s.nilOwnB x i ty cs elem k).hp z = if x = z then some (.fix ty (cs.set i (.own s.nx 0 k false))) else hget ((s.nx, some (.arr elem 0 k fun _ => fit k [])) :: s.hp) z := fun z => by
    show hget ((x, _) :: _) z = _
    rw [hget_cons]
  have hn : ∀ z, hget (s.nilOwnB x i ty cs elem k).hp z ≠ none → hget ((s.nx, some (.arr elem 0 k fun _ => fit k [])) :: s.hp) z ≠ none := fun z hz => by
    rw [hH] at hz
    by_cases e : x = z
    · subst e; rw [hget_cons, if_neg (by omega), h]; simp
    · rw [if_neg e] at hz; exact hz
  have q2 := Pst.blks (H'' := hget (s.nilOwnB x i ty cs elem k).hp) q hn fun z B' _ hz => by
    rw [hH] at hz
    by_cases e : x = z
    · subst e
      rw [if_pos rfl] at hz
      cases hz
      have h0 := q.sim.blk x (.fix ty cs) trivial (by rw [hget_cons, if_neg (by omega)]; exact h)
      obtain ⟨h1, c, h2, h3, h4⟩ := h0
      refine ⟨h1, c, h2, Reps.set (fun z hz => ?_) h3 hi, h4⟩
      cases hz
      exact .ownNil (.inl rfl) hvr rfl hln.symm
    · rw [if_neg e] at hz
      exact q.sim.blk z B' trivial hz
  refine ⟨E.add s.nx 0 0 0 true, Pst.trans B.sim (fun _ _ => trivial) p q2 hnx (Nat.le_succ _), ⟨hf.size, fun e => (hf.slot e).mono hl⟩, fun y hy => ?_, fun y hy => ?_, hd.env (fun _ _ h => h), Nat.le_succ_of_le hnx⟩
  · rcases hy with rfl | hy
    · exact Nat.lt_succ_self _
    · exact Nat.lt_succ_of_lt (hb y hy)
  · have h1 := hn y hy
    rw [hget_cons] at h1
    by_cases he : s.nx = y
    · subst he; exact Nat.lt_succ_self _
    · rw [if_neg he] at h1; exact Nat.lt_succ_of_lt (hwf y h1)
/-- A short state, a nil cell of one of its blocks an owned row, short again. -/
def St.nilOwnB? (nx0 : Nat) (ds : List (Nat × Bool)) (gb : Bool) (x i : Nat) (elem : TypeId) (k : Nat) (s : St) : Option St := match hget s.hp x with
  | some (.fix ty cs) => match cs[i]? with
    | some (.lit v) => match isNilSl v with
      | true => canon nx0 ds gb (s.nilOwnB x i ty cs elem k)
      | false => none
    | _ => none
  | _ => none
theorem nilOwnB_le {B : Start} {ds : List (Nat × Bool)} {gb : Bool} {x i : Nat} {elem : TypeId} {k : Nat} {s m : St} (h : St.nilOwnB? B.nx0 ds gb x i elem k s = some m) : HoldLe B s m := by
  unfold St.nilOwnB? at h
  split at h
  · rename_i ty cs hb
    split at h
    · rename_i v hv
      split at h
      · rename_i hn
        obtain rfl := isNilSl_eq hn
        exact fun act w hh => canon_ok h act w (hold_nilOwnB (elem := elem) (k := k) hb hv act w hh)
      · cases h
    · cases h
  · cases h
end Go.Proofs.YtamjnhpkmhbkcaaGreatDoor

/-
  PART: a range over a function: the statement, from what the function hands over and what a round does.
-/
namespace Go.Proofs.YtamjnhpkmhbkcaaGreatDoor
open Go.RowKit

/-- What a caller knows between two rounds (so many are over), or behind a round that left. -/
def Ghost := Option Nat → World → (Nat → Option (Array Value)) → Prop
def CellsOk (Z : Nat → Option (Array Value)) (w : World) : Prop := ∀ b c, Z b = some c → ∃ ty fr, blkW w b = some (.cells c ty fr)
structure GhostOk (G : Ghost) : Prop where
  fz : ∀ κ W Z, G κ W Z → CellsOk Z W
  on : ∀ κ W W' Z Z', G κ W Z → Quiet W W' → (∀ b c, Z b = some c → Z' b = some c) → (∀ b, b < W.heap.size → Z' b = Z b) → CellsOk Z' W' → G κ W' Z'
def YieldsTo (P : Program) (l : Nat) (G : Ghost) (xs : List (List Int)) : Prop :=
  ∀ k x W Z, xs[k]? = some x → G (some k) W Z → YieldAt Fence.wide 0 P l (x.map (Value.int .i64)).toArray W fun e W' => (e = .returned (.bool true) ∧ G (some (k + 1)) W' Z) ∨ (e = .returned (.bool false) ∧ G none W' Z)
/-- A function that is ranged over hands over these, one behind the other. -/
def SeqOk (P : Program) (f : Nat) (args : List AV) (xs : List (List Int)) : Prop :=
  ∀ (E : Env) (w : World) (vals : Array Value) (l : Nat) (G : Ghost), (∀ x, ¬ E.dom x) → FzOk E w → Reps E args vals.toList → GhostOk G → YieldsTo P l G xs → G (some 0) w E.fz →
    CallsIn Fence.wide 0 P f (#[.func (.yield l) #[] #[]] ++ vals) w fun e w' => ∃ v, e = .returned v ∧ ∃ Z, G (some xs.length) w' Z ∨ G none w' Z
section
variable {B : Start} {s m : St} {act : Act} {w w' : World}
def Start.at (B : Start) (E : Env) (H : Nat → Option Blk) (nx : Nat) (w : World) (sim : Sim (fun _ => True) E H w) (bound : ∀ x, E.dom x → x < nx) (Z : Nat → Option (Array Value)) (rr : Option Nat) : Start := ⟨B.N, E, H, nx, w, sim, bound, Z, rr, false⟩
/-- What is no cells stays. -/
theorem hold_old (h : Hold B s act w) {b : Nat} {o : Obj} (hb : blkW B.w0 b = some o) (ho : ¬ Solid o) : blkW w b = some o := by
  obtain ⟨E, p, _⟩ := h
  rw [(p.frame b (blkW_some_lt hb) fun x _ _ hn hv e => by
    obtain ⟨ob, hc, hso⟩ := B.sim.cells trivial hn hv
    rw [← e, hb] at hc; cases hc; exact ho hso).1]
  exact hb
theorem hold_size (h : Hold B s act w) : B.w0.heap.size ≤ w.heap.size := by
  obtain ⟨E, p, _⟩ := h; exact p.size
/-- A block that is no cells turns, at the beginning and now. -/
theorem hold_turn {B' : Start} (h : Hold B s act w) (hN : B'.N = B.N) (hE : B'.E0 = B.E0) (hH : B'.H0 = B.H0) (hnx : B'.nx0 = B.nx0) (hZ : B'.Z = B.Z) {l : Nat} {o o0 : Obj} (hl : blkW B.w0 l = some o0) (ho : ¬ Solid o0) (hno : o0 ≠ .deferred (some [])) (hnm : B'.nm = false) (hw : B'.w0 = B.w0.putObj l o) : Hold B' s act (w.putObj l o) := by
  have hq := hold_old h hl ho
  obtain ⟨E, p, hf, hb, hwf, he, hn⟩ := h
  have same : ∀ b ob, blkW w b = some ob → Solid ob → blkW (w.putObj l o) b = blkW w b := fun b ob hc hso => by
    refine World.putObj_heap_other fun e => ?_
    rw [e, hq] at hc; cases hc; exact ho hso
  have hs : (w.putObj l o).heap.size = w.heap.size := World.putObj_size
  have hs0 : (B.w0.putObj l o).heap.size = B.w0.heap.size := World.putObj_size
  refine ⟨E, ?_, by rw [hN]; exact hf, hb, hwf, ⟨by rw [hZ]; exact he.z, ?_, fun h => by rw [hnm] at h; cases h⟩, by rw [hnx]; exact hn⟩
  rotate_left
  · obtain ⟨rs, q1, q2, q3⟩ := he.marks
    refine ⟨rs, q1, q2, fun r hr => ⟨by rw [hw, hs0]; exact (q3 r hr).1, ?_⟩⟩
    have hr3 := (q3 r hr).2
    have : blkW (w.putObj l o) r = blkW w r := World.putObj_heap_other fun e => by
      rw [e, hq] at hr3; cases hr3; exact hno rfl
    rw [this]; exact hr3
  rw [hE, hH, hnx, hw]
  refine ⟨⟨p.le, p.dom, p.sim.turn same (Nat.le_of_eq hs.symm), fun b hb hx => ?_, fun x h1 h2 hF h3 hv => ?_, by rw [hs, hs0]; exact p.size, p.os, p.tape, p.output⟩, p.old⟩
  · rw [hs0] at hb
    have := p.frame b hb hx
    refine ⟨?_, this.2⟩
    by_cases e : b = l
    · rw [e]
      have h1 : blkW (w.putObj l o) l = some o := World.putObj_heap_same (blkW_some_lt hq)
      have h2 : blkW (B.w0.putObj l o) l = some o := World.putObj_heap_same (blkW_some_lt hl)
      rw [h1, h2]
    · have h1 : blkW (w.putObj l o) b = blkW w b := World.putObj_heap_other e
      have h2 : blkW (B.w0.putObj l o) b = blkW B.w0 b := World.putObj_heap_other e
      rw [h1, h2]; exact this.1
  · rw [hs0]; exact p.news x h1 h2 hF h3 hv
/-- Memory grows, and more is known to stay. -/
theorem hold_quiet {B' : Start} (h : Hold B s act w) (hq : Quiet w w') (hnm : B'.nm = false) (hN : B'.N = B.N) (hE : B'.E0 = B.E0) (hH : B'.H0 = B.H0) (hnx : B'.nx0 = B.nx0) (hw : B'.w0 = B.w0) (h1 : ∀ b c, B.Z b = some c → B'.Z b = some c) (h2 : ∀ b, b < w.heap.size → B'.Z b = B.Z b) (h3 : CellsOk B'.Z w') : Hold B' s act w' := by
  obtain ⟨E, p, hf, hb, hwf, he, hn⟩ := h
  have same : ∀ b ob, blkW w b = some ob → Solid ob → blkW w' b = blkW w b := fun b ob hc _ => hq.old b (blkW_some_lt hc)
  have lt : ∀ b c, E.fz b = some c → b < w.heap.size := fun b c hb => by obtain ⟨ty, fr, hc⟩ := p.sim.fz b c hb; exact blkW_some_lt hc
  let E' : Env := { E with fz := fun b => if b < w.heap.size then E.fz b else B'.Z b, gok := fun g => (E.gok g).mono fun c h => by rw [if_pos (lt g c h)]; exact h }
  have hfz : ∀ b c, E.fz b = some c → E'.fz b = some c := fun b c hb => by
    show (if b < w.heap.size then E.fz b else B'.Z b) = some c
    rw [if_pos (lt b c hb)]; exact hb
  have hle : E.le E' := ⟨fun _ h => h, fun _ _ => rfl, fun _ _ => rfl, fun _ _ => rfl, fun _ _ => rfl, hfz⟩
  have p1 := p.turn same hq.size (fun b hb => hq.old b (Nat.lt_of_lt_of_le hb p.size)) hq.os hq.tape hq.output
  refine ⟨E', ?_, by rw [hN]; exact hf.mono hle, hb, hwf, ⟨fun b c hbc => ?_, ?_, fun h => by rw [hnm] at h; cases h⟩, by rw [hnx]; exact hn⟩
  · rw [hE, hH, hnx, hw]
    refine ⟨⟨p1.le.trans hle, p1.dom, ⟨fun b c hbc => ?_, p1.sim.dom, fun x hF hn hv => ⟨(p1.sim.low x hF hn hv).1, ?_⟩, fun x B hF hB => (p1.sim.blk x B hF hB).mono hle (p1.sim.dom x hF (by rw [hB]; simp)), p1.sim.inj⟩, fun b hb hx => ⟨(p1.frame b hb hx).1, ?_⟩, p1.news, p1.size, p1.os, p1.tape, p1.output⟩, p1.old⟩
    · have hbc' : (if b < w.heap.size then E.fz b else B'.Z b) = some c := hbc
      split at hbc'
      · obtain ⟨ty, fr, hc⟩ := p.sim.fz b c hbc'
        exact ⟨ty, fr, (same _ _ hc (.cells ..)).trans hc⟩
      · exact h3 b c hbc'
    · show (if E.ρ x < w.heap.size then E.fz (E.ρ x) else B'.Z (E.ρ x)) = none
      have := p.sim.low x hF hn hv
      rw [if_pos this.1]; exact this.2
    · show (if b < w.heap.size then E.fz b else B'.Z b) = _
      rw [if_pos (Nat.lt_of_lt_of_le hb p.size)]; exact (p1.frame b hb hx).2
  · show (if b < w.heap.size then E.fz b else B'.Z b) = some c
    by_cases e : b < w.heap.size
    · rw [if_pos e]
      rw [h2 b e] at hbc
      exact he.z b c hbc
    · rw [if_neg e]; exact hbc
  · obtain ⟨rs, q1, q2, q3⟩ := he.marks
    exact ⟨rs, q1, q2, fun r hr => ⟨by rw [hw]; exact (q3 r hr).1, (hq.old r (blkW_some_lt (q3 r hr).2)).trans (q3 r hr).2⟩⟩
def St.noSl (s : St) : St := { s with sl := [] }
/-- A round's frame is gone: its caller's slots are as they were. -/
theorem hold_slots {act' : Act} {B' : Start} (h : Hold B m.noSl act w) (hN : B'.N = B.N) (hE : B'.E0 = B.E0) (hH : B'.H0 = B.H0) (hnx : B'.nx0 = B.nx0) (hw : B'.w0 = B.w0) (hZ : B'.Z = B.Z) (hsl : m.sl = s.sl) (hf : Fr B.N B.E0 s act') (hd : act'.defers = []) : Hold B' m act' w := by
  obtain ⟨E, p, _, hb, hwf, he, hn⟩ := h
  refine ⟨E, by rw [hE, hH, hnx, hw]; exact p, by rw [hN]; exact ⟨hf.size, fun d => by rw [hsl]; exact (hf.slot d).mono p.le⟩, hb, hwf, Ext.none (by rw [hZ]; exact he.z) hd, by rw [hnx]; exact hn⟩
/-- What begins anew in the midst goes on from the beginning. -/
theorem hold_join {B' : Start} {act' : Act} {w1 : World} {rs : List Nat} {E : Env} (p : Pst (fun _ => True) B.E0 E B.H0 (hget s.hp) B.nx0 s.nx (List.range B.nx0) B.w0 w) (he : Ext B E act w) (hnm : B.nm = false) (hn : B.nx0 ≤ s.nx) (h : Hold B' m act' w1) (hN : B'.N = B.N) (hE : B'.E0 = E) (hH : B'.H0 = hget s.hp) (hnx : B'.nx0 = s.nx)
    (h0 : ∀ b, b < w.heap.size → blkW B'.w0 b = blkW w b) (hs : w.heap.size ≤ B'.w0.heap.size) (e1 : B'.w0.os = w.os) (e2 : B'.w0.tape = w.tape) (e3 : B'.w0.output = w.output) {a2 : Act} (ht : a2.tmps = act'.tmps) (hd : a2.defers = rs.map markD ++ act.defers) (hr : rs.Nodup) (hrs : ∀ r ∈ rs, w.heap.size ≤ r ∧ blkW B'.w0 r = some (.deferred (some []))) : Hold B m a2 w1 := by
  have hold : ∀ r, blkW B'.w0 r = some (.deferred (some [])) → blkW w1 r = some (.deferred (some [])) := fun r hb => hold_old h hb fun hc => by cases hc
  obtain ⟨E', q, hf, hb, hwf, _, hn'⟩ := h
  rw [hE, hH, hnx] at q
  have q' : Pst (fun _ => True) E E' (hget s.hp) (hget m.hp) s.nx m.nx (List.range s.nx) w w1 :=
    ⟨⟨q.le, q.dom, q.sim, fun b hb hx => by
      have := q.frame b (Nat.lt_of_lt_of_le hb hs) hx
      exact ⟨this.1.trans (h0 b hb), this.2⟩, fun x h1 h2 hF hn hv => (q.news x h1 h2 hF hn hv).imp (Nat.le_trans hs) id, Nat.le_trans hs q.size, q.os.trans e1, q.tape.trans e2, q.output.trans e3⟩, q.old⟩
  have p1 := p.more (wr' := List.range B.nx0 ++ List.range s.nx) fun x hx => List.mem_append.2 (.inl hx)
  have q1 := q'.more (wr' := List.range B.nx0 ++ List.range s.nx) fun x hx => List.mem_append.2 (.inr hx)
  have hnm' : s.nx ≤ m.nx := by rw [← hnx]; exact hn'
  refine ⟨E', (Pst.trans B.sim (fun _ _ => trivial) p1 q1 hn hnm').cut fun x _ hx => List.mem_range.2 hx, ⟨by rw [ht, hf.size, hN], fun d => by rw [ht]; exact hf.slot d⟩, hb, hwf, ⟨fun b c hb => q.le.fz b c (he.z b c hb), ?_, fun h => by rw [hnm] at h; cases h⟩, Nat.le_trans hn hnm'⟩
  obtain ⟨ms, k1, k2, k3⟩ := he.marks
  refine ⟨rs ++ ms, by rw [hd, k1, List.map_append], List.nodup_append.2 ⟨hr, k2, fun a ha b hb e => ?_⟩, fun r hr' => ?_⟩
  · have := blkW_some_lt (k3 b hb).2
    have := (hrs a ha).1
    omega
  · rcases List.mem_append.1 hr' with h | h
    · exact ⟨Nat.le_trans p.size (hrs r h).1, hold r (hrs r h).2⟩
    · have := (k3 r h).2
      exact ⟨(k3 r h).1, hold r ((h0 r (blkW_some_lt this)).trans this)⟩
end
end Go.Proofs.YtamjnhpkmhbkcaaGreatDoor

/-
  PART: a range over a function: the rule.
-/
namespace Go.Proofs.YtamjnhpkmhbkcaaGreatDoor
open Go.RowKit
def jumpOf : Ex → Option Code
  | .norm => none
  | .exit id => some (.exit id)
  | .goto l => some (.goto l)
  | .ret => some .ret
/-- A round's slots. -/
def psSl (sl : List (Nat × AV)) : List Nat → List Int → List (Nat × AV)
  | t :: ts, z :: zs => psSl ((t, .v (.int .i64 z)) :: sl) ts zs
  | _, _ => sl
def St.withPs (s : St) (ps : Array Nat) (x : List Int) : St := { s with sl := psSl s.sl ps.toList x }
theorem psSl_fr {E : Env} {N : Nat} : ∀ {ts : List Nat} {zs : List Int} {sl : List (Nat × AV)} {tmps : Array Value}, (∀ t ∈ ts, t < N) → tmps.size = N → (∀ d, Rep E (look sl d) (tmps.getD d undef)) →
    ((ts.zip (zs.map (Value.int .i64))).foldl (fun tm (p : Nat × Value) => tm.setIfInBounds p.1 p.2) tmps).size = N ∧ ∀ d, Rep E (look (psSl sl ts zs) d) (((ts.zip (zs.map (Value.int .i64))).foldl (fun tm (p : Nat × Value) => tm.setIfInBounds p.1 p.2) tmps).getD d undef)
  | [], zs, sl, tmps, _, h, hs => ⟨h, by simpa [psSl] using hs⟩
  | t :: ts, [], sl, tmps, _, h, hs => ⟨h, by simpa [psSl] using hs⟩
  | t :: ts, z :: zs, sl, tmps, ht, h, hs => by
    have hlt := ht t (List.mem_cons_self ..)
    refine psSl_fr (ts := ts) (zs := zs) (sl := (t, .v (.int .i64 z)) :: sl) (tmps := tmps.setIfInBounds t (.int .i64 z)) (fun t' h' => ht t' (List.mem_cons_of_mem _ h')) (by simpa using h) fun d => ?_
    rw [look_cons, getD_put (by rw [h]; exact hlt)]
    by_cases e : t = d
    · rw [if_pos e, if_pos e]; exact .v _ rfl
    · rw [if_neg e, if_neg e]; exact hs d
theorem zip_fold (ps : Array Nat) (x : List Int) (tmps : Array Value) : (ps.zip (x.map (Value.int .i64)).toArray).foldl (fun tm (p : Nat × Value) => tm.setIfInBounds p.1 p.2) tmps = (ps.toList.zip (x.map (Value.int .i64))).foldl (fun tm (p : Nat × Value) => tm.setIfInBounds p.1 p.2) tmps := by
  rw [← Array.foldl_toList]
  congr 1
  simp
/-- A range over a function. -/
theorem wpc_range {P : Program} {B : Start} {s : St} {R : Ex → St → Prop} (hrr : B.rr = none) (hnm : B.nm = false) {g : Operand} {ps : Array Nat} {assign body : Code} {f : Nat} {cap : List AV} {xs : List (List Int)}
    (hent : ∀ args w, (callFunc f args).run P w = .ok (.enter f args) w) (hg : s.val g = .fn (.func f) [] cap) (hseq : SeqOk P f (cap.map (strip 8)) xs) (Inv : Nat → St) (h0 : Inv 0 = s) (hsl : ∀ k, (Inv k).sl = s.sl)
    (hps : ∀ (k : Nat) (x : List Int), xs[k]? = some x → x.length = ps.size) (hpN : ∀ t ∈ ps.toList, t < B.N) (A : Nat → List Int → St) (Out : Ex → St → Prop) (J : Nat → Prop) (hJ : J 0)
    (ha : ∀ k x, xs[k]? = some x → J k → ∀ B' : Start, B'.nx0 = s.nx → B'.N = B.N → WpC P B' assign ((Inv k).withPs ps x) fun e s1 => e = .norm ∧ s1 = A k x)
    (hb : ∀ k x, xs[k]? = some x → J k → ∀ B' : Start, B'.nx0 = s.nx → B'.N = B.N → WpC P B' body (A k x) fun e s1 => (e = .norm ∧ J (k + 1) ∧ HoldLe B' s1 (Inv (k + 1)).noSl) ∨ (e ≠ .norm ∧ ∃ m : St, HoldLe B' s1 m.noSl ∧ m.sl = s.sl ∧ Out e m))
    (hend : J xs.length → R .norm (Inv xs.length)) (hout : ∀ e m, Out e m → R e m) : WpC P B (.rangeFunc g ps assign body) s R := by
  intro act w Q hs hQ
  have hs' := hs
  obtain ⟨E, p, hf, hbd, hwf, hd, hnx⟩ := hs
  rw [hrr]
  refine wpIn_rangeFunc ?_
  intro fn hfn
  obtain ⟨lb, hlb, hcap⟩ : ∃ lb : Array Value, act.eval g = .func (.func f) #[] lb ∧ Reps E cap lb.toList := by
    have hv := hf.val g
    rw [hg] at hv
    generalize act.eval g = u at hv
    cases hv with
    | @fn _ _ _ fv cv h1 h2 =>
      cases fv with
      | mk l => cases h1; exact ⟨_, rfl, h2⟩
  obtain ⟨rec, hrec⟩ : ∃ rec : LoopState → Option Code → Loop, rec = fun st pe => { state := st, pending := pe, fn, tmps := act.tmps, params := ps, assign, body, defers := w.heap.size } := ⟨_, rfl⟩
  obtain ⟨W1, hW1⟩ : ∃ W1, (w.alloc (.deferred (some []))).alloc (.loop (rec .ready none)) = W1 := ⟨_, rfl⟩
  have hL1 : blkW W1 (w.heap.size + 1) = some (.loop (rec .ready none)) := by
    rw [← hW1]; have := World.alloc_heap_new (w.alloc (.deferred (some []))) (.loop (rec .ready none)); rwa [World.size_alloc] at this
  have hS1 : W1.heap.size = w.heap.size + 2 := by rw [← hW1]; simp
  have old1 : ∀ b, b < w.heap.size → blkW W1 b = blkW w b := fun b hb => by
    rw [← hW1]
    show (((w.heap.push _).push _)[b]?) = w.heap[b]?
    rw [Array.getElem?_push_lt (by simp; omega), Array.getElem_push_lt hb, Array.getElem?_eq_getElem hb]
  have hK1 : blkW W1 w.heap.size = some (.deferred (some [])) := by
    rw [← hW1]
    show (((w.heap.push _).push _)[w.heap.size]?) = _
    rw [Array.getElem?_push_lt (by simp)]; simp
  have e1 : W1.os = w.os := by rw [← hW1]; rfl
  have e2 : W1.tape = w.tape := by rw [← hW1]; rfl
  have e3 : W1.output = w.output := by rw [← hW1]; rfl
  have hq1 : Quiet w W1 := ⟨old1, by omega, e1, e2, e3⟩
  have sim1 : Sim (fun _ => True) E (hget s.hp) W1 := p.sim.turn (fun b ob hc _ => old1 b (blkW_some_lt hc)) hq1.size
  have simo : ∀ o : Obj, Sim (fun _ => True) E (hget s.hp) (W1.putObj (w.heap.size + 1) o) := fun o => sim1.turn (fun b ob hc hso => World.putObj_heap_other fun e => by rw [e] at hc; rw [hL1] at hc; cases hc; cases hso) (by simp)
  let Bl : LoopState → Option Code → (Nat → Option (Array Value)) → Option Nat → Start := fun st pe Z rr => B.at E (hget s.hp) s.nx (W1.putObj (w.heap.size + 1) (.loop (rec st pe))) (simo _) hbd Z rr
  have hw0 : ∀ st pe st' pe', (W1.putObj (w.heap.size + 1) (.loop (rec st pe))).putObj (w.heap.size + 1) (.loop (rec st' pe')) = W1.putObj (w.heap.size + 1) (.loop (rec st' pe')) := fun st pe st' pe' => by
    simp [World.putObj]
  have hW0 : W1.putObj (w.heap.size + 1) (.loop (rec .ready none)) = W1 := by
    have key : W1.heap.setIfInBounds (w.heap.size + 1) (.loop (rec .ready none)) = W1.heap := by
      apply Array.ext
      · simp
      · intro i h1 h2
        rw [Array.getElem_setIfInBounds]
        split
        · rename_i hi
          subst hi
          have : W1.heap[w.heap.size + 1]? = some (.loop (rec .ready none)) := hL1
          rw [Array.getElem?_eq_getElem h2] at this
          exact (Option.some.inj this).symm
        · rfl
    unfold World.putObj
    rw [key]
  have hrl : ∀ st pe, blkW (W1.putObj (w.heap.size + 1) (.loop (rec st pe))) (w.heap.size + 1) = some (.loop (rec st pe)) := fun st pe => World.putObj_heap_same (by omega)
  have hdl : ∀ st pe, blkW (W1.putObj (w.heap.size + 1) (.loop (rec st pe))) w.heap.size = some (.deferred (some [])) := fun st pe => (World.putObj_heap_other (by omega)).trans hK1
  have nl : ∀ st pe, ¬ Solid (Obj.loop (rec st pe)) := fun st pe h => by cases h
  have turn : ∀ {st pe Z rr m a W}, Hold (Bl st pe Z rr) m a W → ∀ st' pe' rr', Hold (Bl st' pe' Z rr') m a (W.putObj (w.heap.size + 1) (.loop (rec st' pe'))) := fun {st pe Z rr m a W} h st' pe' rr' =>
    hold_turn (B' := Bl st' pe' Z rr') h rfl rfl rfl rfl rfl (hrl st pe) (nl st pe) (fun h => by cases h) rfl (hw0 st pe st' pe').symm
  let a0 : Act := { tmps := act.tmps, defers := [] }
  have hf0 : Fr B.N E s a0 := ⟨hf.size, hf.slot⟩
  let G : Ghost := fun κ W Z => match κ with
    | some k => Hold (Bl .ready none Z none) (Inv k) a0 W ∧ J k
    | none => ∃ x m, x ≠ .norm ∧ m.sl = s.sl ∧ Out x m ∧ Hold (Bl .done (jumpOf x) Z none) m a0 W
  have hold_fz : ∀ {st pe Z rr m a W}, Hold (Bl st pe Z rr) m a W → CellsOk Z W := fun {st pe Z rr m a W} ⟨E', q, _, _, _, he, _⟩ b c hb => q.sim.fz b c (he.z b c hb)
  have hG : GhostOk G := by
    refine ⟨fun κ W Z h => ?_, fun κ W W' Z Z' h hq h1 h2 h3 => ?_⟩
    · cases κ with
      | some k => exact hold_fz h.1
      | none => obtain ⟨x, m, _, _, _, h⟩ := h; exact hold_fz h
    · cases κ with
      | some k => exact ⟨hold_quiet (B' := Bl .ready none Z' none) h.1 hq rfl rfl rfl rfl rfl rfl h1 h2 h3, h.2⟩
      | none =>
        obtain ⟨x, m, k1, k2, k3, h⟩ := h
        exact ⟨x, m, k1, k2, k3, hold_quiet (B' := Bl .done (jumpOf x) Z' none) h hq rfl rfl rfl rfl rfl rfl h1 h2 h3⟩
  have hY : YieldsTo P (w.heap.size + 1) G xs := by
    intro k x W Z hx hGk
    obtain ⟨hGk, hJk⟩ : Hold (Bl .ready none Z none) (Inv k) a0 W ∧ J k := hGk
    have hl := hold_old hGk (hrl .ready none) (nl _ _)
    have hy := run_yield (P := P) (args := (x.map (Value.int .i64)).toArray) hl (by rw [hrec]; simpa using hps k x hx)
    refine ⟨_, _, _, _, hy, roundIn_of_wpIn (by rw [hrec]; trivial) ?_⟩
    have e : (rec .ready none).tmps = act.tmps ∧ (rec .ready none).params = ps ∧ (rec .ready none).assign = assign ∧ (rec .ready none).body = body := by rw [hrec]; exact ⟨rfl, rfl, rfl, rfl⟩
    rw [e.1, e.2.1, e.2.2.1, e.2.2.2, zip_fold]
    have hw : Hold (Bl .ready none Z (some (w.heap.size + 1))) ((Inv k).withPs ps x) { tmps := (ps.toList.zip (x.map (Value.int .i64))).foldl (fun tm (p : Nat × Value) => tm.setIfInBounds p.1 p.2) act.tmps, defers := [] } W := by
      obtain ⟨E', q, qf, qb, qw, qe, qn⟩ := hGk
      obtain ⟨z1, z2⟩ := psSl_fr (zs := x) hpN qf.size qf.slot
      exact ⟨E', q, ⟨z1, z2⟩, qb, qw, Ext.none qe.z rfl, qn⟩
    refine ha k x hx hJk (Bl .ready none Z (some (w.heap.size + 1))) rfl rfl _ W _ hw ?_
    rintro y s1 a1 W' ⟨rfl, rfl⟩ h1
    have hl1 := hold_old h1 (hrl .ready none) (nl _ _)
    have hb1 := run_beginRound (P := P) hl1 (by rw [hrec])
    have hbz : ({ rec .ready none with state := .busy } : Loop) = rec .busy none := by rw [hrec]
    rw [hbz] at hb1
    refine ⟨_, hb1, ?_⟩
    have h2 := turn h1 .busy none (some (w.heap.size + 1))
    refine hb k x hx hJk (Bl .busy none Z (some (w.heap.size + 1))) rfl rfl _ _ _ h2 ?_
    intro y s2 a2 W2 hR2 h3
    have hl3 := hold_old h3 (hrl .busy none) (nl _ _)
    have fin : ∀ jump : Option Code, (Instr.endRound (w.heap.size + 1) jump).run P W2 = .ok (.bool jump.isNone) (W2.putObj (w.heap.size + 1) (.loop (rec (if jump.isNone then .ready else .done) jump))) := fun jump => by
      have := run_endRound (P := P) jump hl3
      rw [hrec] at this ⊢
      exact this
    rcases hR2 with ⟨rfl, hJ1, hle⟩ | ⟨hy2, m, hle, hm, ho⟩
    · refine ⟨_, _, fin none, .inl ⟨rfl, ?_⟩⟩
      have h4 := turn (hle a2 W2 h3) .ready none none
      exact ⟨hold_slots (B' := Bl .ready none Z none) h4 rfl rfl rfl rfl rfl rfl (hsl (k + 1)) hf0 rfl, hJ1⟩
    · have hj : ∀ c, jumpOf y = some c → (Instr.endRound (w.heap.size + 1) (some c)).run P W2 = .ok (.bool false) (W2.putObj (w.heap.size + 1) (.loop (rec .done (some c)))) := fun c _ => fin (some c)
      have h4 : Hold (Bl .done (jumpOf y) Z none) m a0 (W2.putObj (w.heap.size + 1) (.loop (rec .done (jumpOf y)))) := by
        have h4 := turn (hle a2 W2 h3) .done (jumpOf y) none
        exact hold_slots (B' := Bl .done (jumpOf y) Z none) h4 rfl rfl rfl rfl rfl rfl hm hf0 rfl
      cases y with
      | norm => exact absurd rfl hy2
      | exit id => exact ⟨_, _, hj _ rfl, .inr ⟨rfl, .exit id, m, hy2, hm, ho, h4⟩⟩
      | goto t => exact ⟨_, _, hj _ rfl, .inr ⟨rfl, .goto t, m, hy2, hm, ho, h4⟩⟩
      | ret => exact ⟨_, _, hj _ rfl, .inr ⟨rfl, .ret, m, hy2, hm, ho, h4⟩⟩
  have lt : ∀ b c, E.fz b = some c → b < w.heap.size := fun b c hb => by obtain ⟨ty, fr, hc⟩ := p.sim.fz b c hb; exact blkW_some_lt hc
  let E1 : Env := { E with dom := fun _ => False }
  have hcall := hseq E1 W1 lb (w.heap.size + 1) G (fun _ h => h) (fun b c hb => sim1.fz b c hb) (hcap.mapR fun b _ v hv => strip_ok (E := E) (E' := E1) (fun _ _ h => h) 8 b v hv) hG hY (by
    show Hold (Bl .ready none E.fz none) (Inv 0) a0 W1 ∧ J 0
    rw [h0]
    refine ⟨?_, hJ⟩
    refine ⟨E, ?_, hf0, hbd, hwf, Ext.none (fun _ _ h => h) rfl, Nat.le_refl _⟩
    show Pst _ E E _ _ _ _ _ (W1.putObj (w.heap.size + 1) (.loop (rec .ready none))) W1
    rw [hW0]
    exact Pst.refl sim1)
  refine ⟨w.heap.size + 1, [markD w.heap.size], W1, { target := .fn (.func f) lb, args := #[.func (.yield (w.heap.size + 1)) #[] #[]] }, W1, f,
    #[.func (.yield (w.heap.size + 1)) #[] #[]] ++ lb, W1, ?_, ?_, ?_, ?_, (fun h => by cases h), ?_⟩
  · rw [← hW1, hrec]; exact run_enterLoop_outer _ _ _ _ _
  · simp only [resolve, hlb]
    simp [go_sem]
  · intro f' hf'; trivial
  · simp [invoke, go_sem, hent]
  · refine hcall.mono ?_
    have join : ∀ {st pe Z m W}, Hold (Bl st pe Z none) m a0 W → Hold B m { tmps := act.tmps, defers := [markD w.heap.size] ++ act.defers } (W.putObj (w.heap.size + 1) (.loop (rec .exhausted pe))) := fun {st pe Z m W} h =>
      hold_join (rs := [w.heap.size]) (B' := Bl .exhausted pe Z none) p hd hnm hnx (turn h .exhausted pe none) rfl rfl rfl rfl (fun b hb => (World.putObj_heap_other (by omega)).trans (old1 b hb)) (by show w.heap.size ≤ (W1.putObj _ _).heap.size; simp; omega) e1 e2 e3 rfl rfl (by simp) fun r hr => by
        simp at hr; subst hr; exact ⟨Nat.le_refl _, hdl _ _⟩
    rintro e W2 ⟨v, rfl, Z, h | ⟨x, m, hx, hm, ho, h⟩⟩
    · obtain ⟨h, hJn⟩ : Hold (Bl .ready none Z none) (Inv xs.length) a0 W2 ∧ J xs.length := h
      have hl := hold_old h (hrl .ready none) (nl _ _)
      have := run_endLoop (P := P) hl (by rw [hrec]; simp)
      refine ⟨none, W2.putObj (w.heap.size + 1) (.loop (rec .exhausted none)), by rw [hrec] at this ⊢; exact this, hQ .norm _ _ _ (hend hJn) (join h)⟩
    · have hl := hold_old h (hrl .done (jumpOf x)) (nl _ _)
      have := run_endLoop (P := P) hl (by rw [hrec]; simp)
      refine ⟨jumpOf x, W2.putObj (w.heap.size + 1) (.loop (rec .exhausted (jumpOf x))), by rw [hrec] at this ⊢; exact this, ?_⟩
      have hq := hQ x m _ _ (hout x m ho) (join h)
      cases x with
      | norm => exact absurd rfl hx
      | exit id => exact wpIn_exit hq
      | goto t => exact wpIn_goto hq
      | ret => exact wpIn_ret hq
end Go.Proofs.YtamjnhpkmhbkcaaGreatDoor

/-
  PART: functions that are ranged over: what they hand over.
-/
namespace Go.Proofs.YtamjnhpkmhbkcaaGreatDoor
open Go.RowKit

/-! A fixed block taken as it stays from then on. -/
def frzPtr (x : Nat) (cs : List AV) (a : AV) : AV := match a with
  | .ptr y off => match Nat.beq y x with
    | true => .fz cs off
    | false => a
  | a => a
def St.freezeP (s : St) (x : Nat) (cs : List AV) : St := { s with sl := s.sl.map fun p => (p.1, frzPtr x cs p.2), hp := (x, none) :: s.hp }
theorem hold_freezeP {B : Start} (h0 : B.nx0 = 0) {s : St} {x : Nat} {ty : TypeId} {cs : List AV} (h : hget s.hp x = some (.fix ty cs)) : HoldLe B s (s.freezeP x cs) := by
  intro act w ⟨E, p, hf, hb, hwf, hd, hnx⟩
  obtain ⟨hv, c, hc1, hc2, hc3⟩ := p.sim.blk x _ trivial h
  have hxn : hget s.hp x ≠ none := by rw [h]; simp
  have al : ∀ z, hget (s.freezeP x cs).hp z ≠ none → z ≠ x ∧ hget (s.freezeP x cs).hp z = hget s.hp z := fun z hz => by
    have e : hget (s.freezeP x cs).hp z = if x = z then none else hget s.hp z := by
      show hget ((x, none) :: s.hp) z = _
      rw [hget_cons]
    rw [e] at hz
    by_cases hxz : x = z
    · rw [if_pos hxz] at hz; exact absurd rfl hz
    · rw [e, if_neg hxz]; exact ⟨fun e => hxz e.symm, rfl⟩
  have hlow := p.sim.low x trivial hxn hv
  have hgok : ∀ g, GOk g (if g = E.ρ x then some c else E.fz g) := fun g => (E.gok g).mono fun cc this => by
    by_cases e : g = E.ρ x
    · rw [e, hlow.2] at this; cases this
    · rw [if_neg e]; exact this
  let E' : Env := { E with fz := fun b => if b = E.ρ x then some c else E.fz b, gok := hgok }
  have hfz : ∀ b cc, E.fz b = some cc → E'.fz b = some cc := fun b cc hbc => by
    show (if b = E.ρ x then some c else E.fz b) = some cc
    by_cases e : b = E.ρ x
    · rw [e, hlow.2] at hbc; cases hbc
    · rw [if_neg e]; exact hbc
  have hfx : E'.fz (E.ρ x) = some c := by
    show (if E.ρ x = E.ρ x then some c else E.fz (E.ρ x)) = some c
    rw [if_pos rfl]
  have hle : E.le E' := ⟨fun _ h => h, fun _ _ => rfl, fun _ _ => rfl, fun _ _ => rfl, fun _ _ => rfl, hfz⟩
  have hnew : B.w0.heap.size ≤ E.ρ x := by
    have hdom := p.sim.dom x trivial hxn
    rcases p.news x (by omega) (hb x hdom) trivial hxn hv with h | ⟨y, hy, hlt, _⟩
    · exact h
    · rw [h0] at hlt; exact absurd hlt (Nat.not_lt_zero y)
  refine ⟨E', ⟨⟨p.le.trans hle, p.dom, ⟨fun b cc hbc => ?_, fun z hF hz => p.sim.dom z hF (by rw [← (al z hz).2]; exact hz), fun z hF hz hvz => ?_, fun z B' hF hB => ?_, fun a b ha hb' h1 h2 => p.sim.inj a b ha hb' (by rw [← (al a h1).2]; exact h1) (by rw [← (al b h2).2]; exact h2)⟩, fun b hb' hx' => ?_, fun z h1 h2 hF hz => p.news z h1 h2 hF (by rw [← (al z hz).2]; exact hz), p.size, p.os, p.tape, p.output⟩, fun z h1 hF hz => p.old z h1 hF (by rw [← (al z hz).2]; exact hz)⟩, ⟨hf.size, fun d => ?_⟩, hb, fun z hz => hwf z (by rw [← (al z hz).2]; exact hz), hd.env hfz, hnx⟩
  · have hbc' : (if b = E.ρ x then some c else E.fz b) = some cc := hbc
    by_cases e : b = E.ρ x
    · rw [if_pos e] at hbc'
      cases hbc'
      rw [e]; exact ⟨_, _, hc1⟩
    · rw [if_neg e] at hbc'; exact p.sim.fz b cc hbc'
  · have hzn := al z hz
    have hz' : hget s.hp z ≠ none := by rw [← hzn.2]; exact hz
    have := p.sim.low z hF hz' hvz
    refine ⟨this.1, ?_⟩
    show (if E.ρ z = E.ρ x then some c else E.fz (E.ρ z)) = none
    rw [if_neg fun e => hzn.1 (p.sim.inj z x hF trivial hz' hxn hvz hv e)]
    exact this.2
  · have hzn := al z (by rw [hB]; simp)
    have hz' : hget s.hp z = some B' := by rw [← hzn.2]; exact hB
    exact (p.sim.blk z B' hF hz').mono hle (p.sim.dom z hF (by rw [hz']; simp))
  · have := p.frame b hb' hx'
    refine ⟨this.1, ?_⟩
    show (if b = E.ρ x then some c else E.fz b) = _
    rw [if_neg (by omega)]; exact this.2
  · have hs := hf.slot d
    have hlk : ∀ (l : List (Nat × AV)) (d : Nat), look (l.map fun p => (p.1, frzPtr x cs p.2)) d = frzPtr x cs (look l d) := fun l d => by
      induction l with
      | nil => rfl
      | cons q l ih =>
        obtain ⟨e, a⟩ := q
        simp only [List.map_cons, look_cons, ih]
        split <;> rfl
    show Rep E' (look (s.sl.map fun p => (p.1, frzPtr x cs p.2)) d) _
    rw [hlk]
    generalize look s.sl d = a at hs
    unfold frzPtr
    split
    · rename_i y off
      split
      · rename_i hq
        have hq1 := Nat.eq_of_beq_eq_true hq
        subst hq1
        generalize act.tmps.getD d undef = u at hs ⊢
        cases hs with
        | ptr hdm =>
          obtain ⟨hw1, hw2⟩ := (hc2.mono hle).whole
          have := Rep.fz (E := E') (cs := cs) (base := 0) (off := off) hfx (by rw [Nat.zero_add]; have := hc2.len; simp at this; omega) hw1 ((hc3.drop _).take _)
          rwa [Nat.zero_add] at this
      · exact hs.mono hle
    · exact hs.mono hle
/-- The same, the state short again. -/
def St.freezeP? (ds : List (Nat × Bool)) (gb : Bool) (x : Nat) (s : St) : Option St := match hget s.hp x with
  | some (.fix _ cs) => canon 0 ds gb (s.freezeP x cs)
  | _ => none
theorem freezeP_le {B : Start} (h0 : B.nx0 = 0) {ds : List (Nat × Bool)} {gb : Bool} {x : Nat} {s m : St} (h : St.freezeP? ds gb x s = some m) : HoldLe B s m := by
  unfold St.freezeP? at h
  split at h
  · rename_i ty cs hg
    rw [← h0] at h
    exact (hold_freezeP h0 hg).trans fun act w hh => canon_ok h act w hh
  · cases h

/-! Code that calls what a range over a function hands over. -/
def HoldI (N : Nat) (G : Ghost) (s : St) (κ : Option Nat) (act : Act) (w : World) : Prop :=
  ∃ B : Start, B.N = N ∧ B.nx0 = 0 ∧ B.rr = none ∧ B.nm = true ∧ Hold B s act w ∧ G κ B.w0 B.E0.fz
def WpI (P : Program) (N : Nat) (G : Ghost) (c : Code) (s : St) (κ : Option Nat) (R : Ex → St → Option Nat → Prop) : Prop :=
  ∀ (act : Act) (w : World) (Q : Exit → Act → World → Prop), HoldI N G s κ act w → (∀ x s' κ' act' w', R x s' κ' → HoldI N G s' κ' act' w' → Q (toExit x) act' w') → c.wpIn (wideR none) 0 P Q act w
def WpIs (P : Program) (N : Nat) (G : Ghost) (ops : Array Oper) (js : List Nat) (s : St) (κ : Option Nat) (R : St → Option Nat → Prop) : Prop :=
  ∀ (act : Act) (w : World) (Q : Exit → Act → World → Prop), HoldI N G s κ act w → (∀ s' κ' act' w', R s' κ' → HoldI N G s' κ' act' w' → Q .normal act' w') → wpOpsIn (wideR none) 0 P ops Q js act w
section
variable {P : Program} {N : Nat} {G : Ghost} {c a b : Code} {s m : St} {κ : Option Nat} {R R1 : Ex → St → Option Nat → Prop}
theorem wpi_of {R1 : Ex → St → Prop} (h : ∀ B : Start, B.N = N → B.nx0 = 0 → WpC P B c s R1) : WpI P N G c s κ fun x s' κ' => κ' = κ ∧ R1 x s' := by
  rintro act w Q ⟨B, h1, h2, h3, h4, h5, h6⟩ hQ
  have := h B h1 h2 act w Q h5 fun x s' act' w' k1 k2 => hQ x s' κ act' w' ⟨rfl, k1⟩ ⟨B, h1, h2, h3, h4, k2, h6⟩
  rwa [h3] at this
theorem wpi_imp (h : WpI P N G c s κ R1) (hR : ∀ x s' κ', R1 x s' κ' → R x s' κ') : WpI P N G c s κ R := fun act w Q hs hQ => h act w Q hs fun x s' κ' act' w' k1 k2 => hQ x s' κ' act' w' (hR _ _ _ k1) k2
theorem wpi_pre (hm : ∀ B : Start, B.nx0 = 0 → HoldLe B s m) (h : WpI P N G c m κ R) : WpI P N G c s κ R := fun act w Q ⟨B, h1, h2, h3, h4, h5, h6⟩ hQ => h act w Q ⟨B, h1, h2, h3, h4, hm B h2 act w h5, h6⟩ hQ
theorem wpi_seq (ha : WpI P N G a s κ R1) (hb : ∀ s1 κ1, R1 .norm s1 κ1 → WpI P N G b s1 κ1 R) (hx : ∀ x s1 κ1, x ≠ .norm → R1 x s1 κ1 → R x s1 κ1) : WpI P N G (.seq a b) s κ R := fun act w Q hs hQ => by
  refine wpIn_seq (ha act w _ hs fun x s1 κ1 act' w' k1 k2 => ?_)
  cases x with
  | norm => exact hb s1 κ1 k1 act' w' Q k2 hQ
  | exit id => exact hQ _ s1 κ1 act' w' (hx _ s1 κ1 (by simp) k1) k2
  | goto l => exact hQ _ s1 κ1 act' w' (hx _ s1 κ1 (by simp) k1) k2
  | ret => exact hQ _ s1 κ1 act' w' (hx _ s1 κ1 (by simp) k1) k2
theorem wpi_block {id : Nat} (hc : WpI P N G c s κ R1) (h1 : ∀ s1 κ1, R1 (.exit id) s1 κ1 → R .norm s1 κ1) (h2 : ∀ x s1 κ1, x ≠ .exit id → R1 x s1 κ1 → R x s1 κ1) : WpI P N G (.block id c) s κ R := fun act w Q hs hQ => by
  refine wpIn_block (hc act w _ hs fun x s1 κ1 act' w' k1 k2 => ?_)
  cases x with
  | norm => exact hQ _ s1 κ1 act' w' (h2 _ s1 κ1 (by simp) k1) k2
  | exit id' =>
    show (if id' = id then _ else _)
    by_cases e : id' = id
    · rw [if_pos e]; subst e; exact hQ _ s1 κ1 act' w' (h1 s1 κ1 k1) k2
    · rw [if_neg e]; exact hQ _ s1 κ1 act' w' (h2 _ s1 κ1 (by simpa using e) k1) k2
  | goto l => exact hQ _ s1 κ1 act' w' (h2 _ s1 κ1 (by simp) k1) k2
  | ret => exact hQ _ s1 κ1 act' w' (h2 _ s1 κ1 (by simp) k1) k2
theorem wpi_cond {x : Operand} {e l : Bool} (hx : boolOf (s.val x) = some (e, l)) (ha : e = true → WpI P N G a s κ R) (hb : e = false → WpI P N G b s κ R) : WpI P N G (.cond x a b) s κ R := fun act w Q hs hQ => by
  have hs' := hs
  obtain ⟨B, h1, h2, h3, h4, ⟨E, p, hf, _⟩, h6⟩ := hs
  cases e with
  | true => exact wpIn_cond_true (boolOf_rep hx (hf.val x)) (ha rfl act w Q hs' hQ)
  | false => exact wpIn_cond_false (boolOf_rep hx (hf.val x)) (hb rfl act w Q hs' hQ)
theorem wpi_loop {ι : Type} (Inv : ι → St) (K : ι → Option Nat) (J : ι → Prop) (m : ι → Nat)
    (h : ∀ k, J k → WpI P N G c (Inv k) (K k) fun x s κ => (x = .norm ∧ ∃ k', J k' ∧ m k' < m k ∧ s = Inv k' ∧ κ = K k') ∨ (x ≠ .norm ∧ R x s κ)) (k : ι) (hk : J k) : WpI P N G (.loop c) (Inv k) (K k) R := fun act w Q hs hQ => by
  refine wpIn_loop_rounds (m k + 1) ?_
  have key : ∀ (n : Nat) (k : ι) (act : Act) (w : World), m k < n → J k → HoldI N G (Inv k) (K k) act w → Code.roundsIn (wideR none) 0 P c Q n act w := by
    intro n
    induction n with
    | zero => intro k act w hm; exact absurd hm (Nat.not_lt_zero _)
    | succ n ih =>
      intro k act w hm hk hs
      rw [roundsIn_succ]
      refine h k hk act w _ hs fun x s1 κ1 act' w' k1 k2 => ?_
      rcases k1 with ⟨rfl, k', h1, h2, rfl, rfl⟩ | ⟨h1, h2⟩
      · exact ih k' act' w' (by omega) h1 k2
      · cases x with
        | norm => exact absurd rfl h1
        | exit id => exact hQ _ s1 κ1 act' w' h2 k2
        | goto l => exact hQ _ s1 κ1 act' w' h2 k2
        | ret => exact hQ _ s1 κ1 act' w' h2 k2
  exact key (m k + 1) k act w (by omega) hk hs
/-! Regions, operation by operation. -/
theorem wpi_region {id : Nat} {ops : Array Oper} (h : WpIs P N G ops (List.range' 0 ops.size) s κ fun s' κ' => R .norm s' κ') : WpI P N G (.region id ops false) s κ R := fun act w Q hs hQ => by
  refine wpIn_region ?_
  rw [List.range_eq_range']
  exact h act w Q hs fun s' κ' act' w' k1 k2 => hQ .norm s' κ' act' w' k1 k2
theorem oper_then {F : Fence} {n : Nat} {o : Oper} {a : Act} {w : World} {K X : Act → World → Prop} {Q : Exit → Act → World → Prop} (h : o.wpIn F n P a w K (Exit.then X Q)) : o.wpIn F n P a w K Q := by
  unfold Oper.wpIn at *
  refine ⟨h.1, ?_⟩
  have h := h.2
  generalize (o.semAt F.round a.eval).run P w = r at *
  cases r with
  | ok x w' =>
    cases x <;> simp only [Oper.uponIn] at h ⊢ <;>
      first
        | exact h
        | exact ⟨h.1, CallsIn.mono h.2 (fun e w'' he => by cases e <;> exact he)⟩
        | exact ⟨h.1, RoundIn.mono h.2 (fun e w'' he => by cases e <;> exact he)⟩
  | halt x w' => cases x <;> simp only [Oper.uponIn] at h ⊢ <;> exact h
theorem wpOps_app {F : Fence} {n : Nat} {ops : Array Oper} {Q : Exit → Act → World → Prop} (l2 : List Nat) : ∀ (l1 : List Nat) (a : Act) (w : World), wpOpsIn F n P ops (Exit.then (wpOpsIn F n P ops Q l2) Q) l1 a w → wpOpsIn F n P ops Q (l1 ++ l2) a w
  | [], _, _, h => h
  | i :: l1, a, w, h => by
    rw [List.cons_append, wpOpsIn_cons]
    rw [wpOpsIn_cons] at h
    unfold wpOpIn at h ⊢
    split at h
    · exact wpOps_app l2 l1 a w h
    · split at h
      · rename_i hw
        rw [if_pos hw]
        exact oper_then (Oper.wpIn_mono (fun a w => wpOps_app l2 l1 a w) h)
      · rename_i hw
        rw [if_neg hw]
        exact ⟨h.1, wpOps_app l2 l1 _ w h.2⟩
theorem wpis_app {ops : Array Oper} {l1 l2 : List Nat} {R1 R : St → Option Nat → Prop} (h1 : WpIs P N G ops l1 s κ R1) (h2 : ∀ s1 κ1, R1 s1 κ1 → WpIs P N G ops l2 s1 κ1 R) : WpIs P N G ops (l1 ++ l2) s κ R := fun act w Q hs hQ =>
  wpOps_app l2 l1 act w (h1 act w _ hs fun s1 κ1 act' w' k1 k2 => h2 s1 κ1 k1 act' w' Q k2 hQ)
theorem wpis_pre {ops : Array Oper} {js : List Nat} {R : St → Option Nat → Prop} (hm : ∀ B : Start, B.nx0 = 0 → HoldLe B s m) (h : WpIs P N G ops js m κ R) : WpIs P N G ops js s κ R := fun act w Q ⟨B, h1, h2, h3, h4, h5, h6⟩ hQ => h act w Q ⟨B, h1, h2, h3, h4, hm B h2 act w h5, h6⟩ hQ
theorem wpis_imp {ops : Array Oper} {js : List Nat} {R R' : St → Option Nat → Prop} (h : WpIs P N G ops js s κ R') (hR : ∀ s' κ', R' s' κ' → R s' κ') : WpIs P N G ops js s κ R := fun act w Q hs hQ => h act w Q hs fun s' κ' act' w' k1 k2 => hQ s' κ' act' w' (hR _ _ k1) k2
theorem wpis_nil {ops : Array Oper} {R : St → Option Nat → Prop} (h : R s κ) : WpIs P N G ops [] s κ R := fun act w Q hs hQ => hQ s κ act w h hs
/-- Some operations, by the evaluator. -/
theorem wpis_ev {cx : Cx} {n : Nat} (hc : CtrOk cx) (hfit : Fit cx.P) {ops : Array Oper} {l : List Oper} {i : Nat} (hl : ∀ j o, l[j]? = some o → ops[i + j]? = some o) (hdst : ∀ o, o ∈ l → DstIn N o) {R : St → Option Nat → Prop}
    (h : (opsE cx (evs cx n) ops false l i [] s).wp fun b => R b.2 κ) : WpIs cx.P N G ops (List.range' i l.length) s κ R := by
  rintro act w Q ⟨B, h1, h2, h3, h4, ⟨E, p, hf, hb, hwf, hd, hnx⟩, h6⟩ hQ
  obtain ⟨⟨x, m⟩, hh, hR⟩ := Tree.wp_hit h
  have hE := evs_ok hc hfit n
  obtain ⟨rfl, recs', s', hpath, hwk, hws, _⟩ := path_of hE.callsAll _ _ _ _ _ _ hh
  have gs := path_gs hE.callsAll hpath
  subst h1
  refine path_seq rfl hE.callsAll hE.calls hpath hl hdst E act w hwf (fun _ _ => trivial) (fun x h1 _ hx => absurd (hb x hx) (Nat.not_lt.2 h1)) p.sim hf rfl fun E' act' w' k1 k2 k3 => ?_
  have k3 := Pst.wkn k3 hwk (hws hwf)
  have hwm : Wf m := fun x hx => by
    cases hB : hget m.hp x with
    | none => exact absurd hB hx
    | some B1 =>
      obtain ⟨B2, q1, _⟩ := hwk.blk x B1 hB
      exact Nat.lt_of_lt_of_le (hws hwf x (by rw [q1]; simp)) hwk.nx
  have hnm : s.nx ≤ m.nx := Nat.le_trans gs.nx hwk.nx
  refine hQ m κ act' w' hR ⟨B, rfl, h2, h3, h4, ⟨E', ?_, k1.wkn hwk, fun y hy => ?_, hwm, ⟨fun b c hb => k3.le.fz b c (hd.z b c hb), ?_, fun hb => k2.trans (hd.nm hb)⟩, Nat.le_trans hnx hnm⟩, h6⟩
  · have p1 := p.more (wr' := List.range B.nx0 ++ m.wr) fun x hx => List.mem_append.2 (.inl hx)
    have k4 := k3.more (wr' := List.range B.nx0 ++ m.wr) fun x hx => List.mem_append.2 (.inr hx)
    exact (Pst.trans B.sim (fun _ _ => trivial) p1 k4 hnx hnm).cut fun x _ hx => List.mem_range.2 hx
  · rcases k3.dom y hy with h | h
    · exact Nat.lt_of_lt_of_le (hb y h) hnm
    · exact h.2
  · have e := hd.nm h4
    exact ⟨[], k2.trans e, List.nodup_nil, fun _ h => by cases h⟩
/-- One that is not wanted. -/
theorem wpis_no {ops : Array Oper} {i : Nat} {rest : List Nat} {o : Oper} (ho : ops[i]? = some o) (hw : Want ops o s false) (hdst : DstIn N o) {R : St → Option Nat → Prop} (h : WpIs P N G ops rest (opNo o s) κ R) : WpIs P N G ops (i :: rest) s κ R := by
  rintro act w Q ⟨B, h1, h2, h3, h4, ⟨E, p, hf, hb, hwf, hd, hnx⟩, h6⟩ hQ
  rw [wpOpsIn_cons]
  unfold wpOpIn
  rw [ho]
  simp only [want_ok hw (fun d w _ => hf.slot d), Bool.false_eq_true, if_false]
  refine ⟨fun _ _ => trivial, ?_⟩
  subst h1
  have e1 : (opNo o s).nx = s.nx := by unfold opNo; cases o.dst <;> rfl
  have e2 : (opNo o s).hp = s.hp := by unfold opNo; cases o.dst <;> rfl
  have e3 : (act.put o.dst undef).defers = act.defers := by cases o.dst <;> rfl
  refine h _ w Q ⟨B, rfl, h2, h3, h4, ⟨E, by rw [e1, e2]; exact p, hf.put hdst (.tup .nil), by rw [e1]; exact hb, fun x hx => by rw [e1]; exact hwf x (by rw [← e2]; exact hx), ⟨hd.z, by rw [e3]; exact hd.marks, fun hb => e3.trans (hd.nm hb)⟩, by rw [e1]; exact hnx⟩, h6⟩ hQ
variable {l : Nat} {xs : List (List Int)}
theorem reps_ints {E : Env} : ∀ {x : List Int} {vs : List Value}, Reps E (x.map fun z => .v (.int .i64 z)) vs → vs = x.map (Value.int .i64)
  | [], _, h => by cases h; rfl
  | z :: x, _, h => by
    cases h with | cons h t =>
    cases h
    rw [reps_ints t]; rfl
/-- What is handed over. -/
theorem wpis_yield (hG : GhostOk G) (hY : YieldsTo P l G xs) {ops : Array Oper} {i : Nat} {rest : List Nat} {o : Oper} (ho : ops[i]? = some o) {c : Call} (hop : o.op = .call c) {fo : Operand} (hc : c.callee = .value fo) (hhp : s.hp = []) (hnx0 : s.nx = 0) (hfo : s.val fo = .fn (.yield l) [] [])
    {k : Nat} {x : List Int} (hx : xs[k]? = some x) (hargs : c.args.toList.map s.val = x.map fun z => .v (.int .i64 z)) (hw : Want ops o s true) (hdst : DstIn N o) {R : St → Option Nat → Prop}
    (h1 : WpIs P N G ops rest (s.put o.dst (.lit (.bool true))) (some (k + 1)) R) (h2 : WpIs P N G ops rest (s.put o.dst (.lit (.bool false))) none R) : WpIs P N G ops (i :: rest) s (some k) R := by
  rintro act w Q ⟨B, e1, e2, e3, e4, ⟨E, p, hf, hb, hwf, hd, hnx⟩, h6⟩ hQ
  rw [wpOpsIn_cons]
  unfold wpOpIn
  rw [ho]
  simp only [want_ok hw (fun d w _ => hf.slot d), if_true]
  have hq : Quiet B.w0 w := ⟨fun b hb' => (p.frame b hb' fun x hx => by rw [e2] at hx; cases hx).1, p.size, p.os, p.tape, p.output⟩
  have hg : G (some k) w E.fz := hG.on _ _ _ _ _ h6 hq p.le.fz (fun b hb' => (p.frame b hb' fun x hx => by rw [e2] at hx; cases hx).2) p.sim.fz
  have hnd : ∀ x, ¬ E.dom x := fun x hx => by have := hb x hx; rw [hnx0] at this; exact absurd this (Nat.not_lt_zero _)
  obtain ⟨fn, tmps, assign, body, hy, hround⟩ := hY k x w E.fz hx hg
  have hfv : act.eval fo = .func (.yield l) #[] #[] := by
    have hv := hf.val fo
    rw [hfo] at hv
    generalize act.eval fo = u at hv
    cases hv with
    | @fn _ _ _ fv cv q1 q2 => cases fv with | mk a => cases cv with | mk b => cases q1; cases q2; rfl
  have hav : c.args.map act.eval = (x.map (Value.int .i64)).toArray := by
    have hr := args_rep (E := E) (st := s) (act := act) hop (fun x _ => hf.val x)
    rw [hargs] at hr
    apply Array.ext'
    rw [List.toList_toArray]
    exact reps_ints hr
  have hex : execOp act.eval o = Instr.yield l (x.map (Value.int .i64)).toArray := by
    unfold execOp
    rw [hop]
    simp only [resolve, hc, hfv, Deferred.ofValue]
    rw [← hav]
    simp [invoke, go_sem]
  refine ⟨fun _ _ => trivial, ?_⟩
  rw [Oper.semAt_eq _ _ _ (nd_call hop), hex, hy, Oper.uponIn_round]
  refine ⟨fun h => by simp [wideR, Fence.wide] at h, RoundIn.mono hround ?_⟩
  subst e1
  have go : ∀ (bb : Bool) κ' w', G κ' w' E.fz → HoldI B.N G (s.put o.dst (.lit (.bool bb))) κ' (act.put o.dst (.bool bb)) w' := fun bb κ' w' hg' => by
    have hfz : FzOk E w' := hG.fz _ _ _ hg'
    have f1 : (s.put o.dst (.lit (.bool bb))).nx = 0 := by cases o.dst <;> exact hnx0
    have f2 : (s.put o.dst (.lit (.bool bb))).hp = [] := by cases o.dst <;> exact hhp
    have f3 : (act.put o.dst (.bool bb)).defers = act.defers := by cases o.dst <;> rfl
    refine ⟨{ begins B.N E w' hnd hfz with nm := true }, rfl, rfl, rfl, rfl, ⟨E, ?_, hf.put hdst (.lit _ rfl), fun x hx => absurd hx (hnd x), fun x hx => ?_, Ext.none (fun _ _ h => nomatch h) (f3.trans (hd.nm e4)), Nat.zero_le _⟩, hg'⟩
    · rw [f1, f2]; exact Pst.refl (Start.sim (begins B.N E w' hnd hfz))
    · rw [f2] at hx; exact absurd rfl hx
  rintro e w' (⟨rfl, hg'⟩ | ⟨rfl, hg'⟩)
  · exact h1 _ w' Q (go true _ w' hg') hQ
  · exact h2 _ w' Q (go false _ w' hg') hQ
/-- A function that is ranged over. -/
theorem seq_of_wpi (hfit : Fit P) {f : Nat} {fn : Func} {c : Code} (hfn : P.funcs[f]? = some fn) (hb : fn.body = some c) (hres : fn.results = #[]) {args : List AV} (hle : args.length + 1 ≤ fn.ntmps)
    (h : ∀ (l : Nat) (G : Ghost), GhostOk G → YieldsTo P l G xs → WpI P fn.ntmps G c (entry (.fn (.yield l) [] [] :: args)) (some 0) fun x _ κ => (x = .norm ∨ x = .ret) ∧ (κ = some xs.length ∨ κ = none)) : SeqOk P f args xs := by
  intro E w vals l G hd hf hargs hG hY hg
  refine callsIn_of_wp hfn hb trivial ?_
  have hr : Reps E (.fn (.yield l) [] [] :: args) (#[Value.func (.yield l) #[] #[]] ++ vals).toList := by
    rw [Array.toList_append]
    exact .cons (.fn .nil .nil) hargs
  refine h l G hG hY _ w _ ⟨{ begins fn.ntmps E w hd hf with nm := true }, rfl, rfl, rfl, rfl, ⟨E, Pst.refl (Start.sim (begins fn.ntmps E w hd hf)), params_fr (st := .nil) hr hle, fun x hx => absurd hx (hd x), fun x hx => absurd rfl hx, Ext.none (fun _ _ h => nomatch h) rfl, Nat.le_refl _⟩, hg⟩ ?_
  rintro x s κ act' w' ⟨hx, hκ⟩ ⟨B, e1, e2, e3, e4, ⟨E', p, hf', hb', hwf, hd', hnx⟩, h6⟩
  have hq : Quiet B.w0 w' := ⟨fun b hb' => (p.frame b hb' fun x hx => by rw [e2] at hx; cases hx).1, p.size, p.os, p.tape, p.output⟩
  have hg' : G κ w' E'.fz := hG.on _ _ _ _ _ h6 hq p.le.fz (fun b hb' => (p.frame b hb' fun x hx => by rw [e2] at hx; cases hx).2) p.sim.fz
  have hpost : act'.defers = [] ∧ ∃ v, (results fn act'.tmps).run P w' = .ok v w' ∧ ∃ v', Ending.returned v = .returned v' ∧ ∃ Z, G (some xs.length) w' Z ∨ G none w' Z := by
    refine ⟨hd'.nm e4, _, results_run (vs := []) (by rw [hres]; simp), _, rfl, E'.fz, ?_⟩
    rcases hκ with rfl | rfl
    · exact .inl hg'
    · exact .inr hg'
  rcases hx with rfl | rfl
  · exact hpost
  · exact hpost
end
end Go.Proofs.YtamjnhpkmhbkcaaGreatDoor

/-
  PART: functions that are ranged over: stages of their walk.
-/
namespace Go.Proofs.YtamjnhpkmhbkcaaGreatDoor
open Go.RowKit
section
variable {P : Program} {N : Nat} {G : Ghost} {c a b : Code} {s m : St} {κ : Option Nat} {R R1 : Ex → St → Option Nat → Prop}
theorem wpi_post (h : WpI P N G c s κ R1) (hR : ∀ x s' κ', R1 x s' κ' → ∃ m, (∀ B : Start, B.nx0 = 0 → HoldLe B s' m) ∧ R x m κ') : WpI P N G c s κ R := fun act w Q hs hQ => h act w Q hs fun x s' κ' act' w' k1 ⟨B, h1, h2, h3, h4, h5, h6⟩ =>
  let ⟨m, q1, q2⟩ := hR x s' κ' k1; hQ x m κ' act' w' q2 ⟨B, h1, h2, h3, h4, q1 B h2 act' w' h5, h6⟩
theorem wpis_post {ops : Array Oper} {js : List Nat} {R R1 : St → Option Nat → Prop} (h : WpIs P N G ops js s κ R1) (hR : ∀ s' κ', R1 s' κ' → ∃ m, (∀ B : Start, B.nx0 = 0 → HoldLe B s' m) ∧ R m κ') : WpIs P N G ops js s κ R := fun act w Q hs hQ => h act w Q hs fun s' κ' act' w' k1 ⟨B, h1, h2, h3, h4, h5, h6⟩ =>
  let ⟨m, q1, q2⟩ := hR s' κ' k1; hQ m κ' act' w' q2 ⟨B, h1, h2, h3, h4, q1 B h2 act' w' h5, h6⟩
/-- An end, short. -/
def lfI (ds : List (Nat × Bool)) (gb : Bool) (b : Ex × St) : Ex × Option St := (b.1, canon 0 ds gb b.2)
theorem wpi_evs {cx : Cx} {n : Nat} (hc : CtrOk cx) (hfit : Fit cx.P) : ∀ (l : List Code) (s : St), l ≠ [] → (l.all fun a => codeOk N a) = true →
    (codeE cx (evs cx n) (joins l) s).wp (fun b => match b.1 with | .norm => WpI cx.P N G c b.2 κ R | x => R x b.2 κ) → WpI cx.P N G (seqs l c) s κ R
  | [], _, h, _, _ => absurd rfl h
  | [a], s, _, hok, h => by
    simp only [List.all_cons, List.all_nil, Bool.and_true] at hok
    refine wpi_seq (wpi_of (R1 := fun x s' => match x with | .norm => WpI cx.P N G c s' κ R | x => R x s' κ) fun B hN _ => wpc_ev hc hfit (by rw [hN]; exact hok) h) (fun s1 κ1 h1 => by obtain ⟨rfl, h1⟩ := h1; exact h1) fun x s1 κ1 hx h1 => ?_
    obtain ⟨rfl, h1⟩ := h1
    cases x <;> first | exact absurd rfl hx | exact h1
  | a :: b :: l, s, _, hok, h => by
    simp only [List.all_cons, Bool.and_eq_true] at hok
    have h' := Tree.wp_bind (show ((codeE cx (evs cx n) a s).bind fun (e, s) => match e with | .norm => codeE cx (evs cx n) (joins (b :: l)) s | e => .ret (e, s)).wp _ from h)
    refine wpi_seq (R1 := fun x s' κ' => κ' = κ ∧ match x with | .norm => WpI cx.P N G (seqs (b :: l) c) s' κ R | x => R x s' κ) (wpi_of fun B hN _ => wpc_ev hc hfit (by rw [hN]; exact hok.1) (Tree.wp_imp (fun q hq => ?_) h')) (fun s1 κ1 h1 => by obtain ⟨rfl, h1⟩ := h1; exact h1) fun x s1 κ1 hx h1 => ?_
    · obtain ⟨x, s'⟩ := q
      cases x with
      | norm => exact wpi_evs hc hfit (b :: l) s' (by simp) (by simp [hok.2]) hq
      | exit id => exact hq
      | goto l => exact hq
      | ret => exact hq
    · obtain ⟨rfl, h1⟩ := h1
      cases x <;> first | exact absurd rfl hx | exact h1
/-- Some pieces by the evaluator, ahead of more. -/
theorem wpi_stages {cx : Cx} {n : Nat} (hc : CtrOk cx) (hfit : Fit cx.P) {l : List Code} {ds : List (Nat × Bool)} {gb : Bool} (hl : l ≠ []) (hok : (l.all fun a => codeOk N a) = true)
    (h : ((codeE cx (evs cx n) (joins l) s).map (lfI ds gb)).wp fun q => ∃ m, q.2 = some m ∧ match q.1 with | .norm => WpI cx.P N G c m κ R | x => R x m κ) : WpI cx.P N G (seqs l c) s κ R := by
  refine wpi_post (R1 := fun x s' κ' => ∃ m, (∀ B : Start, B.nx0 = 0 → HoldLe B s' m) ∧ R x m κ') (wpi_evs hc hfit l s hl hok (Tree.wp_imp (fun q hq => ?_) (Tree.wp_map h))) fun x s' κ' h => h
  obtain ⟨x, s'⟩ := q
  obtain ⟨m, h1, h2⟩ := hq
  have hle : ∀ B : Start, B.nx0 = 0 → HoldLe B s' m := fun B hB => canon_ok (by rw [hB]; exact h1)
  cases x with
  | norm => exact wpi_pre hle (wpi_imp h2 fun x s1 κ1 h1 => ⟨s1, fun _ _ _ _ h => h, h1⟩)
  | exit id => exact ⟨m, hle, h2⟩
  | goto l => exact ⟨m, hle, h2⟩
  | ret => exact ⟨m, hle, h2⟩
/-- The last pieces. -/
theorem wpi_stage {cx : Cx} {n : Nat} (hc : CtrOk cx) (hfit : Fit cx.P) {ds : List (Nat × Bool)} {gb : Bool} (hok : codeOk N c = true)
    (h : ((codeE cx (evs cx n) c s).map (lfI ds gb)).wp fun q => ∃ m, q.2 = some m ∧ R q.1 m κ) : WpI cx.P N G c s κ R := by
  refine wpi_post (wpi_of (R1 := fun x s' => ∃ m, (∀ B : Start, B.nx0 = 0 → HoldLe B s' m) ∧ R x m κ) fun B hN _ => wpc_ev hc hfit (by rw [hN]; exact hok) (Tree.wp_imp (fun q hq => ?_) (Tree.wp_map h))) fun x s' κ' h => by
    obtain ⟨rfl, m, h1, h2⟩ := h; exact ⟨m, h1, h2⟩
  obtain ⟨m, h1, h2⟩ := hq
  exact ⟨m, fun B hB => canon_ok (by rw [hB]; exact h1), h2⟩
/-- Some operations by the evaluator. -/
theorem wpis_stage {cx : Cx} {n : Nat} (hc : CtrOk cx) (hfit : Fit cx.P) {ops : Array Oper} {l : List Oper} {i : Nat} {ds : List (Nat × Bool)} {gb : Bool} (hl : ops.toList.drop i = l ++ ops.toList.drop (i + l.length)) (hdst : (l.all fun o => match o.dst with | some d => Nat.blt d N | none => true) = true) {R : St → Option Nat → Prop}
    (h : ((opsE cx (evs cx n) ops false l i [] s).map (lfI ds gb)).wp fun q => ∃ m, q.2 = some m ∧ R m κ) : WpIs cx.P N G ops (List.range' i l.length) s κ R := by
  refine wpis_post (R1 := fun s' κ' => ∃ m, (∀ B : Start, B.nx0 = 0 → HoldLe B s' m) ∧ R m κ') (wpis_ev hc hfit (fun j o hj => ?_) (fun o ho d hd => ?_) (Tree.wp_imp (fun q hq => ?_) (Tree.wp_map h))) fun s' κ' h => h
  · have h1 : (ops.toList.drop i)[j]? = some o := by
      rw [hl, List.getElem?_append_left (List.getElem?_eq_some_iff.1 hj).1]; exact hj
    rw [List.getElem?_drop] at h1
    simpa using h1
  · have := List.all_eq_true.1 hdst o ho
    rw [hd] at this
    simpa [Nat.blt_eq] using this
  · obtain ⟨m, h1, h2⟩ := hq
    exact ⟨m, fun B hB => canon_ok (by rw [hB]; exact h1), h2⟩
def opsOf : Code → Array Oper
  | .region _ ops _ => ops
  | _ => #[]
/-- An operation that calls the function in a slot. -/
def tmpIs (x : Operand) (t : Nat) : Bool := match x with
  | .tmp u => Nat.beq u t
  | _ => false
def tmpsAre : List Operand → List Nat → Bool
  | [], [] => true
  | x :: l, t :: m => tmpIs x t && tmpsAre l m
  | _, _ => false
def isYield (ops : Array Oper) (i d f : Nat) (as : List Nat) (g : Option (Nat × Bool)) : Bool := match ops[i]? with
  | some o => match o.op with
    | .call c => (match o.dst with | some e => Nat.beq e d | none => false) && (match c.callee with | .value x => tmpIs x f | _ => false) && tmpsAre c.args.toList as &&
      (match o.guard, g with | none, none => true | some _, some (t, b) => (match guardOf ops o with | some (u, b') => Nat.beq u t && b' == b | none => false) | _, _ => false)
    | _ => false
  | none => false
theorem tmpIs_eq {x : Operand} {t : Nat} (h : tmpIs x t = true) : x = .tmp t := by
  unfold tmpIs at h
  split at h
  · rw [Nat.eq_of_beq_eq_true h]
  · cases h
theorem tmpsAre_eq : ∀ {l : List Operand} {m : List Nat}, tmpsAre l m = true → l = m.map .tmp
  | [], [], _ => rfl
  | [], _ :: _, h => by cases h
  | _ :: _, [], h => by cases h
  | x :: l, t :: m, h => by
    simp only [tmpsAre, Bool.and_eq_true] at h
    rw [tmpIs_eq h.1, tmpsAre_eq h.2]; rfl
/-- What is handed over, told by the operation itself. -/
theorem wpis_y {l : Nat} {xs : List (List Int)} (hG : GhostOk G) (hY : YieldsTo P l G xs) {ops : Array Oper} {i d f : Nat} {as : List Nat} {g : Option (Nat × Bool)} {rest : List Nat} (hop : isYield ops i d f as g = true) (hdN : d < N) (hhp : s.hp = []) (hnx0 : s.nx = 0) (hf : look s.sl f = .fn (.yield l) [] [])
    {k : Nat} {x : List Int} (hx : xs[k]? = some x) (ha : as.map (look s.sl) = x.map fun z => .v (.int .i64 z)) (hg : ∀ p, g = some p → look s.sl p.1 = .lit (.bool p.2)) {R : St → Option Nat → Prop}
    (h1 : WpIs P N G ops rest (s.put (some d) (.lit (.bool true))) (some (k + 1)) R) (h2 : WpIs P N G ops rest (s.put (some d) (.lit (.bool false))) none R) : WpIs P N G ops (i :: rest) s (some k) R := by
  unfold isYield at hop
  split at hop
  · rename_i o ho
    split at hop
    · rename_i c hc
      simp only [Bool.and_eq_true] at hop
      obtain ⟨⟨⟨q1, q2⟩, q3⟩, q4⟩ := hop
      have hd : o.dst = some d := by
        split at q1
        · rename_i e he; rw [he, Nat.eq_of_beq_eq_true q1]
        · cases q1
      obtain ⟨fo, hfo, hft⟩ : ∃ fo, c.callee = .value fo ∧ fo = .tmp f := by
        split at q2
        · rename_i x hx; exact ⟨x, hx, tmpIs_eq q2⟩
        · cases q2
      have hargs : c.args.toList.map s.val = x.map fun z => .v (.int .i64 z) := by
        rw [tmpsAre_eq q3, List.map_map]; exact ha
      have hw : Want ops o s true := by
        cases hgd : o.guard with
        | none => exact .inl ⟨hgd, rfl⟩
        | some og =>
          cases g with
          | none => rw [hgd] at q4; cases q4
          | some tb =>
            obtain ⟨t, b⟩ := tb
            rw [hgd] at q4
            simp only [] at q4
            split at q4
            · rename_i u b' hgo
              simp only [Bool.and_eq_true, beq_iff_eq] at q4
              obtain ⟨q5, rfl⟩ := q4
              have q5 := Nat.eq_of_beq_eq_true q5
              subst q5
              exact .inr ⟨u, b', hgo, .inl ⟨b', true, by rw [hg (u, b') rfl]; rfl, by simp⟩⟩
            · cases q4
      refine wpis_yield hG hY ho hc hfo hhp hnx0 (by rw [hft]; exact hf) hx hargs hw (fun d' h => by rw [hd] at h; cases h; exact hdN) (by rw [hd]; exact h1) (by rw [hd]; exact h2)
    · cases hop
  · cases hop
end
end Go.Proofs.YtamjnhpkmhbkcaaGreatDoor

/-
  PART: a scope that is left by a jump to one of its labels, once.
-/
namespace Go.Proofs.YtamjnhpkmhbkcaaGreatDoor
open Go.RowKit
theorem wpc_scope {P : Program} {B : Start} {c : Code} {s : St} {R R1 R2 : Ex → St → Prop} (h : WpC P B c s R1) (hg : ∀ l s1, R1 (.goto l) s1 → ∃ rest, findLabel c l = some rest ∧ WpC P B rest s1 R2)
    (h1 : ∀ x s1, (∀ l, x ≠ .goto l) → R1 x s1 → R x s1) (h2 : ∀ x s1, R2 x s1 → (∀ l, x ≠ .goto l) ∧ R x s1) : WpC P B (.scope c) s R := fun act w Q hs hQ => by
  refine wpIn_scope_jumps 2 ?_
  refine h act w _ hs fun x s1 act' w' k1 k2 => ?_
  cases x with
  | norm => exact hQ .norm s1 act' w' (h1 .norm s1 (fun l h => by cases h) k1) k2
  | exit id => exact hQ (.exit id) s1 act' w' (h1 (.exit id) s1 (fun l h => by cases h) k1) k2
  | ret => exact hQ .ret s1 act' w' (h1 .ret s1 (fun l h => by cases h) k1) k2
  | goto l =>
    obtain ⟨rest, q1, q2⟩ := hg l s1 k1
    refine .inl ⟨rest, q1, ?_⟩
    refine q2 act' w' _ k2 fun x s2 act2 w2 k3 k4 => ?_
    obtain ⟨q3, q4⟩ := h2 x s2 k3
    cases x with
    | norm => exact hQ .norm s2 act2 w2 q4 k4
    | exit id => exact hQ (.exit id) s2 act2 w2 q4 k4
    | ret => exact hQ .ret s2 act2 w2 q4 k4
    | goto l => exact absurd rfl (q3 l)
theorem hold_noSl {B : Start} (s : St) : HoldLe B s s.noSl := fun act w ⟨E, p, hf, hb, hwf, hd, hn⟩ => ⟨E, p, ⟨hf.size, fun _ => .unk _⟩, hb, hwf, hd, hn⟩
end Go.Proofs.YtamjnhpkmhbkcaaGreatDoor

/-
  PART: contracts of functions that change blocks of their caller: told once of few blocks, numbered from 0 on; so for any caller.
-/
namespace Go.Proofs.YtamjnhpkmhbkcaaGreatDoor
open Go.RowKit
def numb : Nat → List Blk → List (Nat × Option Blk)
  | _, [] => []
  | i, b :: l => (i, some b) :: numb (i + 1) l
theorem numb_get : ∀ (l : List Blk) (i x : Nat), hget (numb i l) x = if i ≤ x then l[x - i]? else none
  | [], i, x => by simp [numb, hget]
  | b :: l, i, x => by
    unfold numb
    rw [hget_cons, numb_get l (i + 1) x]
    by_cases h : i = x
    · subst h; simp
    · rw [if_neg h]
      by_cases h2 : i + 1 ≤ x
      · rw [if_pos h2, if_pos (by omega)]
        have : x - i = (x - (i + 1)) + 1 := by omega
        rw [this, List.getElem?_cons_succ]
      · rw [if_neg h2, if_neg (by omega)]
def smallS (bs : List Blk) : St := { sl := [], hp := numb 0 bs, nx := bs.length, rd := [], wr := [], ws := [], wb := [], wc := [] }
/-- Of these blocks and arguments: what it answers; the blocks behind it. -/
def MutOk (P : Program) (f : Nat) (args : List AV) (bs : List Blk) (a : AV) (H1 : List (Nat × Option Blk)) (n1 : Nat) (wr : List Nat) : Prop :=
  ∀ (r : Option Nat) (E : Env) (w : World) (vals : Array Value) (K : Value → World → Prop), (∀ x, E.dom x → x < bs.length) → Sim (fun _ => True) E (hget (numb 0 bs)) w → Reps E args vals.toList →
    (∀ E' v w', Rep E' a v → Pst (fun _ => True) E E' (hget (numb 0 bs)) (hget H1) bs.length n1 wr w w' → K v w') →
    (∃ v, (callFunc f vals).run P w = .ok (.value v) w ∧ K v w) ∨ ((callFunc f vals).run P w = .ok (.enter f vals) w ∧ CallsIn (wideR r) 0 P f vals w fun e w' => ∃ v, e = .returned v ∧ K v w')
section
variable {P : Program} {f : Nat} {args : List AV} {bs : List Blk} {a : AV}
theorem wf_small : Wf (smallS bs) := fun x hx => by
  have h : hget (numb 0 bs) x ≠ none := hx
  rw [numb_get] at h
  rcases Nat.lt_or_ge x bs.length with h1 | h1
  · exact h1
  · exact absurd (by rw [if_pos (Nat.zero_le _)]; exact List.getElem?_eq_none (by omega)) h
theorem mut_of_callok {s1 : St} (h : CallOk P f args (smallS bs) a s1) : MutOk P f args bs a s1.hp s1.nx s1.wr := fun r E w vals K hd hS hargs hK =>
  h.run r (fun _ => True) E w vals K wf_small (fun _ _ => trivial) (fun x h1 _ hx => Nat.not_le_of_lt (hd x hx) h1) hS hargs hK
/-! Names turned. -/
def renG (g : Nat → Nat) : Nat → AV → AV
  | 0, _ => .unk
  | d + 1, a => match a with
    | .lit v => .lit v
    | .v v => .v v
    | .agg l => .agg (l.map (renG g d))
    | .tup l => .tup (l.map (renG g d))
    | .fz cs off => .fz (cs.map (renG g d)) off
    | .fn f a b => .fn f (a.map (renG g d)) (b.map (renG g d))
    | .any φ => .any φ
    | .sl n k get nl full => .sl n k (fun i => (get i).map (renG g d)) nl full
    | .ptr x off => .ptr (g x) off
    | .pti x base i str n off => .pti (g x) base i str n off
    | .pe x i k off il => .pe (g x) i k off il
    | .own x n k nl => .own (g x) n k nl
    | .slv x off n k => .slv (g x) off n k
    | .mp x => .mp (g x)
    | .unk => .unk
def renGB (g : Nat → Nat) : Blk → Blk
  | .map sh zv get has nl => .map sh zv get has nl
  | .fix ty cs => .fix ty (cs.map (renG g 6))
  | .arr ty n k get => .arr ty n k (fun i => (get i).map (renG g 6))
theorem renG_ok {E E' : Env} {g : Nat → Nat} (hg : ∀ x, E.dom x → E'.dom (g x) ∧ E'.ρ (g x) = E.ρ x ∧ E'.vir (g x) = E.vir x ∧ E'.cp (g x) = E.cp x ∧ E'.ln (g x) = E.ln x) (hf : ∀ b c, E.fz b = some c → E'.fz b = some c) :
    ∀ (d : Nat) (a : AV) (v : Value), Rep E a v → Rep E' (renG g d a) v
  | 0, a, v, _ => .unk v
  | d + 1, a, v, h => by
    have ihs : ∀ {l : List AV} {vs : List Value}, Reps E l vs → Reps E' (l.map (renG g d)) vs := fun h => h.mapR fun a _ v => renG_ok hg hf d a v
    unfold renG
    match h with
    | .lit v h => exact .lit v h
    | .v v h => exact .v v h
    | .agg h ho => exact .agg (ihs h) ho
    | .tup h => exact .tup (ihs h)
    | .fz h hs hr ho => exact .fz (hf _ _ h) (by rw [List.length_map]; exact hs) (by rw [List.length_map]; exact ihs hr) (by rw [List.length_map]; exact ho)
    | .slNil hn => exact .slNil hn
    | .slEmp hn hf => exact .slEmp hn hf
    | .sl h hs hq hc hr ho => exact .sl (hf _ _ h) hs hq hc (fun i hi => ihs (hr i hi)) ho
    | .fn h h' => exact .fn (ihs h) (ihs h')
    | .any h ho => exact .any (fun fz' hq => h fz' fun b c hb => hq b c (hf b c hb)) ho
    | .unk v => exact .unk _
    | @Rep.ptr _ x off hd => obtain ⟨h1, h2, _⟩ := hg x hd; rw [← h2]; exact .ptr h1
    | @Rep.pti _ x base str n off i hd h0 h1 => obtain ⟨q1, q2, _⟩ := hg x hd; rw [← q2]; exact .pti q1 h0 h1
    | @Rep.pe _ x i k off il hd => obtain ⟨q1, q2, _⟩ := hg x hd; rw [← q2]; exact .pe q1
    | @Rep.own _ x n k nl hd hv hn => obtain ⟨q1, q2, q3, q4, q5⟩ := hg x hd; rw [← q2, ← q4]; exact .own q1 (q3.trans hv) (hn.trans q5.symm)
    | @Rep.ownNil _ x n k nl hd hv hn hl => obtain ⟨q1, q2, q3, q4, q5⟩ := hg x hd; exact .ownNil q1 (q3.trans hv) hn (hl.trans q5.symm)
    | @Rep.slv _ x off n k _ hd => obtain ⟨q1, q2, _⟩ := hg x hd; rw [← q2]; exact .slv q1
    | @Rep.mp _ x hd => obtain ⟨q1, q2, _⟩ := hg x hd; rw [← q2]; exact .mp q1
theorem renGB_ok {E E' : Env} {g : Nat → Nat} (hg : ∀ x, E.dom x → E'.dom (g x) ∧ E'.ρ (g x) = E.ρ x ∧ E'.vir (g x) = E.vir x ∧ E'.cp (g x) = E.cp x ∧ E'.ln (g x) = E.ln x) (hf : ∀ b c, E.fz b = some c → E'.fz b = some c)
    {x : Nat} (hx : E.dom x) {B : Blk} {o : Option Obj} (h : BlkR E x B o) : BlkR E' (g x) (renGB g B) o := by
  obtain ⟨_, _, q3, q4, q5⟩ := hg x hx
  cases B with
  | fix ty cs =>
    obtain ⟨hv, c, h1, h2, h3⟩ := h
    exact ⟨q3.trans hv, c, h1, h2.mapR fun a _ v => renG_ok hg hf 6 a v, h3⟩
  | arr ty n k get =>
    obtain ⟨hn, h⟩ := h
    refine ⟨hn.trans q5.symm, ?_⟩
    rcases h with ⟨hv, h0⟩ | ⟨hv, c, fr, h1, hu, h2, h3, h4, h5⟩
    · exact .inl ⟨q3.trans hv, h0⟩
    · exact .inr ⟨q3.trans hv, c, fr, h1, hu, by rw [q4]; exact h2, by rw [q4]; exact h3, h4, fun i hi => (h5 i hi).mapR fun a _ v => renG_ok hg hf 6 a v⟩
  | map sh zv get has nl =>
    obtain ⟨hv, es, clock, h1, h2⟩ := h
    exact ⟨q3.trans hv, es, clock, h1, h2⟩
/-- The name that a caller has for a block. -/
def bigN (L : List Nat) (nx i : Nat) : Nat := match Nat.blt i L.length with
  | true => L.getD i 0
  | false => nx + (i - L.length)
/-- The caller's blocks that have turned, and those that are new: its names, and ours. -/
def pairs (L : List Nat) (nx n1 : Nat) (wr : List Nat) : List (Nat × Nat) :=
  ((List.range (n1 - L.length)).map fun j => (nx + j, L.length + j)) ++ (wr.filter fun i => Nat.blt i L.length).map fun i => (L.getD i 0, i)
def lifted (L : List Nat) (st : St) (H1 : List (Nat × Option Blk)) (n1 : Nat) (wr : List Nat) : St :=
  let ps := pairs L st.nx n1 wr
  { st with hp := ps.map (fun p => (p.1, (hget H1 p.2).map (renGB (bigN L st.nx)))) ++ st.hp, nx := st.nx + (n1 - L.length), rd := uni L (uni (ps.map (·.1)) st.rd), wr := uni (ps.map (·.1)) st.wr, wb := uni (ps.map (·.1)) st.wb, wc := ps.map (fun p => (p.1, none)) ++ st.wc }
theorem hget_app {g : Nat → Option Blk} {hp : List (Nat × Option Blk)} {y : Nat} : ∀ (ps : List (Nat × Nat)), (∃ p, p ∈ ps ∧ p.1 = y ∧ hget (ps.map (fun p => (p.1, g p.2)) ++ hp) y = g p.2) ∨ ((∀ p, p ∈ ps → p.1 ≠ y) ∧ hget (ps.map (fun p => (p.1, g p.2)) ++ hp) y = hget hp y)
  | [] => .inr ⟨fun _ h => absurd h List.not_mem_nil, rfl⟩
  | p :: ps => by
    rw [List.map_cons, List.cons_append, hget_cons]
    by_cases h : p.1 = y
    · rw [if_pos h]; exact .inl ⟨p, List.mem_cons_self .., h, rfl⟩
    · rw [if_neg h]
      rcases hget_app ps with ⟨q, h1, h2, h3⟩ | ⟨h1, h2⟩
      · exact .inl ⟨q, List.mem_cons_of_mem _ h1, h2, h3⟩
      · exact .inr ⟨fun q hq => (List.mem_cons.1 hq).elim (fun e => e ▸ h) (h1 q), h2⟩
theorem pairs_mem {L : List Nat} {nx n1 : Nat} {wr : List Nat} {p : Nat × Nat} : p ∈ pairs L nx n1 wr ↔ (∃ j, j < n1 - L.length ∧ p = (nx + j, L.length + j)) ∨ (∃ i, i ∈ wr ∧ i < L.length ∧ p = (L.getD i 0, i)) := by
  unfold pairs
  rw [List.mem_append]
  constructor
  · rintro (h | h)
    · obtain ⟨j, h1, rfl⟩ := List.mem_map.1 h
      exact .inl ⟨j, List.mem_range.1 h1, rfl⟩
    · obtain ⟨i, h1, rfl⟩ := List.mem_map.1 h
      obtain ⟨h2, h3⟩ := List.mem_filter.1 h1
      exact .inr ⟨i, h2, by simpa [Nat.blt_eq] using h3, rfl⟩
  · rintro (⟨j, h1, rfl⟩ | ⟨i, h1, h2, rfl⟩)
    · exact .inl (List.mem_map.2 ⟨j, List.mem_range.2 h1, rfl⟩)
    · exact .inr (List.mem_map.2 ⟨i, List.mem_filter.2 ⟨h1, by simpa [Nat.blt_eq] using h2⟩, rfl⟩)
theorem bigN_lo {L : List Nat} {nx i : Nat} (h : i < L.length) : bigN L nx i = L.getD i 0 := by
  have : Nat.blt i L.length = true := by simpa [Nat.blt_eq] using h
  unfold bigN; rw [this]
theorem bigN_hi {L : List Nat} {nx i : Nat} (h : L.length ≤ i) : bigN L nx i = nx + (i - L.length) := by
  have : Nat.blt i L.length = false := by
    cases hq : Nat.blt i L.length with
    | false => rfl
    | true => rw [Nat.blt_eq] at hq; omega
  unfold bigN; rw [this]
theorem oldN_zero {L : List Nat} {y : Nat} : oldN 0 L y = L.getD y 0 := by
  have : Nat.blt y 0 = false := by
    cases hq : Nat.blt y 0 with
    | false => rfl
    | true => rw [Nat.blt_eq] at hq; omega
  unfold oldN; rw [this]; rfl
/-- The blocks of these names, as they are told. -/
def blksOf (hp : List (Nat × Option Blk)) (L : List Nat) : List Nat → Option (List Blk)
  | [] => some []
  | x :: l => match hget hp x, blksOf hp L l with
    | some b, some r => some (renB 0 L b :: r)
    | _, _ => none
theorem blksOf_ok {hp : List (Nat × Option Blk)} {L : List Nat} : ∀ {l : List Nat} {bs : List Blk}, blksOf hp L l = some bs → bs.length = l.length ∧ ∀ i x : Nat, l[i]? = some x → ∃ b, hget hp x = some b ∧ bs[i]? = some (renB 0 L b)
  | [], bs, h => by cases h; exact ⟨rfl, fun i x hi => by rw [List.getElem?_nil] at hi; cases hi⟩
  | y :: l, bs, h => by
    unfold blksOf at h
    split at h
    · rename_i b r h1 h2
      cases h
      obtain ⟨k1, k2⟩ := blksOf_ok h2
      refine ⟨by simp [k1], fun i x hi => ?_⟩
      cases i with
      | zero => simp at hi; subst hi; exact ⟨b, h1, rfl⟩
      | succ i => simp at hi; simpa using k2 i x hi
    · cases h
theorem getD_some {L : List Nat} {i : Nat} (h : i < L.length) : L[i]? = some (L.getD i 0) := by simp [List.getD, List.getElem?_eq_getElem h]
theorem grew_lifted {L : List Nat} {st : St} {H1 : List (Nat × Option Blk)} {n1 : Nat} {wr : List Nat} (hL : ∀ x, x ∈ L → hget st.hp x ≠ none) : GrewS st (a, lifted L st H1 n1 wr) := by
  have key : ∀ y, y ∉ (pairs L st.nx n1 wr).map (·.1) → hget (lifted L st H1 n1 wr).hp y = hget st.hp y := fun y hy => by
    rcases hget_app (g := fun i => (hget H1 i).map (renGB (bigN L st.nx))) (hp := st.hp) (y := y) (pairs L st.nx n1 wr) with ⟨p, h1, h2, _⟩ | ⟨_, h2⟩
    · exact absurd (List.mem_map.2 ⟨p, h1, h2⟩) hy
    · exact h2
  refine ⟨⟨fun hwf x hx => ?_, Nat.le_add_right _ _, fun x hx => mem_uni.2 (.inr (mem_uni.2 (.inr hx))), fun x hx => mem_uni.2 (.inr hx), fun x hx => hx, fun x hx => mem_uni.2 (.inr hx), fun d _ => rfl, fun x hx => ?_, fun x hx => ?_, fun x hx => ?_, fun e he => List.mem_append.2 (.inr he), fun x => ?_⟩, rfl⟩
  · show x < st.nx + (n1 - L.length)
    by_cases hm : x ∈ (pairs L st.nx n1 wr).map (·.1)
    · obtain ⟨p, h1, rfl⟩ := List.mem_map.1 hm
      rcases pairs_mem.1 h1 with ⟨j, h2, rfl⟩ | ⟨i, _, h3, rfl⟩
      · show st.nx + j < _; omega
      · have := hwf (L.getD i 0) (hL _ (List.mem_of_getElem? (getD_some h3)))
        show L.getD i 0 < _; omega
    · rw [key x hm] at hx
      have := hwf x hx; omega
  · exact key x fun h => hx (mem_uni.2 (.inl h))
  · exact key x fun h => hx (mem_uni.2 (.inl h))
  · rcases mem_uni.1 hx with h | h
    · exact .inr (mem_uni.2 (.inl h))
    · exact .inl h
  · by_cases hm : x ∈ (pairs L st.nx n1 wr).map (·.1)
    · obtain ⟨p, h1, rfl⟩ := List.mem_map.1 hm
      exact .inl (cov_all (List.mem_append.2 (.inl (List.mem_map.2 ⟨p, h1, rfl⟩))))
    · exact .inr (.inl (key x hm))
theorem distinct_get {L : List Nat} (h : distinct L = true) {i j : Nat} (hi : i < L.length) (hj : j < L.length) (he : L.getD i 0 = L.getD j 0) : i = j := distinct_ok h i j _ (getD_some hi) (by rw [he]; exact getD_some hj)
theorem lift_ok {L : List Nat} {st : St} {d d' : Nat} {H1 : List (Nat × Option Blk)} {n1 : Nat} {wr : List Nat} (h : MutOk P f (args.map (renA 0 L d)) bs a H1 n1 wr) (hL : distinct L = true) (hb : blksOf st.hp L L = some bs) (hn : L.length ≤ n1) :
    CallOk P f args st (renG (bigN L st.nx) d' a) (lifted L st H1 n1 wr) := by
  obtain ⟨hlen, hblk⟩ := blksOf_ok hb
  have hLn : ∀ x, x ∈ L → hget st.hp x ≠ none := fun x hx => by
    obtain ⟨i, hi⟩ := List.getElem?_of_mem hx
    obtain ⟨b, h1, _⟩ := hblk i x hi
    rw [h1]; simp
  refine ⟨(grew_lifted (a := a) hLn).1, rfl, fun r FP E w vals K hwf hcov hfree hS hargs hK => ?_⟩
  have hfree : ∀ x, st.nx ≤ x → x < st.nx + (n1 - L.length) → ¬ E.dom x := hfree
  have hFL : ∀ x, x ∈ L → FP x := fun x hx => hcov x (.inl (mem_uni.2 (.inl hx)))
  have hFP : ∀ x, x ∈ (pairs L st.nx n1 wr).map (·.1) → FP x := fun x hx => hcov x (.inr (.inl (mem_uni.2 (.inl hx))))
  have hmL : ∀ {i}, i < L.length → L.getD i 0 ∈ L := fun hi => List.mem_of_getElem? (getD_some hi)
  -- the few blocks
  have sb : ∀ y B, hget (numb 0 bs) y = some B → y < L.length ∧ ∃ b, hget st.hp (L.getD y 0) = some b ∧ B = renB 0 L b := fun y B hB => by
    rw [numb_get, if_pos (Nat.zero_le _), Nat.sub_zero] at hB
    have hy : y < L.length := by rw [← hlen]; exact (List.getElem?_eq_some_iff.1 hB).1
    obtain ⟨b, h1, h2⟩ := hblk y _ (getD_some hy)
    rw [h2] at hB
    exact ⟨hy, b, h1, (Option.some.inj hB).symm⟩
  have sn : ∀ y, hget (numb 0 bs) y ≠ none → y < L.length ∧ hget st.hp (L.getD y 0) ≠ none := fun y hy => by
    cases hq : hget (numb 0 bs) y with
    | none => exact absurd hq hy
    | some B =>
      obtain ⟨h1, b, h2, _⟩ := sb y B hq
      exact ⟨h1, by rw [h2]; simp⟩
  have sn' : ∀ y, y < L.length → hget (numb 0 bs) y ≠ none := fun y hy => by
    rw [numb_get, if_pos (Nat.zero_le _), Nat.sub_zero, List.getElem?_eq_getElem (by omega)]; simp
  let Es := E.ren 0 L
  have eρ : ∀ y, Es.ρ y = E.ρ (L.getD y 0) := fun y => by show E.ρ (oldN 0 L y) = _; rw [oldN_zero]
  have ev : ∀ y, Es.vir y = E.vir (L.getD y 0) := fun y => by show E.vir (oldN 0 L y) = _; rw [oldN_zero]
  have ec : ∀ y, Es.cp y = E.cp (L.getD y 0) := fun y => by show E.cp (oldN 0 L y) = _; rw [oldN_zero]
  have el : ∀ y, Es.ln y = E.ln (L.getD y 0) := fun y => by show E.ln (oldN 0 L y) = _; rw [oldN_zero]
  have ed : ∀ y, Es.dom y ↔ E.dom (L.getD y 0) ∧ y < L.length := fun y => by
    show E.dom (oldN 0 L y) ∧ y < 0 + L.length ↔ _
    rw [oldN_zero, Nat.zero_add]
  have hdL : ∀ {i}, i < L.length → E.dom (L.getD i 0) := fun hi => hS.dom _ (hFL _ (hmL hi)) (hLn _ (hmL hi))
  have simS : Sim (fun _ => True) Es (hget (numb 0 bs)) w := by
    refine ⟨hS.fz, fun y _ hn => ?_, fun y _ hn hv => ?_, fun y B _ hB => ?_, fun y z _ _ hy hz hvy hvz he => ?_⟩
    · obtain ⟨h1, _⟩ := sn y hn
      exact (ed y).2 ⟨hdL h1, h1⟩
    · obtain ⟨h1, h2⟩ := sn y hn
      rw [eρ]
      rw [ev] at hv
      exact hS.low _ (hFL _ (hmL h1)) h2 hv
    · obtain ⟨h1, b, h2, rfl⟩ := sb y B hB
      have h3 := hS.blk _ b (hFL _ (hmL h1)) h2
      rw [eρ]
      refine renB_ok ?_
      rw [oldN_zero]; exact h3
    · obtain ⟨h1, h2⟩ := sn y hy
      obtain ⟨h3, h4⟩ := sn z hz
      rw [ev] at hvy hvz
      rw [eρ, eρ] at he
      exact distinct_get hL h1 h3 (hS.inj _ _ (hFL _ (hmL h1)) (hFL _ (hmL h3)) h2 h4 hvy hvz he)
  refine h r Es w vals K (fun x hx => by rw [hlen]; exact ((ed x).1 hx).2) simS (hargs.mapR fun a _ v => renA_ok d a v) fun E1 v w' hv p => ?_
  rw [hlen] at p
  -- the caller's names
  let N := fun y => st.nx ≤ y ∧ y < st.nx + (n1 - L.length)
  have pd : ∀ y, Decidable (N y) := fun y => inferInstanceAs (Decidable (_ ∧ _))
  let E' : Env :=
    { ρ := fun y => if N y then E1.ρ (L.length + (y - st.nx)) else E.ρ y, dom := fun y => if N y then E1.dom (L.length + (y - st.nx)) else E.dom y, vir := fun y => if N y then E1.vir (L.length + (y - st.nx)) else E.vir y,
      cp := fun y => if N y then E1.cp (L.length + (y - st.nx)) else E.cp y, ln := fun y => if N y then E1.ln (L.length + (y - st.nx)) else E.ln y, fz := E1.fz, gok := E1.gok }
  have nold : ∀ y, E.dom y → ¬ N y := fun y hy hN => hfree y hN.1 hN.2 hy
  have le : E.le E' := by
    refine ⟨fun x hx => ?_, fun x hx => ?_, fun x hx => ?_, fun x hx => ?_, fun x hx => ?_, fun b c hb => p.le.fz b c hb⟩
    · show if N x then _ else E.dom x
      rw [if_neg (nold x hx)]; exact hx
    · show (if N x then _ else E.ρ x) = _
      rw [if_neg (nold x hx)]
    · show (if N x then _ else E.vir x) = _
      rw [if_neg (nold x hx)]
    · show (if N x then _ else E.cp x) = _
      rw [if_neg (nold x hx)]
    · show (if N x then _ else E.ln x) = _
      rw [if_neg (nold x hx)]
  have hg : ∀ x, E1.dom x → E'.dom (bigN L st.nx x) ∧ E'.ρ (bigN L st.nx x) = E1.ρ x ∧ E'.vir (bigN L st.nx x) = E1.vir x ∧ E'.cp (bigN L st.nx x) = E1.cp x ∧ E'.ln (bigN L st.nx x) = E1.ln x := fun x hx => by
    rcases Nat.lt_or_ge x L.length with h1 | h1
    · rw [bigN_lo h1]
      have hdx := hdL h1
      have hsx : Es.dom x := (ed x).2 ⟨hdx, h1⟩
      refine ⟨le.dom _ hdx, ?_, ?_, ?_, ?_⟩
      · rw [le.ρ _ hdx, p.le.ρ x hsx, eρ]
      · rw [le.vir _ hdx, p.le.vir x hsx, ev]
      · rw [le.cp _ hdx, p.le.cp x hsx, ec]
      · rw [le.ln _ hdx, p.le.ln x hsx, el]
    · have h2 : x < n1 := by
        rcases p.dom x hx with h | h
        · exact absurd ((ed x).1 h).2 (by omega)
        · exact h.2
      rw [bigN_hi h1]
      have hN : N (st.nx + (x - L.length)) := ⟨Nat.le_add_right _ _, by omega⟩
      have hx' : L.length + (st.nx + (x - L.length) - st.nx) = x := by omega
      refine ⟨?_, ?_, ?_, ?_, ?_⟩
      · show if N _ then _ else _
        rw [if_pos hN, hx']; exact hx
      · show (if N _ then _ else _) = _
        rw [if_pos hN, hx']
      · show (if N _ then _ else _) = _
        rw [if_pos hN, hx']
      · show (if N _ then _ else _) = _
        rw [if_pos hN, hx']
      · show (if N _ then _ else _) = _
        rw [if_pos hN, hx']
  have hcase : ∀ y, hget (lifted L st H1 n1 wr).hp y ≠ none →
      (∃ i B, bigN L st.nx i = y ∧ hget H1 i = some B ∧ hget (lifted L st H1 n1 wr).hp y = some (renGB (bigN L st.nx) B) ∧ i < n1 ∧ (i < L.length → i ∈ wr)) ∨ (hget (lifted L st H1 n1 wr).hp y = hget st.hp y ∧ hget st.hp y ≠ none ∧ ¬ N y ∧ ∀ i, i ∈ wr → i < L.length → L.getD i 0 ≠ y) := fun y hy => by
    rcases hget_app (g := fun i => (hget H1 i).map (renGB (bigN L st.nx))) (hp := st.hp) (y := y) (pairs L st.nx n1 wr) with ⟨q, h1, h2, h3⟩ | ⟨h1, h2⟩
    · left
      have h3 : hget (lifted L st H1 n1 wr).hp y = (hget H1 q.2).map (renGB (bigN L st.nx)) := h3
      cases hB : hget H1 q.2 with
      | none => rw [h3, hB] at hy; exact absurd rfl hy
      | some B =>
        refine ⟨q.2, B, ?_, hB, by rw [h3, hB]; rfl, ?_, ?_⟩
        · rcases pairs_mem.1 h1 with ⟨j, _, rfl⟩ | ⟨i, _, hi, rfl⟩
          · rw [bigN_hi (Nat.le_add_right _ _), ← h2]
            show st.nx + (L.length + j - L.length) = st.nx + j
            omega
          · rw [bigN_lo hi, ← h2]
        · rcases pairs_mem.1 h1 with ⟨j, hj, rfl⟩ | ⟨i, _, hi, rfl⟩
          · show L.length + j < n1; omega
          · show i < n1; omega
        · intro hlt
          rcases pairs_mem.1 h1 with ⟨j, hj, rfl⟩ | ⟨i, hi1, hi, rfl⟩
          · exact absurd (show L.length + j < L.length from hlt) (by omega)
          · exact hi1
    · right
      have h2 : hget (lifted L st H1 n1 wr).hp y = hget st.hp y := h2
      refine ⟨h2, by rw [← h2]; exact hy, fun hN => ?_, fun i h3 h4 he => h1 (L.getD i 0, i) (pairs_mem.2 (.inr ⟨i, h3, h4, rfl⟩)) he⟩
      exact h1 (st.nx + (y - st.nx), L.length + (y - st.nx)) (pairs_mem.2 (.inl ⟨y - st.nx, by have := hN.1; have := hN.2; omega, rfl⟩)) (by show st.nx + (y - st.nx) = y; have := hN.1; omega)
  have hdm : ∀ {i B}, hget H1 i = some B → E1.dom i := fun {i B} hB => p.sim.dom i trivial (by rw [hB]; simp)
  -- what the call did not turn
  have stay : ∀ y, FP y → hget st.hp y ≠ none → (∀ i, i ∈ wr → i < L.length → L.getD i 0 ≠ y) → E.vir y = false → blkW w' (E.ρ y) = blkW w (E.ρ y) ∧ E1.fz (E.ρ y) = E.fz (E.ρ y) := fun y hF hn hne hvir => by
    have hlow := hS.low y hF hn hvir
    refine p.frame _ hlow.1 fun i hi hik hin hiv he => ?_
    rw [eρ] at he
    rw [ev] at hiv
    exact hne i hi hik ((hS.inj _ _ hF (hFL _ (hmL hik)) hn (hLn _ (hmL hik)) hvir hiv he).symm)
  have EN : ∀ {i}, E1.dom i → E'.ρ (bigN L st.nx i) = E1.ρ i := fun hi => (hg _ hi).2.1
  have EV : ∀ {i}, E1.dom i → E'.vir (bigN L st.nx i) = E1.vir i := fun hi => (hg _ hi).2.2.1
  have oldE : ∀ y, ¬ N y → E'.ρ y = E.ρ y ∧ E'.vir y = E.vir y := fun y hN => ⟨by show (if N y then _ else E.ρ y) = _; rw [if_neg hN], by show (if N y then _ else E.vir y) = _; rw [if_neg hN]⟩
  have sim' : Sim FP E' (hget (lifted L st H1 n1 wr).hp) w' := by
    refine ⟨p.sim.fz, fun y hF hn => ?_, fun y hF hn hvir => ?_, fun y B hF hB => ?_, fun y z hFy hFz hy hz hvy hvz he => ?_⟩
    · rcases hcase y hn with ⟨i, B, rfl, hB, _⟩ | ⟨_, h2, _⟩
      · exact (hg i (hdm hB)).1
      · exact le.dom _ (hS.dom y hF h2)
    · rcases hcase y hn with ⟨i, B, rfl, hB, _⟩ | ⟨_, h2, h3, h4⟩
      · rw [EN (hdm hB)]
        rw [EV (hdm hB)] at hvir
        exact p.sim.low i trivial (by rw [hB]; simp) hvir
      · rw [(oldE y h3).1]
        rw [(oldE y h3).2] at hvir
        have := hS.low y hF h2 hvir
        refine ⟨Nat.lt_of_lt_of_le this.1 p.size, ?_⟩
        show E1.fz _ = none
        rw [(stay y hF h2 h4 hvir).2]; exact this.2
    · rcases hcase y (by rw [hB]; simp) with ⟨i, B0, rfl, hB0, h1, _⟩ | ⟨h1, h2, h3, h4⟩
      · rw [h1] at hB
        cases hB
        rw [EN (hdm hB0)]
        exact renGB_ok hg (fun _ _ h => h) (hdm hB0) (p.sim.blk i B0 trivial hB0)
      · rw [h1] at hB
        rw [(oldE y h3).1]
        have hb0 := (hS.blk y B hF hB).mono le (hS.dom y hF h2)
        cases hvir : E.vir y with
        | false => rw [(stay y hF h2 h4 hvir).1]; exact hb0
        | true =>
          cases B with
          | fix ty cs =>
            obtain ⟨q, _⟩ := hb0
            rw [(oldE y h3).2, hvir] at q; cases q
          | map sh zv get has nl =>
            obtain ⟨q, _⟩ := hb0
            rw [(oldE y h3).2, hvir] at q; cases q
          | arr ty n k get =>
            obtain ⟨q0, q⟩ := hb0
            refine ⟨q0, ?_⟩
            rcases q with q | ⟨q, _⟩
            · exact .inl q
            · rw [(oldE y h3).2, hvir] at q; cases q
    · rcases hcase y hy with ⟨i, B, rfl, hB, _, hi1, hi2⟩ | ⟨_, h2, h3, h4⟩
      · rcases hcase z hz with ⟨j, C, rfl, hC, _, hj1, hj2⟩ | ⟨_, k2, k3, k4⟩
        · rw [EN (hdm hB), EN (hdm hC)] at he
          rw [EV (hdm hB)] at hvy
          rw [EV (hdm hC)] at hvz
          rw [p.sim.inj i j trivial trivial (by rw [hB]; simp) (by rw [hC]; simp) hvy hvz he]
        · exfalso
          rw [EN (hdm hB), (oldE z k3).1] at he
          rw [EV (hdm hB)] at hvy
          rw [(oldE z k3).2] at hvz
          have hlz := hS.low z hFz k2 hvz
          rcases Nat.lt_or_ge i L.length with hi | hi
          · have hsi : Es.dom i := (ed i).2 ⟨hdL hi, hi⟩
            rw [p.le.ρ i hsi, eρ] at he
            rw [p.le.vir i hsi, ev] at hvy
            exact k4 i (hi2 hi) hi (hS.inj _ _ (hFL _ (hmL hi)) hFz (hLn _ (hmL hi)) k2 hvy hvz he)
          · rcases p.news i hi hi1 trivial (by rw [hB]; simp) hvy with h5 | ⟨x, x1, x2, x3, x4, x5⟩
            · rw [he] at h5; omega
            · rw [he, eρ] at x5
              rw [ev] at x4
              exact k4 x x1 x2 ((hS.inj _ _ hFz (hFL _ (hmL x2)) k2 (hLn _ (hmL x2)) hvz x4 x5).symm)
      · rcases hcase z hz with ⟨j, C, rfl, hC, _, hj1, hj2⟩ | ⟨_, k2, k3, k4⟩
        · exfalso
          rw [EN (hdm hC), (oldE y h3).1] at he
          rw [EV (hdm hC)] at hvz
          rw [(oldE y h3).2] at hvy
          have hly := hS.low y hFy h2 hvy
          rcases Nat.lt_or_ge j L.length with hj | hj
          · have hsj : Es.dom j := (ed j).2 ⟨hdL hj, hj⟩
            rw [p.le.ρ j hsj, eρ] at he
            rw [p.le.vir j hsj, ev] at hvz
            exact h4 j (hj2 hj) hj (hS.inj _ _ (hFL _ (hmL hj)) hFy (hLn _ (hmL hj)) h2 hvz hvy he.symm)
          · rcases p.news j hj hj1 trivial (by rw [hC]; simp) hvz with h5 | ⟨x, x1, x2, x3, x4, x5⟩
            · rw [← he] at h5; omega
            · rw [← he, eρ] at x5
              rw [ev] at x4
              exact h4 x x1 x2 ((hS.inj _ _ hFy (hFL _ (hmL x2)) h2 (hLn _ (hmL x2)) hvy x4 x5).symm)
        · rw [(oldE y h3).1, (oldE z k3).1] at he
          rw [(oldE y h3).2] at hvy
          rw [(oldE z k3).2] at hvz
          exact hS.inj y z hFy hFz h2 k2 hvy hvz he
  refine hK E' v w' (renG_ok hg (fun _ _ h => h) d' a v hv) ⟨⟨le, fun x hx => ?_, sim', fun b hb hne => ?_, fun x h1 h2 hF hn hvir => ?_, p.size, p.os, p.tape, p.output⟩, fun x h1 hF hn => ?_⟩
  · by_cases hN : N x
    · exact .inr hN
    · have hx : if N x then _ else E.dom x := hx
      rw [if_neg hN] at hx
      exact .inl hx
  · refine p.frame b hb fun i hi hik hin hiv he => ?_
    rw [eρ] at he
    rw [ev] at hiv
    have hw : L.getD i 0 ∈ (lifted L st H1 n1 wr).wr := mem_uni.2 (.inl (List.mem_map.2 ⟨(L.getD i 0, i), pairs_mem.2 (.inr ⟨i, hi, hik, rfl⟩), rfl⟩))
    exact hne _ hw (hwf _ (hLn _ (hmL hik))) (hLn _ (hmL hik)) hiv he
  · rcases hcase x hn with ⟨i, B, rfl, hB, _, hi1, hi2⟩ | ⟨_, h2, _⟩
    · rw [EN (hdm hB)]
      rw [EV (hdm hB)] at hvir
      rcases Nat.lt_or_ge i L.length with hi | hi
      · rw [bigN_lo hi] at h1
        have := hwf _ (hLn _ (hmL hi))
        omega
      · rcases p.news i hi hi1 trivial (by rw [hB]; simp) hvir with h5 | ⟨y, y1, y2, y3, y4, y5⟩
        · exact .inl h5
        · refine .inr ⟨L.getD y 0, mem_uni.2 (.inl (List.mem_map.2 ⟨(L.getD y 0, y), pairs_mem.2 (.inr ⟨y, y1, y2, rfl⟩), rfl⟩)), hwf _ (hLn _ (hmL y2)), hLn _ (hmL y2), ?_, ?_⟩
          · rw [← ev]; exact y4
          · rw [y5, eρ]
    · exact absurd (hwf x h2) (by omega)
  · rcases hcase x hn with ⟨i, B, rfl, hB, _, hi1, hi2⟩ | ⟨_, h2, _⟩
    · rcases Nat.lt_or_ge i L.length with hi | hi
      · rw [bigN_lo hi]; exact hLn _ (hmL hi)
      · rw [bigN_hi hi] at h1; omega
    · exact h2
end
end Go.Proofs.YtamjnhpkmhbkcaaGreatDoor

/-
  PART: contracts of functions that change blocks of their caller: by evaluation; a table of them.
-/
namespace Go.Proofs.YtamjnhpkmhbkcaaGreatDoor
open Go.RowKit
/-- What such a call answers: the answer, the blocks, how many there are, those that turned. -/
abbrev MRes := AV × List (Nat × Option Blk) × Nat × List Nat
/-- An end, short: the blocks that were there and turned, and new ones that are led to. -/
def compactM (k : Nat) (b : AV × St) : Option MRes :=
  let old := b.2.wr.filter fun i => Nat.blt i k
  let L := meet b.2.hp k 60 (idsA 5 b.1 ++ old.flatMap (idsB b.2.hp)) []
  match distinct L && L.all (fun x => Nat.ble k x) with
  | true => some (renA k L 8 b.1, (old.map (fun i => (i, i)) ++ names k 0 L).map (fun p => (p.1, (hget b.2.hp p.2).map (renB k L))), k + L.length, old)
  | false => none
section
variable {P : Program} {f : Nat} {args : List AV} {bs : List Blk} {a : AV}
def BlkLe (b b' : Blk) : Prop := ∀ (E : Env) (x : Nat) (o : Option Obj), BlkR E x b o → BlkR E x b' o
theorem BlkLe.refl (b : Blk) : BlkLe b b := fun _ _ _ h => h
def HLe (H H' : List (Nat × Option Blk)) : Prop := ∀ x B', hget H' x = some B' → ∃ B, hget H x = some B ∧ BlkLe B B'
theorem HLe.refl (H : List (Nat × Option Blk)) : HLe H H := fun _ B h => ⟨B, h, BlkLe.refl B⟩
theorem HLe.nil (H : List (Nat × Option Blk)) : HLe H [] := fun _ _ h => nomatch h
theorem HLe.cons {x : Nat} {b b' : Blk} {H H' : List (Nat × Option Blk)} (h : BlkLe b b') (t : HLe H H') : HLe ((x, some b) :: H) ((x, some b') :: H') := fun y B hB => by
  rw [hget_cons] at hB ⊢
  by_cases e : x = y
  · rw [if_pos e] at hB ⊢; cases hB; exact ⟨b, rfl, h⟩
  · rw [if_neg e] at hB ⊢; exact t y B hB
theorem pst_ren {E E1 : Env} {H : Nat → Option Blk} {hp : List (Nat × Option Blk)} {k n1 : Nat} {wr : List Nat} {w w' : World} {L : List Nat} (p : Pst (fun _ => True) E E1 H (hget hp) k n1 wr w w') (hdE : ∀ x, E.dom x → x < k) (hn1 : ∀ x, x ∈ L → hget hp x ≠ none → x < n1)
    (hdis : distinct L = true) (hge : L.all (fun x => Nat.ble k x) = true) :
    Pst (fun _ => True) E (E1.ren k L) H (hget ((((wr.filter fun i => Nat.blt i k).map (fun i => (i, i))) ++ names k 0 L).map fun q => (q.1, (hget hp q.2).map (renB k L)))) k (k + L.length) (wr.filter fun i => Nat.blt i k) w w' := by
  have lo : ∀ y, y < k → oldN k L y = y := fun y hy => by
    have : Nat.blt y k = true := by simpa [Nat.blt_eq] using hy
    unfold oldN; rw [this]
  have hi : ∀ y, k ≤ y → y < k + L.length → L[y - k]? = some (oldN k L y) ∧ k ≤ oldN k L y := fun y h1 h2 => by
    have hq : Nat.blt y k = false := by
      cases hq : Nat.blt y k with
      | false => rfl
      | true => rw [Nat.blt_eq] at hq; omega
    have hlt : y - k < L.length := by omega
    have h3 : L[y - k]? = some (oldN k L y) := by
      unfold oldN; rw [hq]
      simp [List.getD, List.getElem?_eq_getElem hlt]
    exact ⟨h3, Nat.le_of_ble_eq_true (List.all_eq_true.1 hge _ (List.mem_of_getElem? h3))⟩
  have hold : ∀ q, q ∈ ((wr.filter fun i => Nat.blt i k).map (fun i => (i, i))) ++ names k 0 L → oldN k L q.1 = q.2 ∧ q.1 < k + L.length := fun q hq => by
    rcases List.mem_append.1 hq with h | h
    · obtain ⟨i, h1, rfl⟩ := List.mem_map.1 h
      have h2 : i < k := by simpa [Nat.blt_eq] using (List.mem_filter.1 h1).2
      exact ⟨lo i h2, by show i < _; omega⟩
    · exact pair_old (List.mem_append.2 (.inr h))
  have hm : ∀ y B', hget ((((wr.filter fun i => Nat.blt i k).map (fun i => (i, i))) ++ names k 0 L).map fun q => (q.1, (hget hp q.2).map (renB k L))) y = some B' → ∃ b, hget hp (oldN k L y) = some b ∧ B' = renB k L b ∧ y < k + L.length := fun y B' hB => by
    obtain ⟨q, h1, h2, h3⟩ := hget_map (f := fun x => (hget hp x).map (renB k L)) hB
    obtain ⟨k1, k2⟩ := hold q h1
    subst h2
    cases hg : hget hp q.2 with
    | none => rw [hg] at h3; cases h3
    | some b =>
      rw [hg] at h3
      exact ⟨b, by rw [k1]; exact hg, by cases h3; rfl, k2⟩
  have al : ∀ y, hget ((((wr.filter fun i => Nat.blt i k).map (fun i => (i, i))) ++ names k 0 L).map fun q => (q.1, (hget hp q.2).map (renB k L))) y ≠ none → hget hp (oldN k L y) ≠ none ∧ y < k + L.length := fun y hy => by
    cases hB : hget ((((wr.filter fun i => Nat.blt i k).map (fun i => (i, i))) ++ names k 0 L).map fun q => (q.1, (hget hp q.2).map (renB k L))) y with
    | none => exact absurd hB hy
    | some B' =>
      obtain ⟨b, h1, _, h3⟩ := hm y B' hB
      exact ⟨by rw [h1]; simp, h3⟩
  refine ⟨⟨⟨fun x hx => ?_, fun x hx => ?_, fun x hx => ?_, fun x hx => ?_, fun x hx => ?_, p.le.fz⟩, fun y hy => ?_, ⟨p.sim.fz, fun y hF hn => ?_, fun y hF hn hv => ?_, fun y B' hF hB => ?_, fun y z _ _ hny hnz hvy hvz he => ?_⟩, fun b hb hne => ?_, fun y h1 h2 hF hn hv => ?_, p.size, p.os, p.tape, p.output⟩, fun y hy hF hn => ?_⟩
  · have hlt := hdE x hx
    exact ⟨by rw [lo x hlt]; exact p.le.dom x hx, by omega⟩
  · show E1.ρ (oldN k L x) = _
    rw [lo x (hdE x hx)]; exact p.le.ρ x hx
  · show E1.vir (oldN k L x) = _
    rw [lo x (hdE x hx)]; exact p.le.vir x hx
  · show E1.cp (oldN k L x) = _
    rw [lo x (hdE x hx)]; exact p.le.cp x hx
  · show E1.ln (oldN k L x) = _
    rw [lo x (hdE x hx)]; exact p.le.ln x hx
  · rcases Nat.lt_or_ge y k with h | h
    · have h1 := hy.1
      rw [lo y h] at h1
      rcases p.dom y h1 with h2 | h2
      · exact .inl h2
      · exact absurd h2.1 (Nat.not_le.2 h)
    · exact .inr ⟨h, hy.2⟩
  · obtain ⟨h1, h2⟩ := al y hn
    exact ⟨p.sim.dom _ trivial h1, h2⟩
  · exact p.sim.low _ trivial (al y hn).1 hv
  · obtain ⟨b, h1, rfl, _⟩ := hm y B' hB
    exact renB_ok (p.sim.blk _ b trivial h1)
  · obtain ⟨h1, h2⟩ := al y hny
    obtain ⟨h3, h4⟩ := al z hnz
    have heq := p.sim.inj _ _ trivial trivial h1 h3 hvy hvz he
    rcases Nat.lt_or_ge y k with hy | hy
    · rcases Nat.lt_or_ge z k with hz | hz
      · rw [lo y hy, lo z hz] at heq; exact heq
      · have := (hi z hz h4).2
        rw [← heq, lo y hy] at this; omega
    · rcases Nat.lt_or_ge z k with hz | hz
      · have := (hi y hy h2).2
        rw [heq, lo z hz] at this; omega
      · have k1 := (hi y hy h2).1
        have k2 := (hi z hz h4).1
        rw [heq] at k1
        have := distinct_ok hdis _ _ _ k1 k2
        omega
  · exact p.frame b hb fun x hx hxk => hne x (List.mem_filter.2 ⟨hx, by simpa [Nat.blt_eq] using hxk⟩) hxk
  · obtain ⟨k1, k2⟩ := al y hn
    obtain ⟨k3, k4⟩ := hi y h1 k2
    have hlt : oldN k L y < n1 := hn1 _ (List.mem_of_getElem? k3) k1
    rcases p.news _ k4 hlt trivial k1 hv with h | ⟨z, z1, z2, z3⟩
    · exact .inl h
    · exact .inr ⟨z, List.mem_filter.2 ⟨z1, by simpa [Nat.blt_eq] using z2⟩, z2, z3⟩
  · have := (al y hn).1
    rw [lo y hy] at this
    exact p.old y hy trivial this
theorem MutOk.le {a' : AV} {H H' : List (Nat × Option Blk)} {n1 : Nat} {wr : List Nat} (h : MutOk P f args bs a H n1 wr) (ha : ∀ E v, Rep E a v → Rep E a' v) (hH : HLe H H') : MutOk P f args bs a' H' n1 wr :=
  fun r E w vals K hd hS hargs hK => h r E w vals K hd hS hargs fun E' v w' hv p => by
    have hn : ∀ x, hget H' x ≠ none → hget H x ≠ none := fun x hx => by
      cases hB : hget H' x with
      | none => exact absurd hB hx
      | some B =>
        obtain ⟨B0, h1, _⟩ := hH x B hB
        rw [h1]; simp
    exact hK E' v w' (ha E' v hv) ⟨⟨p.le, p.dom, ⟨p.sim.fz, fun x hF hx => p.sim.dom x hF (hn x hx), fun x hF hx => p.sim.low x hF (hn x hx), fun x B hF hB => (by
      obtain ⟨B0, h1, h2⟩ := hH x B hB
      exact h2 E' x _ (p.sim.blk x B0 hF h1)), fun x y hx hy h1 h2 => p.sim.inj x y hx hy (hn x h1) (hn y h2)⟩, p.frame, fun x h1 h2 hF hx => p.news x h1 h2 hF (hn x hx), p.size, p.os, p.tape, p.output⟩, fun x h1 hF hx => p.old x h1 hF (hn x hx)⟩
/-- Blocks that are told less of. -/
inductive BsLe : List Blk → List Blk → Prop
  | nil : BsLe [] []
  | cons {b b' : Blk} {l l' : List Blk} (h : BlkLe b b') (t : BsLe l l') : BsLe (b :: l) (b' :: l')
theorem BsLe.get {l l' : List Blk} (h : BsLe l l') : l.length = l'.length ∧ ∀ (i : Nat) (B' : Blk), l'[i]? = some B' → ∃ B, l[i]? = some B ∧ BlkLe B B' := by
  induction h with
  | nil => exact ⟨rfl, fun i B h => by rw [List.getElem?_nil] at h; cases h⟩
  | @cons b b' l l' h t ih =>
    refine ⟨by simp [ih.1], fun i B hB => ?_⟩
    cases i with
    | zero => simp at hB; subst hB; exact ⟨b, rfl, h⟩
    | succ i => simp at hB; simpa using ih.2 i B hB
theorem MutOk.pre {args' : List AV} {bs' : List Blk} {H : List (Nat × Option Blk)} {n1 : Nat} {wr : List Nat} (h : MutOk P f args' bs' a H n1 wr) (ha : ∀ E vs, Reps E args vs → Reps E args' vs) (hb : BsLe bs bs') : MutOk P f args bs a H n1 wr := by
  intro r E w vals K hd hS hargs hK
  obtain ⟨hlen, hget'⟩ := hb.get
  have fwd : ∀ x B', hget (numb 0 bs') x = some B' → ∃ B, hget (numb 0 bs) x = some B ∧ BlkLe B B' := fun x B' hB => by
    rw [numb_get, if_pos (Nat.zero_le _)] at hB ⊢
    exact hget' _ B' hB
  have hn : ∀ x, hget (numb 0 bs') x ≠ none ↔ hget (numb 0 bs) x ≠ none := fun x => by
    rw [numb_get, if_pos (Nat.zero_le _), numb_get, if_pos (Nat.zero_le _), Ne, Ne, List.getElem?_eq_none_iff, List.getElem?_eq_none_iff, hlen]
  refine h r E w vals K (fun x hx => by rw [← hlen]; exact hd x hx) ⟨hS.fz, fun x hF hx => hS.dom x hF ((hn x).1 hx), fun x hF hx => hS.low x hF ((hn x).1 hx), fun x B' hF hB => ?_, fun x y hx hy h1 h2 => hS.inj x y hx hy ((hn x).1 h1) ((hn y).1 h2)⟩ (ha E _ hargs) fun E' v w' hv p => ?_
  · obtain ⟨B, h1, h2⟩ := fwd x B' hB
    exact h2 E x _ (hS.blk x B hF h1)
  · rw [← hlen] at p
    exact hK E' v w' hv ⟨⟨p.le, p.dom, p.sim, fun b hb hne => p.frame b hb fun x h1 h2 h3 => hne x h1 h2 ((hn x).1 h3), fun x h1 h2 hF hx hv => (p.news x h1 h2 hF hx hv).imp id fun ⟨y, y1, y2, y3, y4⟩ => ⟨y, y1, y2, (hn y).1 y3, y4⟩, p.size, p.os, p.tape, p.output⟩, fun x h1 hF hx => (hn x).1 (p.old x h1 hF hx)⟩
theorem mut_compact {s1 : St} {r : MRes} (h : CallOk P f args (smallS bs) a s1) (hc : compactM bs.length (a, s1) = some r) : MutOk P f args bs r.1 r.2.1 r.2.2.1 r.2.2.2 := by
  unfold compactM at hc
  dsimp only at hc
  generalize meet s1.hp bs.length 60 (idsA 5 a ++ (s1.wr.filter fun i => Nat.blt i bs.length).flatMap (idsB s1.hp)) [] = L at hc
  split at hc
  · rename_i hL
    simp only [Bool.and_eq_true] at hL
    cases hc
    intro rr E w vals K hd hS hargs hK
    refine mut_of_callok h rr E w vals K hd hS hargs fun E1 v w' hv p => ?_
    exact hK _ v w' (renA_ok 8 a v hv) (pst_ren p hd (fun x _ hx => h.grew.wf wf_small x hx) hL.1 hL.2)
  · cases hc
/-- By evaluation. -/
theorem mut_ev {cx : Cx} (hc : CtrOk cx) (hfit : Fit cx.P) {n : Nat} {fn : Func} {c : Code} (hf : cx.P.funcs[f]? = some fn) (hb : fn.body = some c) {t : Tree (Option MRes)} {H : List (Nat × Option Blk)} {n1 : Nat} {wr : List Nat}
    (h : (bodyE cx (evs cx n) fn c args (smallS bs)).map (compactM bs.length) = t) (ha : t.wp fun r => ∃ a0 H0, r = some (a0, H0, n1, wr) ∧ (∀ E v, Rep E a0 v → Rep E a v) ∧ HLe H0 H) : MutOk cx.P f args bs a H n1 wr := by
  obtain ⟨r, h1, a0, H0, rfl, h2, h3⟩ := Tree.wp_hit ha
  rw [← h] at h1
  obtain ⟨⟨b, s⟩, h4, h5⟩ := Tree.map_hit h1
  have := mut_compact (body_sound rfl hfit (evs_ok hc hfit n) hf hb h4) h5
  exact this.le h2 h3
/-! A table of such contracts. -/
def ctrM (tabM : Nat → List AV → List Blk → Option (Tree MRes)) (f : Nat) (args : List AV) (st : St) : Option (Tree (AV × St)) :=
  let L := meet st.hp 0 60 (args.flatMap (idsA 5)) []
  match distinct L, blksOf st.hp L L with
  | true, some bs => match tabM f (args.map (renA 0 L 8)) bs with
    | some t => some (t.bind fun r => match Nat.ble L.length r.2.2.1 with
      | true => .ret (renG (bigN L st.nx) 8 r.1, lifted L st r.2.1 r.2.2.1 r.2.2.2)
      | false => .fail)
    | none => none
  | _, _ => none
def TabMOk (P : Program) (tabM : Nat → List AV → List Blk → Option (Tree MRes)) : Prop := ∀ f args bs t r, tabM f args bs = some t → t.hit r → MutOk P f args bs r.1 r.2.1 r.2.2.1 r.2.2.2
def ctrOf3 (tabP tabF : Nat → List AV → Option (Tree AV)) (tabM : Nat → List AV → List Blk → Option (Tree MRes)) (f : Nat) (args : List AV) (st : St) : Option (Tree (AV × St)) := match ctrM tabM f args st with
  | some t => some t
  | none => ctrOf2 tabP tabF f args st
theorem ctrOf3_ok {tabP tabF : Nat → List AV → Option (Tree AV)} {tabM : Nat → List AV → List Blk → Option (Tree MRes)} (h : TabOk P tabP) (h2 : TabFOk P tabF) (h3 : TabMOk P tabM) (dec : Nat → St → Option Bool) : CtrOk ⟨P, ctrOf3 tabP tabF tabM, dec⟩ := by
  have h1 := ctrOf2_ok h h2 dec
  refine ⟨fun f args st t ht => ?_, fun f args st t a st' ht hh => ?_⟩
  · have ht' : ctrOf3 tabP tabF tabM f args st = some t := ht
    unfold ctrOf3 at ht'
    split at ht'
    · rename_i u hu
      cases ht'
      unfold ctrM at hu
      dsimp only at hu
      split at hu
      · rename_i bs hL hb
        split at hu
        · rename_i u' hu'
          cases hu
          have all : ∀ v : Tree MRes, v.All fun _ => True := fun v => by induction v <;> simp_all [Tree.All]
          refine (all _).bind fun r _ => ?_
          split
          · refine grew_lifted fun x hx => ?_
            obtain ⟨_, hblk⟩ := blksOf_ok hb
            obtain ⟨i, hi⟩ := List.getElem?_of_mem hx
            obtain ⟨b, q, _⟩ := hblk i x hi
            rw [q]; simp
          · trivial
        · cases hu
      · cases hu
    · exact h1.all f args st t ht'
  · have ht' : ctrOf3 tabP tabF tabM f args st = some t := ht
    unfold ctrOf3 at ht'
    split at ht'
    · rename_i u hu
      cases ht'
      unfold ctrM at hu
      dsimp only at hu
      split at hu
      · rename_i bs hL hb
        split at hu
        · rename_i u' hu'
          cases hu
          obtain ⟨r, q1, q2⟩ := Tree.hit_bind hh
          split at q2
          · rename_i hle
            cases q2
            exact lift_ok (h3 f _ bs u' r hu' q1) hL hb (Nat.le_of_ble_eq_true hle)
          · exact q2.elim
        · cases hu
      · cases hu
    · exact h1.ok f args st t a st' ht' hh
end
end Go.Proofs.YtamjnhpkmhbkcaaGreatDoor

/-
  PART: contracts of functions that change blocks of their caller: a block that stayed, told with the others.
-/
namespace Go.Proofs.YtamjnhpkmhbkcaaGreatDoor
open Go.RowKit
theorem mut_stay {P : Program} {f : Nat} {args : List AV} {bs : List Blk} {a : AV} {H : List (Nat × Option Blk)} {n1 : Nat} {wr : List Nat} {i : Nat} {ty : TypeId} {cs : List AV} (h : MutOk P f args bs a H n1 wr) (hB : bs[i]? = some (.fix ty cs)) (hi : i ∉ wr) (hH : hget H i = none) :
    MutOk P f args bs a ((i, some (.fix ty cs)) :: H) n1 (i :: wr) := by
  intro r E w vals K hd hS hargs hK
  refine h r E w vals K hd hS hargs fun E' v w' hv p => ?_
  have hBn : hget (numb 0 bs) i = some (.fix ty cs) := by rw [numb_get, if_pos (Nat.zero_le _)]; exact hB
  have hne : hget (numb 0 bs) i ≠ none := by rw [hBn]; simp
  have hdi := hS.dom i trivial hne
  have hb0 := hS.blk i _ trivial hBn
  have hvi : E.vir i = false := hb0.1
  have hlow := hS.low i trivial hne hvi
  have fr := p.frame (E.ρ i) hlow.1 fun x hx hxk hxn hxv he => hi (by
    have := hS.inj i x trivial trivial hne hxn hvi hxv he
    rw [this]; exact hx)
  have hik : i < bs.length := hd i hdi
  have eρ := p.le.ρ i hdi
  have ev := p.le.vir i hdi
  have hg : ∀ y, hget ((i, some (.fix ty cs)) :: H) y = if i = y then some (.fix ty cs) else hget H y := fun y => hget_cons ..
  have hn : ∀ y, i ≠ y → hget ((i, some (.fix ty cs)) :: H) y ≠ none → hget H y ≠ none := fun y hy hq => by rw [hg, if_neg hy] at hq; exact hq
  have apart : ∀ y, hget H y ≠ none → E'.vir y = false → E'.ρ i ≠ E'.ρ y := fun y hy hv he => by
    rw [eρ] at he
    rcases Nat.lt_or_ge y bs.length with h1 | h1
    · have h2 := p.old y h1 trivial hy
      have h3 := hS.dom y trivial h2
      rw [p.le.ρ y h3] at he
      rw [p.le.vir y h3] at hv
      have := hS.inj i y trivial trivial hne h2 hvi hv he
      rw [← this] at hy
      exact hy hH
    · have h2 := p.sim.dom y trivial hy
      have h3 : y < n1 := by
        rcases p.dom y h2 with h | h
        · exact absurd (hd y h) (by omega)
        · exact h.2
      rcases p.news y h1 h3 trivial hy hv with h4 | ⟨z, z1, z2, z3, z4, z5⟩
      · rw [← he] at h4; omega
      · rw [← he] at z5
        have := hS.inj i z trivial trivial hne z3 hvi z4 z5
        rw [this] at hi
        exact hi z1
  refine hK E' v w' hv ⟨⟨p.le, p.dom, ⟨p.sim.fz, fun y _ hy => ?_, fun y _ hy hv => ?_, fun y B _ hB' => ?_, fun y z _ _ hy hz hvy hvz he => ?_⟩, fun b hb hne' => p.frame b hb fun x hx => hne' x (List.mem_cons_of_mem _ hx), fun y h1 h2 _ hy hv => ?_, p.size, p.os, p.tape, p.output⟩, fun y h1 _ hy => ?_⟩
  · by_cases e : i = y
    · rw [← e]; exact p.le.dom i hdi
    · exact p.sim.dom y trivial (hn y e hy)
  · by_cases e : i = y
    · rw [← e, eρ]
      refine ⟨Nat.lt_of_lt_of_le hlow.1 p.size, ?_⟩
      rw [fr.2]; exact hlow.2
    · exact p.sim.low y trivial (hn y e hy) hv
  · rw [hg] at hB'
    by_cases e : i = y
    · rw [if_pos e] at hB'; cases hB'
      rw [← e, eρ, fr.1]
      exact hb0.mono p.le hdi
    · rw [if_neg e] at hB'; exact p.sim.blk y B trivial hB'
  · by_cases e : i = y
    · by_cases e2 : i = z
      · rw [← e, ← e2]
      · rw [← e] at he; exact absurd he (apart z (hn z e2 hz) hvz)
    · by_cases e2 : i = z
      · rw [← e2] at he; exact absurd he.symm (apart y (hn y e hy) hvy)
      · exact p.sim.inj y z trivial trivial (hn y e hy) (hn z e2 hz) hvy hvz he
  · by_cases e : i = y
    · omega
    · exact (p.news y h1 h2 trivial (hn y e hy) hv).imp id fun ⟨z, z1, z2⟩ => ⟨z, List.mem_cons_of_mem _ z1, z2⟩
  · by_cases e : i = y
    · rw [← e]; exact hne
    · exact p.old y h1 trivial (hn y e hy)
end Go.Proofs.YtamjnhpkmhbkcaaGreatDoor
