/-
  PARTS, one behind the other: NZ NC0 NC1.
-/
import Derived.Test.YtdlghljhgbakjaaDoorWe3
import Derived.LaidMore
/-
  PART: the row of a law, under the condition that package-level variables hold what the text lays.
-/
namespace Go.Proofs.YtdlghljhgbakjaaDoor
open Go.ChangeShapes Go.WideShapes Go.ChangeAt Go.WideMaps Go.WideElems Go.RowKit

theorem law_lifted_laid {C : Checked} {os : Os} (started : os.Started) (own : ownKnob C.prog.godebug = none) {f : Nat} {fn : Func} (noInit : C.prog.inits.idxOf? f = none) (hfn : C.prog.funcs[f]? = some fn)
    {spec : ChangeSpec} (hvars : spec.vars = []) {tb : TypeId} (hres : fn.resultTypes = #[tb]) (htb : C.prog.underlying tb = some .bool)
    (hspec : ∀ (H : Type) (ds : List (DataW H)), ds.length = fn.params.size → (spec.fn H ds).results = [.lit (.bool true)] ∧ (spec.fn H ds).args = ds ∧ (spec.fn H ds).vars = [])
    (hlaid : laidOutB C.prog = true) (hread : (fn.params.toList.all fun t => C.prog.readableRec t && decide (t < C.prog.types.size)) = true)
    {n : Nat} {ks : List (Bool × List Ck)} (hks : argShs C.prog n fn.params.toList = some ks) (hrun : LawRuns C.prog f ks) {laid : List (String × DataW Unit)} (hGM : ∀ W, laidMetH C.prog laid W → GlobW W)
    (H : Type) (enc : TypeId × Value → H)
    (witness : ∃ (w : World) (tape : Tape) (i : Input), w.os = os ∧ (w.forCall tape i).Shaped C.prog ∧ i.vars = [] ∧ Input.okWide C.prog (w.forCall tape i) .any w.heap.size f i ∧
      ((spec.pre enc C.prog fn [] false (w.forCall tape i).memory i.args ∧ laidMetH C.prog laid (w.forCall tape i).memory) ∧ sizedMet enc C.prog fn (OpenSpec.ofChange spec) false (w.forCall tape i).memory i.args) ∧ Assume.holds {} C.prog (lone (Frame.enter C.prog f i.args .normal) [] (w.forCall tape i))) :
    ReturnsInHanded {} C os f .any (fun w args => (spec.pre enc C.prog fn [] false w args ∧ laidMetH C.prog laid w) ∧ sizedMet enc C.prog fn (OpenSpec.ofChange spec) false w args) (spec.post enc C.prog fn false true false false) := by
  refine returnsInHanded_of_change_and (X := fun w _ => laidMetH C.prog laid w) (fun _ _ _ hh h => h.of_heap hh) own started noInit hfn witness ?_
  intro W base args ds gs before hval hW _ _ hL _
  have hW' := hW
  obtain ⟨p, q, hA, hV, rfl, hfz, hnd⟩ := hW
  rw [hvars] at hV
  obtain ⟨rfl, rfl⟩ := trodVars_none hV
  have hg : GlobW W := hGM W hL
  obtain ⟨as, r1, r2⟩ := args_told hg hks (fun j t v h1 h2 => hval j t v (by simpa using h1) (by simpa using h2)) hA
  have hlen : ∀ {ts : List TypeId} {vs : List Value} {ds : List (DataW H)} {p : List MemPlace}, DataW.TrodAll enc C.prog W 0 (fun _ => true) true ts vs ds p → ds.length = ts.length := by
    intro ts
    induction ts with
    | nil => intro vs ds p h; obtain ⟨rfl, rfl, rfl⟩ := trodAll_nil h; rfl
    | cons t ts ih => intro vs ds p h; obtain ⟨v, vs1, d, ds1, a, b, rfl, rfl, rfl, h1, h2⟩ := trodAll_cons h; simp [ih h2]
  have hds : (ds ++ []).length = fn.params.size := by rw [List.append_nil, hlen hA, Array.length_toList]
  obtain ⟨s1, s2, s3⟩ := hspec H (ds ++ []) hds
  have hlt : ∀ x ∈ p, x.block < W.heap.size := fun x hx => hW'.lt x (by simpa using hx)
  have hcalls := callsIn_wide.1 (hrun W hg args as r2 r1)
  refine hcalls.mono fun e W' ⟨v, he, hv, hq⟩ => ?_
  subst he hv
  refine ⟨_, rfl, _, _, _, [], p, [], hW', ?_, ?_, ?_, hq.below.frame _, fun h => by cases h⟩
  · rw [s1, hres]
    exact trodAll_mk1 (shut_bool htb true)
  · rw [s2, List.append_nil]
    exact trodAll_carry hlaid hq.below hread hA hlt
  · rw [s3, hvars]
    rfl
end Go.Proofs.YtdlghljhgbakjaaDoor

/-
  PART: stages of a walk whose ends tell what the function answers, its new rows as they stay; contracts of functions with open loops.
-/
namespace Go.Proofs.YtdlghljhgbakjaaDoor
open Go.RowKit

/-- What a function answers from a state: its new rows taken as they stay. -/
def resF (P : Program) (rs : List ResultVar) (s : St) : Option AV := match ressA P rs s with
  | .ret (as, s1) => some (frzD s1.hp 8 (oneA as))
  | _ => none
def lfR (nx0 : Nat) (ds : List (Nat × Bool)) (gb : Bool) (res : St → Option AV) (b : Ex × St) : Lf := match b.1 with
  | .ret => match res b.2 with
    | some a => .out a
    | none => .go .ret none
  | x => .go x (canon nx0 ds gb b.2)
section
variable {P : Program} {B : Start} {c : Code} {s : St} {R : Ex → St → Prop}
theorem wpc_of_lfR {cx : Cx} {n : Nat} (hc : CtrOk cx) (hfit : Fit cx.P) {ds : List (Nat × Bool)} {gb : Bool} {res : St → Option AV} {O : AV → Prop} (hcode : codeOk B.N c = true)
    (h : ((codeE cx (evs cx n) c s).map (lfR B.nx0 ds gb res)).wp (LfQ R O)) (ho : ∀ s a, res s = some a → O a → R .ret s) : WpC cx.P B c s R := by
  refine wpc_post (wpc_ev (R := fun x s => LfQ R O (lfR B.nx0 ds gb res (x, s))) hc hfit hcode (Tree.wp_map h)) fun x s' hq => ?_
  cases x with
  | ret =>
    cases hm : res s' with
    | none => simp only [lfR, hm] at hq; exact hq.elim
    | some a => simp only [lfR, hm] at hq; exact ⟨s', fun _ _ h => h, ho s' a hm hq⟩
  | norm =>
    cases hm : canon B.nx0 ds gb s' with
    | none => simp only [lfR, hm] at hq; exact hq.elim
    | some m => simp only [lfR, hm] at hq; exact ⟨m, canon_ok hm, hq⟩
  | exit id =>
    cases hm : canon B.nx0 ds gb s' with
    | none => simp only [lfR, hm] at hq; exact hq.elim
    | some m => simp only [lfR, hm] at hq; exact ⟨m, canon_ok hm, hq⟩
  | goto l =>
    cases hm : canon B.nx0 ds gb s' with
    | none => simp only [lfR, hm] at hq; exact hq.elim
    | some m => simp only [lfR, hm] at hq; exact ⟨m, canon_ok hm, hq⟩
/-- A stage: some pieces by the evaluator, what is behind them from the short states. -/
theorem wpc_stageR {cx : Cx} {n : Nat} (hc : CtrOk cx) (hfit : Fit cx.P) {l : List Code} {ds : List (Nat × Bool)} {gb : Bool} {res : St → Option AV} {O : AV → Prop} (hl : l ≠ []) (hok : (l.all fun a => codeOk B.N a) = true)
    (h : ((codeE cx (evs cx n) (joins l) s).map (lfR B.nx0 ds gb res)).wp (LfQ (fun x m => match x with | .norm => WpC cx.P B c m R | x => R x m) O)) (ho : ∀ s a, res s = some a → O a → R .ret s) : WpC cx.P B (seqs l c) s R := by
  refine wpc_post (R1 := fun x s' => ∃ m, HoldLe B s' m ∧ R x m) (wpc_evs hc hfit l s hl hok (Tree.wp_imp (fun q hq => ?_) (Tree.wp_map h))) fun x s' h => h
  obtain ⟨x, s'⟩ := q
  cases x with
  | ret =>
    cases hm : res s' with
    | none => simp only [lfR, hm] at hq; exact hq.elim
    | some a => simp only [lfR, hm] at hq; exact ⟨s', fun _ _ h => h, ho s' a hm hq⟩
  | norm =>
    cases hm : canon B.nx0 ds gb s' with
    | none => simp only [lfR, hm] at hq; exact hq.elim
    | some m =>
      simp only [lfR, hm] at hq
      exact wpc_pre (canon_ok hm) (wpc_imp hq fun x s1 h1 => ⟨s1, fun _ _ h => h, h1⟩)
  | exit id =>
    cases hm : canon B.nx0 ds gb s' with
    | none => simp only [lfR, hm] at hq; exact hq.elim
    | some m => simp only [lfR, hm] at hq; exact ⟨m, canon_ok hm, hq⟩
  | goto l =>
    cases hm : canon B.nx0 ds gb s' with
    | none => simp only [lfR, hm] at hq; exact hq.elim
    | some m => simp only [lfR, hm] at hq; exact ⟨m, canon_ok hm, hq⟩
/-- A loop in its block: each round from a short state. -/
theorem wpc_bloop0R {ι : Type} {cx : Cx} {n : Nat} (hc : CtrOk cx) (hfit : Fit cx.P) {body : Code} {id : Nat} (Inv : ι → St) (J : ι → Prop) (m : ι → Nat) (Out : St → Prop) {ds : List (Nat × Bool)} {gb : Bool} {res : St → Option AV} {O : AV → Prop} (hok : codeOk B.N body = true)
    (h : ∀ k, J k → ((codeE cx (evs cx n) body (Inv k)).map (lfR B.nx0 ds gb res)).wp (LfQ (RoundQ Inv J m id k Out) O)) (k : ι) (hk : J k) :
    WpC cx.P B (.block id (.loop body)) (Inv k) fun x s => (x = .norm ∧ ∃ m, HoldLe B s m ∧ Out m) ∨ (x = .ret ∧ ∃ a, res s = some a ∧ O a) := by
  refine wpc_block (R1 := fun x s => (x = .exit id ∧ ∃ m, HoldLe B s m ∧ Out m) ∨ (x = .ret ∧ ∃ a, res s = some a ∧ O a)) (wpc_loop Inv J m _ (fun k hk => ?_) k hk) ?_ ?_
  · refine wpc_imp (wpc_ev (R := fun x s => LfQ (RoundQ Inv J m id k Out) O (lfR B.nx0 ds gb res (x, s))) hc hfit hok (Tree.wp_map (h k hk))) fun x s' hq => ?_
    cases x with
    | ret =>
      cases hm : res s' with
      | none => simp only [lfR, hm] at hq; exact hq.elim
      | some a => simp only [lfR, hm] at hq; exact .inr ⟨by simp, .inr ⟨rfl, a, rfl, hq⟩⟩
    | norm =>
      cases hm : canon B.nx0 ds gb s' with
      | none => simp only [lfR, hm] at hq; exact hq.elim
      | some m' =>
        simp only [lfR, hm] at hq
        obtain ⟨k', rfl, h2, h3⟩ := hq
        exact .inl ⟨rfl, k', h2, h3, canon_ok hm⟩
    | exit id' =>
      cases hm : canon B.nx0 ds gb s' with
      | none => simp only [lfR, hm] at hq; exact hq.elim
      | some m =>
        simp only [lfR, hm] at hq
        obtain ⟨rfl, h2⟩ := hq
        exact .inr ⟨by simp, .inl ⟨rfl, m, canon_ok hm, h2⟩⟩
    | goto l =>
      cases hm : canon B.nx0 ds gb s' with
      | none => simp only [lfR, hm] at hq; exact hq.elim
      | some m => simp only [lfR, hm] at hq; exact hq.elim
  · rintro s1 (⟨_, h2⟩ | ⟨h1, _⟩)
    · exact .inl ⟨rfl, h2⟩
    · cases h1
  · rintro x s1 hx (⟨h1, h2⟩ | ⟨h1, h2⟩)
    · exact absurd h1 hx
    · exact .inr ⟨h1, h2⟩
/-- Ahead of more. -/
theorem wpc_bloopR {ι : Type} {cx : Cx} {n : Nat} (hc : CtrOk cx) (hfit : Fit cx.P) {body : Code} {id : Nat} (Inv : ι → St) (J : ι → Prop) (m : ι → Nat) (Out : St → Prop) {ds : List (Nat × Bool)} {gb : Bool} {res : St → Option AV} {O : AV → Prop} (hok : codeOk B.N body = true)
    (h : ∀ k, J k → ((codeE cx (evs cx n) body (Inv k)).map (lfR B.nx0 ds gb res)).wp (LfQ (RoundQ Inv J m id k Out) O)) (ho : ∀ s a, res s = some a → O a → R .ret s) (k : ι) (hk : J k) (hs : s = Inv k)
    (hout : ∀ s, Out s → WpC cx.P B c s R) : WpC cx.P B (.seq (.block id (.loop body)) c) s R := by
  subst hs
  refine wpc_seq (wpc_bloop0R hc hfit Inv J m Out hok h k hk) ?_ ?_
  · rintro s1 (⟨_, m, h1, h2⟩ | ⟨h1, _⟩)
    · exact wpc_pre h1 (hout m h2)
    · cases h1
  · rintro x s1 hx (⟨h1, _⟩ | ⟨rfl, a, h2, h3⟩)
    · exact absurd h1 hx
    · exact ho s1 a h2 h3
/-- A loop with what it begins with. -/
theorem wpc_iloopR {ι : Type} {cx : Cx} {n : Nat} (hc : CtrOk cx) (hfit : Fit cx.P) {a body : Code} {id : Nat} (Inv : ι → St) (J : ι → Prop) (m : ι → Nat) (Out : St → Prop) {ds : List (Nat × Bool)} {gb : Bool} {res : St → Option AV} {O : AV → Prop} (hok : codeOk B.N body = true)
    (h : ∀ k, J k → ((codeE cx (evs cx n) body (Inv k)).map (lfR B.nx0 ds gb res)).wp (LfQ (RoundQ Inv J m id k Out) O)) (ho : ∀ s a, res s = some a → O a → R .ret s) (hoka : codeOk B.N a = true)
    (hi : ((codeE cx (evs cx n) a s).map (lfR B.nx0 ds gb res)).wp (LfQ (fun x m => x = .norm ∧ ∃ k, m = Inv k ∧ J k) fun _ => False))
    (hout : ∀ s, Out s → WpC cx.P B c s R) : WpC cx.P B (.seq (.seq a (.block id (.loop body))) c) s R := by
  refine wpc_seq (R1 := fun x s => (x = .norm ∧ ∃ m, HoldLe B s m ∧ Out m) ∨ (x = .ret ∧ ∃ a, res s = some a ∧ O a)) (wpc_stageR (l := [a]) hc hfit (res := res) (O := fun _ => False) (by simp) (by simp [hoka]) (Tree.wp_imp (fun q hq => ?_) hi) fun _ _ _ h => h.elim) ?_ ?_
  · cases q with
    | out a => exact hq
    | go x m =>
      cases m with
      | none => exact hq
      | some m =>
        obtain ⟨rfl, k, rfl, hk⟩ := hq
        exact wpc_bloop0R hc hfit Inv J _ Out hok h k hk
  · rintro s1 (⟨_, m, h1, h2⟩ | ⟨h1, _⟩)
    · exact wpc_pre h1 (hout m h2)
    · cases h1
  · rintro x s1 hx (⟨h1, _⟩ | ⟨rfl, a, h2, h3⟩)
    · exact absurd h1 hx
    · exact ho s1 a h2 h3
/-- At a function's end. -/
def Ends (P : Program) (rs : List ResultVar) (O : AV → Prop) (x : Ex) (s : St) : Prop := (x = .ret ∨ x = .norm) ∧ ∃ a, resF P rs s = some a ∧ O a
theorem ends_ret {P : Program} {rs : List ResultVar} {O : AV → Prop} (s : St) (a : AV) (h : resF P rs s = some a) (ho : O a) : Ends P rs O .ret s := ⟨.inl rfl, a, h, ho⟩
theorem resF_wp {P : Program} {rs : List ResultVar} {s : St} {a : AV} {Q : AV → Prop} (h : resF P rs s = some a) (hq : Q a) : (ressA P rs s).wp fun b => Q (frzD b.2.hp 8 (oneA b.1)) := by
  unfold resF at h
  split at h
  · rename_i as s1 hr
    rw [hr]
    cases h
    exact hq
  · cases h
/-- A contract of a function with open loops. -/
theorem frz_of_ends {f : Nat} {fn : Func} {c : Code} (hfit : Fit P) (hfn : P.funcs[f]? = some fn) (hb : fn.body = some c) {args : List AV} (hle : args.length ≤ fn.ntmps) {a : AV} {O : AV → Prop}
    (h : ∀ (E : Env) (w : World) (hd : ∀ x, ¬ E.dom x) (hf : FzOk E w), WpC P (begins fn.ntmps E w hd hf) c (entry args) (Ends P fn.results.toList O))
    (hO : ∀ a', O a' → ∀ E v, Rep E a' v → Rep E a v) : FrzOk P f args a :=
  frz_of_wpc (d := 8) hfit hfn hb hle h fun _ _ ⟨hx, a', h1, h2⟩ => ⟨hx.symm, resF_wp (Q := fun a' => ∀ E v, Rep E a' v → Rep E a v) h1 (hO a' h2)⟩
/-- By evaluation: answers with their new rows as they stay. -/
def Tree.frz (t : Tree (AV × St)) : Tree AV := t.map fun b => frzD b.2.hp 8 b.1
theorem Tree.map_hit {α β : Type} {f : α → β} : ∀ {t : Tree α} {b : β}, (t.map f).hit b → ∃ a, t.hit a ∧ f a = b
  | .ret a, b, h => ⟨a, rfl, h⟩
  | .br _ t e, b, h => by
    rcases h with ⟨h1, h2⟩ | ⟨h1, h2⟩
    · obtain ⟨a, k1, k2⟩ := Tree.map_hit h2; exact ⟨a, .inl ⟨h1, k1⟩, k2⟩
    · obtain ⟨a, k1, k2⟩ := Tree.map_hit h2; exact ⟨a, .inr ⟨h1, k1⟩, k2⟩
  | .side _ t, b, h => by
    obtain ⟨a, k1, k2⟩ := Tree.map_hit (t := t) h.2; exact ⟨a, ⟨h.1, k1⟩, k2⟩
  | .fail, _, h => h.elim
end
theorem frz_ev {cx : Cx} (hc : CtrOk cx) (hfit : Fit cx.P) {n f : Nat} {args : List AV} {t : Tree AV} {a : AV} (h : ((evs cx n).call f args .nil).frz = t) (ha : t.wp fun a' => ∀ E v, Rep E a' v → Rep E a v) : FrzOk cx.P f args a := by
  obtain ⟨a', h1, h2⟩ := Tree.wp_hit ha
  rw [← h] at h1
  obtain ⟨⟨b, s⟩, h3, h4⟩ := Tree.map_hit h1
  subst h4
  exact (frz_of (evs_ok hc hfit n).calls h3 8).imp h2
end Go.Proofs.YtdlghljhgbakjaaDoor

/-
  PART: a nil slice in a slot, taken as an owned row of none; states laid short.
-/
namespace Go.Proofs.YtdlghljhgbakjaaDoor
open Go.RowKit
/-- A slot that is nil, as an owned row. -/
def St.nilOwn (s : St) (d : Nat) (elem : TypeId) (k : Nat) : St := { s with sl := (d, .own s.nx 0 k false) :: s.sl, hp := (s.nx, some (.arr elem 0 k fun _ => fit k [])) :: s.hp, nx := s.nx + 1 }
theorem hold_nilOwn {B : Start} {s : St} {d : Nat} {elem : TypeId} {k : Nat} (h : look s.sl d = .lit (.slice none 0 0)) : HoldLe B s (s.nilOwn d elem k) := by
  intro act w ⟨E, p, hf, hb, hwf, hd, hnx⟩
  have hx : ¬ E.dom s.nx := fun hx => absurd (hb _ hx) (Nat.lt_irrefl _)
  have hvr : (E.add s.nx 0 0 0 true).vir s.nx = true := by simp [Env.add]
  have hln : (E.add s.nx 0 0 0 true).ln s.nx = 0 := by simp [Env.add]
  have hB : ∀ o, BlkR (E.add s.nx 0 0 0 true) s.nx (.arr elem 0 k fun _ => fit k []) o := fun o => ⟨hln.symm, .inl ⟨hvr, rfl⟩⟩
  have hH : ∀ z, hget (s.nilOwn d elem k).hp z = if s.nx = z then some (.arr elem 0 k fun _ => fit k []) else hget s.hp z := fun z => by
    show hget ((s.nx, _) :: s.hp) z = _
    rw [hget_cons]
  have hl := Env.le_add (E := E) hx 0 0 0 true
  have q := Pst.virt (wr := List.range B.nx0) p.sim hx (hB none) hB hH
  refine ⟨E.add s.nx 0 0 0 true, Pst.trans B.sim (fun _ _ => trivial) p q hnx (Nat.le_succ _), ⟨hf.size, fun e => ?_⟩, fun x hx' => ?_, fun x hn => ?_, hd.env (fun _ _ h => h), Nat.le_succ_of_le hnx⟩
  · show Rep _ (look ((d, _) :: s.sl) e) _
    rw [look_cons]
    by_cases he : d = e
    · rw [if_pos he]
      subst he
      have hv := hf.slot d
      rw [h] at hv
      have key : ∀ z, Rep E (.lit (.slice none 0 0)) z → Rep (E.add s.nx 0 0 0 true) (.own s.nx 0 k false) z := fun z hz => by
        cases hz
        exact .ownNil (.inl rfl) hvr rfl hln.symm
      exact key _ hv
    · rw [if_neg he]; exact (hf.slot e).mono hl
  · rcases hx' with rfl | hx'
    · exact Nat.lt_succ_self _
    · exact Nat.lt_succ_of_lt (hb x hx')
  · rw [hH] at hn
    by_cases he : s.nx = x
    · subst he; exact Nat.lt_succ_self _
    · rw [if_neg he] at hn; exact Nat.lt_succ_of_lt (hwf x hn)
/-- A short state, one of its nil slots an owned row, short again. -/
def St.nilOwn? (nx0 : Nat) (ds : List (Nat × Bool)) (d : Nat) (elem : TypeId) (k : Nat) (s : St) : Option St := match look s.sl d with
  | .lit v => match isNilSl v with
    | true => canon nx0 ds true (s.nilOwn d elem k)
    | false => none
  | _ => none
theorem wpc_nilOwn {P : Program} {B : Start} {c : Code} {s m : St} {R : Ex → St → Prop} {ds : List (Nat × Bool)} {d : Nat} {elem : TypeId} {k : Nat} (h : St.nilOwn? B.nx0 ds d elem k s = some m) (hm : WpC P B c m R) : WpC P B c s R := by
  unfold St.nilOwn? at h
  split at h
  · rename_i v hv
    split at h
    · rename_i hn
      obtain rfl := isNilSl_eq hn
      exact wpc_pre (fun act w hh => canon_ok h act w (hold_nilOwn (elem := elem) (k := k) hv act w hh)) hm
    · cases h
  · cases h

section
variable {P : Program} {B : Start} {c : Code} {s : St} {R : Ex → St → Prop}
/-- What a round does that holds loops of its own. -/
def Round {ι : Type} (B : Start) (res : St → Option AV) (Inv : ι → St) (J : ι → Prop) (m : ι → Nat) (id : Nat) (k : ι) (Out : St → Prop) (O : AV → Prop) (x : Ex) (s : St) : Prop :=
  (x = .norm ∧ ∃ k', J k' ∧ m k' < m k ∧ HoldLe B s (Inv k')) ∨ (x = .exit id ∧ ∃ m, HoldLe B s m ∧ Out m) ∨ (x = .ret ∧ ∃ a, res s = some a ∧ O a)
theorem wpc_oloop0 {ι : Type} {body : Code} {id : Nat} (Inv : ι → St) (J : ι → Prop) (m : ι → Nat) (Out : St → Prop) {res : St → Option AV} {O : AV → Prop}
    (h : ∀ k, J k → WpC P B body (Inv k) (Round B res Inv J m id k Out O)) (k : ι) (hk : J k) : WpC P B (.block id (.loop body)) (Inv k) fun x s => (x = .norm ∧ ∃ m, HoldLe B s m ∧ Out m) ∨ (x = .ret ∧ ∃ a, res s = some a ∧ O a) := by
  refine wpc_block (R1 := fun x s => (x = .exit id ∧ ∃ m, HoldLe B s m ∧ Out m) ∨ (x = .ret ∧ ∃ a, res s = some a ∧ O a)) (wpc_loop Inv J m _ (fun k hk => wpc_imp (h k hk) fun x s' hq => ?_) k hk) ?_ ?_
  · rcases hq with ⟨h1, k', h2, h3, h4⟩ | ⟨h1, h2⟩ | ⟨h1, h2⟩
    · exact .inl ⟨h1, k', h2, h3, h4⟩
    · exact .inr ⟨by rw [h1]; simp, .inl ⟨h1, h2⟩⟩
    · exact .inr ⟨by rw [h1]; simp, .inr ⟨h1, h2⟩⟩
  · rintro s1 (⟨_, h2⟩ | ⟨h1, _⟩)
    · exact .inl ⟨rfl, h2⟩
    · cases h1
  · rintro x s1 hx (⟨h1, h2⟩ | ⟨h1, h2⟩)
    · exact absurd h1 hx
    · exact .inr ⟨h1, h2⟩
/-- Ahead of more. -/
theorem wpc_oloop {ι : Type} {body : Code} {id : Nat} (Inv : ι → St) (J : ι → Prop) (m : ι → Nat) (Out : St → Prop) {res : St → Option AV} {O : AV → Prop}
    (h : ∀ k, J k → WpC P B body (Inv k) (Round B res Inv J m id k Out O)) (ho : ∀ s a, res s = some a → O a → R .ret s) (k : ι) (hk : J k) (hs : s = Inv k) (hout : ∀ s, Out s → WpC P B c s R) : WpC P B (.seq (.block id (.loop body)) c) s R := by
  subst hs
  refine wpc_seq (wpc_oloop0 Inv J m Out h k hk) ?_ ?_
  · rintro s1 (⟨_, m, h1, h2⟩ | ⟨h1, _⟩)
    · exact wpc_pre h1 (hout m h2)
    · cases h1
  · rintro x s1 hx (⟨h1, _⟩ | ⟨rfl, a, h2, h3⟩)
    · exact absurd h1 hx
    · exact ho s1 a h2 h3
/-- A loop with what it begins with, at the end of a block. -/
theorem wpc_nest {ι : Type} {cx : Cx} {n : Nat} (hc : CtrOk cx) (hfit : Fit cx.P) {l : List Code} {id1 id2 : Nat} {ib rest : Code} (Inv : ι → St) (J : ι → Prop) (m : ι → Nat) (Out : St → Prop) {ds : List (Nat × Bool)} {gb : Bool} {res : St → Option AV} {O : AV → Prop} (hl : l ≠ []) (hok : (l.all fun a => codeOk B.N a) = true) (hokb : codeOk B.N ib = true)
    (hi : ((codeE cx (evs cx n) (joins l) s).map (lfR B.nx0 ds gb res)).wp (LfQ (fun x m => x = .norm ∧ ∃ k, m = Inv k ∧ J k) fun _ => False))
    (h : ∀ k, J k → ((codeE cx (evs cx n) ib (Inv k)).map (lfR B.nx0 ds gb res)).wp (LfQ (RoundQ Inv J m id2 k Out) O)) (ho : ∀ s a, res s = some a → O a → R .ret s)
    (hout : ∀ s, Out s → WpC cx.P B rest s R) : WpC cx.P B (.seq (.block id1 (seqs l (.block id2 (.loop ib)))) rest) s R := by
  refine wpc_seq (R1 := fun x s => (x = .norm ∧ ∃ m, HoldLe B s m ∧ Out m) ∨ (x = .ret ∧ ∃ a, res s = some a ∧ O a)) (wpc_block (R1 := fun x s => (x = .norm ∧ ∃ m, HoldLe B s m ∧ Out m) ∨ (x = .ret ∧ ∃ a, res s = some a ∧ O a)) (wpc_stageR hc hfit (res := res) (O := fun _ => False) hl hok (Tree.wp_imp (fun q hq => ?_) hi) fun _ _ _ h => h.elim) ?_ ?_) ?_ ?_
  · cases q with
    | out a => exact hq
    | go x m =>
      cases m with
      | none => exact hq
      | some m =>
        obtain ⟨rfl, k, rfl, hk⟩ := hq
        exact wpc_bloop0R hc hfit Inv J _ Out hokb h k hk
  · rintro s1 (⟨h1, _⟩ | ⟨h1, _⟩) <;> cases h1
  · rintro x s1 _ h1; exact h1
  · rintro s1 (⟨_, m, h1, h2⟩ | ⟨h1, _⟩)
    · exact wpc_pre h1 (hout m h2)
    · cases h1
  · rintro x s1 hx (⟨h1, _⟩ | ⟨rfl, a, h2, h3⟩)
    · exact absurd h1 hx
    · exact ho s1 a h2 h3
/-- The end of a round. -/
theorem wpc_roundEnd {ι : Type} {cx : Cx} {n : Nat} (hc : CtrOk cx) (hfit : Fit cx.P) {ds : List (Nat × Bool)} {gb : Bool} {res : St → Option AV} {O : AV → Prop} {Inv : ι → St} {J : ι → Prop} {m : ι → Nat} {id : Nat} {k : ι} {Out : St → Prop} (hcode : codeOk B.N c = true)
    (h : ((codeE cx (evs cx n) c s).map (lfR B.nx0 ds gb res)).wp (LfQ (RoundQ Inv J m id k Out) O)) : WpC cx.P B c s (Round B res Inv J m id k Out O) := by
  refine wpc_of_lfR hc hfit hcode (Tree.wp_imp (fun q hq => ?_) h) fun s a h1 h2 => .inr (.inr ⟨rfl, a, h1, h2⟩)
  cases q with
  | out a => exact hq
  | go x s' =>
    cases s' with
    | none => exact hq
    | some s' =>
      cases x with
      | norm => obtain ⟨k', rfl, h2, h3⟩ := hq; exact .inl ⟨rfl, k', h2, h3, fun _ _ h => h⟩
      | exit id' => obtain ⟨rfl, h2⟩ := hq; exact .inr (.inl ⟨rfl, s', fun _ _ h => h, h2⟩)
      | ret => exact hq.elim
      | goto l => exact hq.elim
theorem nilOwn_le {ds : List (Nat × Bool)} {d : Nat} {elem : TypeId} {k : Nat} {m : St} (h : St.nilOwn? B.nx0 ds d elem k s = some m) : HoldLe B s m := by
  unfold St.nilOwn? at h
  split at h
  · rename_i v hv
    split at h
    · rename_i hn
      obtain rfl := isNilSl_eq hn
      exact fun act w hh => canon_ok h act w (hold_nilOwn (elem := elem) (k := k) hv act w hh)
    · cases h
  · cases h
/-- A loop with what it begins with; its rounds by the rules. -/
theorem wpc_ioloop {ι : Type} {cx : Cx} {n : Nat} (hc : CtrOk cx) (hfit : Fit cx.P) {a body : Code} {id : Nat} (Inv : ι → St) (J : ι → Prop) (m : ι → Nat) (Out : St → Prop) {ds : List (Nat × Bool)} {gb : Bool} {res : St → Option AV} {O : AV → Prop} (hoka : codeOk B.N a = true)
    (hi : ((codeE cx (evs cx n) a s).map (lfR B.nx0 ds gb res)).wp (LfQ (fun x m => x = .norm ∧ ∃ k, HoldLe B m (Inv k) ∧ J k) fun _ => False))
    (h : ∀ k, J k → WpC cx.P B body (Inv k) (Round B res Inv J m id k Out O)) (ho : ∀ s a, res s = some a → O a → R .ret s)
    (hout : ∀ s, Out s → WpC cx.P B c s R) : WpC cx.P B (.seq (.seq a (.block id (.loop body))) c) s R := by
  refine wpc_seq (R1 := fun x s => (x = .norm ∧ ∃ m, HoldLe B s m ∧ Out m) ∨ (x = .ret ∧ ∃ a, res s = some a ∧ O a)) (wpc_stageR (l := [a]) hc hfit (res := res) (O := fun _ => False) (by simp) (by simp [hoka]) (Tree.wp_imp (fun q hq => ?_) hi) fun _ _ _ h => h.elim) ?_ ?_
  · cases q with
    | out a => exact hq
    | go x m =>
      cases m with
      | none => exact hq
      | some m =>
        obtain ⟨rfl, k, hm, hk⟩ := hq
        exact wpc_pre hm (wpc_oloop0 Inv J _ Out h k hk)
  · rintro s1 (⟨_, m, h1, h2⟩ | ⟨h1, _⟩)
    · exact wpc_pre h1 (hout m h2)
    · cases h1
  · rintro x s1 hx (⟨h1, _⟩ | ⟨rfl, a, h2, h3⟩)
    · exact absurd h1 hx
    · exact ho s1 a h2 h3
/-- What a round does, by the evaluator: its states may be weakened. -/
def RoundH {ι : Type} (B : Start) (Inv : ι → St) (J : ι → Prop) (m : ι → Nat) (id : Nat) (k : ι) (Out : St → Prop) (x : Ex) (s : St) : Prop := match x with
  | .norm => ∃ k', HoldLe B s (Inv k') ∧ J k' ∧ m k' < m k
  | .exit id' => id' = id ∧ ∃ m, HoldLe B s m ∧ Out m
  | .ret => False
  | .goto _ => False
theorem wpc_endH {ι : Type} {cx : Cx} {n : Nat} (hc : CtrOk cx) (hfit : Fit cx.P) {ds : List (Nat × Bool)} {gb : Bool} {res : St → Option AV} {O : AV → Prop} {Inv : ι → St} {J : ι → Prop} {m : ι → Nat} {id : Nat} {k : ι} {Out : St → Prop} (hcode : codeOk B.N c = true)
    (h : ((codeE cx (evs cx n) c s).map (lfR B.nx0 ds gb res)).wp (LfQ (RoundH B Inv J m id k Out) O)) : WpC cx.P B c s (Round B res Inv J m id k Out O) := by
  refine wpc_of_lfR hc hfit hcode (Tree.wp_imp (fun q hq => ?_) h) fun s a h1 h2 => .inr (.inr ⟨rfl, a, h1, h2⟩)
  cases q with
  | out a => exact hq
  | go x s' =>
    cases s' with
    | none => exact hq
    | some s' =>
      cases x with
      | norm => obtain ⟨k', h1, h2, h3⟩ := hq; exact .inl ⟨rfl, k', h2, h3, h1⟩
      | exit id' => obtain ⟨rfl, h2⟩ := hq; exact .inr (.inl ⟨rfl, h2⟩)
      | ret => exact hq.elim
      | goto l => exact hq.elim
/-- A loop with what it begins with, at the end of a block; its rounds by the rules. -/
theorem wpc_nestH {ι : Type} {cx : Cx} {n : Nat} (hc : CtrOk cx) (hfit : Fit cx.P) {l : List Code} {id1 id2 : Nat} {ib rest : Code} (Inv : ι → St) (J : ι → Prop) (m : ι → Nat) (Out : St → Prop) {ds : List (Nat × Bool)} {gb : Bool} {res : St → Option AV} {O : AV → Prop} (hl : l ≠ []) (hok : (l.all fun a => codeOk B.N a) = true)
    (hi : ((codeE cx (evs cx n) (joins l) s).map (lfR B.nx0 ds gb res)).wp (LfQ (fun x m => x = .norm ∧ ∃ k, HoldLe B m (Inv k) ∧ J k) fun _ => False))
    (h : ∀ k, J k → WpC cx.P B ib (Inv k) (Round B res Inv J m id2 k Out O)) (ho : ∀ s a, res s = some a → O a → R .ret s)
    (hout : ∀ s, Out s → WpC cx.P B rest s R) : WpC cx.P B (.seq (.block id1 (seqs l (.block id2 (.loop ib)))) rest) s R := by
  refine wpc_seq (R1 := fun x s => (x = .norm ∧ ∃ m, HoldLe B s m ∧ Out m) ∨ (x = .ret ∧ ∃ a, res s = some a ∧ O a)) (wpc_block (R1 := fun x s => (x = .norm ∧ ∃ m, HoldLe B s m ∧ Out m) ∨ (x = .ret ∧ ∃ a, res s = some a ∧ O a)) (wpc_stageR hc hfit (res := res) (O := fun _ => False) hl hok (Tree.wp_imp (fun q hq => ?_) hi) fun _ _ _ h => h.elim) ?_ ?_) ?_ ?_
  · cases q with
    | out a => exact hq
    | go x m =>
      cases m with
      | none => exact hq
      | some m =>
        obtain ⟨rfl, k, hm, hk⟩ := hq
        exact wpc_pre hm (wpc_oloop0 Inv J _ Out h k hk)
  · rintro s1 (⟨h1, _⟩ | ⟨h1, _⟩) <;> cases h1
  · rintro x s1 _ h1; exact h1
  · rintro s1 (⟨_, m, h1, h2⟩ | ⟨h1, _⟩)
    · exact wpc_pre h1 (hout m h2)
    · cases h1
  · rintro x s1 hx (⟨h1, _⟩ | ⟨rfl, a, h2, h3⟩)
    · exact absurd h1 hx
    · exact ho s1 a h2 h3
theorem HoldLe.refl (s : St) : HoldLe B s s := fun _ _ h => h
theorem HoldLe.trans {s1 s2 s3 : St} (h : HoldLe B s1 s2) (k : HoldLe B s2 s3) : HoldLe B s1 s3 := fun act w hh => k act w (h act w hh)
/-- Blocks whose rows have the same cells as far as they go. -/
inductive HpLe : List (Nat × Option Blk) → List (Nat × Option Blk) → Prop
  | nil : HpLe [] []
  | same {p : Nat × Option Blk} {l l' : List (Nat × Option Blk)} (t : HpLe l l') : HpLe (p :: l) (p :: l')
  | row {x : Nat} {ty : TypeId} {n k : Nat} {get get' : Nat → List AV} {l l' : List (Nat × Option Blk)} (h : ∀ i, i < n → get i = get' i) (t : HpLe l l') : HpLe ((x, some (.arr ty n k get)) :: l) ((x, some (.arr ty n k get')) :: l')
theorem HpLe.get {l l' : List (Nat × Option Blk)} (h : HpLe l l') (x : Nat) : hget l x = hget l' x ∨ ∃ ty n k get get', hget l x = some (.arr ty n k get) ∧ hget l' x = some (.arr ty n k get') ∧ ∀ i, i < n → get i = get' i := by
  induction h with
  | nil => exact .inl rfl
  | @same p l l' t ih =>
    obtain ⟨k, a⟩ := p
    simp only [hget_cons]
    split
    · exact .inl rfl
    · exact ih
  | row h t ih =>
    simp only [hget_cons]
    split
    · exact .inr ⟨_, _, _, _, _, rfl, rfl, h⟩
    · exact ih
theorem hold_rows {s m : St} (hsl : m.sl = s.sl) (hnx : m.nx = s.nx) (hhp : HpLe s.hp m.hp) : HoldLe B s m := by
  intro act w ⟨E, p, hf, hb, hwf, hd, hn⟩
  have al : ∀ x, hget m.hp x ≠ none → hget s.hp x ≠ none := fun x hx => by
    rcases hhp.get x with h | ⟨_, _, _, _, _, h1, h2, _⟩
    · rw [h]; exact hx
    · rw [h1]; simp
  refine ⟨E, ⟨⟨p.le, by rw [hnx]; exact p.dom, ⟨p.sim.fz, fun x hF h => p.sim.dom x hF (al x h), fun x hF h => p.sim.low x hF (al x h), fun x B' hF hB => ?_, fun x y hx hy h1 h2 => p.sim.inj x y hx hy (al x h1) (al y h2)⟩, p.frame, by rw [hnx]; exact fun x h1 h2 hF h => p.news x h1 h2 hF (al x h), p.size, p.os, p.tape, p.output⟩, fun x h1 hF h => p.old x h1 hF (al x h)⟩, ⟨hf.size, by rw [hsl]; exact hf.slot⟩, by rw [hnx]; exact hb, fun x h => by rw [hnx]; exact hwf x (al x h), hd, by rw [hnx]; exact hn⟩
  rcases hhp.get x with h | ⟨ty, n, k, get, get', h1, h2, h3⟩
  · exact p.sim.blk x B' hF (by rw [h]; exact hB)
  · rw [h2] at hB
    cases hB
    obtain ⟨q1, q2⟩ := p.sim.blk x _ hF h1
    refine ⟨q1, ?_⟩
    rcases q2 with q2 | ⟨q2, c, q3, q4, q5, q6, q7⟩
    · exact .inl q2
    · exact .inr ⟨q2, c, q3, q4, q5, q6, fun i hi => by rw [← h3 i hi]; exact q7 i hi⟩
end
theorem Tree.wp_eq {α : Type} {Q : α → Prop} {t t' : Tree α} (h : t = t') (hw : t'.wp Q) : t.wp Q := by rw [h]; exact hw
/-- A function with one open loop: what is ahead of it, its rounds, what is behind it. -/
theorem frz_loop {P : Program} (hfit : Fit P) {f : Nat} {fn : Func} {c : Code} (hfn : P.funcs[f]? = some fn) (hb : fn.body = some c) {args : List AV} (hle : Nat.ble args.length fn.ntmps = true) {a : AV} {O : AV → Prop} {ι : Type} {cx : Cx} (hc : CtrOk cx) (hP : cx.P = P) {n : Nat}
    {l : List Code} {a0 body tail : Code} {id : Nat} (hcode : c = seqs l (.seq (.seq a0 (.block id (.loop body))) tail)) (hl : l.isEmpty = false) (hok : ((l.all fun a => codeOk fn.ntmps a) && codeOk fn.ntmps a0 && codeOk fn.ntmps body && codeOk fn.ntmps tail) = true)
    {s1 : St} {ds0 ds : List (Nat × Bool)} {gb0 gb : Bool} (Inv : ι → St) (J : ι → Prop) (m : ι → Nat) (Out : St → Prop)
    (h0 : ((codeE cx (evs cx n) (joins l) (entry args)).map (lfR 0 ds0 gb0 (resF P fn.results.toList))).wp (LfQ (fun x s => x = .norm ∧ s = s1) O))
    (h1 : ((codeE cx (evs cx n) a0 s1).map (lfR 0 ds gb (resF P fn.results.toList))).wp (LfQ (fun x s => x = .norm ∧ ∃ k, (∀ B : Start, B.nx0 = 0 → HoldLe B s (Inv k)) ∧ J k) fun _ => False))
    (h2 : ∀ (B : Start), B.nx0 = 0 → ∀ k, J k → ((codeE cx (evs cx n) body (Inv k)).map (lfR 0 ds gb (resF P fn.results.toList))).wp (LfQ (RoundH B Inv J m id k Out) O))
    (h3 : ∀ s, Out s → ((codeE cx (evs cx n) tail s).map (lfR 0 [] false (resF P fn.results.toList))).wp (LfQ (fun _ _ => False) O))
    (hO : ∀ a', O a' → ∀ E v, Rep E a' v → Rep E a v) : FrzOk P f args a := by
  subst hP
  simp only [Bool.and_eq_true] at hok
  obtain ⟨⟨⟨k1, k2⟩, k3⟩, k4⟩ := hok
  refine frz_of_ends hfit hfn hb (Nat.le_of_ble_eq_true hle) (O := O) (fun E w hd hf => ?_) hO
  rw [hcode]
  refine wpc_stageR (n := n) (ds := ds0) (gb := gb0) (res := resF cx.P fn.results.toList) (O := O) hc hfit (fun e => by rw [e] at hl; cases hl) k1 (Tree.wp_imp (fun q hq => ?_) h0) ends_ret
  cases q with
  | out a => exact hq
  | go x m0 =>
    cases m0 with
    | none => exact hq
    | some m0 =>
      obtain ⟨rfl, rfl⟩ := hq
      show WpC _ _ _ _ _
      refine wpc_ioloop (n := n) (ds := ds) (gb := gb) (res := resF cx.P fn.results.toList) (O := O) hc hfit Inv J m Out k2 (Tree.wp_imp (fun q hq => ?_) h1) (fun k hk => wpc_endH (n := n) (ds := ds) (gb := gb) hc hfit k3 (h2 _ rfl k hk)) ends_ret fun s hs => wpc_of_lfR (n := n) (ds := []) (gb := false) (res := resF cx.P fn.results.toList) (O := O) hc hfit k4 (Tree.wp_imp (fun q hq => ?_) (h3 s hs)) ends_ret
      · cases q with
        | out a => exact hq
        | go x m1 =>
          cases m1 with
          | none => exact hq
          | some m1 =>
            obtain ⟨h4, k, h5, h6⟩ := hq
            exact ⟨h4, k, h5 _ rfl, h6⟩
      · cases q with
        | out a => exact hq
        | go x m1 =>
          cases m1 with
          | none => exact hq
          | some m1 => exact hq.elim
section
end
end Go.Proofs.YtdlghljhgbakjaaDoor
