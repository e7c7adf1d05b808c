/-
  PART: the row of a law: of any arguments that can be read, the law's run returns true, what was there stays.
-/
import Derived.Test.YtdlghljhgbakjaaDoorENV
import Derived.Carry
import Derived.ProofKit
import Derived.Stop.Joined
namespace Go.Proofs.YtdlghljhgbakjaaDoor
open Go.ChangeShapes Go.WideShapes Go.ChangeAt Go.WideMaps Go.WideElems Go.RowKit

/-- The shape of an argument of a type: whether it is a row of cells; its cells. -/
def argSh (P : Program) (n : Nat) (t : TypeId) : Option (Bool × List Ck) := match aggO P t, shT P n t with
  | some ag, some ks => match ag || Nat.beq ks.length 1 with
    | true => some (ag, ks)
    | false => none
  | _, _ => none
def argShs (P : Program) (n : Nat) : List TypeId → Option (List (Bool × List Ck))
  | [] => some []
  | t :: ts => match argSh P n t, argShs P n ts with
    | some x, some xs => some (x :: xs)
    | _, _ => none
def ArgOk : Bool × List Ck → AV → Prop
  | (true, ks), a => ∃ l, a = .agg l ∧ Shps ks l
  | (false, ks), a => Shps ks [a]
inductive ArgsOk : List (Bool × List Ck) → List AV → Prop
  | nil : ArgsOk [] []
  | cons {k : Bool × List Ck} {a : AV} {ks : List (Bool × List Ck)} {l : List AV} (h : ArgOk k a) (t : ArgsOk ks l) : ArgsOk (k :: ks) (a :: l)
section
variable {H : Type} {enc : TypeId × Value → H} {P : Program} {w : World}
theorem okWide_one {t : TypeId} {base : Nat} {v : Value} (ht : aggO P t = some false) (h : Value.okWide P w .any base t v) : ∀ cs, v ≠ .agg cs := by
  rintro cs rfl
  unfold aggO at ht
  unfold Value.okWide at h
  split at ht
  · cases ht
  · cases ht
  · rename_i d h1 h2 hd
    rw [hd] at h
    have hc : Cell.okWide P w .any base t (.agg cs) := by
      cases d <;> first | exact h | (exfalso; first | exact h1 _ rfl | exact h2 _ _ rfl)
    unfold Cell.okWide at hc
    rw [hd] at hc
    unfold Cell.ok at hc
    rw [hd] at hc
    cases d <;> simp at hc
  · cases ht
theorem okWide_agg {t : TypeId} {base : Nat} {v : Value} (ht : aggO P t = some true) (h : Value.okWide P w .any base t v) : ∃ cs, v = .agg cs := by
  unfold aggO at ht
  unfold Value.okWide at h
  split at ht
  · rename_i hd; rw [hd] at h; obtain ⟨cs, h1, _⟩ := h; exact ⟨cs, h1⟩
  · rename_i hd; rw [hd] at h; obtain ⟨cs, h1, _⟩ := h; exact ⟨cs, h1⟩
  · cases ht
  · cases ht
theorem cells_scalar {v : Value} (h : ∀ cs, v ≠ .agg cs) : v.cells.toList = [v] := by
  cases v <;> first | rfl | exact absurd rfl (h _)
theorem arg_told {n : Nat} {t : TypeId} {k : Bool × List Ck} {v : Value} {d : DataW H} {p : List MemPlace} {base : Nat} (hg : GlobW w) (hk : argSh P n t = some k) (hv : Value.okWide P w .any base t v)
    (h : DataW.Trod enc P w 0 (fun _ => true) true t v d p) : ∃ a, Rep (frozenE w hg) a v ∧ ArgOk k a := by
  unfold argSh at hk
  split at hk
  · rename_i ag ks h1 h2
    split at hk
    · rename_i hb
      cases hk
      obtain ⟨fuel, hf⟩ := h
      obtain ⟨l, r1, r2, r3⟩ := told (E := frozenE w hg) n t ks h2 (fun b c ty fr hb => frozenE_fz hb) fuel _ _ hf
      cases ag with
      | true =>
        obtain ⟨cs, rfl⟩ := okWide_agg h1 hv
        exact ⟨.agg l, .agg r1 r3, l, rfl, r2⟩
      | false =>
        have hl : ks.length = 1 := by simpa using Nat.eq_of_beq_eq_true hb
        have hc := cells_scalar (okWide_one h1 hv)
        rw [hc] at r1
        cases r1 with
        | cons q1 q2 => cases q2; exact ⟨_, q1, r2⟩
    · cases hk
  · cases hk
theorem args_told (hg : GlobW w) {n : Nat} {base : Nat} : ∀ {ts : List TypeId} {ks : List (Bool × List Ck)} {vs : List Value} {ds : List (DataW H)} {p : List MemPlace}, argShs P n ts = some ks →
    (∀ (j : Nat) t v, ts[j]? = some t → vs[j]? = some v → Value.okWide P w .any base t v) → DataW.TrodAll enc P w 0 (fun _ => true) true ts vs ds p → ∃ as, Reps (frozenE w hg) as vs ∧ ArgsOk ks as
  | [], ks, vs, ds, p, hk, hv, h => by
    obtain ⟨rfl, rfl, rfl⟩ := trodAll_nil h
    cases hk
    exact ⟨[], .nil, .nil⟩
  | t :: ts, ks, vs, ds, p, hk, hv, h => by
    obtain ⟨v, vs1, d, ds1, a, b, rfl, rfl, rfl, h1, h2⟩ := trodAll_cons h
    unfold argShs at hk
    split at hk
    · rename_i x xs e1 e2
      cases hk
      obtain ⟨a, q1, q2⟩ := arg_told hg e1 (hv 0 t v rfl rfl) h1
      obtain ⟨as, q3, q4⟩ := args_told hg e2 (fun j t' v' h1 h2 => hv (j + 1) t' v' (by simpa using h1) (by simpa using h2)) h2
      exact ⟨a :: as, .cons q1 q3, .cons q2 q4⟩
    · cases hk
theorem trodAll_carry (hl : laidOutB P = true) {w' : World} (hb : Below w.heap.size w w') : ∀ {ts : List TypeId} {vs : List Value} {ds : List (DataW H)} {p : List MemPlace}, (ts.all fun t => P.readableRec t && decide (t < P.types.size)) = true →
    DataW.TrodAll enc P w 0 (fun _ => true) true ts vs ds p → (∀ x ∈ p, x.block < w.heap.size) → DataW.TrodAll enc P w' 0 (fun b => decide (b < w.heap.size)) true ts vs ds p
  | [], vs, ds, p, _, h, _ => by
    obtain ⟨rfl, rfl, rfl⟩ := trodAll_nil h
    rfl
  | t :: ts, vs, ds, p, ha, h, hlt => by
    obtain ⟨v, vs1, d, ds1, a, b, rfl, rfl, rfl, h1, h2⟩ := trodAll_cons h
    simp only [List.all_cons, Bool.and_eq_true, decide_eq_true_eq] at ha
    exact ⟨a, b, Below.trod hl ha.1.1 ha.1.2 h1 hb fun x hx => hlt x (List.mem_append.2 (.inl hx)), trodAll_carry hl hb ha.2 h2 fun x hx => hlt x (List.mem_append.2 (.inr hx)), rfl⟩
end
/-- What a law's proof owes: its run, from arguments of the right shapes. -/
def LawRuns (P : Program) (f : Nat) (ks : List (Bool × List Ck)) : Prop :=
  ∀ (w : World) (hg : GlobW w) (vals : Array Value) (as : List AV), ArgsOk ks as → Reps (frozenE w hg) as vals.toList → CallsIn Fence.wide 0 P f vals w fun e w' => ∃ v, e = .returned v ∧ v = .bool true ∧ Quiet w w'
theorem law_lifted {C : Checked} {os : Os} (started : os.Started) (own : ownKnob C.prog.godebug = none) {f : Nat} {fn : Func} (noInit : C.prog.inits.idxOf? f = none) (hfn : C.prog.funcs[f]? = some fn)
    {spec : ChangeSpec} (hvars : spec.vars = []) {tb : TypeId} (hres : fn.resultTypes = #[tb]) (htb : C.prog.underlying tb = some .bool)
    (hspec : ∀ (H : Type) (ds : List (DataW H)), ds.length = fn.params.size → (spec.fn H ds).results = [.lit (.bool true)] ∧ (spec.fn H ds).args = ds ∧ (spec.fn H ds).vars = [])
    (hlaid : laidOutB C.prog = true) (hread : (fn.params.toList.all fun t => C.prog.readableRec t && decide (t < C.prog.types.size)) = true)
    {n : Nat} {ks : List (Bool × List Ck)} (hks : argShs C.prog n fn.params.toList = some ks) (hrun : LawRuns C.prog f ks) (hGM : ∀ g, GM g = none)
    (H : Type) (enc : TypeId × Value → H)
    (witness : ∃ (w : World) (tape : Tape) (i : Input), w.os = os ∧ (w.forCall tape i).Shaped C.prog ∧ i.vars = [] ∧ Input.okWide C.prog (w.forCall tape i) .any w.heap.size f i ∧
      spec.pre6 enc C.prog fn [] false (w.forCall tape i).memory i.args ∧ Assume.holds {} C.prog (lone (Frame.enter C.prog f i.args .normal) [] (w.forCall tape i))) :
    ReturnsInHanded {} C os f .any (spec.pre6 enc C.prog fn [] false) (spec.post enc C.prog fn false true false false) := by
  refine returnsInHanded_of_change own started noInit hfn witness ?_
  intro W base args ds gs before hval hW _ _
  have hW' := hW
  obtain ⟨p, q, hA, hV, rfl, hfz, hnd⟩ := hW
  rw [hvars] at hV
  obtain ⟨rfl, rfl⟩ := trodVars_none hV
  have hg : GlobW W := fun g c h => by rw [hGM g] at h; cases h
  obtain ⟨as, r1, r2⟩ := args_told hg hks (fun j t v h1 h2 => hval j t v (by simpa using h1) (by simpa using h2)) hA
  have hlen : ∀ {ts : List TypeId} {vs : List Value} {ds : List (DataW H)} {p : List MemPlace}, DataW.TrodAll enc C.prog W 0 (fun _ => true) true ts vs ds p → ds.length = ts.length := by
    intro ts
    induction ts with
    | nil => intro vs ds p h; obtain ⟨rfl, rfl, rfl⟩ := trodAll_nil h; rfl
    | cons t ts ih => intro vs ds p h; obtain ⟨v, vs1, d, ds1, a, b, rfl, rfl, rfl, h1, h2⟩ := trodAll_cons h; simp [ih h2]
  have hds : (ds ++ []).length = fn.params.size := by rw [List.append_nil, hlen hA, Array.length_toList]
  obtain ⟨s1, s2, s3⟩ := hspec H (ds ++ []) hds
  have hlt : ∀ x ∈ p, x.block < W.heap.size := fun x hx => hW'.lt x (by simpa using hx)
  have hcalls := callsIn_wide.1 (hrun W hg args as r2 r1)
  refine hcalls.mono fun e W' ⟨v, he, hv, hq⟩ => ?_
  subst he hv
  refine ⟨_, rfl, _, _, _, [], p, [], hW', ?_, ?_, ?_, hq.below.frame _, fun h => by cases h⟩
  · rw [s1, hres]
    exact trodAll_mk1 (shut_bool htb true)
  · rw [s2, List.append_nil]
    exact trodAll_carry hlaid hq.below hread hA hlt
  · rw [s3, hvars]
    rfl
end Go.Proofs.YtdlghljhgbakjaaDoor
