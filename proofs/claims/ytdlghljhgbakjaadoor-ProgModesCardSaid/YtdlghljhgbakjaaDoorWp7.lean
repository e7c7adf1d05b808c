/-
  PARTS, one behind the other: P1.
-/
import Derived.Test.YtdlghljhgbakjaaDoorWp6
/-
  PART: law 9: strings.Join, by the shelf's contract; a table with it.
-/
namespace Go.Proofs.YtdlghljhgbakjaaDoor
open Go.RowKit
theorem pure_of_below {P : Program} {f : Nat} {fn : Func} {c : Code} (hfit : Fit P) (hfn : P.funcs[f]? = some fn) (hb : fn.body = some c) {args : List AV} {v0 : Value} (h1 : one1 v0 = true)
    (h : ∀ (E : Env) (w : World) (vals : Array Value), FzOk E w → Reps E args vals.toList → Calls P f vals w fun e w' => e = .returned v0 ∧ Below w.heap.size w w') : PureOk P f args (.v v0) := by
  intro rr E w vals K hd hf hr hK
  have hname' : ¬ fn.name = "runtime.NumGoroutine" := by simpa using (fit_func hfit hfn hb).2
  refine .inr ⟨by simp [callFunc, hfn, hname', hb], ?_⟩
  have hc : CallsIn Fence.wide 0 P f vals w fun e w' => ∃ v, e = .returned v ∧ K v w' := callsIn_wide.2 ((h E w vals hf hr).mono fun e w' ⟨h2, h3⟩ => by
    subst h2
    exact ⟨v0, rfl, hK v0 _ (fun E => .v _ h1) ⟨fun b hb => h3.block b hb, h3.size, h3.os, h3.tape, h3.output⟩⟩)
  cases rr with
  | none => exact hc
  | some l => exact hc.inRound l
def strG : List AV → ByteArray
  | [.lit (.string s)] => s
  | [.v (.string s)] => s
  | _ => .empty
def isStr : List AV → Bool
  | [.lit (.string _)] => true
  | [.v (.string _)] => true
  | _ => false
theorem strG_ok {E : Env} {l : List AV} {vs : List Value} (h : isStr l = true) (hr : Reps E l vs) : vs = [.string (strG l)] := by
  unfold isStr at h
  split at h
  · cases hr with | cons h1 t => cases t; cases h1; rfl
  · cases hr with | cons h1 t => cases t; cases h1; rfl
  · cases h
def joinX (n : Nat) (get : Nat → List AV) (s : ByteArray) : List UInt8 := Lib.join (((List.range n).map fun j => strG (get j)).map (·.data.toList)) s.data.toList
theorem join_ok {n : Nat} {get : Nat → List AV} {nl full : Bool} {s : ByteArray} {sep : AV} (hsep : ∀ E v, Rep E sep v → v = .string s) (h1 : ∀ j, j < n → isStr (get j) = true) (h2 : n ≤ 140737488355328) (h3 : (joinX n get s).length ≤ 140737488355328) :
    PureOk Tryd.prog 142 [.sl n 1 get nl full, sep] (.v (.string ⟨(joinX n get s).toArray⟩)) :=
  pure_of_below fitTry Tryd.func142 (c := codeOf Tryd.f142) (by kernel_rfl) rfl fun E w vals hf hr => by
    obtain ⟨u, hu, hru⟩ : ∃ u, vals = #[u, .string s] ∧ Rep E (.sl n 1 get nl full) u := by
      obtain ⟨l⟩ := vals
      cases hr with | cons q1 t => cases t with | cons q2 t => cases t; rw [hsep _ _ q2]; exact ⟨_, rfl, q1⟩
    subst hu
    let xs := (List.range n).map fun j => strG (get j)
    have hxl : xs.length = n := by simp [xs]
    cases hru with
    | slNil hn =>
      subst hn
      exact (shf_strings_Join_none none 0 s w).mono fun e w' ⟨q1, q2⟩ => ⟨q1, q2 ▸ Below.refl _ _⟩
    | @slEmp _ _ cap a _ _ _ hn hfl =>
      subst hn
      exact (shf_strings_Join_none (some a) cap s w).mono fun e w' ⟨q1, q2⟩ => ⟨q1, q2 ▸ Below.refl _ _⟩
    | @sl _ _ b off cap _ _ _ c hfz hs hfl hc hrr ho =>
      obtain ⟨ty, fr, hb⟩ := hf b c hfz
      have := shf_strings_Join b off cap xs s w (fun j x hx => ?_) (blkW_some_lt hb) (by omega) (by omega) h3
      · rw [hxl] at this
        exact this
      · have hj : j < n := by have := (List.getElem?_eq_some_iff.1 hx).1; omega
        have hxj : x = strG (get j) := by
          simp only [xs, List.getElem?_map, List.getElem?_range hj, Option.map_some, Option.some.injEq] at hx
          exact hx.symm
        have h5 := strG_ok (h1 j hj) (hrr j hj)
        rw [cell_blk hb]
        have h6 : c.toList[off + j]? = some (.string (strG (get j))) := by
          have := congrArg (fun l => l[0]?) h5
          simpa [List.getElem?_take, List.getElem?_drop] using this
        rw [hxj, ← h6, Array.getElem?_toList]
noncomputable section
noncomputable def litIf (b : Bool) (v : Value) : AV := match b with
  | true => .lit v
  | false => .v v
theorem litIf_of {b : Bool} {v u : Value} {E : Env} (h : Rep E (.v v) u) : Rep E (litIf b v) u := by
  cases h with | v _ h =>
  cases b
  · exact .v _ h
  · exact .lit _ h
/-- strings.Join. -/
noncomputable def tabJ (f : Nat) (args : List AV) : Option (Tree AV) := match f, args with
  | 142, [.sl n k get nl _, sep] => match Nat.beq k 1, scal sep with
    | true, some (.string s, l) => some (closed (nl && (l && (List.range n).all fun j => isLitB (get j))) ((∀ j, j < n → isStr (get j) = true) ∧ n ≤ 140737488355328 ∧ (joinX n get s).length ≤ 140737488355328)
        (.ret (litIf (nl && (l && (List.range n).all fun j => isLitB (get j))) (.string ⟨(joinX n get s).toArray⟩))))
    | _, _ => none
  | _, _ => none
theorem tabJ_ok : TabOk Tryd.prog tabJ := by
  intro f args t a ht hh
  unfold tabJ at ht
  split at ht
  · split at ht
    · rename_i k hk hs
      cases ht
      obtain ⟨⟨h1, h2, h3⟩, h4⟩ := closed_hit hh
      cases h4
      obtain rfl := Nat.eq_of_beq_eq_true hk
      exact (join_ok (fun E v hv => (scal_rep hs hv).1) h1 h2 h3).imp fun v hv E => litIf_of (hv E)
    · cases ht
  · cases ht
noncomputable def noF (_ : Nat) (_ : List AV) : Option (Tree AV) := none
theorem noF_ok {P : Program} : TabFOk P noF := fun _ _ _ _ h => by cases h
noncomputable def cxJ (dec : Nat → St → Option Bool) : Cx := ⟨Tryd.prog, ctrOf2 tabJ noF, dec⟩
theorem cxJ_ok (dec : Nat → St → Option Bool) : CtrOk (cxJ dec) := ctrOf2_ok tabJ_ok noF_ok dec
noncomputable def c37 : Code := codeOf Tryd.f37
noncomputable def c9 : Code := codeOf Tryd.f9
noncomputable def ev (n : Nat) (c : Code) (s : St) : Tree (Ex × St) := codeE (cxJ (decL [])) (evs (cxJ (decL [])) n) c s
noncomputable def callT (n f : Nat) (args : List AV) : Tree (AV × St) := (evs (cxJ (decL [])) n).call f args .nil
def Tree.kind {α : Type} : Tree α → List Nat
  | .ret _ => [1]
  | .br _ t e => 2 :: (t.kind ++ e.kind)
  | .side _ t => 3 :: t.kind
  | .fail => [0]
end
end Go.Proofs.YtdlghljhgbakjaaDoor
