/-
  PART: contracts of View's functions, as functions of times.
-/
import Derived.Test.YtkmhabbpndcnkaaP0
namespace Go.Proofs.Ytkmhabbpndcnkaa
open Go.RowKit
/-- The answers alone. -/
def Tree.ans : Tree (AV × St) → Tree AV
  | .ret b => .ret b.1
  | .br c t e => .br c t.ans e.ans
  | .side p t => .side p t.ans
  | .fail => .fail
theorem Tree.ans_hit : ∀ {t : Tree (AV × St)} {a : AV}, t.ans.hit a → ∃ s, t.hit (a, s)
  | .ret b, a, h => by cases h; exact ⟨b.2, rfl⟩
  | .br _ _ _, a, h => by
    rcases h with ⟨h1, h2⟩ | ⟨h1, h2⟩
    · obtain ⟨s, k⟩ := Tree.ans_hit h2; exact ⟨s, .inl ⟨h1, k⟩⟩
    · obtain ⟨s, k⟩ := Tree.ans_hit h2; exact ⟨s, .inr ⟨h1, k⟩⟩
  | .side _ t, a, h => by
    obtain ⟨s, k⟩ := Tree.ans_hit (t := t) h.2; exact ⟨s, h.1, k⟩
  | .fail, a, h => h.elim
theorem pure_ans {cx : Cx} (hc : CtrOk cx) (hfit : Fit cx.P) {n f : Nat} {args : List AV} {a : AV} (h : ((evs cx n).call f args .nil).ans.hit a) {d : Nat} (hp : plainA d a = true) : PureOk cx.P f args a :=
  let ⟨_, k⟩ := Tree.ans_hit h
  pure_of (evs_ok hc hfit n).calls k hp
theorem PureOk.pre {P : Program} {f : Nat} {args args' : List AV} {a : AV} (h : PureOk P f args' a) (ha : ∀ E vs, Reps E args vs → Reps E args' vs) : PureOk P f args a :=
  fun rr E w vals K hd hf hargs hK => h rr E w vals K hd hf (ha E _ hargs) hK
def iv (z : Int) : AV := .v (.int .i64 z)
def ivs (n : Nat) (f : Nat → Int) : List AV := (List.range n).map fun i => iv (f i)
def intC : AV → Option Int
  | .v (.int .i64 z) => some z
  | .lit (.int .i64 z) => some z
  | _ => none
def intsC : List AV → Option (List Int)
  | [] => some []
  | a :: l => match intC a, intsC l with
    | some z, some zs => some (z :: zs)
    | _, _ => none
/-- So many times. -/
def timesC (n : Nat) (l : List AV) : Option (Nat → Int) := match intsC l with
  | some zs => match Nat.beq zs.length n with
    | true => some fun i => zs.getD i 0
    | false => none
  | none => none
section
variable {E : Env}
theorem intC_ok {a : AV} {z : Int} (h : intC a = some z) {v : Value} (hv : Rep E a v) : Rep E (iv z) v := by
  unfold intC at h
  split at h
  · cases h; exact hv
  · cases h; cases hv; exact .v _ rfl
  · cases h
theorem intsC_ok : ∀ {l : List AV} {zs : List Int}, intsC l = some zs → ∀ {vs : List Value}, Reps E l vs → Reps E (zs.map iv) vs
  | [], zs, h, vs, hv => by cases h; cases hv; exact .nil
  | a :: l, zs, h, vs, hv => by
    unfold intsC at h
    split at h
    · rename_i z zs' h1 h2
      cases h
      cases hv with
      | cons hv ht => exact .cons (intC_ok h1 hv) (intsC_ok h2 ht)
    · cases h
theorem timesC_ok {n : Nat} {l : List AV} {f : Nat → Int} (h : timesC n l = some f) {vs : List Value} (hv : Reps E l vs) : Reps E (ivs n f) vs := by
  unfold timesC at h
  split at h
  · rename_i zs hz
    split at h
    · rename_i hb
      cases h
      have hn := Nat.eq_of_beq_eq_true hb
      subst hn
      have := intsC_ok hz hv
      have he : zs.map iv = ivs zs.length fun i => zs.getD i 0 := by
        apply List.ext_getElem
        · simp [ivs]
        · intro i h1 h2
          simp only [List.length_map] at h1
          simp [ivs, List.getD, h1]
      rwa [he] at this
    · cases h
  · cases h
end
noncomputable def cx0 : Cx := ⟨Try.prog, fun _ _ _ => none, fun _ => none⟩
theorem cx0_ok : CtrOk cx0 := ⟨fun _ _ _ _ h => (by cases h), fun _ _ _ _ _ _ h => (by cases h)⟩
def joinF (f g : Nat → Int) : Nat → Int := fun i => if g i > f i then g i else f i
theorem pure_hit {f : Nat} {args : List AV} {t : Tree AV} {a : AV} (h : ((evs cx0 60).call f args .nil).ans = t) (ha : t.hit a) (hp : plainA 4 a = true) : PureOk Try.prog f args a :=
  pure_ans (cx := cx0) cx0_ok fitTry (n := 60) (by rw [h]; exact ha) hp
theorem join_pure (f g : Nat → Int) : PureOk Try.prog 14 [.agg (ivs 8 f), .sl 1 8 (fun _ => ivs 8 g) true false] (.agg (ivs 8 (joinF f g))) :=
  pure_hit (t := .ret (.agg (ivs 8 (joinF f g)))) (by kernel_rfl) rfl (by kernel_rfl)
theorem Rep.tup_inv {E : Env} {l : List AV} {v : Value} (h : Rep E (.tup l) v) : ∃ vs : List Value, v = .tuple vs.toArray ∧ Reps E l vs := by
  cases h with | @tup _ cs h => exact ⟨cs.toList, by simp, h⟩
theorem Rep.agg_inv {E : Env} {l : List AV} {v : Value} (h : Rep E (.agg l) v) : ∃ vs : List Value, v = .agg vs.toArray ∧ Reps E l vs ∧ One vs := by
  cases h with | @agg _ cs h ho => exact ⟨cs.toList, by simp, h, ho⟩
theorem Rep.tup_mk {E : Env} {l : List AV} {vs : List Value} (h : Reps E l vs) : Rep E (.tup l) (.tuple vs.toArray) := .tup (by simpa using h)
theorem Rep.agg_mk {E : Env} {l : List AV} {vs : List Value} (h : Reps E l vs) (ho : One vs) : Rep E (.agg l) (.agg vs.toArray) := .agg (by simpa using h) (by simpa using ho)
def decL : List (Nat × Bool) → Nat → Option Bool
  | [], _ => none
  | (t, b) :: l, d => match Nat.beq t d with
    | true => some b
    | false => decL l d
end Go.Proofs.Ytkmhabbpndcnkaa
