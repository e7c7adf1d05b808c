/-
  PART: law 9 (SpanTells): the law's run.
-/
import Derived.Test.YtkmhabbpndcnkaaQ4
namespace Go.Proofs.Ytkmhabbpndcnkaa
open Go.RowKit
theorem pure_hitS {dec : Nat → Option Bool} {f : Nat} {args : List AV} {t : Tree AV} {a : AV} (h : ((evs (cxS7 dec) 60).call f args .nil).ans = t) (ha : t.hit a) (hp : plainA 4 a = true) : PureOk Try.prog f args a :=
  pure_hitX (cx := cxS7 dec) (cxS7_ok dec) rfl h ha hp
def neF (x y : Nat) : Bool := FloatKind.f64.format.order x y != some .eq
theorem neF_eq (x y : Nat) : neF x y = !eqF x y := rfl
section
variable (p q r s : Int) (a b c d : Nat)
def c53 : Bool := if (!(okS p q == okS p q)) = true then true else if (!(okS r s == okS r s)) = true then true else
  if okS p q = true then (if (!(mayS (unF (F a)) (unF (F b)) == true)) = true then true else if (!okS p q) = true then !(eqF (F a) 0 && eqF (F b) 0) else false)
  else if (!(mayS (unF (F a)) (unF (F b)) == (eqF (F a) 0 && eqF (F b) 0))) = true then true else if (!okS p q) = true then !(eqF (F a) 0 && eqF (F b) 0) else false
def c59 : Bool := if (!okS p q) = true then true else !okS r s
def c88 : Bool := if neF (F a) (FloatKind.f64.nearest p) = true then true else if neF (F b) (FloatKind.f64.nearest q) = true then true else
  if (endS (unF (F a)) (unF (F b)) (unF (F a)) != p) = true then true else endS (unF (F a)) (unF (F b)) (unF (F b)) != q
def s1 : Prop := (!(okS p q == okS p q)) = false → (!(okS r s == okS r s)) = false → IsF (F a) ∧ IsF (F b)
def s4 : Prop := neF (F a) (FloatKind.f64.nearest p) = false → neF (F b) (FloatKind.f64.nearest q) = false → (IsF (F a) ∧ IsF (F b)) ∧ ((endS (unF (F a)) (unF (F b)) (unF (F a)) != p) = false → IsF (F a) ∧ IsF (F b))
def all4 : Prop := (IsF (F a) ∧ IsF (F b)) ∧ IsF (F c) ∧ IsF (F d)
def ap : Bool := apartS (unF (F a)) (unF (F b)) (unF (F c)) (unF (F d)) == rapartB p q r s
def tc : Bool := touchS (unF (F a)) (unF (F b)) (unF (F c)) (unF (F d)) == (q == r)
def s7 : Prop := ap p q r s a b c d = true → all4 a b c d ∧ (tc q r a b c d = true → all4 a b c d)
def last7 : Bool := if ap p q r s a b c d = true then (if tc q r a b c d = true then compS (unF (F a)) (unF (F b)) (unF (F c)) (unF (F d)) == (if lessB r s p q = true then 1 else if lessB p q r s = true then -1 else 0) else false) else false
end
section
variable (p q r s : Int)
def treeA : Tree AV := .side (s1 p q r s (partS p q p) (partS p q q)) (.side (c53 p q r s (partS p q p) (partS p q q) = false) (.side (c59 p q r s = true) (.ret (.lit (.bool true)))))
def treeB : Tree AV := .side (s1 p q r s (partS p q p) (partS p q q)) (.side (c53 p q r s (partS p q p) (partS p q q) = false) (.side (c59 p q r s = false)
  (.side (s4 p q (partS p q p) (partS p q q)) (.side (c88 p q (partS p q p) (partS p q q) = false) (.side (all4 (partS p q p) (partS p q q) (partS r s r) (partS r s s)) (.side (s7 p q r s (partS p q p) (partS p q q) (partS r s r) (partS r s s))
    (.ret (.v (.bool (last7 p q r s (partS p q p) (partS p q q) (partS r s r) (partS r s s)))))))))))
theorem part_le (p q : Int) : partS p q p ≤ 1048576 ∧ partS p q q ≤ 1048576 ∧ mayS (partS p q p) (partS p q q) = true := by
  unfold partS
  cases h : okS p q with
  | false => simp [mayS]
  | true =>
    simp only [okS, decide_eq_true_eq] at h
    simp only [if_true]
    refine ⟨by omega, by omega, (mayS_iff _ _).2 (by omega)⟩
theorem part_ok {p q : Int} (h : okS p q = true) : (partS p q p : Int) = p ∧ (partS p q q : Int) = q ∧ 0 ≤ p ∧ 0 ≤ q := by
  unfold partS
  rw [h]
  simp only [okS, decide_eq_true_eq] at h
  simp only [if_true]
  omega
theorem facts : s1 p q r s (partS p q p) (partS p q q) ∧ c53 p q r s (partS p q p) (partS p q q) = false := by
  obtain ⟨h1, h2, h3⟩ := part_le p q
  refine ⟨fun _ _ => ⟨isF _ (M_le h1), isF _ (M_le h2)⟩, ?_⟩
  unfold c53
  rw [unF_F (M_le h1), unF_F (M_le h2), h3, eqF_zero (M_le h1), eqF_zero (M_le h2)]
  cases h : okS p q with
  | true => simp
  | false => simp [partS, h]
theorem compS_eq {a b c d : Nat} (h1 : mayS a b = true) (h2 : mayS c d = true) : compS a b c d = if b < d then -1 else if d < b then 1 else if a < c then -1 else if c < a then 1 else 0 := by
  unfold compS
  rw [if_pos ⟨h1, h2⟩]
  unfold cmpS
  by_cases e1 : b < d
  · simp [e1]
  · by_cases e2 : d < b
    · simp [e1, e2]
    · simp [e1, e2]
theorem law7_pure : ∃ b, PureOk Try.prog 7 [pr p q, pr r s] b ∧ IsTrue b := by
  obtain ⟨f1, f2⟩ := facts p q r s
  cases h : c59 p q r s with
  | true =>
    exact ⟨_, pure_hitS (dec := decL [(53, false), (59, true)]) (t := treeA p q r s) (by kernel_rfl) ⟨f1, f2, h, rfl⟩ (by kernel_rfl), isTrue_lit⟩
  | false =>
    obtain ⟨a1, a2, a3⟩ := part_le p q
    obtain ⟨b1, b2, b3⟩ := part_le r s
    have ho : okS p q = true ∧ okS r s = true := by
      unfold c59 at h
      cases h1 : okS p q <;> simp_all
    obtain ⟨k1, k2, k3, k4⟩ := part_ok ho.1
    obtain ⟨l1, l2, l3, l4⟩ := part_ok ho.2
    have ho1 := ho.1
    have ho2 := ho.2
    simp only [okS, decide_eq_true_eq] at ho1 ho2
    have hall : all4 (partS p q p) (partS p q q) (partS r s r) (partS r s s) := ⟨⟨isF _ (M_le a1), isF _ (M_le a2)⟩, isF _ (M_le b1), isF _ (M_le b2)⟩
    refine ⟨_, pure_hitS (dec := decL [(53, false), (59, false), (88, false)]) (t := treeB p q r s) (by kernel_rfl) ⟨f1, f2, h, fun _ _ => ⟨hall.1, fun _ => hall.1⟩, ?_, hall, fun _ => ⟨hall, fun _ => hall⟩, rfl⟩ (by kernel_rfl), isTrue_v ?_⟩
    · unfold c88
      rw [near_F k3, near_F k4, unF_F (M_le a1), unF_F (M_le a2), neF_eq, neF_eq, eqF_eq (M_le a1) (M_le (by omega)), eqF_eq (M_le a2) (M_le (by omega))]
      unfold endS
      rw [a3]
      have e1 : partS p q p = p.toNat := by omega
      have e2 : partS p q q = q.toNat := by omega
      simp only [e1, e2]
      simp
      omega
    · unfold last7 ap tc
      rw [unF_F (M_le a1), unF_F (M_le a2), unF_F (M_le b1), unF_F (M_le b2)]
      have e1 : apartS (partS p q p) (partS p q q) (partS r s r) (partS r s s) = rapartB p q r s := by
        rw [Bool.eq_iff_iff]
        simp only [apartS, rapartB, a3, b3, ho.1, ho.2, decide_eq_true_eq, true_and]
        generalize partS p q p = a at *
        generalize partS p q q = b at *
        generalize partS r s r = c at *
        generalize partS r s s = d at *
        subst k1 k2 l1 l2
        clear f1 f2 hall h
        omega
      have e2 : touchS (partS p q p) (partS p q q) (partS r s r) (partS r s s) = (q == r) := by
        rw [Bool.eq_iff_iff]
        simp only [touchS, a3, b3, decide_eq_true_eq, beq_iff_eq, true_and]
        generalize partS p q q = b at *
        generalize partS r s r = c at *
        omega
      have e3 : compS (partS p q p) (partS p q q) (partS r s r) (partS r s s) = (if lessB r s p q = true then 1 else if lessB p q r s = true then -1 else 0) := by
        rw [compS_eq a3 b3]
        unfold lessB
        simp only [decide_eq_true_eq]
        generalize partS p q p = a at *
        generalize partS p q q = b at *
        generalize partS r s r = c at *
        generalize partS r s s = d at *
        subst k1 k2 l1 l2
        clear f1 f2 hall h
        repeat' split
        all_goals omega
      rw [e1, e2, e3]
      simp
end
/-- A law without a loop that is open. -/
theorem lawRuns_of_pure {f : Nat} {fn : Func} {c : Code} (hfn : Try.prog.funcs[f]? = some fn) (hb : fn.body = some c) {ks : List (Bool × List Ck)}
    (h : ∀ al, ArgsOk ks al → ∃ al' b, (∀ E vs, Reps E al vs → Reps E al' vs) ∧ PureOk Try.prog f al' b ∧ IsTrue b) : LawRuns Try.prog f ks := by
  intro w vals al hok hargs
  obtain ⟨al', b, hA, hp, ht⟩ := h al hok
  have hname' : ¬ fn.name = "runtime.NumGoroutine" := by simpa using (fit_func fitTry hfn hb).2
  rcases hp none (frozenE w) w vals (fun v w' => v = .bool true ∧ Quiet w w') (fun _ h => h) (frozenE_ok w) (hA _ _ hargs) (fun v w' hv hq => ⟨ht (frozenE w) v (hv _), hq⟩) with ⟨v, h1, _⟩ | ⟨_, h2⟩
  · have : (callFunc f vals).run Try.prog w = .ok (.enter f vals) w := by simp [callFunc, hfn, hname', hb]
    rw [this] at h1
    cases h1
  · exact CallsIn.mono h2 fun e w' ⟨v, h3, h4, h5⟩ => ⟨v, h3, h4, h5⟩
def ks2 : List Ck := [.int .i64, .int .i64]
theorem pr_of {a : AV} (h : ArgOk (true, ks2) a) : ∃ p q, a = pr p q := by
  obtain ⟨l, rfl, h⟩ := h
  cases h with | cons h1 t => cases t with | cons h2 t => cases t with | nil =>
  cases h1; cases h2
  exact ⟨_, _, rfl⟩
theorem args7 : argShs Try.prog 6 Try.f7.params.toList = some [(true, ks2), (true, ks2)] := by kernel_rfl
theorem law7_runs : LawRuns Try.prog 7 [(true, ks2), (true, ks2)] :=
  lawRuns_of_pure Try.func7 (c := codeOf Try.f7) (by kernel_rfl) fun al hok => by
    cases hok with | cons h1 t => cases t with | cons h2 t => cases t with | nil =>
    obtain ⟨p, q, rfl⟩ := pr_of h1
    obtain ⟨r, s, rfl⟩ := pr_of h2
    obtain ⟨b, h3, h4⟩ := law7_pure p q r s
    exact ⟨_, b, fun E vs h => h, h3, h4⟩
end Go.Proofs.Ytkmhabbpndcnkaa
