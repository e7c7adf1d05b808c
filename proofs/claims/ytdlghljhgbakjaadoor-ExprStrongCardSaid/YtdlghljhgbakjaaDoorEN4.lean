/-
  PART: one of two values, by a truth, is that one.
-/
import Derived.Test.YtdlghljhgbakjaaDoorEN3
namespace Go.Proofs.YtdlghljhgbakjaaDoor
open Go.RowKit

section
variable {E : Env}
theorem scal_rep {a : AV} {x : Value} {l : Bool} (h : scal a = some (x, l)) {v : Value} (hv : Rep E a v) : v = x ∧ one1 x = true := by
  cases hv <;> simp only [scal, Option.some.injEq, Prod.mk.injEq, reduceCtorEq] at h
  · exact ⟨h.1, h.1 ▸ ‹_›⟩
  · exact ⟨h.1, h.1 ▸ ‹_›⟩
theorem rep_scal {a : AV} {x : Value} {l : Bool} (h : scal a = some (x, l)) (ho : one1 x = true) : Rep E a x := by
  cases a <;> simp only [scal, Option.some.injEq, Prod.mk.injEq, reduceCtorEq] at h
  · obtain ⟨rfl, _⟩ := h; exact .lit _ ho
  · obtain ⟨rfl, _⟩ := h; exact .v _ ho
theorem eqV_eq {x y : Value} (h : eqV x y = true) : x = y := by
  unfold eqV at h
  split at h <;> simp_all
theorem muxV_ok {c : Bool} {x y z : Value} (h : muxV c x y = some z) : z = (if c = true then x else y) ∧ (one1 x = true → one1 y = true → one1 z = true) := by
  unfold muxV at h
  split at h
  · split at h
    · rename_i hk; cases h; have := of_decide_eq_true hk; subst this; cases c <;> exact ⟨rfl, fun _ _ => rfl⟩
    · cases h
  · cases h; cases c <;> exact ⟨rfl, fun _ _ => rfl⟩
  · cases h; cases c <;> exact ⟨rfl, fun _ _ => rfl⟩
  · split at h
    · rename_i hk; cases h; have := of_decide_eq_true hk; subst this; cases c <;> exact ⟨rfl, fun _ _ => rfl⟩
    · cases h
  · split at h
    · rename_i hk; cases h; have := of_decide_eq_true hk; subst this; cases c <;> exact ⟨rfl, fun _ _ => rfl⟩
    · cases h
  · cases h
theorem isNilSl_eq {v : Value} (h : isNilSl v = true) : v = .slice none 0 0 := by
  unfold isNilSl at h
  split at h
  · rfl
  · cases h
/-- 'f' tells one of two: the first where c, else the second. -/
def Picks (c : Bool) (f : AV → AV → Option AV) : Prop :=
  ∀ (E : Env) a b r v, f a b = some r → (if c = true then Rep E a v else Rep E b v) → Rep E r v
theorem eqA_rep {a b : AV} (h : eqA a b = true) {v : Value} (hb : Rep E b v) : Rep E a v := by
  unfold eqA at h
  split at h
  · simp only [Bool.and_eq_true] at h
    obtain ⟨h1, h2⟩ := h
    obtain rfl := Nat.eq_of_beq_eq_true h1
    obtain rfl := Nat.eq_of_beq_eq_true h2
    exact hb
  · rw [eqV_eq h]; exact hb
  · cases h
theorem eqAs_rep {l m : List AV} (h : eqAs l m = true) {vs : List Value} (hb : Reps E m vs) : Reps E l vs := by
  induction l generalizing m vs with
  | nil => cases m with
    | nil => exact hb
    | cons => cases h
  | cons a l ih => cases m with
    | nil => cases h
    | cons b m =>
      simp only [eqAs, Bool.and_eq_true] at h
      cases hb with | cons h1 h2 => exact .cons (eqA_rep h.1 h1) (ih h.2 h2)
theorem zipO_ok {c : Bool} {f : AV → AV → Option AV} (hf : Picks c f) {l m r : List AV} {vs : List Value} (h : zipO f l m = some r) (hv : if c = true then Reps E l vs else Reps E m vs) : Reps E r vs ∧ l.length = r.length ∧ m.length = r.length := by
  induction l generalizing m r vs with
  | nil => cases m with
    | nil => simp [zipO] at h; subst h; cases c <;> exact ⟨by simpa using hv, rfl, rfl⟩
    | cons => simp [zipO] at h
  | cons a l ih => cases m with
    | nil => simp [zipO] at h
    | cons b m =>
      simp only [zipO] at h
      split at h
      · rename_i x y hx hy
        cases h
        cases c
        · simp only [Bool.false_eq_true, if_false] at hv
          cases hv with | cons h1 h2 =>
          obtain ⟨r1, r2, r3⟩ := ih hy (by simpa using h2)
          exact ⟨.cons (hf E a b x _ hx (by simpa using h1)) r1, by simp [r2], by simp [r3]⟩
        · simp only [if_true] at hv
          cases hv with | cons h1 h2 =>
          obtain ⟨r1, r2, r3⟩ := ih hy (by simpa using h2)
          exact ⟨.cons (hf E a b x _ hx (by simpa using h1)) r1, by simp [r2], by simp [r3]⟩
      · cases h
theorem zipW_ok {c : Bool} {f : AV → AV → Option AV} (hf : Picks c f) {w : Nat → Bool} : ∀ {l m r : List AV} {vs : List Value} {i : Nat}, zipW f w i l m = some r → (∀ j, w (i + j) = false → l[j]? = m[j]?) → (if c = true then Reps E l vs else Reps E m vs) → Reps E r vs
  | [], [], r, vs, i, h, _, hv => by simp [zipW] at h; subst h; cases c <;> simpa using hv
  | [], _ :: _, r, vs, i, h, _, hv => by simp [zipW] at h
  | _ :: _, [], r, vs, i, h, _, hv => by simp [zipW] at h
  | a :: l, b :: m, r, vs, i, h, hs, hv => by
    have hs' : ∀ j, w (i + 1 + j) = false → l[j]? = m[j]? := fun j hj => by
      have := hs (j + 1) (by rwa [show i + (j + 1) = i + 1 + j by omega])
      simpa using this
    simp only [zipW] at h
    split at h
    · split at h
      · rename_i x y hx hy
        cases h
        cases c
        · simp only [Bool.false_eq_true, if_false] at hv
          cases hv with | cons h1 h2 =>
          exact .cons (hf E a b x _ hx (by simpa using h1)) (zipW_ok hf hy hs' (by simpa using h2))
        · simp only [if_true] at hv
          cases hv with | cons h1 h2 =>
          exact .cons (hf E a b x _ hx (by simpa using h1)) (zipW_ok hf hy hs' (by simpa using h2))
      · cases h
    · rename_i hw
      have hab : a = b := by
        have := hs 0 hw
        simpa using this
      split at h
      · rename_i y hy
        cases h
        cases c
        · simp only [Bool.false_eq_true, if_false] at hv
          cases hv with | cons h1 h2 =>
          exact .cons (hab ▸ h1) (zipW_ok hf hy hs' (by simpa using h2))
        · simp only [if_true] at hv
          cases hv with | cons h1 h2 =>
          exact .cons h1 (zipW_ok hf hy hs' (by simpa using h2))
      · cases h
theorem zipW_len {f : AV → AV → Option AV} {w : Nat → Bool} : ∀ {l m r : List AV} {i : Nat}, zipW f w i l m = some r → r.length = l.length ∧ ∀ j, w (i + j) = false → r[j]? = l[j]?
  | [], [], r, i, h => by simp [zipW] at h; subst h; exact ⟨rfl, fun _ _ => rfl⟩
  | [], _ :: _, r, i, h => by simp [zipW] at h
  | _ :: _, [], r, i, h => by simp [zipW] at h
  | a :: l, b :: m, r, i, h => by
    simp only [zipW] at h
    split at h
    · rename_i hw
      split at h
      · rename_i x y hx hy
        cases h
        obtain ⟨h1, h2⟩ := zipW_len hy
        refine ⟨by simp [h1], fun j hj => ?_⟩
        cases j with
        | zero => rw [Nat.add_zero, hw] at hj; cases hj
        | succ j => simpa using h2 j (by rwa [show i + 1 + j = i + (j + 1) by omega])
      · cases h
    · split at h
      · rename_i y hy
        cases h
        obtain ⟨h1, h2⟩ := zipW_len hy
        refine ⟨by simp [h1], fun j hj => ?_⟩
        cases j with
        | zero => simp
        | succ j => simpa using h2 j (by rwa [show i + 1 + j = i + (j + 1) by omega])
      · cases h
theorem fit_unk (vs : List Value) : Reps E (fit vs.length []) vs := by
  induction vs with
  | nil => exact .nil
  | cons v vs ih => exact .cons (.unk v) ih
theorem fit_same {l : List AV} {vs : List Value} (h : Reps E l vs) : Reps E (fit vs.length l) vs := by
  induction l generalizing vs with
  | nil => cases h; exact .nil
  | cons a l ih => cases h with | cons h1 h2 => exact .cons h1 (ih h2)
theorem zipU_ok {c : Bool} {f : AV → AV → Option AV} (hf : Picks c f) {l m : List AV} {vs : List Value} (hv : if c = true then Reps E l vs else Reps E m vs) : Reps E (fit vs.length (zipU f l m)) vs := by
  induction vs generalizing l m with
  | nil => exact .nil
  | cons v vs ih =>
    cases l with
    | nil => exact fit_unk (v :: vs)
    | cons a l => cases m with
      | nil => exact fit_unk (v :: vs)
      | cons b m =>
        simp only [zipU, List.length_cons, fit]
        refine .cons ?_ (ih ?_)
        · cases hx : f a b with
          | none => exact .unk v
          | some x =>
            refine hf E a b x v hx ?_
            cases c
            · simp only [Bool.false_eq_true, if_false] at hv ⊢; cases hv; assumption
            · simp only [if_true] at hv ⊢; cases hv; assumption
        · cases c
          · simp only [Bool.false_eq_true, if_false] at hv ⊢; cases hv; assumption
          · simp only [if_true] at hv ⊢; cases hv; assumption
theorem zipU_fit {c : Bool} {f : AV → AV → Option AV} (hf : Picks c f) {l m : List AV} {vs : List Value} {k : Nat} (hk : vs.length = k) (hv : if c = true then Reps E l vs else Reps E m vs) : Reps E (fit k (zipU f l m)) vs := hk ▸ zipU_ok hf hv
theorem take_len {l : List Value} {off n : Nat} (h : off + n ≤ l.length) : ((l.drop off).take n).length = n := by simp; omega
theorem seg_le {off i k n size : Nat} (hi : i < n) (h : off + n * k ≤ size) : off + i * k + k ≤ size := by
  have := Nat.mul_le_mul_right k (show i + 1 ≤ n from hi)
  rw [Nat.add_mul, Nat.one_mul] at this
  omega
theorem seg_len {c : Array Value} {off i k n : Nat} (hi : i < n) (h : off + n * k ≤ c.size) : ((c.toList.drop (off + i * k)).take k).length = k :=
  take_len (by rw [Array.length_toList]; exact seg_le hi h)
theorem mux_ok (d : Nat) : ∀ c, Picks c (mux d c) := by
  induction d with
  | zero => intro c E a b r v h _; simp [mux] at h; subst h; exact .unk v
  | succ d ih =>
    intro c E a b r v h hv
    unfold mux at h
    split at h
    · rename_i x lx y ly hx hy
      split at h
      · rename_i he
        cases h
        simp only [Bool.and_eq_true] at he
        have hxy := eqV_eq he.2
        cases c
        · obtain ⟨rfl, ho⟩ := scal_rep hy (by simpa using hv); rw [hxy]; exact .lit _ ho
        · obtain ⟨rfl, ho⟩ := scal_rep hx (by simpa using hv); exact .lit _ ho
      · split at h
        · cases h
          cases c
          · obtain ⟨rfl, ho⟩ := scal_rep hy (by simpa using hv); exact .v _ rfl
          · obtain ⟨rfl, ho⟩ := scal_rep hx (by simpa using hv); exact .v _ rfl
        · cases h
          cases c
          · obtain ⟨rfl, ho⟩ := scal_rep hy (by simpa using hv); exact .v _ rfl
          · obtain ⟨rfl, ho⟩ := scal_rep hx (by simpa using hv); exact .v _ rfl
        split at h
        · rename_i z hz
          cases h
          obtain ⟨hz1, hz2⟩ := muxV_ok hz
          cases c
          · obtain ⟨rfl, ho⟩ := scal_rep hy (by simpa using hv); simp at hz1; rw [hz1]; exact .v _ ho
          · obtain ⟨rfl, ho⟩ := scal_rep hx (by simpa using hv); simp at hz1; rw [hz1]; exact .v _ ho
        · cases h; exact .unk v
    · split at h
      · -- agg
        split at h
        · rename_i hz; cases h
          cases c
          · simp only [Bool.false_eq_true, if_false] at hv
            cases hv with | agg h1 h2 => exact .agg (zipO_ok (ih false) hz (by simpa using h1)).1 h2
          · simp only [if_true] at hv
            cases hv with | agg h1 h2 => exact .agg (zipO_ok (ih true) hz (by simpa using h1)).1 h2
        · cases h
      · split at h
        · rename_i hz; cases h
          cases c
          · simp only [Bool.false_eq_true, if_false] at hv
            cases hv with | tup h1 => exact .tup (zipO_ok (ih false) hz (by simpa using h1)).1
          · simp only [if_true] at hv
            cases hv with | tup h1 => exact .tup (zipO_ok (ih true) hz (by simpa using h1)).1
        · cases h
      · split at h
        · rename_i he; cases h
          simp only [Bool.and_eq_true] at he
          obtain ⟨he1, he2⟩ := he
          obtain rfl := Nat.eq_of_beq_eq_true he1
          obtain rfl := Nat.eq_of_beq_eq_true he2
          cases c <;> simpa using hv
        · cases h; exact .unk v
      · split at h
        · rename_i he; cases h
          simp only [Bool.and_eq_true] at he
          obtain ⟨he1, he2⟩ := he
          obtain rfl := Nat.eq_of_beq_eq_true he1
          obtain rfl := Nat.eq_of_beq_eq_true he2
          cases c
          · simp only [Bool.false_eq_true, if_false] at hv ⊢
            cases hv with
            | own h1 h2 h3 => exact .own h1 h2 h3
            | ownNil h1 h2 h3 h4 => exact .ownNil h1 h2 h3 h4
          · simp only [if_true] at hv ⊢; exact hv
        · cases h
      · cases h
      · cases h
      · split at h
        · rename_i hk; cases h
          have := Nat.eq_of_beq_eq_true hk
          subst this
          cases c
          · simp only [Bool.false_eq_true, if_false] at hv ⊢
            cases hv with
            | slNil h1 => exact .slNil h1
            | slEmp h1 h2 => exact .slEmp h1 fun hf => h2 (by simp at hf; exact hf.2)
            | sl h1 h2 h3 h4 h5 h6 =>
              refine .sl h1 h2 (fun hf => h3 (by simp at hf; exact hf.2)) h4 (fun i hi => ?_) h6
              exact zipU_fit (ih false) (seg_len hi h2) (by simpa using h5 i hi)
          · simp only [if_true] at hv ⊢
            cases hv with
            | slNil h1 => exact .slNil h1
            | slEmp h1 h2 => exact .slEmp h1 fun hf => h2 (by simp at hf; exact hf.1)
            | sl h1 h2 h3 h4 h5 h6 =>
              refine .sl h1 h2 (fun hf => h3 (by simp at hf; exact hf.1)) h4 (fun i hi => ?_) h6
              exact zipU_fit (ih true) (seg_len hi h2) (by simpa using h5 i hi)
        · cases h; exact .unk v
      · split at h
        · rename_i hn; cases h
          cases c
          · simp only [Bool.false_eq_true, if_false] at hv ⊢
            cases hv with
            | slNil h1 => exact .slNil h1
            | slEmp h1 h2 => exact .slEmp h1 h2
            | sl h1 h2 h3 h4 h5 h6 => exact .sl h1 h2 h3 h4 h5 h6
          · simp only [if_true] at hv ⊢
            cases hv; rw [isNilSl_eq hn]; exact .slNil rfl
        · cases h; exact .unk v
      · split at h
        · rename_i hn; cases h
          cases c
          · simp only [Bool.false_eq_true, if_false] at hv ⊢
            cases hv; rw [isNilSl_eq hn]; exact .slNil rfl
          · simp only [if_true] at hv ⊢
            cases hv with
            | slNil h1 => exact .slNil h1
            | slEmp h1 h2 => exact .slEmp h1 h2
            | sl h1 h2 h3 h4 h5 h6 => exact .sl h1 h2 h3 h4 h5 h6
        · cases h; exact .unk v
      · split at h
        · rename_i ho
          have := Nat.eq_of_beq_eq_true ho
          subst this
          split at h
          · rename_i hz; cases h
            cases c
            · simp only [Bool.false_eq_true, if_false] at hv
              cases hv with | fz h1 h2 h3 h4 =>
              obtain ⟨k1, k2, k3⟩ := zipO_ok (ih false) hz (by simpa using h3)
              exact .fz h1 (by omega) (by rw [← k3]; exact k1) (by rw [← k3]; exact h4)
            · simp only [if_true] at hv
              cases hv with | fz h1 h2 h3 h4 =>
              obtain ⟨k1, k2, k3⟩ := zipO_ok (ih true) hz (by simpa using h3)
              exact .fz h1 (by omega) (by rw [← k2]; exact k1) (by rw [← k2]; exact h4)
          · cases h
        · cases h; exact .unk v
      · split at h
        · rename_i he; cases h
          simp only [Bool.and_eq_true, decide_eq_true_eq] at he
          obtain ⟨⟨rfl, h2⟩, h3⟩ := he
          cases c
          · simp only [Bool.false_eq_true, if_false] at hv
            cases hv with | fn k1 k2 => exact .fn (eqAs_rep h2 k1) (eqAs_rep h3 k2)
          · simpa using hv
        · cases h; exact .unk v
      · cases h
        cases c
        · simp only [Bool.false_eq_true, if_false] at hv
          cases hv with | any h1 h2 => exact .any (fun fz' hf => ⟨fun h => (by cases h), fun _ => h1 fz' hf⟩) h2
        · simp only [if_true] at hv
          cases hv with | any h1 h2 => exact .any (fun fz' hf => ⟨fun _ => h1 fz' hf, fun h => (by cases h)⟩) h2
      · cases h; exact .unk v
theorem muxD_ok (c : Bool) : Picks c (mux muxD c) := mux_ok muxD c
/-- The chosen one. -/
theorem pickI_ok {i : Int} {f : Nat → Option AV} {n : Nat} {r : AV} (h : pickI i f n = some r) (h0 : 0 ≤ i) (h1 : i < (n : Int)) : ∃ a, f i.toNat = some a ∧ ∀ v, Rep E a v → Rep E r v := by
  induction n generalizing r with
  | zero => omega
  | succ n ih =>
    cases n with
    | zero =>
      have : i.toNat = 0 := by omega
      rw [this]; exact ⟨r, h, fun _ hv => hv⟩
    | succ n =>
      unfold pickI at h
      split at h
      · rename_i a b ha hb
        by_cases e : i = ((n + 1 : Nat) : Int)
        · have ht : i.toNat = n + 1 := by omega
          rw [ht]
          exact ⟨a, ha, fun v hv => muxD_ok _ E a b r v h (by rw [decide_eq_true e]; simpa using hv)⟩
        · obtain ⟨x, hx, hxv⟩ := ih hb (by omega)
          exact ⟨x, hx, fun v hv => muxD_ok _ E a b r v h (by rw [decide_eq_false e]; simpa using hxv v hv)⟩
      · cases h
end
end Go.Proofs.YtdlghljhgbakjaaDoor
