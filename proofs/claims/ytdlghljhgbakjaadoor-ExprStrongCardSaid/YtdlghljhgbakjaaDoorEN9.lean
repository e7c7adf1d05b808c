/-
  PART: equality and arithmetic.
-/
import Derived.Test.YtdlghljhgbakjaaDoorEN8
namespace Go.Proofs.YtdlghljhgbakjaaDoor
open Go.RowKit

section
variable {P : Program} {o : Oper} {st st' : St} {a : AV} {w : World} {E : Env}
theorem andA_ok {a b r : AV} (h : andA a b = some r) : ∃ x y l m, boolOf a = some (x, l) ∧ boolOf b = some (y, m) ∧ ∀ E, Rep E r (.bool (x && y)) := by
  unfold andA at h
  split at h
  · rename_i x y h1 h2; cases h; exact ⟨x, y, _, _, h1, h2, fun E => .lit _ rfl⟩
  · rename_i x y h1 h2
    split at h
    · cases h; exact ⟨true, y, _, _, h1, h2, fun E => .v _ rfl⟩
    · cases h; exact ⟨false, y, _, _, h1, h2, fun E => .lit _ rfl⟩
  · rename_i x y h1 h2
    split at h
    · cases h; exact ⟨x, true, _, _, h1, h2, fun E => by rw [Bool.and_true]; exact .v _ rfl⟩
    · cases h; exact ⟨x, false, _, _, h1, h2, fun E => by rw [Bool.and_false]; exact .lit _ rfl⟩
  · rename_i x y h1 h2; cases h; exact ⟨x, y, _, _, h1, h2, fun E => .v _ rfl⟩
  · cases h
theorem rep_boolOf {a : AV} {x l : Bool} (h : boolOf a = some (x, l)) : Rep E a (.bool x) := by
  unfold boolOf at h
  split at h
  · cases h; exact .lit _ rfl
  · cases h; exact .v _ rfl
  · cases h
theorem boolOf_uni {E' : Env} {a : AV} {b : Bool} (h : Rep E a (.bool b)) (h2 : ∃ x l, boolOf a = some (x, l)) : Rep E' a (.bool b) := by
  obtain ⟨x, l, h2⟩ := h2
  have := boolOf_rep h2 h
  cases this
  exact rep_boolOf h2
theorem eqScal_ok {t : TypeId} {x y : Value} {d : TypeDesc} {r : Bool} (hu : P.underlying t = some d) (h : eqScal d x y = some r) (D : Nat) (w : World) : (Op.equalIn (D + 1) t x y).run P w = .ok r w := by
  unfold eqScal at h
  split at h
  · cases h; simp [Op.equalIn, run_underlying hu]
  · split at h
    · rename_i hk; cases h; have := of_decide_eq_true hk; subst this; simp [Op.equalIn, run_underlying hu]
    · cases h
  · split at h
    · rename_i hk; cases h; have := of_decide_eq_true hk; subst this; simp [Op.equalIn, run_underlying hu]
    · cases h
  · split at h
    · rename_i hk; cases h; have := of_decide_eq_true hk; subst this; simp [Op.equalIn, run_underlying hu]
    · cases h
  · cases h; simp [Op.equalIn, run_underlying hu]
  · cases h
theorem eqLeaf_ok {t : TypeId} {a b r : AV} {d : TypeDesc} (h : eqLeaf d a b = some r) (hu : P.underlying t = some d) {x y : Value} (hx : Rep E a x) (hy : Rep E b y) (D : Nat) :
    ∃ q, (∀ w, (Op.equalIn (D + 1) t x y).run P w = .ok q w) ∧ ∀ E', Rep E' r (.bool q) := by
  unfold eqLeaf at h
  split at h
  · rename_i x' lx y' ly h1 h2
    split at h
    · rename_i q hq
      cases h
      obtain ⟨rfl, _⟩ := scal_rep h1 hx
      obtain ⟨rfl, _⟩ := scal_rep h2 hy
      refine ⟨q, fun w => eqScal_ok hu hq D w, fun E' => ?_⟩
      split
      · exact .lit _ rfl
      · exact .v _ rfl
    · cases h
  · cases h
theorem rep_nilptr {v : Value} (h : Rep E (.lit (.pointer none)) v) : v = .pointer none := by cases h; rfl
theorem eqT_ok : ∀ (d : Nat) (t : TypeId) (a b r : AV), eqT P d t a b = some r → ∀ (E : Env) (x y : Value), Rep E a x → Rep E b y → ∀ (D : Nat), d ≤ D → ∃ q, (∀ w, (Op.equalIn D t x y).run P w = .ok q w) ∧ ∀ E', Rep E' r (.bool q) := by
  intro d
  induction d with
  | zero => intro t a b r h; simp [eqT] at h
  | succ d ih =>
    intro t a b r h E x y hx hy D hD
    obtain ⟨D, rfl⟩ : ∃ D', D = D' + 1 := ⟨D - 1, by omega⟩
    have hD' : d ≤ D := by omega
    unfold eqT at h
    split at h
    · rename_i fs hu
      split at h
      · rename_i xs ys
        split at h
        · rename_i hstood
          obtain ⟨c, rfl, hR, hone⟩ := rep_agg hx
          obtain ⟨c', rfl, hR', hone'⟩ := rep_agg hy
          have hf : P.fieldsOf t = fs := by simp [Program.fieldsOf, hu]
          suffices hsuf : ∃ q, (∀ w, (Op.eqFields D c c' fs.toList).run P w = .ok q w) ∧ ∀ E', Rep E' r (.bool q) by
            obtain ⟨q, h1, h2⟩ := hsuf
            exact ⟨q, fun w => by rw [run_equalIn_struct w D t c c' (by rw [hf]; exact hu) hstood, hf]; exact h1 w, h2⟩
          generalize fs.toList = L at h ⊢
          clear hf hu
          induction L generalizing r with
          | nil => simp only [allEqF] at h; cases h; exact ⟨true, fun w => rfl, fun E' => .lit _ rfl⟩
          | cons f L ihL =>
            simp only [allEqF] at h
            split at h
            · rename_i p q hp hq
              obtain ⟨u, v, l, m, h1, h2, h3⟩ := andA_ok h
              obtain ⟨q2, g1, g2⟩ := ihL q hq
              have hv : q2 = v := by have := boolOf_rep h2 (g2 E); cases this; rfl
              subst hv
              by_cases hn : f.name = "_"
              · have : (f.name == "_") = true := by simpa using hn
                rw [this] at hp
                simp only [] at hp
                cases hp
                cases h1
                refine ⟨q2, fun w => ?_, fun E' => by simpa using h3 E'⟩
                simp only [Op.eqFields]
                rw [if_neg (by simpa using hn)]
                exact g1 w
              · have hb : (f.name == "_") = false := by simpa using hn
                rw [hb] at hp
                simp only [] at hp
                split at hp
                · rename_i n ag hs ha
                  split at hp
                  · rename_i ax ay hcx hcy
                    obtain ⟨vx, p1, p2⟩ := part_cut (P := P) hs ha hR hone hcx
                    obtain ⟨vy, p3, p4⟩ := part_cut (P := P) hs ha hR' hone' hcy
                    obtain ⟨q1, g3, g4⟩ := ih f.type ax ay p hp E vx vy p2 p4 D hD'
                    have hu' : q1 = u := by have := boolOf_rep h1 (g4 E); cases this; rfl
                    subst hu'
                    refine ⟨q1 && q2, fun w => ?_, h3⟩
                    simp only [Op.eqFields]
                    rw [if_pos (by simpa using hn)]
                    simp only [Sem.run_bind, p1 w, p3 w, g3 w, Result.andThen_ok]
                    cases q1
                    · simp
                    · simpa using g1 w
                  · cases hp
                · cases hp
            · cases h
        · cases h
      · cases h
    · rename_i len e hu
      split at h
      · rename_i xs ys
        split at h
        · rename_i n ag hs ha
          obtain ⟨c, rfl, hR, hone⟩ := rep_agg hx
          obtain ⟨c', rfl, hR', hone'⟩ := rep_agg hy
          obtain ⟨i, hi, hin⟩ := size_info hs
          have hc : P.cellsOf e = n := by simp [Program.cellsOf, hi, hin]
          have app : ∀ (l m : List Nat), (∀ j, j ∈ l → ∃ v1 v2 q, ∀ w, (part e c (j * n)).run P w = .ok v1 w ∧ (part e c' (j * n)).run P w = .ok v2 w ∧ (Op.equalIn D e v1 v2).run P w = .ok q w) → ∀ q1 w, (Op.eqItems D e n c c' l).run P w = .ok q1 w →
              (Op.eqItems D e n c c' (l ++ m)).run P w = if q1 = true then (Op.eqItems D e n c c' m).run P w else .ok false w := by
            intro l m
            induction l with
            | nil => intro _ q1 w h; simp only [Op.eqItems, Sem.run_pure, Result.ok.injEq, and_true] at h; subst h; simp
            | cons j l ihl =>
              intro hp q1 w h
              obtain ⟨v1, v2, q, hk⟩ := hp j (List.mem_cons_self ..)
              obtain ⟨k1, k2, k3⟩ := hk w
              simp only [Op.eqItems, List.cons_append, Sem.run_bind, k1, k2, k3, Result.andThen_ok] at h ⊢
              cases q
              · simp only [Bool.not_false, if_true, Sem.run_pure, Result.ok.injEq, and_true] at h ⊢
                subst h; simp
              · simp only [Bool.not_true, Bool.false_eq_true, if_false] at h ⊢
                exact ihl (fun j hj => hp j (List.mem_cons_of_mem _ hj)) q1 w h
          have key : ∀ (k : Nat) (r : AV), allEq (fun i => match cut xs (i * n) n ag, cut ys (i * n) n ag with
              | some x, some y => eqT P d e x y
              | _, _ => none) k = some r → (∀ j, j ∈ List.range k → ∃ v1 v2 q, ∀ w, (part e c (j * n)).run P w = .ok v1 w ∧ (part e c' (j * n)).run P w = .ok v2 w ∧ (Op.equalIn D e v1 v2).run P w = .ok q w) ∧
              ∃ q, (∀ w, (Op.eqItems D e n c c' (List.range k)).run P w = .ok q w) ∧ ∀ E', Rep E' r (.bool q) := by
            intro k
            induction k with
            | zero => intro r h; simp only [allEq] at h; cases h; exact ⟨fun j hj => by simp at hj, true, fun w => rfl, fun E' => .lit _ rfl⟩
            | succ k ihk =>
              intro r h
              simp only [allEq] at h
              split at h
              · rename_i p q hp hq
                obtain ⟨u, v, l, m, h1, h2, h3⟩ := andA_ok h
                obtain ⟨gp, q1, g1, g2⟩ := ihk p hp
                have hu' : q1 = u := by have := boolOf_rep h1 (g2 E); cases this; rfl
                subst hu'
                split at hq
                · rename_i ax ay hcx hcy
                  obtain ⟨vx, p1, p2⟩ := part_cut (P := P) hs ha hR hone hcx
                  obtain ⟨vy, p3, p4⟩ := part_cut (P := P) hs ha hR' hone' hcy
                  obtain ⟨q2, g3, g4⟩ := ih e ax ay q hq E vx vy p2 p4 D hD'
                  have hv' : q2 = v := by have := boolOf_rep h2 (g4 E); cases this; rfl
                  subst hv'
                  refine ⟨fun j hj => ?_, q1 && q2, fun w => ?_, h3⟩
                  · rw [List.range_succ, List.mem_append] at hj
                    rcases hj with hj | hj
                    · exact gp j hj
                    · obtain rfl : j = k := by simpa using hj
                      exact ⟨vx, vy, q2, fun w => ⟨p1 w, p3 w, g3 w⟩⟩
                  rw [List.range_succ, app _ _ gp q1 w (g1 w)]
                  cases q1
                  · simp
                  · simp only [if_true, Op.eqItems, Sem.run_bind, p1 w, p3 w, g3 w, Result.andThen_ok, Bool.true_and]
                    cases q2 <;> simp
                · cases hq
              · cases h
          obtain ⟨_, q, h1, h2⟩ := key len r h
          exact ⟨q, fun w => by rw [run_equalIn_array w D c c' hu hi, hc]; exact h1 w, h2⟩
        · cases h
      · cases h
    · cases h
    · rename_i el hu
      split at h
      · cases h
        obtain ⟨b, base, c, _, _, _, _, rfl⟩ := rep_fz hx
        rw [rep_nilptr hy]
        exact ⟨false, fun w => by simp [Op.equalIn, run_underlying hu], fun E' => .lit _ rfl⟩
      · cases h
        obtain ⟨_, rfl⟩ := rep_ptr hx
        rw [rep_nilptr hy]
        exact ⟨false, fun w => by simp [Op.equalIn, run_underlying hu], fun E' => .lit _ rfl⟩
      · cases h
        obtain ⟨b, base, c, _, _, _, _, rfl⟩ := rep_fz hy
        rw [rep_nilptr hx]
        exact ⟨false, fun w => by simp [Op.equalIn, run_underlying hu], fun E' => .lit _ rfl⟩
      · cases h
        obtain ⟨_, rfl⟩ := rep_ptr hy
        rw [rep_nilptr hx]
        exact ⟨false, fun w => by simp [Op.equalIn, run_underlying hu], fun E' => .lit _ rfl⟩
      · cases h
        rw [rep_nilptr hx, rep_nilptr hy]
        exact ⟨true, fun w => by simp [Op.equalIn, run_underlying hu], fun E' => .lit _ rfl⟩
      · cases h
    · rename_i hu
      split at h
      · cases h
        obtain ⟨g, f, c, rfl⟩ : ∃ g f c, x = .func g f c := by cases hx; exact ⟨_, _, _, rfl⟩
        cases hy
        exact ⟨false, fun w => by simp [Op.equalIn, run_underlying hu], fun E' => .lit _ rfl⟩
      · cases h
        cases hx; cases hy
        exact ⟨true, fun w => by simp [Op.equalIn, run_underlying hu], fun E' => .lit _ rfl⟩
      · cases h
    · rename_i hu
      split at h
      · cases h
        cases hx; cases hy
        exact ⟨true, fun w => by simp [Op.equalIn, run_underlying hu], fun E' => .lit _ rfl⟩
      · cases h
    · rename_i hu; exact eqLeaf_ok h hu hx hy D
    · cases h
end
end Go.Proofs.YtdlghljhgbakjaaDoor
