/-
  PART: arithmetic, builtins, slices of slices.
-/
import Derived.Test.YtdlghljhgbakjaaDoorEN9
namespace Go.Proofs.YtdlghljhgbakjaaDoor
open Go.RowKit

section
variable {P : Program} {o : Oper} {st st' : St} {a : AV} {w : World} {E : Env}
theorem eqT_unk1 (d : Nat) (t : TypeId) (b : AV) : eqT P d t .unk b = none := by
  cases d with
  | zero => rfl
  | succ d => unfold eqT; split <;> first | rfl | (simp [eqLeaf, scal])
theorem eqT_unk2 (d : Nat) (t : TypeId) (a : AV) : eqT P d t a .unk = none := by
  cases d with
  | zero => rfl
  | succ d =>
    unfold eqT
    split
    · cases a <;> rfl
    · cases a <;> rfl
    · rfl
    · cases a <;> first | rfl | (rename_i v; cases v <;> first | rfl | (rename_i p; cases p <;> rfl))
    · cases a <;> first | rfl | (rename_i v; cases v <;> rfl)
    · cases a <;> first | rfl | (rename_i v; cases v <;> first | rfl | (rename_i p n c; cases p <;> first | rfl | (cases n <;> cases c <;> rfl)))
    · cases a <;> simp [eqLeaf, scal]
    · rfl
theorem eqT_any1 (φ : (Nat → Option (Array Value)) → Value → Prop) (d : Nat) (t : TypeId) (b : AV) : eqT P d t (.any φ) b = none := by
  cases d with
  | zero => rfl
  | succ d => unfold eqT; split <;> first | rfl | (simp [eqLeaf, scal])
theorem eqT_any2 (φ : (Nat → Option (Array Value)) → Value → Prop) (d : Nat) (t : TypeId) (a : AV) : eqT P d t a (.any φ) = none := by
  cases d with
  | zero => rfl
  | succ d =>
    unfold eqT
    split
    · cases a <;> rfl
    · cases a <;> rfl
    · rfl
    · cases a <;> first | rfl | (rename_i v; cases v <;> first | rfl | (rename_i p; cases p <;> rfl))
    · cases a <;> first | rfl | (rename_i v; cases v <;> rfl)
    · cases a <;> first | rfl | (rename_i v; cases v <;> first | rfl | (rename_i p n c; cases p <;> first | rfl | (cases n <;> cases c <;> rfl)))
    · cases a <;> simp [eqLeaf, scal]
    · rfl
theorem eqT_type {d : Nat} {t : TypeId} {a b r : AV} (h : eqT P d t a b = some r) : ∃ dsc, P.underlying t = some dsc ∧ ∀ ms, dsc ≠ .interface ms := by
  cases d with
  | zero => cases h
  | succ d =>
    unfold eqT at h
    split at h <;> first
      | (cases h; done)
      | exact ⟨_, ‹P.underlying t = some _›, fun ms e => by simp_all⟩
/-- Values that are no numbers, texts, truths. -/
def heavy : Value → Bool
  | .agg _ => true
  | .tuple _ => true
  | .pointer _ => true
  | .slice .. => true
  | .func .. => true
  | _ => false
theorem heavy_of {a : AV} {v : Value} (h : scal a = none) (hu : a ≠ .unk) (hq : ∀ φ, a ≠ .any φ) (hv : Rep E a v) : heavy v = true := by
  cases hv <;> first | rfl | (cases h; done) | exact absurd rfl hu | exact absurd rfl (hq _)
theorem eqGuard_ok {op : BinOp} {t : TypeId} {x y : Operand} {a b : Value} (h : P.eqGuardType P.depth t = false) (hi : ∃ dsc, P.underlying t = some dsc ∧ ∀ ms, dsc ≠ .interface ms) (w : World) : (eqGuard op t x y a b).run P w = .ok () w := by
  obtain ⟨dsc, hu, hn⟩ := hi
  have h0 : (Op.eqGuardIn Op.maxDepth t .nilIface .nilIface).run P w = .ok false w := by
    show (Op.eqGuardIn (9999 + 1) t .nilIface .nilIface).run P w = _
    rw [Op.eqGuardIn]
    simp only [Sem.run_bind, run_underlying hu, Result.andThen_ok]
    cases dsc <;> first | rfl | exact absurd rfl (hn _)
  unfold eqGuard
  cases op <;> first
    | rfl
    | (simp only [Bool.not_true, Bool.false_eq_true, if_false]
       split
       · split
         · rfl
         · simp [h0]
       · simp [h]
       · rfl)
theorem binOp_heavy {t : TypeId} {x y : Value} (h : heavy x = true ∨ heavy y = true) : binOp .eql t x y = (do pure (.bool (← Op.equal t x y))) ∧ binOp .neq t x y = (do pure (.bool (!(← Op.equal t x y)))) := by
  cases x <;> cases y <;> first | exact ⟨rfl, rfl⟩ | (rcases h with h | h <;> cases h)
theorem ite_ok {c : Bool} {s : Sem Unit} {w : World} (h : s.run P w = .ok () w) : (if c = true then pure () else s : Sem Unit).run P w = .ok () w := by
  cases c
  · exact h
  · rfl
theorem eqGuard_tmp {op : BinOp} {t : TypeId} {x y : Operand} {a b : Value} (h : semVal P (eqGuard op t (.tmp 0) (.tmp 0) a b) = some ()) (w : World) : (eqGuard op t x y a b).run P w = .ok () w := by
  have h0 := semVal_run h w
  revert h0
  unfold eqGuard
  cases op <;> first
    | (intro _; rfl)
    | (simp only [Bool.not_true, Bool.false_eq_true, if_false]
       intro h0
       split at h0
       · simp only [Bool.or_self, Bool.false_eq_true, if_false] at h0
         exact ite_ok h0
       · exact h0
       · rfl)
theorem nd_bin {op : BinOp} {t u : TypeId} {x y : Operand} (ho : o.op = .binOp op t x y u) : NoDefer o := nd_of ho (by simp)
theorem exec_bin {op : BinOp} {t u : TypeId} {x y : Operand} (ho : o.op = .binOp op t x y u) {ρ : Operand → Value} {v : Value} {w : World} (h1 : (eqGuard op t x y (ρ x) (ρ y)).run P w = .ok () w) (h2 : (binOp op t (ρ x) (ρ y)).run P w = .ok v w) : (execOp ρ o).run P w = .ok (.value v) w := by
  unfold execOp
  rw [ho]
  simp [h1, h2]
theorem bin_ok {op : BinOp} {t u : TypeId} {x y : Operand} (ho : o.op = .binOp op t x y u) (h : (withSt st (binA P op t (st.val x) (st.val y))).hit (a, st')) : OpOk P o st a st' := by
  obtain ⟨h, rfl⟩ := hit_withSt h
  have hmx : x ∈ o.op.operands := by rw [ho]; simp [Op.operands]
  have hmy : y ∈ o.op.operands := by rw [ho]; simp [Op.operands]
  have hd := nd_bin ho
  unfold binA at h
  split at h
  · rename_i vx lx vy ly hsx hsy
    have vals : ∀ (E : Env) (act : Act), (∀ x, x ∈ o.op.operands → Rep E (st'.val x) (act.eval x)) → act.eval x = vx ∧ act.eval y = vy := fun E act hx => ⟨(scal_rep hsx (hx x hmx)).1, (scal_rep hsy (hx y hmy)).1⟩
    split at h
    · split at h
      · rename_i hk
        obtain rfl := of_decide_eq_true hk
        obtain ⟨h0, h⟩ := h
        cases h
        refine quiet_of hd fun E act hx => ?_
        obtain ⟨e1, e2⟩ := vals E act hx
        exact ⟨_, fun w => exec_bin ho (by rw [e1, e2]; rfl) (by rw [e1, e2]; simp [binOp, Op.intDiv, h0]), .v _ rfl⟩
      · exact h.elim
    · split at h
      · rename_i hk
        obtain rfl := of_decide_eq_true hk
        obtain ⟨h0, h⟩ := h
        cases h
        refine quiet_of hd fun E act hx => ?_
        obtain ⟨e1, e2⟩ := vals E act hx
        exact ⟨_, fun w => exec_bin ho (by rw [e1, e2]; rfl) (by rw [e1, e2]; simp [binOp, Op.intDiv, h0]), .v _ rfl⟩
      · exact h.elim
    · obtain ⟨h0, h⟩ := h
      cases h
      refine quiet_of hd fun E act hx => ?_
      obtain ⟨e1, e2⟩ := vals E act hx
      exact ⟨_, fun w => exec_bin ho (by rw [e1, e2]; rfl) (by rw [e1, e2]; simp [binOp, Op.shift, Int.not_lt.2 h0]), .v _ rfl⟩
    · obtain ⟨h0, h⟩ := h
      cases h
      refine quiet_of hd fun E act hx => ?_
      obtain ⟨e1, e2⟩ := vals E act hx
      exact ⟨_, fun w => exec_bin ho (by rw [e1, e2]; rfl) (by rw [e1, e2]; simp [binOp, Op.shift, Int.not_lt.2 h0]), .v _ rfl⟩
    · obtain ⟨h0, h⟩ := h
      cases h
      obtain ⟨⟨re, im⟩, hn⟩ := Option.isSome_iff_exists.1 h0
      refine quiet_of hd fun E act hx => ?_
      obtain ⟨e1, e2⟩ := vals E act hx
      refine ⟨.complex .f64 re im, fun w => exec_bin ho (by rw [e1, e2]; rfl) (by rw [e1, e2]; exact run_complex_mul w t _ _ _ _ re im hn), ?_⟩
      rw [hn]; exact .v _ rfl
    · rename_i m n _ _
      obtain ⟨h0, h⟩ := h
      cases h
      refine quiet_of hd fun E act hx => ?_
      obtain ⟨e1, e2⟩ := vals E act hx
      have hmax : ¬ (((m.size + n.size : Nat) : Int) > IntKind.i64.max) := by
        have : IntKind.i64.max = 9223372036854775807 := by decide
        rw [this]; omega
      exact ⟨_, fun w => exec_bin ho (by rw [e1, e2]; rfl) (by rw [e1, e2]; show (if ((m.size + n.size : Nat) : Int) > IntKind.i64.max then _ else _ : Sem Value).run P w = _; rw [if_neg hmax]; rfl), .v _ rfl⟩
    · split at h
      · rename_i r hr
        cases h
        obtain ⟨u', h1, h2⟩ := semVal_bind hr
        refine quiet_of hd fun E act hx => ?_
        obtain ⟨e1, e2⟩ := vals E act hx
        exact ⟨r, fun w => exec_bin ho (by rw [e1, e2]; exact eqGuard_tmp h1 w) (by rw [e1, e2]; exact semVal_run h2 w), litOr_rep _ r⟩
      · exact h.elim
  · rename_i hns
    have heq : ∀ r, eqT P 20 t (st'.val x) (st'.val y) = some r → P.eqGuardType P.depth t = false → ∀ (E : Env) (act : Act), (∀ x, x ∈ o.op.operands → Rep E (st'.val x) (act.eval x)) →
        ∃ q, (∀ w, (Op.equal t (act.eval x) (act.eval y)).run P w = .ok q w) ∧ (∀ E', Rep E' r (.bool q)) ∧ (heavy (act.eval x) = true ∨ heavy (act.eval y) = true) := by
      intro r hr hg E act hx
      have hxx := hx x hmx
      have hyy := hx y hmy
      have hux : st'.val x ≠ .unk := fun e => by rw [e, eqT_unk1] at hr; cases hr
      have huy : st'.val y ≠ .unk := fun e => by rw [e, eqT_unk2] at hr; cases hr
      have hqx : ∀ φ, st'.val x ≠ .any φ := fun φ e => by rw [e, eqT_any1] at hr; cases hr
      have hqy : ∀ φ, st'.val y ≠ .any φ := fun φ e => by rw [e, eqT_any2] at hr; cases hr
      have hv : heavy (act.eval x) = true ∨ heavy (act.eval y) = true := by
        cases h1 : scal (st'.val x) with
        | none => exact .inl (heavy_of h1 hux hqx hxx)
        | some p => cases h2 : scal (st'.val y) with
          | none => exact .inr (heavy_of h2 huy hqy hyy)
          | some q => exact absurd h2 (hns p.1 p.2 q.1 q.2 h1)
      obtain ⟨q, h1, h2⟩ := eqT_ok 20 t _ _ r hr E _ _ hxx hyy Op.maxDepth (by decide)
      exact ⟨q, h1, h2, hv⟩
    split at h
    · split at h
      · rename_i hg
        have hr := hit_ofO h
        refine quiet_of hd fun E act hx => ?_
        obtain ⟨q, h1, h2, h3⟩ := heq _ hr hg E act hx
        refine ⟨.bool q, fun w => exec_bin ho (eqGuard_ok hg (eqT_type hr) w) ?_, h2 E⟩
        rw [(binOp_heavy h3).1]; simp [h1 w]
      · exact h.elim
    · split at h
      · rename_i hg
        split at h
        · rename_i r hr
          have hn := hit_ofO h
          refine quiet_of hd fun E act hx => ?_
          obtain ⟨q, h1, h2, h3⟩ := heq _ hr hg E act hx
          refine ⟨.bool (!q), fun w => exec_bin ho (eqGuard_ok hg (eqT_type hr) w) ?_, ?_⟩
          · rw [(binOp_heavy h3).2]; simp [h1 w]
          · have := h2 E
            unfold notA at hn
            split at hn
            · cases hn; cases this; exact .lit _ rfl
            · cases hn; cases this; exact .v _ rfl
            · cases hn
        · exact h.elim
      · exact h.elim
    · exact h.elim
end
end Go.Proofs.YtdlghljhgbakjaaDoor
