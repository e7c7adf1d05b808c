/-
  PART: builtins on scalars and lengths; slices of slices; rows made.
-/
import Derived.Test.YtdlghljhgbakjaaDoorENA
namespace Go.Proofs.YtdlghljhgbakjaaDoor
open Go.RowKit

section
variable {P : Program} {o : Oper} {st st' : St} {a : AV} {w : World} {E : Env}
theorem scals_rep {l : List AV} {vs : List Value} {b : Bool} (h : scals l = some (vs, b)) {us : List Value} (hR : Reps E l us) : us = vs := by
  induction l generalizing vs b us with
  | nil => simp [scals] at h; cases hR; rw [h.1]
  | cons a l ih =>
    simp only [scals] at h
    split at h
    · rename_i x lx xs ls h1 h2
      cases h
      cases hR with | cons k1 k2 => rw [(scal_rep h1 k1).1, ih h2 k2]
    · cases h
theorem exec_builtin {c : Call} {b : Builtin} (ho : o.op = .call c) (hc : c.callee = .builtin b) (ρ : Operand → Value) : execOp ρ o = builtin b c.argTypes o.type (c.args.map fun | .const _ => true | _ => false) (c.args.map ρ) := by
  unfold execOp
  rw [ho]
  simp only [resolve, hc]
  rfl
theorem nd_call {c : Call} (ho : o.op = .call c) : NoDefer o := nd_of ho (by simp)
theorem args_rep {c : Call} (ho : o.op = .call c) {act : Act} (hx : ∀ x, x ∈ o.op.operands → Rep E (st.val x) (act.eval x)) : Reps E (c.args.toList.map st.val) (c.args.map act.eval).toList := by
  rw [Array.toList_map]
  exact .mapv fun x hxm => hx x (by rw [ho]; simp only [Op.operands, Call.operands]; exact Array.mem_append.2 (.inr (by simpa using hxm)))
/-- A builtin on scalars. -/
theorem scalB_ok {c : Call} {b : Builtin} (ho : o.op = .call c) (hc : c.callee = .builtin b) {f : Array Value → Sem Value} (hf : ∀ cs vs, builtin b c.argTypes o.type cs vs = (do pure (.value (← f vs))))
    (h : (match scals (c.args.toList.map st.val) with
      | some (vs, l) => match semVal P (f vs.toArray) with
        | some r => Tree.ret (litOr l r, st)
        | none => .fail
      | none => .fail : Tree (AV × St)).hit (a, st')) : OpOk P o st a st' := by
  split at h
  · rename_i vs l hs
    split at h
    · rename_i r hr
      cases h
      refine quiet_of (nd_call ho) fun E act hx => ⟨r, fun w => ?_, litOr_rep l r⟩
      have := scals_rep hs (args_rep ho hx)
      have hv : c.args.map act.eval = vs.toArray := by rw [← this]
      rw [exec_builtin ho hc, hf, hv]
      simp [semVal_run hr w]
    · exact h.elim
  · exact h.elim
theorem lenA_ok {t : TypeId} {x r : AV} (h : lenA P t x = some r) {v : Value} (hv : Rep E x v) : ∃ n : Int, (∀ ts ty w, ts[0]? = some t → (Builtin.len_ ts ty #[v]).run P w = .ok (.int .i64 n) w) ∧ ∀ E', Rep E' r (.int .i64 n) := by
  unfold lenA at h
  split at h
  · rename_i s hu; cases h; cases hv
    exact ⟨s.size, fun ts ty w ht => by simp [Builtin.len_, ht, run_underlying hu, goInt], fun E' => .lit _ rfl⟩
  · rename_i s hu; cases h; cases hv
    exact ⟨s.size, fun ts ty w ht => by simp [Builtin.len_, ht, run_underlying hu, goInt], fun E' => .v _ rfl⟩
  · rename_i n e hu; cases h
    exact ⟨n, fun ts ty w ht => by simp [Builtin.len_, ht, run_underlying hu, goInt], fun E' => .lit _ rfl⟩
  · rename_i b n c hu; cases h; cases hv
    exact ⟨n, fun ts ty w ht => by simp [Builtin.len_, ht, run_underlying hu, goInt], fun E' => .lit _ rfl⟩
  · rename_i n k get nl full hu
    have hr : ∀ E', Rep E' r (.int .i64 n) := fun E' => by
      split at h
      · cases h; exact .lit _ rfl
      · cases h; exact .v _ rfl
    refine ⟨n, fun ts ty w ht => ?_, hr⟩
    cases hv with
    | slNil hn => subst hn; simp [Builtin.len_, ht, run_underlying hu, goInt]
    | sl => simp [Builtin.len_, ht, run_underlying hu, goInt]
    | slEmp => simp [Builtin.len_, ht, run_underlying hu, goInt]
  · rename_i y n k nl hu
    have hr : ∀ E', Rep E' r (.int .i64 n) := fun E' => by
      split at h
      · cases h; exact .lit _ rfl
      · cases h; exact .v _ rfl
    refine ⟨n, fun ts ty w ht => ?_, hr⟩
    cases hv with
    | ownNil _ _ hn _ => subst hn; simp [Builtin.len_, ht, run_underlying hu, goInt]
    | own => simp [Builtin.len_, ht, run_underlying hu, goInt]
  · rename_i y off n k hu; cases h; cases hv
    exact ⟨n, fun ts ty w ht => by simp [Builtin.len_, ht, run_underlying hu, goInt], fun E' => .lit _ rfl⟩
  · cases h
theorem len_ok {c : Call} (ho : o.op = .call c) (hc : c.callee = .builtin .len) {x : AV} (hl : c.args.toList.map st.val = [x]) (h : (match lenA P (c.argTypes.getD 0 0) x, c.argTypes[0]? with
    | some r, some _ => Tree.ret (r, st)
    | _, _ => .fail : Tree (AV × St)).hit (a, st')) : OpOk P o st a st' := by
  split at h
  · rename_i r t hr ht
    cases h
    refine quiet_of (nd_call ho) fun E act hx => ?_
    have hR := args_rep ho hx
    rw [hl] at hR
    obtain ⟨v, hv, hrv⟩ : ∃ v, (c.args.map act.eval).toList = [v] ∧ Rep E x v := by
      generalize (c.args.map act.eval).toList = L at hR
      cases hR with | cons k1 k2 => cases k2; exact ⟨_, rfl, k1⟩
    have hv' : c.args.map act.eval = #[v] := by rw [← Array.toArray_toList (xs := c.args.map act.eval), hv]
    have ht' : c.argTypes[0]? = some (c.argTypes.getD 0 0) := by simp [Array.getD_eq_getD_getElem?, ht]
    obtain ⟨n, h1, h2⟩ := lenA_ok hr hrv
    refine ⟨_, fun w => ?_, h2 E⟩
    rw [exec_builtin ho hc, hv']
    simp [builtin, h1 _ _ w ht']
  · exact h.elim
/-! Slices of slices. -/
def OptR (E : Env) : Option AV → Option Value → Prop
  | none, none => True
  | some a, some v => Rep E a v
  | _, _ => False
theorem bound_lo {E : Env} {d : Int × Bool} {z : Int} {l : Bool} {x : Option AV} (h : boundA d x = some (z, l)) {v : Option Value} (hv : OptR E x v) : (x = none ∧ v = none ∧ z = d.1) ∨ ∃ k, x.isSome = true ∧ v = some (.int k z) := by
  cases x with
  | none => cases v with
    | none => simp [boundA] at h; exact .inl ⟨rfl, rfl, by rw [h]⟩
    | some => exact hv.elim
  | some a => cases v with
    | none => exact hv.elim
    | some v => obtain ⟨k, rfl⟩ := intOf_rep h hv; exact .inr ⟨k, rfl, rfl⟩
theorem run_sliceBound {k : IntKind} {z : Int} {y : Nat} {code : BoundsCode} (h0 : 0 ≤ z) (h1 : z ≤ (y : Int)) (w : World) : (Instr.sliceBound (.int k z) y code).run P w = .ok z.toNat w := by
  simp [Instr.sliceBound, asIntOf, h0, h1]
/-- Bounds in order. -/
theorem run_bounds {isS : Bool} {len cap : Nat} {lo hi mx : Option Value} {l h m : Int}
    (hlo : (lo = none ∧ l = 0) ∨ ∃ k, lo = some (.int k l)) (hhi : (hi = none ∧ h = (len : Int)) ∨ ∃ k, hi = some (.int k h)) (hmx : (mx = none ∧ m = (cap : Int)) ∨ ∃ k, hi.isSome = true ∧ mx = some (.int k m))
    (h0 : 0 ≤ l) (h1 : l ≤ h) (h2 : h ≤ m) (h3 : m ≤ (cap : Int)) (w : World) : (Instr.sliceBounds isS len cap lo hi mx).run P w = .ok (l.toNat, h.toNat, m.toNat) w := by
  have e0 : (0 : Nat) = (0 : Int).toNat := rfl
  rcases hmx with ⟨rfl, rfl⟩ | ⟨km, hs, rfl⟩
  · rcases hhi with ⟨rfl, rfl⟩ | ⟨kh, rfl⟩
    · rcases hlo with ⟨rfl, rfl⟩ | ⟨kl, rfl⟩
      · simp [Instr.sliceBounds]
      · simp [Instr.sliceBounds, run_sliceBound h0 h1]
    · have b1 := fun code => run_sliceBound (P := P) (k := kh) (y := cap) (code := code) (z := h) (by omega) h2 w
      rcases hlo with ⟨rfl, rfl⟩ | ⟨kl, rfl⟩
      · simp [Instr.sliceBounds, b1]
      · have b2 := fun code => run_sliceBound (P := P) (k := kl) (y := h.toNat) (code := code) (z := l) h0 (by omega) w
        simp [Instr.sliceBounds, b1, b2]
  · have b0 := fun code => run_sliceBound (P := P) (k := km) (y := cap) (code := code) (z := m) (by omega) h3 w
    rcases hhi with ⟨rfl, rfl⟩ | ⟨kh, rfl⟩
    · cases hs
    · have b1 := fun code => run_sliceBound (P := P) (k := kh) (y := m.toNat) (code := code) (z := h) (by omega) (by omega) w
      rcases hlo with ⟨rfl, rfl⟩ | ⟨kl, rfl⟩
      · simp [Instr.sliceBounds, b0, b1]
      · have b2 := fun code => run_sliceBound (P := P) (k := kl) (y := h.toNat) (code := code) (z := l) h0 (by omega) w
        simp [Instr.sliceBounds, b0, b1, b2]
theorem exec_slice {t : TypeId} {x : Operand} {lo hi mx : Option Operand} (ho : o.op = .slice t x lo hi mx) {ρ : Operand → Value} {v : Value} {w : World} (h : (Instr.sliceAt t (ρ x) (lo.map ρ) (hi.map ρ) (mx.map ρ)).run P w = .ok v w) : (execOp ρ o).run P w = .ok (.value v) w := by
  unfold execOp
  rw [ho]
  simp [h]
theorem opt_rep {act : Act} {x : Option Operand} (h : ∀ y, x = some y → Rep E (st.val y) (act.eval y)) : OptR E (x.map st.val) (x.map act.eval) := by
  cases x with
  | none => trivial
  | some y => exact h y rfl
theorem slice_ok {t : TypeId} {x : Operand} {lo hi mx : Option Operand} (ho : o.op = .slice t x lo hi mx) (hmh : mx.isSome = true → hi.isSome = true) (h : (sliceA P t (st.val x) (lo.map st.val) (hi.map st.val) (mx.map st.val) st).hit (a, st')) : OpOk P o st a st' := by
  have hd : NoDefer o := nd_of ho (by simp)
  have hmx : x ∈ o.op.operands := by rw [ho]; simp [Op.operands]
  have hml : ∀ y, lo = some y → y ∈ o.op.operands := fun y e => by rw [ho]; simp [Op.operands, e]
  have hmh' : ∀ y, hi = some y → y ∈ o.op.operands := fun y e => by rw [ho]; simp [Op.operands, e]
  have hmm : ∀ y, mx = some y → y ∈ o.op.operands := fun y e => by rw [ho]; simp [Op.operands, e]
  have none_of : ∀ {y : Option Operand} {act : Act}, y.map st.val = none → y.map act.eval = none := fun {y} {act} h => by cases y <;> first | rfl | cases h
  unfold sliceA at h
  split at h
  · rename_i hu
    have str : ∀ (s : ByteArray) (ax : AV) (l hh : Int) (ll hl : Bool), st.val x = ax → (ax = .lit (.string s) ∨ ax = .v (.string s)) → mx.map st.val = none → ∀ db, boundA (0, true) (lo.map st.val) = some (l, ll) → boundA ((s.size : Int), db) (hi.map st.val) = some (hh, hl) → 0 ≤ l → l ≤ hh → hh ≤ (s.size : Int) →
        ∀ r, (∀ E, Rep E r (.string (s.extract l.toNat hh.toNat))) → OpOk P o st r st := by
      intro s ax l hh ll hl hv hax hm db h1 h2 g0 g1 g2 r hr
      refine quiet_of hd fun E act hx => ⟨.string (s.extract l.toNat hh.toNat), fun w => exec_slice ho ?_, hr E⟩
      have he := rep_str hax (hv ▸ hx x hmx)
      have b1 := bound_lo h1 (opt_rep (E := E) (act := act) fun y e => hx y (hml y e))
      have b2 := bound_lo h2 (opt_rep (E := E) (act := act) fun y e => hx y (hmh' y e))
      have hb := run_bounds (P := P) (isS := false) (len := s.size) (cap := s.size) (lo := lo.map act.eval) (hi := hi.map act.eval) (mx := none) (l := l) (h := hh) (m := s.size)
        (by rcases b1 with ⟨_, e, e'⟩ | ⟨k, _, e⟩; exact .inl ⟨e, e'⟩; exact .inr ⟨k, e⟩) (by rcases b2 with ⟨_, e, e'⟩ | ⟨k, _, e⟩; exact .inl ⟨e, e'⟩; exact .inr ⟨k, e⟩) (.inl ⟨rfl, rfl⟩) g0 g1 g2 (by omega) w
      rw [he, none_of hm]
      simp [Instr.sliceAt, Instr.slice, run_underlying hu, hb]
    split at h
    · rename_i s hv hm
      split at h
      · rename_i l ll hh hl h1 h2
        obtain ⟨⟨g0, g1, g2⟩, h⟩ := h
        cases h
        exact str s _ l hh ll hl hv (.inl rfl) hm _ h1 h2 g0 g1 g2 _ (fun E => by cases ll <;> cases hl <;> first | exact .lit _ rfl | exact .v _ rfl)
      · exact h.elim
    · rename_i s hv hm
      split at h
      · rename_i l ll hh hl h1 h2
        obtain ⟨⟨g0, g1, g2⟩, h⟩ := h
        cases h
        exact str s _ l hh ll hl hv (.inr rfl) hm _ h1 h2 g0 g1 g2 _ (fun E => .v _ rfl)
      · exact h.elim
    · exact h.elim
  · rename_i elem hu
    split at h
    · rename_i n k get nl full hv
      split at h
      · rename_i l ll hh hl m lm h1 h2 h3 hk
        obtain ⟨⟨g0, g1, g2, g3⟩, h⟩ := h
        cases h
        split at hk
        · rename_i k' hs
          obtain rfl := Nat.eq_of_beq_eq_true hk
          refine quiet_of hd fun E act hx => ?_
          have hx0 := hx x hmx
          rw [hv] at hx0
          have b1 := bound_lo h1 (opt_rep (E := E) (act := act) fun y e => hx y (hml y e))
          have b2 := bound_lo h2 (opt_rep (E := E) (act := act) fun y e => hx y (hmh' y e))
          have b3 := bound_lo h3 (opt_rep (E := E) (act := act) fun y e => hx y (hmm y e))
          -- what is beyond
          obtain ⟨M, hM⟩ : ∃ M : Nat → Int, ∀ cap, (mx = none → M cap = (cap : Int)) ∧ (mx.isSome = true → M cap = m) := by
            cases mx with
            | none => exact ⟨fun cap => cap, fun cap => ⟨fun _ => rfl, fun h => by cases h⟩⟩
            | some y => exact ⟨fun _ => m, fun cap => ⟨fun h => (by cases h), fun _ => rfl⟩⟩
          have bounds : ∀ (cap : Nat) (w : World), n ≤ cap → (Instr.sliceBounds true n cap (lo.map act.eval) (hi.map act.eval) (mx.map act.eval)).run P w = .ok (l.toNat, hh.toNat, (M cap).toNat) w := by
            intro cap w hcap
            refine run_bounds (P := P) ?_ ?_ ?_ g0 g1 ?_ ?_ w
            · rcases b1 with ⟨_, e, e'⟩ | ⟨k, _, e⟩
              · exact .inl ⟨e, e'⟩
              · exact .inr ⟨k, e⟩
            · rcases b2 with ⟨_, e, e'⟩ | ⟨k, _, e⟩
              · exact .inl ⟨e, e'⟩
              · exact .inr ⟨k, e⟩
            · rcases b3 with ⟨e0, e, _⟩ | ⟨k, e1, e⟩
              · refine .inl ⟨e, (hM cap).1 ?_⟩
                cases mx with
                | none => rfl
                | some => cases e0
              · have hs' : mx.isSome = true := by cases mx <;> simp_all
                refine .inr ⟨k, ?_, by rw [e, (hM cap).2 hs']⟩
                have := hmh hs'
                cases hi <;> simp_all
            · cases hmc : mx with
              | none => rw [(hM cap).1 hmc]; omega
              | some y => rw [(hM cap).2 (by rw [hmc]; rfl), g3 (by rw [hmc]; rfl)]; omega
            · cases hmc : mx with
              | none => rw [(hM cap).1 hmc]; omega
              | some y => rw [(hM cap).2 (by rw [hmc]; rfl), g3 (by rw [hmc]; rfl)]; omega
          have hadd : ∀ b off n : Nat, (⟨b, off, none⟩ : Addr).add n = ⟨b, off + n, none⟩ := fun b off n => by unfold Addr.add; split <;> simp_all
          generalize he : act.eval x = u at hx0
          cases hx0 with
          | slNil hn =>
            subst hn
            refine ⟨.slice none 0 0, fun w => exec_slice ho ?_, .slNil (by omega)⟩
            have hb := bounds 0 w (Nat.le_refl _)
            have e1 : l.toNat = 0 := by omega
            have e2 : hh.toNat = 0 := by omega
            have e3 : (M 0).toNat = 0 := by
              cases hmc : mx with
              | none => rw [(hM 0).1 hmc]; rfl
              | some y => rw [(hM 0).2 (by rw [hmc]; rfl), g3 (by rw [hmc]; rfl)]; omega
            rw [e1, e2, e3] at hb
            rw [he]
            simp [Instr.sliceAt, Instr.slice, run_underlying hu, hb, run_size hs]
          | @slEmp _ _ cap ad _ _ _ hn hfull =>
            subst hn
            have hb := fun w => bounds cap w (Nat.zero_le _)
            have e1 : l.toNat = 0 := by omega
            have e2 : hh.toNat = 0 := by omega
            have hrun : ∀ w, (execOp act.eval o).run P w = .ok (.value (.slice (if (M cap).toNat = l.toNat then some ad else some (ad.add (l.toNat * k))) (hh.toNat - l.toNat) ((M cap).toNat - l.toNat))) w := fun w => exec_slice ho (by
              rw [he]
              simp only [Instr.sliceAt, Sem.run_bind, run_underlying hu, Result.andThen_ok, Instr.slice, hb w, run_size hs, Sem.run_pure, Option.map_some])
            have hMh : ((mx.map st.val).isSome || (full && (hi.map st.val).isNone)) = true → (M cap).toNat = 0 := by
              cases hmc : mx with
              | none =>
                rw [(hM cap).1 hmc]
                intro h
                simp only [Option.map_none, Option.isSome_none, Bool.false_or, Bool.and_eq_true] at h
                have h4 := hfull h.1
                omega
              | some y =>
                rw [(hM cap).2 (by rw [hmc]; rfl), g3 (by rw [hmc]; rfl)]
                exact fun _ => e2
            refine ⟨_, hrun, ?_⟩
            by_cases hML : (M cap).toNat = l.toNat
            · rw [if_pos hML]; exact .slEmp (by omega) fun h => by have := hMh h; omega
            · rw [if_neg hML]; exact .slEmp (by omega) fun h => by have := hMh h; omega
          | @sl _ _ b off cap _ _ _ c q1 q2 q3 q4 q5 q6 =>
            have hb := fun w => bounds cap w q4
            have hrun : ∀ w, (execOp act.eval o).run P w = .ok (.value (.slice (if (M cap).toNat = l.toNat then some ⟨b, off, none⟩ else some ⟨b, off + l.toNat * k, none⟩) (hh.toNat - l.toNat) ((M cap).toNat - l.toNat))) w := fun w => exec_slice ho (by
              rw [he]
              simp only [Instr.sliceAt, Sem.run_bind, run_underlying hu, Result.andThen_ok, Instr.slice, hb w, run_size hs, Sem.run_pure, Option.map_some, hadd])
            have hMh : hh ≤ M cap ∧ (((mx.map st.val).isSome || (full && (hi.map st.val).isNone)) = true → M cap = hh) := by
              cases hmc : mx with
              | none =>
                rw [(hM cap).1 hmc]
                refine ⟨by omega, fun h => ?_⟩
                simp only [Option.map_none, Option.isSome_none, Bool.false_or, Bool.and_eq_true] at h
                have h4 := q3 h.1
                have h5 : hi.map st.val = none := by simpa using h.2
                rw [h5] at h2
                simp [boundA] at h2
                omega
              | some y =>
                rw [(hM cap).2 (by rw [hmc]; rfl), g3 (by rw [hmc]; rfl)]
                exact ⟨Int.le_refl _, fun _ => rfl⟩
            have hseg : l.toNat * k + (hh.toNat - l.toNat) * k ≤ n * k := by rw [← Nat.add_mul]; exact Nat.mul_le_mul_right _ (by omega)
            have hi' : ∀ i, i < hh.toNat - l.toNat → Reps E (get (l.toNat + i)) ((c.toList.drop (off + l.toNat * k + i * k)).take k) := fun i hi => by
              have := q5 (l.toNat + i) (by omega)
              rwa [Nat.add_mul, ← Nat.add_assoc] at this
            by_cases hML : (M cap).toNat = l.toNat
            · refine ⟨_, hrun, ?_⟩
              rw [if_pos hML]
              have hz : hh.toNat - l.toNat = 0 := by omega
              exact .sl q1 (by rw [hz]; omega) (fun h => by have := hMh.2 h; omega) (by omega) (fun i hi => absurd hi (by omega)) (by rw [hz, Nat.zero_mul, List.take_zero]; exact fun v hv => by cases hv)
            · refine ⟨_, hrun, ?_⟩
              rw [if_neg hML]
              exact .sl q1 (by omega) (fun h => by have := hMh.2 h; omega) (by omega) hi' (by rw [← toList_seg hseg]; exact (q6.drop _).take _)
        · cases hk
      · exact h.elim
    · exact h.elim
  · rename_i n elem hu
    split at h
    · rename_i y off k hv hm hs
      split at h
      · rename_i l hh h1 h2
        split at h
        · rename_i hb
          simp only [Bool.and_eq_true, decide_eq_true_eq] at hb
          obtain ⟨rfl, rfl⟩ := hb
          cases h
          refine quiet_of hd fun E act hx => ?_
          obtain ⟨hdm, he⟩ := rep_ptr (hv ▸ hx x hmx)
          have b1 := bound_lo h1 (opt_rep (E := E) (act := act) fun y e => hx y (hml y e))
          have b2 := bound_lo h2 (opt_rep (E := E) (act := act) fun y e => hx y (hmh' y e))
          refine ⟨.slice (some ⟨E.ρ y, off, none⟩) n n, fun w => exec_slice ho ?_, .slv hdm⟩
          have hb := run_bounds (P := P) (isS := false) (len := n) (cap := n) (lo := lo.map act.eval) (hi := hi.map act.eval) (mx := none) (l := 0) (h := (n : Int)) (m := n)
            (by rcases b1 with ⟨_, e, e'⟩ | ⟨k, _, e⟩; exact .inl ⟨e, e'⟩; exact .inr ⟨k, e⟩) (by rcases b2 with ⟨_, e, e'⟩ | ⟨k, _, e⟩; exact .inl ⟨e, e'⟩; exact .inr ⟨k, e⟩) (.inl ⟨rfl, rfl⟩) (by omega) (by omega) (by omega) (by omega) w
          rw [he, none_of hm]
          have hadd : (if n = 0 then (⟨E.ρ y, off, none⟩ : Addr) else (⟨E.ρ y, off, none⟩ : Addr).add (0 * k)) = ⟨E.ρ y, off, none⟩ := by
            rw [Nat.zero_mul]; exact ite_self _
          simp only [Instr.sliceAt, Sem.run_bind, run_underlying hu, Result.andThen_ok, hb, Instr.sureAddr, run_size hs, Sem.run_pure, Int.toNat_natCast, Int.toNat_zero, Nat.sub_zero]
          rw [hadd]
        · exact h.elim
      · exact h.elim
    · exact h.elim
  · exact h.elim
end
end Go.Proofs.YtdlghljhgbakjaaDoor
