/-
  PART: any operation: what the evaluator says of it is so, if what it says of calls is.
-/
import Derived.Test.YtdlghljhgbakjaaDoorENF
import Derived.RangeFuncCalls
namespace Go.Proofs.YtdlghljhgbakjaaDoor
open Go.RowKit

/-- What the evaluator says of a call is so. -/
structure CallOk (P : Program) (f : Nat) (args : List AV) (st : St) (a : AV) (st' : St) : Prop where
  grew : Grew st st'
  sl : st'.sl = st.sl
  run : ∀ (r : Option Nat) (FP : Nat → Prop) (E : Env) (w : World) (vals : Array Value) (K : Value → World → Prop), Wf st → Cov FP st st' → Free E st.nx st'.nx → Sim FP E (hget st.hp) w → Reps E args vals.toList →
    (∀ E' v w', Rep E' a v → Pst FP E E' (hget st.hp) (hget st'.hp) st.nx st'.nx st'.wr w w' → K v w') →
    (∃ v, (callFunc f vals).run P w = .ok (.value v) w ∧ K v w) ∨ ((callFunc f vals).run P w = .ok (.enter f vals) w ∧ CallsIn (wideR r) 0 P f vals w fun e w' => ∃ v, e = .returned v ∧ K v w')
def CallsOk (P : Program) (r : Evs) : Prop := ∀ f args st a st', (r.call f args st).hit (a, st') → CallOk P f args st a st'
section
variable {P : Program} {o : Oper} {st st' : St} {a : AV}
theorem call_ok {r : Evs} (hr : CallsOk P r) {c : Call} {fo : Operand} (ho : o.op = .call c) (hc : c.callee = .value fo) {cx : Cx} (h : (callA cx r (st.val fo) (c.args.toList.map st.val) st).hit (a, st')) : OpOk P o st a st' := by
  unfold callA at h
  split at h
  · rename_i g first cap hv
    have hok := hr _ _ _ _ _ h
    refine ⟨hok.grew, hok.sl, fun r FP E act w K Q hwf hcov hfree hS hx hk => ?_⟩
    have hf := hx fo (by rw [ho]; simp [Op.operands, Call.operands, hc])
    rw [hv] at hf
    obtain ⟨fv, cv, he, hf1, hf2⟩ : ∃ fv cv : Array Value, act.eval fo = .func (.func g) fv cv ∧ Reps E first fv.toList ∧ Reps E cap cv.toList := by
      generalize act.eval fo = u at hf
      cases hf; exact ⟨_, _, rfl, ‹_›, ‹_›⟩
    have hargs := args_rep ho hx
    have hall : Reps E (first ++ c.args.toList.map st.val ++ cap) (fv ++ c.args.map act.eval ++ cv).toList := by
      rw [Array.toList_append, Array.toList_append]
      exact (hf1.app hargs).app hf2
    have hex : execOp act.eval o = callFunc g (fv ++ c.args.map act.eval ++ cv) := by
      unfold execOp
      rw [ho]
      simp only [resolve, hc, he, Deferred.ofValue]
      rfl
    rcases hok.run r FP E w (fv ++ c.args.map act.eval ++ cv) (fun v w' => K (act.put o.dst v) w') hwf hcov hfree hS hall hk with ⟨v, h1, h2⟩ | ⟨h1, h2⟩
    · exact op_value (nd_call ho) (by rw [hex]; exact h1) h2
    · refine ⟨fun _ _ => trivial, ?_⟩
      rw [Oper.semAt_eq _ _ _ (nd_call ho), hex, h1, Oper.uponIn_enter]
      refine ⟨fun h => by simp [wideR, Fence.wide] at h, h2.mono ?_⟩
      rintro e w' ⟨v, rfl, hK⟩
      exact hK
  · exact h.elim
theorem builtin_ok {c : Call} {b : Builtin} (ho : o.op = .call c) (hc : c.callee = .builtin b) (h : (builtinA P b c.argTypes o.type (c.args.toList.map st.val) st).hit (a, st')) : OpOk P o st a st' := by
  unfold builtinA at h
  split at h
  · rename_i x hl; exact len_ok ho hc hl h
  · rename_i s x hl
    split at h
    · rename_i sT h0 h1
      refine append_ok ho hc hl h0 ?_ h
      split at h1
      · rename_i xT hxT
        split at h1
        · rename_i e hu; exact ⟨xT, hxT, .inl ⟨e, hu⟩⟩
        · rename_i hu; exact ⟨xT, hxT, .inr hu⟩
        · cases h1
      · cases h1
    · exact h.elim
  · exact scalB_ok ho hc (fun _ _ => rfl) h
  · exact scalB_ok ho hc (fun _ _ => rfl) h
  · exact scalB_ok ho hc (fun _ _ => rfl) h
  · exact scalB_ok ho hc (fun _ _ => rfl) h
  · exact scalB_ok ho hc (fun _ _ => rfl) h
  · exact h.elim
theorem op_sound {cx : Cx} {r : Evs} (hr : CallsOk cx.P r) (h : (evalOp cx r o st).hit (a, st')) : OpOk cx.P o st a st' := by
  unfold evalOp at h
  split at h
  · rename_i x ho; cases h; exact move_ok (.inl ho)
  · rename_i x ho; cases h; exact move_ok (.inr ho)
  · rename_i c x y ho
    split at h
    · rename_i e hc
      cases e with
      | true => cases h; exact pick_ok (e := true) ho ⟨_, hc⟩ (fun E v h => by simpa using h)
      | false => cases h; exact pick_ok (e := false) ho ⟨_, hc⟩ (fun E v h => by simpa using h)
    · rename_i e hc
      obtain ⟨hm, rfl⟩ := hit_pureA h
      exact pick_ok ho ⟨_, hc⟩ (fun E v h => muxD_ok e E _ _ _ v hm h)
    · exact h.elim
  · rename_i t ho
    split at h
    · rename_i cs hz; cases h; exact alloc_ok ho hz
    · exact h.elim
  · rename_i t x ho
    split at h
    · rename_i hb; cases h; exact box_ok ho hb
    · exact h.elim
  · rename_i t parts ho; exact build_ok ho h
  · rename_i t len parts ho; exact buildSlice_ok ho h
  · rename_i t x ho; exact load_ok ho h
  · rename_i t x y ho; exact store_ok ho h
  · rename_i x ho
    split at h
    · rename_i y off hv; cases h; rw [← hv]
      exact nilCheck_ok ho ⟨fun v => ∃ ad, v = .pointer (some ad), fun E v hR => by rw [hv] at hR; exact ⟨_, (rep_ptr hR).2⟩, fun v h => .inl h⟩
    · rename_i cs off hv; cases h; rw [← hv]
      exact nilCheck_ok ho ⟨fun v => ∃ ad, v = .pointer (some ad), fun E v hR => by rw [hv] at hR; obtain ⟨_, _, _, _, _, _, _, e⟩ := rep_fz hR; exact ⟨_, e⟩, fun v h => .inl h⟩
    · rename_i y i k off il hv; cases h; rw [← hv]
      exact nilCheck_ok ho ⟨fun v => ∃ ad, v = .pointer (some ad), fun E v hR => by rw [hv] at hR; exact ⟨_, (rep_pe hR).2⟩, fun v h => .inl h⟩
    · rename_i y b i s n off hv; cases h; rw [← hv]
      exact nilCheck_ok ho ⟨fun v => ∃ ad, v = .pointer (some ad), fun E v hR => by rw [hv] at hR; exact ⟨_, (rep_pti hR).2.2.2⟩, fun v h => .inl h⟩
    · rename_i g b c hv; cases h; rw [← hv]
      exact nilCheck_ok ho ⟨fun v => ∃ f a c, v = .func (.func f) a c, fun E v hR => by rw [hv] at hR; cases hR; exact ⟨_, _, _, rfl⟩, fun v h => .inr h⟩
    · exact h.elim
  · rename_i op t x y u ho; exact bin_ok ho h
  · rename_i op t x ho; exact un1_ok (nd_of ho (by simp)) (by rw [ho]; exact mem1) (fun ρ => by unfold execOp; rw [ho]) h
  · rename_i src dst x ho; exact conv_ok ho (nd_of ho (by simp)) h
  · rename_i t x ho; exact un1_ok (nd_of ho (by simp)) (by rw [ho]; exact mem1) (fun ρ => by unfold execOp; rw [ho]) h
  · rename_i f first cap ho; cases h; exact makeFunc_ok ho
  · rename_i t l c ho; exact makeSlice_ok ho h
  · rename_i t x lo hi mx ho
    split at h
    · rename_i hmh
      refine slice_ok ho (fun hq => ?_) h
      cases hi with
      | none => rw [hq] at hmh; cases hmh
      | some => rfl
    · exact h.elim
  · rename_i s x f ho; exact fieldAddr_ok ho h
  · rename_i s x f ho; exact field_ok ho h
  · rename_i t x i ho; exact indexAddr_ok ho h
  · rename_i t x i ho; exact index_ok ho h
  · rename_i t i ho
    split at h
    · rename_i l hv; exact extract_ok ho hv h
    · exact h.elim
  · rename_i c ho
    split at h
    · rename_i b hc; exact builtin_ok ho hc h
    · rename_i f hc; exact call_ok hr ho hc h
    · exact h.elim
  · exact h.elim
end
end Go.Proofs.YtdlghljhgbakjaaDoor
